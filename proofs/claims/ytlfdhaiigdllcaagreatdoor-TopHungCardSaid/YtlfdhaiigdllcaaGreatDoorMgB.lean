/- A symbolic executor: operations that touch no memory, loads, stores, new variables, addresses. A symbolic executor: new variables, stores, elements of slices, slices that are written out, divisions, equality of structs. A symbolic executor: slices that are written out, contracts, calls. A symbolic executor: slices that are written out become data; contracts; calls. -/
import Derived.Laws.CopyRow
import Derived.Laws.StructEq
import Derived.Test.YtlfdhaiigdllcaaGreatDoorMgA

namespace Go.Proofs.YtlfdhaiigdllcaaGreatDoor
namespace Dn
open Go.RowKit
def inB (i:Int) (n:Nat):Bool:=decide (0<=i)&&decide (i<n)
def nzB (n:Int):Bool:=!decide (n=0)
def fitB (n k:Nat):Bool:=Nat.ble (n*k) 140737488355328
theorem inB_iff {i:Int} {n:Nat}:inB i n=true↔0<=i/\i<n:=by simp[inB]
theorem nzB_iff {n:Int}:nzB n=true↔n≠0:=by simp[nzB]
theorem fitB_iff {n k:Nat}:fitB n k=true↔n*k<=140737488355328:=by simp[fitB]
def pureS {α:Type} (P:Program):Sem α->Option α
 | .pure a=>some a
 | .program k=>pureS P (k P)
 | .mark _ k=>pureS P k
 | _=>none
theorem pureS_run {α:Type} {P:Program}:∀{s:Sem α} {a:α},pureS P s=some a->∀w,s.run P w=.ok a w
 | .pure _,_,h,w=>by injection h with h;subst h;rfl
 | .program k,_,h,w=>pureS_run (s:=k P) h w
 | .mark _ k,_,h,w=>pureS_run (s:=k) h w
 | .load ..,_,h,_=>by cases h
 | .store ..,_,h,_=>by cases h
 | .new ..,_,h,_=>by cases h
 | .shape ..,_,h,_=>by cases h
 | .freeze ..,_,h,_=>by cases h
 | .frozen ..,_,h,_=>by cases h
 | .getObj ..,_,h,_=>by cases h
 | .setObj ..,_,h,_=>by cases h
 | .choose ..,_,h,_=>by cases h
 | .sys ..,_,h,_=>by cases h
 | .halt ..,_,h,_=>by cases h
def atV:At->Option Value
 | .v x=>some x
 | _=>none
def atsV:List At->Option (List Value)
 | []=>some []
 | a ::l=>match atV a,atsV l with
  | some x,some r=>some (x ::r)
  | _,_=>none
def tupV:List (Bool×List At)->Option (List Value)
 | []=>some []
 | c ::l=>match atsV c.2,tupV l with
  | some x,some r=>some (mkV c.1 x ::r)
  | _,_=>none
def SV.toV:SV->Option Value
 | .c ag l=>match atsV l with
  | some x=>some (mkV ag x)
  | none=>none
 | .tup l=>match tupV l with
  | some x=>some (.tuple x.toArray)
  | none=>none
section
variable {E:Env}
theorem atV_rel {a:At} {x v:Value} (h:atV a=some x) (hv:RelA E a v):v=x:=by
 cases a<;>simp only[atV] at h<;>first | (cases h;exact hv) | cases h
theorem atsV_rel:∀{l:List At} {xs vs:List Value},atsV l=some xs->RelL E l vs->vs=xs
 | [],_,[],h,_=>by simp only[atsV] at h;cases h;rfl
 | a ::l,xs,v ::vs,h,hv=>by
  simp only[atsV] at h
  split at h
  ·rename_i x r hx hr
   injection h with h;subst h
   rw[atV_rel hx hv.1,atsV_rel hr hv.2]
  ·cases h
 | [],_,_ ::_,_,hv=>hv.elim
 | _ ::_,_,[],_,hv=>hv.elim
theorem tupV_rel:∀{l:List (Bool×List At)} {xs vs:List Value},tupV l=some xs->RelT E l vs->vs=xs
 | [],_,[],h,_=>by simp only[tupV] at h;cases h;rfl
 | c ::l,xs,v ::vs,h,hv=>by
  simp only[tupV] at h
  split at h
  ·rename_i x r hx hr
   injection h with h;subst h
   obtain ⟨cs,rfl,h2,_⟩:=hv.1
   rw[tupV_rel hr hv.2,atsV_rel hx h2]
  ·cases h
 | [],_,_ ::_,_,hv=>hv.elim
 | _ ::_,_,[],_,hv=>hv.elim
theorem toV_rel {s:SV} {x v:Value} (h:s.toV=some x) (hv:RelV E s v):v=x:=by
 cases s with
 | c ag l =>
  simp only[SV.toV] at h
  split at h
  ·rename_i y hy
   injection h with h;subst h
   obtain ⟨cs,rfl,h2,_⟩:=hv
   rw[atsV_rel hy h2]
  ·cases h
 | tup l =>
  simp only[SV.toV] at h
  split at h
  ·rename_i y hy
   injection h with h;subst h
   obtain ⟨vs,rfl,h2⟩:=hv
   rw[tupV_rel hy h2]
  ·cases h
def compV (v:Value):Bool×List At:=match v with
 | .agg cs=>(true,cs.toList.map .v)
 | v=>(false,[.v v])
def ofV (v:Value):SV:=match v with
 | .tuple vs=>.tup (vs.toList.map compV)
 | .agg cs=>.c true (cs.toList.map .v)
 | v=>.c false [.v v]
theorem relL_v:∀(cs:List Value),RelL E (cs.map .v) cs
 | []=>trivial
 | _ ::r=>⟨rfl,relL_v r⟩
theorem compV_rel (v:Value):RelC E (compV v).1 (compV v).2 v:=by
 cases v<;>simp only[compV]<;>first
  | exact ⟨[_],rfl,⟨rfl,trivial⟩,fun _=>rfl⟩
  | (rename_i cs;exact ⟨cs.toList,by simp[mkV],relL_v _,fun h=>by cases h⟩)
theorem relT_v:∀(vs:List Value),RelT E (vs.map compV) vs
 | []=>trivial
 | v ::r=>⟨compV_rel v,relT_v r⟩
theorem ofV_rel (v:Value):RelV E (ofV v) v:=by
 cases v<;>simp only[ofV]<;>first
  | exact ⟨[_],rfl,⟨rfl,trivial⟩,fun _=>rfl⟩
  | (rename_i cs;exact ⟨cs.toList,by simp[mkV],relL_v _,fun h=>by cases h⟩)
  | (rename_i vs;exact ⟨vs.toList,by simp,relT_v _⟩)
end
inductive Eff where
 | none
 | alloc (b:Nat) (l:List At)
 | store (b:Nat) (l:List At)
 | row (k:Nat) (r:RowI) (old:Option Nat)
 | rset (k:Nat) (e:Sh) (l:List e.T)
 | xset (k:Nat) (x:XI) (u:List Nat)
 | rkill (l:List Nat)
def setL (e:Sh) (l:List e.T):Option RowS->Option RowS
 | some (.some ri)=>match Sh.eq? e ri.e with
  | some ⟨h⟩=>some (.some ⟨ri.t,ri.e,ri.n,h ▸ l⟩)
  | none=>some (.some ri)
 | x=>x
def Look.app (g:Look):Eff->Look
 | .none=>g
 | .alloc b l=>g.setH b l
 | .store b l=>g.setH b l
 | .row k r (some o)=>(g.setR o .none).setR k (.some r)
 | .row k r none=>g.setR k (.some r)
 | .rset k e l=>{ g with r:=fun i=>if i=k then setL e l (g.r k) else g.r i }
 | .rkill l=>{ g with r:=fun i=>if i ∈ l then some .none else g.r i }
 | .xset k x u=>{ g with r:=fun i=>if i=k then some (.x x) else if i ∈ u then some .none else g.r i }
structure Core where
 sv:SV
 eff:Eff
 p:List Bool
inductive Cor where
 | one (r:Core)
 | call (T:Type) (d:T) (m:Option T) (sv:T->SV) (eff:T->Eff) (pu:Bool)
 | inl (id:FuncId) (args:List SV)
def Same (E E':Env):Prop:=(E'.P,E'.w0,E'.Z0)=(E.P,E.w0,E.Z0)
theorem Same.P {E E':Env} (h:Same E E'):E'.P=E.P:=by unfold Same at h;injection h
theorem Same.w0 {E E':Env} (h:Same E E'):E'.w0=E.w0:=by unfold Same at h;injection h with _ h;injection h
theorem Same.Z0 {E E':Env} (h:Same E E'):E'.Z0=E.Z0:=by unfold Same at h;injection h with _ h;injection h
theorem Same.trans {E E' E'':Env} (h:Same E E') (h':Same E' E''):Same E E'':=Eq.trans h' h
def CoreOk (P:Program) (N:Nat) (g:Look) (E:Env) (a:Act) (o:Oper) (r:Core):Prop :=
 ∀(K:Act->World->Prop) (Q:Exit->Act->World->Prop),(∀E' v',Same E E'->Keep E E'->Mod N E' a (g.app r.eff)->RelV E' r.sv v'->K (a.put o.dst v') E'.w)->o.wp P a E.w K Q
def RelVs (E:Env):List SV->List Value->Prop
 | [],[]=>True
 | s ::l,v ::r=>RelV E s v/\RelVs E l r
 | _,_=>False
def CorOk (P:Program) (N:Nat) (g:Look) (E:Env) (a:Act) (o:Oper):Cor->Prop
 | .one r=>allB r.p=true->CoreOk P N g E a o r
 | .call _ _ m sv eff pu=>(pu=true->∀t,eff t=.none)/\∀t,m=some t->CoreOk P N g E a o ⟨sv t,eff t,[]⟩
 | .inl id args=>∃vs,(execOp a.eval o).run P E.w=.ok (.enter id vs) E.w/\RelVs E args vs.toList
section
variable {P:Program} {N:Nat} {g:Look} {E:Env} {a:Act} {o:Oper}
def Gets (E:Env) (a:Act) (get:Operand->Option SV) (o:Oper):Prop:=∀x s,x ∈ o.op.operands->get x=some s->RelV E s (a.eval x)
theorem CoreOk.value {r:Core} {E':Env} {v:Value} (hrun:(execOp a.eval o).run P E.w=.ok (.value v) E'.w) (h0:Same E E') (hk:Keep E E') (hm:Mod N E' a (g.app r.eff)) (hv:RelV E' r.sv v):CoreOk P N g E a o r:=by
 intro K Q hK
 unfold Oper.wp
 rw[hrun]
 exact hK E' v h0 hk hm hv
theorem CoreOk.skip {r:Core} {E':Env} (hrun:(execOp a.eval o).run P E.w=.ok .skip E'.w) (h0:Same E E') (hk:Keep E E') (hm:Mod N E' a (g.app r.eff)) (hv:RelV E' r.sv undef):CoreOk P N g E a o r:=by
 intro K Q hK
 unfold Oper.wp
 rw[hrun]
 exact hK E' undef h0 hk hm hv
def noSel (o:Oper):Bool:=match o.op with
 | .select ..=>false
 | _=>true
def getV (get:Operand->Option SV) (x:Operand):Option Value:=match get x with
 | some s=>s.toV
 | none=>none
def pureC (P:Program) (get:Operand->Option SV) (o:Oper):Option Core :=
 match noSel o&&o.op.operands.toList.all fun x=>(getV get x).isSome with
 | true=>match pureS P (execOp (fun x=>(getV get x).getD undef) o) with
  | some (.value v)=>some ⟨ofV v,.none,[]⟩
  | _=>none
 | false=>none
theorem getV_eval {get:Operand->Option SV} (hg:Gets E a get o) {x:Operand} (hx:x ∈ o.op.operands) {v:Value} (h:getV get x=some v):a.eval x=v:=by
 unfold getV at h
 split at h
 ·rename_i s hs
  exact toV_rel h (hg x s hx hs)
 ·cases h
theorem pureC_ok {get:Operand->Option SV} {r:Core} (h:pureC P get o=some r) (hg:Gets E a get o) (hm:Mod N E a g):CoreOk P N g E a o r:=by
 unfold pureC at h
 split at h
 ·rename_i hall
  simp only[Bool.and_eq_true,List.all_eq_true,Array.mem_toList_iff] at hall
  obtain ⟨hsel,hall⟩:=hall
  split at h
  ·rename_i v hv
   injection h with h;subst h
   have hs:∀cs b,o.op≠.select cs b:=fun cs b he=>by simp[noSel,he] at hsel
   have he:execOp a.eval o=execOp (fun x=>(getV get x).getD undef) o:=execOp_congr o hs fun x hx=>by
    have h1:=hall x hx
    cases h2:getV get x with
    | none=>rw[h2] at h1;cases h1
    | some y=>rw[getV_eval hg hx h2];rfl
   exact CoreOk.value (E':=E) (by rw[he];exact pureS_run hv E.w) rfl (Keep.refl E) hm (ofV_rel v)
  ·cases h
 ·cases h
theorem moveC_ok {x:Operand} {s:SV} (ho:o.op=.move x\/o.op=.assign x) (h:RelV E s (a.eval x)) (hm:Mod N E a g):CoreOk P N g E a o ⟨s,.none,[]⟩:=by
 refine CoreOk.value (E':=E) (v:=a.eval x) ?_ rfl (Keep.refl E) hm h
 rcases ho with ho | ho<;>simp[execOp,ho]
theorem RelT.get:∀{l:List (Bool×List At)} {vs:List Value} {i:Nat} {c:Bool×List At},RelT E l vs->l[i]?=some c->∃v,vs[i]?=some v/\RelC E c.1 c.2 v
 | [],[],i,c,_,h=>by simp at h
 | d ::l,v ::vs,0,c,h,hi=>by
  simp only[List.getElem?_cons_zero,Option.some.injEq] at hi
  subst hi
  exact ⟨v,rfl,h.1⟩
 | d ::l,v ::vs,i+1,c,h,hi=>by
  simp only[List.getElem?_cons_succ] at hi ⊢
  exact RelT.get h.2 hi
 | [],_ ::_,_,_,h,_=>h.elim
 | _ ::_,[],_,_,h,_=>h.elim
theorem extractC_ok {x:Operand} {ix:Nat} {l:List (Bool×List At)} {c:Bool×List At} (ho:o.op=.extract x ix) (h:RelV E (.tup l) (a.eval x)) (hc:l[ix]?=some c) (hm:Mod N E a g) :
  CoreOk P N g E a o ⟨.c c.1 c.2,.none,[]⟩:=by
 obtain ⟨vs,hv,h2⟩:=h
 obtain ⟨v,hi,hr⟩:=RelT.get h2 hc
 refine CoreOk.value (E':=E) (v:=v) ?_ rfl (Keep.refl E) hm hr
 simp[execOp,ho,hv,Instr.extract,hi]
theorem RelL.take:∀{l:List At} {vs:List Value} (n:Nat),RelL E l vs->RelL E (l.take n) (vs.take n)
 | [],[],n,_=>by simp[RelL]
 | _ ::_,_ ::_,0,_=>trivial
 | _ ::_,_ ::_,n+1,h=>⟨h.1,RelL.take n h.2⟩
 | [],_ ::_,_,h=>h.elim
 | _ ::_,[],_,h=>h.elim
theorem RelL.drop:∀{l:List At} {vs:List Value} (n:Nat),RelL E l vs->RelL E (l.drop n) (vs.drop n)
 | [],[],n,_=>by simp[RelL]
 | _ ::_,_ ::_,0,h=>h
 | _ ::_,_ ::_,n+1,h=>RelL.drop n h.2
 | [],_ ::_,_,h=>h.elim
 | _ ::_,[],_,h=>h.elim
theorem RelL.append:∀{l l':List At} {vs vs':List Value},RelL E l vs->RelL E l' vs'->RelL E (l++l') (vs++vs')
 | [],_,[],_,_,h=>h
 | _ ::_,_,_ ::_,_,h,h'=>⟨h.1,RelL.append h.2 h'⟩
 | [],_,_ ::_,_,h,_=>h.elim
 | _ ::_,_,[],_,h,_=>h.elim
def Sh.cells:(s:Sh)->s.T->List At
 | .int k,n=>[.v (.int k n)]
 | .bool,b=>[.v (.bool b)]
 | .str,s=>[.v (.string s)]
 | .sl e,l=>[.sl e l]
 | .pair a b,x=>a.cells x.1++b.cells x.2
 | .agg e,x=>e.cells x
 | .ref,_=>[.u]
theorem Dat.rel:∀{s:Sh} {x:s.T} {cs:List Value},Dat E.w E.Z s x cs->RelL E (s.cells x) cs
 | .int _,_,_,h=>by simp only[Dat] at h;subst h;exact ⟨rfl,trivial⟩
 | .bool,_,_,h=>by simp only[Dat] at h;subst h;exact ⟨rfl,trivial⟩
 | .str,_,_,h=>by simp only[Dat] at h;subst h;exact ⟨rfl,trivial⟩
 | .sl e,l,cs,h=>by
  have h':=h
  simp only[Dat] at h'
  obtain ⟨A,c,rfl,_⟩:=h'
  exact ⟨h,trivial⟩
 | .pair _ _,_,_,h=>by
  simp only[Dat] at h
  obtain ⟨c1,c2,rfl,h1,h2⟩:=h
  exact RelL.append h1.rel h2.rel
 | .agg e,x,cs,h=>Dat.rel (s:=e) (x:=x) h
def aggT (P:Program) (t:TypeId):Option Bool:=match P.underlying t with
 | some (.struct _)=>some true
 | some (.array _ _)=>some true
 | some _=>some false
 | none=>none
def sizeT (P:Program) (t:TypeId):Option Nat:=match P.info? t with
 | some i=>some i.size
 | none=>none
theorem run_isAgg {t:TypeId} {b:Bool} (h:aggT P t=some b) (w:World):(isAgg t).run P w=.ok b w:=by
 unfold aggT at h
 split at h<;>simp_all [isAgg,run_underlying]
theorem run_sizeOf {t:TypeId} {n:Nat} (h:sizeT P t=some n) (w:World):(Go.sizeOf t).run P w=.ok n w:=by
 unfold sizeT at h
 split at h
 ·rename_i i hi
  injection h with h;subst h
  simp[Go.sizeOf,typeInfo,hi]
 ·cases h
theorem run_loadVar_of {t:TypeId} {ag:Bool} {ad:Addr} {cs:List Value} (ha:aggT P t=some ag) (hz:sizeT P t=some cs.length) (h1:ag=false->cs.length=1) (w:World)
  (hc:∀j v,cs[j]?=some v->w.cell? (ad.add j)=some v):(loadVar t ad).run P w=.ok (mkV ag cs) w:=by
 cases ag with
 | true=>simp[loadVar,run_isAgg ha,run_sizeOf hz,run_loadCells_list w ad cs hc,mkV]
 | false =>
  have h:=h1 rfl
  match cs,h with
  | [c],_ =>
   have h0:=hc 0 c rfl
   simp only[Addr.add,if_true] at h0
   simp[loadVar,run_isAgg ha,mkV,load,Sem.run,h0]
theorem add_add (a:Addr) (i j:Nat):(a.add i).add j=a.add (i+j):=by
 unfold Addr.add
 by_cases hi:i=0<;>by_cases hj:j=0<;>simp[hi,hj,Nat.add_assoc]
theorem add_lit (b o j:Nat):(⟨b,o,none⟩:Addr).add j=⟨b,o+j,none⟩:=by
 unfold Addr.add
 split
 ·rename_i h;subst h;rfl
 ·rfl
def partC (P:Program) (t:TypeId) (l:List At) (off:Nat):Option SV:=match aggT P t,sizeT P t with
 | some ag,some n=>match Nat.ble (off+n) l.length&&(ag||Nat.beq n 1) with
  | true=>some (.c ag ((l.drop off).take n))
  | false=>none
 | _,_=>none
theorem partC_run {t:TypeId} {l:List At} {off:Nat} {s:SV} (h:partC P t l off=some s) {cs:List Value} (hr:RelL E l cs) {ad:Addr} (w:World)
  (hc:∀j v,cs[j]?=some v->w.cell? (ad.add j)=some v):∃v,(loadVar t (ad.add off)).run P w=.ok v w/\RelV E s v:=by
 unfold partC at h
 split at h
 ·rename_i ag n ha hz
  split at h
  ·rename_i hb
   injection h with h;subst h
   simp only[Bool.and_eq_true,Nat.ble_eq,Bool.or_eq_true,Nat.beq_eq] at hb
   have hl:((cs.drop off).take n).length=n:=by
    have:=hr.length
    simp[List.length_take,List.length_drop]
    omega
   have h1:ag=false->((cs.drop off).take n).length=1:=fun h0=>by
    rw[hl]
    rcases hb.2 with h | h
    ·rw[h0] at h;cases h
    ·exact h
   refine ⟨mkV ag ((cs.drop off).take n),run_loadVar_of ha (by rw[hl];exact hz) h1 w (fun j v hv=>?_),⟨_,rfl,(hr.drop off).take n,h1⟩⟩
   rw[add_add]
   refine hc _ v ?_
   rw[List.getElem?_take] at hv
   split at hv
   ·rwa [List.getElem?_drop] at hv
   ·cases hv
  ·cases h
 ·cases h
theorem blk_cells {b:Nat} {l:List At} (h:BlkOk E b l):∃cs,RelL E l cs/\(∀j v,cs[j]?=some v->E.w.cell? ((⟨E.β b,0,none⟩:Addr).add j)=some v):=by
 obtain ⟨_,cs,t,hh,hr,_⟩:=h
 refine ⟨cs,hr,fun j v hv=>?_⟩
 rw[add_lit]
 simp[World.cell?,hh,hv]
theorem loadPtr_ok {t:TypeId} {x:Operand} {b off:Nat} {l:List At} {s:SV} (ho:o.op=.load t x) (hx:RelV E (.c false [.ptr b off]) (a.eval x)) (hb:g.h b=some l) (hs:partC P t l off=some s)
  (hm:Mod N E a g):CoreOk P N g E a o ⟨s,.none,[]⟩:=by
 obtain ⟨cs,hv,hr,_⟩:=hx
 match cs,hr with
 | [y],hr =>
  obtain ⟨⟨hy,_⟩,_⟩:=hr
  obtain ⟨ds,hd,hc⟩:=blk_cells (hm.blks b l hb)
  obtain ⟨v,hrun,hrel⟩:=partC_run hs hd E.w hc
  refine CoreOk.value (E':=E) (v:=v) ?_ rfl (Keep.refl E) hm hrel
  rw[add_lit,Nat.zero_add] at hrun
  simp[execOp,ho,hv,mkV,hy,ptrV,Instr.loadAt,Instr.sureAddr,hrun]
theorem loadRf_ok {t:TypeId} {x:Operand} {sh:Sh} {d:sh.T} {off:Nat} {s:SV} (ho:o.op=.load t x) (hx:RelV E (.c false [.rf sh d off]) (a.eval x)) (hs:partC P t (sh.cells d) off=some s)
  (hm:Mod N E a g):CoreOk P N g E a o ⟨s,.none,[]⟩:=by
 obtain ⟨cs,hv,hr,_⟩:=hx
 match cs,hr with
 | [y],hr =>
  obtain ⟨⟨ad,ds,hy,_,hd,hc⟩,_⟩:=hr
  obtain ⟨v,hrun,hrel⟩:=partC_run hs hd.rel E.w hc
  refine CoreOk.value (E':=E) (v:=v) ?_ rfl (Keep.refl E) hm hrel
  simp[execOp,ho,hv,mkV,hy,Instr.loadAt,Instr.sureAddr,hrun]
def fieldT (P:Program) (t:TypeId) (f:Nat):Option Nat:=match P.underlying t with
 | some (.struct fs)=>match fs[f]? with
  | some x=>match sizeT P x.type with
   | some 0=>none
   | some _=>some x.offset
   | none=>none
  | none=>none
 | _=>none
theorem run_fieldAt {t:TypeId} {f off:Nat} (h:fieldT P t f=some off) (ad:Addr) (w:World):(Instr.fieldAt t (.pointer (some ad)) f).run P w=.ok (.pointer (some (ad.add off))) w:=by
 unfold fieldT at h
 split at h
 ·rename_i fs hu
  split at h
  ·rename_i x hf
   split at h
   ·cases h
   ·rename_i n hn hz
    injection h with h;subst h
    have hz':(Go.sizeOf x.type).run P w=.ok n w:=run_sizeOf hz w
    simp only[Instr.fieldAt,Sem.run_bind,run_underlying hu,Result.andThen_ok,hf,Instr.sureAddr,Sem.run_pure,fieldPlace,hz']
    have hne:n≠0:=fun e=>hn (by rw[e])
    simp[hne]
   ·cases h
  ·cases h
 ·cases h
theorem fieldPtr_ok {t:TypeId} {x:Operand} {f b off d:Nat} (ho:o.op=.fieldAddr t x f) (hx:RelV E (.c false [.ptr b off]) (a.eval x)) (hf:fieldT P t f=some d) (hm:Mod N E a g) :
  CoreOk P N g E a o ⟨.c false [.ptr b (off+d)],.none,[]⟩:=by
 obtain ⟨cs,hv,hr,_⟩:=hx
 match cs,hr with
 | [y],hr =>
  obtain ⟨⟨hy,hl⟩,_⟩:=hr
  refine CoreOk.value (E':=E) (v:=.pointer (some ⟨E.β b,off+d,none⟩)) ?_ rfl (Keep.refl E) hm ⟨[_],rfl,⟨⟨rfl,hl⟩,trivial⟩,fun _=>rfl⟩
  simp[execOp,ho,hv,mkV,hy,ptrV,run_fieldAt hf,add_lit]
theorem fieldRf_ok {t:TypeId} {x:Operand} {f d:Nat} {sh:Sh} {y:sh.T} {off:Nat} (ho:o.op=.fieldAddr t x f) (hx:RelV E (.c false [.rf sh y off]) (a.eval x)) (hf:fieldT P t f=some d) (hm:Mod N E a g) :
  CoreOk P N g E a o ⟨.c false [.rf sh y (off+d)],.none,[]⟩:=by
 obtain ⟨cs,hv,hr,_⟩:=hx
 match cs,hr with
 | [z],hr =>
  obtain ⟨⟨ad,ds,hy,h1,h2,h3⟩,_⟩:=hr
  refine CoreOk.value (E':=E) (v:=.pointer (some (ad.add (off+d)))) ?_ rfl (Keep.refl E) hm ⟨[_],rfl,⟨⟨ad,ds,rfl,h1,h2,h3⟩,trivial⟩,fun _=>rfl⟩
  simp[execOp,ho,hv,mkV,hy,run_fieldAt hf,add_add]
end
section
variable {P:Program} {N:Nat} {g:Look} {E:Env} {a:Act} {o:Oper}
def at1:At->Bool
 | .u=>false
 | .v x=>x.oneCell'
 | _=>true
theorem at1_one {x:At} {v:Value} (h:at1 x=true) (hv:RelA E x v):v.oneCell'=true:=by
 cases x with
 | u=>cases h
 | v y=>cases hv;exact h
 | ptr b o=>obtain ⟨rfl,_⟩:=hv;rfl
 | clo f cap=>obtain ⟨rfl,_⟩:=hv;rfl
 | sl e l=>exact Dat.one hv v (by simp)
 | row r=>exact hv.2.2
 | rf s x o=>obtain ⟨ad,cs,rfl,_⟩:=hv;rfl
 | re r i sz off=>obtain ⟨b,_,rfl,_⟩:=hv;rfl
 | sub r lo hi sz=>obtain ⟨⟨A,c,rfl,_⟩,_⟩:=hv;rfl
 | ae b o e n i d=>obtain ⟨rfl,_⟩:=hv;rfl
 | sn e l=>exact Dat.one hv.2 v (by simp)
 | ir r i=>exact hv.2.2.2
 | ie r i j sz off=>obtain ⟨b,_,rfl,_⟩:=hv;rfl
 | fn a r F=>obtain ⟨f,cap,rfl,_⟩:=hv;rfl
theorem ats1_one:∀{l:List At} {vs:List Value},l.all at1=true->RelL E l vs->∀v ∈ vs,v.oneCell'=true
 | [],[],_,_,v,hv=>by cases hv
 | x ::l,y ::vs,h,hr,v,hv=>by
  simp only[List.all_cons,Bool.and_eq_true] at h
  rcases List.mem_cons.1 hv with rfl | hv
  ·exact at1_one h.1 hr.1
  ·exact ats1_one h.2 hr.2 v hv
 | [],_ ::_,_,hr,_,_=>hr.elim
 | _ ::_,[],_,hr,_,_=>hr.elim
theorem cells_mkV {ag:Bool} {cs:List Value} (h1:ag=false->cs.length=1) (hone:∀v ∈ cs,v.oneCell'=true):(mkV ag cs).cells=cs.toArray:=by
 cases ag with
 | true=>rfl
 | false =>
  match cs,h1 rfl with
  | [c],_ =>
   have:=hone c (by simp)
   cases c<;>first | rfl | (simp[Value.oneCell'] at this)
def Env.new (E:Env) (b:Nat) (ob:Obj):Env:={ E with w:=E.w.alloc ob,β:=fun i=>if i=b then E.w.heap.size else E.β i,L:=fun i=>E.L i\/i=b }
theorem heap_push (w:World) (ob:Obj) (k:Nat) (h:k<w.heap.size):(w.alloc ob).heap[k]?=w.heap[k]?:=Below.heap_alloc w ob k h
theorem heap_new (w:World) (ob:Obj):(w.alloc ob).heap[w.heap.size]?=some ob:=by
 show (w.heap.push ob)[w.heap.size]?=_
 simp
theorem new_ext {b:Nat} {ob:Obj} (hf:¬ E.L b):Ext (fun _=>False) E (E.new b ob) where
 rg:=rfl
 P:=rfl
 w0:=rfl
 Z0:=rfl
 Z _ h:=h
 heap k h _:=heap_push E.w ob k h
 β i h:=by
  show (if i=b then E.w.heap.size else E.β i)=E.β i
  exact if_neg fun e=>hf (by rw[<-e];exact h)
 L _ h:=.inl h
 ρ _ _:=rfl
 R _ h:=h
 x:=Env.same_x
theorem Mod.blk_lt (hm:Mod N E a g) {i:Nat} {l:List At} (h:g.h i=some l):E.β i<E.w.heap.size:=by
 obtain ⟨_,cs,t,h1,_⟩:=hm.blks i l h
 rcases Nat.lt_or_ge (E.β i) E.w.heap.size with h' | h'
 ·exact h'
 ·rw[Array.getElem?_eq_none h'] at h1;cases h1
theorem Mod.row_lt (hm:Mod N E a g) {i b:Nat} {r:RowI} (h:g.r i=some (.some r)) (hb:(E.ρ i).ownBlock=some b):E.w0.heap.size<=b/\b<E.w.heap.size:=by
 obtain ⟨_,xs,h1,_⟩:=hm.rows i r h
 exact h1.lt b hb
theorem Mod.fresh (hm:Mod N E a g) {b:Nat} (hf:g.h b=none):¬ E.L b:=fun h=>by
 have:=hm.glob.live b h
 rw[hf] at this
 cases this
theorem new_keep (hm:Mod N E a g) {b:Nat} (hf:g.h b=none) {ob:Obj}:Keep E (E.new b ob):=(new_ext (ob:=ob) (hm.fresh hf)).keep hm.glob (Free.none E)
theorem new_mod (hm:Mod N E a g) {b:Nat} (hf:g.h b=none) {l:List At} {cs:List Value} (hr:RelL E l cs) (h1:∀v ∈ cs,v.oneCell'=true) (t:TypeId) :
  Mod N (E.new b (.cells cs.toArray t)) a (g.setH b l):=by
 have hfr:=hm.fresh hf
 have hx:=new_ext (ob:=.cells cs.toArray t) hfr
 have hxg:XGlob (E.new b (.cells cs.toArray t)) (g.setH b l):=hm.glob.xg.ext rfl (by simp[Env.new,World.size_alloc]) (fun i x h=>⟨⟨x,h⟩,fun _ h=>h⟩) (fun b h=>.inl h) (fun j l' h=>by
  simp only[Look.setH] at h
  simp only[Env.new]
  split
  ·exact .inl (Nat.le_refl _)
  ·rename_i e;rw[if_neg e] at h;exact .inr ⟨j,l',h,rfl⟩) (fun j r b h h'=>.inr ⟨j,r,h,h'⟩)
 refine hm.move (Free.none E) hx ?_ rfl hm.size (fun i s h=>.inl ⟨h,rfl⟩) (fun i l' h=>?_) (fun i r h=>.inl ⟨h,fun _ _=>id⟩) (fun i x h=>.inl ⟨h,rfl,fun _ _=>id⟩)
 ·have hz:=hm.glob.below.size
  refine ⟨hm.glob.below.alloc hz _,fun k hk=>?_,hm.glob.z0,hm.glob.zfrom,fun i hi=>?_,hm.glob.rlive,fun i l' hi=>?_,fun i j l' l'' hi hj hij=>?_,fun i r k hi hk=>?_,hm.glob.rinj,hxg,hm.glob.gd⟩
  ·have:=hm.glob.zlt k hk
   simp only[Env.new,World.size_alloc]
   omega
  ·simp only[Look.setH]
   split
   ·rfl
   ·rename_i h
    exact hm.glob.live i (hi.resolve_right h)
  ·simp only[Look.setH] at hi
   simp only[Env.new]
   split
   ·exact ⟨hz,fun h=>Nat.lt_irrefl _ (hm.glob.zlt _ h)⟩
   ·rename_i h
    rw[if_neg h] at hi
    exact hm.glob.own i l' hi
  ·simp only[Look.setH] at hi hj
   simp only[Env.new] at hij
   by_cases h1:i=b<;>by_cases h2:j=b
   ·rw[h1,h2]
   ·rw[if_pos h1,if_neg h2] at hij
    rw[if_neg h2] at hj
    have:=hm.blk_lt hj
    omega
   ·rw[if_neg h1,if_pos h2] at hij
    rw[if_neg h1] at hi
    have:=hm.blk_lt hi
    omega
   ·rw[if_neg h1,if_neg h2] at hij
    rw[if_neg h1] at hi
    rw[if_neg h2] at hj
    exact hm.glob.inj i j _ _ hi hj hij
  ·obtain ⟨h2,h3⟩:=hm.glob.rown i r k hi hk
   refine ⟨h2,fun j l' hj=>?_⟩
   simp only[Look.setH] at hj
   simp only[Env.new]
   split
   ·have:=(hm.row_lt hi hk).2
    omega
   ·rename_i h
    rw[if_neg h] at hj
    exact h3 j l' hj
 ·simp only[Look.setH] at h
  split at h
  ·rename_i hib
   subst hib
   injection h with h
   subst h
   refine .inr ⟨.inr rfl,cs,t,?_,RelL.ext hm.glob (Free.none E) hx hr,h1⟩
   show (E.w.alloc _).heap[if i=i then E.w.heap.size else _]?=_
   rw[if_pos rfl]
   exact heap_new _ _
  ·exact .inl ⟨h,id⟩
theorem newVar_run (t:TypeId) (v:Value) (w:World):(newVar t v).run P w=.ok ⟨w.heap.size,0,none⟩ (w.alloc (.cells v.cells t)):=by
 rfl
theorem relPtr_new {b:Nat} {ob:Obj}:RelV (E.new b ob) (.c false [.ptr b 0]) (.pointer (some ⟨E.w.heap.size,0,none⟩)) :=
 ⟨[_],rfl,⟨⟨by simp[ptrV,Env.new],.inr rfl⟩,trivial⟩,fun _=>rfl⟩
theorem box_ok {t:TypeId} {x:Operand} {ag:Bool} {l:List At} {b:Nat} (ho:o.op=.box t x) (hx:RelV E (.c ag l) (a.eval x)) (hl:l.all at1=true) (hf:g.h b=none) (hm:Mod N E a g) :
  CoreOk P N g E a o ⟨.c false [.ptr b 0],.alloc b l,[]⟩:=by
 obtain ⟨cs,hv,hr,h1⟩:=hx
 have hone:=ats1_one hl hr
 refine CoreOk.value (E':=E.new b (.cells cs.toArray t)) ?_ rfl (new_keep hm hf) (new_mod hm hf hr hone t) relPtr_new
 simp[execOp,ho,hv,Instr.box,newVar_run,cells_mkV h1 hone,Env.new]
def zeroT (P:Program) (t:TypeId):Option (List Value):=match P.info? t with
 | some i=>match i.zero with
  | some z=>match z.cells.toList.all Value.oneCell' with
   | true=>some z.cells.toList
   | false=>none
  | none=>none
 | none=>none
theorem alloc_ok {t:TypeId} {cs:List Value} {b:Nat} (ho:o.op=.alloc t) (hz:zeroT P t=some cs) (hf:g.h b=none) (hm:Mod N E a g) :
  CoreOk P N g E a o ⟨.c false [.ptr b 0],.alloc b (cs.map .v),[]⟩:=by
 unfold zeroT at hz
 split at hz
 ·rename_i i hi
  split at hz
  ·rename_i z hz'
   split at hz
   ·rename_i hall
    injection hz with hz
    subst hz
    refine CoreOk.value (E':=E.new b (.cells z.cells t)) ?_ rfl (new_keep hm hf) ?_ relPtr_new
    ·simp[execOp,ho,Instr.alloc,zeroValue,typeInfo,hi,hz',newVar_run,Env.new]
    ·have:=new_mod hm hf (relL_v (E:=E) z.cells.toList) (fun v hv=>List.all_eq_true.1 hall v hv) t
     simpa [Look.app] using this
   ·cases hz
  ·cases hz
 ·cases hz
def Env.wset (E:Env) (w:World):Env:={ E with w:=w }
theorem store_mod (hm:Mod N E a g) {b:Nat} {l l':List At} (hb:g.h b=some l) {cs:List Value} (t:TypeId) {w':World} (hw:w'.heap[E.β b]?=some (.cells cs.toArray t (0,0)))
  (hk:∀k,k≠E.β b->w'.heap[k]?=E.w.heap[k]?) (hos:w'.os=E.w.os) (htp:w'.tape=E.w.tape) (hop:w'.output=E.w.output) (hsz:w'.heap.size=E.w.heap.size)
  (hr:RelL E l' cs) (h1:∀v ∈ cs,v.oneCell'=true):Mod N (E.wset w') a (g.setH b l')/\Keep E (E.wset w'):=by
 have hX:Free E fun k=>k=E.β b:=fun k hk=>by
  obtain ⟨h1,h2⟩:=hm.glob.own b l hb
  subst hk
  exact ⟨h2,h1⟩
 have hx:Ext (fun k=>k=E.β b) E (E.wset w'):=⟨rfl,rfl,rfl,rfl,fun _ h=>h,fun k _ h=>hk k h,fun _ _=>rfl,fun _ h=>h,fun _ _=>rfl,fun _ h=>h,Env.same_x⟩
 have hxg:XGlob (E.wset w') (g.setH b l'):=hm.glob.xg.ext rfl (by show _<=w'.heap.size;rw[hsz];exact Nat.le_refl _) (fun i x h=>⟨⟨x,h⟩,fun _ h=>h⟩) (fun b h=>.inl h) (fun j l1 h=>.inr (by
  simp only[Look.setH] at h
  split at h
  ·rename_i e;subst e;exact ⟨j,l,hb,rfl⟩
  ·exact ⟨j,l1,h,rfl⟩)) (fun j r b h h'=>.inr ⟨j,r,h,h'⟩)
 have hg:Glob (E.wset w') (g.setH b l'):=by
  refine ⟨⟨hos.trans hm.glob.below.os,htp.trans hm.glob.below.tape,hop.trans hm.glob.below.output,by show _<=w'.heap.size;rw[hsz];exact hm.glob.below.size,fun k hk'=>?_⟩,fun k h=>?_,hm.glob.z0,hm.glob.zfrom,fun i h=>?_,hm.glob.rlive,fun i l'' h=>?_,fun i j l1 l2 hi hj hij=>?_,
   fun i r k hi hk'=>?_,hm.glob.rinj,hxg,hm.glob.gd⟩
  ·refine (hk k (fun e=>?_)).trans (hm.glob.below.block k hk')
   have:=(hm.glob.own b l hb).1
   have h2:k<E.w0.heap.size:=hk'
   omega
  ·show k<w'.heap.size
   rw[hsz]
   exact hm.glob.zlt k h
  ·simp only[Look.setH]
   split
   ·rfl
   ·exact hm.glob.live i h
  ·simp only[Look.setH] at h
   split at h
   ·rename_i e;subst e
    exact hm.glob.own i l hb
   ·exact hm.glob.own i l'' h
  ·have e1:∃l1',g.h i=some l1':=by
    simp only[Look.setH] at hi
    split at hi
    ·rename_i e;subst e;exact ⟨l,hb⟩
    ·exact ⟨l1,hi⟩
   have e2:∃l2',g.h j=some l2':=by
    simp only[Look.setH] at hj
    split at hj
    ·rename_i e;subst e;exact ⟨l,hb⟩
    ·exact ⟨l2,hj⟩
   obtain ⟨l1',e1⟩:=e1
   obtain ⟨l2',e2⟩:=e2
   exact hm.glob.inj i j l1' l2' e1 e2 hij
  ·obtain ⟨h2,h3⟩:=hm.glob.rown i r k hi hk'
   refine ⟨h2,fun j l'' hj=>?_⟩
   simp only[Look.setH] at hj
   split at hj
   ·rename_i e;subst e
    exact h3 j l hb
   ·exact h3 j l'' hj
 refine ⟨hm.move hX hx hg rfl hm.size (fun i s h=>.inl ⟨h,rfl⟩) (fun i l'' h=>?_) (fun i r h=>.inl ⟨h,fun k hk' e=>?_⟩) (fun i x h=>.inl ⟨h,rfl,fun k hk' e=>(hm.glob.xg.own i x k h hk').2.2.2.1 b l hb e.symm⟩),hx.keep hm.glob hX⟩
 ·simp only[Look.setH] at h
  split at h
  ·rename_i e;subst e
   injection h with h;subst h
   exact .inr ⟨(hm.blks i l hb).1,cs,t,hw,RelL.ext hm.glob hX hx hr,h1⟩
  ·rename_i e
   exact .inl ⟨h,fun e'=>e (hm.glob.inj i b l'' l h hb e')⟩
 ·exact (hm.glob.rown i r k h hk').2 b l hb e.symm
theorem store_ok {t:TypeId} {x y:Operand} {b off n:Nat} {l:List At} {ag:Bool} {l':List At} (ho:o.op=.store t x y) (hx:RelV E (.c false [.ptr b off]) (a.eval x)) (hy:RelV E (.c ag l') (a.eval y)) (hb:g.h b=some l)
  (hz:sizeT P t=some n) (hl:l'.all at1=true) (hn:Nat.beq l'.length n=true) (hfit:Nat.ble (off+n) l.length=true) (hm:Mod N E a g) :
  CoreOk P N g E a o ⟨.c false [.u],.store b (l.take off++l'++l.drop (off+l'.length)),[]⟩:=by
 obtain ⟨cs,hv,hr,_⟩:=hx
 obtain ⟨vs,hv',hr',h1'⟩:=hy
 have hone:=ats1_one hl hr'
 simp only[Nat.beq_eq] at hn
 simp only[Nat.ble_eq] at hfit
 have hlen:=hr'.length
 match cs,hr with
 | [p],hr =>
  obtain ⟨⟨hp,_⟩,_⟩:=hr
  obtain ⟨_,ds,t',hh,hd,hd1⟩:=hm.blks b l hb
  have hdl:=hd.length
  have hst:=run_storeCells_at P (E.β b) off t' vs 0 ds.toArray E.w hh (by simp;omega) hone
  simp only[Nat.add_zero] at hst
  have hr2:RelL E (l.take off++l'++l.drop (off+l'.length)) (ds.take off++vs++ds.drop (off+vs.length)):=by
   have e:l'.length=vs.length:=hlen
   rw[e]
   exact ((hd.take off).append hr').append (hd.drop _)
  have h12:∀v ∈ ds.take off++vs++ds.drop (off+vs.length),v.oneCell'=true:=by
   intro v hv
   simp only[List.mem_append] at hv
   rcases hv with (hv | hv) | hv
   ·exact hd1 v (List.mem_of_mem_take hv)
   ·exact hone v hv
   ·exact hd1 v (List.mem_of_mem_drop hv)
  have hsm:=store_mod hm hb t' (setRow_heap E.w _ _ _ t' (0,0) hh) (fun k hk=>setRow_other E.w _ k _ hk) rfl rfl rfl (by simp[World.setRow]) hr2 h12
  refine CoreOk.skip (E':=E.wset (E.w.setRow (E.β b) ((ds.take off++vs++ds.drop (off+vs.length)).toArray))) ?_ rfl hsm.2 hsm.1 ⟨[_],rfl,⟨trivial,trivial⟩,fun _=>rfl⟩
  have hsz:vs.length=n:=by omega
  have hv0:a.eval x=.pointer (some ⟨E.β b,off,none⟩):=by rw[hv,hp];rfl
  simp only[execOp,ho,hv0,hv',Instr.storeAt,Instr.sureAddr,storeVar,pure_bind,Sem.run_bind,run_sizeOf hz,Result.andThen_ok]
  have hc:=cells_mkV h1' hone
  simp only[hc,List.size_toArray,hsz,ne_eq,not_true_eq_false,if_false]
  simp[hst,Env.wset,hsz]
def elemT (P:Program) (t:TypeId):Option TypeId:=match P.underlying t with
 | some (.slice e)=>some e
 | _=>none
theorem elemT_eq {t e:TypeId} (h:elemT P t=some e):P.underlying t=some (.slice e):=by
 unfold elemT at h
 split at h
 ·injection h with h;subst h;assumption
 ·cases h
theorem indexSl_ok {t et:TypeId} {x y:Operand} {e:Sh} {l:List e.T} {k:IntKind} {i:Int} (ho:o.op=.indexAddr t x y) (hx:RelV E (.c false [.sl e l]) (a.eval x)) (hy:RelV E (.c false [.v (.int k i)]) (a.eval y))
  (ht:elemT P t=some et) (hz:sizeT P et=some e.size) (hm:Mod N E a g) (hp:0<=i/\i<l.length):CoreOk P N g E a o ⟨.c false [.rf e (l.getD i.toNat e.dflt) 0],.none,[inB i l.length]⟩:=by
 obtain ⟨cs,hv,hr,_⟩:=hx
 have hyv:=toV_rel (x:=.int k i) rfl hy
 have hu:=elemT_eq ht
 match cs,hr with
 | [z],hr =>
  have hd:Dat E.w E.Z (.sl e) l [z]:=hr.1
  simp only[Dat] at hd
  obtain ⟨A,c,hz',hc,_,hd⟩:=hd
  injection hz' with hz' _
  subst hz'
  have hi:i.toNat<l.length:=by omega
  obtain ⟨ad,rfl,hZ,hd⟩:=hd (by omega)
  have hget:l[i.toNat]?=some (l.getD i.toNat e.dflt):=by simp[List.getD,List.getElem?_eq_getElem hi]
  obtain ⟨ecs,h1,h2⟩:=hd i.toNat _ hget
  refine CoreOk.value (E':=E) (v:=.pointer (some (ad.add (i.toNat*e.size)))) ?_ rfl (Keep.refl E) hm ⟨[_],rfl,⟨⟨ad.add (i.toNat*e.size),ecs,by simp[Addr.add],.inl (by rw[add_block];exact hZ),h1,fun j v hj=>by rw[add_add];exact h2 j v hj⟩,trivial⟩,fun _=>rfl⟩
  simp[execOp,ho,hv,hyv,mkV,Instr.indexAt,asIntOf,run_underlying hu,hp.1,hp.2,run_sizeOf hz]
theorem lenSl_ok {x:Operand} {t:TypeId} {e:Sh} {l:List e.T} {et:TypeId} {ts:Array TypeId} (ho:o.op=.call { callee:=.builtin .len,args:=#[x],argTypes:=ts }) (hts:ts[0]?=some t) (ht:elemT P t=some et)
  (hx:RelV E (.c false [.sl e l]) (a.eval x)) (hm:Mod N E a g):CoreOk P N g E a o ⟨.c false [.v (.int .i64 l.length)],.none,[]⟩:=by
 obtain ⟨cs,hv,hr,_⟩:=hx
 have hu:=elemT_eq ht
 match cs,hr with
 | [z],hr =>
  have hd:Dat E.w E.Z (.sl e) l [z]:=hr.1
  simp only[Dat] at hd
  obtain ⟨A,c,hz',hc,_,hd⟩:=hd
  injection hz' with hz' _
  subst hz'
  refine CoreOk.value (E':=E) (v:=.int .i64 l.length) ?_ rfl (Keep.refl E) hm ⟨[_],rfl,⟨rfl,trivial⟩,fun _=>rfl⟩
  simp[execOp,ho,resolve,invoke,builtin,Builtin.len_,hv,mkV,hts,run_underlying hu,goInt]
def divC (get:Operand->Option SV) (o:Oper):Option Core:=match o.op with
 | .binOp .quo _ x y _=>match getV get x,getV get y with
  | some (.int k m),some (.int k' n)=>match decide (k=k') with
   | true=>some ⟨.c false [.v (.int k (k.wrap (m.tdiv n)))],.none,[nzB n]⟩
   | false=>none
  | _,_=>none
 | .binOp .rem _ x y _=>match getV get x,getV get y with
  | some (.int k m),some (.int k' n)=>match decide (k=k') with
   | true=>some ⟨.c false [.v (.int k (m.tmod n))],.none,[nzB n]⟩
   | false=>none
  | _,_=>none
 | _=>none
theorem divC_ok {get:Operand->Option SV} {r:Core} (h:divC get o=some r) (hg:Gets E a get o) (hm:Mod N E a g) (hp:allB r.p=true):CoreOk P N g E a o r:=by
 unfold divC at h
 split at h
 ·rename_i t x y t' ho
  split at h
  ·rename_i k m k' n hx hy
   split at h
   ·rename_i hk
    have hk:=of_decide_eq_true hk
    subst hk
    injection h with h
    subst h
    have e1:=getV_eval hg (by simp[ho,Op.operands]) hx
    have e2:=getV_eval hg (by simp[ho,Op.operands]) hy
    refine CoreOk.value (E':=E) (v:=.int k (k.wrap (m.tdiv n))) ?_ rfl (Keep.refl E) hm ⟨[_],rfl,⟨rfl,trivial⟩,fun _=>rfl⟩
    have hn:n≠0:=nzB_iff.1 hp
    simp[execOp,ho,e1,e2,eqGuard,binOp,Op.intDiv,hn]
   ·cases h
  ·cases h
 ·rename_i t x y t' ho
  split at h
  ·rename_i k m k' n hx hy
   split at h
   ·rename_i hk
    have hk:=of_decide_eq_true hk
    subst hk
    injection h with h
    subst h
    have e1:=getV_eval hg (by simp[ho,Op.operands]) hx
    have e2:=getV_eval hg (by simp[ho,Op.operands]) hy
    refine CoreOk.value (E':=E) (v:=.int k (m.tmod n)) ?_ rfl (Keep.refl E) hm ⟨[_],rfl,⟨rfl,trivial⟩,fun _=>rfl⟩
    have hn:n≠0:=nzB_iff.1 hp
    simp[execOp,ho,e1,e2,eqGuard,binOp,Op.intDiv,hn]
   ·cases h
  ·cases h
 ·cases h
end
def takeInt (k:IntKind):List At->Option (Int×List At)
 | .v (.int k' n) ::r=>if k=k' then some (n,r) else none
 | _=>none
def takeBool:List At->Option (Bool×List At)
 | .v (.bool b) ::r=>some (b,r)
 | _=>none
def takeStr:List At->Option (ByteArray×List At)
 | .v (.string b) ::r=>some (b,r)
 | _=>none
def takeSl (e:Sh):List At->Option (List e.T×List At)
 | .sl e' l ::r=>match Sh.eq? e' e with
  | some ⟨h⟩=>some (h ▸ l,r)
  | none=>none
 | .sn e' l ::r=>match Sh.eq? e' e with
  | some ⟨h⟩=>some (h ▸ l,r)
  | none=>none
 | .v (.slice none 0 0) ::r=>some ([],r)
 | _=>none
def Sh.take:(s:Sh)->List At->Option (s.T×List At)
 | .int k,l=>takeInt k l
 | .bool,l=>takeBool l
 | .str,l=>takeStr l
 | .sl e,l=>takeSl e l
 | .pair a b,l=>match a.take l with
  | some (x,r)=>match b.take r with
   | some (y,r')=>some ((x,y),r')
   | none=>none
  | none=>none
 | .agg e,l=>e.take l
 | .ref,_=>none
section
variable {E:Env}
theorem take_rel:∀{s:Sh} {l rest:List At} {x:s.T} {cs:List Value},s.take l=some (x,rest)->RelL E l cs->∃c1 c2,cs=c1++c2/\Dat E.w E.Z s x c1/\RelL E rest c2
 | .int k,l,rest,x,cs,h,hr=>by
  simp only[Sh.take,takeInt] at h
  split at h
  ·split at h
   ·rename_i hk
    subst hk
    simp only[Option.some.injEq,Prod.mk.injEq] at h
    obtain ⟨rfl,rfl⟩:=h
    match cs,hr with
    | v ::cs,hr=>exact ⟨[v],cs,rfl,by simp only[Dat];rw[show v=_ from hr.1],hr.2⟩
   ·cases h
  ·cases h
 | .bool,l,rest,x,cs,h,hr=>by
  simp only[Sh.take,takeBool] at h
  split at h
  ·simp only[Option.some.injEq,Prod.mk.injEq] at h
   obtain ⟨rfl,rfl⟩:=h
   match cs,hr with
   | v ::cs,hr=>exact ⟨[v],cs,rfl,by simp only[Dat];rw[show v=_ from hr.1],hr.2⟩
  ·cases h
 | .str,l,rest,x,cs,h,hr=>by
  simp only[Sh.take,takeStr] at h
  split at h
  ·simp only[Option.some.injEq,Prod.mk.injEq] at h
   obtain ⟨rfl,rfl⟩:=h
   match cs,hr with
   | v ::cs,hr=>exact ⟨[v],cs,rfl,by simp only[Dat];rw[show v=_ from hr.1],hr.2⟩
  ·cases h
 | .sl e,l,rest,x,cs,h,hr=>by
  simp only[Sh.take,takeSl] at h
  split at h
  ·split at h
   ·rename_i h' _
    subst h'
    simp only[Option.some.injEq,Prod.mk.injEq] at h
    obtain ⟨rfl,rfl⟩:=h
    match cs,hr with
    | v ::cs,hr=>exact ⟨[v],cs,rfl,hr.1,hr.2⟩
   ·cases h
  ·split at h
   ·rename_i h' _
    subst h'
    simp only[Option.some.injEq,Prod.mk.injEq] at h
    obtain ⟨rfl,rfl⟩:=h
    match cs,hr with
    | v ::cs,hr=>exact ⟨[v],cs,rfl,hr.1.2,hr.2⟩
   ·cases h
  ·simp only[Option.some.injEq,Prod.mk.injEq] at h
   obtain ⟨rfl,rfl⟩:=h
   match cs,hr with
   | v ::cs,hr =>
    refine ⟨[v],cs,rfl,?_,hr.2⟩
    have hv:v=_:=hr.1
    simp only[Dat]
    exact ⟨none,0,by rw[hv];rfl,Nat.le_refl _,fun _=>rfl,fun h=>absurd h (by simp)⟩
  ·cases h
 | .pair a b,l,rest,x,cs,h,hr=>by
  simp only[Sh.take] at h
  split at h
  ·rename_i y r hy
   split at h
   ·rename_i z r' hz
    simp only[Option.some.injEq,Prod.mk.injEq] at h
    obtain ⟨rfl,rfl⟩:=h
    obtain ⟨c1,c2,rfl,h1,h2⟩:=take_rel hy hr
    obtain ⟨c3,c4,rfl,h3,h4⟩:=take_rel hz h2
    exact ⟨c1++c3,c4,by simp,by simp only[Dat];exact ⟨c1,c3,rfl,h1,h3⟩,h4⟩
   ·cases h
  ·cases h
 | .agg e,l,rest,x,cs,h,hr=>take_rel (s:=e) h hr
def Sh.whole (s:Sh):SV->Option s.T
 | .c ag l=>match ag ==s.isAgg with
  | true=>match s.take l with
   | some (x,[])=>some x
   | _=>none
  | false=>none
 | .tup _=>none
theorem whole_rel {s:Sh} {v:SV} {x:s.T} {y:Value} (h:s.whole v=some x) (hv:RelV E v y):DatV E.w E.Z s x y:=by
 cases v with
 | c ag l =>
  simp only[Sh.whole] at h
  split at h
  ·rename_i hag
   have hag:ag=s.isAgg:=by simpa using hag
   split at h
   ·rename_i z hz
    injection h with h;subst h
    obtain ⟨cs,rfl,hr,h1⟩:=hv
    obtain ⟨c1,c2,rfl,hd,h2⟩:=take_rel hz hr
    match c2,h2 with
    | [],_=>exact ⟨c1,hd,by rw[hag,List.append_nil],fun h=>by rw[hag,List.append_nil] at h1;exact h1 h⟩
   ·cases h
  ·cases h
 | tup l=>cases h
end
theorem foldl_seg (off:Nat):∀(vs:List Value) (k:Nat) (cells:Array Value),off+k+vs.length<=cells.size ->
  (vs.zipIdx k).foldl (fun cs p=>cs.setIfInBounds (off+p.2) p.1) cells=(cells.toList.take (off+k)++vs++cells.toList.drop (off+k+vs.length)).toArray
 | [],k,cells,_=>by simp
 | v ::vs,k,cells,h=>by
  simp only[List.zipIdx_cons,List.foldl_cons,List.length_cons] at h ⊢
  rw[foldl_seg off vs (k+1) _ (by simp;omega)]
  have e:=list_seg_step cells.toList (off+k) v vs (by simp;omega)
  simp only[Array.toList_setIfInBounds]
  have e1:off+(k+1)=off+k+1:=by omega
  rw[e1,e]
theorem fill_seq (n:Nat):∀(vs:List Value) (i:Nat) (cells:Array Value),(∀v ∈ vs,v.cells.size=n)->(i+vs.length)*n<=cells.size ->
  Instr.fill (fun i=>some (i*n,n)) cells ((vs.zipIdx i).map fun p=>(p.2,p.1))=some (cells.toList.take (i*n)++(vs.flatMap fun v=>v.cells.toList)++cells.toList.drop ((i+vs.length)*n)).toArray
 | [],i,cells,_,_=>by simp[Instr.fill]
 | v ::vs,i,cells,hv,hl=>by
  have hn:v.cells.size=n:=hv v (by simp)
  have hlen:(i+(vs.length+1))*n=i*n+n+vs.length*n:=by rw[Nat.add_mul,Nat.add_mul];omega
  have hfit:i*n+n<=cells.size:=by
   have hl':(i+(vs.length+1))*n<=cells.size:=hl
   rw[hlen] at hl'
   omega
  simp only[List.zipIdx_cons,List.map_cons,Instr.fill,hn]
  rw[if_neg (by simp;omega)]
  have hf:=foldl_seg (i*n) v.cells.toList 0 cells (by simp[hn];omega)
  have hf':(v.cells.zipIdx.foldl (fun cs x=>cs.setIfInBounds (i*n+x.2) x.1) cells)=(cells.toList.take (i*n+0)++v.cells.toList++cells.toList.drop (i*n+0+v.cells.toList.length)).toArray:=by
   rw[<-hf,<-Array.foldl_toList,Array.toList_zipIdx]
  have e:(fun (cs:Array Value) (x:Value×Nat)=>match x with | (c,j)=>cs.setIfInBounds (i*n+j) c)=fun cs x=>cs.setIfInBounds (i*n+x.2) x.1:=rfl
  rw[e,hf',fill_seq n vs (i+1) _ (fun u hu=>hv u (by simp[hu])) (by
   simp only[List.size_toArray,List.length_append,List.length_take,List.length_drop,Array.length_toList,hn]
   have:(i+1+vs.length)*n=i*n+n+vs.length*n:=by rw[Nat.add_mul,Nat.add_mul];omega
   rw[this]
   have hl':(i+(vs.length+1))*n<=cells.size:=hl
   rw[hlen] at hl'
   omega)]
  simp only[Nat.add_zero,Array.length_toList,hn,List.flatMap_cons,List.length_cons]
  congr 2
  have e1:(i+1)*n=i*n+n:=by rw[Nat.add_mul];omega
  have e2:(i+1+vs.length)*n=i*n+n+vs.length*n:=by rw[Nat.add_mul,Nat.add_mul];omega
  have t1:(cells.toList.take (i*n)).length=i*n:=by simp;omega
  rw[e1,e2,hlen]
  have tk:List.take (i*n+n) (cells.toList.take (i*n)++v.cells.toList++cells.toList.drop (i*n+n))=cells.toList.take (i*n)++v.cells.toList:=by
   rw[List.take_append_of_le_length (by simp[hn];omega),List.take_of_length_le (by simp[hn];omega)]
  have dr:List.drop (i*n+n+vs.length*n) (cells.toList.take (i*n)++v.cells.toList++cells.toList.drop (i*n+n))=cells.toList.drop (i*n+n+vs.length*n):=by
   rw[List.drop_append,List.drop_of_length_le (by simp[hn];omega),List.nil_append,List.drop_drop]
   congr 1
   simp[hn]
   omega
  rw[tk,dr]
  simp[List.append_assoc]
section
variable {P:Program} {N:Nat} {g:Look} {E:Env} {a:Act} {o:Oper}
def Env.dat (E:Env) (w:World):Env:={ E with w:=w,Z:=fun b=>E.Z b\/(E.w.heap.size<=b/\b<w.heap.size) }
theorem dat_ext {w:World} (hb:Below E.w.heap.size E.w w):Ext (fun _=>False) E (E.dat w):=⟨rfl,rfl,rfl,rfl,fun _ h=>.inl h,fun k h _=>hb.block k h,fun _ _=>rfl,fun _ h=>h,fun _ _=>rfl,fun _ h=>h,Env.same_x⟩
theorem dat_mod {w:World} (hm:Mod N E a g) (hb:Below E.w.heap.size E.w w):Mod N (E.dat w) a g:=by
 refine hm.move (Free.none E) (dat_ext hb) ?_ rfl hm.size (fun i s h=>.inl ⟨h,rfl⟩) (fun i l h=>.inl ⟨h,id⟩) (fun i r h=>.inl ⟨h,fun _ _=>id⟩) (fun i r h=>.inl ⟨h,rfl,fun _ _=>id⟩)
 have hxg:XGlob (E.dat w) g:=hm.glob.xg.ext rfl hb.size (fun i x h=>⟨⟨x,h⟩,fun _ h=>h⟩) (fun b h=>h.imp id fun h=>.inl h.1) (fun j l h=>.inr ⟨j,l,h,rfl⟩) (fun j r b h h'=>.inr ⟨j,r,h,h'⟩)
 refine ⟨hm.glob.below.trans (hb.mono hm.glob.below.size),fun k hk=>?_,fun k hk=>?_,fun k hk=>?_,hm.glob.live,hm.glob.rlive,fun i l h=>?_,hm.glob.inj,fun i r k h hk=>?_,hm.glob.rinj,hxg,hm.glob.gd⟩
 ·rcases hk with hk | hk
  ·exact Nat.lt_of_lt_of_le (hm.glob.zlt k hk) hb.size
  ·exact hk.2
 ·exact .inl (hm.glob.z0 k hk)
 ·rcases hk with hk | hk
  ·exact hm.glob.zfrom k hk
  ·exact .inr (Nat.le_trans hm.glob.below.size hk.1)
 ·obtain ⟨h1,h2⟩:=hm.glob.own i l h
  have:=hm.blk_lt h
  exact ⟨h1,fun hz=>hz.elim h2 fun hz=>by have h3:E.w.heap.size<=E.β i:=hz.1;omega⟩
 ·obtain ⟨h1,h2⟩:=hm.glob.rown i r k h hk
  have:=(hm.row_lt h hk).2
  exact ⟨fun hz=>hz.elim h1 fun hz=>by have h3:E.w.heap.size<=k:=hz.1;omega,h2⟩
def wholes (e:Sh) (get:Operand->Option SV):Nat->List (Nat×Operand)->Option (List e.T)
 | _,[]=>some []
 | i,p ::r=>match Nat.beq p.1 i,get p.2 with
  | true,some s=>match e.whole s,wholes e get (i+1) r with
   | some x,some l=>some (x ::l)
   | _,_=>none
  | _,_=>none
theorem wholes_length {e:Sh} {get:Operand->Option SV}:∀{i:Nat} {ps:List (Nat×Operand)} {l:List e.T},wholes e get i ps=some l->l.length=ps.length
 | _,[],_,h=>by simp only[wholes] at h;injection h with h;subst h;rfl
 | i,p ::r,l,h=>by
  simp only[wholes] at h
  split at h
  ·split at h
   ·rename_i x l' hx hl
    injection h with h;subst h
    simp[wholes_length hl]
   ·cases h
  ·cases h
theorem wholes_run {e:Sh} {get:Operand->Option SV}:∀{i:Nat} {ps:List (Nat×Operand)} {l:List e.T},wholes e get i ps=some l->(∀p ∈ ps,∀s,get p.2=some s->RelV E s (a.eval p.2)) ->
  (ps.map fun p=>(p.1,a.eval p.2))=((ps.map fun p=>a.eval p.2).zipIdx i).map (fun q=>(q.2,q.1)) /\
  ∃css:List (List Value),css.length=l.length/\(ps.map fun p=>(a.eval p.2).cells.toList)=css/\∀(k:Nat) (x:e.T),l[k]?=some x->∃c,css[k]?=some c/\Dat E.w E.Z e x c
 | i,[],l,h,_=>by simp only[wholes] at h;injection h with h;subst h;exact ⟨rfl,[],rfl,rfl,fun k x hx=>by simp at hx⟩
 | i,p ::r,l,h,hgt=>by
  simp only[wholes] at h
  split at h
  ·rename_i s hp hs
   split at h
   ·rename_i x l' hx hl
    injection h with h;subst h
    obtain ⟨h1,css,h2,h3,h4⟩:=wholes_run hl (fun q hq=>hgt q (by simp[hq]))
    have hp':p.1=i:=by simpa using hp
    obtain ⟨c,hc,hv,hc1⟩:=whole_rel hx (hgt p (by simp) _ hs)
    have hcells:(a.eval p.2).cells.toList=c:=by
     rw[hv,cells_mkV hc1 hc.one]
    refine ⟨by simp[h1,hp'],c ::css,by simp[h2],by simp[hcells,h3],fun k y hy=>?_⟩
    cases k with
    | zero=>simp only[List.getElem?_cons_zero,Option.some.injEq] at hy ⊢;subst hy;exact ⟨c,rfl,hc⟩
    | succ k=>simp only[List.getElem?_cons_succ] at hy ⊢;exact h4 k y hy
   ·cases h
  ·cases h
end
theorem flatten_at {n:Nat}:∀{css:List (List Value)} {k:Nat} {c:List Value} {j:Nat} {v:Value},(∀x ∈ css,x.length=n)->css[k]?=some c->c[j]?=some v->css.flatten[k*n+j]?=some v
 | [],k,c,j,v,_,h,_=>by simp at h
 | d ::css,0,c,j,v,hn,h,hj=>by
  simp only[List.getElem?_cons_zero,Option.some.injEq] at h
  subst h
  have hl:j<d.length:=(List.getElem?_eq_some_iff.1 hj).1
  simp only[Nat.zero_mul,Nat.zero_add,List.flatten_cons,List.getElem?_append,hl,if_true]
  exact hj
 | d ::css,k+1,c,j,v,hn,h,hj=>by
  simp only[List.getElem?_cons_succ] at h
  have hd:d.length=n:=hn d (by simp)
  have e:(k+1)*n+j=d.length+(k*n+j):=by rw[hd,Nat.add_mul];omega
  rw[List.flatten_cons,e,List.getElem?_append_right (by omega),Nat.add_sub_cancel_left]
  exact flatten_at (fun x hx=>hn x (by simp[hx])) h hj
section
variable {P:Program} {N:Nat} {g:Look} {E:Env} {a:Act} {o:Oper}
theorem dat_keep {w:World} (hm:Mod N E a g) (hb:Below E.w.heap.size E.w w):Keep E (E.dat w):=(dat_ext hb).keep hm.glob (Free.none E)
theorem build_ok {t et n:Nat} {ps:Array (Nat×Operand)} {e:Sh} {l:List e.T} {get:Operand->Option SV} (ho:o.op=.buildSlice t n ps) (hgt:Gets E a get o)
  (ht:elemT P t=some et) (hz:sizeT P et=some e.size) (hw:wholes e get 0 ps.toList=some l) (hn:ps.size=n) {z:List Value} (hz0:zeroT P et=some z) (hsm:n*e.size<=2 ^ 24) (hm:Mod N E a g) :
  CoreOk P N g E a o ⟨.c false [.sl e l],.none,[]⟩:=by
 obtain ⟨h1,css,h2,h3,h4⟩:=wholes_run hw (fun p hp s hs=>hgt p.2 s (by rw[ho];simp only[Op.operands];simpa using ⟨p.1,Array.mem_toList_iff.1 hp⟩) hs)
 have hll:=wholes_length hw
 have hln:l.length=n:=by rw[hll,<-hn];simp
 have hlen:∀c ∈ css,c.length=e.size:=by
  intro c hc
  obtain ⟨k,hk,rfl⟩:=List.getElem_of_mem hc
  have hkl:k<l.length:=by omega
  obtain ⟨c',e1,e2⟩:=h4 k l[k] (List.getElem?_eq_getElem hkl)
  rw[List.getElem?_eq_getElem hk] at e1
  injection e1 with e1
  rw[e1]
  exact e2.len
 have hcs:∀v ∈ ps.toList.map (fun p=>a.eval p.2),v.cells.size=e.size:=by
  intro v hv
  obtain ⟨p,hp,rfl⟩:=List.mem_map.1 hv
  have:(a.eval p.2).cells.toList ∈ css:=by rw[<-h3];exact List.mem_map.2 ⟨p,hp,rfl⟩
  have:=hlen _ this
  simpa using this
 have hflat:(ps.toList.map fun p=>a.eval p.2).flatMap (fun v=>v.cells.toList)=css.flatten:=by
  rw[<-h3,List.flatMap,List.map_map]
  rfl
 have hu:=elemT_eq ht
 have hzv:∃i zv,P.info? et=some i/\i.zero=some zv:=by
  unfold zeroT at hz0
  split at hz0
  ·rename_i i hi
   split at hz0
   ·rename_i zv hzv
    exact ⟨i,zv,hi,hzv⟩
   ·cases hz0
  ·cases hz0
 obtain ⟨ti,zv,hi,hzv⟩:=hzv
 have hfill:∀c0:Array Value,c0.size=n*e.size->Instr.fill (fun i=>some (i*e.size,e.size)) c0 (ps.map fun p=>(p.1,a.eval p.2)).toList=some css.flatten.toArray:=by
  intro c0 hc0
  rw[Array.toList_map,h1,fill_seq e.size _ 0 c0 hcs (by simp[hn,hc0]),hflat]
  simp[hn,hc0]
 have hb:Below E.w.heap.size E.w (E.w.alloc (.cells css.flatten.toArray et)):=(Below.refl _ _).alloc (Nat.le_refl _) _
 refine CoreOk.value (E':=E.dat (E.w.alloc (.cells css.flatten.toArray et))) (v:=.slice (some ⟨E.w.heap.size,0,none⟩) n n) ?_ rfl (dat_keep hm hb) (dat_mod hm hb) ⟨[_],rfl,⟨?_,trivial⟩,fun _=>rfl⟩
 ·simp only[execOp,ho,Instr.buildSlice,Sem.run_bind,run_underlying hu,Result.andThen_ok,run_sizeOf hz]
  rw[if_neg (by omega)]
  by_cases h0:n*e.size=0
  ·rw[if_pos h0]
   simp only[pure_bind]
   rw[hfill _ (by simp)]
   rfl
  ·rw[if_neg h0]
   simp only[Sem.run_bind,zeroValue,typeInfo]
   simp only[run_program,Result.andThen_ok,hi,hzv,Sem.run_pure]
   rw[hfill _ (by simp)]
   rfl
 ·show Dat _ _ (.sl e) l _
  simp only[Dat]
  refine ⟨_,n,by rw[hln],by omega,fun h=>(by cases h),fun _=>⟨_,rfl,.inr ⟨Nat.le_refl _,by simp⟩,fun k x hx=>?_⟩⟩
  obtain ⟨c,e1,e2⟩:=h4 k x hx
  refine ⟨c,Dat.mono (fun _ h=>.inl h) (fun b hb'=>heap_push E.w _ b (hm.glob.zlt b hb')) e2,fun j v hj=>?_⟩
  rw[add_lit]
  have:=flatten_at hlen e1 hj
  simp[Env.dat,this]
inductive RSh where
 | one (s:Sh)
 | tup (l:List Sh)
abbrev RSh.T:RSh->Type
 | .one s=>s.T
 | .tup l=>TsS l
def dflts:(l:List Sh)->TsS l
 | []=>()
 | s ::r=>(s.dflt,dflts r)
def RSh.dflt:(r:RSh)->r.T
 | .one s=>s.dflt
 | .tup l=>dflts l
def RetV (w:World) (Z:Nat->Prop):(r:RSh)->r.T->Value->Prop
 | .one s,x,v=>DatV w Z s x v
 | .tup l,x,v=>∃vs,v=.tuple vs.toArray/\DatVs w Z l x vs
def RefV (w:World) (Z:Nat->Prop) (s:Sh) (x:s.T) (v:Value):Prop :=
 ∃b cs,v=.pointer (some ⟨b,0,none⟩)/\b<w.heap.size/\Dat w Z s x cs/\∀j u,cs[j]?=some u->w.cell? ⟨b,j,none⟩=some u
def RefVs (w:World) (Z:Nat->Prop):(l:List Sh)->TsS l->List Value->Prop
 | [],_,vs=>vs=[]
 | s ::r,x,vs=>∃v vs',vs=v ::vs'/\RefV w Z s x.1 v/\RefVs w Z r x.2 vs'
def FnVs (P:Program) (w:World) (Z:Nat->Prop):(l:List (List Sh×Sh))->TsF l->List Value->Prop
 | [],_,vs=>vs=[]
 | s ::r,x,vs=>∃v vs',vs=v ::vs'/\FnV P w Z s.1 s.2 x.1 v/\FnVs P w Z r x.2 vs'
structure Ctr where
 as:List Sh
 fs:List (List Sh×Sh)
 cs:List Sh
 r:RSh
 m:TsS as->TsF fs->TsS cs->Option r.T
def Ctr.ok (P:Program) (f:FuncId) (c:Ctr):Prop :=
 ∀x F y z,c.m x F y=some z->∀(w:World) (Z:Nat->Prop) vals fvals cvals,Gd P w->(∀b,Z b->b<w.heap.size)->DatVs w Z c.as x vals->FnVs P w Z c.fs F fvals->RefVs w Z c.cs y cvals ->
  Calls P f (vals++fvals++cvals).toArray w fun e w'=>∃v,e=.returned v/\RetV w' (fresh Z w w') c.r z v/\Below w.heap.size w w'
structure FCtr where
 as:List Sh
 a:List Sh
 r:Sh
 m:TsS as->Option (FnT a r)
def FnZ (P:Program) (w:World) (Z:Nat->Prop) (a:List Sh) (r:Sh) (f:FnT a r) (v:Value):Prop :=
 ∃g cap,v=.func (.func g) #[] cap/\callable P g=true/\∀w' Z' x y vals,Gd P w'->(∀(ad:Addr) (u:Value),Z ad.block->w.cell? ad=some u->w'.cell? ad=some u)->(∀b,Z b->Z' b)->(∀b,Z' b->b<w'.heap.size)->f x=some y->DatVs w' Z' a x vals ->
  Calls P g (vals.toArray++cap) w' fun e w''=>∃v,e=.returned v/\DatV w'' (fresh Z' w' w'') r y v/\Below w'.heap.size w' w''
def FCtr.ok (P:Program) (f:FuncId) (c:FCtr):Prop :=
 ∀x F,c.m x=some F->∀(w:World) (Z:Nat->Prop) vals,Gd P w->(∀b,Z b->b<w.heap.size)->DatVs w Z c.as x vals ->
  Calls P f vals.toArray w fun e w'=>∃v Z',e=.returned v/\(∀b,Z' b->fresh Z w w' b)/\FnZ P w' Z' c.a c.r F v/\Below w.heap.size w w'
def RefW (w:World) (Z:Nat->Prop) (s:Sh) (x:s.T) (v:Value):Prop :=
 ∃ad cs,v=.pointer (some ad)/\ad.block<w.heap.size/\Dat w Z s x cs/\∀j u,cs[j]?=some u->w.cell? (ad.add j)=some u
structure PCtr where
 s:Sh
 as:List Sh
 r:RSh
 m:s.T->TsS as->Option r.T
def PCtr.ok (P:Program) (f:FuncId) (c:PCtr):Prop :=
 ∀x y z,c.m x y=some z->∀(w:World) (Z:Nat->Prop) v vals,Gd P w->(∀b,Z b->b<w.heap.size)->RefW w Z c.s x v->DatVs w Z c.as y vals ->
  Calls P f (v ::vals).toArray w fun e w'=>∃u,e=.returned u/\RetV w' (fresh Z w w') c.r z u/\Below w.heap.size w w'
structure MCtr where
 s:Sh
 as:List Sh
 r:RSh
 m:s.T->TsS as->Option (s.T×r.T)
def MCtr.ok (P:Program) (f:FuncId) (c:MCtr):Prop :=
 ∀x y z,c.m x y=some z->∀(w:World) (Z:Nat->Prop) b cs t vals,(∀w,Gd P w)->(∀b,Z b->b<w.heap.size)->¬ Z b->w.heap[b]?=some (.cells cs.toArray t (0,0))->Dat w Z c.s x cs->(∀v ∈ cs,v.oneCell'=true)->DatVs w Z c.as y vals ->
  Calls P f (Value.pointer (some ⟨b,0,none⟩) ::vals).toArray w fun e w'=>∃u cs' Z' t',e=.returned u/\RetV w' Z' c.r z.2 u/\w'.heap[b]?=some (.cells cs'.toArray t' (0,0))/\Dat w' Z' c.s z.1 cs'/\(∀b,Z' b->False)/\(∀v ∈ cs',v.oneCell'=true) /\
   w'.os=w.os/\w'.tape=w.tape/\w'.output=w.output/\w.heap.size<=w'.heap.size/\∀k,k<w.heap.size->k≠b->w'.heap[k]?=w.heap[k]?
structure RCtr where
 as:List Sh
 t:TypeId
 e:Sh
 m:TsS as->Option (List e.T)
def RCtr.ok (P:Program) (f:FuncId) (c:RCtr):Prop :=
 ∀x l,c.m x=some l->∀(w:World) (Z:Nat->Prop) vals,Gd P w->(∀b,Z b->b<w.heap.size)->DatVs w Z c.as x vals ->
  Calls P f vals.toArray w fun e w'=>∃(v:Value) (Z':Nat->Prop),e=.returned v/\(∀b,Z b->Z' b)/\(∀b,Z' b->fresh Z w w' b)/\(∀b,v.ownBlock=some b->¬ Z' b) /\
   (∃xs,w'.ownsRow w.heap.size c.t c.e.size v l.length xs/\RowRel w' Z' c.e l xs)/\Below w.heap.size w w'
structure WCtr where
 as:List Sh
 t:TypeId
 e:Sh
 s:Sh
 m:TsS as->Option (List e.T×s.T)
def WCtr.ok (P:Program) (f:FuncId) (c:WCtr):Prop :=
 ∀x z,c.m x=some z->∀(w:World) (Z:Nat->Prop) vals,Gd P w->(∀b,Z b->b<w.heap.size)->DatVs w Z c.as x vals ->
  Calls P f vals.toArray w fun e w'=>∃(v:Value) (cs:List Value) (Z':Nat->Prop),e=.returned (.agg (v ::cs).toArray)/\(∀b,Z b->Z' b)/\(∀b,Z' b->fresh Z w w' b)/\(∀b,v.ownBlock=some b->¬ Z' b) /\
   (∃xs,w'.ownsRow w.heap.size c.t c.e.size v z.1.length xs/\RowRel w' Z' c.e z.1 xs)/\Dat w' Z' c.s z.2 cs/\Below w.heap.size w w'
structure ACtr where
 as:List Sh
 t:TypeId
 e:Sh
 m:List e.T->TsS as->Option (List e.T)
def ACtr.ok0 (P:Program) (f:FuncId) (c:ACtr):Prop :=
 ∀l x z,c.m l x=some z->∀(w:World) (Z:Nat->Prop) (base:Nat) (v:Value) (xs:List Value) vals,(∀w,Gd P w)->(∀b,Z b->b<w.heap.size)->base<=w.heap.size->w.ownsRow base c.t c.e.size v l.length xs->RowRel w Z c.e l xs->(∀b,v.ownBlock=some b->¬ Z b)->DatVs w Z c.as x vals ->
  Calls P f (v ::vals).toArray w fun e w'=>∃(v':Value) (ys:List Value),e=.returned v'/\w.grownBy w' v.ownBlock/\w'.ownsRow base c.t c.e.size v' z.length ys/\(∃Z',RowRel w' Z' c.e z ys)/\(∀b,v'.ownBlock=some b->v.ownBlock=some b\/w.heap.size<=b)
def ACtr.ok (P:Program) (f:FuncId) (c:ACtr):Prop :=
 ∀l x z,c.m l x=some z->∀(w:World) (Z:Nat->Prop) (base:Nat) (v:Value) (xs:List Value) vals,(∀w,Gd P w)->(∀b,Z b->b<w.heap.size)->base<=w.heap.size->w.ownsRow base c.t c.e.size v l.length xs->RowRel w Z c.e l xs->(∀b,v.ownBlock=some b->¬ Z b)->DatVs w Z c.as x vals ->
  Calls P f (v ::vals).toArray w fun e w'=>∃(v':Value) (ys:List Value),e=.returned v'/\w.grownBy w' v.ownBlock/\w'.ownsRow base c.t c.e.size v' z.length ys/\RowRel w' Z c.e z ys/\(∀b,v'.ownBlock=some b->v.ownBlock=some b\/w.heap.size<=b)
theorem run_callFunc {f:FuncId} (h:callable P f=true) (args:Array Value) (w:World):(callFunc f args).run P w=.ok (.enter f args) w:=by
 unfold callable at h
 split at h
 ·rename_i fn hf
  simp only[Bool.and_eq_true,Bool.not_eq_true'] at h
  have hb:¬ fn.body=none:=fun e=>by rw[e] at h;simp at h
  have hn : ¬ fn.name = "runtime.NumGoroutine" := by simpa using h.1
  simp[callFunc,hf,hn,hb]
 ·cases h
def compsS:(l:List Sh)->TsS l->List (Bool×List At)
 | [],_=>[]
 | s ::r,x=>(s.isAgg,Sh.cells s x.1) ::compsS r x.2
def retS:(r:RSh)->r.T->SV
 | .one s,x=>.c s.isAgg (Sh.cells s x)
 | .tup l,x=>.tup (compsS l x)
theorem datV_rel {s:Sh} {x:s.T} {v:Value} (h:DatV E.w E.Z s x v):RelC E s.isAgg (Sh.cells s x) v :=
 let ⟨cs,h1,h2,h3⟩:=h
 ⟨cs,h2,h1.rel,h3⟩
theorem datVs_rel:∀{l:List Sh} {x:TsS l} {vs:List Value},DatVs E.w E.Z l x vs->RelT E (compsS l x) vs
 | [],_,_,h=>by simp only[DatVs] at h;subst h;trivial
 | _ ::_,_,_,h=>by
  simp only[DatVs] at h
  obtain ⟨v,vs',rfl,h1,h2⟩:=h
  exact ⟨datV_rel h1,datVs_rel h2⟩
theorem retV_rel {r:RSh} {x:r.T} {v:Value} (h:RetV E.w E.Z r x v):RelV E (retS r x) v:=by
 cases r with
 | one s=>exact datV_rel h
 | tup l =>
  obtain ⟨vs,h1,h2⟩:=h
  exact ⟨vs,h1,datVs_rel h2⟩
theorem call_ok {f:Operand} {xs:Array Operand} {ts:Array TypeId} {id:FuncId} {cap:Array Value} {r:RSh} {x:r.T} {p:List Bool} (ho:o.op=.call { callee:=.value f,args:=xs,argTypes:=ts }) (hf:a.eval f=.func (.func id) #[] cap)
  (hcall:callable P id=true) (hm:Mod N E a g)
  (hc:Calls P id (xs.map a.eval++cap) E.w fun e w'=>∃v,e=.returned v/\RetV w' (fresh E.Z E.w w') r x v/\Below E.w.heap.size E.w w'):CoreOk P N g E a o ⟨retS r x,.none,p⟩:=by
 intro K Q hK
 unfold Oper.wp
 have hrun:(execOp a.eval o).run P E.w=.ok (.enter id (xs.map a.eval++cap)) E.w:=by
  simp only[execOp,ho,resolve,hf,Deferred.ofValue,pure_bind,invoke,Array.empty_append]
  exact run_callFunc hcall _ _
 rw[hrun]
 refine hc.mono fun e w' he=>?_
 obtain ⟨v,rfl,h1,h2⟩:=he
 exact hK (E.dat w') v rfl (dat_keep hm h2) (dat_mod hm h2) (retV_rel h1)
end
end Dn
end Go.Proofs.YtlfdhaiigdllcaaGreatDoor
