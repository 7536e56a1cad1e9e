/- A symbolic executor for the model's code, in plain Lean. This text: shapes of data, how data lies in memory, symbolic values, symbolic states, and what it means that a state of the machine is one of them. A symbolic executor: how a state of the machine that is a symbolic state goes on to the next one. -/
import Derived.WalkKit
import Derived.WalkSpells
import Derived.Orders

namespace Go.Proofs.YtegbncajloeepaaGreat
theorem z7 {p : Prop} [Decidable p] (h : p) : decide p = true := decide_eq_true h
theorem z8 {p : Prop} [Decidable p] (h : ¬ p) : decide p = false := decide_eq_false h
theorem z9 (n : Nat) : ((n : Nat) : Int).toNat = n := Int.toNat_natCast n
theorem z10 (a b : Bool) : ((a && b) = true) = (a = true ∧ b = true) := Bool.and_eq_true a b
theorem z11 {a b c : Int} (h : a ≤ b) (k : 0 ≤ c) : a * c ≤ b * c := Int.mul_le_mul_of_nonneg_right h k
theorem z12 {p : Prop} [Decidable p] (h : decide p = true) : p := of_decide_eq_true h
namespace Dn
open Go.RowKit
def eh:List Bool->Bool
 | []=>true
 | [b]=>b
 | b ::c ::l=>b&&eh (c ::l)
theorem dt {b:Bool} {l:List Bool} (h:eh (b ::l)=true):b=true/\eh l=true:=by
 cases l with
 | nil=>exact ⟨h,rfl⟩
 | cons c l=>simpa [eh] using h
theorem fS:∀{l m:List Bool},eh (l++m)=true->eh l=true/\eh m=true
 | [],_,h=>⟨rfl,h⟩
 | b ::l,m,h=>by
  obtain ⟨h1,h2⟩:=dt (l:=l++m) h
  obtain ⟨h3,h4⟩:=fS h2
  refine ⟨?_,h4⟩
  cases l with
  | nil=>exact h1
  | cons c l=>simp[eh,h1,h3]
theorem yM {c:Bool}:∀{l:List Bool},eh (l.map fun q=>!c||q)=true->c=true->eh l=true
 | [],_,_=>rfl
 | b ::l,h,hc=>by
  obtain ⟨h1,h2⟩:=dt (b:=!c||b) (l:=l.map fun q=>!c||q) h
  have h3:=yM h2 hc
  subst hc
  have h1:b=true:=by simpa using h1
  cases l with
  | nil=>exact h1
  | cons d l=>simp[eh,h1,h3]
inductive Sh where
 | int (k:IntKind)
 | bool
 | str
 | sl (e:Sh)
 | pair (a b:Sh)
 | agg (e:Sh)
 | ref
abbrev Sh.T:Sh->Type
 | .int _=>Int
 | .bool=>Bool
 | .str=>ByteArray
 | .sl e=>List e.T
 | .pair a b=>a.T×b.T
 | .agg e=>e.T
 | .ref=>Nat
def Sh.dflt:(s:Sh)->s.T
 | .int _=>(0:Int)
 | .bool=>false
 | .str=>ByteArray.empty
 | .sl _=>[]
 | .pair a b=>(a.dflt,b.dflt)
 | .agg e=>e.dflt
 | .ref=>(0:Nat)
def Sh.size:Sh->Nat
 | .pair a b=>a.size+b.size
 | .agg e=>e.size
 | _=>1
def Sh.isAgg:Sh->Bool
 | .agg _=>true
 | _=>false
def mkV (ag:Bool) (cs:List Value):Value:=if ag then .agg cs.toArray else cs.headD undef
def Sh.eq?:(a b:Sh)->Option (PLift (a=b))
 | .int k,.int k'=>if h:k=k' then some ⟨by rw[h]⟩ else none
 | .bool,.bool=>some ⟨rfl⟩
 | .ref,.ref=>some ⟨rfl⟩
 | .str,.str=>some ⟨rfl⟩
 | .sl a,.sl b=>match Sh.eq? a b with
  | some ⟨h⟩=>some ⟨by rw[h]⟩
  | none=>none
 | .pair a b,.pair c d=>match Sh.eq? a c,Sh.eq? b d with
  | some ⟨h⟩,some ⟨h'⟩=>some ⟨by rw[h,h']⟩
  | _,_=>none
 | .agg a,.agg b=>match Sh.eq? a b with
  | some ⟨h⟩=>some ⟨by rw[h]⟩
  | none=>none
 | _,_=>none
theorem Sh.eq?_self:∀s:Sh,Sh.eq? s s=some ⟨rfl⟩
 | .int k=>by simp[Sh.eq?]
 | .bool=>rfl
 | .ref=>rfl
 | .str=>rfl
 | .sl e=>by simp only[Sh.eq?];rw[Sh.eq?_self e]
 | .pair a b=>by simp only[Sh.eq?];rw[Sh.eq?_self a,Sh.eq?_self b]
 | .agg e=>by simp only[Sh.eq?];rw[Sh.eq?_self e]
def Dat (w:World) (Z:Nat->Prop):(s:Sh)->s.T->List Value->Prop
 | .int k,n,cs=>cs=[.int k n]
 | .bool,b,cs=>cs=[.bool b]
 | .str,s,cs=>cs=[.string s]
 | .sl e,l,cs=>∃(A:Option Addr) (c:Nat),cs=[.slice A l.length c]/\l.length<=c/\(A=none->c=0) /\
   (0<l.length->∃ad:Addr,A=some ad/\Z ad.block/\∀(k:Nat) (x:e.T),l[k]?=some x ->
    ∃ecs,Dat w Z e x ecs/\∀j v,ecs[j]?=some v->w.cell? (ad.add (k*e.size+j))=some v)
 | .pair a b,x,cs=>∃c1 c2,cs=c1++c2/\Dat w Z a x.1 c1/\Dat w Z b x.2 c2
 | .agg e,x,cs=>Dat w Z e x cs
 | .ref,_,_=>False
theorem Dat.len {w:World} {Z:Nat->Prop}:∀{s:Sh} {x:s.T} {cs:List Value},Dat w Z s x cs->cs.length=s.size
 | .int _,_,_,h=>by simp only[Dat] at h;subst h;rfl
 | .bool,_,_,h=>by simp only[Dat] at h;subst h;rfl
 | .str,_,_,h=>by simp only[Dat] at h;subst h;rfl
 | .sl _,_,_,h=>by simp only[Dat] at h;obtain ⟨A,c,rfl,_⟩:=h;rfl
 | .pair _ _,_,_,h=>by
  simp only[Dat] at h
  obtain ⟨c1,c2,rfl,h1,h2⟩:=h
  simp[Sh.size,h1.len,h2.len]
 | .agg e,x,cs,h=>Dat.len (s:=e) (x:=x) h
 | .ref,_,_,h=>h.elim
theorem Dat.mono {w w':World} {Z Z':Nat->Prop} (hZ:∀b,Z b->Z' b) (hw:∀b,Z b->w'.heap[b]?=w.heap[b]?) :
  ∀{s:Sh} {x:s.T} {cs:List Value},Dat w Z s x cs->Dat w' Z' s x cs
 | .int _,_,_,h=>h
 | .bool,_,_,h=>h
 | .str,_,_,h=>h
 | .sl e,l,cs,h=>by
  simp only[Dat] at h ⊢
  obtain ⟨A,c,rfl,hc,hA,h⟩:=h
  refine ⟨A,c,rfl,hc,hA,fun h0=>?_⟩
  obtain ⟨ad,rfl,hz,h⟩:=h h0
  refine ⟨ad,rfl,hZ _ hz,fun k x hx=>?_⟩
  obtain ⟨ecs,h1,h2⟩:=h k x hx
  refine ⟨ecs,Dat.mono hZ hw h1,fun j v hv=>?_⟩
  rw[<-h2 j v hv]
  refine World.cell?_of_block ?_
  have hb:(ad.add (k*e.size+j)).block=ad.block:=by unfold Addr.add;split<;>rfl
  rw[hb]
  exact hw _ hz
 | .pair a b,x,cs,h=>by
  simp only[Dat] at h ⊢
  obtain ⟨c1,c2,rfl,h1,h2⟩:=h
  exact ⟨c1,c2,rfl,Dat.mono hZ hw h1,Dat.mono hZ hw h2⟩
 | .agg e,x,cs,h=>Dat.mono (s:=e) (x:=x) hZ hw h
 | .ref,_,_,h=>h.elim
theorem Dat.one {w:World} {Z:Nat->Prop}:∀{s:Sh} {x:s.T} {cs:List Value},Dat w Z s x cs->∀v ∈ cs,v.oneCell'=true
 | .int _,_,_,h=>by simp only[Dat] at h;subst h;simp[Value.oneCell']
 | .bool,_,_,h=>by simp only[Dat] at h;subst h;simp[Value.oneCell']
 | .str,_,_,h=>by simp only[Dat] at h;subst h;simp[Value.oneCell']
 | .sl _,_,_,h=>by simp only[Dat] at h;obtain ⟨A,c,rfl,_⟩:=h;simp[Value.oneCell']
 | .pair _ _,_,_,h=>by
  simp only[Dat] at h
  obtain ⟨c1,c2,rfl,h1,h2⟩:=h
  intro v hv
  rcases List.mem_append.1 hv with hv | hv
  ·exact h1.one v hv
  ·exact h2.one v hv
 | .agg e,x,cs,h=>Dat.one (s:=e) (x:=x) h
 | .ref,_,_,h=>h.elim
def kJ (w:World) (Z:Nat->Prop) (s:Sh) (x:s.T) (v:Value):Prop:=∃cs,Dat w Z s x cs/\v=mkV s.isAgg cs/\(s.isAgg=false->cs.length=1)
abbrev TsS:List Sh->Type
 | []=>Unit
 | s ::r=>s.T×TsS r
def cu (w:World) (Z:Nat->Prop):(l:List Sh)->TsS l->List Value->Prop
 | [],_,vs=>vs=[]
 | s ::r,x,vs=>∃v vs',vs=v ::vs'/\kJ w Z s x.1 v/\cu w Z r x.2 vs'
def bP (P:Program) (f:FuncId):Bool:=match P.funcs[f]? with
 | some fn => !(fn.name == "runtime.NumGoroutine") && fn.body.isSome
 | none=>false
def fresh (Z:Nat->Prop) (w w':World):Nat->Prop:=fun b=>Z b\/(w.heap.size<=b/\b<w'.heap.size)
abbrev FnT (a:List Sh) (r:Sh):Type:=TsS a->Option r.T
abbrev TsF:List (List Sh×Sh)->Type
 | []=>Unit
 | s ::r=>FnT s.1 s.2×TsF r
def FnV (P:Program) (w:World) (Z:Nat->Prop) (a:List Sh) (r:Sh) (f:FnT a r) (v:Value):Prop :=
 ∃g cap,v=.func (.func g) #[] cap/\bP P g=true/\∀w' Z' x y vals,Below w.heap.size w w'->(∀b,Z b->Z' b)->(∀b,Z' b->b<w'.heap.size)->f x=some y->cu w' Z' a x vals ->
  Calls P g (vals.toArray++cap) w' fun e w''=>∃v,e=.returned v/\kJ w'' (fresh Z' w' w'') r y v/\Below w'.heap.size w' w''
inductive At where
 | u
 | v (x:Value)
 | ptr (b off:Nat)
 | clo (g:FuncId) (cap:List (Nat×Nat))
 | sl (e:Sh) (l:List e.T)
 | row (r:Nat)
 | rf (s:Sh) (x:s.T) (off:Nat)
 | re (r i sz off:Nat)
 | sub (r lo hi sz:Nat)
 | ae (b off:Nat) (e:Sh) (n i d:Nat)
 | sn (e:Sh) (l:List e.T)
 | ir (r i:Nat)
 | ie (r i j sz off:Nat)
 | fn (a:List Sh) (r:Sh) (F:FnT a r)
inductive SV where
 | c (ag:Bool) (l:List At)
 | tup (l:List (Bool×List At))
structure RowI where
 t:TypeId
 e:Sh
 n:Nat
 l:List e.T
inductive XI where
 | set (t:TypeId) (k:Sh) (l:List k.T)
 | map (t:TypeId) (k e:Sh) (l:List (k.T×e.T))
 | tab (t:TypeId) (s:Sh) (l:List s.T) (ti:TypeId) (e:Sh) (a:List (Option (List e.T)))
inductive RowS where
 | none
 | some (r:RowI)
 | x (x:XI)
structure Env where
 P:Program
 w0:World
 Z0:Nat->Prop
 w:World
 Z:Nat->Prop
 β:Nat->Nat
 L:Nat->Prop
 ρ:Nat->Value
 R:Nat->Prop
 φ:Nat->Nat->Prop
 ι:Nat->Nat->Value
 ν:Nat->Nat
 rg:Bool:=true
def eU (β:Nat->Nat) (p:Nat×Nat):Value:=.pointer (some ⟨β p.1,p.2,none⟩)
def MG (E:Env) (w':World):Prop:=Below E.w0.heap.size E.w0 w'/\∀(ad:Addr) (v:Value),E.Z ad.block->E.w.cell? ad=some v->w'.cell? ad=some v
def FnK (E:Env) (a:List Sh) (r:Sh) (f:FnT a r) (v:Value):Prop :=
 ∃g cap,v=.func (.func g) #[] cap/\bP E.P g=true/\∀w' Z' x y vals,MG E w'->(∀b,E.Z b->Z' b)->(∀b,Z' b->b<w'.heap.size)->f x=some y->cu w' Z' a x vals ->
  Calls E.P g (vals.toArray++cap) w' fun e w''=>∃v,e=.returned v/\kJ w'' (fresh Z' w' w'') r y v/\Below w'.heap.size w' w''
def fF (E:Env):At->Value->Prop
 | .u,_=>True
 | .v x,y=>y=x
 | .ptr b o,y=>y=eU E.β (b,o)/\E.L b
 | .clo g cap,y=>y=.func (.func g) #[] (cap.map (eU E.β)).toArray/\∀p ∈ cap,E.L p.1
 | .sl e l,y=>Dat E.w E.Z (.sl e) l [y]
 | .row r,y=>y=E.ρ r/\E.R r/\y.oneCell'=true
 | .rf s x o,y=>∃(ad:Addr) (cs:List Value),y=.pointer (some (ad.add o))/\(E.Z ad.block\/ad.block<E.w0.heap.size)/\Dat E.w E.Z s x cs/\∀j v,cs[j]?=some v->E.w.cell? (ad.add j)=some v
 | .re r i sz off,y=>∃g:Nat,(E.ρ r).ownBlock=some g/\y=.pointer (some ⟨g,i*sz+off,none⟩)/\E.R r
 | .sub r lo hi sz,y=>(∃A c,y=.slice A (hi - lo) c/\(lo<hi->∃g:Nat,(E.ρ r).ownBlock=some g/\A=some ⟨g,lo*sz,none⟩))/\E.R r
 | .ae b o e _ i d,y=>y=eU E.β (b,o+i*e.size+d)/\E.L b
 | .sn e l,y=>(∃ad m c,y=.slice (some ad) m c)/\Dat E.w E.Z (.sl e) l [y]
 | .ir r i,y=>y=E.ι r i/\E.R r/\i<E.ν r/\y.oneCell'=true
 | .ie r i j sz off,y=>∃g:Nat,(E.ι r i).ownBlock=some g/\y=.pointer (some ⟨g,j*sz+off,none⟩)/\E.R r/\i<E.ν r
 | .fn a r F,y=>FnK E a r F y
def OBJ (E:Env) (b:Nat) (o:Obj):Prop:=E.Z b/\E.w0.heap.size<=b/\E.w.heap[b]?=some o
def eH (E:Env):List Deferred->Prop
 | []=>True
 | d ::ds=>(E.rg=true/\∃r,d.target=.collected r/\OBJ E r (.deferred (some []))/\∀d' ∈ ds,d'.target≠.collected r)/\eH E ds
def bC (E:Env):List At->List Value->Prop
 | [],[]=>True
 | a ::l,v ::r=>fF E a v/\bC E l r
 | _,_=>False
def fe (E:Env) (ag:Bool) (l:List At) (v:Value):Prop:=∃cs,v=mkV ag cs/\bC E l cs/\(ag=false->cs.length=1)
def fG (E:Env):List (Bool×List At)->List Value->Prop
 | [],[]=>True
 | c ::l,v ::r=>fe E c.1 c.2 v/\fG E l r
 | _,_=>False
def bv (E:Env):SV->Value->Prop
 | .c ag l,v=>fe E ag l v
 | .tup l,v=>∃vs,v=.tuple vs.toArray/\fG E l vs
structure SlotV where
 c:Option Bool
 s:SV
def fx (E:Env) (s:SlotV) (v:Value):Prop :=
 match s.c with
 | none=>bv E s.s v
 | some g=>(g=true->bv E s.s v)/\(g=false->v=undef)
def au (w:World) (Z:Nat->Prop) (e:Sh):List e.T->List Value->Prop
 | [],xs=>xs=[]
 | x ::l,xs=>∃c r,xs=c++r/\Dat w Z e x c/\au w Z e l r
def sy (E:Env) (i:Nat) (l:List At):Prop:=E.L i/\∃cs t,E.w.heap[E.β i]?=some (.cells cs.toArray t (0,0))/\bC E l cs/\∀v ∈ cs,v.oneCell'=true
def nI (E:Env) (i:Nat) (r:RowI):Prop:=E.R i/\∃xs,E.w.ownsRow E.w0.heap.size r.t r.e.size (E.ρ i) r.l.length xs/\au E.w E.Z r.e r.l xs/\r.n=r.l.length
def cU (w:World) (Z:Nat->Prop) (k e:Sh):List (k.T×e.T)->List MapEntry->Prop
 | [],en=>en=[]
 | x ::l,en=>∃m r,en=m ::r/\Dat w Z k x.1 [m.key]/\kJ w Z e x.2 m.val/\cU w Z k e l r
def db (w:World) (Z:Nat->Prop) (k:Sh):List k.T->List MapEntry->Prop
 | [],en=>en=[]
 | x ::l,en=>∃m r,en=m ::r/\Dat w Z k x [m.key]/\m.val=.agg #[]/\db w Z k l r
def dq (E:Env) (q:Nat):(s:Sh)->s.T->List Value->Prop
 | .ref,i,cs=>cs=[E.ι q i]/\i<E.ν q/\(E.ι q i).oneCell'=true
 | .pair a b,x,cs=>∃c1 c2,cs=c1++c2/\dq E q a x.1 c1/\dq E q b x.2 c2
 | .agg e,x,cs=>dq E q e x cs
 | .int k,x,cs=>Dat E.w E.Z (.int k) x cs
 | .bool,x,cs=>Dat E.w E.Z .bool x cs
 | .str,x,cs=>Dat E.w E.Z .str x cs
 | .sl e,x,cs=>Dat E.w E.Z (.sl e) x cs
def ca (E:Env) (q:Nat) (s:Sh):List s.T->List Value->Prop
 | [],xs=>xs=[]
 | x ::l,xs=>∃c r,xs=c++r/\dq E q s x c/\ca E q s l r
def jR (E:Env) (q:Nat) (ti:TypeId) (e:Sh) (i:Nat) (l:List e.T):Prop :=
 (∃ys,E.w.ownsRow E.w0.heap.size ti e.size (E.ι q i) l.length ys/\au E.w E.Z e l ys)/\(E.ι q i).oneCell'=true/\∀b,(E.ι q i).ownBlock=some b->E.φ q b/\(E.ρ q).ownBlock≠some b
def XOk (E:Env) (q:Nat):XI->Prop
 | .set _ k l=>E.R q/\∃(b:Nat) (es:Array MapEntry) (ck:Nat),E.ρ q=.map (some b)/\E.φ q b/\E.w.heap[b]?=some (.map es ck)/\db E.w E.Z k l es.toList
 | .map _ k e l=>E.R q/\∃(b:Nat) (es:Array MapEntry) (ck:Nat),E.ρ q=.map (some b)/\E.φ q b/\E.w.heap[b]?=some (.map es ck)/\cU E.w E.Z k e l es.toList
 | .tab t s l ti e a=>E.R q/\(∃xs,E.w.ownsRow E.w0.heap.size t s.size (E.ρ q) l.length xs/\ca E q s l xs)/\(∀b,(E.ρ q).ownBlock=some b->E.φ q b)/\a.length=E.ν q /\
  (∀i l',a[i]?=some (some l')->jR E q ti e i l')/\(∀i j l1 l2 b,a[i]?=some (some l1)->a[j]?=some (some l2)->(E.ι q i).ownBlock=some b->(E.ι q j).ownBlock=some b->i=j)
structure Look where
 s:Nat->Option SlotV
 h:Nat->Option (List At)
 r:Nat->Option RowS
structure XGlob (E:Env) (g:Look):Prop where
 own:∀i x b,g.r i=some (.x x)->E.φ i b->E.w0.heap.size<=b/\b<E.w.heap.size/\¬ E.Z b/\(∀j l,g.h j=some l->E.β j≠b)/\(∀j r,g.r j=some (.some r)->(E.ρ j).ownBlock≠some b)
 inj:∀i j x y b,g.r i=some (.x x)->g.r j=some (.x y)->E.φ i b->E.φ j b->i=j
structure Glob (E:Env) (g:Look):Prop where
 below:Below E.w0.heap.size E.w0 E.w
 zlt:∀b,E.Z b->b<E.w.heap.size
 z0:∀b,E.Z0 b->E.Z b
 zfrom:∀b,E.Z b->E.Z0 b\/E.w0.heap.size<=b
 live:∀b,E.L b->(g.h b).isSome=true
 rlive:∀r,E.R r->(g.r r).isSome=true
 own:∀i l,g.h i=some l->E.w0.heap.size<=E.β i/\¬ E.Z (E.β i)
 inj:∀i j l l',g.h i=some l->g.h j=some l'->E.β i=E.β j->i=j
 rown:∀i r b,g.r i=some (.some r)->(E.ρ i).ownBlock=some b->¬ E.Z b/\(∀j l,g.h j=some l->E.β j≠b)
 rinj:∀i j r r' b,g.r i=some (.some r)->g.r j=some (.some r')->(E.ρ i).ownBlock=some b->(E.ρ j).ownBlock=some b->i=j
 xg:XGlob E g
structure Mod (N:Nat) (E:Env) (a:Act) (g:Look):Prop where
 glob:Glob E g
 nodef:eH E a.defers
 size:a.tmps.size=N
 slots:∀i s,g.s i=some s->∃v,a.tmps[i]?=some v/\fx E s v
 blks:∀i l,g.h i=some l->sy E i l
 rows:∀i r,g.r i=some (.some r)->nI E i r
 xs:∀i x,g.r i=some (.x x)->XOk E i x
end Dn
end Go.Proofs.YtegbncajloeepaaGreat

namespace Go.Proofs.YtegbncajloeepaaGreat
namespace Dn
open Go.RowKit
structure Ext (X:Nat->Prop) (E E':Env):Prop where
 rg:E'.rg=E.rg
 P:E'.P=E.P
 w0:E'.w0=E.w0
 Z0:E'.Z0=E.Z0
 Z:∀b,E.Z b->E'.Z b
 heap:∀b,b<E.w.heap.size->¬ X b->E'.w.heap[b]?=E.w.heap[b]?
 β:∀b,E.L b->E'.β b=E.β b
 L:∀b,E.L b->E'.L b
 ρ:∀r,E.R r->E'.ρ r=E.ρ r
 R:∀r,E.R r->E'.R r
 x:∀r,E.R r->(∀b,E.φ r b->E'.φ r b)/\E.ν r<=E'.ν r/\∀i,i<E.ν r->E'.ι r i=E.ι r i
def fA (E:Env) (X:Nat->Prop):Prop:=∀b,X b->¬ E.Z b/\E.w0.heap.size<=b
section
variable {X:Nat->Prop} {E E':Env}
theorem Ext.zheap {g:Look} (hg:Glob E g) (hX:fA E X) (h:Ext X E E'):∀b,E.Z b->E'.w.heap[b]?=E.w.heap[b]? :=
 fun b hb=>h.heap b (hg.zlt b hb) fun hx=>(hX b hx).1 hb
theorem jz (a:Addr) (n:Nat):(a.add n).block=a.block:=by unfold Addr.add;split<;>rfl
theorem fF.ext {g:Look} (hg:Glob E g) (hX:fA E X) (h:Ext X E E'):∀{x:At} {v:Value},fF E x v->fF E' x v
 | .u,_,_=>trivial
 | .v _,_,hv=>hv
 | .ptr b o,v,hv=>by
  obtain ⟨rfl,hl⟩:=hv
  exact ⟨by simp[eU,h.β b hl],h.L b hl⟩
 | .clo f cap,v,hv=>by
  obtain ⟨rfl,hl⟩:=hv
  refine ⟨?_,fun p hp=>h.L _ (hl p hp)⟩
  congr 2
  apply List.map_congr_left
  intro p hp
  simp[eU,h.β _ (hl p hp)]
 | .sl e l,v,hv=>Dat.mono h.Z (h.zheap hg hX) hv
 | .row r,v,hv=>by
  obtain ⟨rfl,hl,h1⟩:=hv
  exact ⟨(h.ρ r hl).symm,h.R r hl,h1⟩
 | .rf s x o,v,hv=>by
  obtain ⟨ad,cs,rfl,hz,hd,hc⟩:=hv
  refine ⟨ad,cs,rfl,?_,Dat.mono h.Z (h.zheap hg hX) hd,fun j v hj=>?_⟩
  ·rcases hz with hz | hz
   ·exact .inl (h.Z _ hz)
   ·exact .inr (by rw[h.w0];exact hz)
  ·rw[<-hc j v hj]
   refine World.cell?_of_block ?_
   rw[jz]
   rcases hz with hz | hz
   ·exact h.zheap hg hX _ hz
   ·exact h.heap _ (Nat.lt_of_lt_of_le hz hg.below.size) fun hx=>by have:=(hX _ hx).2;omega
 | .re r _ _ _,v,hv=>by
  obtain ⟨g,hg',rfl,hr⟩:=hv
  exact ⟨g,by rw[h.ρ r hr];exact hg',rfl,h.R r hr⟩
 | .sub r _ _ _,v,hv=>by
  obtain ⟨⟨A,c,rfl,hg'⟩,hr⟩:=hv
  exact ⟨⟨A,c,rfl,fun hl=>by rw[h.ρ r hr];exact hg' hl⟩,h.R r hr⟩
 | .ae b _ _ _ _ _,v,hv=>by
  obtain ⟨rfl,hl⟩:=hv
  exact ⟨by simp[eU,h.β b hl],h.L b hl⟩
 | .sn e l,v,hv=>⟨hv.1,Dat.mono h.Z (h.zheap hg hX) hv.2⟩
 | .ir r i,v,hv=>by
  obtain ⟨rfl,hr,hi,h1⟩:=hv
  obtain ⟨_,h3,h4⟩:=h.x r hr
  exact ⟨(h4 i hi).symm,h.R r hr,Nat.lt_of_lt_of_le hi h3,h1⟩
 | .ie r i _ _ _,v,hv=>by
  obtain ⟨g,hg',rfl,hr,hi⟩:=hv
  obtain ⟨_,h3,h4⟩:=h.x r hr
  exact ⟨g,by rw[h4 i hi];exact hg',rfl,h.R r hr,Nat.lt_of_lt_of_le hi h3⟩
 | .fn a r F,v,hv=>by
  obtain ⟨q,cap,h1,h2,h3⟩:=hv
  refine ⟨q,cap,h1,by rw[h.P];exact h2,fun w' Z' x y vals hA hZ=>?_⟩
  rw[h.P]
  refine h3 w' Z' x y vals ⟨by rw[<-h.w0];exact hA.1,fun ad u hz hc=>hA.2 ad u (h.Z _ hz) ?_⟩ fun b hb=>hZ b (h.Z b hb)
  rw[<-hc]
  exact World.cell?_of_block (h.zheap hg hX _ hz)
theorem bC.ext {g:Look} (hg:Glob E g) (hX:fA E X) (h:Ext X E E'):∀{l:List At} {vs:List Value},bC E l vs->bC E' l vs
 | [],[],_=>trivial
 | _ ::_,_ ::_,hv=>⟨fF.ext hg hX h hv.1,bC.ext hg hX h hv.2⟩
 | [],_ ::_,hv=>hv.elim
 | _ ::_,[],hv=>hv.elim
theorem fe.ext {g:Look} (hg:Glob E g) (hX:fA E X) (h:Ext X E E') {ag:Bool} {l:List At} {v:Value} (hv:fe E ag l v):fe E' ag l v :=
 let ⟨cs,h1,h2,h3⟩:=hv
 ⟨cs,h1,bC.ext hg hX h h2,h3⟩
theorem fG.ext {g:Look} (hg:Glob E g) (hX:fA E X) (h:Ext X E E'):∀{l:List (Bool×List At)} {vs:List Value},fG E l vs->fG E' l vs
 | [],[],_=>trivial
 | _ ::_,_ ::_,hv=>⟨fe.ext hg hX h hv.1,fG.ext hg hX h hv.2⟩
 | [],_ ::_,hv=>hv.elim
 | _ ::_,[],hv=>hv.elim
theorem bv.ext {g:Look} (hg:Glob E g) (hX:fA E X) (h:Ext X E E'):∀{s:SV} {v:Value},bv E s v->bv E' s v
 | .c _ _,_,hv=>fe.ext hg hX h hv
 | .tup _,_,⟨vs,h1,h2⟩=>⟨vs,h1,fG.ext hg hX h h2⟩
theorem fx.ext {g:Look} (hg:Glob E g) (hX:fA E X) (h:Ext X E E') {s:SlotV} {v:Value} (hv:fx E s v):fx E' s v:=by
 unfold fx at *
 split at hv
 ·exact bv.ext hg hX h hv
 ·exact ⟨fun hc=>bv.ext hg hX h (hv.1 hc),hv.2⟩
structure Keep (E E':Env):Prop where
 rg:E'.rg=E.rg
 at':∀x v,fF E x v->fF E' x v
 obj:∀b o,OBJ E b o->OBJ E' b o
instance :CoeFun (Keep E E') fun _=>∀x v,fF E x v->fF E' x v:=⟨Keep.at'⟩
theorem Keep.refl (E:Env):Keep E E:=⟨rfl,fun _ _ h=>h,fun _ _ h=>h⟩
theorem Keep.trans {E'':Env} (h:Keep E E') (h':Keep E' E''):Keep E E'':=⟨h'.rg.trans h.rg,fun x v hv=>h' x v (h x v hv),fun b o hb=>h'.obj b o (h.obj b o hb)⟩
theorem Ext.keep {g:Look} (h:Ext X E E') (hg:Glob E g) (hX:fA E X):Keep E E' :=
 ⟨h.rg,fun _ _ hv=>fF.ext hg hX h hv,fun b o hb=>⟨h.Z b hb.1,by rw[h.w0];exact hb.2.1,by rw[h.zheap hg hX b hb.1];exact hb.2.2⟩⟩
theorem Keep.marks (h:Keep E E'):∀{ds:List Deferred},eH E ds->eH E' ds
 | [],_=>trivial
 | _ ::_,⟨⟨h0,r,h1,h2,h3⟩,h4⟩=>⟨⟨h.rg.trans h0,r,h1,h.obj _ _ h2,h3⟩,Keep.marks h h4⟩
theorem eH.cong (hr:E'.rg=E.rg) (hz:∀b,E.Z b->E'.Z b) (h0:E'.w0=E.w0) (hw:E'.w=E.w):∀{ds:List Deferred},eH E ds->eH E' ds
 | [],_=>trivial
 | _ ::_,⟨⟨h5,r,h1,h2,h3⟩,h4⟩=>⟨⟨hr.trans h5,r,h1,⟨hz _ h2.1,by rw[h0];exact h2.2.1,by rw[hw];exact h2.2.2⟩,h3⟩,eH.cong hr hz h0 hw h4⟩
theorem eH.none (hr:E.rg=false):∀{ds:List Deferred},eH E ds->ds=[]
 | [],_=>rfl
 | _ ::_,⟨⟨h5,_⟩,_⟩=>by rw[hr] at h5;cases h5
theorem Keep.L (h:Keep E E'):∀{l:List At} {vs:List Value},bC E l vs->bC E' l vs
 | [],[],_=>trivial
 | _ ::_,_ ::_,hv=>⟨h _ _ hv.1,Keep.L h hv.2⟩
 | [],_ ::_,hv=>hv.elim
 | _ ::_,[],hv=>hv.elim
theorem Keep.C (h:Keep E E') {ag:Bool} {l:List At} {v:Value} (hv:fe E ag l v):fe E' ag l v :=
 let ⟨cs,h1,h2,h3⟩:=hv
 ⟨cs,h1,h.L h2,h3⟩
theorem Keep.T (h:Keep E E'):∀{l:List (Bool×List At)} {vs:List Value},fG E l vs->fG E' l vs
 | [],[],_=>trivial
 | _ ::_,_ ::_,hv=>⟨h.C hv.1,Keep.T h hv.2⟩
 | [],_ ::_,hv=>hv.elim
 | _ ::_,[],hv=>hv.elim
theorem Keep.V (h:Keep E E'):∀{s:SV} {v:Value},bv E s v->bv E' s v
 | .c _ _,_,hv=>h.C hv
 | .tup _,_,⟨vs,h1,h2⟩=>⟨vs,h1,h.T h2⟩
theorem Keep.S (h:Keep E E') {s:SlotV} {v:Value} (hv:fx E s v):fx E' s v:=by
 unfold fx at *
 split at hv
 ·exact h.V hv
 ·exact ⟨fun hc=>h.V (hv.1 hc),hv.2⟩
theorem bC.length:∀{l:List At} {vs:List Value},bC E l vs->l.length=vs.length
 | [],[],_=>rfl
 | _ ::_,_ ::_,hv=>by simp[bC.length hv.2]
 | [],_ ::_,hv=>hv.elim
 | _ ::_,[],hv=>hv.elim
theorem sy.ext {g:Look} (hg:Glob E g) (hX:fA E X) (h:Ext X E E') {i:Nat} {l:List At} (hb:sy E i l) (hx:¬ X (E.β i)):sy E' i l:=by
 obtain ⟨hl,cs,t,h1,h2,h3⟩:=hb
 have hlt:E.β i<E.w.heap.size:=by
  rcases Nat.lt_or_ge (E.β i) E.w.heap.size with h' | h'
  ·exact h'
  ·rw[Array.getElem?_eq_none h'] at h1;cases h1
 exact ⟨h.L i hl,cs,t,by rw[h.β i hl,h.heap _ hlt hx];exact h1,bC.ext hg hX h h2,h3⟩
theorem cJ {w w':World} {base:Nat} {e:TypeId} {size n:Nat} {v:Value} {xs:List Value} (h:w.ownsRow base e size v n xs)
  (hh:∀b,v.ownBlock=some b->w'.heap[b]?=w.heap[b]?):w'.ownsRow base e size v n xs:=by
 obtain ⟨h1,h2⟩:=h
 refine ⟨h1,?_⟩
 rcases h2 with h2 | ⟨g,cap,cur,rfl,hb,hc,h3⟩
 ·exact .inl h2
 ·exact .inr ⟨g,cap,cur,rfl,hb,by rw[hh g (by simp[Value.ownBlock])];exact hc,h3⟩
theorem au.mono {w w':World} {Z Z':Nat->Prop} (hZ:∀b,Z b->Z' b) (hw:∀b,Z b->w'.heap[b]?=w.heap[b]?) {e:Sh} :
  ∀{l:List e.T} {xs:List Value},au w Z e l xs->au w' Z' e l xs
 | [],_,h=>h
 | _ ::_,_,⟨c,r,h1,h2,h3⟩=>⟨c,r,h1,Dat.mono hZ hw h2,au.mono hZ hw h3⟩
theorem nI.ext {g:Look} (hg:Glob E g) (hX:fA E X) (h:Ext X E E') {i:Nat} {r:RowI} (hb:nI E i r) (hx:∀b,(E.ρ i).ownBlock=some b->¬ X b):nI E' i r:=by
 obtain ⟨hl,xs,h1,h2⟩:=hb
 refine ⟨h.R i hl,xs,?_,au.mono h.Z (h.zheap hg hX) h2.1,h2.2⟩
 rw[h.ρ i hl,h.w0]
 exact cJ h1 fun b hb=>h.heap b (h1.lt b hb).2 (hx b hb)
theorem cU.mono {w w':World} {Z Z':Nat->Prop} (hZ:∀b,Z b->Z' b) (hw:∀b,Z b->w'.heap[b]?=w.heap[b]?) {k e:Sh} :
  ∀{l:List (k.T×e.T)} {en:List MapEntry},cU w Z k e l en->cU w' Z' k e l en
 | [],_,h=>h
 | _ ::_,_,⟨m,r,h1,h2,⟨cs,h3,h4,h5⟩,h6⟩=>⟨m,r,h1,Dat.mono hZ hw h2,⟨cs,Dat.mono hZ hw h3,h4,h5⟩,cU.mono hZ hw h6⟩
theorem db.mono {w w':World} {Z Z':Nat->Prop} (hZ:∀b,Z b->Z' b) (hw:∀b,Z b->w'.heap[b]?=w.heap[b]?) {k:Sh} :
  ∀{l:List k.T} {en:List MapEntry},db w Z k l en->db w' Z' k l en
 | [],_,h=>h
 | _ ::_,_,⟨m,r,h1,h2,h3,h4⟩=>⟨m,r,h1,Dat.mono hZ hw h2,h3,db.mono hZ hw h4⟩
theorem dq.ext {g:Look} (hg:Glob E g) (hX:fA E X) (h:Ext X E E') {q:Nat} (hq:E.R q):∀{s:Sh} {x:s.T} {cs:List Value},dq E q s x cs->dq E' q s x cs
 | .ref,i,cs,⟨h1,h2,h3⟩=>by
  obtain ⟨_,h4,h5⟩:=h.x q hq
  refine ⟨by rw[h5 i h2];exact h1,Nat.lt_of_lt_of_le h2 h4,by rw[h5 i h2];exact h3⟩
 | .pair a b,x,cs,hd=>by
  simp only[dq] at hd ⊢
  obtain ⟨c1,c2,h1,h2,h3⟩:=hd
  exact ⟨c1,c2,h1,dq.ext hg hX h hq h2,dq.ext hg hX h hq h3⟩
 | .agg e,x,cs,hd=>dq.ext (s:=e) (x:=x) hg hX h hq hd
 | .int _,_,_,hd=>Dat.mono h.Z (h.zheap hg hX) hd
 | .bool,_,_,hd=>Dat.mono h.Z (h.zheap hg hX) hd
 | .str,_,_,hd=>Dat.mono h.Z (h.zheap hg hX) hd
 | .sl _,_,_,hd=>Dat.mono h.Z (h.zheap hg hX) hd
theorem ca.ext {g:Look} (hg:Glob E g) (hX:fA E X) (h:Ext X E E') {q:Nat} (hq:E.R q) {s:Sh}:∀{l:List s.T} {xs:List Value},ca E q s l xs->ca E' q s l xs
 | [],_,hd=>hd
 | _ ::_,_,⟨c,r,h1,h2,h3⟩=>⟨c,r,h1,dq.ext hg hX h hq h2,ca.ext hg hX h hq h3⟩
theorem XOk.ext {g:Look} (hg:Glob E g) (hX:fA E X) (h:Ext X E E') {i:Nat} {x:XI} (hi:g.r i=some (.x x)) (hb:XOk E i x) (hn:E'.ν i=E.ν i) (hx:∀b,E.φ i b->¬ X b):XOk E' i x:=by
 have keep:∀b,E.φ i b->E'.w.heap[b]?=E.w.heap[b]?:=fun b hb'=>h.heap b (hg.xg.own i x b hi hb').2.1 (hx b hb')
 cases x with
 | set t k l =>
  obtain ⟨hr,b,es,ck,h1,h2,h3,h4⟩:=hb
  exact ⟨h.R i hr,b,es,ck,by rw[h.ρ i hr];exact h1,(h.x i hr).1 b h2,by rw[keep b h2];exact h3,db.mono h.Z (h.zheap hg hX) h4⟩
 | map t k e l =>
  obtain ⟨hr,b,es,ck,h1,h2,h3,h4⟩:=hb
  exact ⟨h.R i hr,b,es,ck,by rw[h.ρ i hr];exact h1,(h.x i hr).1 b h2,by rw[keep b h2];exact h3,cU.mono h.Z (h.zheap hg hX) h4⟩
 | tab t s l ti e a =>
  obtain ⟨hr,⟨xs,h1,h2⟩,h3,h4,h5,h6⟩:=hb
  obtain ⟨k1,k2,k3⟩:=h.x i hr
  have lt:∀j l',a[j]?=some (some l')->j<E.ν i:=fun j l' hj=>by have:=(List.getElem?_eq_some_iff.1 hj).1;omega
  refine ⟨h.R i hr,⟨xs,?_,ca.ext hg hX h hr h2⟩,fun b hb'=>k1 b (h3 b (by rw[h.ρ i hr] at hb';exact hb')),h4.trans hn.symm,fun j l' hj=>?_,fun j j' l1 l2 b hj hj' hb1 hb2=>?_⟩
  ·rw[h.ρ i hr,h.w0]
   exact cJ h1 fun b hb'=>keep b (h3 b hb')
  ·obtain ⟨⟨ys,g1,g2⟩,g3,g4⟩:=h5 j l' hj
   rw[jR,k3 j (lt j l' hj),h.ρ i hr,h.w0]
   exact ⟨⟨ys,cJ g1 fun b hb'=>keep b (g4 b hb').1,au.mono h.Z (h.zheap hg hX) g2⟩,g3,fun b hb'=>⟨k1 b (g4 b hb').1,(g4 b hb').2⟩⟩
  ·rw[k3 j (lt j l1 hj)] at hb1
   rw[k3 j' (lt j' l2 hj')] at hb2
   exact h6 j j' l1 l2 b hj hj' hb1 hb2
theorem XGlob.ext {g g':Look} (h:XGlob E g) (hw0:E'.w0=E.w0) (hsz:E.w.heap.size<=E'.w.heap.size) (hx:∀i x,g'.r i=some (.x x)->(∃y,g.r i=some (.x y))/\∀b,E'.φ i b->E.φ i b)
  (hZ:∀b,E'.Z b->E.Z b\/E.w.heap.size<=b\/∃k r,g.r k=some (.some r)/\(E.ρ k).ownBlock=some b)
  (hh:∀j l,g'.h j=some l->E.w.heap.size<=E'.β j\/∃k l',g.h k=some l'/\E.β k=E'.β j)
  (hr:∀j r b,g'.r j=some (.some r)->(E'.ρ j).ownBlock=some b->E.w.heap.size<=b\/∃k r',g.r k=some (.some r')/\(E.ρ k).ownBlock=some b):XGlob E' g':=by
 refine ⟨fun i x b hi hb=>?_,fun i j x y b hi hj hb hb'=>?_⟩
 ·obtain ⟨⟨y,hy⟩,hf⟩:=hx i x hi
  obtain ⟨h1,h2,h3,h4,h5⟩:=h.own i y b hy (hf b hb)
  refine ⟨by rw[hw0];exact h1,Nat.lt_of_lt_of_le h2 hsz,fun hz=>?_,fun j l hj e=>?_,fun j r hj e=>?_⟩
  ·rcases hZ b hz with k | k | ⟨k,r,k1,k2⟩
   ·exact h3 k
   ·omega
   ·exact h5 k r k1 k2
  ·rcases hh j l hj with k | ⟨k,l',k1,k2⟩
   ·omega
   ·exact h4 k l' k1 (k2.trans e)
  ·rcases hr j r b hj e with k | ⟨k,r',k1,k2⟩
   ·omega
   ·exact h5 k r' k1 k2
 ·obtain ⟨⟨x',hx'⟩,f1⟩:=hx i x hi
  obtain ⟨⟨y',hy'⟩,f2⟩:=hx j y hj
  exact h.inj i j x' y' b hx' hy' (f1 b hb) (f2 b hb')
theorem Mod.move {N:Nat} {a a':Act} {g g':Look} (hm:Mod N E a g) (hX:fA E X) (h:Ext X E E') (hg':Glob E' g') (hd:a'.defers=a.defers) (hz:a'.tmps.size=N)
  (hs:∀i s,g'.s i=some s->(g.s i=some s/\a'.tmps[i]?=a.tmps[i]?)\/∃v,a'.tmps[i]?=some v/\fx E' s v)
  (hh:∀i l,g'.h i=some l->(g.h i=some l/\¬ X (E.β i))\/sy E' i l)
  (hr:∀i r,g'.r i=some (.some r)->(g.r i=some (.some r)/\∀b,(E.ρ i).ownBlock=some b->¬ X b)\/nI E' i r)
  (hx:∀i x,g'.r i=some (.x x)->(g.r i=some (.x x)/\E'.ν i=E.ν i/\∀b,E.φ i b->¬ X b)\/XOk E' i x):Mod N E' a' g' where
 glob:=hg'
 nodef:=by rw[hd];exact (h.keep hm.glob hX).marks hm.nodef
 size:=hz
 slots i s hi:=by
  rcases hs i s hi with ⟨h1,h2⟩ | h1
  ·obtain ⟨v,hv,hr⟩:=hm.slots i s h1
   exact ⟨v,h2.trans hv,hr.ext hm.glob hX h⟩
  ·exact h1
 blks i l hi:=by
  rcases hh i l hi with ⟨h1,h2⟩ | h1
  ·exact (hm.blks i l h1).ext hm.glob hX h h2
  ·exact h1
 rows i r hi:=by
  rcases hr i r hi with ⟨h1,h2⟩ | h1
  ·exact (hm.rows i r h1).ext hm.glob hX h h2
  ·exact h1
 xs i x hi:=by
  rcases hx i x hi with ⟨h1,hn,h2⟩ | h1
  ·exact (hm.xs i x h1).ext hm.glob hX h h1 hn h2
  ·exact h1
def Look.setS (g:Look) (d:Nat) (s:Option SlotV):Look:={ g with s:=fun i=>if i=d then s else g.s i }
def Look.setH (g:Look) (b:Nat) (l:List At):Look:={ g with h:=fun i=>if i=b then some l else g.h i }
def Look.setR (g:Look) (k:Nat) (r:RowS):Look:={ g with r:=fun i=>if i=k then some r else g.r i }
theorem Glob.setS {g:Look} {d:Nat} {s:Option SlotV} (h:Glob E g):Glob E (g.setS d s):=⟨h.below,h.zlt,h.z0,h.zfrom,h.live,h.rlive,h.own,h.inj,h.rown,h.rinj,⟨h.xg.own,h.xg.inj⟩⟩
theorem Env.same_x {E:Env}:∀r,E.R r->(∀b,E.φ r b->E.φ r b)/\E.ν r<=E.ν r/\∀i,i<E.ν r->E.ι r i=E.ι r i:=fun _ _=>⟨fun _ h=>h,Nat.le_refl _,fun _ _=>rfl⟩
theorem Ext.refl (E:Env):Ext (fun _=>False) E E:=⟨rfl,rfl,rfl,rfl,fun _ h=>h,fun _ _ _=>rfl,fun _ _=>rfl,fun _ h=>h,fun _ _=>rfl,fun _ h=>h,Env.same_x⟩
theorem fA.none (E:Env):fA E fun _=>False:=fun _ h=>h.elim
theorem Mod.put {N:Nat} {a:Act} {g:Look} (hm:Mod N E a g) {d:Nat} (hd:d<N) {s:SlotV} {v:Value} (hv:fx E s v):Mod N E (a.put (some d) v) (g.setS d (some s)):=by
 refine hm.move (fA.none E) (Ext.refl E) hm.glob.setS (by simp[Act.put]) (by simpa [Act.put] using hm.size) (fun i t hi=>?_) (fun i l hi=>.inl ⟨hi,id⟩) (fun i r hi=>.inl ⟨hi,fun _ _=>id⟩) (fun i x hi=>.inl ⟨hi,rfl,fun _ _=>id⟩)
 simp only[Look.setS] at hi
 split at hi
 ·rename_i h;subst h
  injection hi with hi;subst hi
  refine .inr ⟨v,?_,hv⟩
  simp[Act.put,hm.size,hd]
 ·rename_i h
  exact .inl ⟨hi,by simp[Act.put,Array.getElem?_setIfInBounds_ne (Ne.symm h)]⟩
theorem Mod.forget {N:Nat} {a:Act} {g g':Look} (hm:Mod N E a g) (hs:∀i s,g'.s i=some s->g.s i=some s) (hh:g'.h=g.h) (hr:g'.r=g.r):Mod N E a g':=by
 obtain ⟨gs,gh,gr⟩:=g;obtain ⟨gs',gh',gr'⟩:=g'
 simp only at hh hr;subst hh;subst hr
 exact ⟨⟨hm.glob.below,hm.glob.zlt,hm.glob.z0,hm.glob.zfrom,hm.glob.live,hm.glob.rlive,hm.glob.own,hm.glob.inj,hm.glob.rown,hm.glob.rinj,⟨hm.glob.xg.own,hm.glob.xg.inj⟩⟩,hm.nodef,hm.size,fun i s h=>hm.slots i s (hs i s h),hm.blks,hm.rows,hm.xs⟩
end
end Dn
end Go.Proofs.YtegbncajloeepaaGreat
