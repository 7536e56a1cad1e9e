/- A symbolic executor: worlds that differ in blocks that hold no cells; the contracts of iterators. A symbolic executor: equality of structs, shifts, function values, calls by contract, and the step of one operation. -/
import Derived.RangeFuncCalls
import Derived.RangeFuncSeq
import Derived.Test.YtfknoaclabfdlaaGreatMgG

namespace Go.Proofs.YtfknoaclabfdlaaGreat
namespace Dn
open Go.RowKit
def Nk:Obj->Bool
 | .cells _ _ _=>true
 | .map _ _=>true
 | _=>false
structure Turned (B:Nat) (w w':World):Prop where
 os:w'.os=w.os
 tape:w'.tape=w.tape
 output:w'.output=w.output
 size:w.heap.size<=w'.heap.size
 block:∀k,k<w.heap.size->w'.heap[k]?=w.heap[k]?\/(B<=k/\∀o,w.heap[k]?=some o->Nk o=false)
theorem Turned.refl (B:Nat) (w:World):Turned B w w:=⟨rfl,rfl,rfl,Nat.le_refl _,fun _ _=>.inl rfl⟩
theorem Turned.trans {B:Nat} {w w' w'':World} (h:Turned B w w') (h':Turned B w' w''):Turned B w w'':=by
 refine ⟨h'.os.trans h.os,h'.tape.trans h.tape,h'.output.trans h.output,Nat.le_trans h.size h'.size,fun k hk=>?_⟩
 rcases h.block k hk with h1 | h1
 ·rcases h'.block k (Nat.lt_of_lt_of_le hk h.size) with h2 | ⟨h2,h3⟩
  ·exact .inl (h2.trans h1)
  ·exact .inr ⟨h2,fun o ho=>h3 o (h1.trans ho)⟩
 ·exact .inr h1
theorem Turned.alloc (B:Nat) (w:World) (o:Obj):Turned B w (w.alloc o) :=
 ⟨rfl,rfl,rfl,by simp,fun k hk=>.inl (Below.heap_alloc w o k hk)⟩
theorem Turned.putObj {B:Nat} {w:World} {L:Nat} {o:Obj} (o':Obj) (hB:B<=L) (hL:w.heap[L]?=some o) (ho:Nk o=false):Turned B w (w.putObj L o'):=by
 refine ⟨rfl,rfl,rfl,by simp,fun k _=>?_⟩
 by_cases e:k=L
 ·subst e
  exact .inr ⟨hB,fun o2 h2=>by rw[hL] at h2;cases h2;exact ho⟩
 ·exact .inl (World.putObj_heap_other e)
theorem Turned.mono {B B':Nat} {w w':World} (h:Turned B w w') (hb:B'<=B):Turned B' w w' :=
 ⟨h.os,h.tape,h.output,h.size,fun k hk=>(h.block k hk).imp id fun ⟨h1,h2⟩=>⟨Nat.le_trans hb h1,h2⟩⟩
theorem Turned.cells {B:Nat} {w w':World} (h:Turned B w w') {k:Nat} {o:Obj} (hk:w.heap[k]?=some o) (ho:Nk o=true):w'.heap[k]?=w.heap[k]?:=by
 rcases h.block k (Array.getElem?_eq_some_iff.1 hk).1 with h1 | ⟨_,h1⟩
 ·exact h1
 ·rw[h1 o hk] at ho;cases ho
theorem Turned.cell {B:Nat} {w w':World} (h:Turned B w w') {a:Addr} {v:Value} (hv:w.cell? a=some v):w'.cell? a=some v:=by
 obtain ⟨o,ho,hc⟩:=cells_of_cell hv
 exact (World.cell?_of_block (h.cells ho (by cases o<;>first | rfl | cases hc))).trans hv
theorem Turned.below {B:Nat} {w0 w w':World} (h:Turned B w w') (hb:Below B w0 w) (hB:B<=w.heap.size):Below B w0 w' :=
 ⟨h.os.trans hb.os,h.tape.trans hb.tape,h.output.trans hb.output,Nat.le_trans hb.size h.size,fun k hk=>by
  rcases h.block k (by omega) with h1 | ⟨h1,_⟩
  ·exact h1.trans (hb.block k hk)
  ·omega⟩
structure ICtr where
 caps:List Sh
 e:List Sh
 p:TsS caps->Bool
 m:TsS caps->List (TsS e)
def Bi (w:World) (Z:Nat->Prop):(l:List Sh)->TsS l->List Addr->Prop
 | [],_,ads=>ads=[]
 | s ::r,x,ads=>∃ad ads',ads=ad ::ads'/\(∃cs,Dat w Z s x.1 cs/\∀j v,cs[j]?=some v->w.cell? (ad.add j)=some v)/\Bi w Z r x.2 ads'
def ICtr.ok (c:ICtr) (P:Program) (g:FuncId):Prop:=∀(l:Nat) (x:TsS c.caps) (ads:List Addr) (J:Nat->World->Prop) (Jx:World->Prop) (W:World),c.p x=true ->
 (∀k W W',J k W->Turned W.heap.size W W'->J k W')->(∀W W',Jx W->Turned W.heap.size W W'->Jx W') ->
 (∀k W,J k W->∃Z:Nat->Prop,Bi W Z c.caps x ads) ->
 (∃Z:Nat->Prop,Bi W Z c.caps x ads/\∀(s:Sh) (y:s.T) (cs:List Value),Dat W Z s y cs->∀k W',J k W'->∃Z':Nat->Prop,Dat W' Z' s y cs) ->
 (∀k (y:TsS c.e) (vals:List Value) W,(c.m x)[k]?=some y->J k W->(∀Z,dP W Z c.e y vals)->YieldAt Fence.wide 0 P l vals.toArray W fun e W'=>(e=.returned (.bool true)/\J (k+1) W')\/(e=.returned (.bool false)/\Jx W')) ->
 J 0 W->CallsIn Fence.wide 0 P g (#[.func (.yield l) #[] #[]]++(ads.map fun a=>Value.pointer (some a)).toArray) W fun e W'=>(∃v,e=.returned v)/\(J (c.m x).length W'\/Jx W')
structure Ctx where
 P:Program
 sh:TypeId->Option Sh
 ctr:FuncId->Option Ctr
 inl:FuncId->Bool:=fun _=>false
 rctr:FuncId->Option RCtr:=fun _=>none
 it:FuncId->Option ICtr:=fun _=>none
 fctr:FuncId->Option FCtr:=fun _=>none
 pctr:FuncId->Option PCtr:=fun _=>none
 mctr:FuncId->Option MCtr:=fun _=>none
 tb:TypeId->Option XP:=fun _=>none
 lit:String->Bool:=fun _=>false
 wctr:FuncId->Option WCtr:=fun _=>none
structure Ctx.ok (C:Ctx):Prop where
 ctr:∀id c,C.ctr id=some c->cS C.P id=true/\c.ok C.P id
 inl:∀id,C.inl id=true->cS C.P id=true
 rctr:∀id c,C.rctr id=some c->cS C.P id=true/\c.ok C.P id
 it:∀id c,C.it id=some c->cS C.P id=true/\c.ok C.P id
 fctr:∀id c,C.fctr id=some c->cS C.P id=true/\c.ok C.P id
 pctr:∀id c,C.pctr id=some c->cS C.P id=true/\c.ok C.P id
 mctr:∀id c,C.mctr id=some c->cS C.P id=true/\c.ok C.P id
 wctr:∀id c,C.wctr id=some c->cS C.P id=true/\c.ok C.P id
section
variable {P:Program} {N:Nat} {g:Look} {E:Env} {a:Act} {o:Oper}
def IM (P:Program) (rec:TypeId->Value->Value->Option Bool) (xs ys:Array Value):List Field->Option Bool
 | []=>some true
 | f :: r => match f.name == "_" with
  | true=>IM P rec xs ys r
  | false=>match vO P (part f.type xs f.offset),vO P (part f.type ys f.offset) with
   | some x,some y=>match rec f.type x y,IM P rec xs ys r with
    | some p,some q=>some (p&&q)
    | _,_=>none
   | _,_=>none
def CB (P:Program) (rec:TypeId->Value->Value->Option Bool) (e:TypeId) (c:Nat) (xs ys:Array Value):List Nat->Option Bool
 | []=>some true
 | i ::r=>match vO P (part e xs (i*c)),vO P (part e ys (i*c)) with
  | some x,some y=>match rec e x y,CB P rec e c xs ys r with
   | some p,some q=>some (p&&q)
   | _,_=>none
  | _,_=>none
def OB:Nat->Nat->List Nat
 | _,0=>[]
 | i,n+1=>i ::OB (i+1) n
theorem Hi:∀{n i:Nat},OB i n=List.range' i n
 | 0,_=>rfl
 | n+1,i=>by rw[OB,List.range'_succ,Hi]
def eqS (P:Program):Nat->TypeId->Value->Value->Option Bool
 | 0,_,_,_=>none
 | d+1,t,x,y=>match P.underlying t with
  | some (.int _)=>match x,y with
   | .int k m,.int k' n=>match decide (k=k') with
    | true=>some (m ==n)
    | false=>none
   | _,_=>none
  | some .bool=>match x,y with
   | .bool m,.bool n=>some (m ==n)
   | _,_=>none
  | some .string=>match x,y with
   | .string m,.string n=>some (m ==n)
   | _,_=>none
  | some (.struct fs)=>match x,y with
   | .agg xs,.agg ys=>match P.stoodInHeld t with
    | true=>none
    | false=>IM P (eqS P d) xs ys fs.toList
   | _,_=>none
  | some (.array n e)=>match x,y,P.info? e with
   | .agg xs,.agg ys,some i=>CB P (eqS P d) e i.size xs ys (OB 0 n)
   | _,_,_=>none
  | _=>none
theorem xm {d:Nat} {rec:TypeId->Value->Value->Option Bool} (hrec:∀t x y b,rec t x y=some b->∀w,(Op.equalIn d t x y).run P w=.ok b w) (xs ys:Array Value) :
  ∀(fs:List Field) (b:Bool),IM P rec xs ys fs=some b->∀w,(Op.eqFields d xs ys fs).run P w=.ok b w
 | [],b,h,w=>by simp only[IM] at h;injection h with h;subst h;rfl
 | f ::r,b,h,w=>by
  simp only[IM] at h
  split at h
  ·rename_i hn
   have hn : f.name = "_" := by simpa using hn
   simp only[Op.eqFields,hn,ne_eq,not_true_eq_false,if_false]
   exact xm hrec xs ys r b h w
  ·rename_i hn
   have hn : ¬ f.name = "_" := by simpa using hn
   split at h
   ·rename_i x y hx hy
    split at h
    ·rename_i p q hp hq
     injection h with h
     subst h
     simp only[Op.eqFields,ne_eq,hn,not_false_eq_true,if_true,Sem.run_bind,kw hx,kw hy,Result.andThen_ok,hrec _ _ _ _ hp]
     cases p
     ·simp
     ·simp only[Bool.not_true,Bool.false_eq_true,if_false,Bool.true_and]
      exact xm hrec xs ys r q hq w
    ·cases h
   ·cases h
theorem zR {d:Nat} {rec:TypeId->Value->Value->Option Bool} (hrec:∀t x y b,rec t x y=some b->∀w,(Op.equalIn d t x y).run P w=.ok b w) (e:TypeId) (c:Nat) (xs ys:Array Value) :
  ∀(l:List Nat) (b:Bool),CB P rec e c xs ys l=some b->∀w,(Op.eqItems d e c xs ys l).run P w=.ok b w
 | [],b,h,w=>by simp only[CB] at h;injection h with h;subst h;rfl
 | i ::r,b,h,w=>by
  simp only[CB] at h
  split at h
  ·rename_i x y hx hy
   split at h
   ·rename_i p q hp hq
    injection h with h
    subst h
    simp only[Op.eqItems,Sem.run_bind,kw hx,kw hy,Result.andThen_ok,hrec _ _ _ _ hp]
    cases p
    ·simp
    ·simp only[Bool.not_true,Bool.false_eq_true,if_false,Bool.true_and]
     exact zR hrec e c xs ys r q hq w
   ·cases h
  ·cases h
theorem wA:∀{d:Nat} {t:TypeId} {x y:Value} {b:Bool},eqS P d t x y=some b->∀w,(Op.equalIn d t x y).run P w=.ok b w
 | 0,_,_,_,_,h,_=>by cases h
 | d+1,t,x,y,b,h,w=>by
  simp only[eqS] at h
  split at h
  ·rename_i hu
   split at h
   ·split at h
    ·rename_i hk
     have hk:=z12 hk
     subst hk
     injection h with h;subst h
     exact run_equalIn_int w d t _ _ _ _ hu
    ·cases h
   ·cases h
  ·rename_i hu
   split at h
   ·injection h with h;subst h
    exact run_equalIn_bool' w d t _ _ hu
   ·cases h
  ·rename_i hu
   split at h
   ·injection h with h;subst h
    rw[beq_toListBytes]
    exact run_equalIn_string w d t _ _ hu
   ·cases h
  ·rename_i fs hu
   split at h
   ·rename_i xs ys
    split at h
    ·cases h
    ·rename_i hs
     have hf:P.fieldsOf t=fs:=by simp[Program.fieldsOf,hu]
     rw[run_equalIn_struct w d t xs ys (by rw[hf];exact hu) hs,hf]
     exact xm (fun _ _ _ _ h w=>wA h w) xs ys fs.toList b h w
   ·cases h
  ·rename_i n e hu
   split at h
   ·rename_i xs ys i hi
    rw[run_equalIn_array w d xs ys hu hi,show P.cellsOf e=i.size by simp[Program.cellsOf,hi],List.range_eq_range',<-Hi]
    exact zR (fun _ _ _ _ h w=>wA h w) e i.size xs ys _ b h w
   ·cases h
  ·cases h
def eqC (P:Program) (get:Operand->Option SV) (o:Oper):Option Core:=match o.op with
 | .binOp .eql t x y _=>match lJ get x,lJ get y with
  | some (.agg xs),some (.agg ys)=>match P.eqGuardType P.depth t,eqS P 10000 t (.agg xs) (.agg ys) with
   | false,some b=>some ⟨.c false [.v (.bool b)],.none,[]⟩
   | _,_=>none
  | _,_=>xE P get o
 | .binOp .neq t x y _=>match lJ get x,lJ get y with
  | some (.agg xs),some (.agg ys)=>match P.eqGuardType P.depth t,eqS P 10000 t (.agg xs) (.agg ys) with
   | false,some b=>some ⟨.c false [.v (.bool !b)],.none,[]⟩
   | _,_=>none
  | _,_=>xE P get o
 | _=>none
theorem Js {get:Operand->Option SV} {r:Core} (h:eqC P get o=some r) (hg:fk E a get o) (hm:Mod N E a g):al P N g E a o r:=by
 unfold eqC at h
 split at h
 ·rename_i t x y t' ho
  split at h
  ·rename_i xs ys hx hy
   split at h
   ·rename_i b hgd hb
    injection h with h
    subst h
    have e1:=dJ hg (by simp[ho,Op.operands]) hx
    have e2:=dJ hg (by simp[ho,Op.operands]) hy
    refine al.value (E':=E) (v:=.bool b) ?_ rfl (Keep.refl E) hm ⟨[_],rfl,⟨rfl,trivial⟩,fun _=>rfl⟩
    simp only[execOp,ho,e1,e2,Sem.run_bind,run_eqGuard_agg E.w _ t _ _ xs ys hgd,Result.andThen_ok,run_eql_struct,wA hb E.w,Sem.run_pure]
   ·cases h
  ·exact pX h hg hm
 ·rename_i t x y t' ho
  split at h
  ·rename_i xs ys hx hy
   split at h
   ·rename_i b hgd hb
    injection h with h
    subst h
    have e1:=dJ hg (by simp[ho,Op.operands]) hx
    have e2:=dJ hg (by simp[ho,Op.operands]) hy
    refine al.value (E':=E) (v:=.bool !b) ?_ rfl (Keep.refl E) hm ⟨[_],rfl,⟨rfl,trivial⟩,fun _=>rfl⟩
    simp only[execOp,ho,e1,e2,Sem.run_bind,run_eqGuard_agg E.w _ t _ _ xs ys hgd,Result.andThen_ok,run_neq_struct,wA hb E.w,Sem.run_pure]
   ·cases h
  ·exact pX h hg hm
 ·cases h
def BF (get:Operand->Option SV) (o:Oper):Option Core:=match o.op with
 | .binOp .shl _ x y _=>match lJ get x,lJ get y with
  | some (.int k m),some (.int _ n)=>some ⟨.c false [.v (.int k (k.wrap (m*2 ^ (min n.toNat k.bits))))],.none,[decide (0<=n)]⟩
  | _,_=>none
 | .binOp .shr _ x y _=>match lJ get x,lJ get y with
  | some (.int k m),some (.int _ n)=>some ⟨.c false [.v (.int k (m.fdiv (2 ^ (min n.toNat k.bits))))],.none,[decide (0<=n)]⟩
  | _,_=>none
 | _=>none
theorem zn {get:Operand->Option SV} {r:Core} (h:BF get o=some r) (hg:fk E a get o) (hm:Mod N E a g) (hp:fp r.p=true):al P N g E a o r:=by
 unfold BF at h
 split at h
 ·rename_i t x y t' ho
  split at h
  ·rename_i k m k' n hx hy
   injection h with h
   subst h
   have e1:=dJ hg (by simp[ho,Op.operands]) hx
   have e2:=dJ hg (by simp[ho,Op.operands]) hy
   have hn:¬ n<0:=by have:0<=n:=z12 hp;omega
   refine al.value (E':=E) ?_ rfl (Keep.refl E) hm ⟨[_],rfl,⟨rfl,trivial⟩,fun _=>rfl⟩
   simp[execOp,ho,e1,e2,eqGuard,binOp,Op.shift,hn,mkV]
  ·cases h
 ·rename_i t x y t' ho
  split at h
  ·rename_i k m k' n hx hy
   injection h with h
   subst h
   have e1:=dJ hg (by simp[ho,Op.operands]) hx
   have e2:=dJ hg (by simp[ho,Op.operands]) hy
   have hn:¬ n<0:=by have:0<=n:=z12 hp;omega
   refine al.value (E':=E) ?_ rfl (Keep.refl E) hm ⟨[_],rfl,⟨rfl,trivial⟩,fun _=>rfl⟩
   simp[execOp,ho,e1,e2,eqGuard,binOp,Op.shift,hn,mkV]
  ·cases h
 ·cases h
def Df (get:Operand->Option SV):List Operand->Option (List (Nat×Nat))
 | []=>some []
 | x ::r=>match get x,Df get r with
  | some (.c false [.ptr b off]),some l=>some ((b,off) ::l)
  | _,_=>none
theorem Ai {get:Operand->Option SV}:∀{xs:List Operand} {l:List (Nat×Nat)},Df get xs=some l->(∀x ∈ xs,∀s,get x=some s->cq E s (a.eval x)) ->
  xs.map a.eval=l.map (fU E.β)/\∀p ∈ l,E.L p.1
 | [],l,h,_=>by simp only[Df] at h;injection h with h;subst h;exact ⟨rfl,fun p hp=>by cases hp⟩
 | x ::r,l,h,hg=>by
  simp only[Df] at h
  split at h
  ·rename_i b off l' hx hr
   injection h with h
   subst h
   obtain ⟨h1,h2⟩:=Ai hr fun y hy=>hg y (by simp[hy])
   obtain ⟨cs,hv,hc,_⟩:=hg x (by simp) _ hx
   match cs,hc with
   | [z],hc =>
    obtain ⟨hz,hl⟩:=hc.1
    refine ⟨by simp[h1,hv,mkV,hz],fun p hp=>?_⟩
    rcases List.mem_cons.1 hp with rfl | hp
    ·exact hl
    ·exact h2 p hp
  ·cases h
def Kf (get:Operand->Option SV) (o:Oper):Option Core:=match o.op with
 | .makeFunc (.func f) first caps=>match first.toList,caps.toList with
  | [],[]=>some ⟨.c false [.v (.func (.func f) #[] #[])],.none,[]⟩
  | [],c ::cs=>match Df get (c ::cs) with
   | some l=>some ⟨.c false [.clo f l],.none,[]⟩
   | none=>none
  | _,_=>none
 | _=>none
theorem Mw {get:Operand->Option SV} {r:Core} (h:Kf get o=some r) (hg:fk E a get o) (hm:Mod N E a g):al P N g E a o r:=by
 unfold Kf at h
 split at h
 ·rename_i f first caps ho
  split at h
  ·rename_i h1 h2
   injection h with h
   subst h
   have h1:first=#[]:=by simpa using h1
   have h2:caps=#[]:=by simpa using h2
   refine al.value (E':=E) ?_ rfl (Keep.refl E) hm ⟨[_],rfl,⟨rfl,trivial⟩,fun _=>rfl⟩
   simp[execOp,ho,h1,h2,Instr.makeFunc,mkV]
  ·rename_i c cs h1 h2
   split at h
   ·rename_i l hl
    injection h with h
    subst h
    have h1:first=#[]:=by simpa using h1
    have h2':caps=(c ::cs).toArray:=by rw[<-h2]
    obtain ⟨e1,e2⟩:=Ai hl fun x hx s hs=>hg x s (by rw[ho];simp only[Op.operands];rw[Array.mem_append];right;rw[h2'];simpa using hx) hs
    refine al.value (E':=E) (v:=.func (.func f) #[] (l.map (fU E.β)).toArray) ?_ rfl (Keep.refl E) hm ⟨[_],rfl,⟨⟨rfl,e2⟩,trivial⟩,fun _=>rfl⟩
    have e3:caps.map a.eval=(l.map (fU E.β)).toArray:=by rw[h2',<-e1];simp
    simp[execOp,ho,h1,Instr.makeFunc,e3]
   ·cases h
  ·cases h
 ·cases h
def shs?:(a b:List Sh)->Option (PLift (a=b))
 | [],[]=>some ⟨rfl⟩
 | x ::r,y ::r'=>match Sh.eq? x y,shs? r r' with
  | some ⟨h⟩,some ⟨h'⟩=>some ⟨by rw[h,h']⟩
  | _,_=>none
 | _,_=>none
def mY:(as:List Sh)->List SV->Option (TsS as×List SV)
 | [],l=>some ((),l)
 | s ::r,v ::l=>match s.whole v,mY r l with
  | some x,some (y,l')=>some ((x,y),l')
  | _,_=>none
 | _ ::_,[]=>none
def mE (s:Sh) (l:List At):Option s.T:=match s.take l with
 | some (x,[])=>some x
 | _=>none
def jK (rk:Rk) (bk:Nat->Option (List At)):(cs:List Sh)->List (Nat×Nat)->Option (TsS cs)
 | [],[]=>some ()
 | s ::r,p ::l=>match Nat.beq p.2 0,bk p.1,jK rk bk r l with
  | true,some b,some y=>match mE s (jJ rk b) with
   | some x=>some (x,y)
   | none=>none
  | _,_,_=>none
 | _,_=>none
def Ctr.asFn (c:Ctr) (a:List Sh) (r:Sh) (y:TsS c.cs):Option (FnT a r):=match c,y with
 | ⟨as,[],_,.one r',m⟩,y=>match shs? as a,Sh.eq? r' r with
  | some ⟨h⟩,some ⟨h'⟩=>some (h ▸ h' ▸ ((fun x=>m x () y):FnT as r'))
  | _,_=>none
 | _,_=>none
def ud:SV->Option (FuncId×List (Nat×Nat))
 | .c false [.v (.func (.func id) ⟨[]⟩ ⟨[]⟩)]=>some (id,[])
 | .c false [.clo id cap]=>some (id,cap)
 | _=>none
def L9 (a:List Sh) (r:Sh):SV->Option (FnT a r)
 | .c false [.fn a' r' F]=>match shs? a' a,Sh.eq? r' r with
  | some ⟨h⟩,some ⟨h'⟩=>some (h ▸ h' ▸ F)
  | _,_=>none
 | _=>none
def iC (bk:Nat->Option (List At)):List (Nat×Nat)->List Nat
 | []=>[]
 | p ::l=>match bk p.1 with
  | some b=>eo b++iC bk l
  | none=>iC bk l
def wS (bk:Nat->Option (List At)) (v:SV):List Nat:=match ud v with
 | some (_,cap)=>iC bk cap
 | none=>[]
def lx (bk:Nat->Option (List At)):List SV->List Nat
 | []=>[]
 | v ::l=>wS bk v++lx bk l
def K7 (C:Ctx) (rk:Rk) (bk:Nat->Option (List At)) (a:List Sh) (r:Sh) (v:SV):Option (FnT a r):=match ud v with
 | some (id,cap)=>match C.ctr id with
  | some c=>match jK rk bk c.cs cap with
   | some y=>c.asFn a r y
   | none=>none
  | none=>none
 | none=>none
def LH (C:Ctx) (rk:Rk) (bk:Nat->Option (List At)) (a:List Sh) (r:Sh) (v:SV):Option (FnT a r):=match L9 a r v with
 | some F=>some F
 | none=>K7 C rk bk a r v
def A4 (C:Ctx) (rk:Rk) (bk:Nat->Option (List At)):(fs:List (List Sh×Sh))->List SV->Option (TsF fs)
 | [],[]=>some ()
 | f ::r,v ::l=>match LH C rk bk f.1 f.2 v,A4 C rk bk r l with
  | some x,some y=>some (x,y)
  | _,_=>none
 | _,_=>none
def Hx (get:Operand->Option SV):List Operand->Option (List SV)
 | []=>some []
 | x ::r=>match get x,Hx get r with
  | some s,some l=>some (s ::l)
  | _,_=>none
def ly (u:List Nat) (flat:Bool):Eff:=match u,flat with
 | [],_=>.none
 | _,true=>.none
 | u,false=>.rkill u
def GU:Eff->Bool
 | .none=>true
 | _=>false
def jV (bk:Nat->Option (List At)) (l:List SV) (cap:List (Nat×Nat)):List Nat:=ig l++(iC bk cap++lx bk l)
def Rs:List (Nat×Nat)->List SV
 | []=>[]
 | p ::l=>.c false [.ptr p.1 p.2] ::Rs l
def Qj (rk:Rk) (b:Nat) (l:List SV) (c:RCtr):Option Cor:=match mY c.as (nz rk l),rk b with
 | some (x,[]),none=>match c.e.flat||(ig l).isEmpty with
  | true=>some (.call (List c.e.T) [] (jW (nS rk (ig l)) (c.m x)) (fun _=>.c false [.row b]) (fun l=>.row b ⟨c.t,c.e,l.length,l⟩ none) false)
  | false=>none
 | _,_=>none
def Qm (rk:Rk) (b:Nat) (l:List SV) (c:WCtr):Option Cor:=match mY c.as l,rk b with
 | some (x,[]),none=>some (.call (List c.e.T×c.s.T) ([],c.s.dflt) (c.m x) (fun z=>.c true (.row b ::c.s.cells z.2)) (fun z=>.row b ⟨c.t,c.e,z.1.length,z.1⟩ none) false)
 | _,_=>none
def or3 (a b c:Option Cor):Option Cor:=match a with
 | some r=>some r
 | none=>match b with
  | some r=>some r
  | none=>c
theorem HS {a b c:Option Cor} {r:Cor} (h:or3 a b c=some r):a=some r\/b=some r\/c=some r:=by
 unfold or3 at h
 split at h
 ·exact .inl h
 ·split at h
  ·exact .inr (.inl h)
  ·exact .inr (.inr h)
def JL (C:Ctx) (bk:Nat->Option (List At)) (rk:Rk) (id:FuncId) (cap:List (Nat×Nat)) (l:List SV):Option Cor:=match C.ctr id with
 | some c=>match mY c.as (nz rk l),jK rk bk c.cs cap with
  | some (x,l'),some y=>match A4 C rk bk c.fs l' with
   | some F=>some (.call c.r.T c.r.dflt (jW (nS rk (jV bk l cap)) (c.m x F y)) (It c.r) (fun _=>ly (jV bk l cap) c.r.flat) (GU (ly (jV bk l cap) c.r.flat)))
   | none=>none
  | _,_=>none
 | none=>none
def BH (bk:Nat->Option (List At)) (rk:Rk) (s:Sh):SV->Option (s.T×List Nat)
 | .c false [.ptr b 0]=>match bk b with
  | some l=>match mE s (jJ rk l) with
   | some x=>some (x,eo l)
   | none=>none
  | none=>none
 | .c false [.rf s' x 0]=>match Sh.eq? s' s with
  | some ⟨h⟩=>some (h ▸ x,[])
  | none=>none
 | _=>none
def Ez (C:Ctx) (bk:Nat->Option (List At)) (rk:Rk) (id:FuncId) (cap:List (Nat×Nat)) (l:List SV):Option Cor:=match C.pctr id,cap,l with
 | some c,[],v ::l=>match BH bk rk c.s v,mY c.as (nz rk l),c.r.flat with
  | some (x,u),some (y,[]),true=>some (.call c.r.T c.r.dflt (jW (nS rk (u++ig l)) (c.m x y)) (It c.r) (fun _=>.none) true)
  | _,_,_=>none
 | _,_,_=>none
def FSs (C:Ctx) (bk:Nat->Option (List At)) (id:FuncId) (cap:List (Nat×Nat)) (l:List SV):Option Cor:=match C.mctr id,cap,l with
 | some c,[],.c false [.ptr b 0] ::l=>match bk b with
  | some cs=>match mE c.s cs,mY c.as l,c.s.flat&&c.r.flat with
   | some x,some (y,[]),true=>some (.call (c.s.T×c.r.T) (c.s.dflt,c.r.dflt) (c.m x y) (fun t=>It c.r t.2) (fun t=>.store b (c.s.cells t.1)) false)
   | _,_,_=>none
  | none=>none
 | _,_,_=>none
def P1 (C:Ctx) (bk:Nat->Option (List At)) (rk:Rk) (b:Nat) (id:FuncId) (cap:List (Nat×Nat)) (l:List SV):Option Cor:=match or3 (JL C bk rk id cap l) (Ez C bk rk id cap l) (FSs C bk id cap l) with
 | some r=>some r
 | none=>match C.fctr id with
  | some c=>match cap,mY c.as l with
   | [],some (x,[])=>some (.call (FnT c.a c.r) (fun _=>none) (c.m x) (fun F=>.c false [.fn c.a c.r F]) (fun _=>.none) true)
   | _,_=>none
  | none=>match C.rctr id with
   | some c=>match cap with
    | []=>Qj rk b l c
    | _=>none
   | none=>match C.wctr id with
    | some c=>match cap with
     | []=>Qm rk b l c
     | _=>none
    | none=>match C.inl id with
     | true=>some (.inl id (l++Rs cap))
     | false=>none
def Jj (C:Ctx) (get:Operand->Option SV) (bk:Nat->Option (List At)) (rk:Rk) (b:Nat) (f:Operand) (xs:Array Operand):Option Cor:=match get f with
 | some fv=>match ud fv,Hx get xs.toList with
  | some (id,cap),some l=>P1 C bk rk b id cap l
  | _,_=>none
 | none=>none
theorem kB (hm:Mod N E a g) {rk:Rk} (hrk:∀i r,rk i=some r->g.r i=some r) {u:List Nat} (hlv:∀r ∈ u,jP rk r):∀{l:List SV} {vs:List Value},fc E l vs->(∀r ∈ ig l,r ∈ u)->fc (E.zone g u) (nz rk l) vs
 | [],[],_,_=>trivial
 | _ ::_,_ ::_,h,hu=>⟨qX hm hrk hlv h.1 fun r hr=>hu r (List.mem_append_left _ hr),kB hm hrk hlv h.2 fun r hr=>hu r (List.mem_append_right _ hr)⟩
 | [],_ ::_,h,_=>h.elim
 | _ ::_,[],h,_=>h.elim
theorem HW {w:World} {Z Z':Nat->Prop} (hZ:∀b,Z b->Z' b) {r:RSh} {x:r.T} {v:Value} (h:mI w Z r x v):mI w Z' r x v:=by
 have one:∀{s:Sh} {x:s.T} {v:Value},oz w Z s x v->oz w Z' s x v:=fun ⟨cs,h1,h2,h3⟩=>⟨cs,Dat.mono hZ (fun _ _=>rfl) h1,h2,h3⟩
 cases r with
 | one s=>exact one h
 | tup l =>
  obtain ⟨vs,h1,h2⟩:=h
  refine ⟨vs,h1,?_⟩
  clear h1
  induction l generalizing vs with
  | nil=>exact h2
  | cons s r ih =>
   simp only[dP] at h2 ⊢
   obtain ⟨v,vs',h3,h4,h5⟩:=h2
   exact ⟨v,vs',h3,one h4,ih (x:=x.2) vs' h5⟩
theorem xX {get:Operand->Option SV}:∀{xs:List Operand} {l:List SV},Hx get xs=some l->(∀x ∈ xs,∀s,get x=some s->cq E s (a.eval x))->fc E l (xs.map a.eval)
 | [],l,h,_=>by simp only[Hx] at h;injection h with h;subst h;trivial
 | x ::r,l,h,hg=>by
  simp only[Hx] at h
  split at h
  ·rename_i s l' hs hl
   injection h with h
   subst h
   exact ⟨hg x (by simp) s hs,xX hl fun y hy=>hg y (by simp[hy])⟩
  ·cases h
theorem jy:∀{as:List Sh} {l l':List SV} {x:TsS as} {vs:List Value},mY as l=some (x,l')->fc E l vs->∃vs1 vs2,vs=vs1++vs2/\dP E.w E.Z as x vs1/\fc E l' vs2
 | [],l,l',x,vs,h,hr=>by
  simp only[mY,Option.some.injEq,Prod.mk.injEq] at h
  obtain ⟨_,rfl⟩:=h
  exact ⟨[],vs,rfl,rfl,hr⟩
 | s ::r,v ::l,l',x,vs,h,hr=>by
  simp only[mY] at h
  split at h
  ·rename_i y z l'' hy hz
   simp only[Option.some.injEq,Prod.mk.injEq] at h
   obtain ⟨rfl,rfl⟩:=h
   match vs,hr with
   | u ::vs,hr =>
    obtain ⟨vs1,vs2,rfl,h1,h2⟩:=jy hz hr.2
    exact ⟨u ::vs1,vs2,rfl,by simp only[dP];exact ⟨u,vs1,rfl,hH hy hr.1,h1⟩,h2⟩
  ·cases h
 | _ ::_,[],_,_,_,h,_=>by cases h
theorem Gh (hm:Mod N E a g) {bk:Nat->Option (List At)} (hbk:∀i l,bk i=some l->g.h i=some l) {rk:Rk} (hrk:∀i r,rk i=some r->g.r i=some r) {u:List Nat} (hlv:∀r ∈ u,jP rk r) {s:Sh} {i:Nat} {l:List At} {x:s.T} (hb:bk i=some l) (hx:mE s (jJ rk l)=some x)
  (hu:∀r ∈ eo l,r ∈ u) {w':World} {Z':Nat->Prop} (hw:Below E.w.heap.size E.w w') (hZ:∀b,E.zp g u b->Z' b):Tw w' Z' s x (fU E.β (i,0)):=by
 obtain ⟨_,cs,t,hh,hr0,_⟩:=hm.blks i l (hbk i l hb)
 have hr:=lY hm hrk (u:=u) hlv hr0 hu
 unfold mE at hx
 split at hx
 ·rename_i y hy
  injection hx with hx
  subst hx
  obtain ⟨c1,c2,rfl,hd,h2⟩:=dL hy hr
  match c2,h2 with
  | [],_ =>
   have hlt:=hm.blk_lt (hbk i l hb)
   rw[List.append_nil] at hh
   refine ⟨E.β i,c1,rfl,Nat.lt_of_lt_of_le hlt hw.size,Dat.mono hZ (fun b hb'=>hw.block b (zE hm u b hb')) hd,fun j u hj=>?_⟩
   simp[World.cell?,hw.block _ hlt,hh,hj]
 ·cases hx
theorem sy {bk:Nat->Option (List At)} {p:Nat×Nat} {l:List (Nat×Nat)} {b:List At} (h:bk p.1=some b):iC bk (p ::l)=eo b++iC bk l:=by simp[iC,h]
theorem oo (hm:Mod N E a g) {bk:Nat->Option (List At)} (hbk:∀i l,bk i=some l->g.h i=some l) {rk:Rk} (hrk:∀i r,rk i=some r->g.r i=some r) {u:List Nat} (hlv:∀r ∈ u,jP rk r) {w':World} {Z':Nat->Prop} (hw:Below E.w.heap.size E.w w') (hZ:∀b,E.zp g u b->Z' b) :
  ∀{cs:List Sh} {cap:List (Nat×Nat)} {y:TsS cs},jK rk bk cs cap=some y->(∀r ∈ iC bk cap,r ∈ u)->nG w' Z' cs y (cap.map (fU E.β))
 | [],[],_,_,_=>rfl
 | s ::r,p ::l,y,h,hu=>by
  simp only[jK] at h
  split at h
  ·rename_i b z h0 hb hz
   split at h
   ·rename_i x hx
    injection h with h
    subst h
    rw[sy hb] at hu
    obtain ⟨i,off⟩:=p
    have h0:off=0:=by simpa using h0
    subst h0
    simp only[List.map_cons,nG]
    exact ⟨_,_,rfl,Gh hm hbk hrk hlv hb hx (fun r hr=>hu r (List.mem_append_left _ hr)) hw hZ,oo hm hbk hrk hlv hw hZ hz fun r hr=>hu r (List.mem_append_right _ hr)⟩
   ·cases h
  ·cases h
 | [],_ ::_,_,h,_=>by cases h
 | _ ::_,[],_,h,_=>by cases h
theorem ua {v:SV} {id:FuncId} {cap:List (Nat×Nat)} {y:Value} (h:ud v=some (id,cap)) (hv:cq E v y):y=.func (.func id) #[] (cap.map (fU E.β)).toArray:=by
 unfold ud at h
 split at h
 ·simp only[Option.some.injEq,Prod.mk.injEq] at h
  obtain ⟨rfl,rfl⟩:=h
  exact dY rfl hv
 ·simp only[Option.some.injEq,Prod.mk.injEq] at h
  obtain ⟨rfl,rfl⟩:=h
  obtain ⟨cs,rfl,hr,_⟩:=hv
  match cs,hr with
  | [z],hr=>rw[hr.1.1];rfl
 ·cases h
theorem HA (hm:Mod N E a g) {u:List Nat} {as:List Sh} {r:Sh} {v:SV} {F:FnT as r} {y:Value} (h:L9 as r v=some F) (hv:cq (E.zone g u) v y):FnV E.P E.w (E.zp g u) as r F y:=by
 unfold L9 at h
 split at h
 ·rename_i a' r' F'
  split at h
  ·rename_i h1 h2 _ _
   subst h1;subst h2
   injection h with h
   subst h
   obtain ⟨cs,rfl,hr,_⟩:=hv
   match cs,hr with
   | [z],hr =>
    obtain ⟨id,cap,hz,hcall,hfn⟩:=hr.1
    refine ⟨id,cap,hz,hcall,fun w' Z' x y vals hw hZ=>hfn w' Z' x y vals ⟨hm.glob.below.trans (hw.mono hm.glob.below.size),fun ad q hz hc=>?_⟩ fun b hb=>hZ b hb⟩
    rw[<-hc]
    exact World.cell?_of_block (hw.block _ (zE hm u _ hz))
  ·cases h
 ·cases h
theorem Ic {C:Ctx} (hC:C.ok) (hm:Mod N E a g) {bk:Nat->Option (List At)} (hbk:∀i l,bk i=some l->g.h i=some l) {rk:Rk} (hrk:∀i r,rk i=some r->g.r i=some r) {u:List Nat} (hlv:∀r ∈ u,jP rk r) {as:List Sh} {r:Sh} {v:SV} {F:FnT as r} {y:Value}
  (h:K7 C rk bk as r v=some F) (hu:∀q ∈ wS bk v,q ∈ u) (hv:cq (E.zone g u) v y):FnV C.P E.w (E.zp g u) as r F y:=by
 unfold K7 at h
 split at h
 ·rename_i id cap hf
  split at h
  ·rename_i c hc
   split at h
   ·rename_i z hz
    obtain ⟨hcall,hok⟩:=hC.ctr id c hc
    refine ⟨id,_,ua (E:=E.zone g u) hf hv,hcall,fun w' Z' x y vals hw hZ hZb hd hv'=>?_⟩
    have hrefs:=oo hm hbk hrk (u:=u) hlv hw hZ hz (by simpa [wS,hf] using hu)
    obtain ⟨as',fs',cs',r',m⟩:=c
    unfold Ctr.asFn at h
    split at h
    ·rename_i as2 cs2 r2 m2 _ y2 heq1 heq2
     injection heq1 with e1 e2 e3 e4 e6
     subst e1;subst e2;subst e3;subst e4
     cases e6;cases heq2
     split at h
     ·rename_i h1 h2 _ _
      subst h1;subst h2
      injection h with h
      subst h
      have:=hok x () y2 y hd w' Z' vals [] _ hZb hv' rfl hrefs
      simpa [mI,Env.zone] using this
     ·cases h
    ·cases h
   ·cases h
  ·cases h
 ·cases h
theorem Ix {C:Ctx} (hC:C.ok) (hP:E.P=C.P) (hm:Mod N E a g) {bk:Nat->Option (List At)} (hbk:∀i l,bk i=some l->g.h i=some l) {rk:Rk} (hrk:∀i r,rk i=some r->g.r i=some r) {u:List Nat} (hlv:∀r ∈ u,jP rk r) {as:List Sh} {r:Sh} {v:SV} {F:FnT as r} {y:Value}
  (h:LH C rk bk as r v=some F) (hu:∀q ∈ wS bk v,q ∈ u) (hv:cq (E.zone g u) v y):FnV C.P E.w (E.zp g u) as r F y:=by
 unfold LH at h
 split at h
 ·rename_i F' hF
  injection h with h
  subst h
  rw[<-hP]
  exact HA hm hF hv
 ·exact Ic hC hm hbk hrk hlv h hu hv
theorem wT {C:Ctx} (hC:C.ok) (hP:E.P=C.P) (hm:Mod N E a g) {bk:Nat->Option (List At)} (hbk:∀i l,bk i=some l->g.h i=some l) {rk:Rk} (hrk:∀i r,rk i=some r->g.r i=some r) {u:List Nat} (hlv:∀r ∈ u,jP rk r) :
  ∀{fs:List (List Sh×Sh)} {l:List SV} {F:TsF fs} {vs:List Value},A4 C rk bk fs l=some F->(∀q ∈ lx bk l,q ∈ u)->fc (E.zone g u) l vs->wi C.P E.w (E.zp g u) fs F vs
 | [],[],_,vs,_,_,hr=>by
  match vs,hr with
  | [],_=>rfl
 | f ::r,v ::l,F,vs,h,hu,hr=>by
  simp only[A4] at h
  split at h
  ·rename_i x y hx hy
   injection h with h
   subst h
   match vs,hr with
   | w ::vs,hr =>
    simp only[wi]
    exact ⟨w,vs,rfl,Ix hC hP hm hbk hrk hlv hx (fun q hq=>hu q (List.mem_append_left _ hq)) hr.1,wT hC hP hm hbk hrk hlv hy (fun q hq=>hu q (List.mem_append_right _ hq)) hr.2⟩
  ·cases h
 | [],_ ::_,_,_,h,_,_=>by cases h
 | _ ::_,[],_,_,h,_,_=>by cases h
theorem xV:∀{as:List Sh} {l l':List SV} {x:TsS as},mY as l=some (x,l')->∃k,l'=l.drop k
 | [],l,l',x,h=>by
  simp only[mY,Option.some.injEq,Prod.mk.injEq] at h
  exact ⟨0,h.2.symm⟩
 | s ::r,v ::l,l',x,h=>by
  simp only[mY] at h
  split at h
  ·rename_i y z l'' hy hz
   simp only[Option.some.injEq,Prod.mk.injEq] at h
   obtain ⟨_,rfl⟩:=h
   obtain ⟨k,hk⟩:=xV hz
   exact ⟨k+1,hk⟩
  ·cases h
 | _ ::_,[],_,_,h=>by cases h
theorem tG {bk:Nat->Option (List At)}:∀{l:List SV} {k q:Nat},q ∈ lx bk (l.drop k)->q ∈ lx bk l
 | [],k,q,h=>by simpa using h
 | _ ::_,0,_,h=>h
 | _ ::l,k+1,q,h=>List.mem_append_right _ (tG (l:=l) (k:=k) h)
theorem H9 {rk:Rk} {v:SV}:ud (vD rk v)=ud v:=by
 cases v with
 | tup l=>rfl
 | c ag l =>
  cases ag with
  | true=>simp[vD,ud]
  | false =>
   match l with
   | []=>rfl
   | [x] =>
    simp only[vD,jJ]
    cases x<;>first | rfl | (simp only[GZ];split<;>rfl)
   | _ ::_ ::_=>simp[vD,jJ,ud]
theorem tS {rk:Rk} {bk:Nat->Option (List At)}:∀{l:List SV},lx bk (nz rk l)=lx bk l
 | []=>rfl
 | v ::l=>by simp[nz,lx,wS,H9,tS (l:=l)]
theorem CH:∀{cap:List (Nat×Nat)},(∀p ∈ cap,E.L p.1)->fc E (Rs cap) (cap.map (fU E.β))
 | [],_=>trivial
 | p ::l,h=>⟨⟨[_],rfl,⟨⟨rfl,h p (by simp)⟩,trivial⟩,fun _=>rfl⟩,CH fun q hq=>h q (by simp[hq])⟩
theorem tO:∀{l m:List SV} {vs us:List Value},fc E l vs->fc E m us->fc E (l++m) (vs++us)
 | [],_,[],_,_,h=>h
 | _ ::_,_,_ ::_,_,h,h'=>⟨h.1,tO h.2 h'⟩
 | [],_,_ ::_,_,h,_=>h.elim
 | _ ::_,_,[],_,h,_=>h.elim
theorem Cs {v:SV} {id:FuncId} {cap:List (Nat×Nat)} {y:Value} (h:ud v=some (id,cap)) (hv:cq E v y):∀p ∈ cap,E.L p.1:=by
 unfold ud at h
 split at h
 ·simp only[Option.some.injEq,Prod.mk.injEq] at h
  obtain ⟨rfl,rfl⟩:=h
  intro p hp;cases hp
 ·simp only[Option.some.injEq,Prod.mk.injEq] at h
  obtain ⟨rfl,rfl⟩:=h
  obtain ⟨cs,rfl,hr,_⟩:=hv
  match cs,hr with
  | [z],hr=>exact hr.1.2
 ·cases h
theorem C6 (hm:Mod N E a g) {bk:Nat->Option (List At)} (hbk:∀i l,bk i=some l->g.h i=some l) {rk:Rk} (hrk:∀i r,rk i=some r->g.r i=some r) {u:List Nat} (hlv:∀r ∈ u,jP rk r) {s:Sh} {v:SV} {x:s.T} {u1:List Nat} {y:Value} (h:BH bk rk s v=some (x,u1)) (hu:∀r ∈ u1,r ∈ u) (hv:cq E v y):S2 E.w (E.zp g u) s x y:=by
 unfold BH at h
 split at h
 ·rename_i b
  split at h
  ·rename_i l hb
   split at h
   ·rename_i x' hx
    simp only[Option.some.injEq,Prod.mk.injEq] at h
    obtain ⟨rfl,rfl⟩:=h
    obtain ⟨q,cs,h1,h2,h3,h4⟩:=Gh hm hbk hrk hlv hb hx hu (Below.refl _ _) (Z':=E.zp g u) fun _ h=>h
    obtain ⟨cs0,rfl,hr,_⟩:=hv
    match cs0,hr with
    | [z],hr =>
    obtain ⟨⟨g1,g2⟩,_⟩:=hr
    refine ⟨⟨q,0,none⟩,cs,?_,h2,h3,fun j u hj=>by rw[dl,Nat.zero_add];exact h4 j u hj⟩
    rw[g1,<-h1];rfl
   ·cases h
  ·cases h
 ·rename_i s' x'
  split at h
  ·rename_i e _
   subst e
   simp only[Option.some.injEq,Prod.mk.injEq] at h
   obtain ⟨rfl,rfl⟩:=h
   obtain ⟨cs0,rfl,hr,_⟩:=hv
   match cs0,hr with
   | [z],hr =>
   have hr1:=hr.1
   obtain ⟨ad,cs,g1,g2,g3,g4⟩:=hr1
   refine ⟨ad,cs,by rw[g1];rfl,?_,Dat.mono (fun _ h=>.inl h) (fun _ _=>rfl) g3,g4⟩
   rcases g2 with h | h
   ·exact hm.glob.zlt _ h
   ·exact Nat.lt_of_lt_of_le h hm.glob.below.size
  ·cases h
 ·cases h
theorem HG {C:Ctx} (hC:C.ok) (_:E.P=C.P) {bk:Nat->Option (List At)} {rk:Rk} {id:FuncId} {cap:List (Nat×Nat)} {l:List SV} {f:Operand} {xs:Array Operand} {ts:Array TypeId} {r:Cor} (ho:o.op=.call { callee:=.value f,args:=xs,argTypes:=ts })
  (h:Ez C bk rk id cap l=some r) (hfe:a.eval f=.func (.func id) #[] (cap.map (fU E.β)).toArray) (_:∀p ∈ cap,E.L p.1) (hl:fc E l (xs.toList.map a.eval)) (hm:Mod N E a g) (hbk:∀i l,bk i=some l->g.h i=some l) (hrk:∀i r,rk i=some r->g.r i=some r):zy C.P N g E a o r:=by
 unfold Ez at h
 split at h
 case h_2=>cases h
 rename_i c v l hc _
 split at h
 case h_2=>cases h
 rename_i x u y hx hy hfl
 injection h with h
 subst h
 refine ⟨fun _ _=>rfl,fun z hz=>?_⟩
 obtain ⟨hlv0,hz⟩:=eU hz
 have hlv:=jb hlv0
 obtain ⟨hcall,hok⟩:=hC.pctr id c hc
 cases hxs:xs.toList.map a.eval with
 | nil=>rw[hxs] at hl;exact hl.elim
 | cons v0 vs0 =>
  rw[hxs] at hl
  have hl':=kB hm hrk (u:=u++ig l) hlv hl.2 fun r hr=>List.mem_append_right _ hr
  obtain ⟨vs1,vs2,e,h1,h2⟩:=jy hy hl'
  match vs2,h2 with
  | [],_ =>
  rw[List.append_nil] at e
  subst e
  have h3:=C6 hm hbk hrk hlv hx (fun r hr=>List.mem_append_left _ hr) hl.1
  have:=hok x y z hz E.w (E.zp g (u++ig l)) v0 vs0 (zE hm _) h3 h1
  refine GJ (cap:=#[]) ho (by rw[hfe];rfl) hcall hm ?_
  have e2:xs.map a.eval++#[]=(v0 ::vs0).toArray:=by rw[<-hxs];simp[<-Array.toList_map]
  rw[e2]
  refine this.mono fun e w' he=>?_
  obtain ⟨w1,rfl,g1,g2⟩:=he
  exact ⟨w1,rfl,mI.flat hfl g1,g2⟩
theorem Iq {C:Ctx} (hC:C.ok) (_:E.P=C.P) {bk:Nat->Option (List At)} {id:FuncId} {cap:List (Nat×Nat)} {l:List SV} {f:Operand} {xs:Array Operand} {ts:Array TypeId} {r:Cor} (ho:o.op=.call { callee:=.value f,args:=xs,argTypes:=ts })
  (h:FSs C bk id cap l=some r) (hfe:a.eval f=.func (.func id) #[] (cap.map (fU E.β)).toArray) (_:∀p ∈ cap,E.L p.1) (hl:fc E l (xs.toList.map a.eval)) (hm:Mod N E a g) (hbk:∀i l,bk i=some l->g.h i=some l):zy C.P N g E a o r:=by
 unfold FSs at h
 split at h
 case h_2=>cases h
 rename_i c b l hc _
 split at h
 case h_2=>cases h
 rename_i cs hb
 split at h
 case h_2=>cases h
 rename_i x y hx hy hfl
 simp only[z10] at hfl
 injection h with h
 subst h
 refine ⟨fun e=>(by cases e),fun z hz=>?_⟩
 obtain ⟨hcall,hok⟩:=hC.mctr id c hc
 cases hxs:xs.toList.map a.eval with
 | nil=>rw[hxs] at hl;exact hl.elim
 | cons v0 vs0 =>
  rw[hxs] at hl
  obtain ⟨vs1,vs2,e,h1,h2⟩:=jy hy hl.2
  match vs2,h2 with
  | [],_ =>
  rw[List.append_nil] at e
  subst e
  have hgb:=hbk _ _ hb
  obtain ⟨hLb,cs0,t,hh,hr0,hone⟩:=hm.blks b cs hgb
  obtain ⟨hw0,hnz⟩:=hm.glob.own b cs hgb
  have hblt:=hm.blk_lt hgb
  unfold mE at hx
  split at hx
  case h_2=>cases hx
  rename_i x' hx'
  injection hx with hx
  subst hx
  obtain ⟨c1,c2,rfl,hd,hc2⟩:=dL hx' hr0
  match c2,hc2 with
  | [],_ =>
  rw[List.append_nil] at hh hone
  obtain ⟨cs1,hv0,hr1,_⟩:=hl.1
  match cs1,hr1 with
  | [z0],hr1 =>
  have hv0:v0=.pointer (some ⟨E.β b,0,none⟩):=by rw[hv0,hr1.1.1];rfl
  subst hv0
  have:=hok x' y z hz E.w E.Z (E.β b) c1 t vs0 hm.glob.zlt hnz hh hd hone h1
  intro K Q hK
  unfold Oper.wp
  have hrun:(execOp a.eval o).run C.P E.w=.ok (.enter id (xs.map a.eval)) E.w:=by
   simp only[execOp,ho,resolve,hfe,Deferred.ofValue,pure_bind,invoke,Array.empty_append]
   simpa using fQ hcall (xs.map a.eval) E.w
  rw[hrun]
  rw[show xs.map a.eval=(xs.toList.map a.eval).toArray by simp[<-Array.toList_map],hxs]
  refine this.mono fun e w' he=>?_
  obtain ⟨u,cs',Z',t',rfl,k1,k2,k3,k4,k5,k6,k7,k8,k9,k10⟩:=he
  let E':Env:={ E with w:=w' }
  have hX:gT E fun k=>k=E.β b:=fun k hk=>by subst hk;exact ⟨hnz,hw0⟩
  have hx1:Ext (fun k=>k=E.β b) E E':=⟨rfl,rfl,rfl,rfl,fun _ h=>h,fun k h1 h2=>k10 k h1 h2,fun _ _=>rfl,fun _ h=>h,fun _ _=>rfl,fun _ h=>h,Env.same_x⟩
  have hkeep:=hx1.keep hm.glob hX
  have hold:∀i l,(g.app (.store b (c.s.cells z.1))).h i=some l->∃l',g.h i=some l':=fun i l hi=>by
   simp only[Look.app,Look.setH] at hi
   split at hi
   ·rename_i e;rw[e];exact ⟨_,hgb⟩
   ·exact ⟨l,hi⟩
  have hbelow:Below E.w0.heap.size E.w0 w':=by
   have hb0:=hm.glob.below
   exact ⟨k6.trans hb0.os,k7.trans hb0.tape,k8.trans hb0.output,Nat.le_trans hb0.size k9,fun k hk=>(k10 k (Nat.lt_of_lt_of_le hk hb0.size) (by omega)).trans (hb0.block k hk)⟩
  have hglob:Glob E' (g.app (.store b (c.s.cells z.1))):=by
   have G:=hm.glob
   refine ⟨hbelow,fun k hk=>Nat.lt_of_lt_of_le (G.zlt k hk) k9,G.z0,G.zfrom,fun k hk=>?_,G.rlive,fun i l hi=>?_,fun i j l l' hi hj hij=>?_,fun i r k hi hk=>?_,G.rinj,⟨fun i x k hi hk=>?_,G.xg.inj⟩⟩
   ·simp only[Look.app,Look.setH]
    split
    ·rfl
    ·exact G.live k hk
   ·obtain ⟨l',hl'⟩:=hold i l hi
    exact G.own i l' hl'
   ·obtain ⟨l1,hl1⟩:=hold i l hi
    obtain ⟨l2,hl2⟩:=hold j l' hj
    exact G.inj i j l1 l2 hl1 hl2 hij
   ·obtain ⟨h1,h2⟩:=G.rown i r k hi hk
    exact ⟨h1,fun j l hj=>by obtain ⟨l',hl'⟩:=hold j l hj;exact h2 j l' hl'⟩
   ·obtain ⟨g1,g2,g3,g4,g5⟩:=G.xg.own i x k hi hk
    exact ⟨g1,Nat.lt_of_lt_of_le g2 k9,g3,fun j l hj=>by obtain ⟨l',hl'⟩:=hold j l hj;exact g4 j l' hl',g5⟩
  have hmod:Mod N E' a (g.app (.store b (c.s.cells z.1))):=by
   refine hm.move hX hx1 hglob rfl hm.size (fun i s h=>.inl ⟨h,rfl⟩) (fun i l hi=>?_) (fun i r h=>.inl ⟨h,fun k hk e=>?_⟩) (fun i x h=>.inl ⟨h,rfl,fun k hk e=>?_⟩)
   ·simp only[Look.app,Look.setH] at hi
    split at hi
    ·rename_i e
     injection hi with hi
     subst hi
     subst e
     exact .inr ⟨hLb,cs',t',k2,(Dat.flat hfl.1 k3:Dat E'.w E'.Z c.s z.1 cs').rel,k5⟩
    ·rename_i e
     exact .inl ⟨hi,fun e'=>e (hm.glob.inj i b l cs hi hgb e')⟩
   ·subst e
    exact (hm.glob.rown i r _ h hk).2 b cs hgb rfl
   ·subst e
    exact (hm.glob.xg.own i x _ h hk).2.2.2.1 b cs hgb rfl
  exact hK E' u rfl hkeep hmod (pW (E:=E') (mI.flat hfl.2 k1))
theorem J8 {C:Ctx} (hC:C.ok) (hP:E.P=C.P) {get:Operand->Option SV} {bk:Nat->Option (List At)} {rk:Rk} {b:Nat} {f:Operand} {xs:Array Operand} {ts:Array TypeId} {r:Cor} (ho:o.op=.call { callee:=.value f,args:=xs,argTypes:=ts })
  (h:Jj C get bk rk b f xs=some r) (hg:fk E a get o) (hm:Mod N E a g) (hbk:∀i l,bk i=some l->g.h i=some l) (hrk:∀i r,rk i=some r->g.r i=some r) (hrb:rk b=none->g.r b=none):zy C.P N g E a o r:=by
 unfold Jj at h
 split at h
 ·rename_i fv hfv
  split at h
  ·rename_i id cap l hf hl
   have hfe:=ua hf (hg f fv (by rw[ho];simp[Op.operands,Call.operands]) hfv)
   have hcl:=Cs hf (hg f fv (by rw[ho];simp[Op.operands,Call.operands]) hfv)
   have hl0:=xX hl fun x hx s hs=>hg x s (by rw[ho];simp only[Op.operands,Call.operands];rw[Array.mem_append];right;exact Array.mem_toList_iff.1 hx) hs
   unfold P1 at h
   split at h
   ·rename_i r' hr'
    injection h with h
    subst h
    rcases HS hr' with hr' | hr' | hr'
    rotate_left
    ·exact HG hC hP ho hr' hfe hcl hl0 hm hbk hrk
    ·exact Iq hC hP ho hr' hfe hcl hl0 hm hbk
    unfold JL at hr'
    split at hr'
    case h_2=>cases hr'
    rename_i c hc
    split at hr'
    ·rename_i x l' y hx hy
     split at hr'
     ·rename_i F hF
      injection hr' with hr'
      subst hr'
      refine ⟨fun hpu _=>(by cases hh:ly (jV bk l cap) c.r.flat<;>rw[hh] at hpu<;>first | rfl | cases hpu),?_⟩
      intro z hz
      obtain ⟨hlv0,hz⟩:=eU hz
      have hlv:=jb hlv0
      obtain ⟨hcall,hok⟩:=hC.ctr id c hc
      have hl':=kB hm hrk (u:=jV bk l cap) hlv hl0 fun r hr=>List.mem_append_left _ hr
      obtain ⟨hmz,hkz⟩:=tZ hm (jV bk l cap)
      obtain ⟨vs1,vs2,e,h1,h2⟩:=jy hx hl'
      have hfu:∀q ∈ lx bk l',q ∈ jV bk l cap:=fun q hq=>by
       obtain ⟨k,hk⟩:=xV hx
       rw[hk] at hq
       have:=tG hq
       rw[tS] at this
       exact List.mem_append_right _ (List.mem_append_right _ this)
      have h3:wi C.P E.w (E.zp g (jV bk l cap)) c.fs F vs2:=wT hC hP hm hbk hrk hlv hF hfu h2
      have h4:=oo hm hbk hrk (u:=jV bk l cap) hlv (Below.refl _ _) (Z':=E.zp g (jV bk l cap)) (fun _ h=>h) hy fun q hq=>List.mem_append_right _ (List.mem_append_left _ hq)
      have:=hok x F y z hz E.w (E.zp g (jV bk l cap)) vs1 vs2 _ (zE hm _) h1 h3 h4
      rw[<-e] at this
      have e2:xs.map a.eval++(cap.map (fU E.β)).toArray=(xs.toList.map a.eval++cap.map (fU E.β)).toArray:=by
       rw[<-List.append_toArray]
       simp[<-Array.toList_map]
      rw[<-e2] at this
      intro K Q hK
      unfold Oper.wp
      have hrun:(execOp a.eval o).run C.P E.w=.ok (.enter id (xs.map a.eval++(cap.map (fU E.β)).toArray)) E.w:=by
       simp only[execOp,ho,resolve,hfe,Deferred.ofValue,pure_bind,invoke,Array.empty_append]
       exact fQ hcall _ _
      rw[hrun]
      refine this.mono fun e w' he=>?_
      obtain ⟨v,rfl,g1,g2⟩:=he
      have keep:∀(hz:∀b,E.zp g (jV bk l cap) b->E.Z b),ly (jV bk l cap) c.r.flat=.none->K (a.put o.dst v) w':=fun hz he=>by
       refine hK (E.dat w') v rfl (nK hm g2) (by show Mod N _ a (g.app (ly _ _));rw[he];exact rm hm g2) (pW (E:=E.dat w') (HW (fun b hb=>?_) g1))
       exact hb.imp (hz b) fun h=>h
      cases hu:jV bk l cap with
      | nil =>
       refine keep (fun b hb=>?_) (by rw[hu];rfl)
       rw[hu] at hb
       rcases hb with hb | ⟨r,hr,_⟩
       ·exact hb
       ·cases hr
      | cons q u =>
       cases hfl:c.r.flat with
       | true =>
        have he:ly (jV bk l cap) c.r.flat=.none:=by rw[hu,hfl];rfl
        exact hK (E.dat w') v rfl (nK hm g2) (by show Mod N _ a (g.app (ly _ _));rw[he];exact rm hm g2) (pW (E:=E.dat w') (mI.flat hfl g1))
       | false =>
        have he:ly (jV bk l cap) c.r.flat=.rkill (jV bk l cap):=by rw[hu,hfl];rfl
        exact hK ((E.zone g (jV bk l cap)).dat w') v rfl (hkz.trans (nK hmz g2)) (by show Mod N _ a (g.app (ly _ _));rw[he];exact rm hmz g2) (pW (E:=(E.zone g (jV bk l cap)).dat w') g1)
     ·cases hr'
    ·cases hr'
   rename_i hkc
   clear hkc
   split at h
   ·rename_i c hc
    obtain ⟨hcall,hok⟩:=hC.fctr id c hc
    split at h
    case h_2=>cases h
    rename_i x hx
    injection h with h
    subst h
    refine ⟨fun _ _=>rfl,fun F hF=>?_⟩
    obtain ⟨vs1,vs2,e,h1,h2⟩:=jy hx hl0
    match vs2,h2 with
    | [],_ =>
    rw[List.append_nil] at e
    have:=hok x F hF E.w E.Z vs1 hm.glob.zlt h1
    rw[<-e] at this
    intro K Q hK
    unfold Oper.wp
    have hrun:(execOp a.eval o).run C.P E.w=.ok (.enter id (xs.map a.eval)) E.w:=by
     simp only[execOp,ho,resolve,hfe,Deferred.ofValue,pure_bind,invoke,Array.empty_append]
     simpa using fQ hcall (xs.map a.eval) E.w
    rw[hrun]
    rw[show xs.map a.eval=(xs.toList.map a.eval).toArray by simp[<-Array.toList_map]]
    refine this.mono fun e' w' he=>?_
    obtain ⟨v,Z',rfl,z1,⟨gf,gc,g1,g2,g3⟩,hb⟩:=he
    refine hK (E.dat w') v rfl (nK hm hb) (rm hm hb) ⟨[v],rfl,⟨⟨gf,gc,g1,by rw[show (E.dat w').P=C.P from hP];exact g2,fun w2 Z2 x2 y2 gm hA hZ=>?_⟩,trivial⟩,fun _=>rfl⟩
    rw[show (E.dat w').P=C.P from hP]
    exact g3 w2 Z2 x2 y2 gm (fun ad u hz hc=>hA.2 ad u (z1 _ hz) hc) fun b hb=>hZ b (z1 b hb)
   ·split at h
    ·rename_i c hc
     obtain ⟨hcall,hok⟩:=hC.rctr id c hc
     split at h
     case h_2=>cases h
     unfold Qj at h
     split at h
     ·rename_i x hx hbn
      split at h
      ·rename_i hfl
       injection h with h
       subst h
       refine ⟨fun hpu=>(by cases hpu),fun z hz=>?_⟩
       obtain ⟨hlv0,hz⟩:=eU hz
       have hlv:=jb hlv0
       have hl':=kB hm hrk (u:=ig l) hlv hl0 fun r hr=>hr
       obtain ⟨vs1,vs2,e,h1,h2⟩:=jy hx hl'
       match vs2,h2 with
       | [],_ =>
       have:=hok x z hz E.w (E.zp g (ig l)) vs1 (zE hm _) h1
       rw[List.append_nil] at e
       rw[<-e] at this
       intro K Q hK
       unfold Oper.wp
       have hrun:(execOp a.eval o).run C.P E.w=.ok (.enter id (xs.map a.eval)) E.w:=by
        simp only[execOp,ho,resolve,hfe,Deferred.ofValue,pure_bind,invoke,Array.empty_append]
        simpa using fQ hcall (xs.map a.eval) E.w
       rw[hrun]
       rw[show xs.map a.eval=(xs.toList.map a.eval).toArray by simp[<-Array.toList_map]]
       refine this.mono fun e' w' he=>?_
       obtain ⟨v,Z',rfl,z1,z2,z3,⟨ys,o1,o2⟩,hb⟩:=he
       have zone:∃Z2:Nat->Prop,(∀q,E.Z q->Z2 q)/\(∀q,Z2 q->E.Z q\/(E.w.heap.size<=q/\q<w'.heap.size))/\(∀q,v.ownBlock=some q->¬ Z2 q)/\aM w' Z2 c.e z ys:=by
        simp only[Bool.or_eq_true] at hfl
        rcases hfl with hfl | hfl
        ·refine ⟨E.Z,fun _ h=>h,fun _ h=>.inl h,fun q hq hz=>?_,aM.flat hfl o2⟩
         exact z3 q hq (z1 q (.inl hz))
        ·have hu:ig l=[]:=by simpa using hfl
         refine ⟨Z',fun q hq=>z1 q (.inl hq),fun q hq=>?_,z3,o2⟩
         rcases z2 q hq with h | h
         ·rcases h with h | ⟨r,hr,_⟩
          ·exact .inl h
          ·rw[hu] at hr;cases hr
         ·exact .inr h
       obtain ⟨Z2,y1,y2,y3,y4⟩:=zone
       obtain ⟨m1,m2⟩:=kf hm (hrb hbn) hb y1 y2 y3 (ri:=⟨c.t,c.e,z.length,z⟩) ⟨ys,o1,y4,rfl⟩
       refine hK (E.made b v w' Z2) v rfl m2 m1 ⟨[v],rfl,⟨⟨?_,.inr rfl,fj o1⟩,trivial⟩,fun _=>rfl⟩
       show v=if b=b then v else _
       rw[if_pos rfl]
      ·cases h
     ·cases h
    split at h
    ·rename_i c hc
     obtain ⟨hcall,hok⟩:=hC.wctr id c hc
     split at h
     case h_2=>cases h
     unfold Qm at h
     split at h
     ·rename_i x hx hbn
      injection h with h
      subst h
      refine ⟨fun hpu=>(by cases hpu),fun z hz=>?_⟩
      obtain ⟨vs1,vs2,e,h1,h2⟩:=jy hx hl0
      match vs2,h2 with
      | [],_ =>
      have:=hok x z hz E.w E.Z vs1 hm.glob.zlt h1
      rw[List.append_nil] at e
      rw[<-e] at this
      intro K Q hK
      unfold Oper.wp
      have hrun:(execOp a.eval o).run C.P E.w=.ok (.enter id (xs.map a.eval)) E.w:=by
       simp only[execOp,ho,resolve,hfe,Deferred.ofValue,pure_bind,invoke,Array.empty_append]
       simpa using fQ hcall (xs.map a.eval) E.w
      rw[hrun]
      rw[show xs.map a.eval=(xs.toList.map a.eval).toArray by simp[<-Array.toList_map]]
      refine this.mono fun e' w' he=>?_
      obtain ⟨v,cs,Z',rfl,z1,z2,z3,⟨ys,o1,o2⟩,o3,hb⟩:=he
      obtain ⟨m1,m2⟩:=kf hm (hrb hbn) hb z1 z2 z3 (ri:=⟨c.t,c.e,z.1.length,z.1⟩) ⟨ys,o1,o2,rfl⟩
      refine hK (E.made b v w' Z') _ rfl m2 m1 ⟨v ::cs,rfl,⟨⟨?_,.inr rfl,fj o1⟩,Dat.rel (E:=E.made b v w' Z') o3⟩,fun h=>by cases h⟩
      show v=if b=b then v else _
      rw[if_pos rfl]
     ·cases h
    split at h
    ·rename_i hin
     injection h with h
     subst h
     refine ⟨xs.map a.eval++(cap.map (fU E.β)).toArray,?_,?_⟩
     ·simp only[execOp,ho,resolve,hfe,Deferred.ofValue,pure_bind,invoke,Array.empty_append]
      exact fQ (hC.inl id hin) _ _
     ·have:=tO hl0 (CH hcl)
      simpa using this
    ·cases h
  ·cases h
 ·cases h
end
end Dn
end Go.Proofs.YtfknoaclabfdlaaGreat
