/- A symbolic executor: worlds that differ in blocks that hold no cells; the contracts of iterators. A symbolic executor: equality of structs, shifts, function values, calls by contract, and the step of one operation. -/
import Derived.RangeFuncCalls
import Derived.RangeFuncSeq
import Derived.Test.YtlfdhaiigdllcaaGreatDoorMgG

namespace Go.Proofs.YtlfdhaiigdllcaaGreatDoor
namespace Dn
open Go.RowKit
def stab:Obj->Bool
 | .cells _ _ _=>true
 | .map _ _=>true
 | _=>false
structure Turned (B:Nat) (w w':World):Prop where
 os:w'.os=w.os
 tape:w'.tape=w.tape
 output:w'.output=w.output
 size:w.heap.size<=w'.heap.size
 block:∀k,k<w.heap.size->w'.heap[k]?=w.heap[k]?\/(B<=k/\∀o,w.heap[k]?=some o->stab o=false)
theorem Turned.refl (B:Nat) (w:World):Turned B w w:=⟨rfl,rfl,rfl,Nat.le_refl _,fun _ _=>.inl rfl⟩
theorem Turned.trans {B:Nat} {w w' w'':World} (h:Turned B w w') (h':Turned B w' w''):Turned B w w'':=by
 refine ⟨h'.os.trans h.os,h'.tape.trans h.tape,h'.output.trans h.output,Nat.le_trans h.size h'.size,fun k hk=>?_⟩
 rcases h.block k hk with h1 | h1
 ·rcases h'.block k (Nat.lt_of_lt_of_le hk h.size) with h2 | ⟨h2,h3⟩
  ·exact .inl (h2.trans h1)
  ·exact .inr ⟨h2,fun o ho=>h3 o (h1.trans ho)⟩
 ·exact .inr h1
theorem Turned.alloc (B:Nat) (w:World) (o:Obj):Turned B w (w.alloc o) :=
 ⟨rfl,rfl,rfl,by simp,fun k hk=>.inl (Below.heap_alloc w o k hk)⟩
theorem Turned.putObj {B:Nat} {w:World} {L:Nat} {o:Obj} (o':Obj) (hB:B<=L) (hL:w.heap[L]?=some o) (ho:stab o=false):Turned B w (w.putObj L o'):=by
 refine ⟨rfl,rfl,rfl,by simp,fun k _=>?_⟩
 by_cases e:k=L
 ·subst e
  exact .inr ⟨hB,fun o2 h2=>by rw[hL] at h2;cases h2;exact ho⟩
 ·exact .inl (World.putObj_heap_other e)
theorem Turned.mono {B B':Nat} {w w':World} (h:Turned B w w') (hb:B'<=B):Turned B' w w' :=
 ⟨h.os,h.tape,h.output,h.size,fun k hk=>(h.block k hk).imp id fun ⟨h1,h2⟩=>⟨Nat.le_trans hb h1,h2⟩⟩
theorem Turned.cells {B:Nat} {w w':World} (h:Turned B w w') {k:Nat} {o:Obj} (hk:w.heap[k]?=some o) (ho:stab o=true):w'.heap[k]?=w.heap[k]?:=by
 rcases h.block k (Array.getElem?_eq_some_iff.1 hk).1 with h1 | ⟨_,h1⟩
 ·exact h1
 ·rw[h1 o hk] at ho;cases ho
theorem Turned.cell {B:Nat} {w w':World} (h:Turned B w w') {a:Addr} {v:Value} (hv:w.cell? a=some v):w'.cell? a=some v:=by
 obtain ⟨o,ho,hc⟩:=cells_of_cell hv
 exact (World.cell?_of_block (h.cells ho (by cases o<;>first | rfl | cases hc))).trans hv
theorem Turned.below {B:Nat} {w0 w w':World} (h:Turned B w w') (hb:Below B w0 w) (hB:B<=w.heap.size):Below B w0 w' :=
 ⟨h.os.trans hb.os,h.tape.trans hb.tape,h.output.trans hb.output,Nat.le_trans hb.size h.size,fun k hk=>by
  rcases h.block k (by omega) with h1 | ⟨h1,_⟩
  ·exact h1.trans (hb.block k hk)
  ·omega⟩
structure ICtr where
 caps:List Sh
 e:List Sh
 p:TsS caps->Bool
 m:TsS caps->List (TsS e)
def CapsAt (w:World) (Z:Nat->Prop):(l:List Sh)->TsS l->List Addr->Prop
 | [],_,ads=>ads=[]
 | s ::r,x,ads=>∃ad ads',ads=ad ::ads'/\(∃cs,Dat w Z s x.1 cs/\∀j v,cs[j]?=some v->w.cell? (ad.add j)=some v)/\CapsAt w Z r x.2 ads'
def ICtr.ok (c:ICtr) (P:Program) (g:FuncId):Prop:=∀(l:Nat) (x:TsS c.caps) (ads:List Addr) (J:Nat->World->Prop) (Jx:World->Prop) (W:World),c.p x=true ->
 (∀k W W',J k W->Turned W.heap.size W W'->J k W')->(∀W W',Jx W->Turned W.heap.size W W'->Jx W') ->
 (∀k W,J k W->∃Z:Nat->Prop,CapsAt W Z c.caps x ads) ->
 (∃Z:Nat->Prop,CapsAt W Z c.caps x ads/\∀(s:Sh) (y:s.T) (cs:List Value),Dat W Z s y cs->∀k W',J k W'->∃Z':Nat->Prop,Dat W' Z' s y cs) ->
 (∀k (y:TsS c.e) (vals:List Value) W,(c.m x)[k]?=some y->J k W->(∀Z,DatVs W Z c.e y vals)->YieldAt Fence.wide 0 P l vals.toArray W fun e W'=>(e=.returned (.bool true)/\J (k+1) W')\/(e=.returned (.bool false)/\Jx W')) ->
 J 0 W->CallsIn Fence.wide 0 P g (#[.func (.yield l) #[] #[]]++(ads.map fun a=>Value.pointer (some a)).toArray) W fun e W'=>(∃v,e=.returned v)/\(J (c.m x).length W'\/Jx W')
structure Ctx where
 P:Program
 sh:TypeId->Option Sh
 ctr:FuncId->Option Ctr
 inl:FuncId->Bool:=fun _=>false
 rctr:FuncId->Option RCtr:=fun _=>none
 it:FuncId->Option ICtr:=fun _=>none
 fctr:FuncId->Option FCtr:=fun _=>none
 pctr:FuncId->Option PCtr:=fun _=>none
 mctr:FuncId->Option MCtr:=fun _=>none
 tb:TypeId->Option XP:=fun _=>none
 lit:String->Bool:=fun _=>false
 wctr:FuncId->Option WCtr:=fun _=>none
 actr:FuncId->Option ACtr:=fun _=>none
structure Ctx.ok (C:Ctx):Prop where
 ctr:∀id c,C.ctr id=some c->callable C.P id=true/\c.ok C.P id
 inl:∀id,C.inl id=true->callable C.P id=true
 rctr:∀id c,C.rctr id=some c->callable C.P id=true/\c.ok C.P id
 it:∀id c,C.it id=some c->callable C.P id=true/\c.ok C.P id
 fctr:∀id c,C.fctr id=some c->callable C.P id=true/\c.ok C.P id
 pctr:∀id c,C.pctr id=some c->callable C.P id=true/\c.ok C.P id
 mctr:∀id c,C.mctr id=some c->(callable C.P id=true/\c.ok C.P id)/\∀w,Gd C.P w
 wctr:∀id c,C.wctr id=some c->callable C.P id=true/\c.ok C.P id
 actr:∀id c,C.actr id=some c->(callable C.P id=true/\c.ok C.P id)/\∀w,Gd C.P w
section
variable {P:Program} {N:Nat} {g:Look} {E:Env} {a:Act} {o:Oper}
def eqFs (P:Program) (rec:TypeId->Value->Value->Option Bool) (xs ys:Array Value):List Field->Option Bool
 | []=>some true
 | f :: r => match f.name == "_" with
  | true=>eqFs P rec xs ys r
  | false=>match pureS P (part f.type xs f.offset),pureS P (part f.type ys f.offset) with
   | some x,some y=>match rec f.type x y,eqFs P rec xs ys r with
    | some p,some q=>some (p&&q)
    | _,_=>none
   | _,_=>none
def eqIts (P:Program) (rec:TypeId->Value->Value->Option Bool) (e:TypeId) (c:Nat) (xs ys:Array Value):List Nat->Option Bool
 | []=>some true
 | i ::r=>match pureS P (part e xs (i*c)),pureS P (part e ys (i*c)) with
  | some x,some y=>match rec e x y,eqIts P rec e c xs ys r with
   | some p,some q=>some (p&&q)
   | _,_=>none
  | _,_=>none
def upTo:Nat->Nat->List Nat
 | _,0=>[]
 | i,n+1=>i ::upTo (i+1) n
theorem upTo_eq:∀{n i:Nat},upTo i n=List.range' i n
 | 0,_=>rfl
 | n+1,i=>by rw[upTo,List.range'_succ,upTo_eq]
def eqS (P:Program):Nat->TypeId->Value->Value->Option Bool
 | 0,_,_,_=>none
 | d+1,t,x,y=>match P.underlying t with
  | some (.int _)=>match x,y with
   | .int k m,.int k' n=>match decide (k=k') with
    | true=>some (m ==n)
    | false=>none
   | _,_=>none
  | some .bool=>match x,y with
   | .bool m,.bool n=>some (m ==n)
   | _,_=>none
  | some .string=>match x,y with
   | .string m,.string n=>some (m ==n)
   | _,_=>none
  | some (.struct fs)=>match x,y with
   | .agg xs,.agg ys=>match P.stoodInHeld t with
    | true=>none
    | false=>eqFs P (eqS P d) xs ys fs.toList
   | _,_=>none
  | some (.array n e)=>match x,y,P.info? e with
   | .agg xs,.agg ys,some i=>eqIts P (eqS P d) e i.size xs ys (upTo 0 n)
   | _,_,_=>none
  | _=>none
theorem eqFs_run {d:Nat} {rec:TypeId->Value->Value->Option Bool} (hrec:∀t x y b,rec t x y=some b->∀w,(Op.equalIn d t x y).run P w=.ok b w) (xs ys:Array Value) :
  ∀(fs:List Field) (b:Bool),eqFs P rec xs ys fs=some b->∀w,(Op.eqFields d xs ys fs).run P w=.ok b w
 | [],b,h,w=>by simp only[eqFs] at h;injection h with h;subst h;rfl
 | f ::r,b,h,w=>by
  simp only[eqFs] at h
  split at h
  ·rename_i hn
   have hn : f.name = "_" := by simpa using hn
   simp only[Op.eqFields,hn,ne_eq,not_true_eq_false,if_false]
   exact eqFs_run hrec xs ys r b h w
  ·rename_i hn
   have hn : ¬ f.name = "_" := by simpa using hn
   split at h
   ·rename_i x y hx hy
    split at h
    ·rename_i p q hp hq
     injection h with h
     subst h
     simp only[Op.eqFields,ne_eq,hn,not_false_eq_true,if_true,Sem.run_bind,pureS_run hx,pureS_run hy,Result.andThen_ok,hrec _ _ _ _ hp]
     cases p
     ·simp
     ·simp only[Bool.not_true,Bool.false_eq_true,if_false,Bool.true_and]
      exact eqFs_run hrec xs ys r q hq w
    ·cases h
   ·cases h
theorem eqIts_run {d:Nat} {rec:TypeId->Value->Value->Option Bool} (hrec:∀t x y b,rec t x y=some b->∀w,(Op.equalIn d t x y).run P w=.ok b w) (e:TypeId) (c:Nat) (xs ys:Array Value) :
  ∀(l:List Nat) (b:Bool),eqIts P rec e c xs ys l=some b->∀w,(Op.eqItems d e c xs ys l).run P w=.ok b w
 | [],b,h,w=>by simp only[eqIts] at h;injection h with h;subst h;rfl
 | i ::r,b,h,w=>by
  simp only[eqIts] at h
  split at h
  ·rename_i x y hx hy
   split at h
   ·rename_i p q hp hq
    injection h with h
    subst h
    simp only[Op.eqItems,Sem.run_bind,pureS_run hx,pureS_run hy,Result.andThen_ok,hrec _ _ _ _ hp]
    cases p
    ·simp
    ·simp only[Bool.not_true,Bool.false_eq_true,if_false,Bool.true_and]
     exact eqIts_run hrec e c xs ys r q hq w
   ·cases h
  ·cases h
theorem eqS_run:∀{d:Nat} {t:TypeId} {x y:Value} {b:Bool},eqS P d t x y=some b->∀w,(Op.equalIn d t x y).run P w=.ok b w
 | 0,_,_,_,_,h,_=>by cases h
 | d+1,t,x,y,b,h,w=>by
  simp only[eqS] at h
  split at h
  ·rename_i hu
   split at h
   ·split at h
    ·rename_i hk
     have hk:=of_decide_eq_true hk
     subst hk
     injection h with h;subst h
     exact run_equalIn_int w d t _ _ _ _ hu
    ·cases h
   ·cases h
  ·rename_i hu
   split at h
   ·injection h with h;subst h
    exact run_equalIn_bool' w d t _ _ hu
   ·cases h
  ·rename_i hu
   split at h
   ·injection h with h;subst h
    rw[beq_toListBytes]
    exact run_equalIn_string w d t _ _ hu
   ·cases h
  ·rename_i fs hu
   split at h
   ·rename_i xs ys
    split at h
    ·cases h
    ·rename_i hs
     have hf:P.fieldsOf t=fs:=by simp[Program.fieldsOf,hu]
     rw[run_equalIn_struct w d t xs ys (by rw[hf];exact hu) hs,hf]
     exact eqFs_run (fun _ _ _ _ h w=>eqS_run h w) xs ys fs.toList b h w
   ·cases h
  ·rename_i n e hu
   split at h
   ·rename_i xs ys i hi
    rw[run_equalIn_array w d xs ys hu hi,show P.cellsOf e=i.size by simp[Program.cellsOf,hi],List.range_eq_range',<-upTo_eq]
    exact eqIts_run (fun _ _ _ _ h w=>eqS_run h w) e i.size xs ys _ b h w
   ·cases h
  ·cases h
def eqC (P:Program) (get:Operand->Option SV) (o:Oper):Option Core:=match o.op with
 | .binOp .eql t x y _=>match getV get x,getV get y with
  | some (.agg xs),some (.agg ys)=>match P.eqGuardType P.depth t,eqS P 10000 t (.agg xs) (.agg ys) with
   | false,some b=>some ⟨.c false [.v (.bool b)],.none,[]⟩
   | _,_=>none
  | _,_=>pureC P get o
 | .binOp .neq t x y _=>match getV get x,getV get y with
  | some (.agg xs),some (.agg ys)=>match P.eqGuardType P.depth t,eqS P 10000 t (.agg xs) (.agg ys) with
   | false,some b=>some ⟨.c false [.v (.bool !b)],.none,[]⟩
   | _,_=>none
  | _,_=>pureC P get o
 | _=>none
theorem eqC_ok {get:Operand->Option SV} {r:Core} (h:eqC P get o=some r) (hg:Gets E a get o) (hm:Mod N E a g):CoreOk P N g E a o r:=by
 unfold eqC at h
 split at h
 ·rename_i t x y t' ho
  split at h
  ·rename_i xs ys hx hy
   split at h
   ·rename_i b hgd hb
    injection h with h
    subst h
    have e1:=getV_eval hg (by simp[ho,Op.operands]) hx
    have e2:=getV_eval hg (by simp[ho,Op.operands]) hy
    refine CoreOk.value (E':=E) (v:=.bool b) ?_ rfl (Keep.refl E) hm ⟨[_],rfl,⟨rfl,trivial⟩,fun _=>rfl⟩
    simp only[execOp,ho,e1,e2,Sem.run_bind,run_eqGuard_agg E.w _ t _ _ xs ys hgd,Result.andThen_ok,run_eql_struct,eqS_run hb E.w,Sem.run_pure]
   ·cases h
  ·exact pureC_ok h hg hm
 ·rename_i t x y t' ho
  split at h
  ·rename_i xs ys hx hy
   split at h
   ·rename_i b hgd hb
    injection h with h
    subst h
    have e1:=getV_eval hg (by simp[ho,Op.operands]) hx
    have e2:=getV_eval hg (by simp[ho,Op.operands]) hy
    refine CoreOk.value (E':=E) (v:=.bool !b) ?_ rfl (Keep.refl E) hm ⟨[_],rfl,⟨rfl,trivial⟩,fun _=>rfl⟩
    simp only[execOp,ho,e1,e2,Sem.run_bind,run_eqGuard_agg E.w _ t _ _ xs ys hgd,Result.andThen_ok,run_neq_struct,eqS_run hb E.w,Sem.run_pure]
   ·cases h
  ·exact pureC_ok h hg hm
 ·cases h
def shiftC (get:Operand->Option SV) (o:Oper):Option Core:=match o.op with
 | .binOp .shl _ x y _=>match getV get x,getV get y with
  | some (.int k m),some (.int _ n)=>some ⟨.c false [.v (.int k (k.wrap (m*2 ^ (min n.toNat k.bits))))],.none,[decide (0<=n)]⟩
  | _,_=>none
 | .binOp .shr _ x y _=>match getV get x,getV get y with
  | some (.int k m),some (.int _ n)=>some ⟨.c false [.v (.int k (m.fdiv (2 ^ (min n.toNat k.bits))))],.none,[decide (0<=n)]⟩
  | _,_=>none
 | _=>none
theorem shiftC_ok {get:Operand->Option SV} {r:Core} (h:shiftC get o=some r) (hg:Gets E a get o) (hm:Mod N E a g) (hp:allB r.p=true):CoreOk P N g E a o r:=by
 unfold shiftC at h
 split at h
 ·rename_i t x y t' ho
  split at h
  ·rename_i k m k' n hx hy
   injection h with h
   subst h
   have e1:=getV_eval hg (by simp[ho,Op.operands]) hx
   have e2:=getV_eval hg (by simp[ho,Op.operands]) hy
   have hn:¬ n<0:=by have:0<=n:=of_decide_eq_true hp;omega
   refine CoreOk.value (E':=E) ?_ rfl (Keep.refl E) hm ⟨[_],rfl,⟨rfl,trivial⟩,fun _=>rfl⟩
   simp[execOp,ho,e1,e2,eqGuard,binOp,Op.shift,hn,mkV]
  ·cases h
 ·rename_i t x y t' ho
  split at h
  ·rename_i k m k' n hx hy
   injection h with h
   subst h
   have e1:=getV_eval hg (by simp[ho,Op.operands]) hx
   have e2:=getV_eval hg (by simp[ho,Op.operands]) hy
   have hn:¬ n<0:=by have:0<=n:=of_decide_eq_true hp;omega
   refine CoreOk.value (E':=E) ?_ rfl (Keep.refl E) hm ⟨[_],rfl,⟨rfl,trivial⟩,fun _=>rfl⟩
   simp[execOp,ho,e1,e2,eqGuard,binOp,Op.shift,hn,mkV]
  ·cases h
 ·cases h
def capsC (get:Operand->Option SV):List Operand->Option (List (Nat×Nat))
 | []=>some []
 | x ::r=>match get x,capsC get r with
  | some (.c false [.ptr b off]),some l=>some ((b,off) ::l)
  | _,_=>none
theorem capsC_rel {get:Operand->Option SV}:∀{xs:List Operand} {l:List (Nat×Nat)},capsC get xs=some l->(∀x ∈ xs,∀s,get x=some s->RelV E s (a.eval x)) ->
  xs.map a.eval=l.map (ptrV E.β)/\∀p ∈ l,E.L p.1
 | [],l,h,_=>by simp only[capsC] at h;injection h with h;subst h;exact ⟨rfl,fun p hp=>by cases hp⟩
 | x ::r,l,h,hg=>by
  simp only[capsC] at h
  split at h
  ·rename_i b off l' hx hr
   injection h with h
   subst h
   obtain ⟨h1,h2⟩:=capsC_rel hr fun y hy=>hg y (by simp[hy])
   obtain ⟨cs,hv,hc,_⟩:=hg x (by simp) _ hx
   match cs,hc with
   | [z],hc =>
    obtain ⟨hz,hl⟩:=hc.1
    refine ⟨by simp[h1,hv,mkV,hz],fun p hp=>?_⟩
    rcases List.mem_cons.1 hp with rfl | hp
    ·exact hl
    ·exact h2 p hp
  ·cases h
def funcC (get:Operand->Option SV) (o:Oper):Option Core:=match o.op with
 | .makeFunc (.func f) first caps=>match first.toList,caps.toList with
  | [],[]=>some ⟨.c false [.v (.func (.func f) #[] #[])],.none,[]⟩
  | [],c ::cs=>match capsC get (c ::cs) with
   | some l=>some ⟨.c false [.clo f l],.none,[]⟩
   | none=>none
  | _,_=>none
 | _=>none
theorem funcC_ok {get:Operand->Option SV} {r:Core} (h:funcC get o=some r) (hg:Gets E a get o) (hm:Mod N E a g):CoreOk P N g E a o r:=by
 unfold funcC at h
 split at h
 ·rename_i f first caps ho
  split at h
  ·rename_i h1 h2
   injection h with h
   subst h
   have h1:first=#[]:=by simpa using h1
   have h2:caps=#[]:=by simpa using h2
   refine CoreOk.value (E':=E) ?_ rfl (Keep.refl E) hm ⟨[_],rfl,⟨rfl,trivial⟩,fun _=>rfl⟩
   simp[execOp,ho,h1,h2,Instr.makeFunc,mkV]
  ·rename_i c cs h1 h2
   split at h
   ·rename_i l hl
    injection h with h
    subst h
    have h1:first=#[]:=by simpa using h1
    have h2':caps=(c ::cs).toArray:=by rw[<-h2]
    obtain ⟨e1,e2⟩:=capsC_rel hl fun x hx s hs=>hg x s (by rw[ho];simp only[Op.operands];rw[Array.mem_append];right;rw[h2'];simpa using hx) hs
    refine CoreOk.value (E':=E) (v:=.func (.func f) #[] (l.map (ptrV E.β)).toArray) ?_ rfl (Keep.refl E) hm ⟨[_],rfl,⟨⟨rfl,e2⟩,trivial⟩,fun _=>rfl⟩
    have e3:caps.map a.eval=(l.map (ptrV E.β)).toArray:=by rw[h2',<-e1];simp
    simp[execOp,ho,h1,Instr.makeFunc,e3]
   ·cases h
  ·cases h
 ·cases h
def shs?:(a b:List Sh)->Option (PLift (a=b))
 | [],[]=>some ⟨rfl⟩
 | x ::r,y ::r'=>match Sh.eq? x y,shs? r r' with
  | some ⟨h⟩,some ⟨h'⟩=>some ⟨by rw[h,h']⟩
  | _,_=>none
 | _,_=>none
def takes:(as:List Sh)->List SV->Option (TsS as×List SV)
 | [],l=>some ((),l)
 | s ::r,v ::l=>match s.whole v,takes r l with
  | some x,some (y,l')=>some ((x,y),l')
  | _,_=>none
 | _ ::_,[]=>none
def wholeL (s:Sh) (l:List At):Option s.T:=match s.take l with
 | some (x,[])=>some x
 | _=>none
def takeRefs (rk:Rk) (bk:Nat->Option (List At)):(cs:List Sh)->List (Nat×Nat)->Option (TsS cs)
 | [],[]=>some ()
 | s ::r,p ::l=>match Nat.beq p.2 0,bk p.1,takeRefs rk bk r l with
  | true,some b,some y=>match wholeL s (thawL rk b) with
   | some x=>some (x,y)
   | none=>none
  | _,_,_=>none
 | _,_=>none
def Ctr.asFn (c:Ctr) (a:List Sh) (r:Sh) (y:TsS c.cs):Option (FnT a r):=match c,y with
 | ⟨as,[],_,.one r',m⟩,y=>match shs? as a,Sh.eq? r' r with
  | some ⟨h⟩,some ⟨h'⟩=>some (h ▸ h' ▸ ((fun x=>m x () y):FnT as r'))
  | _,_=>none
 | _,_=>none
def fnOf:SV->Option (FuncId×List (Nat×Nat))
 | .c false [.v (.func (.func id) ⟨[]⟩ ⟨[]⟩)]=>some (id,[])
 | .c false [.clo id cap]=>some (id,cap)
 | _=>none
def takeP (a:List Sh) (r:Sh):SV->Option (FnT a r)
 | .c false [.fn a' r' F]=>match shs? a' a,Sh.eq? r' r with
  | some ⟨h⟩,some ⟨h'⟩=>some (h ▸ h' ▸ F)
  | _,_=>none
 | _=>none
def rowsRefs (bk:Nat->Option (List At)):List (Nat×Nat)->List Nat
 | []=>[]
 | p ::l=>match bk p.1 with
  | some b=>rowsL b++rowsRefs bk l
  | none=>rowsRefs bk l
def rowsFn (bk:Nat->Option (List At)) (v:SV):List Nat:=match fnOf v with
 | some (_,cap)=>rowsRefs bk cap
 | none=>[]
def rowsFns (bk:Nat->Option (List At)):List SV->List Nat
 | []=>[]
 | v ::l=>rowsFn bk v++rowsFns bk l
def takeG (C:Ctx) (rk:Rk) (bk:Nat->Option (List At)) (a:List Sh) (r:Sh) (v:SV):Option (FnT a r):=match fnOf v with
 | some (id,cap)=>match C.ctr id with
  | some c=>match takeRefs rk bk c.cs cap with
   | some y=>c.asFn a r y
   | none=>none
  | none=>none
 | none=>none
def takeF (C:Ctx) (rk:Rk) (bk:Nat->Option (List At)) (a:List Sh) (r:Sh) (v:SV):Option (FnT a r):=match takeP a r v with
 | some F=>some F
 | none=>takeG C rk bk a r v
def takeFs (C:Ctx) (rk:Rk) (bk:Nat->Option (List At)):(fs:List (List Sh×Sh))->List SV->Option (TsF fs)
 | [],[]=>some ()
 | f ::r,v ::l=>match takeF C rk bk f.1 f.2 v,takeFs C rk bk r l with
  | some x,some y=>some (x,y)
  | _,_=>none
 | _,_=>none
def gets (get:Operand->Option SV):List Operand->Option (List SV)
 | []=>some []
 | x ::r=>match get x,gets get r with
  | some s,some l=>some (s ::l)
  | _,_=>none
def callEff (u:List Nat) (flat:Bool):Eff:=match u,flat with
 | [],_=>.none
 | _,true=>.none
 | u,false=>.rkill u
def effNone:Eff->Bool
 | .none=>true
 | _=>false
def callU (bk:Nat->Option (List At)) (l:List SV) (cap:List (Nat×Nat)):List Nat:=rowsVs l++(rowsRefs bk cap++rowsFns bk l)
def capS:List (Nat×Nat)->List SV
 | []=>[]
 | p ::l=>.c false [.ptr p.1 p.2] ::capS l
def callR (rk:Rk) (b:Nat) (l:List SV) (c:RCtr):Option Cor:=match takes c.as (thawVs rk l),rk b with
 | some (x,[]),none=>match c.e.flat||(rowsVs l).isEmpty with
  | true=>some (.call (List c.e.T) [] (guardB (liveR rk (rowsVs l)) (c.m x)) (fun _=>.c false [.row b]) (fun l=>.row b ⟨c.t,c.e,l.length,l⟩ none) false)
  | false=>none
 | _,_=>none
def callW (rk:Rk) (b:Nat) (l:List SV) (c:WCtr):Option Cor:=match takes c.as l,rk b with
 | some (x,[]),none=>some (.call (List c.e.T×c.s.T) ([],c.s.dflt) (c.m x) (fun z=>.c true (.row b ::c.s.cells z.2)) (fun z=>.row b ⟨c.t,c.e,z.1.length,z.1⟩ none) false)
 | _,_=>none
def callA (rk:Rk) (b:Nat) (l:List SV) (c:ACtr):Option Cor:=match l with
 | .c false [.row q] ::l'=>match rk q with
  | some (.some ri)=>match Nat.beq ri.t c.t,Sh.eq? ri.e c.e,takes c.as l' with
   | true,some ⟨h⟩,some (x,[])=>match rk b with
    | none=>some (.call (List c.e.T) [] (c.m (h ▸ ri.l) x) (fun _=>.c false [.row b]) (fun z=>.row b ⟨c.t,c.e,z.length,z⟩ (some q)) false)
    | _=>none
   | _,_,_=>none
  | _=>none
 | _=>none
def or3 (a b c:Option Cor):Option Cor:=match a with
 | some r=>some r
 | none=>match b with
  | some r=>some r
  | none=>c
theorem or3_cases {a b c:Option Cor} {r:Cor} (h:or3 a b c=some r):a=some r\/b=some r\/c=some r:=by
 unfold or3 at h
 split at h
 ·exact .inl h
 ·split at h
  ·exact .inr (.inl h)
  ·exact .inr (.inr h)
def callKc (C:Ctx) (bk:Nat->Option (List At)) (rk:Rk) (id:FuncId) (cap:List (Nat×Nat)) (l:List SV):Option Cor:=match C.ctr id with
 | some c=>match takes c.as (thawVs rk l),takeRefs rk bk c.cs cap with
  | some (x,l'),some y=>match takeFs C rk bk c.fs l' with
   | some F=>some (.call c.r.T c.r.dflt (guardB (liveR rk (callU bk l cap)) (c.m x F y)) (retS c.r) (fun _=>callEff (callU bk l cap) c.r.flat) (effNone (callEff (callU bk l cap) c.r.flat)))
   | none=>none
  | _,_=>none
 | none=>none
def takePtr (bk:Nat->Option (List At)) (rk:Rk) (s:Sh):SV->Option (s.T×List Nat)
 | .c false [.ptr b 0]=>match bk b with
  | some l=>match wholeL s (thawL rk l) with
   | some x=>some (x,rowsL l)
   | none=>none
  | none=>none
 | .c false [.rf s' x 0]=>match Sh.eq? s' s with
  | some ⟨h⟩=>some (h ▸ x,[])
  | none=>none
 | _=>none
def callKp (C:Ctx) (bk:Nat->Option (List At)) (rk:Rk) (id:FuncId) (cap:List (Nat×Nat)) (l:List SV):Option Cor:=match C.pctr id,cap,l with
 | some c,[],v ::l=>match takePtr bk rk c.s v,takes c.as (thawVs rk l),c.r.flat with
  | some (x,u),some (y,[]),true=>some (.call c.r.T c.r.dflt (guardB (liveR rk (u++rowsVs l)) (c.m x y)) (retS c.r) (fun _=>.none) true)
  | _,_,_=>none
 | _,_,_=>none
def callKm (C:Ctx) (bk:Nat->Option (List At)) (id:FuncId) (cap:List (Nat×Nat)) (l:List SV):Option Cor:=match C.mctr id,cap,l with
 | some c,[],.c false [.ptr b 0] ::l=>match bk b with
  | some cs=>match wholeL c.s cs,takes c.as l,c.s.flat&&c.r.flat with
   | some x,some (y,[]),true=>some (.call (c.s.T×c.r.T) (c.s.dflt,c.r.dflt) (c.m x y) (fun t=>retS c.r t.2) (fun t=>.store b (c.s.cells t.1)) false)
   | _,_,_=>none
  | none=>none
 | _,_,_=>none
def callK (C:Ctx) (bk:Nat->Option (List At)) (rk:Rk) (b:Nat) (id:FuncId) (cap:List (Nat×Nat)) (l:List SV):Option Cor:=match or3 (callKc C bk rk id cap l) (callKp C bk rk id cap l) (callKm C bk id cap l) with
 | some r=>some r
 | none=>match C.fctr id with
  | some c=>match cap,takes c.as l with
   | [],some (x,[])=>some (.call (FnT c.a c.r) (fun _=>none) (c.m x) (fun F=>.c false [.fn c.a c.r F]) (fun _=>.none) true)
   | _,_=>none
  | none=>match C.rctr id with
   | some c=>match cap with
    | []=>callR rk b l c
    | _=>none
   | none=>match C.wctr id with
    | some c=>match cap with
     | []=>callW rk b l c
     | _=>none
    | none=>match C.actr id with
     | some c=>match cap with
      | []=>callA rk b l c
      | _=>none
     | none=>match C.inl id with
      | true=>some (.inl id (l++capS cap))
      | false=>none
def callC (C:Ctx) (get:Operand->Option SV) (bk:Nat->Option (List At)) (rk:Rk) (b:Nat) (f:Operand) (xs:Array Operand):Option Cor:=match get f with
 | some fv=>match fnOf fv,gets get xs.toList with
  | some (id,cap),some l=>callK C bk rk b id cap l
  | _,_=>none
 | none=>none
theorem thawVs_rel (hm:Mod N E a g) {rk:Rk} (hrk:∀i r,rk i=some r->g.r i=some r) {u:List Nat} (hlv:∀r ∈ u,liveOk rk r):∀{l:List SV} {vs:List Value},RelVs E l vs->(∀r ∈ rowsVs l,r ∈ u)->RelVs (E.zone g u) (thawVs rk l) vs
 | [],[],_,_=>trivial
 | _ ::_,_ ::_,h,hu=>⟨thawS_rel hm hrk hlv h.1 fun r hr=>hu r (List.mem_append_left _ hr),thawVs_rel hm hrk hlv h.2 fun r hr=>hu r (List.mem_append_right _ hr)⟩
 | [],_ ::_,h,_=>h.elim
 | _ ::_,[],h,_=>h.elim
theorem retV_zone {w:World} {Z Z':Nat->Prop} (hZ:∀b,Z b->Z' b) {r:RSh} {x:r.T} {v:Value} (h:RetV w Z r x v):RetV w Z' r x v:=by
 have one:∀{s:Sh} {x:s.T} {v:Value},DatV w Z s x v->DatV w Z' s x v:=fun ⟨cs,h1,h2,h3⟩=>⟨cs,Dat.mono hZ (fun _ _=>rfl) h1,h2,h3⟩
 cases r with
 | one s=>exact one h
 | tup l =>
  obtain ⟨vs,h1,h2⟩:=h
  refine ⟨vs,h1,?_⟩
  clear h1
  induction l generalizing vs with
  | nil=>exact h2
  | cons s r ih =>
   simp only[DatVs] at h2 ⊢
   obtain ⟨v,vs',h3,h4,h5⟩:=h2
   exact ⟨v,vs',h3,one h4,ih (x:=x.2) vs' h5⟩
theorem gets_rel {get:Operand->Option SV}:∀{xs:List Operand} {l:List SV},gets get xs=some l->(∀x ∈ xs,∀s,get x=some s->RelV E s (a.eval x))->RelVs E l (xs.map a.eval)
 | [],l,h,_=>by simp only[gets] at h;injection h with h;subst h;trivial
 | x ::r,l,h,hg=>by
  simp only[gets] at h
  split at h
  ·rename_i s l' hs hl
   injection h with h
   subst h
   exact ⟨hg x (by simp) s hs,gets_rel hl fun y hy=>hg y (by simp[hy])⟩
  ·cases h
theorem takes_rel:∀{as:List Sh} {l l':List SV} {x:TsS as} {vs:List Value},takes as l=some (x,l')->RelVs E l vs->∃vs1 vs2,vs=vs1++vs2/\DatVs E.w E.Z as x vs1/\RelVs E l' vs2
 | [],l,l',x,vs,h,hr=>by
  simp only[takes,Option.some.injEq,Prod.mk.injEq] at h
  obtain ⟨_,rfl⟩:=h
  exact ⟨[],vs,rfl,rfl,hr⟩
 | s ::r,v ::l,l',x,vs,h,hr=>by
  simp only[takes] at h
  split at h
  ·rename_i y z l'' hy hz
   simp only[Option.some.injEq,Prod.mk.injEq] at h
   obtain ⟨rfl,rfl⟩:=h
   match vs,hr with
   | u ::vs,hr =>
    obtain ⟨vs1,vs2,rfl,h1,h2⟩:=takes_rel hz hr.2
    exact ⟨u ::vs1,vs2,rfl,by simp only[DatVs];exact ⟨u,vs1,rfl,whole_rel hy hr.1,h1⟩,h2⟩
  ·cases h
 | _ ::_,[],_,_,_,h,_=>by cases h
theorem refV_of (hm:Mod N E a g) {bk:Nat->Option (List At)} (hbk:∀i l,bk i=some l->g.h i=some l) {rk:Rk} (hrk:∀i r,rk i=some r->g.r i=some r) {u:List Nat} (hlv:∀r ∈ u,liveOk rk r) {s:Sh} {i:Nat} {l:List At} {x:s.T} (hb:bk i=some l) (hx:wholeL s (thawL rk l)=some x)
  (hu:∀r ∈ rowsL l,r ∈ u) {w':World} {Z':Nat->Prop} (hw:Below E.w.heap.size E.w w') (hZ:∀b,E.zp g u b->Z' b):RefV w' Z' s x (ptrV E.β (i,0)):=by
 obtain ⟨_,cs,t,hh,hr0,_⟩:=hm.blks i l (hbk i l hb)
 have hr:=thawL_rel hm hrk (u:=u) hlv hr0 hu
 unfold wholeL at hx
 split at hx
 ·rename_i y hy
  injection hx with hx
  subst hx
  obtain ⟨c1,c2,rfl,hd,h2⟩:=take_rel hy hr
  match c2,h2 with
  | [],_ =>
   have hlt:=hm.blk_lt (hbk i l hb)
   rw[List.append_nil] at hh
   refine ⟨E.β i,c1,rfl,Nat.lt_of_lt_of_le hlt hw.size,Dat.mono hZ (fun b hb'=>hw.block b (zp_lt hm u b hb')) hd,fun j u hj=>?_⟩
   simp[World.cell?,hw.block _ hlt,hh,hj]
 ·cases hx
theorem rowsRefs_cons {bk:Nat->Option (List At)} {p:Nat×Nat} {l:List (Nat×Nat)} {b:List At} (h:bk p.1=some b):rowsRefs bk (p ::l)=rowsL b++rowsRefs bk l:=by simp[rowsRefs,h]
theorem takeRefs_rel (hm:Mod N E a g) {bk:Nat->Option (List At)} (hbk:∀i l,bk i=some l->g.h i=some l) {rk:Rk} (hrk:∀i r,rk i=some r->g.r i=some r) {u:List Nat} (hlv:∀r ∈ u,liveOk rk r) {w':World} {Z':Nat->Prop} (hw:Below E.w.heap.size E.w w') (hZ:∀b,E.zp g u b->Z' b) :
  ∀{cs:List Sh} {cap:List (Nat×Nat)} {y:TsS cs},takeRefs rk bk cs cap=some y->(∀r ∈ rowsRefs bk cap,r ∈ u)->RefVs w' Z' cs y (cap.map (ptrV E.β))
 | [],[],_,_,_=>rfl
 | s ::r,p ::l,y,h,hu=>by
  simp only[takeRefs] at h
  split at h
  ·rename_i b z h0 hb hz
   split at h
   ·rename_i x hx
    injection h with h
    subst h
    rw[rowsRefs_cons hb] at hu
    obtain ⟨i,off⟩:=p
    have h0:off=0:=by simpa using h0
    subst h0
    simp only[List.map_cons,RefVs]
    exact ⟨_,_,rfl,refV_of hm hbk hrk hlv hb hx (fun r hr=>hu r (List.mem_append_left _ hr)) hw hZ,takeRefs_rel hm hbk hrk hlv hw hZ hz fun r hr=>hu r (List.mem_append_right _ hr)⟩
   ·cases h
  ·cases h
 | [],_ ::_,_,h,_=>by cases h
 | _ ::_,[],_,h,_=>by cases h
theorem fnOf_rel {v:SV} {id:FuncId} {cap:List (Nat×Nat)} {y:Value} (h:fnOf v=some (id,cap)) (hv:RelV E v y):y=.func (.func id) #[] (cap.map (ptrV E.β)).toArray:=by
 unfold fnOf at h
 split at h
 ·simp only[Option.some.injEq,Prod.mk.injEq] at h
  obtain ⟨rfl,rfl⟩:=h
  exact toV_rel rfl hv
 ·simp only[Option.some.injEq,Prod.mk.injEq] at h
  obtain ⟨rfl,rfl⟩:=h
  obtain ⟨cs,rfl,hr,_⟩:=hv
  match cs,hr with
  | [z],hr=>rw[hr.1.1];rfl
 ·cases h
theorem takeP_rel (hm:Mod N E a g) {u:List Nat} {as:List Sh} {r:Sh} {v:SV} {F:FnT as r} {y:Value} (h:takeP as r v=some F) (hv:RelV (E.zone g u) v y):FnV E.P E.w (E.zp g u) as r F y:=by
 unfold takeP at h
 split at h
 ·rename_i a' r' F'
  split at h
  ·rename_i h1 h2 _ _
   subst h1;subst h2
   injection h with h
   subst h
   obtain ⟨cs,rfl,hr,_⟩:=hv
   match cs,hr with
   | [z],hr =>
    obtain ⟨id,cap,hz,hcall,hfn⟩:=hr.1
    refine ⟨id,cap,hz,hcall,fun w' Z' x y vals hw hZ=>hfn w' Z' x y vals ⟨hm.glob.below.trans (hw.mono hm.glob.below.size),fun ad q hz hc=>?_⟩ fun b hb=>hZ b hb⟩
    rw[<-hc]
    exact World.cell?_of_block (hw.block _ (zp_lt hm u _ hz))
  ·cases h
 ·cases h
theorem gd_of {C:Ctx} (hP:E.P=C.P) (hm:Mod N E a g):Gd C.P E.w:=hP ▸ hm.glob.now
theorem takeG_rel {C:Ctx} (hC:C.ok) (hP:E.P=C.P) (hm:Mod N E a g) {bk:Nat->Option (List At)} (hbk:∀i l,bk i=some l->g.h i=some l) {rk:Rk} (hrk:∀i r,rk i=some r->g.r i=some r) {u:List Nat} (hlv:∀r ∈ u,liveOk rk r) {as:List Sh} {r:Sh} {v:SV} {F:FnT as r} {y:Value}
  (h:takeG C rk bk as r v=some F) (hu:∀q ∈ rowsFn bk v,q ∈ u) (hv:RelV (E.zone g u) v y):FnV C.P E.w (E.zp g u) as r F y:=by
 unfold takeG at h
 split at h
 ·rename_i id cap hf
  split at h
  ·rename_i c hc
   split at h
   ·rename_i z hz
    obtain ⟨hcall,hok⟩:=hC.ctr id c hc
    refine ⟨id,_,fnOf_rel (E:=E.zone g u) hf hv,hcall,fun w' Z' x y vals hw hZ hZb hd hv'=>?_⟩
    have hrefs:=takeRefs_rel hm hbk hrk (u:=u) hlv hw hZ hz (by simpa [rowsFn,hf] using hu)
    obtain ⟨as',fs',cs',r',m⟩:=c
    unfold Ctr.asFn at h
    split at h
    ·rename_i as2 cs2 r2 m2 _ y2 heq1 heq2
     injection heq1 with e1 e2 e3 e4 e6
     subst e1;subst e2;subst e3;subst e4
     cases e6;cases heq2
     split at h
     ·rename_i h1 h2 _ _
      subst h1;subst h2
      injection h with h
      subst h
      have:=hok x () y2 y hd w' Z' vals [] _ ((gd_of hP hm).mono hw) hZb hv' rfl hrefs
      simpa [RetV,Env.zone] using this
     ·cases h
    ·cases h
   ·cases h
  ·cases h
 ·cases h
theorem takeF_rel {C:Ctx} (hC:C.ok) (hP:E.P=C.P) (hm:Mod N E a g) {bk:Nat->Option (List At)} (hbk:∀i l,bk i=some l->g.h i=some l) {rk:Rk} (hrk:∀i r,rk i=some r->g.r i=some r) {u:List Nat} (hlv:∀r ∈ u,liveOk rk r) {as:List Sh} {r:Sh} {v:SV} {F:FnT as r} {y:Value}
  (h:takeF C rk bk as r v=some F) (hu:∀q ∈ rowsFn bk v,q ∈ u) (hv:RelV (E.zone g u) v y):FnV C.P E.w (E.zp g u) as r F y:=by
 unfold takeF at h
 split at h
 ·rename_i F' hF
  injection h with h
  subst h
  rw[<-hP]
  exact takeP_rel hm hF hv
 ·exact takeG_rel hC hP hm hbk hrk hlv h hu hv
theorem takeFs_rel {C:Ctx} (hC:C.ok) (hP:E.P=C.P) (hm:Mod N E a g) {bk:Nat->Option (List At)} (hbk:∀i l,bk i=some l->g.h i=some l) {rk:Rk} (hrk:∀i r,rk i=some r->g.r i=some r) {u:List Nat} (hlv:∀r ∈ u,liveOk rk r) :
  ∀{fs:List (List Sh×Sh)} {l:List SV} {F:TsF fs} {vs:List Value},takeFs C rk bk fs l=some F->(∀q ∈ rowsFns bk l,q ∈ u)->RelVs (E.zone g u) l vs->FnVs C.P E.w (E.zp g u) fs F vs
 | [],[],_,vs,_,_,hr=>by
  match vs,hr with
  | [],_=>rfl
 | f ::r,v ::l,F,vs,h,hu,hr=>by
  simp only[takeFs] at h
  split at h
  ·rename_i x y hx hy
   injection h with h
   subst h
   match vs,hr with
   | w ::vs,hr =>
    simp only[FnVs]
    exact ⟨w,vs,rfl,takeF_rel hC hP hm hbk hrk hlv hx (fun q hq=>hu q (List.mem_append_left _ hq)) hr.1,takeFs_rel hC hP hm hbk hrk hlv hy (fun q hq=>hu q (List.mem_append_right _ hq)) hr.2⟩
  ·cases h
 | [],_ ::_,_,_,h,_,_=>by cases h
 | _ ::_,[],_,_,h,_,_=>by cases h
theorem takes_drop:∀{as:List Sh} {l l':List SV} {x:TsS as},takes as l=some (x,l')->∃k,l'=l.drop k
 | [],l,l',x,h=>by
  simp only[takes,Option.some.injEq,Prod.mk.injEq] at h
  exact ⟨0,h.2.symm⟩
 | s ::r,v ::l,l',x,h=>by
  simp only[takes] at h
  split at h
  ·rename_i y z l'' hy hz
   simp only[Option.some.injEq,Prod.mk.injEq] at h
   obtain ⟨_,rfl⟩:=h
   obtain ⟨k,hk⟩:=takes_drop hz
   exact ⟨k+1,hk⟩
  ·cases h
 | _ ::_,[],_,_,h=>by cases h
theorem rowsFns_drop {bk:Nat->Option (List At)}:∀{l:List SV} {k q:Nat},q ∈ rowsFns bk (l.drop k)->q ∈ rowsFns bk l
 | [],k,q,h=>by simpa using h
 | _ ::_,0,_,h=>h
 | _ ::l,k+1,q,h=>List.mem_append_right _ (rowsFns_drop (l:=l) (k:=k) h)
theorem fnOf_thaw {rk:Rk} {v:SV}:fnOf (thawS rk v)=fnOf v:=by
 cases v with
 | tup l=>rfl
 | c ag l =>
  cases ag with
  | true=>simp[thawS,fnOf]
  | false =>
   match l with
   | []=>rfl
   | [x] =>
    simp only[thawS,thawL]
    cases x<;>first | rfl | (simp only[thawA];split<;>rfl)
   | _ ::_ ::_=>simp[thawS,thawL,fnOf]
theorem rowsFns_thaw {rk:Rk} {bk:Nat->Option (List At)}:∀{l:List SV},rowsFns bk (thawVs rk l)=rowsFns bk l
 | []=>rfl
 | v ::l=>by simp[thawVs,rowsFns,rowsFn,fnOf_thaw,rowsFns_thaw (l:=l)]
theorem capS_rel:∀{cap:List (Nat×Nat)},(∀p ∈ cap,E.L p.1)->RelVs E (capS cap) (cap.map (ptrV E.β))
 | [],_=>trivial
 | p ::l,h=>⟨⟨[_],rfl,⟨⟨rfl,h p (by simp)⟩,trivial⟩,fun _=>rfl⟩,capS_rel fun q hq=>h q (by simp[hq])⟩
theorem relVs_append:∀{l m:List SV} {vs us:List Value},RelVs E l vs->RelVs E m us->RelVs E (l++m) (vs++us)
 | [],_,[],_,_,h=>h
 | _ ::_,_,_ ::_,_,h,h'=>⟨h.1,relVs_append h.2 h'⟩
 | [],_,_ ::_,_,h,_=>h.elim
 | _ ::_,_,[],_,h,_=>h.elim
theorem fnOf_cap {v:SV} {id:FuncId} {cap:List (Nat×Nat)} {y:Value} (h:fnOf v=some (id,cap)) (hv:RelV E v y):∀p ∈ cap,E.L p.1:=by
 unfold fnOf at h
 split at h
 ·simp only[Option.some.injEq,Prod.mk.injEq] at h
  obtain ⟨rfl,rfl⟩:=h
  intro p hp;cases hp
 ·simp only[Option.some.injEq,Prod.mk.injEq] at h
  obtain ⟨rfl,rfl⟩:=h
  obtain ⟨cs,rfl,hr,_⟩:=hv
  match cs,hr with
  | [z],hr=>exact hr.1.2
 ·cases h
theorem takePtr_rel (hm:Mod N E a g) {bk:Nat->Option (List At)} (hbk:∀i l,bk i=some l->g.h i=some l) {rk:Rk} (hrk:∀i r,rk i=some r->g.r i=some r) {u:List Nat} (hlv:∀r ∈ u,liveOk rk r) {s:Sh} {v:SV} {x:s.T} {u1:List Nat} {y:Value} (h:takePtr bk rk s v=some (x,u1)) (hu:∀r ∈ u1,r ∈ u) (hv:RelV E v y):RefW E.w (E.zp g u) s x y:=by
 unfold takePtr at h
 split at h
 ·rename_i b
  split at h
  ·rename_i l hb
   split at h
   ·rename_i x' hx
    simp only[Option.some.injEq,Prod.mk.injEq] at h
    obtain ⟨rfl,rfl⟩:=h
    obtain ⟨q,cs,h1,h2,h3,h4⟩:=refV_of hm hbk hrk hlv hb hx hu (Below.refl _ _) (Z':=E.zp g u) fun _ h=>h
    obtain ⟨cs0,rfl,hr,_⟩:=hv
    match cs0,hr with
    | [z],hr =>
    obtain ⟨⟨g1,g2⟩,_⟩:=hr
    refine ⟨⟨q,0,none⟩,cs,?_,h2,h3,fun j u hj=>by rw[add_lit,Nat.zero_add];exact h4 j u hj⟩
    rw[g1,<-h1];rfl
   ·cases h
  ·cases h
 ·rename_i s' x'
  split at h
  ·rename_i e _
   subst e
   simp only[Option.some.injEq,Prod.mk.injEq] at h
   obtain ⟨rfl,rfl⟩:=h
   obtain ⟨cs0,rfl,hr,_⟩:=hv
   match cs0,hr with
   | [z],hr =>
   have hr1:=hr.1
   obtain ⟨ad,cs,g1,g2,g3,g4⟩:=hr1
   refine ⟨ad,cs,by rw[g1];rfl,?_,Dat.mono (fun _ h=>.inl h) (fun _ _=>rfl) g3,g4⟩
   rcases g2 with h | h
   ·exact hm.glob.zlt _ h
   ·exact Nat.lt_of_lt_of_le h hm.glob.below.size
  ·cases h
 ·cases h
theorem callKp_ok {C:Ctx} (hC:C.ok) (hP:E.P=C.P) {bk:Nat->Option (List At)} {rk:Rk} {id:FuncId} {cap:List (Nat×Nat)} {l:List SV} {f:Operand} {xs:Array Operand} {ts:Array TypeId} {r:Cor} (ho:o.op=.call { callee:=.value f,args:=xs,argTypes:=ts })
  (h:callKp C bk rk id cap l=some r) (hfe:a.eval f=.func (.func id) #[] (cap.map (ptrV E.β)).toArray) (_:∀p ∈ cap,E.L p.1) (hl:RelVs E l (xs.toList.map a.eval)) (hm:Mod N E a g) (hbk:∀i l,bk i=some l->g.h i=some l) (hrk:∀i r,rk i=some r->g.r i=some r):CorOk C.P N g E a o r:=by
 unfold callKp at h
 split at h
 case h_2=>cases h
 rename_i c v l hc _
 split at h
 case h_2=>cases h
 rename_i x u y hx hy hfl
 injection h with h
 subst h
 refine ⟨fun _ _=>rfl,fun z hz=>?_⟩
 obtain ⟨hlv0,hz⟩:=guardB_some hz
 have hlv:=liveR_ok hlv0
 obtain ⟨hcall,hok⟩:=hC.pctr id c hc
 cases hxs:xs.toList.map a.eval with
 | nil=>rw[hxs] at hl;exact hl.elim
 | cons v0 vs0 =>
  rw[hxs] at hl
  have hl':=thawVs_rel hm hrk (u:=u++rowsVs l) hlv hl.2 fun r hr=>List.mem_append_right _ hr
  obtain ⟨vs1,vs2,e,h1,h2⟩:=takes_rel hy hl'
  match vs2,h2 with
  | [],_ =>
  rw[List.append_nil] at e
  subst e
  have h3:=takePtr_rel hm hbk hrk hlv hx (fun r hr=>List.mem_append_left _ hr) hl.1
  have:=hok x y z hz E.w (E.zp g (u++rowsVs l)) v0 vs0 (gd_of hP hm) (zp_lt hm _) h3 h1
  refine call_ok (cap:=#[]) ho (by rw[hfe];rfl) hcall hm ?_
  have e2:xs.map a.eval++#[]=(v0 ::vs0).toArray:=by rw[<-hxs];simp[<-Array.toList_map]
  rw[e2]
  refine this.mono fun e w' he=>?_
  obtain ⟨w1,rfl,g1,g2⟩:=he
  exact ⟨w1,rfl,RetV.flat hfl g1,g2⟩
theorem callKm_ok {C:Ctx} (hC:C.ok) (hP:E.P=C.P) {bk:Nat->Option (List At)} {id:FuncId} {cap:List (Nat×Nat)} {l:List SV} {f:Operand} {xs:Array Operand} {ts:Array TypeId} {r:Cor} (ho:o.op=.call { callee:=.value f,args:=xs,argTypes:=ts })
  (h:callKm C bk id cap l=some r) (hfe:a.eval f=.func (.func id) #[] (cap.map (ptrV E.β)).toArray) (_:∀p ∈ cap,E.L p.1) (hl:RelVs E l (xs.toList.map a.eval)) (hm:Mod N E a g) (hbk:∀i l,bk i=some l->g.h i=some l):CorOk C.P N g E a o r:=by
 unfold callKm at h
 split at h
 case h_2=>cases h
 rename_i c b l hc _
 split at h
 case h_2=>cases h
 rename_i cs hb
 split at h
 case h_2=>cases h
 rename_i x y hx hy hfl
 simp only[Bool.and_eq_true] at hfl
 injection h with h
 subst h
 refine ⟨fun e=>(by cases e),fun z hz=>?_⟩
 obtain ⟨⟨hcall,hok⟩,hgd⟩:=hC.mctr id c hc
 cases hxs:xs.toList.map a.eval with
 | nil=>rw[hxs] at hl;exact hl.elim
 | cons v0 vs0 =>
  rw[hxs] at hl
  obtain ⟨vs1,vs2,e,h1,h2⟩:=takes_rel hy hl.2
  match vs2,h2 with
  | [],_ =>
  rw[List.append_nil] at e
  subst e
  have hgb:=hbk _ _ hb
  obtain ⟨hLb,cs0,t,hh,hr0,hone⟩:=hm.blks b cs hgb
  obtain ⟨hw0,hnz⟩:=hm.glob.own b cs hgb
  have hblt:=hm.blk_lt hgb
  unfold wholeL at hx
  split at hx
  case h_2=>cases hx
  rename_i x' hx'
  injection hx with hx
  subst hx
  obtain ⟨c1,c2,rfl,hd,hc2⟩:=take_rel hx' hr0
  match c2,hc2 with
  | [],_ =>
  rw[List.append_nil] at hh hone
  obtain ⟨cs1,hv0,hr1,_⟩:=hl.1
  match cs1,hr1 with
  | [z0],hr1 =>
  have hv0:v0=.pointer (some ⟨E.β b,0,none⟩):=by rw[hv0,hr1.1.1];rfl
  subst hv0
  have:=hok x' y z hz E.w E.Z (E.β b) c1 t vs0 hgd hm.glob.zlt hnz hh hd hone h1
  intro K Q hK
  unfold Oper.wp
  have hrun:(execOp a.eval o).run C.P E.w=.ok (.enter id (xs.map a.eval)) E.w:=by
   simp only[execOp,ho,resolve,hfe,Deferred.ofValue,pure_bind,invoke,Array.empty_append]
   simpa using run_callFunc hcall (xs.map a.eval) E.w
  rw[hrun]
  rw[show xs.map a.eval=(xs.toList.map a.eval).toArray by simp[<-Array.toList_map],hxs]
  refine this.mono fun e w' he=>?_
  obtain ⟨u,cs',Z',t',rfl,k1,k2,k3,k4,k5,k6,k7,k8,k9,k10⟩:=he
  let E':Env:={ E with w:=w' }
  have hX:Free E fun k=>k=E.β b:=fun k hk=>by subst hk;exact ⟨hnz,hw0⟩
  have hx1:Ext (fun k=>k=E.β b) E E':=⟨rfl,rfl,rfl,rfl,fun _ h=>h,fun k h1 h2=>k10 k h1 h2,fun _ _=>rfl,fun _ h=>h,fun _ _=>rfl,fun _ h=>h,Env.same_x⟩
  have hkeep:=hx1.keep hm.glob hX
  have hold:∀i l,(g.app (.store b (c.s.cells z.1))).h i=some l->∃l',g.h i=some l':=fun i l hi=>by
   simp only[Look.app,Look.setH] at hi
   split at hi
   ·rename_i e;rw[e];exact ⟨_,hgb⟩
   ·exact ⟨l,hi⟩
  have hbelow:Below E.w0.heap.size E.w0 w':=by
   have hb0:=hm.glob.below
   exact ⟨k6.trans hb0.os,k7.trans hb0.tape,k8.trans hb0.output,Nat.le_trans hb0.size k9,fun k hk=>(k10 k (Nat.lt_of_lt_of_le hk hb0.size) (by omega)).trans (hb0.block k hk)⟩
  have hglob:Glob E' (g.app (.store b (c.s.cells z.1))):=by
   have G:=hm.glob
   refine ⟨hbelow,fun k hk=>Nat.lt_of_lt_of_le (G.zlt k hk) k9,G.z0,G.zfrom,fun k hk=>?_,G.rlive,fun i l hi=>?_,fun i j l l' hi hj hij=>?_,fun i r k hi hk=>?_,G.rinj,⟨fun i x k hi hk=>?_,G.xg.inj⟩,G.gd⟩
   ·simp only[Look.app,Look.setH]
    split
    ·rfl
    ·exact G.live k hk
   ·obtain ⟨l',hl'⟩:=hold i l hi
    exact G.own i l' hl'
   ·obtain ⟨l1,hl1⟩:=hold i l hi
    obtain ⟨l2,hl2⟩:=hold j l' hj
    exact G.inj i j l1 l2 hl1 hl2 hij
   ·obtain ⟨h1,h2⟩:=G.rown i r k hi hk
    exact ⟨h1,fun j l hj=>by obtain ⟨l',hl'⟩:=hold j l hj;exact h2 j l' hl'⟩
   ·obtain ⟨g1,g2,g3,g4,g5⟩:=G.xg.own i x k hi hk
    exact ⟨g1,Nat.lt_of_lt_of_le g2 k9,g3,fun j l hj=>by obtain ⟨l',hl'⟩:=hold j l hj;exact g4 j l' hl',g5⟩
  have hmod:Mod N E' a (g.app (.store b (c.s.cells z.1))):=by
   refine hm.move hX hx1 hglob rfl hm.size (fun i s h=>.inl ⟨h,rfl⟩) (fun i l hi=>?_) (fun i r h=>.inl ⟨h,fun k hk e=>?_⟩) (fun i x h=>.inl ⟨h,rfl,fun k hk e=>?_⟩)
   ·simp only[Look.app,Look.setH] at hi
    split at hi
    ·rename_i e
     injection hi with hi
     subst hi
     subst e
     exact .inr ⟨hLb,cs',t',k2,(Dat.flat hfl.1 k3:Dat E'.w E'.Z c.s z.1 cs').rel,k5⟩
    ·rename_i e
     exact .inl ⟨hi,fun e'=>e (hm.glob.inj i b l cs hi hgb e')⟩
   ·subst e
    exact (hm.glob.rown i r _ h hk).2 b cs hgb rfl
   ·subst e
    exact (hm.glob.xg.own i x _ h hk).2.2.2.1 b cs hgb rfl
  exact hK E' u rfl hkeep hmod (retV_rel (E:=E') (RetV.flat hfl.2 k1))
theorem callC_ok {C:Ctx} (hC:C.ok) (hP:E.P=C.P) {get:Operand->Option SV} {bk:Nat->Option (List At)} {rk:Rk} {b:Nat} {f:Operand} {xs:Array Operand} {ts:Array TypeId} {r:Cor} (ho:o.op=.call { callee:=.value f,args:=xs,argTypes:=ts })
  (h:callC C get bk rk b f xs=some r) (hg:Gets E a get o) (hm:Mod N E a g) (hbk:∀i l,bk i=some l->g.h i=some l) (hrk:∀i r,rk i=some r->g.r i=some r) (hrb:rk b=none->g.r b=none):CorOk C.P N g E a o r:=by
 unfold callC at h
 split at h
 ·rename_i fv hfv
  split at h
  ·rename_i id cap l hf hl
   have hfe:=fnOf_rel hf (hg f fv (by rw[ho];simp[Op.operands,Call.operands]) hfv)
   have hcl:=fnOf_cap hf (hg f fv (by rw[ho];simp[Op.operands,Call.operands]) hfv)
   have hl0:=gets_rel hl fun x hx s hs=>hg x s (by rw[ho];simp only[Op.operands,Call.operands];rw[Array.mem_append];right;exact Array.mem_toList_iff.1 hx) hs
   unfold callK at h
   split at h
   ·rename_i r' hr'
    injection h with h
    subst h
    rcases or3_cases hr' with hr' | hr' | hr'
    rotate_left
    ·exact callKp_ok hC hP ho hr' hfe hcl hl0 hm hbk hrk
    ·exact callKm_ok hC hP ho hr' hfe hcl hl0 hm hbk
    unfold callKc at hr'
    split at hr'
    case h_2=>cases hr'
    rename_i c hc
    split at hr'
    ·rename_i x l' y hx hy
     split at hr'
     ·rename_i F hF
      injection hr' with hr'
      subst hr'
      refine ⟨fun hpu _=>(by cases hh:callEff (callU bk l cap) c.r.flat<;>rw[hh] at hpu<;>first | rfl | cases hpu),?_⟩
      intro z hz
      obtain ⟨hlv0,hz⟩:=guardB_some hz
      have hlv:=liveR_ok hlv0
      obtain ⟨hcall,hok⟩:=hC.ctr id c hc
      have hl':=thawVs_rel hm hrk (u:=callU bk l cap) hlv hl0 fun r hr=>List.mem_append_left _ hr
      obtain ⟨hmz,hkz⟩:=zone_mod hm (callU bk l cap)
      obtain ⟨vs1,vs2,e,h1,h2⟩:=takes_rel hx hl'
      have hfu:∀q ∈ rowsFns bk l',q ∈ callU bk l cap:=fun q hq=>by
       obtain ⟨k,hk⟩:=takes_drop hx
       rw[hk] at hq
       have:=rowsFns_drop hq
       rw[rowsFns_thaw] at this
       exact List.mem_append_right _ (List.mem_append_right _ this)
      have h3:FnVs C.P E.w (E.zp g (callU bk l cap)) c.fs F vs2:=takeFs_rel hC hP hm hbk hrk hlv hF hfu h2
      have h4:=takeRefs_rel hm hbk hrk (u:=callU bk l cap) hlv (Below.refl _ _) (Z':=E.zp g (callU bk l cap)) (fun _ h=>h) hy fun q hq=>List.mem_append_right _ (List.mem_append_left _ hq)
      have:=hok x F y z hz E.w (E.zp g (callU bk l cap)) vs1 vs2 _ (gd_of hP hm) (zp_lt hm _) h1 h3 h4
      rw[<-e] at this
      have e2:xs.map a.eval++(cap.map (ptrV E.β)).toArray=(xs.toList.map a.eval++cap.map (ptrV E.β)).toArray:=by
       rw[<-List.append_toArray]
       simp[<-Array.toList_map]
      rw[<-e2] at this
      intro K Q hK
      unfold Oper.wp
      have hrun:(execOp a.eval o).run C.P E.w=.ok (.enter id (xs.map a.eval++(cap.map (ptrV E.β)).toArray)) E.w:=by
       simp only[execOp,ho,resolve,hfe,Deferred.ofValue,pure_bind,invoke,Array.empty_append]
       exact run_callFunc hcall _ _
      rw[hrun]
      refine this.mono fun e w' he=>?_
      obtain ⟨v,rfl,g1,g2⟩:=he
      have keep:∀(hz:∀b,E.zp g (callU bk l cap) b->E.Z b),callEff (callU bk l cap) c.r.flat=.none->K (a.put o.dst v) w':=fun hz he=>by
       refine hK (E.dat w') v rfl (dat_keep hm g2) (by show Mod N _ a (g.app (callEff _ _));rw[he];exact dat_mod hm g2) (retV_rel (E:=E.dat w') (retV_zone (fun b hb=>?_) g1))
       exact hb.imp (hz b) fun h=>h
      cases hu:callU bk l cap with
      | nil =>
       refine keep (fun b hb=>?_) (by rw[hu];rfl)
       rw[hu] at hb
       rcases hb with hb | ⟨r,hr,_⟩
       ·exact hb
       ·cases hr
      | cons q u =>
       cases hfl:c.r.flat with
       | true =>
        have he:callEff (callU bk l cap) c.r.flat=.none:=by rw[hu,hfl];rfl
        exact hK (E.dat w') v rfl (dat_keep hm g2) (by show Mod N _ a (g.app (callEff _ _));rw[he];exact dat_mod hm g2) (retV_rel (E:=E.dat w') (RetV.flat hfl g1))
       | false =>
        have he:callEff (callU bk l cap) c.r.flat=.rkill (callU bk l cap):=by rw[hu,hfl];rfl
        exact hK ((E.zone g (callU bk l cap)).dat w') v rfl (hkz.trans (dat_keep hmz g2)) (by show Mod N _ a (g.app (callEff _ _));rw[he];exact dat_mod hmz g2) (retV_rel (E:=(E.zone g (callU bk l cap)).dat w') g1)
     ·cases hr'
    ·cases hr'
   rename_i hkc
   clear hkc
   split at h
   ·rename_i c hc
    obtain ⟨hcall,hok⟩:=hC.fctr id c hc
    split at h
    case h_2=>cases h
    rename_i x hx
    injection h with h
    subst h
    refine ⟨fun _ _=>rfl,fun F hF=>?_⟩
    obtain ⟨vs1,vs2,e,h1,h2⟩:=takes_rel hx hl0
    match vs2,h2 with
    | [],_ =>
    rw[List.append_nil] at e
    have:=hok x F hF E.w E.Z vs1 (gd_of hP hm) hm.glob.zlt h1
    rw[<-e] at this
    intro K Q hK
    unfold Oper.wp
    have hrun:(execOp a.eval o).run C.P E.w=.ok (.enter id (xs.map a.eval)) E.w:=by
     simp only[execOp,ho,resolve,hfe,Deferred.ofValue,pure_bind,invoke,Array.empty_append]
     simpa using run_callFunc hcall (xs.map a.eval) E.w
    rw[hrun]
    rw[show xs.map a.eval=(xs.toList.map a.eval).toArray by simp[<-Array.toList_map]]
    refine this.mono fun e' w' he=>?_
    obtain ⟨v,Z',rfl,z1,⟨gf,gc,g1,g2,g3⟩,hb⟩:=he
    refine hK (E.dat w') v rfl (dat_keep hm hb) (dat_mod hm hb) ⟨[v],rfl,⟨⟨gf,gc,g1,by rw[show (E.dat w').P=C.P from hP];exact g2,fun w2 Z2 x2 y2 vals2 hA hZ=>?_⟩,trivial⟩,fun _=>rfl⟩
    rw[show (E.dat w').P=C.P from hP]
    exact g3 w2 Z2 x2 y2 vals2 (Gd.mono (w:=E.w0) (hP ▸ hm.glob.gd) hA.1) (fun ad u hz hc=>hA.2 ad u (z1 _ hz) hc) fun b hb=>hZ b (z1 b hb)
   ·split at h
    ·rename_i c hc
     obtain ⟨hcall,hok⟩:=hC.rctr id c hc
     split at h
     case h_2=>cases h
     unfold callR at h
     split at h
     ·rename_i x hx hbn
      split at h
      ·rename_i hfl
       injection h with h
       subst h
       refine ⟨fun hpu=>(by cases hpu),fun z hz=>?_⟩
       obtain ⟨hlv0,hz⟩:=guardB_some hz
       have hlv:=liveR_ok hlv0
       have hl':=thawVs_rel hm hrk (u:=rowsVs l) hlv hl0 fun r hr=>hr
       obtain ⟨vs1,vs2,e,h1,h2⟩:=takes_rel hx hl'
       match vs2,h2 with
       | [],_ =>
       have:=hok x z hz E.w (E.zp g (rowsVs l)) vs1 (gd_of hP hm) (zp_lt hm _) h1
       rw[List.append_nil] at e
       rw[<-e] at this
       intro K Q hK
       unfold Oper.wp
       have hrun:(execOp a.eval o).run C.P E.w=.ok (.enter id (xs.map a.eval)) E.w:=by
        simp only[execOp,ho,resolve,hfe,Deferred.ofValue,pure_bind,invoke,Array.empty_append]
        simpa using run_callFunc hcall (xs.map a.eval) E.w
       rw[hrun]
       rw[show xs.map a.eval=(xs.toList.map a.eval).toArray by simp[<-Array.toList_map]]
       refine this.mono fun e' w' he=>?_
       obtain ⟨v,Z',rfl,z1,z2,z3,⟨ys,o1,o2⟩,hb⟩:=he
       have zone:∃Z2:Nat->Prop,(∀q,E.Z q->Z2 q)/\(∀q,Z2 q->E.Z q\/(E.w.heap.size<=q/\q<w'.heap.size))/\(∀q,v.ownBlock=some q->¬ Z2 q)/\RowRel w' Z2 c.e z ys:=by
        simp only[Bool.or_eq_true] at hfl
        rcases hfl with hfl | hfl
        ·refine ⟨E.Z,fun _ h=>h,fun _ h=>.inl h,fun q hq hz=>?_,RowRel.flat hfl o2⟩
         exact z3 q hq (z1 q (.inl hz))
        ·have hu:rowsVs l=[]:=by simpa using hfl
         refine ⟨Z',fun q hq=>z1 q (.inl hq),fun q hq=>?_,z3,o2⟩
         rcases z2 q hq with h | h
         ·rcases h with h | ⟨r,hr,_⟩
          ·exact .inl h
          ·rw[hu] at hr;cases hr
         ·exact .inr h
       obtain ⟨Z2,y1,y2,y3,y4⟩:=zone
       obtain ⟨m1,m2⟩:=newRow_mod hm (hrb hbn) hb y1 y2 y3 (ri:=⟨c.t,c.e,z.length,z⟩) ⟨ys,o1,y4,rfl⟩
       refine hK (E.made b v w' Z2) v rfl m2 m1 ⟨[v],rfl,⟨⟨?_,.inr rfl,ownsRow_oneCell o1⟩,trivial⟩,fun _=>rfl⟩
       show v=if b=b then v else _
       rw[if_pos rfl]
      ·cases h
     ·cases h
    split at h
    ·rename_i c hc
     obtain ⟨hcall,hok⟩:=hC.wctr id c hc
     split at h
     case h_2=>cases h
     unfold callW at h
     split at h
     ·rename_i x hx hbn
      injection h with h
      subst h
      refine ⟨fun hpu=>(by cases hpu),fun z hz=>?_⟩
      obtain ⟨vs1,vs2,e,h1,h2⟩:=takes_rel hx hl0
      match vs2,h2 with
      | [],_ =>
      have:=hok x z hz E.w E.Z vs1 (gd_of hP hm) hm.glob.zlt h1
      rw[List.append_nil] at e
      rw[<-e] at this
      intro K Q hK
      unfold Oper.wp
      have hrun:(execOp a.eval o).run C.P E.w=.ok (.enter id (xs.map a.eval)) E.w:=by
       simp only[execOp,ho,resolve,hfe,Deferred.ofValue,pure_bind,invoke,Array.empty_append]
       simpa using run_callFunc hcall (xs.map a.eval) E.w
      rw[hrun]
      rw[show xs.map a.eval=(xs.toList.map a.eval).toArray by simp[<-Array.toList_map]]
      refine this.mono fun e' w' he=>?_
      obtain ⟨v,cs,Z',rfl,z1,z2,z3,⟨ys,o1,o2⟩,o3,hb⟩:=he
      obtain ⟨m1,m2⟩:=newRow_mod hm (hrb hbn) hb z1 z2 z3 (ri:=⟨c.t,c.e,z.1.length,z.1⟩) ⟨ys,o1,o2,rfl⟩
      refine hK (E.made b v w' Z') _ rfl m2 m1 ⟨v ::cs,rfl,⟨⟨?_,.inr rfl,ownsRow_oneCell o1⟩,Dat.rel (E:=E.made b v w' Z') o3⟩,fun h=>by cases h⟩
      show v=if b=b then v else _
      rw[if_pos rfl]
     ·cases h
    split at h
    ·rename_i c hc
     obtain ⟨⟨hcall,hok⟩,hgd⟩:=hC.actr id c hc
     split at h
     case h_2=>cases h
     unfold callA at h
     split at h
     case h_2=>cases h
     rename_i q l'
     split at h
     case h_2=>cases h
     rename_i ri hri
     split at h
     case h_2=>cases h
     rename_i he x0 htt hs hx
     split at h
     case h_2=>cases h
     rename_i hbn
     obtain ⟨rt,re,rn,rl⟩:=ri
     simp only at he htt
     subst he
     have htt:rt=c.t:=by simpa using htt
     injection h with h
     subst h
     refine ⟨fun hpu=>(by cases hpu),fun z hz=>?_⟩
     have hgq:=hrk q _ hri
     cases hxl:xs.toList with
     | nil=>rw[hxl] at hl0;exact hl0.elim
     | cons y ys =>
     rw[hxl] at hl0
     have hl1:RelV E (.c false [.row q]) (a.eval y)/\RelVs E l' (ys.map a.eval):=hl0
     obtain ⟨vs1,vs2,e,h1,h2⟩:=takes_rel hx hl1.2
     match vs2,h2 with
     | [],_ =>
     rw[List.append_nil] at e
     obtain ⟨cs,hcv,hcr,_⟩:=hl1.1
     match cs,hcr with
     | [u],hcr =>
     have hyu:a.eval y=u:=hcv
     have huq:u=E.ρ q:=hcr.1.1
     obtain ⟨hR,ws,o1,o2,o3⟩:=hm.rows q _ hgq
     simp only at o1 o2 o3
     rw[htt] at o1
     have hbelow:=hm.glob.below
     have:=hok rl _ z hz E.w E.Z E.w0.heap.size (E.ρ q) ws vs1 hgd hm.glob.zlt hbelow.size o1 o2 (fun b' hb'=>(hm.glob.rown q _ b' hgq hb').1) h1
     intro K Q hK
     unfold Oper.wp
     have hrun:(execOp a.eval o).run C.P E.w=.ok (.enter id (xs.map a.eval)) E.w:=by
      simp only[execOp,ho,resolve,hfe,Deferred.ofValue,pure_bind,invoke,Array.empty_append]
      simpa using run_callFunc hcall (xs.map a.eval) E.w
     rw[hrun]
     rw[show xs.map a.eval=(E.ρ q ::vs1).toArray by
      rw[show xs.map a.eval=(xs.toList.map a.eval).toArray by simp[<-Array.toList_map],hxl,List.map_cons,hyu,huq,e]]
     refine this.mono fun e' w' he=>?_
     obtain ⟨v',zs,rfl,g1,g2,g3,g4⟩:=he
     obtain ⟨m1,m2⟩:=row_mod0 hm (hrb hbn) (ri:=⟨c.t,c.e,z.length,z⟩) (old:=some q) (ob:=(E.ρ q).ownBlock) (fun q' hq'=>by injection hq' with hq';subst hq';exact ⟨⟨_,hgq⟩,rfl⟩) (fun h=>by cases h) g1 g4 ⟨zs,g2,g3,rfl⟩
     refine hK (E.withRow b v' w') v' rfl m2 m1 ⟨[v'],rfl,⟨⟨?_,.inr rfl,ownsRow_oneCell g2⟩,trivial⟩,fun _=>rfl⟩
     show v'=if b=b then v' else _
     rw[if_pos rfl]
    split at h
    ·rename_i hin
     injection h with h
     subst h
     refine ⟨xs.map a.eval++(cap.map (ptrV E.β)).toArray,?_,?_⟩
     ·simp only[execOp,ho,resolve,hfe,Deferred.ofValue,pure_bind,invoke,Array.empty_append]
      exact run_callFunc (hC.inl id hin) _ _
     ·have:=relVs_append hl0 (capS_rel hcl)
      simpa using this
    ·cases h
  ·cases h
 ·cases h
end
end Dn
end Go.Proofs.YtlfdhaiigdllcaaGreatDoor
