/- A symbolic executor: worlds that differ in blocks that hold no cells; the contracts of iterators. A symbolic executor: equality of structs, shifts, function values, calls by contract, and the step of one operation. -/
import Derived.RangeFuncCalls
import Derived.RangeFuncSeq
import Derived.Test.YtlfdhaiigdllcaaGreatMgG
open Bool renaming not_true→bt
open List renaming append_nil→gO,mem_append_left→gC,mem_append_right→bX,range'→rD
open Nat renaming beq→g_,le_refl→bY,lt_of_lt_of_le→fD,zero_add→d_
open Option.some renaming injEq→a_
open Prod.mk renaming injEq→dO

namespace Go.Proofs.YtlfdhaiigdllcaaGreat
namespace Dn
open Go.RowKit
def V1:Obj->Bool
 | .cells _ _ _=>true
 | .map _ _=>true
 | _=>false
structure Turned (B:Nat) (w w':World):Prop where
 os:w'.os=w.os
 tape:w'.tape=w.tape
 output:w'.output=w.output
 size:w.heap.size<=w'.heap.size
 block:∀k,k<w.heap.size->w'.heap[k]?=w.heap[k]?\/(B<=k/\∀o,w.heap[k]?=some o->V1 o=false)
theorem Turned.refl (B:Nat) (w:World):Turned B w w:=⟨rfl,rfl,rfl,bY _,fun _ _=>.inl rfl⟩
theorem Turned.trans {B:Nat} {w w' w'':World} (h:Turned B w w') (h':Turned B w' w''):Turned B w w'':=by
 refine ⟨h'.os.trans h.os,h'.tape.trans h.tape,h'.output.trans h.output,Nat.le_trans h.size h'.size,fun k hk=>?_⟩
 rcases h.block k hk with h1 | h1
 ·rcases h'.block k (fD hk h.size) with h2 | ⟨h2,h3⟩
  ·exact .inl (h2.trans h1)
  ·exact .inr ⟨h2,fun o ho=>h3 o (h1.trans ho)⟩
 ·exact .inr h1
theorem Turned.alloc (B:Nat) (w:World) (o:Obj):Turned B w (w.alloc o) :=
 ⟨rfl,rfl,rfl,by simp,fun k hk=>.inl (Below.heap_alloc w o k hk)⟩
theorem Turned.putObj {B:Nat} {w:World} {L:Nat} {o:Obj} (o':Obj) (hB:B<=L) (hL:w.heap[L]?=some o) (ho:V1 o=false):Turned B w (w.putObj L o'):=by
 refine ⟨rfl,rfl,rfl,by simp,fun k _=>?_⟩
 by_cases e:k=L
 ·subst e
  exact .inr ⟨hB,fun o2 h2=>by rw[hL] at h2;cases h2;exact ho⟩
 ·exact .inl (World.putObj_heap_other e)
theorem Turned.mono {B B':Nat} {w w':World} (h:Turned B w w') (hb:B'<=B):Turned B' w w' :=
 ⟨h.os,h.tape,h.output,h.size,fun k hk=>(h.block k hk).imp id fun ⟨h1,h2⟩=>⟨Nat.le_trans hb h1,h2⟩⟩
theorem Turned.cells {B:Nat} {w w':World} (h:Turned B w w') {k:Nat} {o:Obj} (hk:w.heap[k]?=some o) (ho:V1 o=true):w'.heap[k]?=w.heap[k]?:=by
 rcases h.block k (Array.getElem?_eq_some_iff.1 hk).1 with h1 | ⟨_,h1⟩
 ·exact h1
 ·rw[h1 o hk] at ho;cases ho
theorem Turned.cell {B:Nat} {w w':World} (h:Turned B w w') {a:Addr} {v:Value} (hv:w.cell? a=some v):w'.cell? a=some v:=by
 obtain ⟨o,ho,hc⟩:=cells_of_cell hv
 exact (World.cell?_of_block (h.cells ho (by cases o<;>first | rfl | cases hc))).trans hv
theorem Turned.below {B:Nat} {w0 w w':World} (h:Turned B w w') (hb:Below B w0 w) (hB:B<=w.heap.size):Below B w0 w' :=
 ⟨h.os.trans hb.os,h.tape.trans hb.tape,h.output.trans hb.output,Nat.le_trans hb.size h.size,fun k hk=>by
  rcases h.block k (by omega) with h1 | ⟨h1,_⟩
  ·exact h1.trans (hb.block k hk)
  ·omega⟩
structure ICtr where
 caps:List Sh
 e:List Sh
 p:TsS caps->Bool
 m:TsS caps->List (TsS e)
def FF (w:World) (Z:Nat->Prop):(l:List Sh)->TsS l->List Addr->Prop
 | [],_,ads=>ads=[]
 | s ::r,x,ads=>∃ad ads',ads=ad ::ads'/\(∃cs,Dat w Z s x.1 cs/\∀j v,cs[j]?=some v->w.cell? (ad.add j)=some v)/\FF w Z r x.2 ads'
def ICtr.ok (c:ICtr) (P:Program) (g:FuncId):Prop:=∀(l:Nat) (x:TsS c.caps) (ads:List Addr) (J:Nat->World->Prop) (Jx:World->Prop) (W:World),c.p x=true ->
 (∀k W W',J k W->Turned W.heap.size W W'->J k W')->(∀W W',Jx W->Turned W.heap.size W W'->Jx W') ->
 (∀k W,J k W->∃Z:Nat->Prop,FF W Z c.caps x ads) ->
 (∃Z:Nat->Prop,FF W Z c.caps x ads/\∀(s:Sh) (y:s.T) (cs:List Value),Dat W Z s y cs->∀k W',J k W'->∃Z':Nat->Prop,Dat W' Z' s y cs) ->
 (∀k (y:TsS c.e) (vals:List Value) W,(c.m x)[k]?=some y->J k W->(∀Z,fm W Z c.e y vals)->YieldAt Fence.wide 0 P l vals.toArray W fun e W'=>(e=.returned (.bool true)/\J (k+1) W')\/(e=.returned (.bool false)/\Jx W')) ->
 J 0 W->CallsIn Fence.wide 0 P g (#[.func (.yield l) #[] #[]]++(ads.map fun a=>Value.pointer (some a)).toArray) W fun e W'=>(∃v,e=.returned v)/\(J (c.m x).length W'\/Jx W')
structure Ctx where
 P:Program
 sh:TypeId->Option Sh
 ctr:FuncId->Option Ctr
 inl:FuncId->Bool:=fun _=>false
 rctr:FuncId->Option RCtr:=fun _=>none
 it:FuncId->Option ICtr:=fun _=>none
 fctr:FuncId->Option FCtr:=fun _=>none
 pctr:FuncId->Option PCtr:=fun _=>none
 mctr:FuncId->Option MCtr:=fun _=>none
 tb:TypeId->Option XP:=fun _=>none
 lit:String->Bool:=fun _=>false
 wctr:FuncId->Option WCtr:=fun _=>none
 actr:FuncId->Option ACtr:=fun _=>none
structure Ctx.ok (C:Ctx):Prop where
 ctr:∀id c,C.ctr id=some c->dK C.P id=true/\c.ok C.P id
 inl:∀id,C.inl id=true->dK C.P id=true
 rctr:∀id c,C.rctr id=some c->dK C.P id=true/\c.ok C.P id
 it:∀id c,C.it id=some c->dK C.P id=true/\c.ok C.P id
 fctr:∀id c,C.fctr id=some c->dK C.P id=true/\c.ok C.P id
 pctr:∀id c,C.pctr id=some c->dK C.P id=true/\c.ok C.P id
 mctr:∀id c,C.mctr id=some c->dK C.P id=true/\c.ok C.P id
 wctr:∀id c,C.wctr id=some c->dK C.P id=true/\c.ok C.P id
 actr:∀id c,C.actr id=some c->dK C.P id=true/\c.ok C.P id
section
variable {P:Program} {N:Nat} {g:Look} {E:Env} {a:Act} {o:Oper}
def LV (P:Program) (rec:TypeId->Value->Value->Option Bool) (xs ys:Array Value):List Field->Option Bool
 | []=>some true
 | f :: r => match f.name == "_" with
  | true=>LV P rec xs ys r
  | false=>match Am P (part f.type xs f.offset),Am P (part f.type ys f.offset) with
   | some x,some y=>match rec f.type x y,LV P rec xs ys r with
    | some p,some q=>some (p&&q)
    | _,_=>none
   | _,_=>none
def Ii (P:Program) (rec:TypeId->Value->Value->Option Bool) (e:TypeId) (c:Nat) (xs ys:Array Value):List Nat->Option Bool
 | []=>some true
 | i ::r=>match Am P (part e xs (i*c)),Am P (part e ys (i*c)) with
  | some x,some y=>match rec e x y,Ii P rec e c xs ys r with
   | some p,some q=>some (p&&q)
   | _,_=>none
  | _,_=>none
def VH:Nat->Nat->List Nat
 | _,0=>[]
 | i,n+1=>i ::VH (i+1) n
theorem KH:∀{n i:Nat},VH i n=rD i n
 | 0,_=>rfl
 | n+1,i=>by rw[VH,List.range'_succ,KH]
def eqS (P:Program):Nat->TypeId->Value->Value->Option Bool
 | 0,_,_,_=>none
 | d+1,t,x,y=>match P.underlying t with
  | some (.int _)=>match x,y with
   | .int k m,.int k' n=>match decide (k=k') with
    | true=>some (m ==n)
    | false=>none
   | _,_=>none
  | some .bool=>match x,y with
   | .bool m,.bool n=>some (m ==n)
   | _,_=>none
  | some .string=>match x,y with
   | .string m,.string n=>some (m ==n)
   | _,_=>none
  | some (.struct fs)=>match x,y with
   | .agg xs,.agg ys=>match P.stoodInHeld t with
    | true=>none
    | false=>LV P (eqS P d) xs ys fs.toList
   | _,_=>none
  | some (.array n e)=>match x,y,P.info? e with
   | .agg xs,.agg ys,some i=>Ii P (eqS P d) e i.size xs ys (VH 0 n)
   | _,_,_=>none
  | _=>none
theorem CE {d:Nat} {rec:TypeId->Value->Value->Option Bool} (hrec:∀t x y b,rec t x y=some b->∀w,(Op.equalIn d t x y).run P w=.ok b w) (xs ys:Array Value) :
  ∀(fs:List Field) (b:Bool),LV P rec xs ys fs=some b->∀w,(Op.eqFields d xs ys fs).run P w=.ok b w
 | [],b,h,w=>by simp only[LV] at h;injection h with h;subst h;rfl
 | f ::r,b,h,w=>by
  simp only[LV] at h
  split at h
  ·rename_i hn
   have hn : f.name = "_" := by simpa using hn
   simp only[Op.eqFields,hn,ne_eq,not_true_eq_false,if_false]
   exact CE hrec xs ys r b h w
  ·rename_i hn
   have hn : ¬ f.name = "_" := by simpa using hn
   split at h
   ·rename_i x y hx hy
    split at h
    ·rename_i p q hp hq
     injection h with h
     subst h
     simp only[Op.eqFields,ne_eq,hn,not_false_eq_true,if_true,Sem.run_bind,nt hx,nt hy,Result.andThen_ok,hrec _ _ _ _ hp]
     cases p
     ·simp
     ·simp only[bt,Bool.false_eq_true,if_false,Bool.true_and]
      exact CE hrec xs ys r q hq w
    ·cases h
   ·cases h
theorem Dv {d:Nat} {rec:TypeId->Value->Value->Option Bool} (hrec:∀t x y b,rec t x y=some b->∀w,(Op.equalIn d t x y).run P w=.ok b w) (e:TypeId) (c:Nat) (xs ys:Array Value) :
  ∀(l:List Nat) (b:Bool),Ii P rec e c xs ys l=some b->∀w,(Op.eqItems d e c xs ys l).run P w=.ok b w
 | [],b,h,w=>by simp only[Ii] at h;injection h with h;subst h;rfl
 | i ::r,b,h,w=>by
  simp only[Ii] at h
  split at h
  ·rename_i x y hx hy
   split at h
   ·rename_i p q hp hq
    injection h with h
    subst h
    simp only[Op.eqItems,Sem.run_bind,nt hx,nt hy,Result.andThen_ok,hrec _ _ _ _ hp]
    cases p
    ·simp
    ·simp only[bt,Bool.false_eq_true,if_false,Bool.true_and]
     exact Dv hrec e c xs ys r q hq w
   ·cases h
  ·cases h
theorem AW:∀{d:Nat} {t:TypeId} {x y:Value} {b:Bool},eqS P d t x y=some b->∀w,(Op.equalIn d t x y).run P w=.ok b w
 | 0,_,_,_,_,h,_=>by cases h
 | d+1,t,x,y,b,h,w=>by
  simp only[eqS] at h
  split at h
  ·rename_i hu
   split at h
   ·split at h
    ·rename_i hk
     have hk:=z12 hk
     subst hk
     injection h with h;subst h
     exact run_equalIn_int w d t _ _ _ _ hu
    ·cases h
   ·cases h
  ·rename_i hu
   split at h
   ·injection h with h;subst h
    exact run_equalIn_bool' w d t _ _ hu
   ·cases h
  ·rename_i hu
   split at h
   ·injection h with h;subst h
    rw[beq_toListBytes]
    exact run_equalIn_string w d t _ _ hu
   ·cases h
  ·rename_i fs hu
   split at h
   ·rename_i xs ys
    split at h
    ·cases h
    ·rename_i hs
     have hf:P.fieldsOf t=fs:=by simp[Program.fieldsOf,hu]
     rw[run_equalIn_struct w d t xs ys (by rw[hf];exact hu) hs,hf]
     exact CE (fun _ _ _ _ h w=>AW h w) xs ys fs.toList b h w
   ·cases h
  ·rename_i n e hu
   split at h
   ·rename_i xs ys i hi
    rw[run_equalIn_array w d xs ys hu hi,show P.cellsOf e=i.size by simp[Program.cellsOf,hi],List.range_eq_range',<-KH]
    exact Dv (fun _ _ _ _ h w=>AW h w) e i.size xs ys _ b h w
   ·cases h
  ·cases h
def eqC (P:Program) (get:Operand->Option SV) (o:Oper):Option Core:=match o.op with
 | .binOp .eql t x y _=>match pf get x,pf get y with
  | some (.agg xs),some (.agg ys)=>match P.eqGuardType P.depth t,eqS P 10000 t (.agg xs) (.agg ys) with
   | false,some b=>some ⟨.c false [.v (.bool b)],.none,[]⟩
   | _,_=>none
  | _,_=>B5 P get o
 | .binOp .neq t x y _=>match pf get x,pf get y with
  | some (.agg xs),some (.agg ys)=>match P.eqGuardType P.depth t,eqS P 10000 t (.agg xs) (.agg ys) with
   | false,some b=>some ⟨.c false [.v (.bool !b)],.none,[]⟩
   | _,_=>none
  | _,_=>B5 P get o
 | _=>none
theorem Qi {get:Operand->Option SV} {r:Core} (h:eqC P get o=some r) (hg:im E a get o) (hm:Mod N E a g):ak P N g E a o r:=by
 unfold eqC at h
 split at h
 ·rename_i t x y t' ho
  split at h
  ·rename_i xs ys hx hy
   split at h
   ·rename_i b hgd hb
    injection h with h
    subst h
    have e1:=fi hg (by simp[ho,Op.operands]) hx
    have e2:=fi hg (by simp[ho,Op.operands]) hy
    refine ak.value (E':=E) (v:=.bool b) ?_ rfl (Keep.refl E) hm ⟨[_],rfl,⟨rfl,trivial⟩,fun _=>rfl⟩
    simp only[execOp,ho,e1,e2,Sem.run_bind,run_eqGuard_agg E.w _ t _ _ xs ys hgd,Result.andThen_ok,run_eql_struct,AW hb E.w,Sem.run_pure]
   ·cases h
  ·exact vJ h hg hm
 ·rename_i t x y t' ho
  split at h
  ·rename_i xs ys hx hy
   split at h
   ·rename_i b hgd hb
    injection h with h
    subst h
    have e1:=fi hg (by simp[ho,Op.operands]) hx
    have e2:=fi hg (by simp[ho,Op.operands]) hy
    refine ak.value (E':=E) (v:=.bool !b) ?_ rfl (Keep.refl E) hm ⟨[_],rfl,⟨rfl,trivial⟩,fun _=>rfl⟩
    simp only[execOp,ho,e1,e2,Sem.run_bind,run_eqGuard_agg E.w _ t _ _ xs ys hgd,Result.andThen_ok,run_neq_struct,AW hb E.w,Sem.run_pure]
   ·cases h
  ·exact vJ h hg hm
 ·cases h
def E4 (get:Operand->Option SV) (o:Oper):Option Core:=match o.op with
 | .binOp .shl _ x y _=>match pf get x,pf get y with
  | some (.int k m),some (.int _ n)=>some ⟨.c false [.v (.int k (k.wrap (m*2 ^ (min n.toNat k.bits))))],.none,[decide (0<=n)]⟩
  | _,_=>none
 | .binOp .shr _ x y _=>match pf get x,pf get y with
  | some (.int k m),some (.int _ n)=>some ⟨.c false [.v (.int k (m.fdiv (2 ^ (min n.toNat k.bits))))],.none,[decide (0<=n)]⟩
  | _,_=>none
 | _=>none
theorem D9 {get:Operand->Option SV} {r:Core} (h:E4 get o=some r) (hg:im E a get o) (hm:Mod N E a g) (hp:ij r.p=true):ak P N g E a o r:=by
 unfold E4 at h
 split at h
 ·rename_i t x y t' ho
  split at h
  ·rename_i k m k' n hx hy
   injection h with h
   subst h
   have e1:=fi hg (by simp[ho,Op.operands]) hx
   have e2:=fi hg (by simp[ho,Op.operands]) hy
   have hn:¬ n<0:=by have:0<=n:=z12 hp;omega
   refine ak.value (E':=E) ?_ rfl (Keep.refl E) hm ⟨[_],rfl,⟨rfl,trivial⟩,fun _=>rfl⟩
   simp[execOp,ho,e1,e2,eqGuard,binOp,Op.shift,hn,mkV]
  ·cases h
 ·rename_i t x y t' ho
  split at h
  ·rename_i k m k' n hx hy
   injection h with h
   subst h
   have e1:=fi hg (by simp[ho,Op.operands]) hx
   have e2:=fi hg (by simp[ho,Op.operands]) hy
   have hn:¬ n<0:=by have:0<=n:=z12 hp;omega
   refine ak.value (E':=E) ?_ rfl (Keep.refl E) hm ⟨[_],rfl,⟨rfl,trivial⟩,fun _=>rfl⟩
   simp[execOp,ho,e1,e2,eqGuard,binOp,Op.shift,hn,mkV]
  ·cases h
 ·cases h
def Im (get:Operand->Option SV):List Operand->Option (List (Nat×Nat))
 | []=>some []
 | x ::r=>match get x,Im get r with
  | some (.c false [.ptr b off]),some l=>some ((b,off) ::l)
  | _,_=>none
theorem DW {get:Operand->Option SV}:∀{xs:List Operand} {l:List (Nat×Nat)},Im get xs=some l->(∀x ∈ xs,∀s,get x=some s->dh E s (a.eval x)) ->
  xs.map a.eval=l.map (jk E.β)/\∀p ∈ l,E.L p.1
 | [],l,h,_=>by simp only[Im] at h;injection h with h;subst h;exact ⟨rfl,fun p hp=>by cases hp⟩
 | x ::r,l,h,hg=>by
  simp only[Im] at h
  split at h
  ·rename_i b off l' hx hr
   injection h with h
   subst h
   obtain ⟨h1,h2⟩:=DW hr fun y hy=>hg y (by simp[hy])
   obtain ⟨cs,hv,hc,_⟩:=hg x (by simp) _ hx
   match cs,hc with
   | [z],hc =>
    obtain ⟨hz,hl⟩:=hc.1
    refine ⟨by simp[h1,hv,mkV,hz],fun p hp=>?_⟩
    rcases List.mem_cons.1 hp with rfl | hp
    ·exact hl
    ·exact h2 p hp
  ·cases h
def Qd (get:Operand->Option SV) (o:Oper):Option Core:=match o.op with
 | .makeFunc (.func f) first caps=>match first.toList,caps.toList with
  | [],[]=>some ⟨.c false [.v (.func (.func f) #[] #[])],.none,[]⟩
  | [],c ::cs=>match Im get (c ::cs) with
   | some l=>some ⟨.c false [.clo f l],.none,[]⟩
   | none=>none
  | _,_=>none
 | _=>none
theorem R2 {get:Operand->Option SV} {r:Core} (h:Qd get o=some r) (hg:im E a get o) (hm:Mod N E a g):ak P N g E a o r:=by
 unfold Qd at h
 split at h
 ·rename_i f first caps ho
  split at h
  ·rename_i h1 h2
   injection h with h
   subst h
   have h1:first=#[]:=by simpa using h1
   have h2:caps=#[]:=by simpa using h2
   refine ak.value (E':=E) ?_ rfl (Keep.refl E) hm ⟨[_],rfl,⟨rfl,trivial⟩,fun _=>rfl⟩
   simp[execOp,ho,h1,h2,Instr.makeFunc,mkV]
  ·rename_i c cs h1 h2
   split at h
   ·rename_i l hl
    injection h with h
    subst h
    have h1:first=#[]:=by simpa using h1
    have h2':caps=(c ::cs).toArray:=by rw[<-h2]
    obtain ⟨e1,e2⟩:=DW hl fun x hx s hs=>hg x s (by rw[ho];simp only[Op.operands];rw[Array.mem_append];right;rw[h2'];simpa using hx) hs
    refine ak.value (E':=E) (v:=.func (.func f) #[] (l.map (jk E.β)).toArray) ?_ rfl (Keep.refl E) hm ⟨[_],rfl,⟨⟨rfl,e2⟩,trivial⟩,fun _=>rfl⟩
    have e3:caps.map a.eval=(l.map (jk E.β)).toArray:=by rw[h2',<-e1];simp
    simp[execOp,ho,h1,Instr.makeFunc,e3]
   ·cases h
  ·cases h
 ·cases h
def shs?:(a b:List Sh)->Option (PLift (a=b))
 | [],[]=>some ⟨rfl⟩
 | x ::r,y ::r'=>match Sh.eq? x y,shs? r r' with
  | some ⟨h⟩,some ⟨h'⟩=>some ⟨by rw[h,h']⟩
  | _,_=>none
 | _,_=>none
def qJ:(as:List Sh)->List SV->Option (TsS as×List SV)
 | [],l=>some ((),l)
 | s ::r,v ::l=>match s.whole v,qJ r l with
  | some x,some (y,l')=>some ((x,y),l')
  | _,_=>none
 | _ ::_,[]=>none
def tq (s:Sh) (l:List At):Option s.T:=match s.take l with
 | some (x,[])=>some x
 | _=>none
def mE (rk:Rk) (bk:Nat->Option (List At)):(cs:List Sh)->List (Nat×Nat)->Option (TsS cs)
 | [],[]=>some ()
 | s ::r,p ::l=>match g_ p.2 0,bk p.1,mE rk bk r l with
  | true,some b,some y=>match tq s (mQ rk b) with
   | some x=>some (x,y)
   | none=>none
  | _,_,_=>none
 | _,_=>none
def Ctr.asFn (c:Ctr) (a:List Sh) (r:Sh) (y:TsS c.cs):Option (FnT a r):=match c,y with
 | ⟨as,[],_,.one r',m⟩,y=>match shs? as a,Sh.eq? r' r with
  | some ⟨h⟩,some ⟨h'⟩=>some (h ▸ h' ▸ ((fun x=>m x () y):FnT as r'))
  | _,_=>none
 | _,_=>none
def yq:SV->Option (FuncId×List (Nat×Nat))
 | .c false [.v (.func (.func id) ⟨[]⟩ ⟨[]⟩)]=>some (id,[])
 | .c false [.clo id cap]=>some (id,cap)
 | _=>none
def SK (a:List Sh) (r:Sh):SV->Option (FnT a r)
 | .c false [.fn a' r' F]=>match shs? a' a,Sh.eq? r' r with
  | some ⟨h⟩,some ⟨h'⟩=>some (h ▸ h' ▸ F)
  | _,_=>none
 | _=>none
def kJ (bk:Nat->Option (List At)):List (Nat×Nat)->List Nat
 | []=>[]
 | p ::l=>match bk p.1 with
  | some b=>gL b++kJ bk l
  | none=>kJ bk l
def CY (bk:Nat->Option (List At)) (v:SV):List Nat:=match yq v with
 | some (_,cap)=>kJ bk cap
 | none=>[]
def oY (bk:Nat->Option (List At)):List SV->List Nat
 | []=>[]
 | v ::l=>CY bk v++oY bk l
def SA (C:Ctx) (rk:Rk) (bk:Nat->Option (List At)) (a:List Sh) (r:Sh) (v:SV):Option (FnT a r):=match yq v with
 | some (id,cap)=>match C.ctr id with
  | some c=>match mE rk bk c.cs cap with
   | some y=>c.asFn a r y
   | none=>none
  | none=>none
 | none=>none
def Qu (C:Ctx) (rk:Rk) (bk:Nat->Option (List At)) (a:List Sh) (r:Sh) (v:SV):Option (FnT a r):=match SK a r v with
 | some F=>some F
 | none=>SA C rk bk a r v
def Fa (C:Ctx) (rk:Rk) (bk:Nat->Option (List At)):(fs:List (List Sh×Sh))->List SV->Option (TsF fs)
 | [],[]=>some ()
 | f ::r,v ::l=>match Qu C rk bk f.1 f.2 v,Fa C rk bk r l with
  | some x,some y=>some (x,y)
  | _,_=>none
 | _,_=>none
def NW (get:Operand->Option SV):List Operand->Option (List SV)
 | []=>some []
 | x ::r=>match get x,NW get r with
  | some s,some l=>some (s ::l)
  | _,_=>none
def pj (u:List Nat) (flat:Bool):Eff:=match u,flat with
 | [],_=>.none
 | _,true=>.none
 | u,false=>.rkill u
def Lo:Eff->Bool
 | .none=>true
 | _=>false
def ms (bk:Nat->Option (List At)) (l:List SV) (cap:List (Nat×Nat)):List Nat:=kA l++(kJ bk cap++oY bk l)
def Yx:List (Nat×Nat)->List SV
 | []=>[]
 | p ::l=>.c false [.ptr p.1 p.2] ::Yx l
def W5 (rk:Rk) (b:Nat) (l:List SV) (c:RCtr):Option Cor:=match qJ c.as (rF rk l),rk b with
 | some (x,[]),none=>match c.e.flat||(kA l).isEmpty with
  | true=>some (.call (List c.e.T) [] (nK (uw rk (kA l)) (c.m x)) (fun _=>.c false [.row b]) (fun l=>.row b ⟨c.t,c.e,l.length,l⟩ none) false)
  | false=>none
 | _,_=>none
def WW (rk:Rk) (b:Nat) (l:List SV) (c:WCtr):Option Cor:=match qJ c.as l,rk b with
 | some (x,[]),none=>some (.call (List c.e.T×c.s.T) ([],c.s.dflt) (c.m x) (fun z=>.c true (.row b ::c.s.cells z.2)) (fun z=>.row b ⟨c.t,c.e,z.1.length,z.1⟩ none) false)
 | _,_=>none
def WQ (rk:Rk) (b:Nat) (l:List SV) (c:ACtr):Option Cor:=match l with
 | .c false [.row q] ::l'=>match rk q with
  | some (.some ri)=>match g_ ri.t c.t,Sh.eq? ri.e c.e,qJ c.as l' with
   | true,some ⟨h⟩,some (x,[])=>match rk b with
    | none=>some (.call (List c.e.T) [] (c.m (h ▸ ri.l) x) (fun _=>.c false [.row b]) (fun z=>.row b ⟨c.t,c.e,z.length,z⟩ (some q)) false)
    | _=>none
   | _,_,_=>none
  | _=>none
 | _=>none
def or3 (a b c:Option Cor):Option Cor:=match a with
 | some r=>some r
 | none=>match b with
  | some r=>some r
  | none=>c
theorem M4 {a b c:Option Cor} {r:Cor} (h:or3 a b c=some r):a=some r\/b=some r\/c=some r:=by
 unfold or3 at h
 split at h
 ·exact .inl h
 ·split at h
  ·exact .inr (.inl h)
  ·exact .inr (.inr h)
def Qy (C:Ctx) (bk:Nat->Option (List At)) (rk:Rk) (id:FuncId) (cap:List (Nat×Nat)) (l:List SV):Option Cor:=match C.ctr id with
 | some c=>match qJ c.as (rF rk l),mE rk bk c.cs cap with
  | some (x,l'),some y=>match Fa C rk bk c.fs l' with
   | some F=>some (.call c.r.T c.r.dflt (nK (uw rk (ms bk l cap)) (c.m x F y)) (Ma c.r) (fun _=>pj (ms bk l cap) c.r.flat) (Lo (pj (ms bk l cap) c.r.flat)))
   | none=>none
  | _,_=>none
 | none=>none
def Fc (bk:Nat->Option (List At)) (rk:Rk) (s:Sh):SV->Option (s.T×List Nat)
 | .c false [.ptr b 0]=>match bk b with
  | some l=>match tq s (mQ rk l) with
   | some x=>some (x,gL l)
   | none=>none
  | none=>none
 | .c false [.rf s' x 0]=>match Sh.eq? s' s with
  | some ⟨h⟩=>some (h ▸ x,[])
  | none=>none
 | _=>none
def Ke (C:Ctx) (bk:Nat->Option (List At)) (rk:Rk) (id:FuncId) (cap:List (Nat×Nat)) (l:List SV):Option Cor:=match C.pctr id,cap,l with
 | some c,[],v ::l=>match Fc bk rk c.s v,qJ c.as (rF rk l),c.r.flat with
  | some (x,u),some (y,[]),true=>some (.call c.r.T c.r.dflt (nK (uw rk (u++kA l)) (c.m x y)) (Ma c.r) (fun _=>.none) true)
  | _,_,_=>none
 | _,_,_=>none
def JR (C:Ctx) (bk:Nat->Option (List At)) (id:FuncId) (cap:List (Nat×Nat)) (l:List SV):Option Cor:=match C.mctr id,cap,l with
 | some c,[],.c false [.ptr b 0] ::l=>match bk b with
  | some cs=>match tq c.s cs,qJ c.as l,c.s.flat&&c.r.flat with
   | some x,some (y,[]),true=>some (.call (c.s.T×c.r.T) (c.s.dflt,c.r.dflt) (c.m x y) (fun t=>Ma c.r t.2) (fun t=>.store b (c.s.cells t.1)) false)
   | _,_,_=>none
  | none=>none
 | _,_,_=>none
def WK (C:Ctx) (bk:Nat->Option (List At)) (rk:Rk) (b:Nat) (id:FuncId) (cap:List (Nat×Nat)) (l:List SV):Option Cor:=match or3 (Qy C bk rk id cap l) (Ke C bk rk id cap l) (JR C bk id cap l) with
 | some r=>some r
 | none=>match C.fctr id with
  | some c=>match cap,qJ c.as l with
   | [],some (x,[])=>some (.call (FnT c.a c.r) (fun _=>none) (c.m x) (fun F=>.c false [.fn c.a c.r F]) (fun _=>.none) true)
   | _,_=>none
  | none=>match C.rctr id with
   | some c=>match cap with
    | []=>W5 rk b l c
    | _=>none
   | none=>match C.wctr id with
    | some c=>match cap with
     | []=>WW rk b l c
     | _=>none
    | none=>match C.actr id with
     | some c=>match cap with
      | []=>WQ rk b l c
      | _=>none
     | none=>match C.inl id with
      | true=>some (.inl id (l++Yx cap))
      | false=>none
def SH (C:Ctx) (get:Operand->Option SV) (bk:Nat->Option (List At)) (rk:Rk) (b:Nat) (f:Operand) (xs:Array Operand):Option Cor:=match get f with
 | some fv=>match yq fv,NW get xs.toList with
  | some (id,cap),some l=>WK C bk rk b id cap l
  | _,_=>none
 | none=>none
theorem nl (hm:Mod N E a g) {rk:Rk} (hrk:∀i r,rk i=some r->g.r i=some r) {u:List Nat} (hlv:∀r ∈ u,mC rk r):∀{l:List SV} {vs:List Value},hG E l vs->(∀r ∈ kA l,r ∈ u)->hG (E.zone g u) (rF rk l) vs
 | [],[],_,_=>trivial
 | _ ::_,_ ::_,h,hu=>⟨we hm hrk hlv h.1 fun r hr=>hu r (gC _ hr),nl hm hrk hlv h.2 fun r hr=>hu r (bX _ hr)⟩
 | [],_ ::_,h,_=>h.elim
 | _ ::_,[],h,_=>h.elim
theorem Nn {w:World} {Z Z':Nat->Prop} (hZ:∀b,Z b->Z' b) {r:RSh} {x:r.T} {v:Value} (h:qM w Z r x v):qM w Z' r x v:=by
 have one:∀{s:Sh} {x:s.T} {v:Value},tA w Z s x v->tA w Z' s x v:=fun ⟨cs,h1,h2,h3⟩=>⟨cs,Dat.mono hZ (fun _ _=>rfl) h1,h2,h3⟩
 cases r with
 | one s=>exact one h
 | tup l =>
  obtain ⟨vs,h1,h2⟩:=h
  refine ⟨vs,h1,?_⟩
  clear h1
  induction l generalizing vs with
  | nil=>exact h2
  | cons s r ih =>
   simp only[fm] at h2 ⊢
   obtain ⟨v,vs',h3,h4,h5⟩:=h2
   exact ⟨v,vs',h3,one h4,ih (x:=x.2) vs' h5⟩
theorem B2 {get:Operand->Option SV}:∀{xs:List Operand} {l:List SV},NW get xs=some l->(∀x ∈ xs,∀s,get x=some s->dh E s (a.eval x))->hG E l (xs.map a.eval)
 | [],l,h,_=>by simp only[NW] at h;injection h with h;subst h;trivial
 | x ::r,l,h,hg=>by
  simp only[NW] at h
  split at h
  ·rename_i s l' hs hl
   injection h with h
   subst h
   exact ⟨hg x (by simp) s hs,B2 hl fun y hy=>hg y (by simp[hy])⟩
  ·cases h
theorem lb:∀{as:List Sh} {l l':List SV} {x:TsS as} {vs:List Value},qJ as l=some (x,l')->hG E l vs->∃vs1 vs2,vs=vs1++vs2/\fm E.w E.Z as x vs1/\hG E l' vs2
 | [],l,l',x,vs,h,hr=>by
  simp only[qJ,a_,dO] at h
  obtain ⟨_,rfl⟩:=h
  exact ⟨[],vs,rfl,rfl,hr⟩
 | s ::r,v ::l,l',x,vs,h,hr=>by
  simp only[qJ] at h
  split at h
  ·rename_i y z l'' hy hz
   simp only[a_,dO] at h
   obtain ⟨rfl,rfl⟩:=h
   match vs,hr with
   | u ::vs,hr =>
    obtain ⟨vs1,vs2,rfl,h1,h2⟩:=lb hz hr.2
    exact ⟨u ::vs1,vs2,rfl,by simp only[fm];exact ⟨u,vs1,rfl,kq hy hr.1,h1⟩,h2⟩
  ·cases h
 | _ ::_,[],_,_,_,h,_=>by cases h
theorem K2 (hm:Mod N E a g) {bk:Nat->Option (List At)} (hbk:∀i l,bk i=some l->g.h i=some l) {rk:Rk} (hrk:∀i r,rk i=some r->g.r i=some r) {u:List Nat} (hlv:∀r ∈ u,mC rk r) {s:Sh} {i:Nat} {l:List At} {x:s.T} (hb:bk i=some l) (hx:tq s (mQ rk l)=some x)
  (hu:∀r ∈ gL l,r ∈ u) {w':World} {Z':Nat->Prop} (hw:Below E.w.heap.size E.w w') (hZ:∀b,E.zp g u b->Z' b):aaO w' Z' s x (jk E.β (i,0)):=by
 obtain ⟨_,cs,t,hh,hr0,_⟩:=hm.blks i l (hbk i l hb)
 have hr:=sG hm hrk (u:=u) hlv hr0 hu
 unfold tq at hx
 split at hx
 ·rename_i y hy
  injection hx with hx
  subst hx
  obtain ⟨c1,c2,rfl,hd,h2⟩:=fI hy hr
  match c2,h2 with
  | [],_ =>
   have hlt:=hm.blk_lt (hbk i l hb)
   rw[gO] at hh
   refine ⟨E.β i,c1,rfl,fD hlt hw.size,Dat.mono hZ (fun b hb'=>hw.block b (D7 hm u b hb')) hd,fun j u hj=>?_⟩
   simp[World.cell?,hw.block _ hlt,hh,hj]
 ·cases hx
theorem xe {bk:Nat->Option (List At)} {p:Nat×Nat} {l:List (Nat×Nat)} {b:List At} (h:bk p.1=some b):kJ bk (p ::l)=gL b++kJ bk l:=by simp[kJ,h]
theorem tL (hm:Mod N E a g) {bk:Nat->Option (List At)} (hbk:∀i l,bk i=some l->g.h i=some l) {rk:Rk} (hrk:∀i r,rk i=some r->g.r i=some r) {u:List Nat} (hlv:∀r ∈ u,mC rk r) {w':World} {Z':Nat->Prop} (hw:Below E.w.heap.size E.w w') (hZ:∀b,E.zp g u b->Z' b) :
  ∀{cs:List Sh} {cap:List (Nat×Nat)} {y:TsS cs},mE rk bk cs cap=some y->(∀r ∈ kJ bk cap,r ∈ u)->sT w' Z' cs y (cap.map (jk E.β))
 | [],[],_,_,_=>rfl
 | s ::r,p ::l,y,h,hu=>by
  simp only[mE] at h
  split at h
  ·rename_i b z h0 hb hz
   split at h
   ·rename_i x hx
    injection h with h
    subst h
    rw[xe hb] at hu
    obtain ⟨i,off⟩:=p
    have h0:off=0:=by simpa using h0
    subst h0
    simp only[List.map_cons,sT]
    exact ⟨_,_,rfl,K2 hm hbk hrk hlv hb hx (fun r hr=>hu r (gC _ hr)) hw hZ,tL hm hbk hrk hlv hw hZ hz fun r hr=>hu r (bX _ hr)⟩
   ·cases h
  ·cases h
 | [],_ ::_,_,h,_=>by cases h
 | _ ::_,[],_,h,_=>by cases h
theorem yg {v:SV} {id:FuncId} {cap:List (Nat×Nat)} {y:Value} (h:yq v=some (id,cap)) (hv:dh E v y):y=.func (.func id) #[] (cap.map (jk E.β)).toArray:=by
 unfold yq at h
 split at h
 ·simp only[a_,dO] at h
  obtain ⟨rfl,rfl⟩:=h
  exact fR rfl hv
 ·simp only[a_,dO] at h
  obtain ⟨rfl,rfl⟩:=h
  obtain ⟨cs,rfl,hr,_⟩:=hv
  match cs,hr with
  | [z],hr=>rw[hr.1.1];rfl
 ·cases h
theorem NK (hm:Mod N E a g) {u:List Nat} {as:List Sh} {r:Sh} {v:SV} {F:FnT as r} {y:Value} (h:SK as r v=some F) (hv:dh (E.zone g u) v y):FnV E.P E.w (E.zp g u) as r F y:=by
 unfold SK at h
 split at h
 ·rename_i a' r' F'
  split at h
  ·rename_i h1 h2 _ _
   subst h1;subst h2
   injection h with h
   subst h
   obtain ⟨cs,rfl,hr,_⟩:=hv
   match cs,hr with
   | [z],hr =>
    obtain ⟨id,cap,hz,hcall,hfn⟩:=hr.1
    refine ⟨id,cap,hz,hcall,fun w' Z' x y vals hw hZ=>hfn w' Z' x y vals ⟨hm.glob.below.trans (hw.mono hm.glob.below.size),fun ad q hz hc=>?_⟩ fun b hb=>hZ b hb⟩
    rw[<-hc]
    exact World.cell?_of_block (hw.block _ (D7 hm u _ hz))
  ·cases h
 ·cases h
theorem NZ {C:Ctx} (hC:C.ok) (hm:Mod N E a g) {bk:Nat->Option (List At)} (hbk:∀i l,bk i=some l->g.h i=some l) {rk:Rk} (hrk:∀i r,rk i=some r->g.r i=some r) {u:List Nat} (hlv:∀r ∈ u,mC rk r) {as:List Sh} {r:Sh} {v:SV} {F:FnT as r} {y:Value}
  (h:SA C rk bk as r v=some F) (hu:∀q ∈ CY bk v,q ∈ u) (hv:dh (E.zone g u) v y):FnV C.P E.w (E.zp g u) as r F y:=by
 unfold SA at h
 split at h
 ·rename_i id cap hf
  split at h
  ·rename_i c hc
   split at h
   ·rename_i z hz
    obtain ⟨hcall,hok⟩:=hC.ctr id c hc
    refine ⟨id,_,yg (E:=E.zone g u) hf hv,hcall,fun w' Z' x y vals hw hZ hZb hd hv'=>?_⟩
    have hrefs:=tL hm hbk hrk (u:=u) hlv hw hZ hz (by simpa [CY,hf] using hu)
    obtain ⟨as',fs',cs',r',m⟩:=c
    unfold Ctr.asFn at h
    split at h
    ·rename_i as2 cs2 r2 m2 _ y2 heq1 heq2
     injection heq1 with e1 e2 e3 e4 e6
     subst e1;subst e2;subst e3;subst e4
     cases e6;cases heq2
     split at h
     ·rename_i h1 h2 _ _
      subst h1;subst h2
      injection h with h
      subst h
      have:=hok x () y2 y hd w' Z' vals [] _ hZb hv' rfl hrefs
      simpa [qM,Env.zone] using this
     ·cases h
    ·cases h
   ·cases h
  ·cases h
 ·cases h
theorem MF {C:Ctx} (hC:C.ok) (hP:E.P=C.P) (hm:Mod N E a g) {bk:Nat->Option (List At)} (hbk:∀i l,bk i=some l->g.h i=some l) {rk:Rk} (hrk:∀i r,rk i=some r->g.r i=some r) {u:List Nat} (hlv:∀r ∈ u,mC rk r) {as:List Sh} {r:Sh} {v:SV} {F:FnT as r} {y:Value}
  (h:Qu C rk bk as r v=some F) (hu:∀q ∈ CY bk v,q ∈ u) (hv:dh (E.zone g u) v y):FnV C.P E.w (E.zp g u) as r F y:=by
 unfold Qu at h
 split at h
 ·rename_i F' hF
  injection h with h
  subst h
  rw[<-hP]
  exact NK hm hF hv
 ·exact NZ hC hm hbk hrk hlv h hu hv
theorem CX {C:Ctx} (hC:C.ok) (hP:E.P=C.P) (hm:Mod N E a g) {bk:Nat->Option (List At)} (hbk:∀i l,bk i=some l->g.h i=some l) {rk:Rk} (hrk:∀i r,rk i=some r->g.r i=some r) {u:List Nat} (hlv:∀r ∈ u,mC rk r) :
  ∀{fs:List (List Sh×Sh)} {l:List SV} {F:TsF fs} {vs:List Value},Fa C rk bk fs l=some F->(∀q ∈ oY bk l,q ∈ u)->hG (E.zone g u) l vs->AI C.P E.w (E.zp g u) fs F vs
 | [],[],_,vs,_,_,hr=>by
  match vs,hr with
  | [],_=>rfl
 | f ::r,v ::l,F,vs,h,hu,hr=>by
  simp only[Fa] at h
  split at h
  ·rename_i x y hx hy
   injection h with h
   subst h
   match vs,hr with
   | w ::vs,hr =>
    simp only[AI]
    exact ⟨w,vs,rfl,MF hC hP hm hbk hrk hlv hx (fun q hq=>hu q (gC _ hq)) hr.1,CX hC hP hm hbk hrk hlv hy (fun q hq=>hu q (bX _ hq)) hr.2⟩
  ·cases h
 | [],_ ::_,_,_,h,_,_=>by cases h
 | _ ::_,[],_,_,h,_,_=>by cases h
theorem Cf:∀{as:List Sh} {l l':List SV} {x:TsS as},qJ as l=some (x,l')->∃k,l'=l.drop k
 | [],l,l',x,h=>by
  simp only[qJ,a_,dO] at h
  exact ⟨0,h.2.symm⟩
 | s ::r,v ::l,l',x,h=>by
  simp only[qJ] at h
  split at h
  ·rename_i y z l'' hy hz
   simp only[a_,dO] at h
   obtain ⟨_,rfl⟩:=h
   obtain ⟨k,hk⟩:=Cf hz
   exact ⟨k+1,hk⟩
  ·cases h
 | _ ::_,[],_,_,h=>by cases h
theorem zc {bk:Nat->Option (List At)}:∀{l:List SV} {k q:Nat},q ∈ oY bk (l.drop k)->q ∈ oY bk l
 | [],k,q,h=>by simpa using h
 | _ ::_,0,_,h=>h
 | _ ::l,k+1,q,h=>bX _ (zc (l:=l) (k:=k) h)
theorem NH {rk:Rk} {v:SV}:yq (AH rk v)=yq v:=by
 cases v with
 | tup l=>rfl
 | c ag l =>
  cases ag with
  | true=>simp[AH,yq]
  | false =>
   match l with
   | []=>rfl
   | [x] =>
    simp only[AH,mQ]
    cases x<;>first | rfl | (simp only[LM];split<;>rfl)
   | _ ::_ ::_=>simp[AH,mQ,yq]
theorem xY {rk:Rk} {bk:Nat->Option (List At)}:∀{l:List SV},oY bk (rF rk l)=oY bk l
 | []=>rfl
 | v ::l=>by simp[rF,oY,CY,NH,xY (l:=l)]
theorem Ic:∀{cap:List (Nat×Nat)},(∀p ∈ cap,E.L p.1)->hG E (Yx cap) (cap.map (jk E.β))
 | [],_=>trivial
 | p ::l,h=>⟨⟨[_],rfl,⟨⟨rfl,h p (by simp)⟩,trivial⟩,fun _=>rfl⟩,Ic fun q hq=>h q (by simp[hq])⟩
theorem ym:∀{l m:List SV} {vs us:List Value},hG E l vs->hG E m us->hG E (l++m) (vs++us)
 | [],_,[],_,_,h=>h
 | _ ::_,_,_ ::_,_,h,h'=>⟨h.1,ym h.2 h'⟩
 | [],_,_ ::_,_,h,_=>h.elim
 | _ ::_,_,[],_,h,_=>h.elim
theorem Ha {v:SV} {id:FuncId} {cap:List (Nat×Nat)} {y:Value} (h:yq v=some (id,cap)) (hv:dh E v y):∀p ∈ cap,E.L p.1:=by
 unfold yq at h
 split at h
 ·simp only[a_,dO] at h
  obtain ⟨rfl,rfl⟩:=h
  intro p hp;cases hp
 ·simp only[a_,dO] at h
  obtain ⟨rfl,rfl⟩:=h
  obtain ⟨cs,rfl,hr,_⟩:=hv
  match cs,hr with
  | [z],hr=>exact hr.1.2
 ·cases h
theorem HE (hm:Mod N E a g) {bk:Nat->Option (List At)} (hbk:∀i l,bk i=some l->g.h i=some l) {rk:Rk} (hrk:∀i r,rk i=some r->g.r i=some r) {u:List Nat} (hlv:∀r ∈ u,mC rk r) {s:Sh} {v:SV} {x:s.T} {u1:List Nat} {y:Value} (h:Fc bk rk s v=some (x,u1)) (hu:∀r ∈ u1,r ∈ u) (hv:dh E v y):acd E.w (E.zp g u) s x y:=by
 unfold Fc at h
 split at h
 ·rename_i b
  split at h
  ·rename_i l hb
   split at h
   ·rename_i x' hx
    simp only[a_,dO] at h
    obtain ⟨rfl,rfl⟩:=h
    obtain ⟨q,cs,h1,h2,h3,h4⟩:=K2 hm hbk hrk hlv hb hx hu (Below.refl _ _) (Z':=E.zp g u) fun _ h=>h
    obtain ⟨cs0,rfl,hr,_⟩:=hv
    match cs0,hr with
    | [z],hr =>
    obtain ⟨⟨g1,g2⟩,_⟩:=hr
    refine ⟨⟨q,0,none⟩,cs,?_,h2,h3,fun j u hj=>by rw[add_lit,d_];exact h4 j u hj⟩
    rw[g1,<-h1];rfl
   ·cases h
  ·cases h
 ·rename_i s' x'
  split at h
  ·rename_i e _
   subst e
   simp only[a_,dO] at h
   obtain ⟨rfl,rfl⟩:=h
   obtain ⟨cs0,rfl,hr,_⟩:=hv
   match cs0,hr with
   | [z],hr =>
   have hr1:=hr.1
   obtain ⟨ad,cs,g1,g2,g3,g4⟩:=hr1
   refine ⟨ad,cs,by rw[g1];rfl,?_,Dat.mono (fun _ h=>.inl h) (fun _ _=>rfl) g3,g4⟩
   rcases g2 with h | h
   ·exact hm.glob.zlt _ h
   ·exact fD h hm.glob.below.size
  ·cases h
 ·cases h
theorem M3 {C:Ctx} (hC:C.ok) (_:E.P=C.P) {bk:Nat->Option (List At)} {rk:Rk} {id:FuncId} {cap:List (Nat×Nat)} {l:List SV} {f:Operand} {xs:Array Operand} {ts:Array TypeId} {r:Cor} (ho:o.op=.call { callee:=.value f,args:=xs,argTypes:=ts })
  (h:Ke C bk rk id cap l=some r) (hfe:a.eval f=.func (.func id) #[] (cap.map (jk E.β)).toArray) (_:∀p ∈ cap,E.L p.1) (hl:hG E l (xs.toList.map a.eval)) (hm:Mod N E a g) (hbk:∀i l,bk i=some l->g.h i=some l) (hrk:∀i r,rk i=some r->g.r i=some r):DK C.P N g E a o r:=by
 unfold Ke at h
 split at h
 case h_2=>cases h
 rename_i c v l hc _
 split at h
 case h_2=>cases h
 rename_i x u y hx hy hfl
 injection h with h
 subst h
 refine ⟨fun _ _=>rfl,fun z hz=>?_⟩
 obtain ⟨hlv0,hz⟩:=iz hz
 have hlv:=mq hlv0
 obtain ⟨hcall,hok⟩:=hC.pctr id c hc
 cases hxs:xs.toList.map a.eval with
 | nil=>rw[hxs] at hl;exact hl.elim
 | cons v0 vs0 =>
  rw[hxs] at hl
  have hl':=nl hm hrk (u:=u++kA l) hlv hl.2 fun r hr=>bX _ hr
  obtain ⟨vs1,vs2,e,h1,h2⟩:=lb hy hl'
  match vs2,h2 with
  | [],_ =>
  rw[gO] at e
  subst e
  have h3:=HE hm hbk hrk hlv hx (fun r hr=>gC _ hr) hl.1
  have:=hok x y z hz E.w (E.zp g (u++kA l)) v0 vs0 (D7 hm _) h3 h1
  refine Lw (cap:=#[]) ho (by rw[hfe];rfl) hcall hm ?_
  have e2:xs.map a.eval++#[]=(v0 ::vs0).toArray:=by rw[<-hxs];simp[<-Array.toList_map]
  rw[e2]
  refine this.mono fun e w' he=>?_
  obtain ⟨w1,rfl,g1,g2⟩:=he
  exact ⟨w1,rfl,qM.flat hfl g1,g2⟩
theorem Mo {C:Ctx} (hC:C.ok) (_:E.P=C.P) {bk:Nat->Option (List At)} {id:FuncId} {cap:List (Nat×Nat)} {l:List SV} {f:Operand} {xs:Array Operand} {ts:Array TypeId} {r:Cor} (ho:o.op=.call { callee:=.value f,args:=xs,argTypes:=ts })
  (h:JR C bk id cap l=some r) (hfe:a.eval f=.func (.func id) #[] (cap.map (jk E.β)).toArray) (_:∀p ∈ cap,E.L p.1) (hl:hG E l (xs.toList.map a.eval)) (hm:Mod N E a g) (hbk:∀i l,bk i=some l->g.h i=some l):DK C.P N g E a o r:=by
 unfold JR at h
 split at h
 case h_2=>cases h
 rename_i c b l hc _
 split at h
 case h_2=>cases h
 rename_i cs hb
 split at h
 case h_2=>cases h
 rename_i x y hx hy hfl
 simp only[z10] at hfl
 injection h with h
 subst h
 refine ⟨fun e=>(by cases e),fun z hz=>?_⟩
 obtain ⟨hcall,hok⟩:=hC.mctr id c hc
 cases hxs:xs.toList.map a.eval with
 | nil=>rw[hxs] at hl;exact hl.elim
 | cons v0 vs0 =>
  rw[hxs] at hl
  obtain ⟨vs1,vs2,e,h1,h2⟩:=lb hy hl.2
  match vs2,h2 with
  | [],_ =>
  rw[gO] at e
  subst e
  have hgb:=hbk _ _ hb
  obtain ⟨hLb,cs0,t,hh,hr0,hone⟩:=hm.blks b cs hgb
  obtain ⟨hw0,hnz⟩:=hm.glob.own b cs hgb
  have hblt:=hm.blk_lt hgb
  unfold tq at hx
  split at hx
  case h_2=>cases hx
  rename_i x' hx'
  injection hx with hx
  subst hx
  obtain ⟨c1,c2,rfl,hd,hc2⟩:=fI hx' hr0
  match c2,hc2 with
  | [],_ =>
  rw[gO] at hh hone
  obtain ⟨cs1,hv0,hr1,_⟩:=hl.1
  match cs1,hr1 with
  | [z0],hr1 =>
  have hv0:v0=.pointer (some ⟨E.β b,0,none⟩):=by rw[hv0,hr1.1.1];rfl
  subst hv0
  have:=hok x' y z hz E.w E.Z (E.β b) c1 t vs0 hm.glob.zlt hnz hh hd hone h1
  intro K Q hK
  unfold Oper.wp
  have hrun:(execOp a.eval o).run C.P E.w=.ok (.enter id (xs.map a.eval)) E.w:=by
   simp only[execOp,ho,resolve,hfe,Deferred.ofValue,pure_bind,invoke,Array.empty_append]
   simpa using iv hcall (xs.map a.eval) E.w
  rw[hrun]
  rw[show xs.map a.eval=(xs.toList.map a.eval).toArray by simp[<-Array.toList_map],hxs]
  refine this.mono fun e w' he=>?_
  obtain ⟨u,cs',Z',t',rfl,k1,k2,k3,k4,k5,k6,k7,k8,k9,k10⟩:=he
  let E':Env:={ E with w:=w' }
  have hX:kp E fun k=>k=E.β b:=fun k hk=>by subst hk;exact ⟨hnz,hw0⟩
  have hx1:Ext (fun k=>k=E.β b) E E':=⟨rfl,rfl,rfl,rfl,fun _ h=>h,fun k h1 h2=>k10 k h1 h2,fun _ _=>rfl,fun _ h=>h,fun _ _=>rfl,fun _ h=>h,Env.same_x⟩
  have hkeep:=hx1.keep hm.glob hX
  have hold:∀i l,(g.app (.store b (c.s.cells z.1))).h i=some l->∃l',g.h i=some l':=fun i l hi=>by
   simp only[Look.app,Look.setH] at hi
   split at hi
   ·rename_i e;rw[e];exact ⟨_,hgb⟩
   ·exact ⟨l,hi⟩
  have hbelow:Below E.w0.heap.size E.w0 w':=by
   have hb0:=hm.glob.below
   exact ⟨k6.trans hb0.os,k7.trans hb0.tape,k8.trans hb0.output,Nat.le_trans hb0.size k9,fun k hk=>(k10 k (fD hk hb0.size) (by omega)).trans (hb0.block k hk)⟩
  have hglob:Glob E' (g.app (.store b (c.s.cells z.1))):=by
   have G:=hm.glob
   refine ⟨hbelow,fun k hk=>fD (G.zlt k hk) k9,G.z0,G.zfrom,fun k hk=>?_,G.rlive,fun i l hi=>?_,fun i j l l' hi hj hij=>?_,fun i r k hi hk=>?_,G.rinj,⟨fun i x k hi hk=>?_,G.xg.inj⟩⟩
   ·simp only[Look.app,Look.setH]
    split
    ·rfl
    ·exact G.live k hk
   ·obtain ⟨l',hl'⟩:=hold i l hi
    exact G.own i l' hl'
   ·obtain ⟨l1,hl1⟩:=hold i l hi
    obtain ⟨l2,hl2⟩:=hold j l' hj
    exact G.inj i j l1 l2 hl1 hl2 hij
   ·obtain ⟨h1,h2⟩:=G.rown i r k hi hk
    exact ⟨h1,fun j l hj=>by obtain ⟨l',hl'⟩:=hold j l hj;exact h2 j l' hl'⟩
   ·obtain ⟨g1,g2,g3,g4,g5⟩:=G.xg.own i x k hi hk
    exact ⟨g1,fD g2 k9,g3,fun j l hj=>by obtain ⟨l',hl'⟩:=hold j l hj;exact g4 j l' hl',g5⟩
  have hmod:Mod N E' a (g.app (.store b (c.s.cells z.1))):=by
   refine hm.move hX hx1 hglob rfl hm.size (fun i s h=>.inl ⟨h,rfl⟩) (fun i l hi=>?_) (fun i r h=>.inl ⟨h,fun k hk e=>?_⟩) (fun i x h=>.inl ⟨h,rfl,fun k hk e=>?_⟩)
   ·simp only[Look.app,Look.setH] at hi
    split at hi
    ·rename_i e
     injection hi with hi
     subst hi
     subst e
     exact .inr ⟨hLb,cs',t',k2,(Dat.flat hfl.1 k3:Dat E'.w E'.Z c.s z.1 cs').rel,k5⟩
    ·rename_i e
     exact .inl ⟨hi,fun e'=>e (hm.glob.inj i b l cs hi hgb e')⟩
   ·subst e
    exact (hm.glob.rown i r _ h hk).2 b cs hgb rfl
   ·subst e
    exact (hm.glob.xg.own i x _ h hk).2.2.2.1 b cs hgb rfl
  exact hK E' u rfl hkeep hmod (uJ (E:=E') (qM.flat hfl.2 k1))
theorem Ss {C:Ctx} (hC:C.ok) (hP:E.P=C.P) {get:Operand->Option SV} {bk:Nat->Option (List At)} {rk:Rk} {b:Nat} {f:Operand} {xs:Array Operand} {ts:Array TypeId} {r:Cor} (ho:o.op=.call { callee:=.value f,args:=xs,argTypes:=ts })
  (h:SH C get bk rk b f xs=some r) (hg:im E a get o) (hm:Mod N E a g) (hbk:∀i l,bk i=some l->g.h i=some l) (hrk:∀i r,rk i=some r->g.r i=some r) (hrb:rk b=none->g.r b=none):DK C.P N g E a o r:=by
 unfold SH at h
 split at h
 ·rename_i fv hfv
  split at h
  ·rename_i id cap l hf hl
   have hfe:=yg hf (hg f fv (by rw[ho];simp[Op.operands,Call.operands]) hfv)
   have hcl:=Ha hf (hg f fv (by rw[ho];simp[Op.operands,Call.operands]) hfv)
   have hl0:=B2 hl fun x hx s hs=>hg x s (by rw[ho];simp only[Op.operands,Call.operands];rw[Array.mem_append];right;exact Array.mem_toList_iff.1 hx) hs
   unfold WK at h
   split at h
   ·rename_i r' hr'
    injection h with h
    subst h
    rcases M4 hr' with hr' | hr' | hr'
    rotate_left
    ·exact M3 hC hP ho hr' hfe hcl hl0 hm hbk hrk
    ·exact Mo hC hP ho hr' hfe hcl hl0 hm hbk
    unfold Qy at hr'
    split at hr'
    case h_2=>cases hr'
    rename_i c hc
    split at hr'
    ·rename_i x l' y hx hy
     split at hr'
     ·rename_i F hF
      injection hr' with hr'
      subst hr'
      refine ⟨fun hpu _=>(by cases hh:pj (ms bk l cap) c.r.flat<;>rw[hh] at hpu<;>first | rfl | cases hpu),?_⟩
      intro z hz
      obtain ⟨hlv0,hz⟩:=iz hz
      have hlv:=mq hlv0
      obtain ⟨hcall,hok⟩:=hC.ctr id c hc
      have hl':=nl hm hrk (u:=ms bk l cap) hlv hl0 fun r hr=>gC _ hr
      obtain ⟨hmz,hkz⟩:=yS hm (ms bk l cap)
      obtain ⟨vs1,vs2,e,h1,h2⟩:=lb hx hl'
      have hfu:∀q ∈ oY bk l',q ∈ ms bk l cap:=fun q hq=>by
       obtain ⟨k,hk⟩:=Cf hx
       rw[hk] at hq
       have:=zc hq
       rw[xY] at this
       exact bX _ (bX _ this)
      have h3:AI C.P E.w (E.zp g (ms bk l cap)) c.fs F vs2:=CX hC hP hm hbk hrk hlv hF hfu h2
      have h4:=tL hm hbk hrk (u:=ms bk l cap) hlv (Below.refl _ _) (Z':=E.zp g (ms bk l cap)) (fun _ h=>h) hy fun q hq=>bX _ (gC _ hq)
      have:=hok x F y z hz E.w (E.zp g (ms bk l cap)) vs1 vs2 _ (D7 hm _) h1 h3 h4
      rw[<-e] at this
      have e2:xs.map a.eval++(cap.map (jk E.β)).toArray=(xs.toList.map a.eval++cap.map (jk E.β)).toArray:=by
       rw[<-List.append_toArray]
       simp[<-Array.toList_map]
      rw[<-e2] at this
      intro K Q hK
      unfold Oper.wp
      have hrun:(execOp a.eval o).run C.P E.w=.ok (.enter id (xs.map a.eval++(cap.map (jk E.β)).toArray)) E.w:=by
       simp only[execOp,ho,resolve,hfe,Deferred.ofValue,pure_bind,invoke,Array.empty_append]
       exact iv hcall _ _
      rw[hrun]
      refine this.mono fun e w' he=>?_
      obtain ⟨v,rfl,g1,g2⟩:=he
      have keep:∀(hz:∀b,E.zp g (ms bk l cap) b->E.Z b),pj (ms bk l cap) c.r.flat=.none->K (a.put o.dst v) w':=fun hz he=>by
       refine hK (E.dat w') v rfl (sI hm g2) (by show Mod N _ a (g.app (pj _ _));rw[he];exact wd hm g2) (uJ (E:=E.dat w') (Nn (fun b hb=>?_) g1))
       exact hb.imp (hz b) fun h=>h
      cases hu:ms bk l cap with
      | nil =>
       refine keep (fun b hb=>?_) (by rw[hu];rfl)
       rw[hu] at hb
       rcases hb with hb | ⟨r,hr,_⟩
       ·exact hb
       ·cases hr
      | cons q u =>
       cases hfl:c.r.flat with
       | true =>
        have he:pj (ms bk l cap) c.r.flat=.none:=by rw[hu,hfl];rfl
        exact hK (E.dat w') v rfl (sI hm g2) (by show Mod N _ a (g.app (pj _ _));rw[he];exact wd hm g2) (uJ (E:=E.dat w') (qM.flat hfl g1))
       | false =>
        have he:pj (ms bk l cap) c.r.flat=.rkill (ms bk l cap):=by rw[hu,hfl];rfl
        exact hK ((E.zone g (ms bk l cap)).dat w') v rfl (hkz.trans (sI hmz g2)) (by show Mod N _ a (g.app (pj _ _));rw[he];exact wd hmz g2) (uJ (E:=(E.zone g (ms bk l cap)).dat w') g1)
     ·cases hr'
    ·cases hr'
   rename_i hkc
   clear hkc
   split at h
   ·rename_i c hc
    obtain ⟨hcall,hok⟩:=hC.fctr id c hc
    split at h
    case h_2=>cases h
    rename_i x hx
    injection h with h
    subst h
    refine ⟨fun _ _=>rfl,fun F hF=>?_⟩
    obtain ⟨vs1,vs2,e,h1,h2⟩:=lb hx hl0
    match vs2,h2 with
    | [],_ =>
    rw[gO] at e
    have:=hok x F hF E.w E.Z vs1 hm.glob.zlt h1
    rw[<-e] at this
    intro K Q hK
    unfold Oper.wp
    have hrun:(execOp a.eval o).run C.P E.w=.ok (.enter id (xs.map a.eval)) E.w:=by
     simp only[execOp,ho,resolve,hfe,Deferred.ofValue,pure_bind,invoke,Array.empty_append]
     simpa using iv hcall (xs.map a.eval) E.w
    rw[hrun]
    rw[show xs.map a.eval=(xs.toList.map a.eval).toArray by simp[<-Array.toList_map]]
    refine this.mono fun e' w' he=>?_
    obtain ⟨v,Z',rfl,z1,⟨gf,gc,g1,g2,g3⟩,hb⟩:=he
    refine hK (E.dat w') v rfl (sI hm hb) (wd hm hb) ⟨[v],rfl,⟨⟨gf,gc,g1,by rw[show (E.dat w').P=C.P from hP];exact g2,fun w2 Z2 x2 y2 jD hA hZ=>?_⟩,trivial⟩,fun _=>rfl⟩
    rw[show (E.dat w').P=C.P from hP]
    exact g3 w2 Z2 x2 y2 jD (fun ad u hz hc=>hA.2 ad u (z1 _ hz) hc) fun b hb=>hZ b (z1 b hb)
   ·split at h
    ·rename_i c hc
     obtain ⟨hcall,hok⟩:=hC.rctr id c hc
     split at h
     case h_2=>cases h
     unfold W5 at h
     split at h
     ·rename_i x hx hbn
      split at h
      ·rename_i hfl
       injection h with h
       subst h
       refine ⟨fun hpu=>(by cases hpu),fun z hz=>?_⟩
       obtain ⟨hlv0,hz⟩:=iz hz
       have hlv:=mq hlv0
       have hl':=nl hm hrk (u:=kA l) hlv hl0 fun r hr=>hr
       obtain ⟨vs1,vs2,e,h1,h2⟩:=lb hx hl'
       match vs2,h2 with
       | [],_ =>
       have:=hok x z hz E.w (E.zp g (kA l)) vs1 (D7 hm _) h1
       rw[gO] at e
       rw[<-e] at this
       intro K Q hK
       unfold Oper.wp
       have hrun:(execOp a.eval o).run C.P E.w=.ok (.enter id (xs.map a.eval)) E.w:=by
        simp only[execOp,ho,resolve,hfe,Deferred.ofValue,pure_bind,invoke,Array.empty_append]
        simpa using iv hcall (xs.map a.eval) E.w
       rw[hrun]
       rw[show xs.map a.eval=(xs.toList.map a.eval).toArray by simp[<-Array.toList_map]]
       refine this.mono fun e' w' he=>?_
       obtain ⟨v,Z',rfl,z1,z2,z3,⟨ys,o1,o2⟩,hb⟩:=he
       have zone:∃Z2:Nat->Prop,(∀q,E.Z q->Z2 q)/\(∀q,Z2 q->E.Z q\/(E.w.heap.size<=q/\q<w'.heap.size))/\(∀q,v.ownBlock=some q->¬ Z2 q)/\aM w' Z2 c.e z ys:=by
        simp only[Bool.or_eq_true] at hfl
        rcases hfl with hfl | hfl
        ·refine ⟨E.Z,fun _ h=>h,fun _ h=>.inl h,fun q hq hz=>?_,aM.flat hfl o2⟩
         exact z3 q hq (z1 q (.inl hz))
        ·have hu:kA l=[]:=by simpa using hfl
         refine ⟨Z',fun q hq=>z1 q (.inl hq),fun q hq=>?_,z3,o2⟩
         rcases z2 q hq with h | h
         ·rcases h with h | ⟨r,hr,_⟩
          ·exact .inl h
          ·rw[hu] at hr;cases hr
         ·exact .inr h
       obtain ⟨Z2,y1,y2,y3,y4⟩:=zone
       obtain ⟨m1,m2⟩:=nc hm (hrb hbn) hb y1 y2 y3 (ri:=⟨c.t,c.e,z.length,z⟩) ⟨ys,o1,y4,rfl⟩
       refine hK (E.made b v w' Z2) v rfl m2 m1 ⟨[v],rfl,⟨⟨?_,.inr rfl,gA o1⟩,trivial⟩,fun _=>rfl⟩
       show v=if b=b then v else _
       rw[if_pos rfl]
      ·cases h
     ·cases h
    split at h
    ·rename_i c hc
     obtain ⟨hcall,hok⟩:=hC.wctr id c hc
     split at h
     case h_2=>cases h
     unfold WW at h
     split at h
     ·rename_i x hx hbn
      injection h with h
      subst h
      refine ⟨fun hpu=>(by cases hpu),fun z hz=>?_⟩
      obtain ⟨vs1,vs2,e,h1,h2⟩:=lb hx hl0
      match vs2,h2 with
      | [],_ =>
      have:=hok x z hz E.w E.Z vs1 hm.glob.zlt h1
      rw[gO] at e
      rw[<-e] at this
      intro K Q hK
      unfold Oper.wp
      have hrun:(execOp a.eval o).run C.P E.w=.ok (.enter id (xs.map a.eval)) E.w:=by
       simp only[execOp,ho,resolve,hfe,Deferred.ofValue,pure_bind,invoke,Array.empty_append]
       simpa using iv hcall (xs.map a.eval) E.w
      rw[hrun]
      rw[show xs.map a.eval=(xs.toList.map a.eval).toArray by simp[<-Array.toList_map]]
      refine this.mono fun e' w' he=>?_
      obtain ⟨v,cs,Z',rfl,z1,z2,z3,⟨ys,o1,o2⟩,o3,hb⟩:=he
      obtain ⟨m1,m2⟩:=nc hm (hrb hbn) hb z1 z2 z3 (ri:=⟨c.t,c.e,z.1.length,z.1⟩) ⟨ys,o1,o2,rfl⟩
      refine hK (E.made b v w' Z') _ rfl m2 m1 ⟨v ::cs,rfl,⟨⟨?_,.inr rfl,gA o1⟩,Dat.rel (E:=E.made b v w' Z') o3⟩,fun h=>by cases h⟩
      show v=if b=b then v else _
      rw[if_pos rfl]
     ·cases h
    split at h
    ·rename_i c hc
     obtain ⟨hcall,hok⟩:=hC.actr id c hc
     split at h
     case h_2=>cases h
     unfold WQ at h
     split at h
     case h_2=>cases h
     rename_i q l'
     split at h
     case h_2=>cases h
     rename_i ri hri
     split at h
     case h_2=>cases h
     rename_i he x0 htt hs hx
     split at h
     case h_2=>cases h
     rename_i hbn
     obtain ⟨rt,re,rn,rl⟩:=ri
     simp only at he htt
     subst he
     have htt:rt=c.t:=by simpa using htt
     injection h with h
     subst h
     refine ⟨fun hpu=>(by cases hpu),fun z hz=>?_⟩
     have hgq:=hrk q _ hri
     cases hxl:xs.toList with
     | nil=>rw[hxl] at hl0;exact hl0.elim
     | cons y ys =>
     rw[hxl] at hl0
     have hl1:dh E (.c false [.row q]) (a.eval y)/\hG E l' (ys.map a.eval):=hl0
     obtain ⟨vs1,vs2,e,h1,h2⟩:=lb hx hl1.2
     match vs2,h2 with
     | [],_ =>
     rw[gO] at e
     obtain ⟨cs,hcv,hcr,_⟩:=hl1.1
     match cs,hcr with
     | [u],hcr =>
     have hyu:a.eval y=u:=hcv
     have huq:u=E.ρ q:=hcr.1.1
     obtain ⟨hR,ws,o1,o2,o3⟩:=hm.rows q _ hgq
     simp only at o1 o2 o3
     rw[htt] at o1
     have hbelow:=hm.glob.below
     have:=hok rl _ z hz E.w E.Z E.w0.heap.size (E.ρ q) ws vs1 hm.glob.zlt hbelow.size o1 o2 (fun b' hb'=>(hm.glob.rown q _ b' hgq hb').1) h1
     intro K Q hK
     unfold Oper.wp
     have hrun:(execOp a.eval o).run C.P E.w=.ok (.enter id (xs.map a.eval)) E.w:=by
      simp only[execOp,ho,resolve,hfe,Deferred.ofValue,pure_bind,invoke,Array.empty_append]
      simpa using iv hcall (xs.map a.eval) E.w
     rw[hrun]
     rw[show xs.map a.eval=(E.ρ q ::vs1).toArray by
      rw[show xs.map a.eval=(xs.toList.map a.eval).toArray by simp[<-Array.toList_map],hxl,List.map_cons,hyu,huq,e]]
     refine this.mono fun e' w' he=>?_
     obtain ⟨v',zs,rfl,g1,g2,g3,g4⟩:=he
     obtain ⟨m1,m2⟩:=CU hm (hrb hbn) (ri:=⟨c.t,c.e,z.length,z⟩) (old:=some q) (ob:=(E.ρ q).ownBlock) (fun q' hq'=>by injection hq' with hq';subst hq';exact ⟨⟨_,hgq⟩,rfl⟩) (fun h=>by cases h) g1 g4 ⟨zs,g2,g3,rfl⟩
     refine hK (E.withRow b v' w') v' rfl m2 m1 ⟨[v'],rfl,⟨⟨?_,.inr rfl,gA g2⟩,trivial⟩,fun _=>rfl⟩
     show v'=if b=b then v' else _
     rw[if_pos rfl]
    split at h
    ·rename_i hin
     injection h with h
     subst h
     refine ⟨xs.map a.eval++(cap.map (jk E.β)).toArray,?_,?_⟩
     ·simp only[execOp,ho,resolve,hfe,Deferred.ofValue,pure_bind,invoke,Array.empty_append]
      exact iv (hC.inl id hin) _ _
     ·have:=ym hl0 (Ic hcl)
      simpa using this
    ·cases h
  ·cases h
 ·cases h
end
end Dn
end Go.Proofs.YtlfdhaiigdllcaaGreat
