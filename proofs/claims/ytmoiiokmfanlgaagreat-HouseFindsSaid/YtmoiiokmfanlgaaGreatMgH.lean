/- A symbolic executor: worlds that differ in blocks that hold no cells; the contracts of iterators. A symbolic executor: equality of structs, shifts, function values, calls by contract, and the step of one operation. A symbolic executor: one operation, with its guard; regions in the order of the text. -/
import Derived.RangeFuncCalls
import Derived.RangeFuncSeq
import Derived.Test.YtmoiiokmfanlgaaGreatMgG

namespace Go.Proofs.YtmoiiokmfanlgaaGreat
namespace Dn
open Go.RowKit
def stab:Obj→Bool
 | .cells _ _ _=>true
 | .map _ _=>true
 | _=>false
structure Turned (B:Nat) (w w':World):Prop where
 os:w'.os=w.os
 tape:w'.tape=w.tape
 output:w'.output=w.output
 size:w.heap.size≤w'.heap.size
 block:∀k,k<w.heap.size→w'.heap[k]?=w.heap[k]?∨(B≤k∧∀o,w.heap[k]?=some o→stab o=false)
theorem Turned.refl (B:Nat) (w:World):Turned B w w:=⟨rfl,rfl,rfl,Nat.le_refl _,fun _ _=>.inl rfl⟩
theorem Turned.trans {B:Nat} {w w' w'':World} (h:Turned B w w') (h':Turned B w' w''):Turned B w w'':=by
 refine ⟨h'.os.trans h.os,h'.tape.trans h.tape,h'.output.trans h.output,Nat.le_trans h.size h'.size,fun k hk=>?_⟩
 rcases h.block k hk with h1 | h1
 ·rcases h'.block k (Nat.lt_of_lt_of_le hk h.size) with h2 | ⟨h2,h3⟩
  ·exact .inl (h2.trans h1)
  ·exact .inr ⟨h2,fun o ho=>h3 o (h1.trans ho)⟩
 ·exact .inr h1
theorem Turned.alloc (B:Nat) (w:World) (o:Obj):Turned B w (w.alloc o) :=
 ⟨rfl,rfl,rfl,by simp,fun k hk=>.inl (Below.heap_alloc w o k hk)⟩
theorem Turned.putObj {B:Nat} {w:World} {L:Nat} {o:Obj} (o':Obj) (hB:B≤L) (hL:w.heap[L]?=some o) (ho:stab o=false):Turned B w (w.putObj L o'):=by
 refine ⟨rfl,rfl,rfl,by simp,fun k _=>?_⟩
 by_cases e:k=L
 ·subst e
  exact .inr ⟨hB,fun o2 h2=>by rw[hL] at h2;cases h2;exact ho⟩
 ·exact .inl (World.putObj_heap_other e)
theorem Turned.mono {B B':Nat} {w w':World} (h:Turned B w w') (hb:B'≤B):Turned B' w w' :=
 ⟨h.os,h.tape,h.output,h.size,fun k hk=>(h.block k hk).imp id fun ⟨h1,h2⟩=>⟨Nat.le_trans hb h1,h2⟩⟩
theorem Turned.cells {B:Nat} {w w':World} (h:Turned B w w') {k:Nat} {o:Obj} (hk:w.heap[k]?=some o) (ho:stab o=true):w'.heap[k]?=w.heap[k]?:=by
 rcases h.block k (Array.getElem?_eq_some_iff.1 hk).1 with h1 | ⟨_,h1⟩
 ·exact h1
 ·rw[h1 o hk] at ho;cases ho
theorem Turned.cell {B:Nat} {w w':World} (h:Turned B w w') {a:Addr} {v:Value} (hv:w.cell? a=some v):w'.cell? a=some v:=by
 obtain ⟨o,ho,hc⟩:=cells_of_cell hv
 exact (World.cell?_of_block (h.cells ho (by cases o<;>first | rfl | cases hc))).trans hv
theorem Turned.below {B:Nat} {w0 w w':World} (h:Turned B w w') (hb:Below B w0 w) (hB:B≤w.heap.size):Below B w0 w' :=
 ⟨h.os.trans hb.os,h.tape.trans hb.tape,h.output.trans hb.output,Nat.le_trans hb.size h.size,fun k hk=>by
  rcases h.block k (by omega) with h1 | ⟨h1,_⟩
  ·exact h1.trans (hb.block k hk)
  ·omega⟩
structure ICtr where
 caps:List Sh
 e:List Sh
 p:TsS caps→Bool
 m:TsS caps→List (TsS e)
def CapsAt (w:World) (Z:Nat→Prop):(l:List Sh)→TsS l→List Addr→Prop
 | [],_,ads=>ads=[]
 | s ::r,x,ads=>∃ad ads',ads=ad ::ads'∧(∃cs,Dat w Z s x.1 cs∧∀j v,cs[j]?=some v→w.cell? (ad.add j)=some v)∧CapsAt w Z r x.2 ads'
def ICtr.ok (c:ICtr) (P:Program) (g:FuncId):Prop:=∀(l:Nat) (x:TsS c.caps) (ads:List Addr) (J:Nat→World→Prop) (Jx:World→Prop) (W:World),c.p x=true →
 (∀k W W',J k W→Turned W.heap.size W W'→J k W')→(∀W W',Jx W→Turned W.heap.size W W'→Jx W') →
 (∀k W,J k W→∃Z:Nat→Prop,CapsAt W Z c.caps x ads) →
 (∃Z:Nat→Prop,CapsAt W Z c.caps x ads∧∀(s:Sh) (y:s.T) (cs:List Value),Dat W Z s y cs→∀k W',J k W'→∃Z':Nat→Prop,Dat W' Z' s y cs) →
 (∀k (y:TsS c.e) (vals:List Value) W,(c.m x)[k]?=some y→J k W→(∀Z,DatVs W Z c.e y vals)→YieldAt Fence.wide 0 P l vals.toArray W fun e W'=>(e=.returned (.bool true)∧J (k+1) W')∨(e=.returned (.bool false)∧Jx W')) →
 J 0 W→CallsIn Fence.wide 0 P g (#[.func (.yield l) #[] #[]]++(ads.map fun a=>Value.pointer (some a)).toArray) W fun e W'=>(∃v,e=.returned v)∧(J (c.m x).length W'∨Jx W')
end Dn
end Go.Proofs.YtmoiiokmfanlgaaGreat

namespace Go.Proofs.YtmoiiokmfanlgaaGreat
namespace Dn
open Go.RowKit
structure Ctx where
 P:Program
 sh:TypeId→Option Sh
 ctr:FuncId→Option Ctr
 inl:FuncId→Bool:=fun _=>false
 rctr:FuncId→Option RCtr:=fun _=>none
 it:FuncId→Option ICtr:=fun _=>none
 fctr:FuncId→Option FCtr:=fun _=>none
 pctr:FuncId→Option PCtr:=fun _=>none
 mctr:FuncId→Option MCtr:=fun _=>none
 tb:TypeId→Option XP:=fun _=>none
 lit:String→Bool:=fun _=>false
structure Ctx.ok (C:Ctx):Prop where
 ctr:∀id c,C.ctr id=some c→callable C.P id=true∧c.ok C.P id
 inl:∀id,C.inl id=true→callable C.P id=true
 rctr:∀id c,C.rctr id=some c→callable C.P id=true∧c.ok C.P id
 it:∀id c,C.it id=some c→callable C.P id=true∧c.ok C.P id
 fctr:∀id c,C.fctr id=some c→callable C.P id=true∧c.ok C.P id
 pctr:∀id c,C.pctr id=some c→callable C.P id=true∧c.ok C.P id
 mctr:∀id c,C.mctr id=some c→callable C.P id=true∧c.ok C.P id
section
variable {P:Program} {N:Nat} {g:Look} {E:Env} {a:Act} {o:Oper}
def eqFs (P:Program) (rec:TypeId→Value→Value→Option Bool) (xs ys:Array Value):List Field→Option Bool
 | []=>some true
 | f :: r => match f.name == "_" with
  | true=>eqFs P rec xs ys r
  | false=>match pureS P (part f.type xs f.offset),pureS P (part f.type ys f.offset) with
   | some x,some y=>match rec f.type x y,eqFs P rec xs ys r with
    | some p,some q=>some (p&&q)
    | _,_=>none
   | _,_=>none
def eqIts (P:Program) (rec:TypeId→Value→Value→Option Bool) (e:TypeId) (c:Nat) (xs ys:Array Value):List Nat→Option Bool
 | []=>some true
 | i ::r=>match pureS P (part e xs (i*c)),pureS P (part e ys (i*c)) with
  | some x,some y=>match rec e x y,eqIts P rec e c xs ys r with
   | some p,some q=>some (p&&q)
   | _,_=>none
  | _,_=>none
def upTo:Nat→Nat→List Nat
 | _,0=>[]
 | i,n+1=>i ::upTo (i+1) n
theorem upTo_eq:∀{n i:Nat},upTo i n=List.range' i n
 | 0,_=>rfl
 | n+1,i=>by rw[upTo,List.range'_succ,upTo_eq]
def eqS (P:Program):Nat→TypeId→Value→Value→Option Bool
 | 0,_,_,_=>none
 | d+1,t,x,y=>match P.underlying t with
  | some (.int _)=>match x,y with
   | .int k m,.int k' n=>match decide (k=k') with
    | true=>some (m ==n)
    | false=>none
   | _,_=>none
  | some .bool=>match x,y with
   | .bool m,.bool n=>some (m ==n)
   | _,_=>none
  | some .string=>match x,y with
   | .string m,.string n=>some (m ==n)
   | _,_=>none
  | some (.struct fs)=>match x,y with
   | .agg xs,.agg ys=>match P.stoodInHeld t with
    | true=>none
    | false=>eqFs P (eqS P d) xs ys fs.toList
   | _,_=>none
  | some (.array n e)=>match x,y,P.info? e with
   | .agg xs,.agg ys,some i=>eqIts P (eqS P d) e i.size xs ys (upTo 0 n)
   | _,_,_=>none
  | _=>none
theorem eqFs_run {d:Nat} {rec:TypeId→Value→Value→Option Bool} (hrec:∀t x y b,rec t x y=some b→∀w,(Op.equalIn d t x y).run P w=.ok b w) (xs ys:Array Value) :
  ∀(fs:List Field) (b:Bool),eqFs P rec xs ys fs=some b→∀w,(Op.eqFields d xs ys fs).run P w=.ok b w
 | [],b,h,w=>by simp only[eqFs] at h;injection h with h;subst h;rfl
 | f ::r,b,h,w=>by
  simp only[eqFs] at h
  split at h
  ·rename_i hn
   have hn : f.name = "_" := by simpa using hn
   simp only[Op.eqFields,hn,ne_eq,not_true_eq_false,if_false]
   exact eqFs_run hrec xs ys r b h w
  ·rename_i hn
   have hn : ¬ f.name = "_" := by simpa using hn
   split at h
   ·rename_i x y hx hy
    split at h
    ·rename_i p q hp hq
     injection h with h
     subst h
     simp only[Op.eqFields,ne_eq,hn,not_false_eq_true,if_true,Sem.run_bind,pureS_run hx,pureS_run hy,Result.andThen_ok,hrec _ _ _ _ hp]
     cases p
     ·simp
     ·simp only[Bool.not_true,Bool.false_eq_true,if_false,Bool.true_and]
      exact eqFs_run hrec xs ys r q hq w
    ·cases h
   ·cases h
theorem eqIts_run {d:Nat} {rec:TypeId→Value→Value→Option Bool} (hrec:∀t x y b,rec t x y=some b→∀w,(Op.equalIn d t x y).run P w=.ok b w) (e:TypeId) (c:Nat) (xs ys:Array Value) :
  ∀(l:List Nat) (b:Bool),eqIts P rec e c xs ys l=some b→∀w,(Op.eqItems d e c xs ys l).run P w=.ok b w
 | [],b,h,w=>by simp only[eqIts] at h;injection h with h;subst h;rfl
 | i ::r,b,h,w=>by
  simp only[eqIts] at h
  split at h
  ·rename_i x y hx hy
   split at h
   ·rename_i p q hp hq
    injection h with h
    subst h
    simp only[Op.eqItems,Sem.run_bind,pureS_run hx,pureS_run hy,Result.andThen_ok,hrec _ _ _ _ hp]
    cases p
    ·simp
    ·simp only[Bool.not_true,Bool.false_eq_true,if_false,Bool.true_and]
     exact eqIts_run hrec e c xs ys r q hq w
   ·cases h
  ·cases h
theorem eqS_run:∀{d:Nat} {t:TypeId} {x y:Value} {b:Bool},eqS P d t x y=some b→∀w,(Op.equalIn d t x y).run P w=.ok b w
 | 0,_,_,_,_,h,_=>by cases h
 | d+1,t,x,y,b,h,w=>by
  simp only[eqS] at h
  split at h
  ·rename_i hu
   split at h
   ·split at h
    ·rename_i hk
     have hk:=of_decide_eq_true hk
     subst hk
     injection h with h;subst h
     exact run_equalIn_int w d t _ _ _ _ hu
    ·cases h
   ·cases h
  ·rename_i hu
   split at h
   ·injection h with h;subst h
    exact run_equalIn_bool' w d t _ _ hu
   ·cases h
  ·rename_i hu
   split at h
   ·injection h with h;subst h
    rw[beq_toListBytes]
    exact run_equalIn_string w d t _ _ hu
   ·cases h
  ·rename_i fs hu
   split at h
   ·rename_i xs ys
    split at h
    ·cases h
    ·rename_i hs
     have hf:P.fieldsOf t=fs:=by simp[Program.fieldsOf,hu]
     rw[run_equalIn_struct w d t xs ys (by rw[hf];exact hu) hs,hf]
     exact eqFs_run (fun _ _ _ _ h w=>eqS_run h w) xs ys fs.toList b h w
   ·cases h
  ·rename_i n e hu
   split at h
   ·rename_i xs ys i hi
    rw[run_equalIn_array w d xs ys hu hi,show P.cellsOf e=i.size by simp[Program.cellsOf,hi],List.range_eq_range',←upTo_eq]
    exact eqIts_run (fun _ _ _ _ h w=>eqS_run h w) e i.size xs ys _ b h w
   ·cases h
  ·cases h
def eqC (P:Program) (get:Operand→Option SV) (o:Oper):Option Core:=match o.op with
 | .binOp .eql t x y _=>match getV get x,getV get y with
  | some (.agg xs),some (.agg ys)=>match P.eqGuardType P.depth t,eqS P 10000 t (.agg xs) (.agg ys) with
   | false,some b=>some ⟨.c false [.v (.bool b)],.none,[]⟩
   | _,_=>none
  | _,_=>pureC P get o
 | .binOp .neq t x y _=>match getV get x,getV get y with
  | some (.agg xs),some (.agg ys)=>match P.eqGuardType P.depth t,eqS P 10000 t (.agg xs) (.agg ys) with
   | false,some b=>some ⟨.c false [.v (.bool !b)],.none,[]⟩
   | _,_=>none
  | _,_=>pureC P get o
 | _=>none
theorem eqC_ok {get:Operand→Option SV} {r:Core} (h:eqC P get o=some r) (hg:Gets E a get o) (hm:Mod N E a g):CoreOk P N g E a o r:=by
 unfold eqC at h
 split at h
 ·rename_i t x y t' ho
  split at h
  ·rename_i xs ys hx hy
   split at h
   ·rename_i b hgd hb
    injection h with h
    subst h
    have e1:=getV_eval hg (by simp[ho,Op.operands]) hx
    have e2:=getV_eval hg (by simp[ho,Op.operands]) hy
    refine CoreOk.value (E':=E) (v:=.bool b) ?_ rfl (Keep.refl E) hm ⟨[_],rfl,⟨rfl,trivial⟩,fun _=>rfl⟩
    simp only[execOp,ho,e1,e2,Sem.run_bind,run_eqGuard_agg E.w _ t _ _ xs ys hgd,Result.andThen_ok,run_eql_struct,eqS_run hb E.w,Sem.run_pure]
   ·cases h
  ·exact pureC_ok h hg hm
 ·rename_i t x y t' ho
  split at h
  ·rename_i xs ys hx hy
   split at h
   ·rename_i b hgd hb
    injection h with h
    subst h
    have e1:=getV_eval hg (by simp[ho,Op.operands]) hx
    have e2:=getV_eval hg (by simp[ho,Op.operands]) hy
    refine CoreOk.value (E':=E) (v:=.bool !b) ?_ rfl (Keep.refl E) hm ⟨[_],rfl,⟨rfl,trivial⟩,fun _=>rfl⟩
    simp only[execOp,ho,e1,e2,Sem.run_bind,run_eqGuard_agg E.w _ t _ _ xs ys hgd,Result.andThen_ok,run_neq_struct,eqS_run hb E.w,Sem.run_pure]
   ·cases h
  ·exact pureC_ok h hg hm
 ·cases h
def shiftC (get:Operand→Option SV) (o:Oper):Option Core:=match o.op with
 | .binOp .shl _ x y _=>match getV get x,getV get y with
  | some (.int k m),some (.int _ n)=>some ⟨.c false [.v (.int k (k.wrap (m*2 ^ (min n.toNat k.bits))))],.none,[decide (0≤n)]⟩
  | _,_=>none
 | .binOp .shr _ x y _=>match getV get x,getV get y with
  | some (.int k m),some (.int _ n)=>some ⟨.c false [.v (.int k (m.fdiv (2 ^ (min n.toNat k.bits))))],.none,[decide (0≤n)]⟩
  | _,_=>none
 | _=>none
theorem shiftC_ok {get:Operand→Option SV} {r:Core} (h:shiftC get o=some r) (hg:Gets E a get o) (hm:Mod N E a g) (hp:allB r.p=true):CoreOk P N g E a o r:=by
 unfold shiftC at h
 split at h
 ·rename_i t x y t' ho
  split at h
  ·rename_i k m k' n hx hy
   injection h with h
   subst h
   have e1:=getV_eval hg (by simp[ho,Op.operands]) hx
   have e2:=getV_eval hg (by simp[ho,Op.operands]) hy
   have hn:¬ n<0:=by have:0≤n:=of_decide_eq_true hp;omega
   refine CoreOk.value (E':=E) ?_ rfl (Keep.refl E) hm ⟨[_],rfl,⟨rfl,trivial⟩,fun _=>rfl⟩
   simp[execOp,ho,e1,e2,eqGuard,binOp,Op.shift,hn,mkV]
  ·cases h
 ·rename_i t x y t' ho
  split at h
  ·rename_i k m k' n hx hy
   injection h with h
   subst h
   have e1:=getV_eval hg (by simp[ho,Op.operands]) hx
   have e2:=getV_eval hg (by simp[ho,Op.operands]) hy
   have hn:¬ n<0:=by have:0≤n:=of_decide_eq_true hp;omega
   refine CoreOk.value (E':=E) ?_ rfl (Keep.refl E) hm ⟨[_],rfl,⟨rfl,trivial⟩,fun _=>rfl⟩
   simp[execOp,ho,e1,e2,eqGuard,binOp,Op.shift,hn,mkV]
  ·cases h
 ·cases h
def capsC (get:Operand→Option SV):List Operand→Option (List (Nat×Nat))
 | []=>some []
 | x ::r=>match get x,capsC get r with
  | some (.c false [.ptr b off]),some l=>some ((b,off) ::l)
  | _,_=>none
theorem capsC_rel {get:Operand→Option SV}:∀{xs:List Operand} {l:List (Nat×Nat)},capsC get xs=some l→(∀x ∈ xs,∀s,get x=some s→RelV E s (a.eval x)) →
  xs.map a.eval=l.map (ptrV E.β)∧∀p ∈ l,E.L p.1
 | [],l,h,_=>by simp only[capsC] at h;injection h with h;subst h;exact ⟨rfl,fun p hp=>by cases hp⟩
 | x ::r,l,h,hg=>by
  simp only[capsC] at h
  split at h
  ·rename_i b off l' hx hr
   injection h with h
   subst h
   obtain ⟨h1,h2⟩:=capsC_rel hr fun y hy=>hg y (by simp[hy])
   obtain ⟨cs,hv,hc,_⟩:=hg x (by simp) _ hx
   match cs,hc with
   | [z],hc =>
    obtain ⟨hz,hl⟩:=hc.1
    refine ⟨by simp[h1,hv,mkV,hz],fun p hp=>?_⟩
    rcases List.mem_cons.1 hp with rfl | hp
    ·exact hl
    ·exact h2 p hp
  ·cases h
def funcC (get:Operand→Option SV) (o:Oper):Option Core:=match o.op with
 | .makeFunc (.func f) first caps=>match first.toList,caps.toList with
  | [],[]=>some ⟨.c false [.v (.func (.func f) #[] #[])],.none,[]⟩
  | [],c ::cs=>match capsC get (c ::cs) with
   | some l=>some ⟨.c false [.clo f l],.none,[]⟩
   | none=>none
  | _,_=>none
 | _=>none
theorem funcC_ok {get:Operand→Option SV} {r:Core} (h:funcC get o=some r) (hg:Gets E a get o) (hm:Mod N E a g):CoreOk P N g E a o r:=by
 unfold funcC at h
 split at h
 ·rename_i f first caps ho
  split at h
  ·rename_i h1 h2
   injection h with h
   subst h
   have h1:first=#[]:=by simpa using h1
   have h2:caps=#[]:=by simpa using h2
   refine CoreOk.value (E':=E) ?_ rfl (Keep.refl E) hm ⟨[_],rfl,⟨rfl,trivial⟩,fun _=>rfl⟩
   simp[execOp,ho,h1,h2,Instr.makeFunc,mkV]
  ·rename_i c cs h1 h2
   split at h
   ·rename_i l hl
    injection h with h
    subst h
    have h1:first=#[]:=by simpa using h1
    have h2':caps=(c ::cs).toArray:=by rw[←h2]
    obtain ⟨e1,e2⟩:=capsC_rel hl fun x hx s hs=>hg x s (by rw[ho];simp only[Op.operands];rw[Array.mem_append];right;rw[h2'];simpa using hx) hs
    refine CoreOk.value (E':=E) (v:=.func (.func f) #[] (l.map (ptrV E.β)).toArray) ?_ rfl (Keep.refl E) hm ⟨[_],rfl,⟨⟨rfl,e2⟩,trivial⟩,fun _=>rfl⟩
    have e3:caps.map a.eval=(l.map (ptrV E.β)).toArray:=by rw[h2',←e1];simp
    simp[execOp,ho,h1,Instr.makeFunc,e3]
   ·cases h
  ·cases h
 ·cases h
def shs?:(a b:List Sh)→Option (PLift (a=b))
 | [],[]=>some ⟨rfl⟩
 | x ::r,y ::r'=>match Sh.eq? x y,shs? r r' with
  | some ⟨h⟩,some ⟨h'⟩=>some ⟨by rw[h,h']⟩
  | _,_=>none
 | _,_=>none
def takes:(as:List Sh)→List SV→Option (TsS as×List SV)
 | [],l=>some ((),l)
 | s ::r,v ::l=>match s.whole v,takes r l with
  | some x,some (y,l')=>some ((x,y),l')
  | _,_=>none
 | _ ::_,[]=>none
def wholeL (s:Sh) (l:List At):Option s.T:=match s.take l with
 | some (x,[])=>some x
 | _=>none
def takeRefs (rk:Rk) (bk:Nat→Option (List At)):(cs:List Sh)→List (Nat×Nat)→Option (TsS cs)
 | [],[]=>some ()
 | s ::r,p ::l=>match Nat.beq p.2 0,bk p.1,takeRefs rk bk r l with
  | true,some b,some y=>match wholeL s (thawL rk b) with
   | some x=>some (x,y)
   | none=>none
  | _,_,_=>none
 | _,_=>none
def Ctr.asFn (c:Ctr) (a:List Sh) (r:Sh) (y:TsS c.cs):Option (FnT a r):=match c,y with
 | ⟨as,[],_,.one r',m⟩,y=>match shs? as a,Sh.eq? r' r with
  | some ⟨h⟩,some ⟨h'⟩=>some (h ▸ h' ▸ ((fun x=>m x () y):FnT as r'))
  | _,_=>none
 | _,_=>none
def fnOf:SV→Option (FuncId×List (Nat×Nat))
 | .c false [.v (.func (.func id) ⟨[]⟩ ⟨[]⟩)]=>some (id,[])
 | .c false [.clo id cap]=>some (id,cap)
 | _=>none
def takeP (a:List Sh) (r:Sh):SV→Option (FnT a r)
 | .c false [.fn a' r' F]=>match shs? a' a,Sh.eq? r' r with
  | some ⟨h⟩,some ⟨h'⟩=>some (h ▸ h' ▸ F)
  | _,_=>none
 | _=>none
def rowsRefs (bk:Nat→Option (List At)):List (Nat×Nat)→List Nat
 | []=>[]
 | p ::l=>match bk p.1 with
  | some b=>rowsL b++rowsRefs bk l
  | none=>rowsRefs bk l
def rowsFn (bk:Nat→Option (List At)) (v:SV):List Nat:=match fnOf v with
 | some (_,cap)=>rowsRefs bk cap
 | none=>[]
def rowsFns (bk:Nat→Option (List At)):List SV→List Nat
 | []=>[]
 | v ::l=>rowsFn bk v++rowsFns bk l
def takeG (C:Ctx) (rk:Rk) (bk:Nat→Option (List At)) (a:List Sh) (r:Sh) (v:SV):Option (FnT a r):=match fnOf v with
 | some (id,cap)=>match C.ctr id with
  | some c=>match takeRefs rk bk c.cs cap with
   | some y=>c.asFn a r y
   | none=>none
  | none=>none
 | none=>none
def takeF (C:Ctx) (rk:Rk) (bk:Nat→Option (List At)) (a:List Sh) (r:Sh) (v:SV):Option (FnT a r):=match takeP a r v with
 | some F=>some F
 | none=>takeG C rk bk a r v
def takeFs (C:Ctx) (rk:Rk) (bk:Nat→Option (List At)):(fs:List (List Sh×Sh))→List SV→Option (TsF fs)
 | [],[]=>some ()
 | f ::r,v ::l=>match takeF C rk bk f.1 f.2 v,takeFs C rk bk r l with
  | some x,some y=>some (x,y)
  | _,_=>none
 | _,_=>none
def gets (get:Operand→Option SV):List Operand→Option (List SV)
 | []=>some []
 | x ::r=>match get x,gets get r with
  | some s,some l=>some (s ::l)
  | _,_=>none
def callEff (u:List Nat) (flat:Bool):Eff:=match u,flat with
 | [],_=>.none
 | _,true=>.none
 | u,false=>.rkill u
def effNone:Eff→Bool
 | .none=>true
 | _=>false
def callU (bk:Nat→Option (List At)) (l:List SV) (cap:List (Nat×Nat)):List Nat:=rowsVs l++(rowsRefs bk cap++rowsFns bk l)
def capS:List (Nat×Nat)→List SV
 | []=>[]
 | p ::l=>.c false [.ptr p.1 p.2] ::capS l
def callR (rk:Rk) (b:Nat) (l:List SV) (c:RCtr):Option Cor:=match takes c.as (thawVs rk l),rk b with
 | some (x,[]),none=>match c.e.flat||(rowsVs l).isEmpty with
  | true=>some (.call (List c.e.T) [] (guardB (liveR rk (rowsVs l)) (c.m x)) (fun _=>.c false [.row b]) (fun l=>.row b ⟨c.t,c.e,l.length,l⟩ none) false)
  | false=>none
 | _,_=>none
def or3 (a b c:Option Cor):Option Cor:=match a with
 | some r=>some r
 | none=>match b with
  | some r=>some r
  | none=>c
theorem or3_cases {a b c:Option Cor} {r:Cor} (h:or3 a b c=some r):a=some r∨b=some r∨c=some r:=by
 unfold or3 at h
 split at h
 ·exact .inl h
 ·split at h
  ·exact .inr (.inl h)
  ·exact .inr (.inr h)
def callKc (C:Ctx) (bk:Nat→Option (List At)) (rk:Rk) (id:FuncId) (cap:List (Nat×Nat)) (l:List SV):Option Cor:=match C.ctr id with
 | some c=>match takes c.as (thawVs rk l),takeRefs rk bk c.cs cap with
  | some (x,l'),some y=>match takeFs C rk bk c.fs l' with
   | some F=>some (.call c.r.T c.r.dflt (guardB (liveR rk (callU bk l cap)) (c.m x F y)) (retS c.r) (fun _=>callEff (callU bk l cap) c.r.flat) (effNone (callEff (callU bk l cap) c.r.flat)))
   | none=>none
  | _,_=>none
 | none=>none
def takePtr (bk:Nat→Option (List At)) (rk:Rk) (s:Sh):SV→Option (s.T×List Nat)
 | .c false [.ptr b 0]=>match bk b with
  | some l=>match wholeL s (thawL rk l) with
   | some x=>some (x,rowsL l)
   | none=>none
  | none=>none
 | .c false [.rf s' x 0]=>match Sh.eq? s' s with
  | some ⟨h⟩=>some (h ▸ x,[])
  | none=>none
 | _=>none
def callKp (C:Ctx) (bk:Nat→Option (List At)) (rk:Rk) (id:FuncId) (cap:List (Nat×Nat)) (l:List SV):Option Cor:=match C.pctr id,cap,l with
 | some c,[],v ::l=>match takePtr bk rk c.s v,takes c.as (thawVs rk l),c.r.flat with
  | some (x,u),some (y,[]),true=>some (.call c.r.T c.r.dflt (guardB (liveR rk (u++rowsVs l)) (c.m x y)) (retS c.r) (fun _=>.none) true)
  | _,_,_=>none
 | _,_,_=>none
def callKm (C:Ctx) (bk:Nat→Option (List At)) (id:FuncId) (cap:List (Nat×Nat)) (l:List SV):Option Cor:=match C.mctr id,cap,l with
 | some c,[],.c false [.ptr b 0] ::l=>match bk b with
  | some cs=>match wholeL c.s cs,takes c.as l,c.s.flat&&c.r.flat with
   | some x,some (y,[]),true=>some (.call (c.s.T×c.r.T) (c.s.dflt,c.r.dflt) (c.m x y) (fun t=>retS c.r t.2) (fun t=>.store b (c.s.cells t.1)) false)
   | _,_,_=>none
  | none=>none
 | _,_,_=>none
def callK (C:Ctx) (bk:Nat→Option (List At)) (rk:Rk) (b:Nat) (id:FuncId) (cap:List (Nat×Nat)) (l:List SV):Option Cor:=match or3 (callKc C bk rk id cap l) (callKp C bk rk id cap l) (callKm C bk id cap l) with
 | some r=>some r
 | none=>match C.fctr id with
  | some c=>match cap,takes c.as l with
   | [],some (x,[])=>some (.call (FnT c.a c.r) (fun _=>none) (c.m x) (fun F=>.c false [.fn c.a c.r F]) (fun _=>.none) true)
   | _,_=>none
  | none=>match C.rctr id with
   | some c=>match cap with
    | []=>callR rk b l c
    | _=>none
   | none=>match C.inl id with
    | true=>some (.inl id (l++capS cap))
    | false=>none
def callC (C:Ctx) (get:Operand→Option SV) (bk:Nat→Option (List At)) (rk:Rk) (b:Nat) (f:Operand) (xs:Array Operand):Option Cor:=match get f with
 | some fv=>match fnOf fv,gets get xs.toList with
  | some (id,cap),some l=>callK C bk rk b id cap l
  | _,_=>none
 | none=>none
theorem thawVs_rel (hm:Mod N E a g) {rk:Rk} (hrk:∀i r,rk i=some r→g.r i=some r) {u:List Nat} (hlv:∀r ∈ u,liveOk rk r):∀{l:List SV} {vs:List Value},RelVs E l vs→(∀r ∈ rowsVs l,r ∈ u)→RelVs (E.zone g u) (thawVs rk l) vs
 | [],[],_,_=>trivial
 | _ ::_,_ ::_,h,hu=>⟨thawS_rel hm hrk hlv h.1 fun r hr=>hu r (List.mem_append_left _ hr),thawVs_rel hm hrk hlv h.2 fun r hr=>hu r (List.mem_append_right _ hr)⟩
 | [],_ ::_,h,_=>h.elim
 | _ ::_,[],h,_=>h.elim
theorem retV_zone {w:World} {Z Z':Nat→Prop} (hZ:∀b,Z b→Z' b) {r:RSh} {x:r.T} {v:Value} (h:RetV w Z r x v):RetV w Z' r x v:=by
 have one:∀{s:Sh} {x:s.T} {v:Value},DatV w Z s x v→DatV w Z' s x v:=fun ⟨cs,h1,h2,h3⟩=>⟨cs,Dat.mono hZ (fun _ _=>rfl) h1,h2,h3⟩
 cases r with
 | one s=>exact one h
 | tup l =>
  obtain ⟨vs,h1,h2⟩:=h
  refine ⟨vs,h1,?_⟩
  clear h1
  induction l generalizing vs with
  | nil=>exact h2
  | cons s r ih =>
   simp only[DatVs] at h2 ⊢
   obtain ⟨v,vs',h3,h4,h5⟩:=h2
   exact ⟨v,vs',h3,one h4,ih (x:=x.2) vs' h5⟩
theorem gets_rel {get:Operand→Option SV}:∀{xs:List Operand} {l:List SV},gets get xs=some l→(∀x ∈ xs,∀s,get x=some s→RelV E s (a.eval x))→RelVs E l (xs.map a.eval)
 | [],l,h,_=>by simp only[gets] at h;injection h with h;subst h;trivial
 | x ::r,l,h,hg=>by
  simp only[gets] at h
  split at h
  ·rename_i s l' hs hl
   injection h with h
   subst h
   exact ⟨hg x (by simp) s hs,gets_rel hl fun y hy=>hg y (by simp[hy])⟩
  ·cases h
theorem takes_rel:∀{as:List Sh} {l l':List SV} {x:TsS as} {vs:List Value},takes as l=some (x,l')→RelVs E l vs→∃vs1 vs2,vs=vs1++vs2∧DatVs E.w E.Z as x vs1∧RelVs E l' vs2
 | [],l,l',x,vs,h,hr=>by
  simp only[takes,Option.some.injEq,Prod.mk.injEq] at h
  obtain ⟨_,rfl⟩:=h
  exact ⟨[],vs,rfl,rfl,hr⟩
 | s ::r,v ::l,l',x,vs,h,hr=>by
  simp only[takes] at h
  split at h
  ·rename_i y z l'' hy hz
   simp only[Option.some.injEq,Prod.mk.injEq] at h
   obtain ⟨rfl,rfl⟩:=h
   match vs,hr with
   | u ::vs,hr =>
    obtain ⟨vs1,vs2,rfl,h1,h2⟩:=takes_rel hz hr.2
    exact ⟨u ::vs1,vs2,rfl,by simp only[DatVs];exact ⟨u,vs1,rfl,whole_rel hy hr.1,h1⟩,h2⟩
  ·cases h
 | _ ::_,[],_,_,_,h,_=>by cases h
theorem refV_of (hm:Mod N E a g) {bk:Nat→Option (List At)} (hbk:∀i l,bk i=some l→g.h i=some l) {rk:Rk} (hrk:∀i r,rk i=some r→g.r i=some r) {u:List Nat} (hlv:∀r ∈ u,liveOk rk r) {s:Sh} {i:Nat} {l:List At} {x:s.T} (hb:bk i=some l) (hx:wholeL s (thawL rk l)=some x)
  (hu:∀r ∈ rowsL l,r ∈ u) {w':World} {Z':Nat→Prop} (hw:Below E.w.heap.size E.w w') (hZ:∀b,E.zp g u b→Z' b):RefV w' Z' s x (ptrV E.β (i,0)):=by
 obtain ⟨_,cs,t,hh,hr0,_⟩:=hm.blks i l (hbk i l hb)
 have hr:=thawL_rel hm hrk (u:=u) hlv hr0 hu
 unfold wholeL at hx
 split at hx
 ·rename_i y hy
  injection hx with hx
  subst hx
  obtain ⟨c1,c2,rfl,hd,h2⟩:=take_rel hy hr
  match c2,h2 with
  | [],_ =>
   have hlt:=hm.blk_lt (hbk i l hb)
   rw[List.append_nil] at hh
   refine ⟨E.β i,c1,rfl,Nat.lt_of_lt_of_le hlt hw.size,Dat.mono hZ (fun b hb'=>hw.block b (zp_lt hm u b hb')) hd,fun j u hj=>?_⟩
   simp[World.cell?,hw.block _ hlt,hh,hj]
 ·cases hx
theorem rowsRefs_cons {bk:Nat→Option (List At)} {p:Nat×Nat} {l:List (Nat×Nat)} {b:List At} (h:bk p.1=some b):rowsRefs bk (p ::l)=rowsL b++rowsRefs bk l:=by simp[rowsRefs,h]
theorem takeRefs_rel (hm:Mod N E a g) {bk:Nat→Option (List At)} (hbk:∀i l,bk i=some l→g.h i=some l) {rk:Rk} (hrk:∀i r,rk i=some r→g.r i=some r) {u:List Nat} (hlv:∀r ∈ u,liveOk rk r) {w':World} {Z':Nat→Prop} (hw:Below E.w.heap.size E.w w') (hZ:∀b,E.zp g u b→Z' b) :
  ∀{cs:List Sh} {cap:List (Nat×Nat)} {y:TsS cs},takeRefs rk bk cs cap=some y→(∀r ∈ rowsRefs bk cap,r ∈ u)→RefVs w' Z' cs y (cap.map (ptrV E.β))
 | [],[],_,_,_=>rfl
 | s ::r,p ::l,y,h,hu=>by
  simp only[takeRefs] at h
  split at h
  ·rename_i b z h0 hb hz
   split at h
   ·rename_i x hx
    injection h with h
    subst h
    rw[rowsRefs_cons hb] at hu
    obtain ⟨i,off⟩:=p
    have h0:off=0:=by simpa using h0
    subst h0
    simp only[List.map_cons,RefVs]
    exact ⟨_,_,rfl,refV_of hm hbk hrk hlv hb hx (fun r hr=>hu r (List.mem_append_left _ hr)) hw hZ,takeRefs_rel hm hbk hrk hlv hw hZ hz fun r hr=>hu r (List.mem_append_right _ hr)⟩
   ·cases h
  ·cases h
 | [],_ ::_,_,h,_=>by cases h
 | _ ::_,[],_,h,_=>by cases h
theorem fnOf_rel {v:SV} {id:FuncId} {cap:List (Nat×Nat)} {y:Value} (h:fnOf v=some (id,cap)) (hv:RelV E v y):y=.func (.func id) #[] (cap.map (ptrV E.β)).toArray:=by
 unfold fnOf at h
 split at h
 ·simp only[Option.some.injEq,Prod.mk.injEq] at h
  obtain ⟨rfl,rfl⟩:=h
  exact toV_rel rfl hv
 ·simp only[Option.some.injEq,Prod.mk.injEq] at h
  obtain ⟨rfl,rfl⟩:=h
  obtain ⟨cs,rfl,hr,_⟩:=hv
  match cs,hr with
  | [z],hr=>rw[hr.1.1];rfl
 ·cases h
theorem takeP_rel (hm:Mod N E a g) {u:List Nat} {as:List Sh} {r:Sh} {v:SV} {F:FnT as r} {y:Value} (h:takeP as r v=some F) (hv:RelV (E.zone g u) v y):FnV E.P E.w (E.zp g u) as r F y:=by
 unfold takeP at h
 split at h
 ·rename_i a' r' F'
  split at h
  ·rename_i h1 h2 _ _
   subst h1;subst h2
   injection h with h
   subst h
   obtain ⟨cs,rfl,hr,_⟩:=hv
   match cs,hr with
   | [z],hr =>
    obtain ⟨id,cap,hz,hcall,hfn⟩:=hr.1
    refine ⟨id,cap,hz,hcall,fun w' Z' x y vals hw hZ=>hfn w' Z' x y vals ⟨hm.glob.below.trans (hw.mono hm.glob.below.size),fun ad q hz hc=>?_⟩ fun b hb=>hZ b hb⟩
    rw[←hc]
    exact World.cell?_of_block (hw.block _ (zp_lt hm u _ hz))
  ·cases h
 ·cases h
theorem takeG_rel {C:Ctx} (hC:C.ok) (hm:Mod N E a g) {bk:Nat→Option (List At)} (hbk:∀i l,bk i=some l→g.h i=some l) {rk:Rk} (hrk:∀i r,rk i=some r→g.r i=some r) {u:List Nat} (hlv:∀r ∈ u,liveOk rk r) {as:List Sh} {r:Sh} {v:SV} {F:FnT as r} {y:Value}
  (h:takeG C rk bk as r v=some F) (hu:∀q ∈ rowsFn bk v,q ∈ u) (hv:RelV (E.zone g u) v y):FnV C.P E.w (E.zp g u) as r F y:=by
 unfold takeG at h
 split at h
 ·rename_i id cap hf
  split at h
  ·rename_i c hc
   split at h
   ·rename_i z hz
    obtain ⟨hcall,hok⟩:=hC.ctr id c hc
    refine ⟨id,_,fnOf_rel (E:=E.zone g u) hf hv,hcall,fun w' Z' x y vals hw hZ hZb hd hv'=>?_⟩
    have hrefs:=takeRefs_rel hm hbk hrk (u:=u) hlv hw hZ hz (by simpa [rowsFn,hf] using hu)
    obtain ⟨as',fs',cs',r',m⟩:=c
    unfold Ctr.asFn at h
    split at h
    ·rename_i as2 cs2 r2 m2 _ y2 heq1 heq2
     injection heq1 with e1 e2 e3 e4 e6
     subst e1;subst e2;subst e3;subst e4
     cases e6;cases heq2
     split at h
     ·rename_i h1 h2 _ _
      subst h1;subst h2
      injection h with h
      subst h
      have:=hok x () y2 y hd w' Z' vals [] _ hZb hv' rfl hrefs
      simpa [RetV,Env.zone] using this
     ·cases h
    ·cases h
   ·cases h
  ·cases h
 ·cases h
theorem takeF_rel {C:Ctx} (hC:C.ok) (hP:E.P=C.P) (hm:Mod N E a g) {bk:Nat→Option (List At)} (hbk:∀i l,bk i=some l→g.h i=some l) {rk:Rk} (hrk:∀i r,rk i=some r→g.r i=some r) {u:List Nat} (hlv:∀r ∈ u,liveOk rk r) {as:List Sh} {r:Sh} {v:SV} {F:FnT as r} {y:Value}
  (h:takeF C rk bk as r v=some F) (hu:∀q ∈ rowsFn bk v,q ∈ u) (hv:RelV (E.zone g u) v y):FnV C.P E.w (E.zp g u) as r F y:=by
 unfold takeF at h
 split at h
 ·rename_i F' hF
  injection h with h
  subst h
  rw[←hP]
  exact takeP_rel hm hF hv
 ·exact takeG_rel hC hm hbk hrk hlv h hu hv
theorem takeFs_rel {C:Ctx} (hC:C.ok) (hP:E.P=C.P) (hm:Mod N E a g) {bk:Nat→Option (List At)} (hbk:∀i l,bk i=some l→g.h i=some l) {rk:Rk} (hrk:∀i r,rk i=some r→g.r i=some r) {u:List Nat} (hlv:∀r ∈ u,liveOk rk r) :
  ∀{fs:List (List Sh×Sh)} {l:List SV} {F:TsF fs} {vs:List Value},takeFs C rk bk fs l=some F→(∀q ∈ rowsFns bk l,q ∈ u)→RelVs (E.zone g u) l vs→FnVs C.P E.w (E.zp g u) fs F vs
 | [],[],_,vs,_,_,hr=>by
  match vs,hr with
  | [],_=>rfl
 | f ::r,v ::l,F,vs,h,hu,hr=>by
  simp only[takeFs] at h
  split at h
  ·rename_i x y hx hy
   injection h with h
   subst h
   match vs,hr with
   | w ::vs,hr =>
    simp only[FnVs]
    exact ⟨w,vs,rfl,takeF_rel hC hP hm hbk hrk hlv hx (fun q hq=>hu q (List.mem_append_left _ hq)) hr.1,takeFs_rel hC hP hm hbk hrk hlv hy (fun q hq=>hu q (List.mem_append_right _ hq)) hr.2⟩
  ·cases h
 | [],_ ::_,_,_,h,_,_=>by cases h
 | _ ::_,[],_,_,h,_,_=>by cases h
theorem takes_drop:∀{as:List Sh} {l l':List SV} {x:TsS as},takes as l=some (x,l')→∃k,l'=l.drop k
 | [],l,l',x,h=>by
  simp only[takes,Option.some.injEq,Prod.mk.injEq] at h
  exact ⟨0,h.2.symm⟩
 | s ::r,v ::l,l',x,h=>by
  simp only[takes] at h
  split at h
  ·rename_i y z l'' hy hz
   simp only[Option.some.injEq,Prod.mk.injEq] at h
   obtain ⟨_,rfl⟩:=h
   obtain ⟨k,hk⟩:=takes_drop hz
   exact ⟨k+1,hk⟩
  ·cases h
 | _ ::_,[],_,_,h=>by cases h
theorem rowsFns_drop {bk:Nat→Option (List At)}:∀{l:List SV} {k q:Nat},q ∈ rowsFns bk (l.drop k)→q ∈ rowsFns bk l
 | [],k,q,h=>by simpa using h
 | _ ::_,0,_,h=>h
 | _ ::l,k+1,q,h=>List.mem_append_right _ (rowsFns_drop (l:=l) (k:=k) h)
theorem fnOf_thaw {rk:Rk} {v:SV}:fnOf (thawS rk v)=fnOf v:=by
 cases v with
 | tup l=>rfl
 | c ag l =>
  cases ag with
  | true=>simp[thawS,fnOf]
  | false =>
   match l with
   | []=>rfl
   | [x] =>
    simp only[thawS,thawL]
    cases x<;>first | rfl | (simp only[thawA];split<;>rfl)
   | _ ::_ ::_=>simp[thawS,thawL,fnOf]
theorem rowsFns_thaw {rk:Rk} {bk:Nat→Option (List At)}:∀{l:List SV},rowsFns bk (thawVs rk l)=rowsFns bk l
 | []=>rfl
 | v ::l=>by simp[thawVs,rowsFns,rowsFn,fnOf_thaw,rowsFns_thaw (l:=l)]
theorem capS_rel:∀{cap:List (Nat×Nat)},(∀p ∈ cap,E.L p.1)→RelVs E (capS cap) (cap.map (ptrV E.β))
 | [],_=>trivial
 | p ::l,h=>⟨⟨[_],rfl,⟨⟨rfl,h p (by simp)⟩,trivial⟩,fun _=>rfl⟩,capS_rel fun q hq=>h q (by simp[hq])⟩
theorem relVs_append:∀{l m:List SV} {vs us:List Value},RelVs E l vs→RelVs E m us→RelVs E (l++m) (vs++us)
 | [],_,[],_,_,h=>h
 | _ ::_,_,_ ::_,_,h,h'=>⟨h.1,relVs_append h.2 h'⟩
 | [],_,_ ::_,_,h,_=>h.elim
 | _ ::_,_,[],_,h,_=>h.elim
theorem fnOf_cap {v:SV} {id:FuncId} {cap:List (Nat×Nat)} {y:Value} (h:fnOf v=some (id,cap)) (hv:RelV E v y):∀p ∈ cap,E.L p.1:=by
 unfold fnOf at h
 split at h
 ·simp only[Option.some.injEq,Prod.mk.injEq] at h
  obtain ⟨rfl,rfl⟩:=h
  intro p hp;cases hp
 ·simp only[Option.some.injEq,Prod.mk.injEq] at h
  obtain ⟨rfl,rfl⟩:=h
  obtain ⟨cs,rfl,hr,_⟩:=hv
  match cs,hr with
  | [z],hr=>exact hr.1.2
 ·cases h
theorem takePtr_rel (hm:Mod N E a g) {bk:Nat→Option (List At)} (hbk:∀i l,bk i=some l→g.h i=some l) {rk:Rk} (hrk:∀i r,rk i=some r→g.r i=some r) {u:List Nat} (hlv:∀r ∈ u,liveOk rk r) {s:Sh} {v:SV} {x:s.T} {u1:List Nat} {y:Value} (h:takePtr bk rk s v=some (x,u1)) (hu:∀r ∈ u1,r ∈ u) (hv:RelV E v y):RefW E.w (E.zp g u) s x y:=by
 unfold takePtr at h
 split at h
 ·rename_i b
  split at h
  ·rename_i l hb
   split at h
   ·rename_i x' hx
    simp only[Option.some.injEq,Prod.mk.injEq] at h
    obtain ⟨rfl,rfl⟩:=h
    obtain ⟨q,cs,h1,h2,h3,h4⟩:=refV_of hm hbk hrk hlv hb hx hu (Below.refl _ _) (Z':=E.zp g u) fun _ h=>h
    obtain ⟨cs0,rfl,hr,_⟩:=hv
    match cs0,hr with
    | [z],hr =>
    obtain ⟨⟨g1,g2⟩,_⟩:=hr
    refine ⟨⟨q,0,none⟩,cs,?_,h2,h3,fun j u hj=>by rw[add_lit,Nat.zero_add];exact h4 j u hj⟩
    rw[g1,←h1];rfl
   ·cases h
  ·cases h
 ·rename_i s' x'
  split at h
  ·rename_i e _
   subst e
   simp only[Option.some.injEq,Prod.mk.injEq] at h
   obtain ⟨rfl,rfl⟩:=h
   obtain ⟨cs0,rfl,hr,_⟩:=hv
   match cs0,hr with
   | [z],hr =>
   have hr1:=hr.1
   obtain ⟨ad,cs,g1,g2,g3,g4⟩:=hr1
   refine ⟨ad,cs,by rw[g1];rfl,?_,Dat.mono (fun _ h=>.inl h) (fun _ _=>rfl) g3,g4⟩
   rcases g2 with h | h
   ·exact hm.glob.zlt _ h
   ·exact Nat.lt_of_lt_of_le h hm.glob.below.size
  ·cases h
 ·cases h
theorem callKp_ok {C:Ctx} (hC:C.ok) (hP:E.P=C.P) {bk:Nat→Option (List At)} {rk:Rk} {id:FuncId} {cap:List (Nat×Nat)} {l:List SV} {f:Operand} {xs:Array Operand} {ts:Array TypeId} {r:Cor} (ho:o.op=.call { callee:=.value f,args:=xs,argTypes:=ts })
  (h:callKp C bk rk id cap l=some r) (hfe:a.eval f=.func (.func id) #[] (cap.map (ptrV E.β)).toArray) (_:∀p ∈ cap,E.L p.1) (hl:RelVs E l (xs.toList.map a.eval)) (hm:Mod N E a g) (hbk:∀i l,bk i=some l→g.h i=some l) (hrk:∀i r,rk i=some r→g.r i=some r):CorOk C.P N g E a o r:=by
 unfold callKp at h
 split at h
 case h_2=>cases h
 rename_i c v l hc _
 split at h
 case h_2=>cases h
 rename_i x u y hx hy hfl
 injection h with h
 subst h
 refine ⟨fun _ _=>rfl,fun z hz=>?_⟩
 obtain ⟨hlv0,hz⟩:=guardB_some hz
 have hlv:=liveR_ok hlv0
 obtain ⟨hcall,hok⟩:=hC.pctr id c hc
 cases hxs:xs.toList.map a.eval with
 | nil=>rw[hxs] at hl;exact hl.elim
 | cons v0 vs0 =>
  rw[hxs] at hl
  have hl':=thawVs_rel hm hrk (u:=u++rowsVs l) hlv hl.2 fun r hr=>List.mem_append_right _ hr
  obtain ⟨vs1,vs2,e,h1,h2⟩:=takes_rel hy hl'
  match vs2,h2 with
  | [],_ =>
  rw[List.append_nil] at e
  subst e
  have h3:=takePtr_rel hm hbk hrk hlv hx (fun r hr=>List.mem_append_left _ hr) hl.1
  have:=hok x y z hz E.w (E.zp g (u++rowsVs l)) v0 vs0 (zp_lt hm _) h3 h1
  refine call_ok (cap:=#[]) ho (by rw[hfe];rfl) hcall hm ?_
  have e2:xs.map a.eval++#[]=(v0 ::vs0).toArray:=by rw[←hxs];simp[←Array.toList_map]
  rw[e2]
  refine this.mono fun e w' he=>?_
  obtain ⟨w1,rfl,g1,g2⟩:=he
  exact ⟨w1,rfl,RetV.flat hfl g1,g2⟩
theorem callKm_ok {C:Ctx} (hC:C.ok) (hP:E.P=C.P) {bk:Nat→Option (List At)} {id:FuncId} {cap:List (Nat×Nat)} {l:List SV} {f:Operand} {xs:Array Operand} {ts:Array TypeId} {r:Cor} (ho:o.op=.call { callee:=.value f,args:=xs,argTypes:=ts })
  (h:callKm C bk id cap l=some r) (hfe:a.eval f=.func (.func id) #[] (cap.map (ptrV E.β)).toArray) (_:∀p ∈ cap,E.L p.1) (hl:RelVs E l (xs.toList.map a.eval)) (hm:Mod N E a g) (hbk:∀i l,bk i=some l→g.h i=some l):CorOk C.P N g E a o r:=by
 unfold callKm at h
 split at h
 case h_2=>cases h
 rename_i c b l hc _
 split at h
 case h_2=>cases h
 rename_i cs hb
 split at h
 case h_2=>cases h
 rename_i x y hx hy hfl
 simp only[Bool.and_eq_true] at hfl
 injection h with h
 subst h
 refine ⟨fun e=>(by cases e),fun z hz=>?_⟩
 obtain ⟨hcall,hok⟩:=hC.mctr id c hc
 cases hxs:xs.toList.map a.eval with
 | nil=>rw[hxs] at hl;exact hl.elim
 | cons v0 vs0 =>
  rw[hxs] at hl
  obtain ⟨vs1,vs2,e,h1,h2⟩:=takes_rel hy hl.2
  match vs2,h2 with
  | [],_ =>
  rw[List.append_nil] at e
  subst e
  have hgb:=hbk _ _ hb
  obtain ⟨hLb,cs0,t,hh,hr0,hone⟩:=hm.blks b cs hgb
  obtain ⟨hw0,hnz⟩:=hm.glob.own b cs hgb
  have hblt:=hm.blk_lt hgb
  unfold wholeL at hx
  split at hx
  case h_2=>cases hx
  rename_i x' hx'
  injection hx with hx
  subst hx
  obtain ⟨c1,c2,rfl,hd,hc2⟩:=take_rel hx' hr0
  match c2,hc2 with
  | [],_ =>
  rw[List.append_nil] at hh hone
  obtain ⟨cs1,hv0,hr1,_⟩:=hl.1
  match cs1,hr1 with
  | [z0],hr1 =>
  have hv0:v0=.pointer (some ⟨E.β b,0,none⟩):=by rw[hv0,hr1.1.1];rfl
  subst hv0
  have:=hok x' y z hz E.w E.Z (E.β b) c1 t vs0 hm.glob.zlt hnz hh hd hone h1
  intro K Q hK
  unfold Oper.wp
  have hrun:(execOp a.eval o).run C.P E.w=.ok (.enter id (xs.map a.eval)) E.w:=by
   simp only[execOp,ho,resolve,hfe,Deferred.ofValue,pure_bind,invoke,Array.empty_append]
   simpa using run_callFunc hcall (xs.map a.eval) E.w
  rw[hrun]
  rw[show xs.map a.eval=(xs.toList.map a.eval).toArray by simp[←Array.toList_map],hxs]
  refine this.mono fun e w' he=>?_
  obtain ⟨u,cs',Z',t',rfl,k1,k2,k3,k4,k5,k6,k7,k8,k9,k10⟩:=he
  let E':Env:={ E with w:=w' }
  have hX:Free E fun k=>k=E.β b:=fun k hk=>by subst hk;exact ⟨hnz,hw0⟩
  have hx1:Ext (fun k=>k=E.β b) E E':=⟨rfl,rfl,rfl,rfl,fun _ h=>h,fun k h1 h2=>k10 k h1 h2,fun _ _=>rfl,fun _ h=>h,fun _ _=>rfl,fun _ h=>h,Env.same_x⟩
  have hkeep:=hx1.keep hm.glob hX
  have hold:∀i l,(g.app (.store b (c.s.cells z.1))).h i=some l→∃l',g.h i=some l':=fun i l hi=>by
   simp only[Look.app,Look.setH] at hi
   split at hi
   ·rename_i e;rw[e];exact ⟨_,hgb⟩
   ·exact ⟨l,hi⟩
  have hbelow:Below E.w0.heap.size E.w0 w':=by
   have hb0:=hm.glob.below
   exact ⟨k6.trans hb0.os,k7.trans hb0.tape,k8.trans hb0.output,Nat.le_trans hb0.size k9,fun k hk=>(k10 k (Nat.lt_of_lt_of_le hk hb0.size) (by omega)).trans (hb0.block k hk)⟩
  have hglob:Glob E' (g.app (.store b (c.s.cells z.1))):=by
   have G:=hm.glob
   refine ⟨hbelow,fun k hk=>Nat.lt_of_lt_of_le (G.zlt k hk) k9,G.z0,G.zfrom,fun k hk=>?_,G.rlive,fun i l hi=>?_,fun i j l l' hi hj hij=>?_,fun i r k hi hk=>?_,G.rinj,⟨fun i x k hi hk=>?_,G.xg.inj⟩⟩
   ·simp only[Look.app,Look.setH]
    split
    ·rfl
    ·exact G.live k hk
   ·obtain ⟨l',hl'⟩:=hold i l hi
    exact G.own i l' hl'
   ·obtain ⟨l1,hl1⟩:=hold i l hi
    obtain ⟨l2,hl2⟩:=hold j l' hj
    exact G.inj i j l1 l2 hl1 hl2 hij
   ·obtain ⟨h1,h2⟩:=G.rown i r k hi hk
    exact ⟨h1,fun j l hj=>by obtain ⟨l',hl'⟩:=hold j l hj;exact h2 j l' hl'⟩
   ·obtain ⟨g1,g2,g3,g4,g5⟩:=G.xg.own i x k hi hk
    exact ⟨g1,Nat.lt_of_lt_of_le g2 k9,g3,fun j l hj=>by obtain ⟨l',hl'⟩:=hold j l hj;exact g4 j l' hl',g5⟩
  have hmod:Mod N E' a (g.app (.store b (c.s.cells z.1))):=by
   refine hm.move hX hx1 hglob rfl hm.size (fun i s h=>.inl ⟨h,rfl⟩) (fun i l hi=>?_) (fun i r h=>.inl ⟨h,fun k hk e=>?_⟩) (fun i x h=>.inl ⟨h,rfl,fun k hk e=>?_⟩)
   ·simp only[Look.app,Look.setH] at hi
    split at hi
    ·rename_i e
     injection hi with hi
     subst hi
     subst e
     exact .inr ⟨hLb,cs',t',k2,(Dat.flat hfl.1 k3:Dat E'.w E'.Z c.s z.1 cs').rel,k5⟩
    ·rename_i e
     exact .inl ⟨hi,fun e'=>e (hm.glob.inj i b l cs hi hgb e')⟩
   ·subst e
    exact (hm.glob.rown i r _ h hk).2 b cs hgb rfl
   ·subst e
    exact (hm.glob.xg.own i x _ h hk).2.2.2.1 b cs hgb rfl
  exact hK E' u rfl hkeep hmod (retV_rel (E:=E') (RetV.flat hfl.2 k1))
theorem callC_ok {C:Ctx} (hC:C.ok) (hP:E.P=C.P) {get:Operand→Option SV} {bk:Nat→Option (List At)} {rk:Rk} {b:Nat} {f:Operand} {xs:Array Operand} {ts:Array TypeId} {r:Cor} (ho:o.op=.call { callee:=.value f,args:=xs,argTypes:=ts })
  (h:callC C get bk rk b f xs=some r) (hg:Gets E a get o) (hm:Mod N E a g) (hbk:∀i l,bk i=some l→g.h i=some l) (hrk:∀i r,rk i=some r→g.r i=some r) (hrb:rk b=none→g.r b=none):CorOk C.P N g E a o r:=by
 unfold callC at h
 split at h
 ·rename_i fv hfv
  split at h
  ·rename_i id cap l hf hl
   have hfe:=fnOf_rel hf (hg f fv (by rw[ho];simp[Op.operands,Call.operands]) hfv)
   have hcl:=fnOf_cap hf (hg f fv (by rw[ho];simp[Op.operands,Call.operands]) hfv)
   have hl0:=gets_rel hl fun x hx s hs=>hg x s (by rw[ho];simp only[Op.operands,Call.operands];rw[Array.mem_append];right;exact Array.mem_toList_iff.1 hx) hs
   unfold callK at h
   split at h
   ·rename_i r' hr'
    injection h with h
    subst h
    rcases or3_cases hr' with hr' | hr' | hr'
    rotate_left
    ·exact callKp_ok hC hP ho hr' hfe hcl hl0 hm hbk hrk
    ·exact callKm_ok hC hP ho hr' hfe hcl hl0 hm hbk
    unfold callKc at hr'
    split at hr'
    case h_2=>cases hr'
    rename_i c hc
    split at hr'
    ·rename_i x l' y hx hy
     split at hr'
     ·rename_i F hF
      injection hr' with hr'
      subst hr'
      refine ⟨fun hpu _=>(by cases hh:callEff (callU bk l cap) c.r.flat<;>rw[hh] at hpu<;>first | rfl | cases hpu),?_⟩
      intro z hz
      obtain ⟨hlv0,hz⟩:=guardB_some hz
      have hlv:=liveR_ok hlv0
      obtain ⟨hcall,hok⟩:=hC.ctr id c hc
      have hl':=thawVs_rel hm hrk (u:=callU bk l cap) hlv hl0 fun r hr=>List.mem_append_left _ hr
      obtain ⟨hmz,hkz⟩:=zone_mod hm (callU bk l cap)
      obtain ⟨vs1,vs2,e,h1,h2⟩:=takes_rel hx hl'
      have hfu:∀q ∈ rowsFns bk l',q ∈ callU bk l cap:=fun q hq=>by
       obtain ⟨k,hk⟩:=takes_drop hx
       rw[hk] at hq
       have:=rowsFns_drop hq
       rw[rowsFns_thaw] at this
       exact List.mem_append_right _ (List.mem_append_right _ this)
      have h3:FnVs C.P E.w (E.zp g (callU bk l cap)) c.fs F vs2:=takeFs_rel hC hP hm hbk hrk hlv hF hfu h2
      have h4:=takeRefs_rel hm hbk hrk (u:=callU bk l cap) hlv (Below.refl _ _) (Z':=E.zp g (callU bk l cap)) (fun _ h=>h) hy fun q hq=>List.mem_append_right _ (List.mem_append_left _ hq)
      have:=hok x F y z hz E.w (E.zp g (callU bk l cap)) vs1 vs2 _ (zp_lt hm _) h1 h3 h4
      rw[←e] at this
      have e2:xs.map a.eval++(cap.map (ptrV E.β)).toArray=(xs.toList.map a.eval++cap.map (ptrV E.β)).toArray:=by
       rw[←List.append_toArray]
       simp[←Array.toList_map]
      rw[←e2] at this
      intro K Q hK
      unfold Oper.wp
      have hrun:(execOp a.eval o).run C.P E.w=.ok (.enter id (xs.map a.eval++(cap.map (ptrV E.β)).toArray)) E.w:=by
       simp only[execOp,ho,resolve,hfe,Deferred.ofValue,pure_bind,invoke,Array.empty_append]
       exact run_callFunc hcall _ _
      rw[hrun]
      refine this.mono fun e w' he=>?_
      obtain ⟨v,rfl,g1,g2⟩:=he
      have keep:∀(hz:∀b,E.zp g (callU bk l cap) b→E.Z b),callEff (callU bk l cap) c.r.flat=.none→K (a.put o.dst v) w':=fun hz he=>by
       refine hK (E.dat w') v rfl (dat_keep hm g2) (by show Mod N _ a (g.app (callEff _ _));rw[he];exact dat_mod hm g2) (retV_rel (E:=E.dat w') (retV_zone (fun b hb=>?_) g1))
       exact hb.imp (hz b) fun h=>h
      cases hu:callU bk l cap with
      | nil =>
       refine keep (fun b hb=>?_) (by rw[hu];rfl)
       rw[hu] at hb
       rcases hb with hb | ⟨r,hr,_⟩
       ·exact hb
       ·cases hr
      | cons q u =>
       cases hfl:c.r.flat with
       | true =>
        have he:callEff (callU bk l cap) c.r.flat=.none:=by rw[hu,hfl];rfl
        exact hK (E.dat w') v rfl (dat_keep hm g2) (by show Mod N _ a (g.app (callEff _ _));rw[he];exact dat_mod hm g2) (retV_rel (E:=E.dat w') (RetV.flat hfl g1))
       | false =>
        have he:callEff (callU bk l cap) c.r.flat=.rkill (callU bk l cap):=by rw[hu,hfl];rfl
        exact hK ((E.zone g (callU bk l cap)).dat w') v rfl (hkz.trans (dat_keep hmz g2)) (by show Mod N _ a (g.app (callEff _ _));rw[he];exact dat_mod hmz g2) (retV_rel (E:=(E.zone g (callU bk l cap)).dat w') g1)
     ·cases hr'
    ·cases hr'
   rename_i hkc
   clear hkc
   split at h
   ·rename_i c hc
    obtain ⟨hcall,hok⟩:=hC.fctr id c hc
    split at h
    case h_2=>cases h
    rename_i x hx
    injection h with h
    subst h
    refine ⟨fun _ _=>rfl,fun F hF=>?_⟩
    obtain ⟨vs1,vs2,e,h1,h2⟩:=takes_rel hx hl0
    match vs2,h2 with
    | [],_ =>
    rw[List.append_nil] at e
    have:=hok x F hF E.w E.Z vs1 hm.glob.zlt h1
    rw[←e] at this
    intro K Q hK
    unfold Oper.wp
    have hrun:(execOp a.eval o).run C.P E.w=.ok (.enter id (xs.map a.eval)) E.w:=by
     simp only[execOp,ho,resolve,hfe,Deferred.ofValue,pure_bind,invoke,Array.empty_append]
     simpa using run_callFunc hcall (xs.map a.eval) E.w
    rw[hrun]
    rw[show xs.map a.eval=(xs.toList.map a.eval).toArray by simp[←Array.toList_map]]
    refine this.mono fun e' w' he=>?_
    obtain ⟨v,Z',rfl,z1,⟨gf,gc,g1,g2,g3⟩,hb⟩:=he
    refine hK (E.dat w') v rfl (dat_keep hm hb) (dat_mod hm hb) ⟨[v],rfl,⟨⟨gf,gc,g1,by rw[show (E.dat w').P=C.P from hP];exact g2,fun w2 Z2 x2 y2 vals2 hA hZ=>?_⟩,trivial⟩,fun _=>rfl⟩
    rw[show (E.dat w').P=C.P from hP]
    exact g3 w2 Z2 x2 y2 vals2 (fun ad u hz hc=>hA.2 ad u (z1 _ hz) hc) fun b hb=>hZ b (z1 b hb)
   ·split at h
    ·rename_i c hc
     obtain ⟨hcall,hok⟩:=hC.rctr id c hc
     split at h
     case h_2=>cases h
     unfold callR at h
     split at h
     ·rename_i x hx hbn
      split at h
      ·rename_i hfl
       injection h with h
       subst h
       refine ⟨fun hpu=>(by cases hpu),fun z hz=>?_⟩
       obtain ⟨hlv0,hz⟩:=guardB_some hz
       have hlv:=liveR_ok hlv0
       have hl':=thawVs_rel hm hrk (u:=rowsVs l) hlv hl0 fun r hr=>hr
       obtain ⟨vs1,vs2,e,h1,h2⟩:=takes_rel hx hl'
       match vs2,h2 with
       | [],_ =>
       have:=hok x z hz E.w (E.zp g (rowsVs l)) vs1 (zp_lt hm _) h1
       rw[List.append_nil] at e
       rw[←e] at this
       intro K Q hK
       unfold Oper.wp
       have hrun:(execOp a.eval o).run C.P E.w=.ok (.enter id (xs.map a.eval)) E.w:=by
        simp only[execOp,ho,resolve,hfe,Deferred.ofValue,pure_bind,invoke,Array.empty_append]
        simpa using run_callFunc hcall (xs.map a.eval) E.w
       rw[hrun]
       rw[show xs.map a.eval=(xs.toList.map a.eval).toArray by simp[←Array.toList_map]]
       refine this.mono fun e' w' he=>?_
       obtain ⟨v,Z',rfl,z1,z2,z3,⟨ys,o1,o2⟩,hb⟩:=he
       have zone:∃Z2:Nat→Prop,(∀q,E.Z q→Z2 q)∧(∀q,Z2 q→E.Z q∨(E.w.heap.size≤q∧q<w'.heap.size))∧(∀q,v.ownBlock=some q→¬ Z2 q)∧RowRel w' Z2 c.e z ys:=by
        simp only[Bool.or_eq_true] at hfl
        rcases hfl with hfl | hfl
        ·refine ⟨E.Z,fun _ h=>h,fun _ h=>.inl h,fun q hq hz=>?_,RowRel.flat hfl o2⟩
         exact z3 q hq (z1 q (.inl hz))
        ·have hu:rowsVs l=[]:=by simpa using hfl
         refine ⟨Z',fun q hq=>z1 q (.inl hq),fun q hq=>?_,z3,o2⟩
         rcases z2 q hq with h | h
         ·rcases h with h | ⟨r,hr,_⟩
          ·exact .inl h
          ·rw[hu] at hr;cases hr
         ·exact .inr h
       obtain ⟨Z2,y1,y2,y3,y4⟩:=zone
       obtain ⟨m1,m2⟩:=newRow_mod hm (hrb hbn) hb y1 y2 y3 (ri:=⟨c.t,c.e,z.length,z⟩) ⟨ys,o1,y4,rfl⟩
       refine hK (E.made b v w' Z2) v rfl m2 m1 ⟨[v],rfl,⟨⟨?_,.inr rfl,ownsRow_oneCell o1⟩,trivial⟩,fun _=>rfl⟩
       show v=if b=b then v else _
       rw[if_pos rfl]
      ·cases h
     ·cases h
    split at h
    ·rename_i hin
     injection h with h
     subst h
     refine ⟨xs.map a.eval++(cap.map (ptrV E.β)).toArray,?_,?_⟩
     ·simp only[execOp,ho,resolve,hfe,Deferred.ofValue,pure_bind,invoke,Array.empty_append]
      exact run_callFunc (hC.inl id hin) _ _
     ·have:=relVs_append hl0 (capS_rel hcl)
      simpa using this
    ·cases h
  ·cases h
 ·cases h
end
end Dn
end Go.Proofs.YtmoiiokmfanlgaaGreat

namespace Go.Proofs.YtmoiiokmfanlgaaGreat
namespace Dn
open Go.RowKit
section
variable {N:Nat} {g:Look} {E:Env} {a:Act} {o:Oper}
def callF (get:Operand→Option SV) (f:Operand) (xs:Array Operand):Option Cor:=match get f with
 | some (.c false [.fn a r F])=>match gets get xs.toList with
  | some l=>match takes a l with
   | some (x,[])=>some (.call r.T r.dflt (F x) (retS (.one r)) (fun _=>.none) true)
   | _=>none
  | none=>none
 | _=>none
theorem callF_ok {get:Operand→Option SV} {f:Operand} {xs:Array Operand} {ts:Array TypeId} {r:Cor} (ho:o.op=.call { callee:=.value f,args:=xs,argTypes:=ts })
  (h:callF get f xs=some r) (hg:Gets E a get o) (hm:Mod N E a g):CorOk E.P N g E a o r:=by
 unfold callF at h
 split at h
 ·rename_i as rs F hf
  split at h
  ·rename_i l hl
   split at h
   ·rename_i x hx
    injection h with h
    subst h
    refine ⟨fun _ _=>rfl,?_⟩
    intro y hy
    obtain ⟨cs,hv,hr,_⟩:=hg f _ (by rw[ho];simp[Op.operands,Call.operands]) hf
    match cs,hr with
    | [z],hr =>
     obtain ⟨id,cap,hz,hcall,hfn⟩:=hr.1
     have hl':=gets_rel hl fun x hx s hs=>hg x s (by rw[ho];simp only[Op.operands,Call.operands];rw[Array.mem_append];right;exact Array.mem_toList_iff.1 hx) hs
     obtain ⟨vs1,vs2,e,h1,h2⟩:=takes_rel hx hl'
     match vs2,h2 with
     | [],_ =>
      rw[List.append_nil] at e
      refine call_ok (cap:=cap) ho (by rw[hv,hz];rfl) hcall hm ?_
      have:=hfn E.w E.Z x y vs1 ⟨hm.glob.below,fun _ _ _ h=>h⟩ (fun _ h=>h) hm.glob.zlt hy h1
      have e2:xs.map a.eval=vs1.toArray:=by rw[←e];simp[←Array.toList_map]
      rw[e2]
      exact this
   ·cases h
  ·cases h
 ·cases h
def callE (P:Program) (get:Operand→Option SV) (f:Operand) (xs:Array Operand):Option Core:=match get f with
 | some fv=>match fnOf fv with
  | some (id,[])=>carryC P get id xs
  | _=>none
 | none=>none
def callX (C:Ctx) (get:Operand→Option SV) (bk:Nat→Option (List At)) (rk:Rk) (b:Nat) (f:Operand) (xs:Array Operand):Option Cor:=match callF get f xs with
 | some r=>some r
 | none=>match callE C.P get f xs with
  | some r=>some (.one r)
  | none=>callC C get bk rk b f xs
def sameC (get:Operand→Option SV) (x:Operand):Option Core:=match get x with
 | some s=>some ⟨s,.none,[]⟩
 | none=>none
def extractC (get:Operand→Option SV) (x:Operand) (ix:Nat):Option Core:=match get x with
 | some (.tup l)=>match l[ix]? with
  | some c=>some ⟨.c c.1 c.2,.none,[]⟩
  | none=>none
 | _=>none
def loadC (P:Program) (get:Operand→Option SV) (bk:Nat→Option (List At)) (rk:Rk) (t:TypeId) (x:Operand):Option Core:=match get x with
 | some (.c false [.ptr i off])=>match bk i with
  | some l=>match partC P t l off with
   | some s=>some ⟨s,.none,[]⟩
   | none=>none
  | none=>none
 | some (.c false [.rf sh d off])=>match partC P t (Sh.cells sh d) off with
  | some s=>some ⟨s,.none,[]⟩
  | none=>none
 | some (.c false [.ae b off e n i d])=>match bk b with
  | some l=>match els e n (l.drop off) with
   | some xs=>match partC P t (e.cells (xs.getD i e.dflt)) d with
    | some s=>some ⟨s,.none,[Nat.blt i n]⟩
    | none=>none
   | none=>none
  | none=>none
 | some (.c false [.re r i sz off])=>match rk r with
  | some (.some ri)=>match Nat.beq sz ri.e.size,partC P t (ri.e.cells (ri.l.getD i ri.e.dflt)) off with
   | true,some s=>some ⟨s,.none,[Nat.blt i ri.n]⟩
   | _,_=>none
  | _=>none
 | _=>none
def storeC (P:Program) (get:Operand→Option SV) (bk:Nat→Option (List At)) (rk:Rk) (t:TypeId) (x y:Operand):Option Core:=match get x,get y with
 | some (.c false [.ptr i off]),some (.c _ l')=>match bk i,sizeT P t with
  | some l,some n=>match l'.all at1,Nat.beq l'.length n,Nat.ble (off+n) l.length with
   | true,true,true=>some ⟨.c false [.u],.store i (l.take off++l'++l.drop (off+l'.length)),[]⟩
   | _,_,_=>none
  | _,_=>none
 | some (.c false [.ae b off e n i d]),some (.c _ l')=>match bk b,sizeT P t with
  | some l,some m=>match els e n ((l.drop off).take (n*e.size)),l'.all at1,Nat.beq l'.length m,Nat.ble (d+m) e.size,Nat.ble (off+n*e.size) l.length with
   | some xs,true,true,true,true=>match e.take ((e.cells (xs.getD i e.dflt)).take d++l'++(e.cells (xs.getD i e.dflt)).drop (d+l'.length)) with
    | some (z,[])=>some ⟨.c false [.u],.store b (l.take off++cellsE e (setAt xs 0 i z)++l.drop (off+n*e.size)),[Nat.blt i n]⟩
    | _=>none
   | _,_,_,_,_=>none
  | _,_=>none
 | some (.c false [.re r i sz off]),some (.c _ l')=>match rk r,sizeT P t with
  | some (.some ri),some n=>match l'.all at1,Nat.beq l'.length n,Nat.ble (off+n) ri.e.size,Nat.beq sz ri.e.size,ri.e.take ((ri.e.cells (ri.l.getD i ri.e.dflt)).take off++l'++(ri.e.cells (ri.l.getD i ri.e.dflt)).drop (off+l'.length)) with
   | true,true,true,true,some (z,[])=>some ⟨.c false [.u],.rset r ri.e (ri.l.set i z),[Nat.blt i ri.n]⟩
   | _,_,_,_,_=>none
  | _,_=>none
 | _,_=>none
def allocC (P:Program) (bk:Nat→Option (List At)) (b:Nat) (t:TypeId):Option Core:=match zeroT P t,bk b with
 | some cs,none=>some ⟨.c false [.ptr b 0],.alloc b (cs.map .v),[]⟩
 | _,_=>none
def boxC (get:Operand→Option SV) (bk:Nat→Option (List At)) (b:Nat) (x:Operand):Option Core:=match get x,bk b with
 | some (.c _ l),none=>match l.all at1 with
  | true=>some ⟨.c false [.ptr b 0],.alloc b l,[]⟩
  | false=>none
 | _,_=>none
def fieldC (P:Program) (get:Operand→Option SV) (t:TypeId) (x:Operand) (f:Nat):Option Core:=match get x,fieldT P t f with
 | some (.c false [.ptr i off]),some d=>some ⟨.c false [.ptr i (off+d)],.none,[]⟩
 | some (.c false [.rf sh y off]),some d=>some ⟨.c false [.rf sh y (off+d)],.none,[]⟩
 | some (.c false [.re r i sz off]),some d=>some ⟨.c false [.re r i sz (off+d)],.none,[]⟩
 | some (.c false [.ae b off e n i d0]),some d=>some ⟨.c false [.ae b off e n i (d0+d)],.none,[]⟩
 | _,_=>none
def indexC (P:Program) (get:Operand→Option SV) (rk:Rk) (t:TypeId) (x y:Operand):Option Core:=match get x,get y,elemT P t with
 | some (.c false [.sl e l]),some (.c false [.v (.int _ i)]),some et=>match sizeT P et with
  | some n=>match Nat.beq n e.size with
   | true=>some ⟨.c false [.rf e (l.getD i.toNat e.dflt) 0],.none,[inB i l.length]⟩
   | false=>none
  | none=>none
 | some (.c false [.row r]),some (.c false [.v (.int _ i)]),some et=>match sizeT P et,rk r with
  | some n,some (.some ri)=>match Nat.beq n ri.e.size with
   | true=>some ⟨.c false [.re r i.toNat ri.e.size 0],.none,[inB i ri.n]⟩
   | false=>none
  | _,_=>none
 | _,_,_=>none
def indexArrC (C:Ctx) (get:Operand→Option SV) (t:TypeId) (x y:Operand):Option Core:=match arrT C.P t,get x,get y with
 | some (n,et),some (.c false [.ptr b off]),some (.c false [.v (.int _ i)])=>match C.sh et,sizeT C.P et with
  | some e,some m=>match Nat.beq m e.size with
   | true=>some ⟨.c false [.ae b off e n i.toNat 0],.none,[inB i n]⟩
   | false=>none
  | _,_=>none
 | some (n,et),some (.c false [.rf s d off]),some (.c false [.v (.int _ i)])=>match C.sh et,sizeT C.P et with
  | some e,some m=>match Nat.beq m e.size,els e n ((s.cells d).drop off) with
   | true,some xs=>some ⟨.c false [.rf e (xs.getD i.toNat e.dflt) 0],.none,[inB i n]⟩
   | _,_=>none
  | _,_=>none
 | some (n,et),some (.c false [.re r q sz off]),some (.c false [.v (.int _ i)])=>match sizeT C.P et with
  | some m=>some ⟨.c false [.re r q sz (off+i.toNat*m)],.none,[inB i n]⟩
  | none=>none
 | _,_,_=>none
def sliceC (P:Program) (get:Operand→Option SV) (t:TypeId) (x:Operand) (lo hi:Option Operand):Option Core:=match get x with
 | some (.c false [.sl e l])=>match elemT P t,bndC get 0 lo,bndC get l.length hi with
  | some et,some i,some j=>match sizeT P et with
   | some m=>match Nat.beq m e.size with
    | true=>some ⟨.c false [.sl e ((l.take j.toNat).drop i.toNat)],.none,[slB i j l.length]⟩
    | false=>none
   | none=>none
  | _,_,_=>none
 | some (.c false [.v (.string s)])=>match P.underlying t,bndC get 0 lo,bndC get s.size hi with
  | some .string,some i,some j=>some ⟨.c false [.v (.string (s.extract i.toNat j.toNat))],.none,[slB i j s.size]⟩
  | _,_,_=>none
 | _=>none
def unsn:SV→SV
 | .c false [.sn e l]=>.c false [.sl e l]
 | s=>s
def getU (get:Operand→Option SV) (x:Operand):Option SV:=match get x with
 | some s=>some (unsn s)
 | none=>none
theorem unsn_rel {s:SV} {v:Value} (h:RelV E s v):RelV E (unsn s) v:=by
 unfold unsn
 split
 ·obtain ⟨cs,h1,h2,h3⟩:=h
  match cs,h2 with
  | [z],h2=>exact ⟨[z],h1,⟨h2.1.2,trivial⟩,h3⟩
 ·exact h
theorem getU_gets {get:Operand→Option SV} (hg:Gets E a get o):Gets E a (getU get) o:=fun x s hx h=>by
 unfold getU at h
 split at h
 ·rename_i s' hs
  injection h with h
  subst h
  exact unsn_rel (hg x s' hx hs)
 ·cases h
def eqNilC (P:Program) (get:Operand→Option SV) (o:Oper):Option Core:=match o.op with
 | .binOp .eql t x (.const (.slice none 0 0)) _=>match get x,elemT P t with
  | some (.c false [.sn _ _]),some _=>some ⟨.c false [.v (.bool false)],.none,[]⟩
  | _,_=>none
 | .binOp .neq t x (.const (.slice none 0 0)) _=>match get x,elemT P t with
  | some (.c false [.sn _ _]),some _=>some ⟨.c false [.v (.bool true)],.none,[]⟩
  | _,_=>none
 | _=>none
def buildC (C:Ctx) (get:Operand→Option SV) (t:TypeId) (n:Nat) (ps:Array (Nat×Operand)):Option Core:=match elemT C.P t with
 | some et=>match C.sh et,sizeT C.P et,zeroT C.P et with
  | some e,some m,some _=>match Nat.beq m e.size,Nat.beq ps.size n,Nat.ble (n*e.size) 16777216,wholes e get 0 ps.toList with
   | true,true,true,some l=>some ⟨.c false [.sl e l],.none,[]⟩
   | _,_,_,_=>none
  | _,_,_=>none
 | none=>none
def build0C (C:Ctx) (get:Operand→Option SV) (rk:Rk) (b:Nat) (t:TypeId) (n:Nat) (ps:Array (Nat×Operand)):Option Core:=match n,ps.toList,rk b,elemT C.P t with
 | 0,[],none,some et=>match C.sh et,sizeT C.P et with
  | some e,some m=>match Nat.beq m e.size with
   | true=>some ⟨.c false [.row b],.row b ⟨et,e,0,[]⟩ none,[]⟩
   | false=>none
  | _,_=>none
 | _,_,_,_=>buildC C get t n ps
def getW (rk:Rk) (get:Operand→Option SV) (x:Operand):Option SV:=match get x with
 | some s=>some (thawS rk s)
 | none=>none
def rowsPs (get:Operand→Option SV):List (Nat×Operand)→List Nat
 | []=>[]
 | p ::r=>match get p.2 with
  | some s=>rowsS s++rowsPs get r
  | none=>rowsPs get r
def buildTC (C:Ctx) (get:Operand→Option SV) (rk:Rk) (t:TypeId) (n:Nat) (ps:Array (Nat×Operand)):Option Core:=match rowsPs get ps.toList with
 | []=>none
 | q ::u=>match buildC C (getW rk get) t n ps with
  | some ⟨sv,.none,p⟩=>some ⟨sv,.rkill (q ::u),liveR rk (q ::u)++p⟩
  | _=>none
def indexVC (C:Ctx) (get:Operand→Option SV) (t:TypeId) (x y:Operand):Option Core:=match get x,get y with
 | some (.c false [.v (.string s)]),some (.c false [.v (.int _ i)])=>match C.P.underlying t with
  | some .string=>some ⟨.c false [.v (.int .u8 (byteAt s i.toNat))],.none,[inB i s.size]⟩
  | _=>none
 | some (.c true l),some (.c false [.v (.int _ i)])=>match arrT C.P t with
  | some (n,et)=>match C.sh et with
   | some e=>match aggT C.P et,sizeT C.P et,els e n l with
    | some ag,some m,some xs=>match ag ==e.isAgg,Nat.beq m e.size,e.isAgg||Nat.beq e.size 1 with
     | true,true,true=>some ⟨.c e.isAgg (e.cells (xs.getD i.toNat e.dflt)),.none,[inB i n]⟩
     | _,_,_=>none
    | _,_,_=>none
   | none=>none
  | none=>none
 | _,_=>none
def fieldVC (P:Program) (get:Operand→Option SV) (t:TypeId) (x:Operand) (f:Nat):Option Core:=match get x,fieldTy P t f with
 | some (.c true l),some (ft,off)=>match partC P ft l off with
  | some s=>some ⟨s,.none,[]⟩
  | none=>none
 | _,_=>none
def orPure (P:Program) (get:Operand→Option SV) (o:Oper):Option Core→Option Core
 | some r=>some r
 | none=>pureC P get o
def lenC (P:Program) (get:Operand→Option SV) (rk:Rk) (xs:Array Operand) (ts:Array TypeId) (o:Oper):Option Core:=match xs.toList,ts[0]? with
 | [x],some t=>match get x,elemT P t with
  | some (.c false [.sl _ l]),some _=>some ⟨.c false [.v (.int .i64 l.length)],.none,[]⟩
  | some (.c false [.row r]),some _=>match rk r with
   | some (.some ri)=>some ⟨.c false [.v (.int .i64 ri.n)],.none,[]⟩
   | _=>none
  | _,_=>pureC P get o
 | _,_=>none
def metaOp (o:Oper):Bool:=match o.op with
 | .indexAddr ..=>true
 | .move _=>true
 | .assign _=>true
 | .extract ..=>true
 | .call ⟨.builtin .len,_,_⟩=>true
 | _=>false
def one?:Option Core→Option Cor
 | some r=>some (.one r)
 | none=>none
def evalCore (C:Ctx) (get:Operand→Option SV) (bk:Nat→Option (List At)) (rk:Rk) (b:Nat) (o:Oper):Option Core:=match o.op with
 | .move x=>sameC get x
 | .assign x=>sameC get x
 | .extract x ix=>extractC get x ix
 | .load t x=>loadC C.P get bk rk t x
 | .store t x y=>storeC C.P get bk rk t x y
 | .alloc t=>allocC C.P bk b t
 | .box _ x=>boxC get bk b x
 | .fieldAddr t x f=>fieldC C.P get t x f
 | .indexAddr t x y=>match indexArrC C get t x y with
  | some r=>some r
  | none=>indexC C.P get rk t x y
 | .slice t x lo hi none=>match sliceC C.P get t x lo hi with
  | some r=>some r
  | none=>match lo,isCut o.pos with
   | none,true=>cutC C.P get rk b t x hi
   | _,_=>sliceRC C.P get rk t x lo hi
 | .buildSlice t n ps=>match buildTC C get rk t n ps with
  | some r=>some r
  | none=>build0C C get rk b t n ps
 | .index t x y=>orPure C.P get o (indexVC C get t x y)
 | .field t x f=>orPure C.P get o (fieldVC C.P get t x f)
 | .build t ps=>orPure C.P get o (buildStC C.P get t ps)
 | .makeSlice t l c=>makeC C.sh C.P get rk b t l c
 | .binOp .quo _ _ _ _=>divC get o
 | .binOp .rem _ _ _ _=>divC get o
 | .binOp .shl _ _ _ _=>shiftC get o
 | .binOp .shr _ _ _ _=>shiftC get o
 | .binOp .eql _ _ _ _=>eqC C.P get o
 | .binOp .neq _ _ _ _=>eqC C.P get o
 | .makeFunc _ _ _=>funcC get o
 | .call ⟨.builtin .len,xs,ts⟩=>lenC C.P get rk xs ts o
 | .call ⟨.builtin .append,xs,ts⟩=>match appendZC C.sh C.P get rk b xs ts with
  | some r=>some r
  | none=>appendC C.P C.sh get rk b xs ts
 | .call ⟨.builtin .copy,xs,ts⟩=>copyC C.P get rk xs ts
 | _=>pureC C.P get o
def litP (C:Ctx) (get:Operand→Option SV) (t:TypeId) (n:Nat) (ps:Array (Nat×Operand)):Option RowI:=match elemT C.P t with
 | some et=>match C.sh et,sizeT C.P et,zeroT C.P et with
  | some e,some m,some _=>match Nat.beq m e.size,Nat.beq ps.size n,Nat.ble (n*e.size) 16777216,wholes e get 0 ps.toList with
   | true,true,true,some l=>some ⟨et,e,l.length,l⟩
   | _,_,_,_=>none
  | _,_,_=>none
 | none=>none
def litC (C:Ctx) (get:Operand→Option SV) (rk:Rk) (b:Nat) (t:TypeId) (n:Nat) (ps:Array (Nat×Operand)):Option Core:=match rowsPs get ps.toList,rk b with
 | [],none=>match litP C get t n ps with
  | some ri=>some ⟨.c false [.row b],.row b ri none,[]⟩
  | none=>none
 | [q],none=>match rk q,litP C (getW rk get) t n ps with
  | some (.some _),some ri=>match Nat.beq q b with
   | false=>some ⟨.c false [.row b],.row b ri (some q),liveR rk [q]⟩
   | true=>none
  | _,_=>none
 | _,_=>none
def or2 (a b:Option Core):Option Core:=match a with
 | some r=>some r
 | none=>b
def evalX (C:Ctx) (get:Operand→Option SV) (rk:Rk) (b:Nat) (o:Oper):Option Core:=match o.op with
 | .makeMap t none=>makeMapC C.sh C.P rk b t
 | .mapUpdate t m k x=>mapUpdC C.P get rk t m k x
 | .insert t m k x=>mapUpdC C.P get rk t m k x
 | .lookup t m k ok=>lookupC C.P get rk t m k ok
 | .call ⟨.builtin .len,⟨[x]⟩,ts⟩=>or2 (lenXC C.P get rk x ts) (lenTC C.P get rk x ts)
 | .call ⟨.builtin .append,xs,ts⟩=>or2 (appendIC C.P get rk xs ts) (appendXC C.P get rk b xs ts)
 | .buildSlice t n ps=>match C.lit o.pos with
  | true=>litC C get rk b t n ps
  | false=>buildXC (fun t=>(C.tb t).isSome) C.P get rk b t n ps
 | .indexAddr t x y=>indexTC C.P get rk t x y
 | .fieldAddr t x f=>fieldTC C.P get t x f
 | .load t x=>loadTC C.P get rk t x
 | .store t x y=>or2 (storeIC C.P get rk t x y) (storeTC C.P get rk t x y)
 | .makeSlice t l c=>makeXC C.tb C.P get rk b t l c
 | _=>none
def nilC (get:Operand→Option SV) (x:Operand):Option Core:=match get x with
 | some (.c false [.ptr b off])=>some ⟨.c false [.ptr b off],.none,[]⟩
 | some (.c false [.rf s d off])=>some ⟨.c false [.rf s d off],.none,[]⟩
 | _=>none
def evalCor (C:Ctx) (get:Operand→Option SV) (bk:Nat→Option (List At)) (rk:Rk) (b:Nat) (o:Oper):Option Cor:=match o.op with
 | .call ⟨.value f,xs,_⟩=>callX C (getU get) bk rk b f xs
 | .move x=>one? (sameC get x)
 | .assign x=>one? (sameC get x)
 | .nilCheck x=>one? (nilC get x)
 | _=>match evalX C (getU get) rk b o with
  | some r=>some (.one r)
  | none=>match eqNilC C.P get o with
   | some r=>some (.one r)
   | none=>one? (evalCore C (getU get) bk rk b o)
theorem indexArrC_ok {C:Ctx} {get:Operand→Option SV} {t:TypeId} {x y:Operand} {r:Core} (ho:o.op=.indexAddr t x y) (h:indexArrC C get t x y=some r) (hp:allB r.p=true) (hg:Gets E a get o) (hm:Mod N E a g):CoreOk C.P N g E a o r:=by
 unfold indexArrC at h
 split at h
 ·rename_i n et b off k i ht hx hy
  split at h
  ·rename_i e m he hz
   split at h
   ·rename_i hne
    injection h with h;subst h
    have hne:m=e.size:=by simpa using hne
    subst hne
    exact indexPtr_ok ho (hg x _ (by rw[ho];simp[Op.operands]) hx) (hg y _ (by rw[ho];simp[Op.operands]) hy) ht hz hm (inB_iff.1 hp)
   ·cases h
  ·cases h
 ·rename_i n et s d off k i ht hx hy
  split at h
  ·rename_i e m he hz
   split at h
   ·rename_i xs hne hxs
    injection h with h;subst h
    have hne:m=e.size:=by simpa using hne
    subst hne
    exact indexRf_ok ho (hg x _ (by rw[ho];simp[Op.operands]) hx) (hg y _ (by rw[ho];simp[Op.operands]) hy) ht hz hxs hm (inB_iff.1 hp)
   ·cases h
  ·cases h
 ·rename_i n et r q sz off k i ht hx hy
  split at h
  ·rename_i m hz
   injection h with h;subst h
   exact indexReA_ok ho (hg x _ (by rw[ho];simp[Op.operands]) hx) (hg y _ (by rw[ho];simp[Op.operands]) hy) ht hz hm (inB_iff.1 hp)
  ·cases h
 ·cases h
theorem sliceC_ok {P:Program} {get:Operand→Option SV} {t:TypeId} {x:Operand} {lo hi:Option Operand} {r:Core} (ho:o.op=.slice t x lo hi none) (h:sliceC P get t x lo hi=some r) (hp:allB r.p=true) (hg:Gets E a get o) (hm:Mod N E a g):CoreOk P N g E a o r:=by
 unfold sliceC at h
 split at h
 ·rename_i e l hx
  split at h
  ·rename_i et i j ht hi' hj
   split at h
   ·rename_i m hz
    split at h
    ·rename_i hne
     injection h with h;subst h
     have hne:m=e.size:=by simpa using hne
     subst hne
     exact sliceSl_ok ho hg (hg x _ (by rw[ho];simp[Op.operands]) hx) ht hz hi' hj hm (slB_iff.1 hp)
    ·cases h
   ·cases h
  ·cases h
 ·rename_i s hx
  split at h
  ·rename_i i j ht hi' hj
   injection h with h;subst h
   exact sliceStr_ok ho hg (hg x _ (by rw[ho];simp[Op.operands]) hx) ht hi' hj hm (slB_iff.1 hp)
  ·cases h
 ·cases h
theorem orPure_ok {P:Program} {get:Operand→Option SV} {r:Core} {q:Option Core} (h:orPure P get o q=some r) (hp:allB r.p=true) (hg:Gets E a get o) (hm:Mod N E a g) (hq:∀r',q=some r'→allB r'.p=true→CoreOk P N g E a o r'):CoreOk P N g E a o r:=by
 unfold orPure at h
 split at h
 ·injection h with h
  subst h
  exact hq _ rfl hp
 ·exact pureC_ok h hg hm
theorem indexVC_ok {C:Ctx} {get:Operand→Option SV} {t:TypeId} {x y:Operand} {r:Core} (ho:o.op=.index t x y) (h:indexVC C get t x y=some r) (hp:allB r.p=true) (hg:Gets E a get o) (hm:Mod N E a g):CoreOk C.P N g E a o r:=by
 unfold indexVC at h
 split at h
 ·rename_i s k i hx hy
  split at h
  ·rename_i ht
   injection h with h;subst h
   exact indexStr_ok ho (hg x _ (by rw[ho];simp[Op.operands]) hx) (hg y _ (by rw[ho];simp[Op.operands]) hy) ht hm (inB_iff.1 hp)
  ·cases h
 ·rename_i l k i hx hy
  split at h
  ·rename_i n et ht
   split at h
   ·rename_i e he
    split at h
    ·rename_i ag m xs ha hz hxs
     split at h
     ·rename_i h1 h2 h3
      injection h with h;subst h
      have h1:ag=e.isAgg:=by simpa using h1
      have h2:m=e.size:=by simpa using h2
      subst h1;subst h2
      exact indexAgg_ok ho (hg x _ (by rw[ho];simp[Op.operands]) hx) (hg y _ (by rw[ho];simp[Op.operands]) hy) ht ha hz h3 hxs hm (inB_iff.1 hp)
     ·cases h
    ·cases h
   ·cases h
  ·cases h
 ·cases h
theorem fieldVC_ok {P:Program} {get:Operand→Option SV} {t:TypeId} {x:Operand} {f:Nat} {r:Core} (ho:o.op=.field t x f) (h:fieldVC P get t x f=some r) (hg:Gets E a get o) (hm:Mod N E a g):CoreOk P N g E a o r:=by
 unfold fieldVC at h
 split at h
 ·rename_i l ft off hx hf
  split at h
  ·rename_i s hs
   injection h with h;subst h
   exact fieldV_ok ho (hg x _ (by rw[ho];simp[Op.operands]) hx) hf hs hm
  ·cases h
 ·cases h
theorem buildC_ok {C:Ctx} {get:Operand→Option SV} {t n:Nat} {ps:Array (Nat×Operand)} {r:Core} (ho:o.op=.buildSlice t n ps) (h:buildC C get t n ps=some r) (hg:Gets E a get o) (hm:Mod N E a g):CoreOk C.P N g E a o r:=by
 unfold buildC at h
 split at h
 ·rename_i et ht
  split at h
  ·rename_i e m z he hm' hz
   split at h
   ·rename_i l h1 h2 h3 hw
    injection h with h;subst h
    have h1:m=e.size:=by simpa using h1
    subst h1
    exact build_ok ho hg ht hm' hw (by simpa using h2) hz (by have:=Nat.le_of_ble_eq_true h3;omega) hm
   ·cases h
  ·cases h
 ·cases h
theorem rowsPs_mem {get:Operand→Option SV}:∀{ps:List (Nat×Operand)} {p:Nat×Operand} {s:SV},p ∈ ps→get p.2=some s→∀r ∈ rowsS s,r ∈ rowsPs get ps
 | q ::l,p,s,hp,hs,r,hr=>by
  simp only[rowsPs]
  rcases List.mem_cons.1 hp with rfl | hp
  ·rw[hs];exact List.mem_append_left _ hr
  ·split
   ·exact List.mem_append_right _ (rowsPs_mem hp hs r hr)
   ·exact rowsPs_mem hp hs r hr
theorem buildTC_ok {C:Ctx} {get:Operand→Option SV} {rk:Rk} {t n:Nat} {ps:Array (Nat×Operand)} {r:Core} (ho:o.op=.buildSlice t n ps) (h:buildTC C get rk t n ps=some r) (hp:allB r.p=true) (hg:Gets E a get o) (hm:Mod N E a g) (hrk:∀i r,rk i=some r→g.r i=some r):CoreOk C.P N g E a o r:=by
 unfold buildTC at h
 split at h
 ·cases h
 ·rename_i q u hu
  split at h
  ·rename_i sv p hb
   injection h with h;subst h
   have hlv:=liveR_ok (allB_append hp).1
   refine (show CoreOk C.P N g E a o ⟨sv,.rkill (q ::u),p⟩ from CoreOk.thaw hm fun hmz=>buildC_ok ho hb (fun x s hx hs=>?_) hmz)
   unfold getW at hs
   split at hs
   ·rename_i s' hs'
    injection hs with hs
    subst hs
    refine thawS_rel hm hrk hlv (hg x s' hx hs') fun r hr=>?_
    have hx':∃i,(i,x) ∈ ps:=by
     rw[ho] at hx
     simpa [Op.operands] using hx
    obtain ⟨i,hx'⟩:=hx'
    rw[←hu]
    exact rowsPs_mem (p:=(i,x)) (by simpa using hx') hs' r hr
   ·cases hs
  ·cases h
theorem evalConst (a:Act) (v:Value):a.eval (.const v)=v:=rfl
theorem eqNilC_ok {P:Program} {get:Operand→Option SV} {r:Core} (h:eqNilC P get o=some r) (hg:Gets E a get o) (hm:Mod N E a g):CoreOk P N g E a o r:=by
 have key:∀{x:Operand} {e:Sh} {l:List e.T},x ∈ o.op.operands→get x=some (.c false [.sn e l])→∃ad m c,a.eval x=.slice (some ad) m c:=fun hx hs=>by
  obtain ⟨cs,hv,hr,_⟩:=hg _ _ hx hs
  match cs,hr with
  | [z],hr =>
   obtain ⟨⟨ad,m,c,hz⟩,_⟩:=hr.1
   exact ⟨ad,m,c,by rw[hv,hz];rfl⟩
 unfold eqNilC at h
 split at h
 ·rename_i t x t' ho
  split at h
  ·rename_i e l et hx ht
   injection h with h
   subst h
   obtain ⟨ad,m,c,hv⟩:=key (by simp[ho,Op.operands]) hx
   refine CoreOk.value (E':=E) (v:=.bool false) ?_ rfl (Keep.refl E) hm ⟨[_],rfl,⟨rfl,trivial⟩,fun _=>rfl⟩
   simp only[execOp,ho,hv,evalConst]
   simp[eqGuard,binOp,run_equal_slice_nil _ t et (some ad) m c (elemT_eq ht)]
  ·cases h
 ·rename_i t x t' ho
  split at h
  ·rename_i e l et hx ht
   injection h with h
   subst h
   obtain ⟨ad,m,c,hv⟩:=key (by simp[ho,Op.operands]) hx
   refine CoreOk.value (E':=E) (v:=.bool true) ?_ rfl (Keep.refl E) hm ⟨[_],rfl,⟨rfl,trivial⟩,fun _=>rfl⟩
   simp only[execOp,ho,hv,evalConst]
   simp[eqGuard,run_neq_slice_nil _ t et (some ad) m c (elemT_eq ht)]
  ·cases h
 ·cases h
theorem evalCore_ok {C:Ctx} (_:E.P=C.P) {get:Operand→Option SV} {bk:Nat→Option (List At)} {rk:Rk} {b:Nat} {r:Core} (h:evalCore C get bk rk b o=some r) (hp:allB r.p=true) (hg:Gets E a get o) (hm:Mod N E a g)
  (hbk:∀i l,bk i=some l→g.h i=some l) (hb:bk b=none→g.h b=none) (hrk:metaOp o=false→∀i r,rk i=some r→g.r i=some r) (hrm:∀i ri,rk i=some (.some ri)→∃rj,g.r i=some (.some rj)∧rj.e=ri.e∧rj.n=ri.n) (hrb:rk b=none→g.r b=none):CoreOk C.P N g E a o r:=by
 unfold evalCore at h
 split at h
 case h_1 x ho =>
  unfold sameC at h
  split at h
  ·rename_i s hs
   injection h with h;subst h
   exact moveC_ok (.inl ho) (hg x s (by rw[ho];simp[Op.operands]) hs) hm
  ·cases h
 case h_2 x ho =>
  unfold sameC at h
  split at h
  ·rename_i s hs
   injection h with h;subst h
   exact moveC_ok (.inr ho) (hg x s (by rw[ho];simp[Op.operands]) hs) hm
  ·cases h
 case h_3 x ix ho =>
  unfold extractC at h
  split at h
  ·rename_i l hl
   split at h
   ·rename_i c hc
    injection h with h;subst h
    exact extractC_ok ho (hg x _ (by rw[ho];simp[Op.operands]) hl) hc hm
   ·cases h
  ·cases h
 case h_4 t x ho =>
  unfold loadC at h
  split at h
  ·rename_i i off hx
   split at h
   ·rename_i l hl
    split at h
    ·rename_i s hs
     injection h with h;subst h
     exact loadPtr_ok ho (hg x _ (by rw[ho];simp[Op.operands]) hx) (hbk i l hl) hs hm
    ·cases h
   ·cases h
  ·rename_i sh d off hx
   split at h
   ·rename_i s hs
    injection h with h;subst h
    exact loadRf_ok ho (hg x _ (by rw[ho];simp[Op.operands]) hx) hs hm
   ·cases h
  ·rename_i b' off e n i d hx
   split at h
   ·rename_i l hl
    split at h
    ·rename_i xs hxs
     split at h
     ·rename_i s hs
      injection h with h;subst h
      exact loadAe_ok ho (hg x _ (by rw[ho];simp[Op.operands]) hx) (hbk _ l hl) hxs hs hm (Nat.blt_eq.mp hp)
     ·cases h
    ·cases h
   ·cases h
  ·rename_i q i sz off hx
   split at h
   ·rename_i ri hri
    split at h
    ·rename_i s hsz hs
     injection h with h;subst h
     have hsz:sz=ri.e.size:=by simpa using hsz
     subst hsz
     exact loadRe_ok ho (hg x _ (by rw[ho];simp[Op.operands]) hx) (hrk (by simp[metaOp,ho]) q _ hri) hs hm (Nat.blt_eq.mp hp)
    ·cases h
   ·cases h
  ·cases h
 case h_5 t x y ho =>
  unfold storeC at h
  split at h
  ·rename_i i off ag l' hx hy
   split at h
   ·rename_i l n hl hn
    split at h
    ·rename_i h1 h2 h3
     injection h with h;subst h
     exact store_ok ho (hg x _ (by rw[ho];simp[Op.operands]) hx) (hg y _ (by rw[ho];simp[Op.operands]) hy) (hbk i l hl) hn h1 h2 h3 hm
    ·cases h
   ·cases h
  ·rename_i b' off e n i d ag l' hx hy
   split at h
   ·rename_i l m hl hmz
    split at h
    ·rename_i xs h1 h2 h3 h4 hxs
     split at h
     ·rename_i z hz
      injection h with h;subst h
      exact storeAe_ok ho (hg x _ (by rw[ho];simp[Op.operands]) hx) (hg y _ (by rw[ho];simp[Op.operands]) hy) (hbk _ l hl) hmz h2 h3 h4 h1 hxs hz hm (Nat.blt_eq.mp hp)
     ·cases h
    ·cases h
   ·cases h
  ·rename_i q i sz off ag l' hx hy
   split at h
   ·rename_i ri n hri hn
    split at h
    ·rename_i z h1 h2 h3 h4 hz
     injection h with h;subst h
     have h4:sz=ri.e.size:=by simpa using h4
     subst h4
     exact storeRe_ok ho (hg x _ (by rw[ho];simp[Op.operands]) hx) (hg y _ (by rw[ho];simp[Op.operands]) hy) (hrk (by simp[metaOp,ho]) q _ hri) hn h1 h2 h3 hz hm (Nat.blt_eq.mp hp)
    ·cases h
   ·cases h
  ·cases h
 case h_6 t ho =>
  unfold allocC at h
  split at h
  ·rename_i cs hz hbn
   injection h with h;subst h
   exact alloc_ok ho hz (hb hbn) hm
  ·cases h
 case h_7 t x ho =>
  unfold boxC at h
  split at h
  ·rename_i ag l hx hbn
   split at h
   ·rename_i hl
    injection h with h;subst h
    exact box_ok ho (hg x _ (by rw[ho];simp[Op.operands]) hx) hl (hb hbn) hm
   ·cases h
  ·cases h
 case h_8 t x f ho =>
  unfold fieldC at h
  split at h
  ·rename_i i off d hx hd
   injection h with h;subst h
   exact fieldPtr_ok ho (hg x _ (by rw[ho];simp[Op.operands]) hx) hd hm
  ·rename_i sh y off d hx hd
   injection h with h;subst h
   exact fieldRf_ok ho (hg x _ (by rw[ho];simp[Op.operands]) hx) hd hm
  ·rename_i q i sz off d hx hd
   injection h with h;subst h
   exact fieldRe_ok ho (hg x _ (by rw[ho];simp[Op.operands]) hx) hd hm
  ·rename_i b' off e n i d0 d hx hd
   injection h with h;subst h
   exact fieldAe_ok ho (hg x _ (by rw[ho];simp[Op.operands]) hx) hd hm
  ·cases h
 case h_9 t x y ho =>
  split at h
  ·rename_i r' hr'
   injection h with h;subst h
   exact indexArrC_ok ho hr' hp hg hm
  unfold indexC at h
  split at h
  ·rename_i e l k i et hx hy ht
   split at h
   ·rename_i n hn
    split at h
    ·rename_i hne
     injection h with h;subst h
     have hne:n=e.size:=by simpa using hne
     subst hne
     exact indexSl_ok ho (hg x _ (by rw[ho];simp[Op.operands]) hx) (hg y _ (by rw[ho];simp[Op.operands]) hy) ht hn hm (inB_iff.1 hp)
    ·cases h
   ·cases h
  ·rename_i q k i et hx hy ht
   split at h
   ·rename_i n ri hn hri
    split at h
    ·rename_i hne
     injection h with h;subst h
     have hne:n=ri.e.size:=by simpa using hne
     subst hne
     exact indexRow_ok ho (hg x _ (by rw[ho];simp[Op.operands]) hx) (hg y _ (by rw[ho];simp[Op.operands]) hy) ht hn (hrm q _ hri) hm (inB_iff.1 hp)
    ·cases h
   ·cases h
  ·cases h
 case h_10 t x lo hi ho =>
  split at h
  ·rename_i r' hr'
   injection h with h;subst h
   exact sliceC_ok ho hr' hp hg hm
  ·split at h
   ·exact cutC_ok ho h hp hg hm (hrk (by simp[metaOp,ho])) hrb
   ·exact sliceRC_ok ho h hp hg hm (hrk (by simp[metaOp,ho]))
 case h_11 t n ps ho =>
  split at h
  ·rename_i r' hr'
   injection h with h;subst h
   exact buildTC_ok ho hr' hp hg hm (hrk (by simp[metaOp,ho]))
  rename_i hno
  clear hno
  unfold build0C at h
  split at h
  ·rename_i et hps hbn ht
   split at h
   ·rename_i e m he hz
    split at h
    ·rename_i hne
     injection h with h;subst h
     have hne:m=e.size:=by simpa using hne
     subst hne
     exact build0_ok ho (by rw[←Array.toArray_toList (xs:=ps),hps]) ht hz (hrb hbn) hm
    ·cases h
   ·cases h
  exact buildC_ok ho h hg hm
 case h_12 t x y ho=>exact orPure_ok h hp hg hm fun r' hr' hp'=>indexVC_ok ho hr' hp' hg hm
 case h_13 t x f ho=>exact orPure_ok h hp hg hm fun r' hr' hp'=>fieldVC_ok ho hr' hg hm
 case h_14 t ps ho=>exact orPure_ok h hp hg hm fun r' hr' hp'=>buildStC_ok ho hr' hg hm
 case h_15 t l c ho=>exact makeC_ok ho h hp hg hm hrb
 case h_16=>exact divC_ok h hg hm hp
 case h_17=>exact divC_ok h hg hm hp
 case h_18=>exact shiftC_ok h hg hm hp
 case h_19=>exact shiftC_ok h hg hm hp
 case h_20=>exact eqC_ok h hg hm
 case h_21=>exact eqC_ok h hg hm
 case h_22=>exact funcC_ok h hg hm
 case h_23 xs ts ho =>
  unfold lenC at h
  split at h
  ·rename_i x t hxs hts
   have hxs:xs=#[x]:=by rw[←Array.toArray_toList (xs:=xs),hxs]
   subst hxs
   split at h
   ·rename_i e l et hx ht
    injection h with h;subst h
    exact lenSl_ok ho hts ht (hg x _ (by rw[ho];simp[Op.operands,Call.operands]) hx) hm
   ·rename_i q et hx ht
    split at h
    ·rename_i ri hri
     injection h with h;subst h
     exact lenRow_ok ho hts ht (hg x _ (by rw[ho];simp[Op.operands,Call.operands]) hx) (hrm q _ hri) hm
    ·cases h
   ·exact pureC_ok h hg hm
  ·cases h
 case h_24 xs ts ho =>
  split at h
  ·rename_i r' hr'
   injection h with h;subst h
   exact appendZC_ok ho hr' hp hg hm hrb
  ·exact appendC_ok ho h hg hm (hrk (by simp[metaOp,ho])) hrb hp
 case h_25 xs ts ho=>exact copyC_ok ho h hg hm (hrk (by simp[metaOp,ho])) hp
 case h_26=>exact pureC_ok h hg hm
theorem litP_ok {C:Ctx} {get:Operand→Option SV} {b t n:Nat} {ps:Array (Nat×Operand)} {ri:RowI} (ho:o.op=.buildSlice t n ps) (h:litP C get t n ps=some ri) (hg:Gets E a get o) (hm:Mod N E a g) (hb:g.r b=none) {p:List Bool}:CoreOk C.P N g E a o ⟨.c false [.row b],.row b ri none,p⟩:=by
 unfold litP at h
 split at h
 ·rename_i et ht
  split at h
  ·rename_i e m z he hm' hz
   split at h
   ·rename_i l h1 h2 h3 hw
    injection h with h;subst h
    have h1:m=e.size:=by simpa using h1
    subst h1
    exact buildRow_ok ho hg ht hm' hw (by simpa using h2) hz (by have:=Nat.le_of_ble_eq_true h3;omega) hm hb
   ·cases h
  ·cases h
 ·cases h
theorem litC_ok {C:Ctx} {get:Operand→Option SV} {rk:Rk} {b t n:Nat} {ps:Array (Nat×Operand)} {r:Core} (ho:o.op=.buildSlice t n ps) (h:litC C get rk b t n ps=some r) (hp:allB r.p=true) (hg:Gets E a get o) (hm:Mod N E a g) (hrk:∀i r,rk i=some r→g.r i=some r) (hb:rk b=none→g.r b=none):CoreOk C.P N g E a o r:=by
 unfold litC at h
 split at h
 ·rename_i hps hbn
  split at h
  ·rename_i ri hri
   injection h with h;subst h
   exact litP_ok ho hri hg hm (hb hbn)
  ·cases h
 ·rename_i q hps hbn
  split at h
  ·rename_i rq ri hq hri
   split at h
   ·rename_i hqb
    injection h with h;subst h
    have hne:q≠b:=fun e=>by rw[e] at hqb;simp at hqb
    have hlv:=liveR_ok hp
    refine CoreOk.thaw2 (u:=[q]) (e1:=.row b ri none) (p:=[]) hm ?_ fun hmz=>litP_ok ho hri (fun x s hx hs=>?_) hmz ?_
    ·simp only[Look.app,Look.setR]
     congr 1
     funext i
     by_cases h1:i=b
     ·simp[h1]
     ·by_cases h2:i=q
      ·simp[h2,hne]
      ·simp[h1,h2]
    ·unfold getW at hs
     split at hs
     ·rename_i s' hs'
      injection hs with hs
      subst hs
      refine thawS_rel hm hrk hlv (hg x s' hx hs') fun r hr=>?_
      have hx':∃i,(i,x) ∈ ps:=by
       rw[ho] at hx
       simpa [Op.operands] using hx
      obtain ⟨i,hx'⟩:=hx'
      rw[←hps]
      exact rowsPs_mem (p:=(i,x)) (by simpa using hx') hs' r hr
     ·cases hs
    ·simp only[Look.app,List.mem_singleton]
     rw[if_neg (Ne.symm hne)]
     exact hb hbn
   ·cases h
  ·cases h
 ·cases h
theorem nilC_ok {P:Program} {get:Operand→Option SV} {x:Operand} {r:Core} (ho:o.op=.nilCheck x) (h:nilC get x=some r) (hg:Gets E a get o) (hm:Mod N E a g):CoreOk P N g E a o r:=by
 have hop:x ∈ o.op.operands:=by rw[ho];simp[Op.operands]
 unfold nilC at h
 split at h
 ·rename_i b off hx
  injection h with h;subst h
  have hv:=hg x _ hop hx
  obtain ⟨cs,hv',hr,h1⟩:=hv
  match cs,hr with
  | [v],hr =>
  obtain ⟨⟨g1,g2⟩,_⟩:=hr
  refine CoreOk.value (E':=E) (v:=v) ?_ rfl (Keep.refl E) hm ⟨[v],rfl,⟨⟨g1,g2⟩,trivial⟩,fun _=>rfl⟩
  have hv2:a.eval x=.pointer (some ⟨E.β b,off,none⟩):=by rw[hv',g1];rfl
  simp[execOp,ho,hv2,g1,ptrV]
 ·rename_i s d off hx
  injection h with h;subst h
  have hv:=hg x _ hop hx
  obtain ⟨cs,hv',hr,h1⟩:=hv
  match cs,hr with
  | [v],hr =>
  have hr1:=hr.1
  obtain ⟨ad,cs',g1,g2,g3,g4⟩:=hr1
  refine CoreOk.value (E':=E) (v:=v) ?_ rfl (Keep.refl E) hm ⟨[v],rfl,⟨hr.1,trivial⟩,fun _=>rfl⟩
  have hv2:a.eval x=.pointer (some (ad.add off)):=by rw[hv',g1];rfl
  simp[execOp,ho,hv2,g1]
 ·cases h
theorem evalX_ok {C:Ctx} {get:Operand→Option SV} {rk:Rk} {b:Nat} {r:Core} (h:evalX C get rk b o=some r) (hp:allB r.p=true) (hg:Gets E a get o) (hm:Mod N E a g) (hrk:metaOp o=false→∀i r,rk i=some r→g.r i=some r) (hrx:∀i x,rk i=some (.x x)→g.r i=some (.x x)) (hrb:rk b=none→g.r b=none):CoreOk C.P N g E a o r:=by
 unfold evalX at h
 split at h
 ·rename_i t ho;exact makeMapC_ok ho h hm hrb
 ·rename_i t m k x ho;exact mapUpdC_ok (.inl ho) h hg hm hrx
 ·rename_i t m k x ho;exact mapUpdC_ok (.inr ho) h hg hm hrx
 ·rename_i t m k ok ho;exact lookupC_ok ho h hg hm hrx
 ·rename_i x ts ho
  unfold or2 at h
  split at h
  ·rename_i r' hr
   injection h with h;subst h
   exact lenXC_ok ho hr hg hm hrx
  ·exact lenTC_ok ho h hp hg hm hrx
 ·rename_i xs ts ho
  unfold or2 at h
  split at h
  ·rename_i r' hr
   injection h with h;subst h
   exact appendIC_ok ho hr hp hg hm (hrk (by simp[metaOp,ho]))
  ·exact appendXC_ok ho h hp hg hm hrx hrb
 ·rename_i t n ps ho
  split at h
  ·exact litC_ok ho h hp hg hm (hrk (by simp[metaOp,ho])) hrb
  ·exact buildXC_ok ho h hg hm (hrk (by simp[metaOp,ho])) hrb
 ·rename_i t x y ho;exact indexTC_ok ho h hp hg hm hrx
 ·rename_i t x f ho;exact fieldTC_ok ho h hg hm
 ·rename_i t x ho;exact loadTC_ok ho h hp hg hm hrx
 ·rename_i t x y ho
  unfold or2 at h
  split at h
  ·rename_i r' hr
   injection h with h;subst h
   exact storeIC_ok ho hr hp hg hm hrx
  ·exact storeTC_ok ho h hp hg hm (hrk (by simp[metaOp,ho]))
 ·rename_i t l c ho;exact makeXC_ok ho h hp hg hm hrb
 ·cases h
theorem evalCor_ok {C:Ctx} (hC:C.ok) (hP:E.P=C.P) {get:Operand→Option SV} {bk:Nat→Option (List At)} {rk:Rk} {b:Nat} {r:Cor} (h:evalCor C get bk rk b o=some r) (hg:Gets E a get o) (hm:Mod N E a g)
  (hbk:∀i l,bk i=some l→g.h i=some l) (hb:bk b=none→g.h b=none) (hrk:metaOp o=false→∀i r,rk i=some r→g.r i=some r) (hrm:∀i ri,rk i=some (.some ri)→∃rj,g.r i=some (.some rj)∧rj.e=ri.e∧rj.n=ri.n) (hrx:∀i x,rk i=some (.x x)→g.r i=some (.x x)) (hrb:rk b=none→g.r b=none):CorOk C.P N g E a o r:=by
 unfold evalCor at h
 split at h
 ·rename_i f xs ts ho
  unfold callX at h
  split at h
  ·rename_i r' hr
   injection h with h;subst h
   rw[←hP]
   exact callF_ok ho hr (getU_gets hg) hm
  ·split at h
   ·rename_i r' hr'
    injection h with h;subst h
    unfold callE at hr'
    split at hr'
    ·rename_i fv hfv
     split at hr'
     ·rename_i id hid
      intro hp
      have hfe:=fnOf_rel hid (getU_gets hg f fv (by rw[ho];simp[Op.operands,Call.operands]) hfv)
      exact carryC_ok ho (by simpa using hfe) hr' hp (getU_gets hg) hm
     ·cases hr'
    ·cases hr'
   ·exact callC_ok hC hP ho h (getU_gets hg) hm hbk (hrk (by simp[metaOp,ho])) hrb
 ·rename_i x ho
  unfold sameC at h
  split at h
  ·rename_i s hs
   injection h with h;subst h
   exact fun _=>moveC_ok (.inl ho) (hg x s (by rw[ho];simp[Op.operands]) hs) hm
  ·cases h
 ·rename_i x ho
  unfold sameC at h
  split at h
  ·rename_i s hs
   injection h with h;subst h
   exact fun _=>moveC_ok (.inr ho) (hg x s (by rw[ho];simp[Op.operands]) hs) hm
  ·cases h
 ·rename_i x ho
  unfold one? at h
  split at h
  ·rename_i r' hr
   injection h with h;subst h
   exact fun _=>nilC_ok ho hr hg hm
  ·cases h
 ·split at h
  ·rename_i r' hr'
   injection h with h;subst h
   exact fun hp=>evalX_ok hr' hp (getU_gets hg) hm hrk hrx hrb
  split at h
  ·rename_i r' hr'
   injection h with h;subst h
   exact fun _=>eqNilC_ok hr' hg hm
  unfold one? at h
  split at h
  ·rename_i r' hr
   injection h with h;subst h
   exact fun hp=>evalCore_ok hP hr hp (getU_gets hg) hm hbk hb hrk hrm hrb
  ·cases h
structure Plan where
 s:Option (Nat×SlotV)
 eff:Eff
def Look.plan (g:Look) (pl:Plan):Look:=match pl.s with
 | some (d,s)=>(g.app pl.eff).setS d (some s)
 | none=>g.app pl.eff
inductive Cond where
 | always
 | under (c:Bool)
 | bad
def guardC (ops:Array Oper) (sl:Nat→Option SlotV):Option (Nat×Bool)→Cond
 | none=>.always
 | some (j,want)=>match (ops[j]?).bind (·.dst) with
  | some d=>match sl d with
   | some ⟨none,.c false [.v (.bool h)]⟩=>.under (bif want then h else !h)
   | some ⟨some c,.c false [.v (.bool h)]⟩=>.under (c&&(bif want then h else !h))
   | _=>.bad
  | none=>.bad
def Cond.implies (k:Cond) (c:Bool):Bool:=match k with
 | .always=>c
 | .under q=>!q||c
 | .bad=>false
def getS (sl:Nat→Option SlotV) (x:Operand):Option SV:=match x with
 | .tmp t=>match sl t with
  | some s=>some s.s
  | none=>none
 | .const v=>some (ofV v)
 | .func f=>some (.c false [.v (.func (.func f) #[] #[])])
 | .global _=>none
def condS (sl:Nat→Option SlotV) (x:Operand):Option Bool:=match x with
 | .tmp t=>match sl t with
  | some s=>s.c
  | none=>none
 | _=>none
def needs (k:Cond) (sl:Nat→Option SlotV):List Operand→List Bool
 | []=>[]
 | x ::r=>match condS sl x with
  | none=>needs k sl r
  | some c=>k.implies c ::needs k sl r
theorem getS_rel (hm:Mod N E a g) {sl:Nat→Option SlotV} {x:Operand} (hsl:∀t,x=.tmp t→g.s t=sl t) {s:SV} (h:getS sl x=some s) (hc:∀c,condS sl x=some c→c=true):RelV E s (a.eval x):=by
 cases x with
 | tmp t =>
  simp only[getS] at h
  split at h
  ·rename_i sv hsv
   injection h with h;subst h
   obtain ⟨v,hv,hr⟩:=hm.slots t sv (by rw[hsl t rfl];exact hsv)
   have he:a.eval (.tmp t)=v:=by simp[Act.eval,hv]
   rw[he]
   unfold RelS at hr
   split at hr
   ·exact hr
   ·rename_i c hcc
    exact hr.1 (hc c (by simp only[condS,hsv];exact hcc))
  ·cases h
 | const v=>simp only[getS] at h;injection h with h;subst h;exact ofV_rel v
 | func f=>simp only[getS] at h;injection h with h;subst h;exact ⟨[_],rfl,⟨rfl,trivial⟩,fun _=>rfl⟩
 | global _=>cases h
theorem needs_all {k:Cond} {sl:Nat→Option SlotV}:∀{xs:List Operand},allB (needs k sl xs)=true→∀x ∈ xs,∀c,condS sl x=some c→k.implies c=true
 | y ::r,h,x,hx,c,hc=>by
  simp only[needs] at h
  rcases List.mem_cons.1 hx with rfl | hx
  ·rw[hc] at h;exact (allB_cons h).1
  ·split at h
   ·exact needs_all h x hx c hc
   ·exact needs_all (allB_cons h).2 x hx c hc
def pickSV (q:Bool):SV→SV→Option SV
 | .c false [.v (.bool x)],.c false [.v (.bool y)]=>some (.c false [.v (.bool (bif q then x else y))])
 | _,_=>none
def pickC (k:Cond) (sl:Nat→Option SlotV) (c x y:Operand):Option Core:=match getS sl c,getS sl x,getS sl y with
 | some (.c false [.v (.bool q)]),some s,some t=>match pickSV q s t with
  | some r=>some ⟨r,.none,needs k sl [c]++(match condS sl x with | none=>[] | some cx=>[!q||k.implies cx])++(match condS sl y with | none=>[] | some cy=>[q||k.implies cy])⟩
  | none=>none
 | _,_,_=>none
theorem pickC_ok {P:Program} (hm:Mod N E a g) {sl:Nat→Option SlotV} {c x y:Operand} (ho:o.op=.pick c x y) (hsl:∀t,(Operand.tmp t) ∈ o.op.operands→g.s t=sl t) {k:Cond} {r:Core} (h:pickC k sl c x y=some r)
  (hp:allB r.p=true) (hk:∀c,k.implies c=true→c=true):CoreOk P N g E a o r:=by
 unfold pickC at h
 split at h
 ·rename_i q s t hc hx hy
  split at h
  ·rename_i w hw
   injection h with h
   subst h
   obtain ⟨h12,h3⟩:=allB_append hp
   obtain ⟨h1,h2⟩:=allB_append h12
   have ec:a.eval c=.bool q:=toV_rel rfl (getS_rel hm (fun t e=>hsl t (by rw[ho,←e];simp[Op.operands])) hc fun d hd=>hk d (needs_all h1 c (by simp) d hd))
   unfold pickSV at hw
   split at hw
   ·rename_i p1 p2
    injection hw with hw
    subst hw
    refine CoreOk.value (E':=E) (v:=.bool (bif q then p1 else p2)) ?_ rfl (Keep.refl E) hm ⟨[_],rfl,⟨rfl,trivial⟩,fun _=>rfl⟩
    cases q
    ·have e2:a.eval y=.bool p2:=toV_rel rfl (getS_rel hm (fun t e=>hsl t (by rw[ho,←e];simp[Op.operands])) hy fun d hd=>hk d (by rw[hd] at h3;simpa [allB] using h3))
     simp[execOp,ho,ec,e2,asBool]
    ·have e1:a.eval x=.bool p1:=toV_rel rfl (getS_rel hm (fun t e=>hsl t (by rw[ho,←e];simp[Op.operands])) hx fun d hd=>hk d (by rw[hd] at h2;simpa [allB] using h2))
     simp[execOp,ho,ec,e1,asBool]
   ·cases hw
  ·cases h
 ·cases h
def coreC (C:Ctx) (k:Cond) (sl:Nat→Option SlotV) (bk:Nat→Option (List At)) (rk:Rk) (b:Nat) (o:Oper):Option (List Bool×Cor):=match o.op with
 | .pick c x y=>match pickC k sl c x y with
  | some r=>some ([],.one r)
  | none=>none
 | _=>match evalCor C (getS sl) bk rk b o with
  | some r=>some (needs k sl o.op.operands.toList,r)
  | none=>none
def dstOk (N:Nat):Option Nat→Bool
 | none=>true
 | some d=>Nat.blt d N
inductive Stp where
 | one (p:List Bool) (pl:Plan)
 | call (p:List Bool) (T:Type) (m:Option T) (pl:T→Plan)
 | inl (p:List Bool) (id:FuncId) (args:List SV)
def stepOp (C:Ctx) (N:Nat) (ops:Array Oper) (sl:Nat→Option SlotV) (bk:Nat→Option (List At)) (rk:Rk) (b:Nat) (o:Oper):Option Stp:=match dstOk N o.dst with
 | false=>none
 | true=>match guardC ops sl o.guard with
  | .bad=>none
  | .always=>match coreC C .always sl bk rk b o with
   | some (p,.one r)=>some (.one (p++r.p) ⟨o.dst.map fun d=>(d,⟨none,r.sv⟩),r.eff⟩)
   | some (p,.call T _ m sv eff _)=>some (.call p T m fun t=>⟨o.dst.map fun d=>(d,⟨none,sv t⟩),eff t⟩)
   | some (p,.inl id args)=>some (.inl p id args)
   | none=>none
  | .under c=>match coreC C (.under c) sl bk rk b o with
   | some (p,.one r)=>match effNone r.eff with
    | true=>some (.one (p++r.p.map fun q=>!c||q) ⟨o.dst.map fun d=>(d,⟨some c,r.sv⟩),.none⟩)
    | false=>none
   | some (p,.call T d m sv _ pu)=>match pu with
    | true=>some (.call p T (bif c then m else some d) fun t=>⟨o.dst.map fun d=>(d,⟨some c,sv t⟩),.none⟩)
    | false=>none
   | _=>none
def StepP (C:Ctx) (N:Nat) (ops:Array Oper) (sl:Nat→Option SlotV) (bk:Nat→Option (List At)) (rk:Rk) (b:Nat) (o:Oper) (pl:Plan):Prop :=
 ∃st,stepOp C N ops sl bk rk b o=some st∧match st with
  | .one p pl'=>allB p=true∧pl=pl'
  | .call p _ m f=>allB p=true∧∃t,m=some t∧pl=f t
  | .inl ..=>False
theorem coreC_ok {C:Ctx} (hC:C.ok) (hP:E.P=C.P) {k:Cond} {sl:Nat→Option SlotV} {bk:Nat→Option (List At)} {rk:Rk} {b:Nat} {r:Cor} {p:List Bool} (h:coreC C k sl bk rk b o=some (p,r)) (hp:allB p=true) (hm:Mod N E a g)
  (hsl:∀t,(Operand.tmp t) ∈ o.op.operands→g.s t=sl t) (hbk:∀i l,bk i=some l→g.h i=some l) (hb:bk b=none→g.h b=none) (hrk:metaOp o=false→∀i r,rk i=some r→g.r i=some r) (hrm:∀i ri,rk i=some (.some ri)→∃rj,g.r i=some (.some rj)∧rj.e=ri.e∧rj.n=ri.n) (hrx:∀i x,rk i=some (.x x)→g.r i=some (.x x)) (hrb:rk b=none→g.r b=none) (hk:∀c,k.implies c=true→c=true):CorOk C.P N g E a o r:=by
 unfold coreC at h
 split at h
 ·rename_i c x y ho
  split at h
  ·rename_i r' hr
   simp only[Option.some.injEq,Prod.mk.injEq] at h
   obtain ⟨rfl,rfl⟩:=h
   exact fun hp=>pickC_ok hm ho hsl hr hp hk
  ·cases h
 ·split at h
  ·rename_i r' hr
   simp only[Option.some.injEq,Prod.mk.injEq] at h
   obtain ⟨rfl,rfl⟩:=h
   exact evalCor_ok hC hP hr (fun x s hx hs=>getS_rel hm (fun t e=>hsl t (by rw[←e];exact hx)) hs fun c hc=>hk c (needs_all hp x (by simpa using hx) c hc)) hm hbk hb hrk hrm hrx hrb
  ·cases h
theorem looks_op {ops:Array Oper} {t:Nat} (h:(Operand.tmp t) ∈ o.op.operands):t ∈ o.looksAt ops :=
 List.mem_append_left _ (List.mem_filterMap.2 ⟨.tmp t,by simpa using h,rfl⟩)
theorem guard_look {ops:Array Oper} {j:Nat} {want:Bool} {d:Nat} (h:o.guard=some (j,want)) (hd:(ops[j]?).bind (·.dst)=some d):d ∈ o.looksAt ops:=by
 refine List.mem_append_right _ ?_
 simp[h,hd]
theorem guard_run (hm:Mod N E a g) {ops:Array Oper} {sl:Nat→Option SlotV} (hsl:∀t ∈ o.looksAt ops,g.s t=sl t) :
  match guardC ops sl o.guard with
  | .always=>Region.wanted o (yielded ops a.tmps)=true
  | .under c=>Region.wanted o (yielded ops a.tmps)=c
  | .bad=>True:=by
 cases hg:o.guard with
 | none=>simp[guardC,Region.wanted,hg]
 | some jw =>
  obtain ⟨j,want⟩:=jw
  simp only[guardC]
  cases hd:(ops[j]?).bind (·.dst) with
  | none=>trivial
  | some d =>
   have hl:=hsl d (guard_look hg hd)
   simp only
   split<;>rename_i hs
   ·split at hs<;>cases hs
   ·split at hs
    ·rename_i h hsd
     injection hs with hs
     subst hs
     obtain ⟨v,hv,hr⟩:=hm.slots d _ (hl.trans hsd)
     have hr':RelV E (.c false [.v (.bool h)]) v:=hr
     have hv':v=.bool h:=toV_rel rfl hr'
     subst hv'
     simp only[Region.wanted,hg,yielded,hd,Option.bind_some,hv]
     cases want<;>cases h<;>rfl
    ·rename_i c h hsd
     injection hs with hs
     subst hs
     obtain ⟨v,hv,hr⟩:=hm.slots d _ (hl.trans hsd)
     simp only[Region.wanted,hg,yielded,hd,Option.bind_some,hv]
     cases c with
     | true =>
      have hv':v=.bool h:=toV_rel rfl (hr.1 rfl)
      subst hv'
      cases want<;>cases h<;>rfl
     | false =>
      have hv':=hr.2 rfl
      subst hv'
      simp[undef]
    ·cases hs
   ·trivial
theorem put_plan {E':Env} {v:Value} {c:Option Bool} {sv:SV} {eff:Eff} (hdst:dstOk N o.dst=true) (hm:Mod N E' a (g.app eff)) (hv:∀d,o.dst=some d→RelS E' ⟨c,sv⟩ v) :
  Mod N E' (a.put o.dst v) (g.plan ⟨o.dst.map fun d=>(d,⟨c,sv⟩),eff⟩):=by
 cases hd:o.dst with
 | none=>exact hm
 | some d =>
  rw[hd] at hdst
  exact hm.put (by simp[dstOk,Nat.blt] at hdst;omega) (hv d hd)
theorem step_ok {C:Ctx} (hC:C.ok) (hP:E.P=C.P) {ops:Array Oper} {sl:Nat→Option SlotV} {bk:Nat→Option (List At)} {rk:Rk} {b:Nat} {pl:Plan} (h:StepP C N ops sl bk rk b o pl) (hm:Mod N E a g)
  (hsl:∀t ∈ o.looksAt ops,g.s t=sl t) (hbk:∀i l,bk i=some l→g.h i=some l) (hb:bk b=none→g.h b=none) (hrk:metaOp o=false→∀i r,rk i=some r→g.r i=some r) (hrm:∀i ri,rk i=some (.some ri)→∃rj,g.r i=some (.some rj)∧rj.e=ri.e∧rj.n=ri.n) (hrx:∀i x,rk i=some (.x x)→g.r i=some (.x x)) (hrb:rk b=none→g.r b=none) {K:Act→World→Prop} {Q:Exit→Act→World→Prop} {X:Prop}
  (hK:∀E' a',Same E E'→Keep E E'→Mod N E' a' (g.plan pl)→K a' E'.w) :
  if Region.wanted o (yielded ops a.tmps) then o.wp C.P a E.w K Q∨X else K (a.put o.dst undef) E.w:=by
 obtain ⟨st,h,hst⟩:=h
 unfold stepOp at h
 split at h
 ·cases h
 ·rename_i hdst
  have hgr:=guard_run hm hsl
  have hsl':∀t,(Operand.tmp t) ∈ o.op.operands→g.s t=sl t:=fun t ht=>hsl t (looks_op ht)
  split at h
  ·cases h
  ·rename_i hgc
   rw[hgc] at hgr
   simp only at hgr
   rw[if_pos hgr]
   split at h
   ·rename_i p r hr
    injection h with h
    subst h
    obtain ⟨hp,rfl⟩:=hst
    obtain ⟨hp1,hp2⟩:=allB_append hp
    exact .inl (coreC_ok hC hP hr hp1 hm hsl' hbk hb hrk hrm hrx hrb (fun c hc=>hc) hp2 K Q fun E' v h0 hkp hm' hv=>hK E' _ h0 hkp (put_plan hdst hm' fun _ _=>hv))
   ·rename_i p T d m sv eff _ hr
    injection h with h
    subst h
    obtain ⟨hp,t,ht,rfl⟩:=hst
    exact .inl ((coreC_ok hC hP hr hp hm hsl' hbk hb hrk hrm hrx hrb (fun c hc=>hc)).2 t ht K Q fun E' v h0 hkp hm' hv=>hK E' _ h0 hkp (put_plan hdst hm' fun _ _=>hv))
   ·injection h with h
    subst h
    exact hst.elim
   ·cases h
  ·rename_i c hgc
   rw[hgc] at hgr
   simp only at hgr
   have skip:∀sv,c=false→Mod N E (a.put o.dst undef) (g.plan ⟨o.dst.map fun d=>(d,⟨some c,sv⟩),.none⟩):=fun sv hc=>put_plan (eff:=.none) hdst hm fun _ _=>(show RelS E ⟨some c,sv⟩ undef from ⟨fun ht=>absurd ht (by rw[hc];decide),fun _=>rfl⟩)
   split at h
   ·rename_i p r hr
    split at h
    ·rename_i heff
     injection h with h
     subst h
     obtain ⟨hp,rfl⟩:=hst
     have he:r.eff=.none:=by
      cases hh:r.eff<;>rw[hh] at heff<;>first | rfl | cases heff
     by_cases hc:c=true
     ·rw[if_pos (by rw[hgr];exact hc)]
      obtain ⟨hp1,hp2'⟩:=allB_append hp
      have hp2:=allB_map hp2' hc
      refine .inl (coreC_ok hC hP hr hp1 hm hsl' hbk hb hrk hrm hrx hrb (fun d hd=>by simpa [Cond.implies,hc] using hd) hp2 K Q fun E' v h0 hkp hm' hv=>?_)
      rw[he] at hm'
      exact hK E' _ h0 hkp (put_plan hdst hm' fun _ _=>(show RelS E' ⟨some c,r.sv⟩ v from ⟨fun _=>hv,fun hf=>absurd hf (by rw[hc];decide)⟩))
     ·have hc:c=false:=by simpa using hc
      rw[if_neg (by rw[hgr,hc];simp)]
      exact hK E _ rfl (Keep.refl E) (skip r.sv hc)
    ·cases h
   ·rename_i p T d m sv eff pu hr
    split at h
    ·injection h with h
     subst h
     obtain ⟨hp,t,ht,rfl⟩:=hst
     by_cases hc:c=true
     ·rw[if_pos (by rw[hgr];exact hc)]
      rw[hc] at ht
      have hcc:=coreC_ok hC hP hr hp hm hsl' hbk hb hrk hrm hrx hrb (fun d hd=>by simpa [Cond.implies,hc] using hd)
      refine .inl (hcc.2 t ht K Q fun E' v h0 hkp hm' hv=>?_)
      simp only[hcc.1 rfl t] at hm'
      exact hK E' _ h0 hkp (put_plan hdst hm' fun _ _=>(show RelS E' ⟨some c,sv t⟩ v from ⟨fun _=>hv,fun hf=>absurd hf (by rw[hc];decide)⟩))
     ·have hc:c=false:=by simpa using hc
      rw[if_neg (by rw[hgr,hc];simp)]
      exact hK E _ rfl (Keep.refl E) (skip (sv t) hc)
    ·cases h
   ·cases h
end
end Dn
end Go.Proofs.YtmoiiokmfanlgaaGreat
