/- A symbolic executor: the fences in which code is walked: none, or that of a round of a loop over a function. A symbolic executor: states; regions in the order of the text, and in whatever order their edges allow. A symbolic executor: a region whose order is open. The symbolic run in the text's order serves every order that the edges allow, where operations that touch one another's slots or blocks wait for one another. A symbolic executor: states made general (at a loop's head, where two ways meet, behind a function that is walked in place): data of patterns in place of what slots, blocks and rows hold. A symbolic executor: a state that has come to a place is the place's own state. A symbolic executor: worlds that differ in blocks that hold no cells; the contracts of iterators; how a function with marks is left. -/
import Derived.OrdersIn
import Derived.TacticsIn
import Derived.RangeFuncCalls
import Derived.RangeFuncSeq
import Derived.Test.YtfknoaclabfdlaaGreatMgI

namespace Go.Proofs.YtfknoaclabfdlaaGreat
namespace Dn
open Go.RowKit
def pR (F:Fence):Prop:=F=Fence.wide\/∃l,F=Fence.wide.inRound l
theorem pR.fn {F:Fence} (h:pR F) (f:FuncId):F.fn f:=by
 rcases h with rfl | ⟨l,rfl⟩<;>trivial
theorem pR.depth {F:Fence} (h:pR F):F.depth.isSome=false:=by
 rcases h with rfl | ⟨l,rfl⟩<;>rfl
def nd (o:Oper):Bool:=match o.op with
 | .defer _=>false
 | _=>true
def tY:List Oper->Bool
 | []=>true
 | o ::r=>nd o&&tY r
theorem QE {o:Oper} (h:nd o=true):∀c,o.op≠.defer c:=fun c e=>by unfold nd at h;rw[e] at h;cases h
theorem vm {o:Oper} {r:List Oper} (h:tY (o ::r)=true):nd o=true/\tY r=true:=by
 simp only[tY,z10] at h;exact h
theorem G7 {o:Oper} {l:List Oper} (h:tY l=true) (hm:o ∈ l):nd o=true:=by
 induction l with
 | nil=>cases hm
 | cons x l ih =>
  obtain ⟨h1,h2⟩:=vm h
  rcases List.mem_cons.1 hm with e | hm
  ·rw[e];exact h1
  ·exact ih h2 hm
section
variable {F:Fence} {n:Nat} {P:Program}
theorem IL {f:FuncId} {args:Array Value} {w:World} {R:Ending->World->Prop} (hF:pR F) (h:Calls P f args w R):CallsIn F n P f args w R:=by
 rcases hF with rfl | ⟨l,rfl⟩
 ·exact callsIn_wide.2 h
 ·exact CallsIn.inRound l (callsIn_wide.2 h)
theorem Nh {row:String} {args:Array Value} {w:World} {R:Value->World->Prop} (hF:pR F) (h:Rows P row args w R):RowsIn F n P row args w R:=by
 have key:RowsIn Fence.wide n P row args w R:=fun c cs _=>let ⟨v,w',r,s⟩:=h c cs;⟨v,w',r,stepsIn_wide.2 s⟩
 rcases hF with rfl | ⟨l,rfl⟩
 ·exact key
 ·exact key
theorem IY {o:Oper} {a:Act} {w:World} {K:Act->World->Prop} {Q:Exit->Act->World->Prop} (hF:pR F) (hnd:nd o=true) (h:o.wp P a w K Q):o.wpIn F n P a w K Q:=by
 refine ⟨fun f _=>hF.fn f,?_⟩
 rw[Oper.semAt_eq _ _ _ (QE hnd)]
 unfold Oper.wp at h
 generalize (execOp a.eval o).run P w=r at h ⊢
 have hd:F.depth.isSome=true->1<=n:=fun e=>by rw[hF.depth] at e;cases e
 cases r with
 | ok x w' =>
  cases x with
  | value v=>exact h
  | skip=>exact h
  | defer d=>exact h
  | enter f args=>exact ⟨hd,IL hF h⟩
  | row row args=>exact ⟨hd,Nh hF h⟩
  | _=>exact h.elim
 | halt x w' =>
  cases x with
  | panic v=>exact h
  | _=>exact h.elim
end
end Dn
end Go.Proofs.YtfknoaclabfdlaaGreat

namespace Go.Proofs.YtfknoaclabfdlaaGreat
noncomputable section
namespace Dn
open Go.RowKit
noncomputable section
structure St where
 s:List (Nat×Option SlotV)
 h:List (Nat×List At)
 r:List (Nat×RowS)
 next:Nat
 ro:List Nat:=[]
 roR:List Nat:=[]
def look {α:Type}:List (Nat×α)->Nat->Option α
 | [],_=>none
 | (j,x) ::r,i=>match Nat.beq j i with
  | true=>some x
  | false=>look r i
def fJ (l:List (Nat×Option SlotV)) (i:Nat):Option SlotV:=match look l i with
 | some (some s)=>some s
 | _=>none
def St.look (σ:St):Look:={ s:=fJ σ.s,h:=Dn.look σ.h,r:=Dn.look σ.r }
theorem ak {α:Type} (j:Nat) (x:α) (r:List (Nat×α)) (i:Nat):look ((j,x) ::r) i=if i=j then some x else look r i:=by
 simp only[look]
 split
 ·rename_i h
  have h:j=i:=by simpa using h
  rw[if_pos h.symm]
 ·rename_i h
  have h:j≠i:=by intro e;subst e;simp at h
  rw[if_neg (Ne.symm h)]
theorem kc (l:List Nat) (m:List (Nat×RowS)) (i:Nat):look (l.map (fun i=>((i,.none):Nat×RowS))++m) i=if i ∈ l then some .none else look m i:=by
 induction l with
 | nil=>simp
 | cons j l ih =>
  rw[List.map_cons,List.cons_append,ak]
  by_cases h:i=j
  ·simp[h]
  ·rw[if_neg h,ih]
   simp[h]
def St.putS (σ:St) (d:Nat) (s:SlotV):St:={ σ with s:=(d,some s) ::σ.s }
def St.app (σ:St):Eff->St
 | .none=>σ
 | .alloc b l=>{ σ with h:=(b,l) ::σ.h }
 | .store b l=>{ σ with h:=(b,l) ::σ.h }
 | .row k r (some o)=>{ σ with r:=(k,.some r) ::(o,.none) ::σ.r }
 | .row k r none=>{ σ with r:=(k,.some r) ::σ.r }
 | .rset k e l=>match wz e l (Dn.look σ.r k) with
  | some x=>{ σ with r:=(k,x) ::σ.r }
  | none=>σ
 | .rkill l=>{ σ with r:=l.map (fun i=>(i,.none))++σ.r }
 | .xset k x u=>{ σ with r:=(k,.x x) ::(u.map (fun i=>(i,.none))++σ.r) }
def St.plan (σ:St) (pl:Plan):St:=match pl.s with
 | some (d,s)=>(σ.app pl.eff).putS d s
 | none=>σ.app pl.eff
theorem tz (σ:St) (d:Nat) (s:SlotV):(σ.putS d s).look=σ.look.setS d (some s):=by
 simp only[St.putS,St.look,Look.setS]
 congr 1
 funext i
 simp only[fJ,ak]
 by_cases h:i=d
 ·simp[h]
 ·simp[h]
theorem Cm (σ:St) (e:Eff):(σ.app e).look=σ.look.app e:=by
 cases e with
 | none=>rfl
 | alloc b l=>simp only[St.app,St.look,Look.app,Look.setH];congr 1;funext i;exact ak _ _ _ _
 | store b l=>simp only[St.app,St.look,Look.app,Look.setH];congr 1;funext i;exact ak _ _ _ _
 | row k r o =>
  cases o with
  | none=>simp only[St.app,St.look,Look.app,Look.setR];congr 1;funext i;exact ak _ _ _ _
  | some o=>simp only[St.app,St.look,Look.app,Look.setR];congr 1;funext i;simp only[ak]
 | rset k e l =>
  simp only[St.app]
  split
  ·rename_i x hx
   simp only[St.look,Look.app]
   congr 1
   funext i
   rw[ak,hx]
  ·rename_i hx
   simp only[St.look,Look.app]
   congr 1
   funext i
   by_cases h:i=k
   ·rw[if_pos h,hx,h]
    have:∀y:Option RowS,wz e l y=none->y=none:=fun y hy=>by
     unfold wz at hy
     split at hy
     ·split at hy<;>cases hy
     ·exact hy
    exact this _ hx
   ·rw[if_neg h]
 | rkill l=>simp only[St.app,St.look,Look.app];congr 1;funext i;exact kc l σ.r i
 | xset k x u=>simp only[St.app,St.look,Look.app];congr 1;funext i;rw[ak,kc]
theorem GP (σ:St) (pl:Plan):(σ.plan pl).look=σ.look.plan pl:=by
 unfold St.plan Look.plan
 cases pl.s with
 | none=>exact Cm σ pl.eff
 | some d=>simp only[tz,Cm]
structure Ent where
 looks:List Nat
 tb:List Nat
 tr:List Nat
 tm:Bool
 deps:List Nat
 pl:Plan
def HY:At->List Nat
 | .ptr b _=>[b]
 | .clo _ cap=>cap.map (·.1)
 | .ae b _ _ _ _ _=>[b]
 | _=>[]
def vC:List At->List Nat
 | []=>[]
 | x ::r=>HY x++vC r
def Pe:List (Bool×List At)->List Nat
 | []=>[]
 | x ::r=>vC x.2++Pe r
def HN:SV->List Nat
 | .c _ l=>vC l
 | .tup l=>Pe l
def P7 (sl:Nat->Option SlotV):List Operand->List Nat
 | []=>[]
 | x ::r=>match uD sl x with
  | some s=>HN s++P7 sl r
  | none=>P7 sl r
def iK (i:Nat):List Nat->Bool
 | []=>false
 | j ::r=>match Nat.beq i j with
  | true=>true
  | false=>iK i r
theorem cI {i:Nat}:∀{l:List Nat},iK i l=true↔i ∈ l
 | []=>by simp[iK]
 | j ::r=>by
  simp only[iK]
  split
  ·rename_i h
   have h:i=j:=by simpa using h
   simp[h]
  ·rename_i h
   have h:i≠j:=by intro e;subst e;simp at h
   simp[cI (l:=r),h]
def bkT (tb:List Nat) (h:Nat->Option (List At)) (i:Nat):Option (List At):=match iK i tb with
 | true=>h i
 | false=>none
def qD (l:List Nat):List Nat->Bool
 | []=>true
 | j ::r=>!iK j l&&qD l r
def oG (ro roR:List Nat) (r:Rk):Eff->Bool
 | .none=>true
 | .alloc b _=>!iK b ro
 | .store b _=>!iK b ro
 | .row k _ (some o)=>!iK k roR&&!iK o roR
 | .row k _ none=>!iK k roR
 | .rset k e _=>!iK k roR&&(match r k with
  | some (.some ri)=>(Sh.eq? e ri.e).isSome
  | _=>false)
 | .rkill l=>qD roR l
 | .xset k _ u=>!iK k roR&&qD roR u
def aa {T R:Type} (m:Option T) (k:T->Option R):Option R:=Option.rec none k m
theorem rM {T R:Type} {m:Option T} {k:T->Option R} {z:R} (h:aa m k=some z):∃t,m=some t/\k t=some z:=by
 cases m with
 | none=>cases h
 | some t=>exact ⟨t,rfl,h⟩
def MA:Op->Bool
 | .move _=>true
 | .assign _=>true
 | .nilCheck _=>true
 | .fieldAddr ..=>true
 | _=>false
def DN (σ:St) (o:Oper):List Nat:=match MA o.op with
 | true=>[σ.next]
 | false=>σ.next ::P7 σ.look.s o.op.operands.toList
theorem tG {σ:St} {o:Oper}:σ.next ∈ DN σ o:=by unfold DN;split<;>simp
def ue:At->List Nat
 | .row r=>[r]
 | .re r _ _ _=>[r]
 | .sub r _ _ _=>[r]
 | .ir r _=>[r]
 | .ie r _ _ _ _=>[r]
 | _=>[]
def oH:List At->List Nat
 | []=>[]
 | x ::r=>ue x++oH r
def KV:List (Bool×List At)->List Nat
 | []=>[]
 | x ::r=>oH x.2++KV r
def Ct:SV->List Nat
 | .c _ l=>oH l
 | .tup l=>KV l
def KD (sl:Nat->Option SlotV):List Operand->List Nat
 | []=>[]
 | x ::r=>match uD sl x with
  | some s=>Ct s++KD sl r
  | none=>KD sl r
def I8 (h:Nat->Option (List At)):List Nat->List Nat
 | []=>[]
 | b ::r=>match h b with
  | some l=>oH l++I8 h r
  | none=>I8 h r
def trB (σ:St) (o:Oper):List Nat:=match o.op with
 | .call _=>I8 σ.look.h (DN σ o)
 | _=>[]
def DZ (σ:St) (o:Oper):List Nat:=σ.next ::(KD σ.look.s o.op.operands.toList++trB σ o)
def fZ:Option RowS->Option RowS
 | some (.some ri)=>some (.some ⟨ri.t,ri.e,ri.n,[]⟩)
 | x=>x
def rkT (o:Oper) (tr:List Nat) (r:Rk) (i:Nat):Option RowS:=match iK i tr with
 | true=>(match fC o with
  | true=>fZ (r i)
  | false=>r i)
 | false=>none
theorem zl {o:Oper} {tr:List Nat} {r:Rk} (h:fC o=false) {i:Nat} {x:RowS} (hx:rkT o tr r i=some x):i ∈ tr/\r i=some x:=by
 unfold rkT at hx
 split at hx
 ·rename_i hm
  rw[h] at hx
  exact ⟨cI.1 hm,hx⟩
 ·cases hx
theorem w6 {x:Option RowS} {ri:RowI} (h:fZ x=some (.some ri)):∃rj,x=some (.some rj)/\rj.t=ri.t/\rj.e=ri.e/\rj.n=ri.n:=by
 unfold fZ at h
 split at h
 ·rename_i rj
  simp only[Option.some.injEq,RowS.some.injEq] at h
  subst h
  exact ⟨rj,rfl,rfl,rfl,rfl⟩
 ·exact ⟨ri,h,rfl,rfl,rfl⟩
theorem wX {o:Oper} {tr:List Nat} {r:Rk} {i:Nat} {ri:RowI} (hx:rkT o tr r i=some (.some ri)):i ∈ tr/\∃rj,r i=some (.some rj)/\rj.t=ri.t/\rj.e=ri.e/\rj.n=ri.n:=by
 unfold rkT at hx
 split at hx
 ·rename_i hm
  refine ⟨cI.1 hm,?_⟩
  split at hx
  ·exact w6 hx
  ·exact ⟨ri,hx,rfl,rfl,rfl⟩
 ·cases hx
theorem FI {y:Option RowS} {x:XI} (h:fZ y=some (.x x)):y=some (.x x):=by
 unfold fZ at h
 split at h
 ·cases h
 ·exact h
theorem LG {o:Oper} {tr:List Nat} {r:Rk} {i:Nat} {x:XI} (hx:rkT o tr r i=some (.x x)):i ∈ tr/\r i=some (.x x):=by
 unfold rkT at hx
 split at hx
 ·rename_i hm
  refine ⟨cI.1 hm,?_⟩
  split at hx
  ·exact FI hx
  ·exact hx
 ·cases hx
theorem vA {o:Oper} {tr:List Nat} {r:Rk} {i:Nat} (hi:i ∈ tr) (hx:rkT o tr r i=none):r i=none:=by
 unfold rkT at hx
 rw[cI.2 hi] at hx
 simp only at hx
 split at hx
 ·unfold fZ at hx
  split at hx
  ·cases hx
  ·exact hx
 ·exact hx
def EV (ops:Array Oper) (σ:St) (o:Oper) (pl:Plan):Ent:=⟨o.looksAt ops,DN σ o,DZ σ o,fC o,(o.after.toList.filter (Region.binds .any)).map (·.on),pl⟩
def St.step (σ:St) (pl:Plan):St:={ σ.plan pl with next:=σ.next+1 }
def stepAt (C:Ctx) (N:Nat) (ops:Array Oper) (σ:St) (o:Oper):Option Stp:=tE C N ops σ.look.s (bkT (DN σ o) σ.look.h) (rkT o (DZ σ o) σ.look.r) σ.next o
def JZ (C:Ctx) (N:Nat) (ops:Array Oper) {R:Type}:List Oper->St->(List Ent->St->Option R)->Option R
 | [],σ,K=>K [] σ
 | o ::r,σ,K=>match stepAt C N ops σ o with
  | some (.one p pl)=>match oG σ.ro σ.roR σ.look.r pl.eff with
   | true=>jo p (JZ C N ops r (σ.step pl) fun es σ'=>K (EV ops σ o pl ::es) σ')
   | false=>none
  | some (.call p _ m f)=>jo p (aa m fun t=>match oG σ.ro σ.roR σ.look.r (f t).eff with
   | true=>JZ C N ops r (σ.step (f t)) fun es σ'=>K (EV ops σ o (f t) ::es) σ'
   | false=>none)
  | _=>none
abbrev Inl:=(R:Type)->FuncId->List SV->St->(List SV->St->Option R)->Option R
def qd:List SV->Option (List (Bool×List At))
 | []=>some []
 | .c ag l ::r=>match qd r with
  | some m=>some ((ag,l) ::m)
  | none=>none
 | .tup _ ::_=>none
def yg:List SV->Option SV
 | [v]=>some v
 | l=>match qd l with
  | some m=>some (.tup m)
  | none=>none
def St.back (σ σ':St) (d:Option Nat) (sv:SV):St:=match d with
 | some d=>({ σ' with s:=σ.s }:St).putS d ⟨none,sv⟩
 | none=>{ σ' with s:=σ.s }
def Ej (rec:Inl) (C:Ctx) (N:Nat) (ops:Array Oper) {R:Type}:List Oper->St->(St->Option R)->Option R
 | [],σ,K=>K σ
 | o ::r,σ,K=>match stepAt C N ops σ o with
  | some (.one p pl)=>match oG σ.ro σ.roR σ.look.r pl.eff with
   | true=>jo p (Ej rec C N ops r (σ.step pl) K)
   | false=>none
  | some (.call p _ m f)=>jo p (aa m fun t=>match oG σ.ro σ.roR σ.look.r (f t).eff with
   | true=>Ej rec C N ops r (σ.step (f t)) K
   | false=>none)
  | some (.inl p id args)=>jo p (rec R id args { σ with s:=[],next:=σ.next+1 } fun svs σ'=>match yg svs with
   | some sv=>Ej rec C N ops r (σ.back σ' o.dst sv) K
   | none=>none)
  | none=>none
def Hk (C:Ctx) (N:Nat) (ops:Array Oper):List Oper->St->List Ent->St->Prop
 | [],σ,es,σ'=>es=[]/\σ'=σ
 | o ::r,σ,es,σ'=>∃pl es',yQ C N ops σ.look.s (bkT (DN σ o) σ.look.h) (rkT o (DZ σ o) σ.look.r) σ.next o pl/\oG σ.ro σ.roR σ.look.r pl.eff=true/\es=EV ops σ o pl ::es'/\Hk C N ops r (σ.step pl) es' σ'
theorem vt {C:Ctx} {N:Nat} {ops:Array Oper} {R:Type} {z:R}:∀{l:List Oper} {σ:St} {K:List Ent->St->Option R},JZ C N ops l σ K=some z->∃es σ',Hk C N ops l σ es σ'/\K es σ'=some z
 | [],σ,K,h=>⟨[],σ,⟨rfl,rfl⟩,h⟩
 | o ::r,σ,K,h=>by
  simp only[JZ] at h
  split at h
  ·rename_i p pl hst
   split at h
   ·rename_i he
    obtain ⟨hp,h⟩:=eI h
    obtain ⟨es,σ',h1,h2⟩:=vt h
    exact ⟨_,σ',⟨pl,es,⟨_,hst,hp,rfl⟩,he,rfl,h1⟩,h2⟩
   ·cases h
  ·rename_i p T m f hst
   obtain ⟨hp,h⟩:=eI h
   obtain ⟨t,ht,h⟩:=rM h
   split at h
   ·rename_i he
    obtain ⟨es,σ',h1,h2⟩:=vt h
    exact ⟨_,σ',⟨f t,es,⟨_,hst,hp,t,ht,rfl⟩,he,rfl,h1⟩,h2⟩
   ·cases h
  ·cases h
theorem yh (σ:St) (pl:Plan):(σ.step pl).look=σ.look.plan pl:=GP σ pl
structure MemOk (E:Env) (g:Look):Prop where
 glob:Glob E g
 blks:∀i l,g.h i=some l->uk E i l
 rows:∀i r,g.r i=some (.some r)->pA E i r
 xs:∀i x,g.r i=some (.x x)->XOk E i x
theorem Glob.of {E:Env} {g g':Look} (h:Glob E g) (hh:g'.h=g.h) (hr:g'.r=g.r):Glob E g':=by
 obtain ⟨gs,gh,gr⟩:=g;obtain ⟨gs',gh',gr'⟩:=g'
 simp only at hh hr;subst hh;subst hr
 exact ⟨h.below,h.zlt,h.z0,h.zfrom,h.live,h.rlive,h.own,h.inj,h.rown,h.rinj,⟨h.xg.own,h.xg.inj⟩⟩
theorem MemOk.of {E:Env} {g g':Look} (h:MemOk E g) (hh:g'.h=g.h) (hr:g'.r=g.r):MemOk E g' :=
 ⟨h.glob.of hh hr,fun i l hi=>h.blks i l (by rw[<-hh];exact hi),fun i r hi=>h.rows i r (by rw[<-hr];exact hi),fun i x hi=>h.xs i x (by rw[<-hr];exact hi)⟩
theorem Mod.memOk {N:Nat} {E:Env} {a:Act} {g:Look} (h:Mod N E a g):MemOk E g:=⟨h.glob,h.blks,h.rows,h.xs⟩
structure Fr (σ σ':St):Prop where
 ro:σ'.ro=σ.ro
 roR:σ'.roR=σ.roR
 h:∀i ∈ σ.ro,look σ'.h i=look σ.h i
 r:∀i ∈ σ.roR,look σ'.r i=look σ.r i
theorem Fr.refl (σ:St):Fr σ σ:=⟨rfl,rfl,fun _ _=>rfl,fun _ _=>rfl⟩
theorem Fr.trans {σ σ' σ'':St} (h:Fr σ σ') (h':Fr σ' σ''):Fr σ σ'' :=
 ⟨h'.ro.trans h.ro,h'.roR.trans h.roR,fun i hi=>(h'.h i (by rw[h.ro];exact hi)).trans (h.h i hi),fun i hi=>(h'.r i (by rw[h.roR];exact hi)).trans (h.r i hi)⟩
theorem fK {l:List Nat}:∀{m:List Nat},qD l m=true->∀i ∈ m,i ∉ l
 | j ::r,h,i,hi=>by
  simp only[qD,z10,Bool.not_eq_true'] at h
  rcases List.mem_cons.1 hi with rfl | hi
  ·intro hm;rw[cI.2 hm] at h;cases h.1
  ·exact fK h.2 i hi
theorem pV {i:Nat} {l:List Nat} (h:(!iK i l)=true):i ∉ l:=fun hm=>by
 rw[cI.2 hm] at h;cases h
theorem Ql {σ:St} {e:Eff} (h:oG σ.ro σ.roR σ.look.r e=true):Fr σ (σ.app e):=by
 cases e with
 | none=>exact Fr.refl σ
 | alloc b l=>exact ⟨rfl,rfl,fun i hi=>by simp only[St.app];rw[ak,if_neg (fun e=>pV h (by rw[<-e];exact hi))],fun _ _=>rfl⟩
 | store b l=>exact ⟨rfl,rfl,fun i hi=>by simp only[St.app];rw[ak,if_neg (fun e=>pV h (by rw[<-e];exact hi))],fun _ _=>rfl⟩
 | row k r o =>
  cases o with
  | none=>exact ⟨rfl,rfl,fun _ _=>rfl,fun i hi=>by simp only[St.app];rw[ak,if_neg (fun e=>pV h (by rw[<-e];exact hi))]⟩
  | some o =>
   simp only[oG,z10] at h
   exact ⟨rfl,rfl,fun _ _=>rfl,fun i hi=>by simp only[St.app];rw[ak,if_neg (fun e=>pV h.1 (by rw[<-e];exact hi)),ak,if_neg (fun e=>pV h.2 (by rw[<-e];exact hi))]⟩
 | rset k e l =>
  simp only[St.app]
  split
  ·exact ⟨rfl,rfl,fun _ _=>rfl,fun i hi=>by simp only;rw[ak,if_neg (fun e=>pV (by simp only[oG,z10] at h;exact h.1) (by rw[<-e];exact hi))]⟩
  ·exact Fr.refl σ
 | rkill l=>exact ⟨rfl,rfl,fun _ _=>rfl,fun i hi=>by simp only[St.app];rw[kc,if_neg (fun e=>fK h i e hi)]⟩
 | xset k x u =>
  simp only[oG,z10] at h
  exact ⟨rfl,rfl,fun _ _=>rfl,fun i hi=>by simp only[St.app];rw[ak,if_neg (fun e=>pV h.1 (by rw[<-e];exact hi)),kc,if_neg (fun e=>fK h.2 i e hi)]⟩
theorem ve {σ:St} {pl:Plan} (h:oG σ.ro σ.roR σ.look.r pl.eff=true):Fr σ (σ.plan pl):=by
 have:=Ql h
 unfold St.plan
 split
 ·exact ⟨this.ro,this.roR,this.h,this.r⟩
 ·exact this
theorem zt {σ:St} {pl:Plan} (h:oG σ.ro σ.roR σ.look.r pl.eff=true):Fr σ (σ.step pl):=⟨(ve h).ro,(ve h).roR,(ve h).h,(ve h).r⟩
theorem Ow (σ:St) (e:Eff):(σ.app e).s=σ.s:=by
 cases e with
 | row k r o=>cases o<;>rfl
 | rset k e l=>simp only[St.app];split<;>rfl
 | _=>rfl
theorem G6 {C:Ctx} {N:Nat} {ops:Array Oper} {sl:Nat->Option SlotV} {bk:Nat->Option (List At)} {rk:Rk} {b:Nat} {o:Oper} {pl:Plan} (h:yQ C N ops sl bk rk b o pl):∀d s,pl.s=some (d,s)->o.dst=some d:=by
 have aux:∀(f:Nat->Nat×SlotV),(∀d,(f d).1=d)->∀d s,o.dst.map f=some (d,s)->o.dst=some d:=by
  intro f hf d s h
  cases hd:o.dst with
  | none=>rw[hd] at h;cases h
  | some d' =>
   rw[hd] at h
   simp only[Option.map_some,Option.some.injEq] at h
   have:=hf d'
   rw[h] at this
   rw[<-this]
 obtain ⟨st,h,hst⟩:=h
 unfold tE at h
 split at h
 ·cases h
 ·split at h
  ·cases h
  ·split at h
   ·injection h with h;subst h;obtain ⟨_,rfl⟩:=hst;exact aux _ fun _=>rfl
   ·injection h with h;subst h;obtain ⟨_,t,_,rfl⟩:=hst;exact aux _ fun _=>rfl
   ·injection h with h;subst h;exact hst.elim
   ·cases h
  ·split at h
   ·split at h
    ·injection h with h;subst h;obtain ⟨_,rfl⟩:=hst;exact aux _ fun _=>rfl
    ·cases h
   ·split at h
    ·injection h with h;subst h;obtain ⟨_,t,_,rfl⟩:=hst;exact aux _ fun _=>rfl
    ·cases h
   ·cases h
theorem vM {C:Ctx} {N:Nat} {ops:Array Oper} {sl:Nat->Option SlotV} {bk:Nat->Option (List At)} {rk:Rk} {b:Nat} {o:Oper} {σ:St} {pl:Plan} (h:yQ C N ops sl bk rk b o pl) {i:Nat} (hi:o.dst≠some i):look (σ.step pl).s i=look σ.s i:=by
 show look (σ.plan pl).s i=look σ.s i
 unfold St.plan
 split
 ·rename_i d s hs
  have hd:=G6 h d s hs
  show look ((d,some s) ::(σ.app pl.eff).s) i=_
  rw[ak,if_neg (fun e=>hi (by rw[e,hd])),Ow]
 ·rw[Ow]
theorem Hk.frame {C:Ctx} {N:Nat} {ops:Array Oper}:∀{l:List Oper} {σ σ':St} {es:List Ent},Hk C N ops l σ es σ'->Fr σ σ'/\∀i,i ∉ l.filterMap (·.dst)->look σ'.s i=look σ.s i
 | [],σ,σ',es,h=>by
  obtain ⟨_,rfl⟩:=h
  exact ⟨Fr.refl _,fun _ _=>rfl⟩
 | o ::r,σ,σ',es,h=>by
  obtain ⟨pl,es',h1,h2,_,h4⟩:=h
  obtain ⟨h5,h6⟩:=h4.frame
  refine ⟨(zt h2).trans h5,fun i hi=>?_⟩
  have hd:o.dst≠some i:=fun e=>hi (by rw[List.filterMap_cons,e];simp)
  rw[h6 i fun hm=>hi (by
   rw[List.filterMap_cons]
   split
   ·exact hm
   ·exact List.mem_cons_of_mem _ hm),vM h1 hd]
def RoR (σ:St):Prop:=∀i ∈ σ.roR,(look σ.r i).isSome=true
theorem RoR.fr {σ σ':St} (h:RoR σ) (hf:Fr σ σ'):RoR σ':=fun i hi=>by
 rw[hf.roR] at hi
 rw[hf.r i hi]
 exact h i hi
def Bd (C:Ctx) (rec:Inl):Prop:=∀(R:Type) id args σ K (z:R),rec R id args σ K=some z->RoR σ->∀E,MemOk E σ.look->E.P=C.P->∀vs:Array Value,eP E args vs.toList->∀post:Ending->World->Prop,
 (∀svs σ' E' v,K svs σ'=some z->eM E E'->Keep E E'->Fr σ σ'->MemOk E' σ'.look->(∀sv,yg svs=some sv->cd E' sv v)->post (.returned v) E'.w)->Calls C.P id vs E.w post
section
variable {N:Nat} {E:Env} {a:Act}
theorem zh {tb:List Nat} {h:Nat->Option (List At)} {i:Nat} {l:List At} (hh:bkT tb h i=some l):i ∈ tb/\h i=some l:=by
 unfold bkT at hh
 split at hh
 ·rename_i hm
  exact ⟨cI.1 hm,hh⟩
 ·cases hh
theorem w5 {tb:List Nat} {h:Nat->Option (List At)} {i:Nat} (hi:i ∈ tb) (hh:bkT tb h i=none):h i=none:=by
 unfold bkT at hh
 rw[cI.2 hi] at hh
 exact hh
theorem Eo {C:Ctx} {ops:Array Oper} {sl:Nat->Option SlotV} {bk:Nat->Option (List At)} {rk:Rk} {b:Nat} {o:Oper} {p:List Bool} {id:FuncId} {args:List SV} (h:tE C N ops sl bk rk b o=some (.inl p id args)) :
  B9 N o.dst=true/\wd ops sl o.guard=.always/\BP C .always sl bk rk b o=some (p,.inl id args):=by
 unfold tE at h
 split at h
 ·cases h
 ·rename_i hd
  split at h
  ·cases h
  ·rename_i hg
   split at h<;>first | (cases h;done) | (injection h with h;cases h;done) | skip
   rename_i p' id' args' hc
   injection h with h
   injection h with h1 h2 h3
   subst h1;subst h2;subst h3
   exact ⟨hd,hg,hc⟩
  ·split at h
   ·split at h<;>first | (injection h with h;cases h) | cases h
   ·split at h<;>first | (injection h with h;cases h) | cases h
   ·cases h
theorem Mod.slots_keep {a':Act} {g g':Look} {E':Env} (hm:Mod N E a g) (hk:Keep E E') (hm':MemOk E' g') (hs:g'.s=g.s) (ha:a'=a):Mod N E' a' g':=by
 subst ha
 exact ⟨hm'.glob,hk.marks hm.nodef,hm.size,fun i s hi=>by
  rw[hs] at hi
  obtain ⟨v,h1,h2⟩:=hm.slots i s hi
  exact ⟨v,h1,hk.S h2⟩,hm'.blks,hm'.rows,hm'.xs⟩
theorem CZ {rec:Inl} {C:Ctx} (hC:C.ok) (hI:Bd C rec) {F:Fence} {n:Nat} (hW:pR F) {ops:Array Oper} {Q:Exit->Act->World->Prop} {R:Type} {z:R}:∀{l:List Oper} {σ:St} {K:St->Option R} {E:Env} {a:Act},tY l=true->Ej rec C N ops l σ K=some z->RoR σ->E.P=C.P ->
  Mod N E a σ.look->(∀σ' E' a',K σ'=some z->eM E E'->Keep E E'->Fr σ σ'->(∀i,i ∉ l.filterMap (·.dst)->look σ'.s i=look σ.s i)->Mod N E' a' σ'.look->Q .normal a' E'.w)->wpListIn F n C.P ops Q l a E.w
 | [],σ,K,E,a,_,h,_,hP,hm,hQ=>hQ σ E a h rfl (Keep.refl E) (Fr.refl σ) (fun _ _=>rfl) hm
 | o ::r,σ,K,E,a,hnd,h,hro,hP,hm,hQ=>by
  obtain ⟨hnd1,hnd2⟩:=vm hnd
  simp only[Ej] at h
  have dstne:∀i,i ∉ (o ::r).filterMap (·.dst)->o.dst≠some i/\i ∉ r.filterMap (·.dst):=fun i hi=>by
   rw[List.filterMap_cons] at hi
   split at hi
   ·rename_i hd;exact ⟨by rw[hd];simp,hi⟩
   ·rename_i d hd
    rw[hd]
    simp only[List.mem_cons,not_or] at hi
    exact ⟨fun e=>hi.1 (by injection e with e;exact e.symm),hi.2⟩
  have go:∀pl,yQ C N ops σ.look.s (bkT (DN σ o) σ.look.h) (rkT o (DZ σ o) σ.look.r) σ.next o pl->oG σ.ro σ.roR σ.look.r pl.eff=true->Ej rec C N ops r (σ.step pl) K=some z->wpListIn F n C.P ops Q (o ::r) a E.w:=by
   intro pl hpl he hr
   have hs:=Fa (K:=wpListIn F n C.P ops Q r) (Q:=Q) (X:=False) hC hP hpl hm (fun _ _=>rfl) (fun i l hi=>(zh hi).2) (fun hb=>w5 tG hb) (fun hmo _ _ h=>(zl hmo h).2) (fun _ _ h=>by obtain ⟨_,rj,h1,_,h2,h3⟩:=wX h;exact ⟨rj,h1,h2,h3⟩) (fun _ _ h=>(LG h).2) (fun h=>vA (by simp[DZ]) h)
    (fun E' a' h0 hk0 hm'=>CZ hC hI hW hnd2 hr (hro.fr (zt he)) (h0.P.trans hP) (by rw[yh];exact hm') fun σ' E'' a'' hz h1 hk1 hf hsl hm'' =>
     hQ σ' E'' a'' hz (h0.trans h1) (hk0.trans hk1) ((zt he).trans hf) (fun i hi=>(hsl i (dstne i hi).2).trans (vM hpl (dstne i hi).1)) hm'')
   unfold wpListIn
   split at hs
   ·rename_i hw
    rw[if_pos hw]
    exact IY hW hnd1 (hs.resolve_right id)
   ·rename_i hw
    rw[if_neg hw]
    exact ⟨fun f _=>hW.fn f,hs⟩
  split at h
  ·rename_i p pl hst
   split at h
   ·rename_i he
    obtain ⟨hp,h⟩:=eI h
    exact go pl ⟨_,hst,hp,rfl⟩ he h
   ·cases h
  ·rename_i p T m f hst
   obtain ⟨hp,h⟩:=eI h
   obtain ⟨t,ht,h⟩:=rM h
   split at h
   ·rename_i he
    exact go (f t) ⟨_,hst,hp,t,ht,rfl⟩ he h
   ·cases h
  ·rename_i p id args hst
   obtain ⟨hp,h⟩:=eI h
   obtain ⟨hd,hg,hc⟩:=Eo hst
   have hgr:=xR hm (ops:=ops) (o:=o) (sl:=σ.look.s) (fun _ _=>rfl)
   rw[hg] at hgr
   simp only at hgr
   obtain ⟨vs,hrun,hvs⟩:=pg hC hP hc hp hm (fun _ _=>rfl) (fun i l hi=>(zh hi).2) (fun hb=>w5 tG hb) (fun hmo _ _ h=>(zl hmo h).2) (fun _ _ h=>by obtain ⟨_,rj,h1,_,h2,h3⟩:=wX h;exact ⟨rj,h1,h2,h3⟩) (fun _ _ h=>(LG h).2) (fun h=>vA (by simp[DZ]) h) (fun c hc=>hc)
   unfold wpListIn
   rw[if_pos hgr]
   refine IY hW hnd1 ?_
   unfold Oper.wp
   rw[hrun]
   refine hI R id args _ _ z h (fun i hi=>hro i hi) E (hm.memOk.of rfl rfl) hP vs hvs _ fun svs σ' E' v hk h0 hk0 hf hmem hret=>?_
   split at hk
   ·rename_i sv hsv
    have hrel:=hret sv hsv
    have hmb:Mod N E' a (({ σ' with s:=σ.s }:St)).look:=hm.slots_keep hk0 (hmem.of rfl rfl) rfl rfl
    have hmod:Mod N E' (a.put o.dst v) (σ.back σ' o.dst sv).look:=by
     unfold St.back
     cases hdd:o.dst with
     | none=>exact hmb
     | some d =>
      rw[hdd] at hd
      simp only[tz]
      exact hmb.put (by simp[B9,Nat.blt] at hd;omega) hrel
    have hfb:Fr σ (σ.back σ' o.dst sv):=by
     unfold St.back
     cases o.dst<;>exact ⟨hf.ro,hf.roR,hf.h,hf.r⟩
    have hsb:∀i,o.dst≠some i->look (σ.back σ' o.dst sv).s i=look σ.s i:=fun i hi=>by
     unfold St.back
     cases hdd:o.dst with
     | none=>rfl
     | some d =>
      show look ((d,some _) ::σ.s) i=_
      rw[ak,if_neg (fun e=>hi (by rw[hdd,e]))]
    exact CZ hC hI hW hnd2 hk (hro.fr hfb) (h0.P.trans hP) hmod fun σ2 E2 a2 hz h1 hk1 hf1 hsl hm2 =>
     hQ σ2 E2 a2 hz (h0.trans h1) (hk0.trans hk1) (hfb.trans hf1) (fun i hi=>(hsl i (dstne i hi).2).trans (hsb i (dstne i hi).1)) hm2
   ·cases hk
  ·cases h
end
end
end Dn
namespace Dn
noncomputable section
open Go.RowKit
def Ent.w (e:Ent):Option Nat:=match e.pl.eff with
 | .alloc b _=>some b
 | .store b _=>some b
 | _=>none
def Ent.d (e:Ent):Option Nat:=match e.pl.s with
 | some x=>some x.1
 | none=>none
def Hw:Eff->List Nat
 | .rset k _ _=>[k]
 | .row k _ (some o)=>[k,o]
 | .row k _ none=>[k]
 | .rkill l=>l
 | .xset k _ u=>k ::u
 | _=>[]
def Fy:Eff->Bool
 | .row ..=>true
 | .rkill _=>true
 | .xset ..=>true
 | _=>false
def Ent.c (e:Ent):List Nat:=Hw e.pl.eff
def Ent.hard (e:Ent):Bool:=Fy e.pl.eff
def Gh:Option Nat->List Nat->Bool
 | some d,l=>!iK d l
 | none,_=>true
def neO:Option Nat->Option Nat->Bool
 | some d,some e=>!Nat.beq d e
 | _,_=>true
def GI:List Nat->List Nat->Bool
 | [],_=>true
 | x ::l,m=>!iK x m&&GI l m
def mf (e f:Ent):Bool:=Gh e.d f.looks&&neO e.d f.d&&Gh f.d e.looks&&Gh e.w f.tb&&Gh f.w e.tb&&(GI e.c f.tr||(f.tm&&!e.hard))&&(GI f.c e.tr||(e.tm&&!f.hard))
def zB:List Ent->Nat->List Nat
 | [],_=>[]
 | e ::_,0=>e.deps
 | _ ::r,d+1=>zB r d
def zj (f:Nat->Bool):List Nat->Bool
 | []=>false
 | d ::r=>f d||zj f r
def zW (es:List Ent):Nat->Nat->Nat->Bool
 | 0,_,_=>false
 | n+1,i,j=>zj (fun d=>Nat.beq d i||(Nat.blt i d&&zW es n i d)) (zB es j)
def Mp (es:List Ent) (i:Nat) (e:Ent):Nat->List Ent->Bool
 | _,[]=>true
 | j,f ::r=>(mf e f||(iK i f.deps||zW es 8 i j))&&Mp es i e (j+1) r
def zg (i:Nat):List Nat->Bool
 | []=>true
 | d ::r=>Nat.blt d i&&zg i r
def Qu (e:Ent):Bool:=match e.w with
 | some b=>iK b e.tb
 | none=>true
def Mw:List Nat->List Nat->Bool
 | [],_=>true
 | x ::l,m=>iK x m&&Mw l m
def O4 (e:Ent):Bool:=match e.c with
 | []=>true
 | x ::l=>Mw (x ::l) e.tr&&!e.tm
def tI (es:List Ent):Nat->List Ent->Bool
 | _,[]=>true
 | i,e ::r=>Mp es i e (i+1) r&&zg i e.deps&&Qu e&&O4 e&&tI es (i+1) r
theorem yv:∀{l m:List Nat},GI l m=true->∀{x},x ∈ l->x ∉ m
 | [],_,_,_,h=>by cases h
 | y ::l,m,h,x,hx=>by
  simp only[GI,z10,Bool.not_eq_true'] at h
  rcases List.mem_cons.1 hx with rfl | hx
  ·intro hm
   rw[cI.2 hm] at h
   cases h.1
  ·exact yv h.2 hx
theorem xG:∀{l m:List Nat},Mw l m=true->∀{x},x ∈ l->x ∈ m
 | [],_,_,_,h=>by cases h
 | y ::l,m,h,x,hx=>by
  simp only[Mw,z10] at h
  rcases List.mem_cons.1 hx with rfl | hx
  ·exact cI.1 h.1
  ·exact xG h.2 hx
theorem ng {x:Option Nat} {l:List Nat} (h:Gh x l=true) {d:Nat} (hd:x=some d):d ∉ l:=by
 subst hd
 simp only[Gh,Bool.not_eq_true'] at h
 intro hm
 rw[cI.2 hm] at h
 cases h
theorem LC {x y:Option Nat} (h:neO x y=true) {d:Nat} (hx:x=some d) (hy:y=some d):False:=by
 subst hx;subst hy
 simp[neO] at h
inductive Awaits (es:List Ent):Nat->Nat->Prop
 | one {i j:Nat} {f:Ent}:es[j]?=some f->i ∈ f.deps->Awaits es i j
 | step {i d j:Nat} {f:Ent}:es[j]?=some f->d ∈ f.deps->Awaits es i d->Awaits es i j
theorem vT:∀{es:List Ent} {j d:Nat},d ∈ zB es j->∃f,es[j]?=some f/\d ∈ f.deps
 | [],_,_,h=>by simp[zB] at h
 | e ::_,0,_,h=>⟨e,rfl,h⟩
 | _ ::r,j+1,_,h=>by
  obtain ⟨f,h1,h2⟩:=vT (es:=r) (j:=j) h
  exact ⟨f,by simpa using h1,h2⟩
theorem uj {f:Nat->Bool}:∀{l:List Nat},zj f l=true->∃d ∈ l,f d=true
 | d ::r,h=>by
  simp only[zj,Bool.or_eq_true] at h
  rcases h with h | h
  ·exact ⟨d,by simp,h⟩
  ·obtain ⟨e,h1,h2⟩:=uj h
   exact ⟨e,List.mem_cons_of_mem _ h1,h2⟩
theorem ux {es:List Ent}:∀{n i j:Nat},zW es n i j=true->Awaits es i j
 | n+1,i,j,h=>by
  simp only[zW] at h
  obtain ⟨d,h1,h2⟩:=uj h
  obtain ⟨f,h3,h4⟩:=vT h1
  simp only[Bool.or_eq_true,z10,Nat.beq_eq] at h2
  rcases h2 with h2 | h2
  ·subst h2;exact .one h3 h4
  ·exact .step h3 h4 (ux h2.2)
theorem yK {es:List Ent} {i:Nat} {e:Ent}:∀{l:List Ent} {k j:Nat} {f:Ent},Mp es i e j l=true->l[k]?=some f->mf e f=true\/i ∈ f.deps\/Awaits es i (j+k)
 | [],k,j,f,_,hk=>by simp at hk
 | x ::r,k,j,f,h,hk=>by
  simp only[Mp,z10,Bool.or_eq_true] at h
  cases k with
  | zero =>
   simp only[List.getElem?_cons_zero,Option.some.injEq] at hk
   subst hk
   exact h.1.imp id fun h=>h.imp cI.1 ux
  | succ k =>
   simp only[List.getElem?_cons_succ] at hk
   have:=yK h.2 hk
   rwa [show j+1+k=j+(k+1) by omega] at this
theorem uy {i:Nat}:∀{l:List Nat},zg i l=true->∀d ∈ l,d<i
 | [],_,d,hd=>by cases hd
 | x ::r,h,d,hd=>by
  simp only[zg,z10,Nat.blt,Nat.ble_eq] at h
  rcases List.mem_cons.1 hd with rfl | hd
  ·omega
  ·exact uy h.2 d hd
structure Chk (es:List Ent):Prop where
 pair:∀(i j:Nat) (e f:Ent),i<j->es[i]?=some e->es[j]?=some f->mf e f=true\/Awaits es i j
 lt:∀(i:Nat) (e:Ent),es[i]?=some e->∀d ∈ e.deps,d<i
 own:∀(i:Nat) (e:Ent) (b:Nat),es[i]?=some e->e.w=some b->b ∈ e.tb
 ownc:∀(i:Nat) (e:Ent) (b:Nat),es[i]?=some e->b ∈ e.c->b ∈ e.tr/\e.tm=false
theorem Gi {e:Ent} (h:O4 e=true) {b:Nat} (hb:b ∈ e.c):b ∈ e.tr/\e.tm=false:=by
 unfold O4 at h
 split at h
 ·rename_i hc;rw[hc] at hb;cases hb
 ·rename_i x l hc
  simp only[z10,Bool.not_eq_true'] at h
  rw[hc] at hb
  exact ⟨xG h.1 hb,h.2⟩
theorem t6 {es:List Ent}:∀{l:List Ent} {n:Nat},tI es n l=true ->
  (∀(i j:Nat) (e f:Ent),i<j->l[i]?=some e->l[j]?=some f->mf e f=true\/n+i ∈ f.deps\/Awaits es (n+i) (n+j))/\(∀(i:Nat) (e:Ent),l[i]?=some e->∀d ∈ e.deps,d<n+i)/\(∀(i:Nat) (e:Ent) (b:Nat),l[i]?=some e->e.w=some b->b ∈ e.tb)/\(∀(i:Nat) (e:Ent) (b:Nat),l[i]?=some e->b ∈ e.c->b ∈ e.tr/\e.tm=false)
 | [],n,_=>⟨fun i j e f _ h=>by simp at h,fun i e h=>by simp at h,fun i e b h=>by simp at h,fun i e b h=>by simp at h⟩
 | x ::r,n,h=>by
  simp only[tI,z10] at h
  obtain ⟨⟨⟨⟨h1,h2⟩,h4⟩,h6⟩,h5⟩:=h
  obtain ⟨i1,i2,i4,i5⟩:=t6 h5
  refine ⟨fun i j e f hij hi hj=>?_,fun i e hi d hd=>?_,fun i e b hi hb=>?_,fun i e b hi hb=>?_⟩
  ·cases j with
   | zero=>omega
   | succ j =>
    simp only[List.getElem?_cons_succ] at hj
    cases i with
    | zero =>
     simp only[List.getElem?_cons_zero,Option.some.injEq] at hi
     subst hi
     have:=yK h1 hj
     rwa [show n+1+j=n+(j+1) by omega] at this
    | succ i =>
     simp only[List.getElem?_cons_succ] at hi
     have:=i1 i j e f (by omega) hi hj
     rwa [show n+1+i=n+(i+1) by omega,show n+1+j=n+(j+1) by omega] at this
  ·cases i with
   | zero =>
    simp only[List.getElem?_cons_zero,Option.some.injEq] at hi
    subst hi
    exact uy h2 d hd
   | succ i =>
    simp only[List.getElem?_cons_succ] at hi
    have:=i2 i e hi d hd
    omega
  ·cases i with
   | zero =>
    simp only[List.getElem?_cons_zero,Option.some.injEq] at hi
    subst hi
    simp only[Qu,hb] at h4
    exact cI.1 h4
   | succ i =>
    simp only[List.getElem?_cons_succ] at hi
    exact i4 i e b hi hb
  ·cases i with
   | zero =>
    simp only[List.getElem?_cons_zero,Option.some.injEq] at hi
    subst hi
    exact Gi h6 hb
   | succ i =>
    simp only[List.getElem?_cons_succ] at hi
    exact i5 i e b hi hb
theorem PC {es:List Ent} (h:tI es 0 es=true):Chk es:=by
 obtain ⟨h1,h2,h4,h5⟩:=t6 h
 exact ⟨fun i j e f hij hi hj=>by have:=h1 i j e f hij hi hj;simp only[Nat.zero_add] at this;exact this.imp id fun h=>h.elim (fun h=>.one hj h) id,fun i e hi d hd=>by have:=h2 i e hi d hd;omega,h4,h5⟩
def fil (g:Look) (p:Nat->Bool):Nat->List Ent->Look
 | _,[]=>g
 | i,e ::r=>fil (match p i with | true=>g.plan e.pl | false=>g) p (i+1) r
theorem DI (g:Look) (e:Ent) (t:Nat):(g.plan e.pl).s t=match e.pl.s with
  | some (d,s)=>if t=d then some s else g.s t
  | none=>g.s t:=by
 unfold Look.plan
 have happ:(g.app e.pl.eff).s=g.s:=by cases e.pl.eff<;>first | rfl | (rename_i k r o;cases o<;>rfl)
 cases e.pl.s with
 | none=>exact congrFun happ t
 | some d=>simp only[Look.setS,happ]
theorem Dw (g:Look) (e:Ent) (b:Nat):(g.plan e.pl).h b=match e.pl.eff with
  | .alloc i l=>if b=i then some l else g.h b
  | .store i l=>if b=i then some l else g.h b
  | _=>g.h b:=by
 unfold Look.plan
 cases e.pl.s<;>(cases e.pl.eff<;>first | rfl | (rename_i k r o;cases o<;>rfl))
def qy (f:Eff) (t:Nat) (x:Option RowS):Option RowS:=match f with
 | .row k r (some o)=>if t=k then some (.some r) else if t=o then some .none else x
 | .row k r none=>if t=k then some (.some r) else x
 | .rset k e l=>if t=k then wz e l x else x
 | .rkill l=>if t ∈ l then some .none else x
 | .xset k y u=>if t=k then some (.x y) else if t ∈ u then some .none else x
 | _=>x
theorem rp (g:Look) (e:Ent) (t:Nat):(g.plan e.pl).r t=qy e.pl.eff t (g.r t):=by
 unfold Look.plan
 cases e.pl.s<;>(cases he:e.pl.eff with
  | row k r o=>cases o<;>rfl
  | rset k s l =>
   simp only[Look.app,Look.setS,qy]
   by_cases h:t=k
   ·subst h;rfl
   ·rw[if_neg h,if_neg h]
  | _=>rfl)
theorem K8 {f:Eff} {t:Nat} {x:Option RowS} (h:t ∉ Hw f):qy f t x=x:=by
 cases f with
 | row k r o =>
  cases o<;>simp only[Hw,List.mem_cons,List.not_mem_nil,or_false,not_or] at h<;>simp[qy,h]
 | rset k s l=>simp only[Hw,List.mem_cons,List.not_mem_nil,or_false] at h;simp[qy,h]
 | rkill l=>simp only[Hw] at h;simp[qy,h]
 | xset k y u =>
  simp only[Hw,List.mem_cons,not_or] at h
  simp[qy,h.1,h.2]
 | _=>rfl
theorem ry (s:Sh) (l:List s.T) (x:Option RowS):fZ (wz s l x)=fZ x:=by
 unfold wz
 split
 ·split<;>rfl
 ·rfl
theorem Hu {f:Eff} {t:Nat} (h:Fy f=false) (x:Option RowS):fZ (qy f t x)=fZ x:=by
 cases f with
 | row k r o=>cases h
 | rkill l=>cases h
 | xset k y u=>cases h
 | rset k s l =>
  simp only[qy]
  split
  ·exact ry s l x
  ·rfl
 | _=>rfl
theorem F6 {f:Eff} {t:Nat} {x y:Option RowS} (h:fZ x=fZ y):fZ (qy f t x)=fZ (qy f t y):=by
 cases f with
 | row k r o=>cases o<;>simp only[qy]<;>split<;>first | rfl | (split<;>first | rfl | exact h) | exact h
 | rkill l=>simp only[qy];split<;>first | rfl | exact h
 | xset k y u=>simp only[qy];split<;>first | rfl | (split<;>first | rfl | exact h)
 | rset k s l =>
  simp only[qy]
  split
  ·rw[ry,ry];exact h
  ·exact h
 | _=>exact h
theorem nZ (g:Look) (e:Ent) (t:Nat) (h:t ∉ e.c):(g.plan e.pl).r t=g.r t:=by rw[rp,K8 h]
theorem rP (g:Look) (e:Ent) (t:Nat) (h:e.d≠some t):(g.plan e.pl).s t=g.s t:=by
 rw[DI]
 unfold Ent.d at h
 cases hs:e.pl.s with
 | none=>rfl
 | some x=>rw[hs] at h;simp only[ne_eq,Option.some.injEq] at h;exact if_neg (Ne.symm h)
theorem yd (g g':Look) (e:Ent) (t:Nat) (h:e.d=some t):(g.plan e.pl).s t=(g'.plan e.pl).s t:=by
 rw[DI,DI]
 unfold Ent.d at h
 cases hs:e.pl.s with
 | none=>rw[hs] at h;cases h
 | some x=>rw[hs] at h;simp only[Option.some.injEq] at h;simp[h]
theorem rT (g:Look) (e:Ent) (b:Nat) (h:e.w≠some b):(g.plan e.pl).h b=g.h b:=by
 rw[Dw]
 unfold Ent.w at h
 cases he:e.pl.eff<;>rw[he] at h<;>first | rfl | (simp only[ne_eq,Option.some.injEq] at h;exact if_neg (Ne.symm h))
theorem xM (g g':Look) (e:Ent) (b:Nat) (h:e.w=some b):(g.plan e.pl).h b=(g'.plan e.pl).h b:=by
 rw[Dw,Dw]
 unfold Ent.w at h
 cases he:e.pl.eff<;>rw[he] at h<;>first | cases h;done | (simp only[Option.some.injEq] at h;simp[h])
theorem Cn {p q:Nat->Bool} {t:Nat}:∀{l:List Ent} {i:Nat} {g g':Look},(∀(k:Nat) (e:Ent),l[k]?=some e->e.d=some t->p (i+k)=q (i+k))->g.s t=g'.s t->(fil g p i l).s t=(fil g' q i l).s t
 | [],i,g,g',_,h=>h
 | e ::r,i,g,g',hpq,h=>by
  simp only[fil]
  refine Cn (fun k f hk hd=>?_) ?_
  ·have:=hpq (k+1) f (by simpa using hk) hd
   rwa [show i+(k+1)=i+1+k by omega] at this
  ·by_cases hd:e.d=some t
   ·have:=hpq 0 e rfl hd
    simp only[Nat.add_zero] at this
    rw[this]
    cases q i
    ·exact h
    ·exact yd g g' e t hd
   ·have e1:(match p i with | true=>g.plan e.pl | false=>g).s t=g.s t:=by cases p i<;>first | rfl | exact rP g e t hd
    have e2:(match q i with | true=>g'.plan e.pl | false=>g').s t=g'.s t:=by cases q i<;>first | rfl | exact rP g' e t hd
    rw[e1,e2,h]
theorem AO {p q:Nat->Bool} {t:Nat}:∀{l:List Ent} {i:Nat} {g g':Look},(∀(k:Nat) (e:Ent),l[k]?=some e->e.w=some t->p (i+k)=q (i+k))->g.h t=g'.h t->(fil g p i l).h t=(fil g' q i l).h t
 | [],i,g,g',_,h=>h
 | e ::r,i,g,g',hpq,h=>by
  simp only[fil]
  refine AO (fun k f hk hd=>?_) ?_
  ·have:=hpq (k+1) f (by simpa using hk) hd
   rwa [show i+(k+1)=i+1+k by omega] at this
  ·by_cases hd:e.w=some t
   ·have:=hpq 0 e rfl hd
    simp only[Nat.add_zero] at this
    rw[this]
    cases q i
    ·exact h
    ·exact xM g g' e t hd
   ·have e1:(match p i with | true=>g.plan e.pl | false=>g).h t=g.h t:=by cases p i<;>first | rfl | exact rT g e t hd
    have e2:(match q i with | true=>g'.plan e.pl | false=>g').h t=g'.h t:=by cases q i<;>first | rfl | exact rT g' e t hd
    rw[e1,e2,h]
theorem BU {p q:Nat->Bool} {t:Nat}:∀{l:List Ent} {i:Nat} {g g':Look},(∀(k:Nat) (e:Ent),l[k]?=some e->t ∈ e.c->p (i+k)=q (i+k))->g.r t=g'.r t->(fil g p i l).r t=(fil g' q i l).r t
 | [],i,g,g',_,h=>h
 | e ::r,i,g,g',hpq,h=>by
  simp only[fil]
  refine BU (fun k f hk hd=>?_) ?_
  ·have:=hpq (k+1) f (by simpa using hk) hd
   rwa [show i+(k+1)=i+1+k by omega] at this
  ·by_cases hd:t ∈ e.c
   ·have:=hpq 0 e rfl hd
    simp only[Nat.add_zero] at this
    rw[this]
    cases q i
    ·exact h
    ·simp only[rp,h]
   ·have e1:(match p i with | true=>g.plan e.pl | false=>g).r t=g.r t:=by cases p i<;>first | rfl | exact nZ g e t hd
    have e2:(match q i with | true=>g'.plan e.pl | false=>g').r t=g'.r t:=by cases q i<;>first | rfl | exact nZ g' e t hd
    rw[e1,e2,h]
theorem xJ {p q:Nat->Bool} {t:Nat}:∀{l:List Ent} {i:Nat} {g g':Look},(∀(k:Nat) (e:Ent),l[k]?=some e->t ∈ e.c->e.hard=true->p (i+k)=q (i+k))->fZ (g.r t)=fZ (g'.r t)->fZ ((fil g p i l).r t)=fZ ((fil g' q i l).r t)
 | [],i,g,g',_,h=>h
 | e ::r,i,g,g',hpq,h=>by
  simp only[fil]
  refine xJ (fun k f hk hd hh=>?_) ?_
  ·have:=hpq (k+1) f (by simpa using hk) hd hh
   rwa [show i+(k+1)=i+1+k by omega] at this
  ·have same:e.hard=false\/t ∉ e.c->∀g:Look,fZ ((g.plan e.pl).r t)=fZ (g.r t):=fun ho g=>by
    rcases ho with ho | ho
    ·rw[rp];exact Hu ho _
    ·rw[nZ g e t ho]
   by_cases hd:t ∈ e.c/\e.hard=true
   ·have:=hpq 0 e rfl hd.1 hd.2
    simp only[Nat.add_zero] at this
    rw[this]
    cases q i
    ·exact h
    ·simp only[rp];exact F6 h
   ·have ho:e.hard=false\/t ∉ e.c:=by
     cases hh:e.hard with
     | false=>exact .inl rfl
     | true=>exact .inr fun hc=>hd ⟨hc,hh⟩
    have e1:fZ ((match p i with | true=>g.plan e.pl | false=>g).r t)=fZ (g.r t):=by cases p i<;>first | rfl | exact same ho g
    have e2:fZ ((match q i with | true=>g'.plan e.pl | false=>g').r t)=fZ (g'.r t):=by cases q i<;>first | rfl | exact same ho g'
    rw[e1,e2,h]
theorem BE {p:Nat->Bool} {t:Nat}:∀{l:List Ent} {i j:Nat} {g:Look} {e:Ent},l[j]?=some e->p (i+j)=true->e.d=some t->(∀(k:Nat) (f:Ent),j<k->l[k]?=some f->f.d=some t->p (i+k)=false)->∀g':Look,(fil g p i l).s t=(g'.plan e.pl).s t
 | [],i,j,g,e,h,_,_,_,_=>by simp at h
 | x ::r,i,0,g,e,h,hp,hd,hl,g'=>by
  simp only[List.getElem?_cons_zero,Option.some.injEq] at h
  subst h
  simp only[Nat.add_zero] at hp
  simp only[fil,hp]
  have:=Cn (p:=p) (q:=fun _=>false) (t:=t) (l:=r) (i:=i+1) (g:=g.plan x.pl) (g':=g.plan x.pl) (fun k f hk hf=>by
   have:=hl (k+1) f (by omega) (by simpa using hk) hf
   rwa [show i+(k+1)=i+1+k by omega] at this) rfl
  rw[this]
  have none_:∀(l:List Ent) (i:Nat) (g:Look),fil g (fun _=>false) i l=g:=by
   intro l
   induction l with
   | nil=>intro i g;rfl
   | cons y l ih=>intro i g;exact ih (i+1) g
  rw[none_]
  exact yd g g' x t hd
 | x ::r,i,j+1,g,e,h,hp,hd,hl,g'=>by
  simp only[List.getElem?_cons_succ] at h
  simp only[fil]
  refine BE (j:=j) h (by rwa [show i+1+j=i+(j+1) by omega]) hd (fun k f hk hf hfd=>?_) g'
  have:=hl (k+1) f (by omega) (by simpa using hf) hfd
  rwa [show i+(k+1)=i+1+k by omega] at this
theorem B6 {p:Nat->Bool} {t:Nat}:∀{l:List Ent} {i j:Nat} {g:Look} {e:Ent},l[j]?=some e->p (i+j)=true->e.w=some t->(∀(k:Nat) (f:Ent),j<k->l[k]?=some f->f.w=some t->p (i+k)=false)->∀g':Look,(fil g p i l).h t=(g'.plan e.pl).h t
 | [],i,j,g,e,h,_,_,_,_=>by simp at h
 | x ::r,i,0,g,e,h,hp,hd,hl,g'=>by
  simp only[List.getElem?_cons_zero,Option.some.injEq] at h
  subst h
  simp only[Nat.add_zero] at hp
  simp only[fil,hp]
  have:=AO (p:=p) (q:=fun _=>false) (t:=t) (l:=r) (i:=i+1) (g:=g.plan x.pl) (g':=g.plan x.pl) (fun k f hk hf=>by
   have:=hl (k+1) f (by omega) (by simpa using hk) hf
   rwa [show i+(k+1)=i+1+k by omega] at this) rfl
  rw[this]
  have none_:∀(l:List Ent) (i:Nat) (g:Look),fil g (fun _=>false) i l=g:=by
   intro l
   induction l with
   | nil=>intro i g;rfl
   | cons y l ih=>intro i g;exact ih (i+1) g
  rw[none_]
  exact xM g g' x t hd
 | x ::r,i,j+1,g,e,h,hp,hd,hl,g'=>by
  simp only[List.getElem?_cons_succ] at h
  simp only[fil]
  refine B6 (j:=j) h (by rwa [show i+1+j=i+(j+1) by omega]) hd (fun k f hk hf hfd=>?_) g'
  have:=hl (k+1) f (by omega) (by simpa using hf) hfd
  rwa [show i+(k+1)=i+1+k by omega] at this
theorem A4 (l:List Ent) (i:Nat) (g:Look) (p:Nat->Bool) (t:Nat) (h:∀(k:Nat) (f:Ent),l[k]?=some f->t ∈ f.c->p (i+k)=false):(fil g p i l).r t=g.r t:=by
 rw[BU (q:=fun _=>false) (g':=g) h rfl]
 have none_:∀(l:List Ent) (i:Nat) (g:Look),fil g (fun _=>false) i l=g:=by
  intro l
  induction l with
  | nil=>intro i g;rfl
  | cons y l ih=>intro i g;exact ih (i+1) g
 rw[none_]
theorem Bs {p q:Nat->Bool} {t:Nat}:∀{l:List Ent} {i j:Nat} {g g':Look} {e:Ent},l[j]?=some e->p (i+j)=true->q (i+j)=false->(∀k,k≠j->p (i+k)=q (i+k))->(∀(k:Nat) (f:Ent),j<k->l[k]?=some f->t ∈ f.c->p (i+k)=false) ->
  g.r t=g'.r t->(fil g p i l).r t=qy e.pl.eff t ((fil g' q i l).r t)
 | [],i,j,g,g',e,h,_,_,_,_,_=>by simp at h
 | x ::r,i,0,g,g',e,h,hp,hq,hpq,hl,hg=>by
  simp only[List.getElem?_cons_zero,Option.some.injEq] at h
  subst h
  simp only[Nat.add_zero] at hp hq
  simp only[fil,hp,hq]
  have hl':∀(k:Nat) (f:Ent),r[k]?=some f->t ∈ f.c->p (i+1+k)=false:=fun k f hk hf=>by
   have:=hl (k+1) f (by omega) (by simpa using hk) hf
   rwa [show i+(k+1)=i+1+k by omega] at this
  rw[A4 r (i+1) _ p t hl',A4 r (i+1) _ q t fun k f hk hf=>?_,rp,hg]
  have:=hpq (k+1) (by omega)
  rw[show i+(k+1)=i+1+k by omega] at this
  rw[<-this]
  exact hl' k f hk hf
 | x ::r,i,j+1,g,g',e,h,hp,hq,hpq,hl,hg=>by
  simp only[List.getElem?_cons_succ] at h
  simp only[fil]
  refine Bs (j:=j) h (by rwa [show i+1+j=i+(j+1) by omega]) (by rwa [show i+1+j=i+(j+1) by omega]) (fun k hk=>?_) (fun k f hk hf hfd=>?_) ?_
  ·have:=hpq (k+1) (by omega)
   rwa [show i+(k+1)=i+1+k by omega] at this
  ·have:=hl (k+1) f (by omega) (by simpa using hf) hfd
   rwa [show i+(k+1)=i+1+k by omega] at this
  ·have:=hpq 0 (by omega)
   simp only[Nat.add_zero] at this
   rw[this]
   cases q i
   ·exact hg
   ·simp only[rp,hg]
theorem xH {p:Nat->Bool}:∀{l:List Ent} {i:Nat} {g:Look},fil g p (i+1) l=fil g (fun k=>p (k+1)) i l
 | [],_,_=>rfl
 | e ::r,i,g=>by simp only[fil];exact xH
theorem Cs:∀{l:List Ent} {i:Nat} {g:Look},fil g (fun _=>true) i l=l.foldl (fun g e=>g.plan e.pl) g
 | [],_,_=>rfl
 | e ::r,i,g=>by simp only[fil,List.foldl_cons];exact Cs
structure At0 (C:Ctx) (N:Nat) (ops:Array Oper) (g:Look) (es:List Ent) (j:Nat) (o:Oper) (e:Ent):Prop where
 get:es[j]?=some e
 step:∃b,b ∈ e.tb/\b ∈ e.tr/\yQ C N ops (fil g (fun k=>decide (k<j)) 0 es).s (bkT e.tb (fil g (fun k=>decide (k<j)) 0 es).h) (rkT o e.tr (fil g (fun k=>decide (k<j)) 0 es).r) b o e.pl
 tmeq:e.tm=fC o
 looks:e.looks=o.looksAt ops
 deps:e.deps=(o.after.toList.filter (Region.binds .any)).map (·.on)
theorem Fw {C:Ctx} {N:Nat} {ops:Array Oper}:∀{l:List Oper} {σ σ':St} {es:List Ent},Hk C N ops l σ es σ' ->
  σ'.look=es.foldl (fun g e=>g.plan e.pl) σ.look/\es.length=l.length/\(∀(j:Nat) (o:Oper),l[j]?=some o->∃e,At0 C N ops σ.look es j o e)
 | [],σ,σ',es,h=>by
  obtain ⟨rfl,rfl⟩:=h
  exact ⟨rfl,rfl,fun j o h=>by simp at h⟩
 | o ::r,σ,σ',es,h=>by
  obtain ⟨pl,es',hpl,hef,rfl,hr⟩:=h
  obtain ⟨h1,h2,h3⟩:=Fw hr
  have e0:=yh σ pl
  rw[e0] at h1 h3
  refine ⟨h1,by simp[h2],fun j o' hj=>?_⟩
  cases j with
  | zero =>
   simp only[List.getElem?_cons_zero,Option.some.injEq] at hj
   subst hj
   refine ⟨_,rfl,⟨σ.next,tG,by simp[EV,DZ],?_⟩,rfl,rfl,rfl⟩
   have e00:∀(l:List Ent) (i:Nat) (g:Look),fil g (fun k=>decide (k<0)) i l=g:=by
    intro l
    induction l with
    | nil=>intro i g;rfl
    | cons y l ih=>intro i g;exact ih (i+1) g
   rw[e00]
   exact hpl
  | succ j =>
   simp only[List.getElem?_cons_succ] at hj
   obtain ⟨e,a1,⟨b,hb,hbr,a2⟩,am,a3,a4⟩:=h3 j o' hj
   refine ⟨e,by simpa using a1,⟨b,hb,hbr,?_⟩,am,a3,a4⟩
   have e1:∀(x:Ent),x.pl=pl->fil σ.look (fun k=>decide (k<j+1)) 0 (x ::es')=fil (σ.look.plan pl) (fun k=>decide (k<j)) 0 es':=by
    intro x hx
    have hf:(fun k=>decide (k+1<j+1))=fun k=>decide (k<j):=by funext k;simp
    simp only[fil]
    rw[xH,hf,hx]
    rfl
   rw[e1 _ rfl]
   exact a2
section
variable {N:Nat} {E:Env} {a:Act}
theorem JY {g:Look} (hm:Mod N E a g) (n:Nat):Mod N { E with w:={ E.w with drawn:=n } } a g/\Keep E { E with w:={ E.w with drawn:=n } }:=by
 have hx:Ext (fun _=>False) E { E with w:={ E.w with drawn:=n } }:=⟨rfl,rfl,rfl,rfl,fun _ h=>h,fun _ _ _=>rfl,fun _ _=>rfl,fun _ h=>h,fun _ _=>rfl,fun _ h=>h,Env.same_x⟩
 refine ⟨hm.move (gE.none E) hx ?_ rfl hm.size (fun i s h=>.inl ⟨h,rfl⟩) (fun i l h=>.inl ⟨h,id⟩) (fun i r h=>.inl ⟨h,fun _ _=>id⟩) (fun i r h=>.inl ⟨h,rfl,fun _ _=>id⟩),hx.keep hm.glob (gE.none E)⟩
 obtain ⟨⟨b1,b2,b3,b4,b5⟩,h2,h3,h4,h5,h6,h7,h8,h9,h10,⟨x1,x2⟩⟩:=hm.glob
 exact ⟨⟨b1,b2,b3,b4,b5⟩,h2,h3,h4,h5,h6,h7,h8,h9,h10,⟨x1,x2⟩⟩
theorem HF {C:Ctx} (hC:C.ok) {ops:Array Oper} {g0:Look} {es:List Ent} (hk:Chk es) {L:Nat->Bool} (hL:∀(k:Nat) (e:Ent),es[k]?=some e->L k=true->∀d ∈ e.deps,L d=true)
  {j:Nat} {o:Oper} {e:Ent} (h0:At0 C N ops g0 es j o e) (hj:L j=false) (hd:∀d ∈ e.deps,L d=true) (hP:E.P=C.P) (hm:Mod N E a (fil g0 L 0 es)) {K:Act->World->Prop} {Q:Exit->Act->World->Prop} {X:Prop}
  (hK:∀E' a',eM E E'->Keep E E'->Mod N E' a' (fil g0 (fun k=>L k||k ==j) 0 es)->K a' E'.w) :
  if Region.wanted o (yielded ops a.tmps) then o.wp C.P a E.w K Q\/X else K (a.put o.dst undef) E.w:=by
 obtain ⟨hget,⟨b,hb,hbr,hst⟩,hmeta,hlk,hdp⟩:=h0
 have closed:∀{i d:Nat},Awaits es i d->L d=true->L i=true:=by
  intro i d hr
  induction hr with
  | one h1 h2=>exact fun h=>hL _ _ h1 h _ h2
  | step h1 h2 _ ih=>exact fun h=>ih (hL _ _ h1 h _ h2)
 have reachd:∀{i:Nat},Awaits es i j->L i=true:=by
  intro i hr
  cases hr with
  | one h1 h2=>rw[hget] at h1;injection h1 with h1;subst h1;exact hd _ h2
  | step h1 h2 h3=>rw[hget] at h1;injection h1 with h1;subst h1;exact closed h3 (hd _ h2)
 have before:∀(k:Nat) (f:Ent),es[k]?=some f->k≠j->(mf f e=true->False)->k<j->L k=true:=fun k f hf hne hi hlt =>
  have hr:=(hk.pair k j f e hlt hf hget).resolve_left fun h=>hi h
  reachd hr
 have after:∀(k:Nat) (f:Ent),es[k]?=some f->(mf e f=true->False)->j<k->L k=false:=fun k f hf hi hlt=>by
  have hdep:=(hk.pair j k e f hlt hget hf).resolve_left fun h=>hi h
  cases hLk:L k with
  | false=>rfl
  | true =>
   have:=closed hdep hLk
   rw[hj] at this
   cases this
 have slotsEq:∀t ∈ e.looks,(fil g0 L 0 es).s t=(fil g0 (fun k=>decide (k<j)) 0 es).s t:=fun t ht=>by
  refine Cn (fun k f hf hfd=>?_) rfl
  rw[Nat.zero_add]
  rcases Nat.lt_trichotomy k j with h | h | h
  ·rw[before k f hf (by omega) (fun hi=>by
    simp only[mf,z10] at hi
    exact ng hi.1.1.1.1.1.1 hfd ht) h]
   simp[h]
  ·subst h
   simp[hj]
  ·rw[after k f hf (fun hi=>by
    simp only[mf,z10] at hi
    exact ng hi.1.1.1.1.2 hfd ht) h]
   simp;omega
 have blksEq:∀t ∈ e.tb,(fil g0 L 0 es).h t=(fil g0 (fun k=>decide (k<j)) 0 es).h t:=fun t ht=>by
  refine AO (fun k f hf hfd=>?_) rfl
  rw[Nat.zero_add]
  rcases Nat.lt_trichotomy k j with h | h | h
  ·rw[before k f hf (by omega) (fun hi=>by
    simp only[mf,z10] at hi
    exact ng hi.1.1.1.2 hfd ht) h]
   simp[h]
  ·subst h
   simp[hj]
  ·rw[after k f hf (fun hi=>by
    simp only[mf,z10] at hi
    exact ng hi.1.1.2 hfd ht) h]
   simp;omega
 have soft:∀(f g:Ent),(GI f.c g.tr||(g.tm&&!f.hard))=true->∀t,t ∈ f.c->t ∈ g.tr->g.tm=true/\f.hard=false:=fun f g h t h1 h2=>by
  simp only[Bool.or_eq_true,z10,Bool.not_eq_true'] at h
  rcases h with h | h
  ·exact absurd h2 (yv h h1)
  ·exact h
 have pick:∀t ∈ e.tr,∀(k:Nat) (f:Ent),es[k]?=some f->t ∈ f.c->k≠j->(e.tm=false\/f.hard=true)->L k=decide (k<j):=fun t ht k f hf hfd hne ho=>by
  have no:∀{q:Prop},e.tm=true/\f.hard=false->q:=fun hq=>by
   rcases ho with ho | ho
   ·rw[ho] at hq;cases hq.1
   ·rw[ho] at hq;cases hq.2
  rcases Nat.lt_trichotomy k j with h | h | h
  ·rw[before k f hf (by omega) (fun hi=>by
    simp only[mf,z10] at hi
    exact no (soft f e hi.1.2 t hfd ht)) h]
   simp[h]
  ·exact absurd h hne
  ·rw[after k f hf (fun hi=>by
    simp only[mf,z10] at hi
    exact no (soft f e hi.2 t hfd ht)) h]
   simp;omega
 have pick':∀t ∈ e.tr,∀(k:Nat) (f:Ent),es[k]?=some f->t ∈ f.c->(e.tm=false\/f.hard=true)->L k=decide (k<j):=fun t ht k f hf hfd ho=>by
  by_cases hne:k=j
  ·subst hne
   simp[hj]
  ·exact pick t ht k f hf hfd hne ho
 have blankEq:∀t ∈ e.tr,fZ ((fil g0 L 0 es).r t)=fZ ((fil g0 (fun k=>decide (k<j)) 0 es).r t):=fun t ht=>by
  refine xJ (fun k f hf hfd hh=>?_) rfl
  rw[Nat.zero_add]
  exact pick' t ht k f hf hfd (.inr hh)
 have rowsEq:∀t ∈ e.tr,e.tm=false->(fil g0 L 0 es).r t=(fil g0 (fun k=>decide (k<j)) 0 es).r t:=fun t ht htm=>by
  refine BU (fun k f hf hfd=>?_) rfl
  rw[Nat.zero_add]
  exact pick' t ht k f hf hfd (.inl htm)
 refine Fa (K:=K) (Q:=Q) (X:=X) hC hP hst hm (fun t ht=>slotsEq t (by rw[hlk];exact ht)) (fun i l hi=>?_) (fun hn=>?_) (fun hmo i r hi=>?_) (fun i ri hi=>?_) (fun i x hi=>?_) (fun hi=>?_) fun E' a' hs hkp hm'=>hK E' a' hs hkp ?_
 ·obtain ⟨h1,h2⟩:=zh hi
  rw[blksEq i h1]
  exact h2
 ·rw[blksEq b hb]
  exact w5 hb hn
 ·obtain ⟨h1,h2⟩:=zl hmo hi
  rw[rowsEq i h1 (by rw[hmeta];exact hmo)]
  exact h2
 ·obtain ⟨h1,rj,h2,h3,h4,h5⟩:=wX hi
  have hbl:=blankEq i h1
  rw[h2] at hbl
  obtain ⟨rk,g1,g2,g3,g4⟩:=w6 (ri:=⟨rj.t,rj.e,rj.n,[]⟩) hbl
  exact ⟨rk,g1,g3.trans h4,g4.trans h5⟩
 ·obtain ⟨h1,h2⟩:=LG hi
  have hbl:=blankEq i h1
  rw[h2] at hbl
  exact FI hbl
 ·have h1:=vA hbr hi
  have hbl:=blankEq b hbr
  rw[h1] at hbl
  have:∀x:Option RowS,fZ x=none->x=none:=fun x hx=>by
   unfold fZ at hx
   split at hx
   ·cases hx
   ·exact hx
  exact this _ hbl
 ·have hg:(fil g0 L 0 es).plan e.pl=fil g0 (fun k=>L k||k ==j) 0 es:=by
   have es_s:((fil g0 L 0 es).plan e.pl).s=(fil g0 (fun k=>L k||k ==j) 0 es).s:=by
    funext t
    by_cases ht:e.d=some t
    ·symm
     refine BE (j:=j) hget (by simp) ht (fun k f hlt hf hfd=>?_) _
     rw[Nat.zero_add,after k f hf (fun hi=>by
      simp only[mf,z10] at hi
      exact LC hi.1.1.1.1.1.2 ht hfd) hlt]
     simp;omega
    ·rw[rP _ e t ht]
     refine Cn (fun k f hf hfd=>?_) rfl
     rw[Nat.zero_add]
     have hkj:k≠j:=fun h=>by subst h;rw[hget] at hf;injection hf with hf;subst hf;exact ht hfd
     simp[hkj]
   have es_h:((fil g0 L 0 es).plan e.pl).h=(fil g0 (fun k=>L k||k ==j) 0 es).h:=by
    funext t
    by_cases ht:e.w=some t
    ·symm
     refine B6 (j:=j) hget (by simp) ht (fun k f hlt hf hfd=>?_) _
     rw[Nat.zero_add,after k f hf (fun hi=>by
      simp only[mf,z10] at hi
      exact ng hi.1.1.2 hfd (hk.own j e t hget ht)) hlt]
     simp;omega
    ·rw[rT _ e t ht]
     refine AO (fun k f hf hfd=>?_) rfl
     rw[Nat.zero_add]
     have hkj:k≠j:=fun h=>by subst h;rw[hget] at hf;injection hf with hf;subst hf;exact ht hfd
     simp[hkj]
   have es_r:((fil g0 L 0 es).plan e.pl).r=(fil g0 (fun k=>L k||k ==j) 0 es).r:=by
    funext t
    by_cases ht:t ∈ e.c
    ·symm
     rw[rp]
     obtain ⟨o1,o2⟩:=hk.ownc j e t hget ht
     refine Bs (j:=j) hget (by simp) (by rw[Nat.zero_add];exact hj) (fun k hkj=>by simp[hkj]) (fun k f hlt hf hfd=>?_) rfl
     have:=pick t o1 k f hf hfd (by omega) (.inl o2)
     rw[Nat.zero_add,this]
     simp;omega
    ·rw[nZ _ e t ht]
     refine BU (fun k f hf hfd=>?_) rfl
     rw[Nat.zero_add]
     have hkj:k≠j:=fun h=>by subst h;rw[hget] at hf;injection hf with hf;subst hf;exact ht hfd
     simp[hkj]
   have mk:∀x y:Look,x.s=y.s->x.h=y.h->x.r=y.r->x=y:=by
    intro x y h1 h2 h3
    cases x;cases y
    simp only at h1 h2 h3
    subst h1;subst h2;subst h3
    rfl
   exact mk _ _ es_s es_h es_r
  rw[hg] at hm'
  exact hm'
theorem F5 {l:List Bool} {j:Nat} (h:l[j]?=some false):(l.set j true).count false+1=l.count false:=by
 induction l generalizing j with
 | nil=>simp at h
 | cons b l ih =>
  cases j with
  | zero=>simp only[List.getElem?_cons_zero,Option.some.injEq] at h;subst h;simp
  | succ j =>
   simp only[List.getElem?_cons_succ] at h
   have:=ih h
   simp only[List.set_cons_succ,List.count_cons]
   omega
theorem Qd {C:Ctx} (hC:C.ok) {F:Fence} {n:Nat} (hW:pR F) {ops:Array Oper} {g0:Look} {es:List Ent} (hk:Chk es) (hlen:es.length=ops.size) (hat:∀(j:Nat) (o:Oper),ops[j]?=some o->∃e,At0 C N ops g0 es j o e) (hnd:∀(j:Nat) (o:Oper),ops[j]?=some o->nd o=true)
  {Q:Exit->Act->World->Prop} {E0:Env} (hQ:∀E' a',eM E0 E'->Keep E0 E'->Mod N E' a' (fil g0 (fun _=>true) 0 es)->Q .normal a' E'.w) (hP0:E0.P=C.P) :
  ∀(fuel:Nat) (listed:Array Bool) (a:Act) (E:Env),listed.size=ops.size->listed.toList.count false<=fuel->(∀(k:Nat) (e:Ent),es[k]?=some e->listed.getD k false=true->∀d ∈ e.deps,listed.getD d false=true)->eM E0 E->Keep E0 E ->
   Mod N E a (fil g0 (fun k=>listed.getD k false) 0 es)->wpAnyIn F n C.P .any ops Q fuel listed a E.w:=by
 have all:∀(listed:Array Bool),listed.size=ops.size->Region.ready .any ops listed=[]->∀j,j<ops.size->listed.getD j false=true:=by
  intro listed hsz hr j
  induction j using Nat.strongRecOn with
  | _ j ih =>
   intro hj
   cases hl:listed.getD j false with
   | true=>rfl
   | false =>
    exfalso
    have hoj:ops[j]?=some ops[j]:=Array.getElem?_eq_getElem hj
    obtain ⟨e,a1,_,_,_,a4⟩:=hat j _ hoj
    have:j ∈ Region.ready .any ops listed:=by
     refine mem_ready.2 ⟨?_,ops[j],hoj,fun ed hed hb=>?_⟩
     ·have hj':j<listed.size:=by omega
      simp only[Array.getD_eq_getD_getElem?,Array.getElem?_eq_getElem hj',Option.getD_some] at hl ⊢
      exact hl
     ·have hlt:=hk.lt j e a1 ed.on (by rw[a4];exact List.mem_map.2 ⟨ed,List.mem_filter.2 ⟨Array.mem_toList_iff.2 hed,hb⟩,rfl⟩)
      exact ih ed.on hlt (by omega)
    rw[hr] at this
    cases this
 have fin:∀(listed:Array Bool) (a:Act) (E:Env),listed.size=ops.size->Region.ready .any ops listed=[]->eM E0 E->Keep E0 E->Mod N E a (fil g0 (fun k=>listed.getD k false) 0 es)->Q .normal a E.w:=by
  intro listed a E hsz hr hs hkp hm
  refine hQ E a hs hkp ?_
  have hl:=all listed hsz hr
  have hT:∀(k:Nat) (e:Ent),es[k]?=some e->listed.getD k false=true:=fun k e hke=>hl k (by
   have:=(List.getElem?_eq_some_iff.1 hke).1
   omega)
  have:fil g0 (fun k=>listed.getD k false) 0 es=fil g0 (fun _=>true) 0 es:=by
   have mk:∀x y:Look,x.s=y.s->x.h=y.h->x.r=y.r->x=y:=by
    intro x y h1 h2 h3
    cases x;cases y
    simp only at h1 h2 h3
    subst h1;subst h2;subst h3
    rfl
   refine mk _ _ (funext fun t=>Cn (fun k e hke _=>by rw[Nat.zero_add];exact hT k e hke) rfl) (funext fun t=>AO (fun k e hke _=>by rw[Nat.zero_add];exact hT k e hke) rfl) ?_
   exact funext fun t=>BU (fun k e hke _=>by rw[Nat.zero_add];exact hT k e hke) rfl
  rw[this] at hm
  exact hm
 intro fuel
 induction fuel with
 | zero =>
  intro listed a E hsz hc hdn hs hkp hm
  have hr:Region.ready .any ops listed=[]:=by
   rw[List.eq_nil_iff_forall_not_mem]
   intro j hj
   obtain ⟨h0,o,ho,_⟩:=mem_ready.1 hj
   have hlt:j<listed.size:=by
    rcases Nat.lt_or_ge j listed.size with h | h
    ·exact h
    ·simp[Array.getD_eq_getD_getElem?,Array.getElem?_eq_none h] at h0
   have:false ∈ listed.toList:=by
    rw[List.mem_iff_getElem?]
    refine ⟨j,?_⟩
    simp only[Array.getD_eq_getD_getElem?,Array.getElem?_eq_getElem hlt,Option.getD_some] at h0
    simp[hlt,h0]
   have:=List.count_pos_iff.2 this
   omega
  exact ⟨hr,fin listed a E hsz hr hs hkp hm⟩
 | succ fuel ih =>
  intro listed a E hsz hc hdn hs hkp hm
  refine ⟨fun hr=>fin listed a E hsz hr hs hkp hm,fun j hj=>?_⟩
  obtain ⟨h0,o,ho,hall⟩:=mem_ready.1 hj
  have hlt:j<listed.size:=by
   rcases Nat.lt_or_ge j listed.size with h | h
   ·exact h
   ·simp[Array.getD_eq_getD_getElem?,Array.getElem?_eq_none h] at h0
  have h0':listed.getD j false=false:=by
   simp only[Array.getD_eq_getD_getElem?,Array.getElem?_eq_getElem hlt,Option.getD_some] at h0 ⊢
   exact h0
  obtain ⟨e,he⟩:=hat j o ho
  have hd:∀d ∈ e.deps,listed.getD d false=true:=fun d hdm=>by
   rw[he.deps] at hdm
   obtain ⟨ed,h1,rfl⟩:=List.mem_map.1 hdm
   obtain ⟨h2,h3⟩:=List.mem_filter.1 h1
   exact hall ed (Array.mem_toList_iff.1 h2) h3
  have key:=HF (K:=wpAnyIn F n C.P .any ops Q fuel (listed.setIfInBounds j true)) (Q:=Q) (X:=False) hC hk (L:=fun k=>listed.getD k false) hdn he h0' hd (hs.P.trans hP0) hm fun E' a' hs' hkp' hm'=>by
   have hf:(fun k=>listed.getD k false||k ==j)=fun k=>(listed.setIfInBounds j true).getD k false:=by
    funext k
    by_cases hkj:k=j
    ·subst hkj
     simp[Array.getD_eq_getD_getElem?,hlt]
    ·simp[Array.getD_eq_getD_getElem?,hkj,Array.getElem?_setIfInBounds_ne (Ne.symm hkj)]
   rw[hf] at hm'
   refine ih (listed.setIfInBounds j true) a' E' (by simpa using hsz) ?_ ?_ (hs.trans hs') (hkp.trans hkp') hm'
   ·have hl:listed.toList[j]?=some false:=by
     simp only[Array.getD_eq_getD_getElem?,Array.getElem?_eq_getElem hlt,Option.getD_some] at h0
     simp[hlt,h0]
    have:=F5 hl
    rw[Array.toList_setIfInBounds]
    omega
   ·intro k f hkf hlk d hdf
    have hlk':(listed.getD k false||k ==j)=true:=by rw[<-hlk];exact congrFun hf k
    have goal:(listed.getD d false||d ==j)=true:=by
     by_cases hkj:k=j
     ·subst hkj
      rw[he.get] at hkf
      injection hkf with hkf
      subst hkf
      rw[hd d hdf]
      rfl
     ·have:listed.getD k false=true:=by
       have hne:(k ==j)=false:=by simpa using hkj
       rwa [hne,Bool.or_false] at hlk'
      rw[hdn k f hkf this d hdf]
      rfl
    exact (congrFun hf d).symm.trans goal
  unfold wpOpIn
  simp only[ho]
  split at key
  ·rename_i hw
   rw[if_pos hw]
   exact IY hW (hnd j o ho) (key.resolve_right id)
  ·rename_i hw
   rw[if_neg hw]
   exact ⟨fun f _=>hW.fn f,key⟩
theorem Nq {C:Ctx} (hC:C.ok) {F:Fence} {n:Nat} (hW:pR F) (aW:C.P.follows .mixedOrders=true) {id:Nat} {ops:Array Oper} {Q:Exit->Act->World->Prop} {σ σ':St} {es:List Ent} (h:Hk C N ops ops.toList σ es σ') (hc:tI es 0 es=true) (hnd:tY ops.toList=true)
  (hP:E.P=C.P) (hm:Mod N E a σ.look) (hQ:∀E' a',eM E E'->Keep E E'->Mod N E' a' σ'.look->Q .normal a' E'.w):(Code.region id ops true).wpIn F n C.P Q a E.w:=by
 obtain ⟨h1,h2,h3⟩:=Fw h
 have hk:=PC hc
 refine wpIn_region_any aW ?_
 obtain ⟨hm',hk0⟩:=JY hm (E.w.drawn+1)
 have hno:∀k,(Array.replicate ops.size false).getD k false=false:=fun k=>by
  simp only[Array.getD_eq_getD_getElem?,Array.getElem?_replicate]
  split<;>rfl
 have hf:(fun k=>(Array.replicate ops.size false).getD k false)=fun _=>false:=funext hno
 have none_:∀(l:List Ent) (i:Nat) (g:Look),fil g (fun _=>false) i l=g:=by
  intro l
  induction l with
  | nil=>intro i g;rfl
  | cons y l ih=>intro i g;exact ih (i+1) g
 refine Qd (E0:=E) hC hW hk (by simpa using h2) (fun j o ho=>h3 j o (by simpa using ho)) (fun j o ho=>G7 hnd (Array.mem_toList_iff.2 (Array.mem_of_getElem? ho))) (fun E' a' hs hkp hm''=>hQ E' a' hs hkp ?_) hP ops.size _ a { E with w:={ E.w with drawn:=E.w.drawn+1 } } (by simp) (by simp) (fun k e _ hl=>by rw[hno] at hl;cases hl) rfl hk0 ?_
 ·rw[Cs,<-h1] at hm''
  exact hm''
 ·rw[hf,none_]
  exact hm'
end
inductive Pat where
 | d (s:Sh)
 | row (t:TypeId) (e:Sh)
 | x (p:XP)
abbrev Pat.T:Pat->Type
 | .d s=>s.T
 | .row _ e=>List e.T
 | .x p=>p.T
abbrev rR:List Pat->Type->Type
 | [],X=>X
 | p ::r,X=>p.T×rR r X
def kR:(ps:List Pat)->{X:Type}->rR ps X->X
 | [],_,x=>x
 | _ ::r,_,x=>kR r x.2
def lz:(ps:List Pat)->{X:Type}->rR ps X->Nat->List At
 | [],_,_,_=>[]
 | .d s ::r,_,x,k=>Sh.cells s x.1++lz r x.2 k
 | .row _ _ ::r,_,x,k=>.row k ::lz r x.2 (k+1)
 | .x _ ::r,_,x,k=>.row k ::lz r x.2 (k+1)
def eQ:(ps:List Pat)->{X:Type}->rR ps X->Nat->List (Nat×RowS)
 | [],_,_,_=>[]
 | .d _ ::r,_,x,k=>eQ r x.2 k
 | .row t e ::r,_,x,k=>(k,.some ⟨t,e,x.1.length,x.1⟩) ::eQ r x.2 (k+1)
 | .x p ::r,_,x,k=>(k,.x (p.mk x.1)) ::eQ r x.2 (k+1)
def eL:List Pat->Nat
 | []=>0
 | .d _ ::r=>eL r
 | .row _ _ ::r=>eL r+1
 | .x _ ::r=>eL r+1
def oB (rk:Rk) (t:TypeId) (e:Sh):At->Option (List e.T)
 | .row q=>match rk q with
  | some (.some ri)=>match Nat.beq ri.t t,Sh.eq? ri.e e with
   | true,some ⟨h⟩=>some (h ▸ ri.l)
   | _,_=>none
  | _=>none
 | .v (.slice none 0 0)=>some []
 | _=>none
def xOf (rk:Rk) (p:XP):At->Option p.T
 | .row q=>match rk q with
  | some (.x y)=>p.get y
  | _=>none
 | .v (.slice none 0 0)=>p.nil
 | _=>none
def Gt:At->Option Nat
 | .row q=>some q
 | _=>none
def fy (rk:Rk):(ps:List Pat)->List At->{X:Type}->X->Option (rR ps X)
 | [],[],_,y=>some y
 | [],_ ::_,_,_=>none
 | .d s ::r,l,_,y=>match s.take l with
  | some (x,l')=>match fy rk r l' y with
   | some z=>some (x,z)
   | none=>none
  | none=>none
 | .row t e ::r,a ::l,_,y=>match oB rk t e a,fy rk r l y with
  | some x,some z=>some (x,z)
  | _,_=>none
 | .row _ _ ::_,[],_,_=>none
 | .x p ::r,a ::l,_,y=>match xOf rk p a,fy rk r l y with
  | some x,some z=>some (x,z)
  | _,_=>none
 | .x _ ::_,[],_,_=>none
def jR:List Pat->List At->List (Option Nat)
 | [],_=>[]
 | .d s ::r,l=>jR r (l.drop s.size)
 | .row _ _ ::r,a ::l=>Gt a ::jR r l
 | .row _ _ ::r,[]=>jR r []
 | .x _ ::r,a ::l=>Gt a ::jR r l
 | .x _ ::r,[]=>jR r []
inductive Plc where
 | slot (i:Nat) (ag:Bool)
 | blk (b:Nat)
 | row (q:Nat)
def qC:Plc->List Pat->Nat
 | .row _,_=>0
 | _,ps=>eL ps
def gY:Plc->(ps:List Pat)->{X:Type}->rR ps X->Nat->List (Nat×RowS)
 | .row q,.row t e ::_,_,x,_=>[(q,.some ⟨t,e,x.1.length,x.1⟩)]
 | .row q,.x p ::_,_,x,_=>[(q,.x (p.mk x.1))]
 | .row _,_,_,_,_=>[]
 | .slot _ _,ps,_,x,k=>eQ ps x k
 | .blk _,ps,_,x,k=>eQ ps x k
def bN:List (Plc×List Pat)->List Nat
 | []=>[]
 | (.row q,_) ::r=>q ::bN r
 | (.slot _ _,_) ::r=>bN r
 | (.blk _,_) ::r=>bN r
abbrev TsR:List (Plc×List Pat)->Type
 | []=>Unit
 | p ::r=>rR p.2 (TsR r)
def fL:(rh:List (Plc×List Pat))->TsR rh->Nat->List (Nat×Option SlotV)
 | [],_,_=>[]
 | (.slot i ag,ps) ::r,x,k=>(i,some ⟨none,.c ag (lz ps x k)⟩) ::fL r (kR ps x) (k+eL ps)
 | (.blk _,ps) ::r,x,k=>fL r (kR ps x) (k+eL ps)
 | (.row _,ps) ::r,x,k=>fL r (kR ps x) k
def dy:(rh:List (Plc×List Pat))->TsR rh->Nat->List (Nat×List At)
 | [],_,_=>[]
 | (.slot _ _,ps) ::r,x,k=>dy r (kR ps x) (k+eL ps)
 | (.blk b,ps) ::r,x,k=>(b,lz ps x k) ::dy r (kR ps x) (k+eL ps)
 | (.row _,ps) ::r,x,k=>dy r (kR ps x) k
def dj:(rh:List (Plc×List Pat))->TsR rh->Nat->List (Nat×RowS)
 | [],_,_=>[]
 | (p,ps) ::r,x,k=>gY p ps x k++dj r (kR ps x) (k+qC p ps)
def ky:List (Plc×List Pat)->Nat
 | []=>0
 | (p,ps) ::r=>qC p ps+ky r
def ny (σ:St):Plc->Option (List At)
 | .slot i ag=>match fJ σ.s i with
  | some ⟨none,.c ag' l⟩=>match ag ==ag' with
   | true=>some l
   | false=>none
  | _=>none
 | .blk b=>look σ.h b
 | .row q=>some [.row q]
def ud (σ:St):(rh:List (Plc×List Pat))->Option (TsR rh)
 | []=>some ()
 | (p,ps) ::r=>match ny σ p,ud σ r with
  | some l,some y=>fy (look σ.r) ps l y
  | _,_=>none
def fb (σ:St):List (Plc×List Pat)->List (Option Nat)
 | []=>[]
 | (.row _,_) ::r=>fb σ r
 | (.slot i ag,ps) ::r=>match ny σ (.slot i ag) with
  | some l=>jR ps l++fb σ r
  | none=>fb σ r
 | (.blk b,ps) ::r=>match ny σ (.blk b) with
  | some l=>jR ps l++fb σ r
  | none=>fb σ r
structure Hd where
 sl:List (Nat×Bool×List Pat)
 bk:List (Nat×List Pat):=[]
 rw:List (Nat×Option Nat×Pat):=[]
def Ij:List (Nat×Bool×List Pat)->List (Plc×List Pat)
 | []=>[]
 | p ::r=>(.slot p.1 p.2.1,p.2.2) ::Ij r
def H8 (σ:St):List (Nat×List Pat)->Option (List (Plc×List Pat))
 | []=>some []
 | p ::r=>match fJ σ.s p.1,H8 σ r with
  | some ⟨none,.c false [.ptr b 0]⟩,some l=>some ((.blk b,p.2) ::l)
  | _,_=>none
def D1 (σ:St):List (Nat×Option Nat×Pat)->Option (List (Plc×List Pat))
 | []=>some []
 | (i,none,p) ::r=>match fJ σ.s i,D1 σ r with
  | some ⟨none,.c false [.row q]⟩,some l=>some ((.row q,[p]) ::l)
  | _,_=>none
 | (i,some o,p) ::r=>match fJ σ.s i,D1 σ r with
  | some ⟨none,.c false [.ptr b 0]⟩,some l=>match look σ.h b with
   | some cs=>match cs[o]? with
    | some (.row q)=>some ((.row q,[p]) ::l)
    | _=>none
   | none=>none
  | _,_=>none
def Hd.at (hd:Hd) (σ:St):Option (List (Plc×List Pat)):=match H8 σ hd.bk,D1 σ hd.rw with
 | some l,some m=>some (Ij hd.sl++(l++m))
 | _,_=>none
def eE:List (Option Nat)->List Nat
 | []=>[]
 | some q ::r=>q ::eE r
 | none ::r=>eE r
def bP:List (Plc×List Pat)->List Nat
 | []=>[]
 | (.slot _ _,_) ::r=>bP r
 | (.blk b,_) ::r=>b ::bP r
 | (.row _,_) ::r=>bP r
def mM {α:Type} (W:List Nat):List (Nat×α)->List (Nat×α)
 | []=>[]
 | p ::r=>match iK p.1 W with
  | true=>mM W r
  | false=>p ::mM W r
def bI {α:Type} (W:List Nat):List (Nat×α)->List Nat
 | []=>[]
 | p ::r=>match iK p.1 W with
  | true=>bI W r
  | false=>p.1 ::bI W r
def kL:List Nat->List (Nat×RowS)
 | []=>[]
 | q ::r=>(q,.none) ::kL r
def head (rh:List (Plc×List Pat)) (W:List Nat) (srcs:List Nat) (σ:St) (x:TsR rh):St :=
 {s:=fL rh x σ.next++mM W σ.s,h:=dy rh x σ.next++σ.h,r:=dj rh x σ.next++(kL srcs++σ.r),next:=σ.next+ky rh,
  ro:=bI (bP rh) σ.h++σ.ro,roR:=bI (bN rh++srcs) σ.r++σ.roR }
def oW:List Nat->Bool
 | []=>true
 | q ::r=>!iK q r&&oW r
def vw {α:Type} (l:List (Nat×α)) (k:Nat):Nat->Bool
 | 0=>true
 | n+1=>(match look l k with
  | none=>vw l (k+1) n
  | some _=>false)
def Nx {α:Type} (i:Nat):List (Nat×α)->Bool
 | []=>false
 | p ::r=>Nat.beq p.1 i||Nx i r
def uB {α:Type} (l:List (Nat×α)):List Nat->Bool
 | []=>true
 | i ::r=>Nx i l&&uB l r
def qw (σ:St):List (Nat×Option SlotV)->Bool
 | []=>true
 | (_,none) ::r=>qw σ r
 | (_,some s) ::r=>uB σ.h (HN s.s)&&uB σ.r (Ct s.s)&&qw σ r
def AD (σ:St):List (Nat×List At)->Bool
 | []=>true
 | p ::r=>uB σ.h (vC p.2)&&uB σ.r (oH p.2)&&AD σ r
def ga (rh:List (Plc×List Pat)) (W:List Nat) (srcs:List Nat) (σ:St):Bool :=
 qw σ (mM W σ.s)&&AD σ σ.h&&vw σ.r σ.next (ky rh)&&qD σ.ro (bP rh)&&qD σ.roR srcs&&oW (bP rh)&&(qD σ.roR (bN rh)&&oW (bN rh)&&uB σ.r (bN rh)&&qD (bN rh) srcs)
def J7 (rh:List (Plc×List Pat)) (roR:List Nat) (σ':St):Bool:=oW (eE (fb σ' rh))&&qD roR (eE (fb σ' rh))&&qD (bN rh) (eE (fb σ' rh))
def j4 (rh:List (Plc×List Pat)) (roR:List Nat) (σ':St):Option (TsR rh):=match J7 rh roR σ' with
 | true=>ud σ' rh
 | false=>none
section
variable {N:Nat} {E:Env} {a:Act}
theorem yP {α:Type} {i:Nat}:∀{l:List (Nat×α)},Nx i l=true->(look l i).isSome=true
 | p ::r,h=>by
  simp only[Nx,Bool.or_eq_true] at h
  rw[ak]
  by_cases hp:i=p.1
  ·rw[if_pos hp];rfl
  ·rw[if_neg hp]
   refine yP (h.resolve_left fun h'=>hp ?_)
   have:p.1=i:=by simpa using h'
   exact this.symm
theorem jM {α:Type} {l:List (Nat×α)}:∀{r:List Nat},uB l r=true->∀i ∈ r,(look l i).isSome=true
 | j ::r,h,i,hi=>by
  simp only[uB,z10] at h
  rcases List.mem_cons.1 hi with rfl | hi
  ·exact yP h.1
  ·exact jM h.2 i hi
theorem aZ {α:Type} {i:Nat}:∀{l m:List (Nat×α)},look (l++m) i=match look l i with | some x=>some x | none=>look m i
 | [],m=>rfl
 | p ::r,m=>by
  rw[List.cons_append,ak,ak]
  split
  ·rfl
  ·exact aZ
theorem rA {α:Type} {W:List Nat} {i:Nat}:∀{l:List (Nat×α)} {x:α},look (mM W l) i=some x->look l i=some x/\i ∉ W
 | [],x,h=>by simp[mM,look] at h
 | p ::r,x,h=>by
  simp only[mM] at h
  split at h
  ·rename_i hm
   obtain ⟨h1,h2⟩:=rA h
   refine ⟨?_,h2⟩
   rw[ak,if_neg (fun e=>h2 (by rw[e];exact cI.1 hm))]
   exact h1
  ·rename_i hm
   rw[ak] at h ⊢
   split at h
   ·rename_i e
    exact ⟨by rw[if_pos e];exact h,fun hw=>by rw[e,<-cI,hm] at hw;cases hw⟩
   ·rename_i e
    rw[if_neg e]
    exact rA h
theorem lY {α:Type} {W:List Nat} {i:Nat} (hi:i ∉ W):∀{l:List (Nat×α)},look (mM W l) i=look l i
 | []=>rfl
 | p ::r=>by
  simp only[mM]
  split
  ·rename_i hm
   rw[ak,if_neg (fun e=>hi (by rw[e];exact cI.1 hm))]
   exact lY hi
  ·rw[ak,ak,lY hi]
theorem l9 {α:Type} {W:List Nat} {i:Nat}:∀{l:List (Nat×α)},i ∉ W->(look l i).isSome=true->i ∈ bI W l
 | [],_,h=>by cases h
 | p ::r,hw,h=>by
  rw[ak] at h
  simp only[bI]
  split at h
  ·rename_i e
   subst e
   split
   ·rename_i hm;exact absurd (cI.1 hm) hw
   ·simp
  ·split
   ·exact l9 hw h
   ·exact List.mem_cons_of_mem _ (l9 hw h)
theorem ka {i:Nat}:∀{l:List Nat},look (kL l) i=if i ∈ l then some .none else none
 | []=>rfl
 | q ::r=>by
  simp only[kL]
  rw[ak,ka]
  by_cases h:i=q
  ·simp[h]
  ·simp[h]
theorem kx {α:Type} {l:List (Nat×α)}:∀{n k:Nat},vw l k n=true->∀j,k<=j->j<k+n->look l j=none
 | 0,k,_,j,h1,h2=>by omega
 | n+1,k,h,j,h1,h2=>by
  simp only[vw] at h
  split at h
  ·rename_i hk
   by_cases e:j=k
   ·rw[e];exact hk
   ·exact kx h j (by omega) (by omega)
  ·cases h
theorem py:∀{l:List Nat},oW l=true->l.Nodup
 | [],_=>List.nodup_nil
 | q ::r,h=>by
  simp only[oW,z10] at h
  exact List.nodup_cons.2 ⟨pV h.1,py h.2⟩
theorem l7:∀{ps:List Pat} {X:Type} {x:rR ps X} {k i:Nat} {ri:RowS},look (eQ ps x k) i=some ri->k<=i/\i<k+eL ps
 | [],_,_,_,_,_,h=>by simp[eQ,look] at h
 | .d _ ::r,_,x,k,i,ri,h=>by
  simp only[eQ,eL] at h ⊢
  exact l7 h
 | .row t e ::r,_,x,k,i,ri,h=>by
  simp only[eQ,eL] at h ⊢
  rw[ak] at h
  split at h
  ·rename_i e;omega
  ·have:=l7 h;omega
 | .x p ::r,_,x,k,i,ri,h=>by
  simp only[eQ,eL] at h ⊢
  rw[ak] at h
  split at h
  ·rename_i e;omega
  ·have:=l7 h;omega
theorem jW:∀{ps:List Pat} {X:Type} {x:rR ps X} {k i:Nat},(k<=i/\i<k+eL ps)->(look (eQ ps x k) i).isSome=true
 | [],_,_,_,_,h=>by simp only[eL] at h;omega
 | .d _ ::r,_,x,k,i,h=>by
  simp only[eQ,eL] at h ⊢
  exact jW h
 | .row t e ::r,_,x,k,i,h=>by
  simp only[eQ,eL] at h ⊢
  rw[ak]
  split
  ·rfl
  ·exact jW (by omega)
 | .x p ::r,_,x,k,i,h=>by
  simp only[eQ,eL] at h ⊢
  rw[ak]
  split
  ·rfl
  ·exact jW (by omega)
theorem rL:∀{rh:List (Plc×List Pat)} {x:TsR rh} {k i:Nat},(look (dj rh x k) i).isSome=true->(k<=i/\i<k+ky rh)\/i ∈ bN rh
 | [],_,_,_,h=>by simp[dj,look] at h
 | (p,ps) ::r,x,k,i,h=>by
  simp only[dj] at h
  rw[aZ] at h
  cases hq:look (gY p ps x k) i with
  | some ri =>
   cases p with
   | row q =>
    refine .inr ?_
    match ps,x,hq with
    | .row t e ::_,x,hq =>
     simp only[gY] at hq
     rw[ak] at hq
     split at hq
     ·rename_i e';rw[e'];simp[bN]
     ·cases hq
    | .x p ::_,x,hq =>
     simp only[gY] at hq
     rw[ak] at hq
     split at hq
     ·rename_i e';rw[e'];simp[bN]
     ·cases hq
    | [],x,hq=>simp[gY,look] at hq
    | .d _ ::_,x,hq=>simp[gY,look] at hq
   | slot j ag =>
    have:=l7 (ps:=ps) (x:=x) hq
    simp only[ky,qC]
    exact .inl (by omega)
   | blk b =>
    have:=l7 (ps:=ps) (x:=x) hq
    simp only[ky,qC]
    exact .inl (by omega)
  | none =>
   rw[hq] at h
   simp only at h
   rcases rL (rh:=r) h with h1 | h1
   ·simp only[ky]
    exact .inl (by omega)
   ·refine .inr ?_
    cases p<;>simp[bN,h1]
theorem qj:∀{rh:List (Plc×List Pat)} {x:TsR rh} {k i:Nat},(k<=i/\i<k+ky rh)->(look (dj rh x k) i).isSome=true
 | [],_,_,_,h=>by simp only[ky] at h;omega
 | (p,ps) ::r,x,k,i,h=>by
  simp only[dj,ky] at h ⊢
  rw[aZ]
  cases hq:look (gY p ps x k) i with
  | some ri=>rfl
  | none =>
   simp only
   refine qj (rh:=r) ?_
   cases p with
   | row q=>simp only[qC] at h ⊢;omega
   | slot j ag =>
    simp only[qC] at h ⊢
    have h2:¬ (k<=i/\i<k+eL ps):=fun hc=>by have:=jW (x:=x) hc;simp only[gY] at hq;rw[hq] at this;cases this
    omega
   | blk b =>
    simp only[qC] at h ⊢
    have h2:¬ (k<=i/\i<k+eL ps):=fun hc=>by have:=jW (x:=x) hc;simp only[gY] at hq;rw[hq] at this;cases this
    omega
def fz:List (Option Nat)->Nat->Nat->Option (Option Nat)
 | [],_,_=>none
 | o ::r,k,i=>if i=k then some o else fz r (k+1) i
theorem jB {l m:List (Option Nat)} {k i:Nat}:fz (l++m) k i=match fz l k i with | some o=>some o | none=>fz m (k+l.length) i:=by
 induction l generalizing k with
 | nil=>rfl
 | cons o l ih =>
  simp only[List.cons_append,fz]
  split
  ·rfl
  ·rw[ih,List.length_cons,show k+1+l.length=k+(l.length+1) by omega]
theorem eO {l:List (Option Nat)} {k i:Nat} {o:Option Nat} (h:fz l k i=some o):k<=i/\l[i - k]?=some o:=by
 induction l generalizing k with
 | nil=>cases h
 | cons p l ih =>
  simp only[fz] at h
  split at h
  ·rename_i e
   injection h with h
   subst h;subst e
   exact ⟨Nat.le_refl _,by simp⟩
  ·obtain ⟨h1,h2⟩:=ih h
   refine ⟨by omega,?_⟩
   rw[show i - k=(i - (k+1))+1 by omega]
   simpa using h2
theorem ls {l:List (Option Nat)}:∀{i:Nat} {q:Nat},l[i]?=some (some q)->q ∈ eE l:=by
 induction l with
 | nil=>intro i q h;simp at h
 | cons o l ih =>
  intro i q h
  cases i with
  | zero =>
   simp only[List.getElem?_cons_zero,Option.some.injEq] at h
   subst h
   simp[eE]
  | succ i =>
   simp only[List.getElem?_cons_succ] at h
   have:=ih h
   cases o with
   | none=>exact this
   | some p=>exact List.mem_cons_of_mem _ this
theorem F3 {l:List (Option Nat)} (hn:(eE l).Nodup):∀{i j q:Nat},l[i]?=some (some q)->l[j]?=some (some q)->i=j:=by
 induction l with
 | nil=>intro i j q h;simp at h
 | cons o l ih =>
  intro i j q hi hj
  have hn':(eE l).Nodup:=by
   cases o with
   | none=>exact hn
   | some p=>exact (List.nodup_cons.1 hn).2
  cases i with
  | zero =>
   cases j with
   | zero=>rfl
   | succ j =>
    simp only[List.getElem?_cons_zero,Option.some.injEq,List.getElem?_cons_succ] at hi hj
    subst hi
    exact absurd (ls hj) (List.nodup_cons.1 hn).1
  | succ i =>
   cases j with
   | zero =>
    simp only[List.getElem?_cons_zero,Option.some.injEq,List.getElem?_cons_succ] at hi hj
    subst hj
    exact absurd (ls hi) (List.nodup_cons.1 hn).1
   | succ j =>
    simp only[List.getElem?_cons_succ] at hi hj
    rw[ih hn' hi hj]
def pick {α:Type} (f:Nat->α) (d:α) (i:Nat):Option (Option Nat)->α
 | some (some q)=>f q
 | some none=>d
 | none=>f i
def Env.re (E:Env) (h:Nat->Prop) (r:Nat->Prop) (src:Nat->Option (Option Nat)):Env :=
 {E with L:=h,R:=r,ρ:=fun i=>pick E.ρ (.slice none 0 0) i (src i),φ:=fun i=>pick E.φ (fun _=>False) i (src i),ι:=fun i=>pick E.ι (fun _=>undef) i (src i),ν:=fun i=>pick E.ν 0 i (src i) }
theorem hO.re {h r:Nat->Prop} {src:Nat->Option (Option Nat)} {x:At} {v:Value} (hv:hO E x v) (hh:∀i ∈ HY x,h i) (hr:∀i ∈ ue x,r i/\src i=none):hO (E.re h r src) x v:=by
 cases x with
 | u=>trivial
 | v _=>exact hv
 | ptr b o=>exact ⟨hv.1,hh b (by simp[HY])⟩
 | clo g cap=>exact ⟨hv.1,fun p hp=>hh p.1 (List.mem_map.2 ⟨p,hp,rfl⟩)⟩
 | sl _ _=>exact hv
 | row q =>
  obtain ⟨h1,h2,h3⟩:=hv
  obtain ⟨h4,h5⟩:=hr q (by simp[ue])
  exact ⟨by simp only[Env.re,h5,pick];exact h1,h4,h3⟩
 | ae b _ _ _ _ _=>exact ⟨hv.1,hh b (by simp[HY])⟩
 | sn _ _=>exact hv
 | rf _ _ _=>exact hv
 | re q i sz off =>
  obtain ⟨g,h1,h2,h3⟩:=hv
  obtain ⟨h4,h5⟩:=hr q (by simp[ue])
  exact ⟨g,by simp only[Env.re,h5,pick];exact h1,h2,h4⟩
 | sub q lo hi sz =>
  obtain ⟨⟨A,c,h1,h2⟩,h3⟩:=hv
  obtain ⟨h4,h5⟩:=hr q (by simp[ue])
  exact ⟨⟨A,c,h1,fun hl=>by simp only[Env.re,h5,pick];exact h2 hl⟩,h4⟩
 | ir q i =>
  obtain ⟨h1,h2,h3,h6⟩:=hv
  obtain ⟨h4,h5⟩:=hr q (by simp[ue])
  exact ⟨by simp only[Env.re,h5,pick];exact h1,h4,by simp only[Env.re,h5,pick];exact h3,h6⟩
 | ie q i j sz off =>
  obtain ⟨g,h1,h2,h3,h6⟩:=hv
  obtain ⟨h4,h5⟩:=hr q (by simp[ue])
  exact ⟨g,by simp only[Env.re,h5,pick];exact h1,h2,h4,by simp only[Env.re,h5,pick];exact h6⟩
 | fn _ _ _=>exact hv
theorem cj.re {h r:Nat->Prop} {src:Nat->Option (Option Nat)}:∀{l:List At} {vs:List Value},cj E l vs->(∀i ∈ vC l,h i)->(∀i ∈ oH l,r i/\src i=none)->cj (E.re h r src) l vs
 | [],[],_,_,_=>trivial
 | _ ::_,_ ::_,hv,hh,hr=>⟨hO.re hv.1 (fun i hi=>hh i (List.mem_append_left _ hi)) (fun i hi=>hr i (List.mem_append_left _ hi)),cj.re hv.2 (fun i hi=>hh i (List.mem_append_right _ hi)) (fun i hi=>hr i (List.mem_append_right _ hi))⟩
 | [],_ ::_,hv,_,_=>hv.elim
 | _ ::_,[],hv,_,_=>hv.elim
theorem hH.re {h r:Nat->Prop} {src:Nat->Option (Option Nat)}:∀{l:List (Bool×List At)} {vs:List Value},hH E l vs->(∀i ∈ Pe l,h i)->(∀i ∈ KV l,r i/\src i=none)->hH (E.re h r src) l vs
 | [],[],_,_,_=>trivial
 | _ ::_,_ ::_,⟨⟨cs,h1,h2,h3⟩,hv⟩,hh,hr=>⟨⟨cs,h1,cj.re h2 (fun i hi=>hh i (List.mem_append_left _ hi)) (fun i hi=>hr i (List.mem_append_left _ hi)),h3⟩,hH.re hv (fun i hi=>hh i (List.mem_append_right _ hi)) (fun i hi=>hr i (List.mem_append_right _ hi))⟩
 | [],_ ::_,hv,_,_=>hv.elim
 | _ ::_,[],hv,_,_=>hv.elim
theorem cd.re {h r:Nat->Prop} {src:Nat->Option (Option Nat)} {s:SV} {v:Value} (hv:cd E s v) (hh:∀i ∈ HN s,h i) (hr:∀i ∈ Ct s,r i/\src i=none):cd (E.re h r src) s v:=by
 cases s with
 | c ag l=>obtain ⟨cs,h1,h2,h3⟩:=hv;exact ⟨cs,h1,cj.re h2 hh hr,h3⟩
 | tup l=>obtain ⟨vs,h1,h2⟩:=hv;exact ⟨vs,h1,hH.re h2 hh hr⟩
theorem gW.re {h r:Nat->Prop} {src:Nat->Option (Option Nat)} {s:SlotV} {v:Value} (hv:gW E s v) (hh:∀i ∈ HN s.s,h i) (hr:∀i ∈ Ct s.s,r i/\src i=none):gW (E.re h r src) s v:=by
 unfold gW at *
 split at hv
 ·exact cd.re hv hh hr
 ·exact ⟨fun hc=>cd.re (hv.1 hc) hh hr,hv.2⟩
theorem mW:∀{s:Sh} {x:s.T},vC (s.cells x)=[]/\oH (s.cells x)=[]
 | .int _,_=>⟨rfl,rfl⟩
 | .bool,_=>⟨rfl,rfl⟩
 | .str,_=>⟨rfl,rfl⟩
 | .sl _,_=>⟨rfl,rfl⟩
 | .pair a b,x=>by
  have ha:=mW (s:=a) (x:=x.1)
  have hb:=mW (s:=b) (x:=x.2)
  have app1:∀l m:List At,vC (l++m)=vC l++vC m:=fun l m=>by induction l with | nil=>rfl | cons y l ih=>simp[vC,ih]
  have app2:∀l m:List At,oH (l++m)=oH l++oH m:=fun l m=>by induction l with | nil=>rfl | cons y l ih=>simp[oH,ih]
  simp only[Sh.cells,app1,app2,ha,hb,List.append_nil,and_self]
 | .agg e,x=>mW (s:=e) (x:=x)
 | .ref,_=>⟨rfl,rfl⟩
theorem lu:∀{s:Sh} {l rest:List At} {x:s.T},s.take l=some (x,rest)->rest=l.drop s.size
 | .int k,l,rest,x,h=>by
  simp only[Sh.take,uY] at h
  split at h
  ·split at h
   ·simp only[Option.some.injEq,Prod.mk.injEq] at h;rw[<-h.2];rfl
   ·cases h
  ·cases h
 | .bool,l,rest,x,h=>by
  simp only[Sh.take,si] at h
  split at h
  ·simp only[Option.some.injEq,Prod.mk.injEq] at h;rw[<-h.2];rfl
  ·cases h
 | .str,l,rest,x,h=>by
  simp only[Sh.take,uV] at h
  split at h
  ·simp only[Option.some.injEq,Prod.mk.injEq] at h;rw[<-h.2];rfl
  ·cases h
 | .sl e,l,rest,x,h=>by
  simp only[Sh.take,Ai] at h
  split at h
  ·split at h
   ·simp only[Option.some.injEq,Prod.mk.injEq] at h;rw[<-h.2];rfl
   ·cases h
  ·split at h
   ·simp only[Option.some.injEq,Prod.mk.injEq] at h;rw[<-h.2];rfl
   ·cases h
  ·simp only[Option.some.injEq,Prod.mk.injEq] at h;rw[<-h.2];rfl
  ·cases h
 | .pair a b,l,rest,x,h=>by
  simp only[Sh.take] at h
  split at h
  ·rename_i y r hy
   split at h
   ·rename_i z r' hz
    simp only[Option.some.injEq,Prod.mk.injEq] at h
    rw[<-h.2,lu hz,lu hy,List.drop_drop]
    rfl
   ·cases h
  ·cases h
 | .agg e,l,rest,x,h=>lu (s:=e) h
 | .ref,_,_,_,h=>by cases h
theorem ln {σ:St} (hm:MemOk E σ.look) {h r:Nat->Prop} {src:Nat->Option (Option Nat)}:∀{ps:List Pat} {l:List At} {vs:List Value} {X:Type} {y:X} {z:rR ps X} {k:Nat},fy (look σ.r) ps l y=some z->cj E l vs ->
  (∀j o,fz (jR ps l) k j=some o->r j/\src j=some o)->cj (E.re h r src) (lz ps z k) vs/\kR ps z=y/\(jR ps l).length=eL ps
 | [],[],[],_,_,z,k,hz,_,_=>by
  simp only[fy,Option.some.injEq] at hz
  exact ⟨trivial,hz.symm,rfl⟩
 | [],[],_ ::_,_,_,_,_,_,hr,_=>hr.elim
 | [],_ ::_,_,_,_,_,_,hz,_,_=>by simp[fy] at hz
 | .d s ::ps,l,vs,X,y,z,k,hz,hr,hs=>by
  simp only[fy] at hz
  split at hz
  ·rename_i x l' hx
   split at hz
   ·rename_i w hw
    injection hz with hz
    subst hz
    obtain ⟨c1,c2,rfl,hd,h2⟩:=dz hx hr
    have e:=lu hx
    simp only[jR,<-e] at hs ⊢
    obtain ⟨i1,i2,i3⟩:=ln hm (h:=h) (r:=r) (src:=src) hw h2 hs
    have hc:cj (E.re h r src) (s.cells x) c1:=cj.re hd.rel (fun i hi=>by rw[mW.1] at hi;cases hi) (fun i hi=>by rw[mW.2] at hi;cases hi)
    exact ⟨hc.append i1,i2,i3⟩
   ·cases hz
  ·cases hz
 | .row t e ::ps,a ::l,vs,X,y,z,k,hz,hr,hs=>by
  simp only[fy] at hz
  split at hz
  ·rename_i x w hx hw
   injection hz with hz
   subst hz
   match vs,hr with
   | v ::vs,hr =>
    simp only[jR] at hs ⊢
    obtain ⟨i1,i2,i3⟩:=ln hm (h:=h) (r:=r) (src:=src) (k:=k+1) hw hr.2 fun j o hj=>hs j o (by
     simp only[fz]
     rw[if_neg (fun e=>by have:=(eO hj).1;omega)]
     exact hj)
    obtain ⟨h1,h2⟩:=hs k (Gt a) (by simp[fz])
    refine ⟨⟨?_,i1⟩,i2,by simp[eL,i3]⟩
    have hra:=hr.1
    show v=pick E.ρ (.slice none 0 0) k (src k)/\r k/\v.oneCell'=true
    rw[h2]
    unfold oB at hx
    split at hx
    ·rename_i q
     obtain ⟨g1,g2,g3⟩:=hra
     exact ⟨g1,h1,g3⟩
    ·have g1:v=.slice none 0 0:=hra
     subst g1
     exact ⟨rfl,h1,rfl⟩
    ·cases hx
  ·cases hz
 | .row _ _ ::_,[],_,_,_,_,_,hz,_,_=>by simp[fy] at hz
 | .x p ::ps,a ::l,vs,X,y,z,k,hz,hr,hs=>by
  simp only[fy] at hz
  split at hz
  ·rename_i x w hx hw
   injection hz with hz
   subst hz
   match vs,hr with
   | v ::vs,hr =>
    simp only[jR] at hs ⊢
    obtain ⟨i1,i2,i3⟩:=ln hm (h:=h) (r:=r) (src:=src) (k:=k+1) hw hr.2 fun j o hj=>hs j o (by
     simp only[fz]
     rw[if_neg (fun e=>by have:=(eO hj).1;omega)]
     exact hj)
    obtain ⟨h1,h2⟩:=hs k (Gt a) (by simp[fz])
    refine ⟨⟨?_,i1⟩,i2,by simp[eL,i3]⟩
    have hra:=hr.1
    show v=pick E.ρ (.slice none 0 0) k (src k)/\r k/\v.oneCell'=true
    rw[h2]
    unfold xOf at hx
    split at hx
    ·rename_i q
     obtain ⟨g1,g2,g3⟩:=hra
     exact ⟨g1,h1,g3⟩
    ·have g1:v=.slice none 0 0:=hra
     subst g1
     exact ⟨rfl,h1,rfl⟩
    ·cases hx
  ·cases hz
 | .x _ ::_,[],_,_,_,_,_,hz,_,_=>by simp[fy] at hz
def AB (σ:St) (o:Option Nat):RowS->Prop
 | .some ri=>(∃q n,o=some q/\look σ.r q=some (.some ⟨ri.t,ri.e,n,ri.l⟩)/\ri.n=ri.l.length)\/(o=none/\ri.l=[]/\ri.n=ri.l.length)
 | .x x=>(∃q,o=some q/\look σ.r q=some (.x x))\/(o=none/\∃t s ti e,x=.tab t s [] ti e [])
 | .none=>False
theorem CK {σ:St} {rk:Rk} (hrk:rk=look σ.r) {p:XP} {a:At} {x:p.T} (hx:xOf rk p a=some x):AB σ (Gt a) (.x (p.mk x)):=by
 unfold xOf at hx
 split at hx
 ·rename_i q
  split at hx
  ·rename_i y hy
   have:=XP.get_mk hx
   subst this
   exact .inl ⟨q,rfl,by rw[<-hrk];exact hy⟩
  ·cases hx
 ·cases p with
  | tab t s ti e =>
   injection hx with hx
   subst hx
   exact .inr ⟨rfl,t,s,ti,e,rfl⟩
  | set _ _=>cases hx
  | map _ _ _=>cases hx
 ·cases hx
theorem wQ {σ:St} {rk:Rk} (hrk:rk=look σ.r) {t:TypeId} {e:Sh} {a:At} {x:List e.T} (hx:oB rk t e a=some x):AB σ (Gt a) (.some ⟨t,e,x.length,x⟩):=by
 unfold oB at hx
 split at hx
 ·rename_i q
  split at hx
  ·rename_i ri hri
   split at hx
   ·rename_i he ht _
    obtain ⟨rt,re,rn,rl⟩:=ri
    simp only at he ht
    subst he
    have ht:rt=t:=by simpa using ht
    subst ht
    injection hx with hx
    subst hx
    exact .inl ⟨q,rn,rfl,by rw[<-hrk];exact hri,rfl⟩
   ·cases hx
  ·cases hx
 ·injection hx with hx
  subst hx
  exact .inr ⟨rfl,rfl,rfl⟩
 ·cases hx
theorem nG {σ:St} {rk:Rk} (hrk:rk=look σ.r):∀{ps:List Pat} {l:List At} {X:Type} {y:X} {z:rR ps X} {k:Nat},fy rk ps l y=some z->∀i ri,look (eQ ps z k) i=some ri ->
  ∃o,fz (jR ps l) k i=some o/\AB σ o ri
 | [],_,_,_,_,_,_,i,ri,h=>by simp[eQ,look] at h
 | .d s ::ps,l,X,y,z,k,hz,i,ri,h=>by
  simp only[fy] at hz
  split at hz
  ·rename_i x l' hx
   split at hz
   ·rename_i w hw
    injection hz with hz
    subst hz
    have e:=lu hx
    simp only[jR,<-e]
    exact nG hrk hw i ri h
   ·cases hz
  ·cases hz
 | .row t e ::ps,a ::l,X,y,z,k,hz,i,ri,h=>by
  simp only[fy] at hz
  split at hz
  ·rename_i x w hx hw
   injection hz with hz
   subst hz
   simp only[eQ] at h
   rw[ak] at h
   simp only[jR,fz]
   split at h
   ·rename_i hik
    injection h with h
    subst h
    rw[if_pos hik]
    exact ⟨_,rfl,wQ hrk hx⟩
   ·rename_i hik
    rw[if_neg hik]
    exact nG hrk hw i ri h
  ·cases hz
 | .row _ _ ::_,[],_,_,_,_,hz,_,_,_=>by simp[fy] at hz
 | .x p ::ps,a ::l,X,y,z,k,hz,i,ri,h=>by
  simp only[fy] at hz
  split at hz
  ·rename_i x w hx hw
   injection hz with hz
   subst hz
   simp only[eQ] at h
   rw[ak] at h
   simp only[jR,fz]
   split at h
   ·rename_i hik
    injection h with h
    subst h
    rw[if_pos hik]
    exact ⟨_,rfl,CK hrk hx⟩
   ·rename_i hik
    rw[if_neg hik]
    exact nG hrk hw i ri h
  ·cases hz
 | .x _ ::_,[],_,_,_,_,hz,_,_,_=>by simp[fy] at hz
end
section
variable {N:Nat} {E E0:Env} {a a0:Act}
theorem zG {σ:St} (hm:Mod N E a σ.look) {i:Nat} {ag:Bool} {l:List At} (h:ny σ (.slot i ag)=some l):∃v cs,a.tmps[i]?=some v/\v=mkV ag cs/\cj E l cs/\(ag=false->cs.length=1):=by
 simp only[ny] at h
 split at h
 ·rename_i ag' l' hs
  split at h
  ·rename_i hag
   have hag:ag=ag':=by simpa using hag
   subst hag
   injection h with h
   subst h
   obtain ⟨v,hv,hr⟩:=hm.slots i _ hs
   obtain ⟨cs,h1,h2,h3⟩:=(hr:f8 E ag l' v)
   exact ⟨v,cs,hv,h1,h2,h3⟩
  ·cases h
 ·cases h
theorem j8 {rk:Rk}:∀{ps:List Pat} {l:List At} {X:Type} {y:X} {z:rR ps X},fy rk ps l y=some z->kR ps z=y/\(jR ps l).length=eL ps
 | [],[],_,_,z,hz=>by
  simp only[fy,Option.some.injEq] at hz
  exact ⟨hz.symm,rfl⟩
 | [],_ ::_,_,_,_,hz=>by simp[fy] at hz
 | .d s ::ps,l,X,y,z,hz=>by
  simp only[fy] at hz
  split at hz
  ·rename_i x l' hx
   split at hz
   ·rename_i w hw
    injection hz with hz
    subst hz
    have e:=lu hx
    simp only[jR,<-e]
    exact j8 (ps:=ps) hw
   ·cases hz
  ·cases hz
 | .row t e ::ps,a ::l,X,y,z,hz=>by
  simp only[fy] at hz
  split at hz
  ·rename_i x w hx hw
   injection hz with hz
   subst hz
   obtain ⟨h1,h2⟩:=j8 (ps:=ps) hw
   exact ⟨h1,by simp[jR,eL,h2]⟩
  ·cases hz
 | .row _ _ ::_,[],_,_,_,hz=>by simp[fy] at hz
 | .x p ::ps,a ::l,X,y,z,hz=>by
  simp only[fy] at hz
  split at hz
  ·rename_i x w hx hw
   injection hz with hz
   subst hz
   obtain ⟨h1,h2⟩:=j8 (ps:=ps) hw
   exact ⟨h1,by simp[jR,eL,h2]⟩
  ·cases hz
 | .x _ ::_,[],_,_,_,hz=>by simp[fy] at hz
theorem mY {σ:St} (hm:Mod N E a σ.look) {h r:Nat->Prop} {src:Nat->Option (Option Nat)}:∀{rh:List (Plc×List Pat)} {x:TsR rh} {k:Nat},ud σ rh=some x ->
  (∀j o,fz (fb σ rh) k j=some o->r j/\src j=some o)->(fb σ rh).length=ky rh/\(∀i t,look (fL rh x k) i=some (some t)->∃v,a.tmps[i]?=some v/\gW (E.re h r src) t v) /\
  (∀i l,look (dy rh x k) i=some l->∃l',look σ.h i=some l'/\∀cs,cj E l' cs->cj (E.re h r src) l cs)
 | [],x,k,_,_=>⟨rfl,fun i t h=>by simp[fL,look] at h,fun i l h=>by simp[dy,look] at h⟩
 | (p,ps) ::rh,x,k,hx,hs=>by
  simp only[ud] at hx
  split at hx
  ·rename_i l y hl hy
   cases p with
   | row q =>
    obtain ⟨g2,_⟩:=j8 (ps:=ps) hx
    simp only[fb] at hs ⊢
    have ih:=mY hm (h:=h) (r:=r) (src:=src) (k:=k) hy hs
    rw[<-g2] at ih
    obtain ⟨j1,j2,j3⟩:=ih
    exact ⟨by rw[j1];simp[ky,qC],j2,j3⟩
   | slot i ag =>
    simp only[fb,hl] at hs ⊢
    have hs1:∀j o,fz (jR ps l) k j=some o->r j/\src j=some o:=fun j o hj=>hs j o (by rw[jB,hj])
    obtain ⟨v,cs,h1,h2,h3,h4⟩:=zG hm hl
    obtain ⟨g1,g2,g3⟩:=ln hm.memOk (h:=h) (r:=r) (src:=src) (k:=k) hx h3 hs1
    have hs2:∀j o,fz (fb σ rh) (k+eL ps) j=some o->r j/\src j=some o:=fun j o hj=>hs j o (by
     rw[jB]
     cases hq:fz (jR ps l) k j with
     | none=>simp only[g3];exact hj
     | some o' =>
      have e1:=(eO hj).1
      obtain ⟨_,e3⟩:=eO hq
      have:=(List.getElem?_eq_some_iff.1 e3).1
      omega)
    have ih:=mY hm (h:=h) (r:=r) (src:=src) (k:=k+eL ps) hy hs2
    rw[<-g2] at ih
    obtain ⟨j1,j2,j3⟩:=ih
    refine ⟨by rw[List.length_append,g3,j1];rfl,fun i' t ht=>?_,j3⟩
    simp only[fL] at ht
    rw[ak] at ht
    split at ht
    ·rename_i e
     subst e
     simp only[Option.some.injEq] at ht
     subst ht
     exact ⟨v,h1,(⟨cs,h2,g1,h4⟩:f8 _ ag _ v)⟩
    ·exact j2 i' t ht
   | blk b =>
    simp only[fb,hl] at hs ⊢
    have hs1:∀j o,fz (jR ps l) k j=some o->r j/\src j=some o:=fun j o hj=>hs j o (by rw[jB,hj])
    have hb:look σ.h b=some l:=hl
    obtain ⟨_,cs0,t0,_,h3,_⟩:=hm.blks b l hb
    obtain ⟨_,g2,g3⟩:=ln hm.memOk (h:=h) (r:=r) (src:=src) (k:=k) hx h3 hs1
    have hs2:∀j o,fz (fb σ rh) (k+eL ps) j=some o->r j/\src j=some o:=fun j o hj=>hs j o (by
     rw[jB]
     cases hq:fz (jR ps l) k j with
     | none=>simp only[g3];exact hj
     | some o' =>
      have e1:=(eO hj).1
      obtain ⟨_,e3⟩:=eO hq
      have:=(List.getElem?_eq_some_iff.1 e3).1
      omega)
    have ih:=mY hm (h:=h) (r:=r) (src:=src) (k:=k+eL ps) hy hs2
    rw[<-g2] at ih
    obtain ⟨j1,j2,j3⟩:=ih
    refine ⟨by rw[List.length_append,g3,j1];rfl,j2,fun i l' ht=>?_⟩
    simp only[dy] at ht
    rw[ak] at ht
    split at ht
    ·rename_i e
     subst e
     injection ht with ht
     subst ht
     exact ⟨l,hb,fun cs hcs=>(ln hm.memOk (h:=h) (r:=r) (src:=src) (k:=k) hx hcs hs1).1⟩
    ·exact j3 i l' ht
  ·cases hx
theorem ra {σ:St}:∀{rh:List (Plc×List Pat)} {x:TsR rh} {k:Nat},ud σ rh=some x ->
  ∀i ri,look (dj rh x k) i=some ri->(∃o,fz (fb σ rh) k i=some o/\AB σ o ri)\/(i ∈ bN rh/\AB σ (some i) ri)
 | [],x,k,_,i,ri,h=>by simp[dj,look] at h
 | (p,ps) ::rh,x,k,hx,i,ri,h=>by
  simp only[ud] at hx
  split at hx
  ·rename_i l y hl hy
   obtain ⟨g2,g3⟩:=j8 (ps:=ps) hx
   simp only[dj] at h
   rw[aZ] at h
   have other:∀q:Plc,q=p->(∀z,q≠.row z)->(∀ri',look (gY p ps x k) i=some ri'->look (eQ ps x k) i=some ri')->(look (gY p ps x k) i=none->look (eQ ps x k) i=none)->qC p ps=eL ps->fb σ ((p,ps) ::rh)=jR ps l++fb σ rh->bN ((p,ps) ::rh)=bN rh ->
     (∃o,fz (fb σ ((p,ps) ::rh)) k i=some o/\AB σ o ri)\/(i ∈ bN ((p,ps) ::rh)/\AB σ (some i) ri):=by
    intro _ _ _ e1 e2 e3 e4 e5
    rw[e4,e5,jB,g3]
    cases hq:look (gY p ps x k) i with
    | some ri' =>
     rw[hq] at h
     injection h with h
     subst h
     obtain ⟨o,h1,h2⟩:=nG rfl hx i ri' (e1 ri' hq)
     exact .inl ⟨o,by rw[h1],h2⟩
    | none =>
     rw[hq] at h
     simp only at h
     have hno:fz (jR ps l) k i=none:=by
      cases hh:fz (jR ps l) k i with
      | none=>rfl
      | some o =>
       obtain ⟨e1,e3⟩:=eO hh
       have:=(List.getElem?_eq_some_iff.1 e3).1
       have:=jW (ps:=ps) (x:=x) (k:=k) (i:=i) (by omega)
       rw[e2 hq] at this
       cases this
     rw[hno]
     rw[g2,e3] at h
     exact ra hy i ri h
   cases p with
   | slot j ag=>exact other _ rfl (by simp) (fun _ h=>h) (fun h=>h) rfl (by simp[fb,hl]) rfl
   | blk b=>exact other _ rfl (by simp) (fun _ h=>h) (fun h=>h) rfl (by simp only[fb,hl]) rfl
   | row q =>
    have hl':l=[.row q]:=by simp only[ny,Option.some.injEq] at hl;exact hl.symm
    subst hl'
    cases hq:look (gY (.row q) ps x k) i with
    | some ri' =>
     rw[hq] at h
     injection h with h
     subst h
     match ps,x,hx,hq with
     | .row t e ::_,x,hx,hq =>
      simp only[gY] at hq
      rw[ak] at hq
      split at hq
      ·rename_i e'
       injection hq with hq
       subst hq;subst e'
       refine .inr ⟨by simp[bN],?_⟩
       simp only[fy] at hx
       split at hx
       ·rename_i xl w hxl hw
        injection hx with hx
        subst hx
        exact wQ rfl hxl
       ·cases hx
      ·cases hq
     | .x p ::_,x,hx,hq =>
      simp only[gY] at hq
      rw[ak] at hq
      split at hq
      ·rename_i e'
       injection hq with hq
       subst hq;subst e'
       refine .inr ⟨by simp[bN],?_⟩
       simp only[fy] at hx
       split at hx
       ·rename_i xl w hxl hw
        injection hx with hx
        subst hx
        exact CK rfl hxl
       ·cases hx
      ·cases hq
     | [],x,_,hq=>simp[gY,look] at hq
     | .d _ ::_,x,_,hq=>simp[gY,look] at hq
    | none =>
     rw[hq] at h
     simp only[qC,Nat.add_zero] at h
     rw[g2] at h
     simp only[fb]
     rcases ra hy i ri h with h | ⟨h1,h2⟩
     ·exact .inl h
     ·exact .inr ⟨by simp[bN,h1],h2⟩
  ·cases hx
theorem fx {i:Nat}:∀{rh:List (Plc×List Pat)} {x:TsR rh} {k:Nat},(look (dy rh x k) i).isSome=true↔i ∈ bP rh
 | [],_,_=>by simp[dy,look,bP]
 | (.slot _ _,ps) ::r,x,k=>by simp only[dy,bP];exact fx
 | (.row _,ps) ::r,x,k=>by simp only[dy,bP];exact fx
 | (.blk b,ps) ::r,x,k=>by
  simp only[dy,bP]
  rw[ak]
  split
  ·rename_i e;simp[e]
  ·rename_i e
   rw[fx]
   simp[e]
theorem w4:∀{s:Sh} {q:Nat} {x:s.T} {l:List At},s.take [.row q]=some (x,l)->False
 | .int _,_,_,_,h=>by simp[Sh.take,uY] at h
 | .bool,_,_,_,h=>by simp[Sh.take,si] at h
 | .str,_,_,_,h=>by simp[Sh.take,uV] at h
 | .sl _,_,_,_,h=>by simp[Sh.take,Ai] at h
 | .pair a b,q,x,l,h=>by
  simp only[Sh.take] at h
  split at h
  ·rename_i y r hy
   exact w4 hy
  ·cases h
 | .agg e,_,_,_,h=>w4 (s:=e) h
 | .ref,_,_,_,h=>by cases h
theorem BI {σ:St} {i:Nat}:∀{rh:List (Plc×List Pat)} {x:TsR rh} {k:Nat},ud σ rh=some x->i ∈ bN rh->(look (dj rh x k) i).isSome=true
 | (p,ps) ::r,x,k,hx,h=>by
  simp only[ud] at hx
  split at hx
  ·rename_i l y hl hy
   obtain ⟨g2,_⟩:=j8 (ps:=ps) hx
   simp only[dj]
   rw[aZ]
   cases hq:look (gY p ps x k) i with
   | some ri=>rfl
   | none =>
    simp only
    rw[g2]
    refine BI hy ?_
    cases p with
    | slot j ag=>exact h
    | blk b=>exact h
    | row q =>
     simp only[bN,List.mem_cons] at h
     rcases h with h | h
     ·exfalso
      subst h
      have hl':l=[.row i]:=by simp only[ny,Option.some.injEq] at hl;exact hl.symm
      subst hl'
      match ps,x,hx,hq with
      | .row t e ::_,x,_,hq=>simp[gY,ak] at hq
      | .x p ::_,x,_,hq=>simp[gY,ak] at hq
      | [],x,hx,_=>simp[fy] at hx
      | .d s ::_,x,hx,_ =>
       simp only[fy] at hx
       split at hx
       ·rename_i hh
        have:=w4 hh
        exact this
       ·cases hx
     ·exact h
  ·cases hx
theorem nN {σ:St}:∀{l:List (Nat×Option SlotV)},qw σ l=true->∀i s,look l i=some (some s)->(∀b ∈ HN s.s,(look σ.h b).isSome=true)/\∀q ∈ Ct s.s,(look σ.r q).isSome=true
 | (j,none) ::r,hh,i,s,hi=>by
  simp only[qw] at hh
  rw[ak] at hi
  split at hi
  ·cases hi
  ·exact nN hh i s hi
 | (j,some t) ::r,hh,i,s,hi=>by
  simp only[qw,z10] at hh
  rw[ak] at hi
  split at hi
  ·injection hi with hi
   injection hi with hi
   subst hi
   exact ⟨jM hh.1.1,jM hh.1.2⟩
  ·exact nN hh.2 i s hi
theorem t5 {σ:St}:∀{l:List (Nat×List At)},AD σ l=true->∀i m,look l i=some m->(∀b ∈ vC m,(look σ.h b).isSome=true)/\∀q ∈ oH m,(look σ.r q).isSome=true
 | (j,t) ::r,hh,i,m,hi=>by
  simp only[AD,z10] at hh
  rw[ak] at hi
  split at hi
  ·injection hi with hi
   subst hi
   exact ⟨jM hh.1.1,jM hh.1.2⟩
  ·exact t5 hh.2 i m hi
theorem dZ.re {E E':Env} {i q:Nat} (hw:E'.w=E.w) (hZ:E'.Z=E.Z) (hι:E'.ι i=E.ι q) (hν:E'.ν i=E.ν q):∀{s:Sh} {x:s.T} {cs:List Value},dZ E q s x cs->dZ E' i s x cs
 | .ref,_,_,h=>by simp only[dZ] at h ⊢;rw[hι,hν];exact h
 | .pair a b,x,cs,h=>by
  simp only[dZ] at h ⊢
  obtain ⟨c1,c2,h1,h2,h3⟩:=h
  exact ⟨c1,c2,h1,dZ.re hw hZ hι hν h2,dZ.re hw hZ hι hν h3⟩
 | .agg e,x,cs,h=>dZ.re (s:=e) (x:=x) hw hZ hι hν h
 | .int _,_,_,h=>h
 | .bool,_,_,h=>h
 | .str,_,_,h=>h
 | .sl _,_,_,h=>by simp only[dZ] at h ⊢;rw[hw,hZ];exact h
theorem cQ.re {E E':Env} {i q:Nat} (hw:E'.w=E.w) (hZ:E'.Z=E.Z) (hι:E'.ι i=E.ι q) (hν:E'.ν i=E.ν q) {s:Sh}:∀{l:List s.T} {xs:List Value},cQ E q s l xs->cQ E' i s l xs
 | [],_,h=>h
 | _ ::_,_,⟨c,r,h1,h2,h3⟩=>⟨c,r,h1,dZ.re hw hZ hι hν h2,cQ.re hw hZ hι hν h3⟩
theorem XOk.re {E E':Env} {i q:Nat} {x:XI} (hw:E'.w=E.w) (hZ:E'.Z=E.Z) (h0:E'.w0=E.w0) (hR:E'.R i) (hρ:E'.ρ i=E.ρ q) (hφ:E'.φ i=E.φ q) (hι:E'.ι i=E.ι q) (hν:E'.ν i=E.ν q) (h:XOk E q x):XOk E' i x:=by
 cases x with
 | set t k l =>
  obtain ⟨_,b,es,ck,h1,h2,h3,h4⟩:=h
  exact ⟨hR,b,es,ck,by rw[hρ];exact h1,by rw[hφ];exact h2,by rw[hw];exact h3,by rw[hw,hZ];exact h4⟩
 | map t k e l =>
  obtain ⟨_,b,es,ck,h1,h2,h3,h4⟩:=h
  exact ⟨hR,b,es,ck,by rw[hρ];exact h1,by rw[hφ];exact h2,by rw[hw];exact h3,by rw[hw,hZ];exact h4⟩
 | tab t s l ti e a =>
  obtain ⟨_,⟨xs,h1,h2⟩,h3,h4,h5,h6⟩:=h
  refine ⟨hR,⟨xs,by rw[hw,h0,hρ];exact h1,cQ.re hw hZ hι hν h2⟩,by rw[hρ,hφ];exact h3,by rw[hν];exact h4,fun j l' hj=>?_,by rw[hι];exact h6⟩
  have:=h5 j l' hj
  unfold l5 at this ⊢
  rw[hw,h0,hZ,hρ,hφ,hι]
  exact this
theorem je {rh:List (Plc×List Pat)} {W:List Nat} {srcs:List Nat} {σ σ':St} {x:TsR rh} (hok:ga rh W srcs σ=true) (hm0:Mod N E0 a0 σ.look) (hk:Keep E0 E) (hm:Mod N E a σ'.look) (hx:j4 rh (bI (bN rh++srcs) σ.r++σ.roR) σ'=some x)
  (hs:∀i,i ∉ W->look σ'.s i=look σ.s i) (hh:∀i ∈ bI (bP rh) σ.h++σ.ro,look σ'.h i=look σ.h i) (hr:∀i ∈ bI (bN rh++srcs) σ.r++σ.roR,look σ'.r i=look σ.r i) :
  ∃E',eM E E'/\E'.w=E.w/\Keep E0 E'/\Mod N E' a (head rh W srcs σ x).look:=by
 simp only[ga,z10] at hok
 obtain ⟨⟨⟨⟨⟨⟨k1,k2⟩,k3⟩,k4⟩,k5⟩,k6⟩,⟨⟨⟨k7,k8⟩,k9⟩,k10⟩⟩:=hok
 unfold j4 at hx
 split at hx
 case h_2=>cases hx
 rename_i hro
 simp only[J7,z10] at hro
 obtain ⟨⟨hnd,hoff⟩,hoff2⟩:=hro
 have hoff2:=fK hoff2
 have hrk9:=jM k9
 have hnd:=py hnd
 have hoff:=fK hoff
 have hfresh:=kx k3
 let g':=(head rh W srcs σ x).look
 let src:Nat->Option (Option Nat):=fz (fb σ' rh) σ.next
 let E':=E.re (fun i=>(g'.h i).isSome=true) (fun i=>(g'.r i).isSome=true) src
 have hlen:(fb σ' rh).length=ky rh:=(mY hm (h:=fun _=>True) (r:=fun _=>True) (src:=src) (k:=σ.next) hx fun j o hj=>⟨trivial,hj⟩).1
 have gr:∀i,g'.r i=match look (dj rh x σ.next) i with | some ri=>some ri | none=>if i ∈ srcs then some .none else look σ.r i:=by
  intro i
  show look (dj rh x σ.next++(kL srcs++σ.r)) i=_
  rw[aZ]
  cases look (dj rh x σ.next) i with
  | some ri=>rfl
  | none =>
   simp only
   rw[aZ,ka]
   by_cases h:i ∈ srcs
   ·simp[h]
   ·simp[h]
 have gh:∀i,g'.h i=match look (dy rh x σ.next) i with | some l=>some l | none=>look σ.h i:=by
  intro i
  show look (dy rh x σ.next++σ.h) i=_
  rw[aZ]
  cases look (dy rh x σ.next) i<;>rfl
 have srcNew:∀i,(src i).isSome=true↔(σ.next<=i/\i<σ.next+ky rh):=by
  intro i
  constructor
  ·intro h
   cases hq:src i with
   | none=>rw[hq] at h;cases h
   | some o =>
    obtain ⟨e1,e2⟩:=eO hq
    have:=(List.getElem?_eq_some_iff.1 e2).1
    omega
  ·intro h
   cases hq:src i with
   | some o=>rfl
   | none =>
    exfalso
    have:∀(l:List (Option Nat)) (k:Nat),k<=i->i<k+l.length->fz l k i=none->False:=by
     intro l
     induction l with
     | nil=>intro k h1 h2;simp at h2;omega
     | cons o l ih =>
      intro k h1 h2 h3
      simp only[fz] at h3
      split at h3
      ·cases h3
      ·simp only[List.length_cons] at h2;exact ih (k+1) (by omega) (by omega) h3
    exact this _ _ h.1 (by omega) hq
 have srcNone:∀i,(look σ.r i).isSome=true->src i=none:=by
  intro i h
  cases hq:src i with
  | none=>rfl
  | some o =>
   have:=(srcNew i).1 (by rw[hq];rfl)
   rw[hfresh i this.1 this.2] at h
   cases h
 have rkey:∀i,(look σ.r i).isSome=true->(g'.r i).isSome=true:=by
  intro i h
  rw[gr]
  split
  ·rfl
  ·split
   ·rfl
   ·exact h
 have hkey:∀i,(look σ.h i).isSome=true->(g'.h i).isSome=true:=by
  intro i h
  rw[gh]
  split
  ·rfl
  ·exact h
 have newR:∀i,(σ.next<=i/\i<σ.next+ky rh)->(g'.r i).isSome=true:=by
  intro i h
  rw[gr]
  have:=qj (rh:=rh) (x:=x) (k:=σ.next) (i:=i) h
  cases hq:look (dj rh x σ.next) i with
  | some ri=>rfl
  | none=>rw[hq] at this;cases this
 obtain ⟨_,hS,hB⟩:=mY hm (h:=fun i=>(g'.h i).isSome=true) (r:=fun i=>(g'.r i).isSome=true) (src:=src) (k:=σ.next) hx fun j o hj=>⟨newR j ((srcNew j).1 (by show (fz _ _ j).isSome=true;rw[hj];rfl)),hj⟩
 have hR:=ra (k:=σ.next) hx
 have keep:Keep E0 E':=⟨hk.rg,fun y v hv=>by
  have hv':=hk y v hv
  refine hO.re hv' (fun i hi=>?_) (fun i hi=>?_)
  ·have:E0.L i:=by
    cases y<;>simp only[HY] at hi
    case ptr=>simp only[List.mem_singleton] at hi;subst hi;exact hv.2
    case ae=>simp only[List.mem_singleton] at hi;subst hi;exact hv.2
    case clo=>obtain ⟨p,hp,rfl⟩:=List.mem_map.1 hi;exact hv.2 p hp
    all_goals cases hi
   exact hkey i (hm0.glob.live i this)
  ·have:E0.R i:=by
    cases y<;>simp only[ue] at hi
    case row r=>simp only[List.mem_singleton] at hi;subst hi;exact hv.2.1
    case re r _ _ _=>simp only[List.mem_singleton] at hi;subst hi;obtain ⟨_,_,_,h⟩:=hv;exact h
    case sub r _ _ _=>simp only[List.mem_singleton] at hi;subst hi;exact hv.2
    case ir r _=>simp only[List.mem_singleton] at hi;subst hi;exact hv.2.1
    case ie r _ _ _ _=>simp only[List.mem_singleton] at hi;subst hi;obtain ⟨_,_,_,h,_⟩:=hv;exact h
    all_goals cases hi
   have:=hm0.glob.rlive i this
   exact ⟨rkey i this,srcNone i this⟩,fun b o hb=>hk.obj b o hb⟩
 have eR:∀i o,src i=o->E'.ρ i=pick E.ρ (.slice none 0 0) i o/\E'.φ i=pick E.φ (fun _=>False) i o/\E'.ι i=pick E.ι (fun _=>undef) i o/\E'.ν i=pick E.ν 0 i o:=fun i o h=>by subst h;exact ⟨rfl,rfl,rfl,rfl⟩
 have origL:∀i ri,g'.r i=some ri->ri≠.none->(∃o,src i=some o/\AB σ' o ri)\/(src i=none/\i ∈ bN rh/\AB σ' (some i) ri)\/(src i=none/\i ∈ bI (bN rh++srcs) σ.r++σ.roR/\look σ'.r i=some ri):=by
  intro i ri hi hnn
  rw[gr] at hi
  cases hq:look (dj rh x σ.next) i with
  | some ri' =>
   rw[hq] at hi
   simp only[Option.some.injEq] at hi
   subst hi
   rcases hR i ri' hq with ⟨o,h1,h2⟩ | ⟨h1,h2⟩
   ·exact .inl ⟨o,h1,h2⟩
   ·exact .inr (.inl ⟨srcNone i (hrk9 i h1),h1,h2⟩)
  | none =>
   rw[hq] at hi
   simp only at hi
   split at hi
   ·injection hi with hi;exact absurd hi.symm hnn
   ·rename_i hns
    have hsome:(look σ.r i).isSome=true:=by rw[hi];rfl
    have hnq:i ∉ bN rh:=fun hr=>by
     have:(look (dj rh x σ.next) i).isSome=true:=BI hx hr
     rw[hq] at this
     cases this
    have hmem:i ∈ bI (bN rh++srcs) σ.r++σ.roR:=List.mem_append_left _ (l9 (fun h=>(List.mem_append.1 h).elim hnq hns) hsome)
    exact .inr (.inr ⟨srcNone i hsome,hmem,by rw[hr i hmem];exact hi⟩)
 have dU:∀i ri,g'.r i=some (.some ri)->(∃q n,look σ'.r q=some (.some ⟨ri.t,ri.e,n,ri.l⟩)/\E'.ρ i=E.ρ q/\((src i=some (some q))\/(src i=none/\q=i/\(i ∈ bI (bN rh++srcs) σ.r++σ.roR\/i ∈ bN rh)))/\(ri.n=ri.l.length\/ri.n=n))\/(E'.ρ i=.slice none 0 0/\ri.l=[]/\ri.n=ri.l.length):=by
  intro i ri hi
  rcases origL i _ hi (fun h=>by cases h) with ⟨o,h1,h2⟩ | ⟨h0,h1,h2⟩ | ⟨h0,h1,h2⟩
  ·rcases h2 with ⟨q,n,rfl,h3,h4⟩ | ⟨rfl,h3,h4⟩
   ·exact .inl ⟨q,n,h3,(eR i _ h1).1,.inl h1,.inl h4⟩
   ·exact .inr ⟨(eR i _ h1).1,h3,h4⟩
  ·rcases h2 with ⟨q,n,hq,h3,h4⟩ | ⟨hq,_⟩
   ·injection hq with hq
    subst hq
    exact .inl ⟨i,n,h3,(eR i _ h0).1,.inr ⟨h0,rfl,.inr h1⟩,.inl h4⟩
   ·cases hq
  ·exact .inl ⟨i,ri.n,h2,(eR i _ h0).1,.inr ⟨h0,rfl,.inl h1⟩,.inr rfl⟩
 have xsL:∀i y,g'.r i=some (.x y)->(∃q,look σ'.r q=some (.x y)/\(E'.ρ i=E.ρ q/\E'.φ i=E.φ q/\E'.ι i=E.ι q/\E'.ν i=E.ν q)/\((src i=some (some q))\/(src i=none/\q=i/\(i ∈ bI (bN rh++srcs) σ.r++σ.roR\/i ∈ bN rh))))\/(E'.ρ i=.slice none 0 0/\(∀b,¬ E'.φ i b)/\E'.ν i=0/\∃t s ti e,y=.tab t s [] ti e []):=by
  intro i y hi
  rcases origL i _ hi (fun h=>by cases h) with ⟨o,h1,h2⟩ | ⟨h0,h1,h2⟩ | ⟨h0,h1,h2⟩
  ·rcases h2 with ⟨q,rfl,h3⟩ | ⟨rfl,h3⟩
   ·exact .inl ⟨q,h3,eR i _ h1,.inl h1⟩
   ·exact .inr ⟨(eR i _ h1).1,fun b hb=>by rw[(eR i _ h1).2.1] at hb;exact hb,(eR i _ h1).2.2.2,h3⟩
  ·rcases h2 with ⟨q,hq,h3⟩ | ⟨hq,_⟩
   ·injection hq with hq
    subst hq
    exact .inl ⟨i,h3,eR i _ h0,.inr ⟨h0,rfl,.inr h1⟩⟩
   ·cases hq
  ·exact .inl ⟨i,h2,eR i _ h0,.inr ⟨h0,rfl,.inl h1⟩⟩
 have sameSrc:∀i j q,((src i=some (some q))\/(src i=none/\q=i/\(i ∈ bI (bN rh++srcs) σ.r++σ.roR\/i ∈ bN rh)))->((src j=some (some q))\/(src j=none/\q=j/\(j ∈ bI (bN rh++srcs) σ.r++σ.roR\/j ∈ bN rh)))->i=j:=by
  intro i j q h3 g3
  rcases h3 with h3 | ⟨h3,rfl,h4⟩
  ·rcases g3 with g3 | ⟨g3,rfl,g4⟩
   ·obtain ⟨e1,e2⟩:=eO h3
    obtain ⟨e3,e4⟩:=eO g3
    have:=F3 hnd e2 e4
    omega
   ·rcases g4 with g4 | g4
    ·exact absurd g4 (hoff q (ls (eO h3).2))
    ·exact absurd g4 (hoff2 q (ls (eO h3).2))
  ·rcases g3 with g3 | ⟨_,rfl,_⟩
   ·rcases h4 with h4 | h4
    ·exact absurd h4 (hoff q (ls (eO g3).2))
    ·exact absurd h4 (hoff2 q (ls (eO g3).2))
   ·rfl
 have blksL:∀i l,g'.h i=some l->∃l',look σ'.h i=some l'/\∀cs,cj E l' cs->cj E' l cs:=by
  intro i l hi
  rw[gh] at hi
  cases hq:look (dy rh x σ.next) i with
  | some l0 =>
   rw[hq] at hi
   injection hi with hi
   subst hi
   exact hB i l0 hq
  | none =>
   rw[hq] at hi
   simp only at hi
   have hnb:i ∉ bP rh:=fun hb=>by
    have:=(fx (rh:=rh) (x:=x) (k:=σ.next)).2 hb
    rw[hq] at this
    cases this
   have hmem:i ∈ bI (bP rh) σ.h++σ.ro:=List.mem_append_left _ (l9 hnb (by rw[hi];rfl))
   obtain ⟨o1,o2⟩:=t5 k2 i l hi
   exact ⟨l,by rw[hh i hmem];exact hi,fun cs hcs=>cj.re hcs (fun b hb=>hkey b (o1 b hb)) (fun q hq=>⟨rkey q (o2 q hq),srcNone q (o2 q hq)⟩)⟩
 have hxg:XGlob E' g':=by
  refine ⟨fun i y b hi hb=>?_,fun i j y z b hi hj hb hb'=>?_⟩
  ·rcases xsL i y hi with ⟨q,h1,⟨_,h2,_,_⟩,_⟩ | ⟨_,h2,_⟩
   ·rw[h2] at hb
    obtain ⟨g1,g2,g3,g4,g5⟩:=hm.glob.xg.own q y b h1 hb
    refine ⟨g1,g2,g3,fun j l hj=>?_,fun j r hj=>?_⟩
    ·obtain ⟨l',h5,_⟩:=blksL j l hj
     exact g4 j l' h5
    ·rcases dU j r hj with ⟨p,n,k1,k2,_⟩ | ⟨k1,_⟩
     ·rw[k2];exact g5 p _ k1
     ·rw[k1];intro e;cases e
   ·exact absurd hb (h2 b)
  ·rcases xsL i y hi with ⟨q,h1,⟨_,h2,_,_⟩,h3⟩ | ⟨_,h2,_⟩
   ·rcases xsL j z hj with ⟨p,k1,⟨_,k2,_,_⟩,k3⟩ | ⟨_,k2,_⟩
    ·rw[h2] at hb
     rw[k2] at hb'
     have:=hm.glob.xg.inj q p y z b h1 k1 hb hb'
     subst this
     exact sameSrc i j q h3 k3
    ·exact absurd hb' (k2 b)
   ·exact absurd hb (h2 b)
 refine ⟨E',rfl,rfl,keep,⟨⟨hm.glob.below,hm.glob.zlt,hm.glob.z0,hm.glob.zfrom,fun b hb=>hb,fun q hq=>hq,fun i l hi=>?_,fun i j l l' hi hj hij=>?_,fun i ri b hi hb=>?_,fun i j ri rj b hi hj hb hb'=>?_,hxg⟩,fI.cong (E:=E) (E':=E') rfl (fun _ h=>h) rfl rfl hm.nodef,hm.size,fun i t hi=>?_,fun i l hi=>?_,fun i ri hi=>?_,fun i y hi=>?_⟩⟩
 ·obtain ⟨l',h1,_⟩:=blksL i l hi
  exact hm.glob.own i l' h1
 ·obtain ⟨l1,h1,_⟩:=blksL i l hi
  obtain ⟨l2,h2,_⟩:=blksL j l' hj
  exact hm.glob.inj i j l1 l2 h1 h2 hij
 ·rcases dU i ri hi with ⟨q,n,h1,h2,_⟩ | ⟨h1,_⟩
  ·rw[h2] at hb
   obtain ⟨h3,h4⟩:=hm.glob.rown q _ b h1 hb
   exact ⟨h3,fun j l hj=>by obtain ⟨l',h5,_⟩:=blksL j l hj;exact h4 j l' h5⟩
  ·rw[h1] at hb;cases hb
 ·rcases dU i ri hi with ⟨q,n,h1,h2,h3,_⟩ | ⟨h1,_⟩
  ·rcases dU j rj hj with ⟨p,n',g1,g2,g3,_⟩ | ⟨g1,_⟩
   ·rw[h2] at hb
    rw[g2] at hb'
    have hqp:=hm.glob.rinj q p _ _ b h1 g1 hb hb'
    subst hqp
    exact sameSrc i j q h3 g3
   ·rw[g1] at hb';cases hb'
  ·rw[h1] at hb;cases hb
 ·
  simp only[St.look,fJ,head] at hi
  split at hi
  ·rename_i t' hl
   injection hi with hi
   subst hi
   rw[aZ] at hl
   cases hq:look (fL rh x σ.next) i with
   | some t0 =>
    rw[hq] at hl
    injection hl with hl
    subst hl
    exact hS i t' hq
   | none =>
    rw[hq] at hl
    simp only at hl
    obtain ⟨h1,h2⟩:=rA hl
    have e:σ'.look.s i=some t':=by
     show fJ σ'.s i=some t'
     simp only[fJ,hs i h2,h1]
    obtain ⟨v,h3,h4⟩:=hm.slots i t' e
    obtain ⟨o1,o2⟩:=nN k1 i t' hl
    exact ⟨v,h3,gW.re h4 (fun b hb=>hkey b (o1 b hb)) (fun q hq=>⟨rkey q (o2 q hq),srcNone q (o2 q hq)⟩)⟩
  ·cases hi
 ·obtain ⟨l',h1,h2⟩:=blksL i l hi
  obtain ⟨_,cs,t,h4,h5,h6⟩:=hm.blks i l' h1
  exact ⟨by show (g'.h i).isSome=true;rw[hi];rfl,cs,t,h4,h2 cs h5,h6⟩
 ·rcases dU i ri hi with ⟨q,n,h1,h2,_,h5⟩ | ⟨h1,h2,h3⟩
  ·obtain ⟨_,xs,h3,h4,h6⟩:=hm.rows q _ h1
   exact ⟨by show (g'.r i).isSome=true;rw[hi];rfl,xs,by rw[h2];exact h3,h4,h5.elim id fun e=>e.trans h6⟩
  ·obtain ⟨t,e,n,l⟩:=ri
   simp only at h2 h3
   subst h2
   exact ⟨by show (g'.r i).isSome=true;rw[hi];rfl,[],by rw[h1];exact World.ownsRow_nil _ _ _ _,rfl,h3⟩
 ·have hR':E'.R i:=by show (g'.r i).isSome=true;rw[hi];rfl
  rcases xsL i y hi with ⟨q,h1,⟨h2,h3,h4,h5⟩,_⟩ | ⟨h1,h2,h0,t,s,ti,e,rfl⟩
  ·exact XOk.re (E:=E) rfl rfl rfl hR' h2 h3 h4 h5 (hm.xs q y h1)
  ·refine ⟨hR',⟨[],?_,rfl⟩,?_,h0.symm,?_,?_⟩
   ·rw[h1];exact World.ownsRow_nil _ _ _ _
   ·intro b hb;rw[h1] at hb;cases hb
   ·intro j l' h;simp at h
   ·intro j k l1 l2 b h;simp at h
end
end
end Dn
end
end Go.Proofs.YtfknoaclabfdlaaGreat

namespace Go.Proofs.YtfknoaclabfdlaaGreat
namespace Dn
open Go.RowKit
theorem Keep.dat {E E':Env} (h:Keep E E'):∀{s:Sh} {x:s.T} {cs:List Value},Dat E.w E.Z s x cs->Dat E'.w E'.Z s x cs
 | .int _,_,_,h0=>h0
 | .bool,_,_,h0=>h0
 | .str,_,_,h0=>h0
 | .sl e,l,cs,h0=>by
  obtain ⟨A,c,rfl,h1⟩:=h0
  exact h (.sl e l) _ (show Dat E.w E.Z (.sl e) l [.slice A l.length c] from ⟨A,c,rfl,h1⟩)
 | .pair a b,x,cs,h0=>by
  obtain ⟨c1,c2,rfl,h1,h2⟩:=h0
  exact ⟨c1,c2,rfl,Keep.dat h h1,Keep.dat h h2⟩
 | .agg e,x,cs,h0=>Keep.dat (s:=e) (x:=x) h h0
section
variable {B:Nat} {w w':World} (hT:Turned B w w')
include hT
theorem Dat.turned {Z:Nat->Prop}:∀{s:Sh} {x:s.T} {cs:List Value},Dat w Z s x cs->Dat w' Z s x cs
 | .int _,_,_,h=>h
 | .bool,_,_,h=>h
 | .str,_,_,h=>h
 | .sl e,l,cs,h=>by
  simp only[Dat] at h ⊢
  obtain ⟨A,c,rfl,hc,hA,h⟩:=h
  refine ⟨A,c,rfl,hc,hA,fun h0=>?_⟩
  obtain ⟨ad,rfl,hz,h⟩:=h h0
  refine ⟨ad,rfl,hz,fun k x hx=>?_⟩
  obtain ⟨ecs,h1,h2⟩:=h k x hx
  exact ⟨ecs,Dat.turned h1,fun j v hv=>hT.cell (h2 j v hv)⟩
 | .pair a b,x,cs,h=>by
  simp only[Dat] at h ⊢
  obtain ⟨c1,c2,rfl,h1,h2⟩:=h
  exact ⟨c1,c2,rfl,Dat.turned h1,Dat.turned h2⟩
 | .agg e,x,cs,h=>Dat.turned (s:=e) (x:=x) h
theorem aM.turned {Z:Nat->Prop} {e:Sh}:∀{l:List e.T} {xs:List Value},aM w Z e l xs->aM w' Z e l xs
 | [],_,h=>h
 | _ ::_,_,⟨c,r,h1,h2,h3⟩=>⟨c,r,h1,Dat.turned hT h2,aM.turned h3⟩
end
section
variable {E:Env} {w':World}
theorem hO.turned (hT:Turned E.w0.heap.size E.w w') (_:E.w0.heap.size<=E.w.heap.size):∀{x:At} {v:Value},hO E x v->hO (E.wset w') x v
 | .u,_,_=>trivial
 | .v _,_,h=>h
 | .ptr _ _,_,h=>h
 | .clo _ _,_,h=>h
 | .sl e l,_,h=>Dat.turned hT (s:=.sl e) (x:=l) h
 | .row _,_,h=>h
 | .rf s x o,_,h=>by
  obtain ⟨ad,cs,h1,h2,h3,h4⟩:=h
  exact ⟨ad,cs,h1,h2,Dat.turned hT h3,fun j v hj=>hT.cell (h4 j v hj)⟩
 | .re _ _ _ _,_,h=>h
 | .sub _ _ _ _,_,h=>h
 | .ae _ _ _ _ _ _,_,h=>h
 | .sn e l,_,h=>⟨h.1,Dat.turned hT (s:=.sl e) (x:=l) h.2⟩
 | .ir _ _,_,h=>h
 | .ie _ _ _ _ _,_,h=>h
 | .fn _ _ _,_,h=>by
  obtain ⟨q,cap,h1,h2,h3⟩:=h
  exact ⟨q,cap,h1,h2,fun w2 Z' x y vals hA hZ=>h3 w2 Z' x y vals ⟨hA.1,fun ad u hz hc=>hA.2 ad u hz (hT.cell hc)⟩ hZ⟩
theorem Keep.turned {E0:Env} (hk:Keep E0 E) (hT:Turned E.w0.heap.size E.w w') (hsz:E.w0.heap.size<=E.w.heap.size) (ho:∀b o,OBJ E0 b o->w'.heap[b]?=some o):Keep E0 (E.wset w') :=
 ⟨hk.rg,fun x v hv=>hO.turned hT hsz (hk x v hv),fun b o hb=>⟨(hk.obj b o hb).1,(hk.obj b o hb).2.1,ho b o hb⟩⟩
theorem cj.turned (hT:Turned E.w0.heap.size E.w w') (hsz:E.w0.heap.size<=E.w.heap.size):∀{l:List At} {vs:List Value},cj E l vs->cj (E.wset w') l vs
 | [],[],_=>trivial
 | _ ::_,_ ::_,hv=>⟨hO.turned hT hsz hv.1,cj.turned hT hsz hv.2⟩
 | [],_ ::_,hv=>hv.elim
 | _ ::_,[],hv=>hv.elim
theorem f8.turned (hT:Turned E.w0.heap.size E.w w') (hsz:E.w0.heap.size<=E.w.heap.size) {ag:Bool} {l:List At} {v:Value} (hv:f8 E ag l v):f8 (E.wset w') ag l v :=
 let ⟨cs,h1,h2,h3⟩:=hv
 ⟨cs,h1,h2.turned hT hsz,h3⟩
theorem hH.turned (hT:Turned E.w0.heap.size E.w w') (hsz:E.w0.heap.size<=E.w.heap.size):∀{l:List (Bool×List At)} {vs:List Value},hH E l vs->hH (E.wset w') l vs
 | [],[],_=>trivial
 | _ ::_,_ ::_,hv=>⟨f8.turned hT hsz hv.1,hH.turned hT hsz hv.2⟩
 | [],_ ::_,hv=>hv.elim
 | _ ::_,[],hv=>hv.elim
theorem cd.turned (hT:Turned E.w0.heap.size E.w w') (hsz:E.w0.heap.size<=E.w.heap.size):∀{s:SV} {v:Value},cd E s v->cd (E.wset w') s v
 | .c _ _,_,hv=>f8.turned hT hsz hv
 | .tup _,_,⟨vs,h1,h2⟩=>⟨vs,h1,hH.turned hT hsz h2⟩
theorem gW.turned (hT:Turned E.w0.heap.size E.w w') (hsz:E.w0.heap.size<=E.w.heap.size) {s:SlotV} {v:Value} (hv:gW E s v):gW (E.wset w') s v:=by
 unfold gW at *
 split at hv
 ·exact cd.turned hT hsz hv
 ·exact ⟨fun hc=>cd.turned hT hsz (hv.1 hc),hv.2⟩
theorem pE (hT:Turned E.w0.heap.size E.w w') {t:TypeId} {n m:Nat} {v:Value} {xs:List Value} (h:E.w.ownsRow E.w0.heap.size t n v m xs):w'.ownsRow E.w0.heap.size t n v m xs:=by
 refine dx h fun b hb=>?_
 obtain ⟨_,h5⟩:=h
 rcases h5 with ⟨h5,_⟩ | ⟨g',cap,cur,h5,_,hc,_⟩
 ·rw[h5] at hb;cases hb
 ·rw[h5] at hb
  simp only[Value.ownBlock,Option.some.injEq] at hb
  subst hb
  exact hT.cells hc rfl
theorem dM.turned (hT:Turned E.w0.heap.size E.w w') {Z:Nat->Prop} {k e:Sh}:∀{l:List (k.T×e.T)} {en:List MapEntry},dM E.w Z k e l en->dM w' Z k e l en
 | [],_,h=>h
 | _ ::_,_,⟨m,r,h1,h2,⟨cs,h3,h4,h5⟩,h6⟩=>⟨m,r,h1,Dat.turned hT h2,⟨cs,Dat.turned hT h3,h4,h5⟩,dM.turned hT h6⟩
theorem dW.turned (hT:Turned E.w0.heap.size E.w w') {Z:Nat->Prop} {k:Sh}:∀{l:List k.T} {en:List MapEntry},dW E.w Z k l en->dW w' Z k l en
 | [],_,h=>h
 | _ ::_,_,⟨m,r,h1,h2,h3,h4⟩=>⟨m,r,h1,Dat.turned hT h2,h3,dW.turned hT h4⟩
theorem dZ.turned (hT:Turned E.w0.heap.size E.w w') {q:Nat}:∀{s:Sh} {x:s.T} {cs:List Value},dZ E q s x cs->dZ (E.wset w') q s x cs
 | .ref,_,_,h=>h
 | .pair a b,x,cs,h=>by
  simp only[dZ] at h ⊢
  obtain ⟨c1,c2,h1,h2,h3⟩:=h
  exact ⟨c1,c2,h1,dZ.turned hT h2,dZ.turned hT h3⟩
 | .agg e,x,cs,h=>dZ.turned hT (s:=e) (x:=x) h
 | .int _,_,_,h=>h
 | .bool,_,_,h=>h
 | .str,_,_,h=>h
 | .sl e,x,_,h=>Dat.turned hT (s:=.sl e) (x:=x) h
theorem cQ.turned (hT:Turned E.w0.heap.size E.w w') {q:Nat} {s:Sh}:∀{l:List s.T} {xs:List Value},cQ E q s l xs->cQ (E.wset w') q s l xs
 | [],_,h=>h
 | _ ::_,_,⟨c,r,h1,h2,h3⟩=>⟨c,r,h1,dZ.turned hT h2,cQ.turned hT h3⟩
theorem XOk.turned (hT:Turned E.w0.heap.size E.w w') {q:Nat} {x:XI} (h:XOk E q x):XOk (E.wset w') q x:=by
 cases x with
 | set t k l =>
  obtain ⟨hr,b,es,ck,h1,h2,h3,h4⟩:=h
  exact ⟨hr,b,es,ck,h1,h2,(hT.cells h3 rfl).trans h3,h4.turned hT⟩
 | map t k e l =>
  obtain ⟨hr,b,es,ck,h1,h2,h3,h4⟩:=h
  exact ⟨hr,b,es,ck,h1,h2,(hT.cells h3 rfl).trans h3,h4.turned hT⟩
 | tab t s l ti e a =>
  obtain ⟨hr,⟨xs,h1,h2⟩,h3,h4,h5,h6⟩:=h
  refine ⟨hr,⟨xs,pE hT h1,h2.turned hT⟩,h3,h4,fun i l' hi=>?_,h6⟩
  obtain ⟨⟨ys,g1,g2⟩,g3⟩:=h5 i l' hi
  exact ⟨⟨ys,pE hT g1,aM.turned hT g2⟩,g3⟩
theorem Mod.turned {N:Nat} {a a2:Act} {g:Look} (hm:Mod N E a g) (hT:Turned E.w0.heap.size E.w w') (ht:a2.tmps=a.tmps) (hd:fI (E.wset w') a2.defers):Mod N (E.wset w') a2 g:=by
 have G:=hm.glob
 have hsz:E.w0.heap.size<=E.w.heap.size:=G.below.size
 refine ⟨⟨hT.below G.below hsz,fun b hb=>Nat.lt_of_lt_of_le (G.zlt b hb) hT.size,G.z0,G.zfrom,G.live,G.rlive,G.own,G.inj,G.rown,G.rinj,G.xg.ext rfl hT.size (fun i x h=>⟨⟨x,h⟩,fun _ h=>h⟩) (fun b h=>.inl h) (fun j l h=>.inr ⟨j,l,h,rfl⟩) (fun j r b h h'=>.inr ⟨j,r,h,h'⟩)⟩,hd,by rw[ht];exact hm.size,fun i s hi=>?_,fun i l hi=>?_,fun i r hi=>?_,fun i x hi=>(hm.xs i x hi).turned hT⟩
 ·obtain ⟨v,h1,h2⟩:=hm.slots i s hi
  exact ⟨v,by rw[ht];exact h1,h2.turned hT hsz⟩
 ·obtain ⟨h1,cs,t,h2,h3,h4⟩:=hm.blks i l hi
  exact ⟨h1,cs,t,(hT.cells h2 rfl).trans h2,h3.turned hT hsz,h4⟩
 ·obtain ⟨h1,xs,h2,h3,h4⟩:=hm.rows i r hi
  refine ⟨h1,xs,dx h2 fun b hb=>?_,aM.turned hT h3,h4⟩
  obtain ⟨_,h5⟩:=h2
  have hb':(E.ρ i).ownBlock=some b:=hb
  show w'.heap[b]?=E.w.heap[b]?
  rcases h5 with ⟨h5,_⟩ | ⟨g',cap,cur,h5,_,hc,_⟩
  ·rw[h5] at hb';cases hb'
  ·rw[h5] at hb'
   simp only[Value.ownBlock,Option.some.injEq] at hb'
   subst hb'
   exact hT.cells hc rfl
end
theorem sP {P:Program} {fn:Func} {tmps:Array Value} {R:Ending->World->Prop} {E:Env}:∀(ds:List Deferred) (w:World),Turned E.w0.heap.size E.w w->(∀d ∈ ds,∀r,d.target=.collected r->w.heap[r]?=some (.deferred (some [])))->fI E ds ->
  (∀w',Turned E.w0.heap.size E.w w'->∃v,(results fn tmps).run P w'=.ok v w'/\R (.returned v) w')->LeavesInM Fence.wide 0 P fn tmps R ds .returning w
 | [],w,hT,_,_,h=>h w hT
 | d ::ds,w,hT,hh,⟨⟨_,r,h1,h2,h3⟩,h4⟩,h=>by
  have hw:=hh d (by simp) r h1
  refine ⟨by simp,.inl ⟨r,_,h1,run_takeDeferred hw,?_⟩⟩
  refine sP ds _ (hT.trans (Turned.putObj _ h2.2.1 hw rfl)) (fun d' hd' r' hr'=>?_) h4 h
  rw[World.putObj_heap_other (fun e=>h3 d' hd' (by rw[<-e];exact hr'))]
  exact hh d' (List.mem_cons_of_mem _ hd') r' hr'
theorem wL {E:Env}:∀{ds:List Deferred},fI E ds->∀d ∈ ds,∀r,d.target=.collected r->E.w.heap[r]?=some (.deferred (some []))
 | _ ::ds,⟨⟨_,r,h1,h2,_⟩,h4⟩,d,hd,r',hr'=>by
  rcases List.mem_cons.1 hd with e | hd
  ·subst e
   rw[h1] at hr'
   injection hr' with hr'
   subst hr'
   exact h2.2.2
  ·exact wL h4 d hd r' hr'
 | [],_,d,hd,_,_=>by cases hd
theorem iO {P:Program} {f:FuncId} {fn:Func} {c:Code} {args:Array Value} {w:World} {R:Ending->World->Prop} (hf:P.funcs[f]?=some fn) (hb:fn.body=some c)
  (h:c.wpIn Fence.wide 0 P (fun e a' w'=>(e=.normal\/e=.ret)/\∃E,E.w=w'/\fI E a'.defers/\∀w'',Turned E.w0.heap.size E.w w''->∃v,(results fn a'.tmps).run P w''=.ok v w''/\R (.returned v) w'')
   {tmps:=args++Array.replicate (fn.ntmps - args.size) undef,defers:=[] } w):Calls P f args w R:=by
 refine callsIn_wide.1 (callsIn_of_wp_marks (n:=0) hf hb trivial (wpIn_mono h ?_) rfl)
 rintro e a' w' ⟨he,E,rfl,hm,hr⟩
 have:=sP (P:=P) (fn:=fn) (tmps:=a'.tmps) (R:=R) a'.defers E.w (Turned.refl _ _) (wL hm) hm hr
 rcases he with rfl | rfl<;>exact this
section
variable {N:Nat} {E E':Env} {a a':Act} {g g':Look}
theorem Mod.rest (hm:Mod N E a g) (hk:Keep E E') (hm':MemOk E' g') (hs:g'.s=g.s) (ht:a'.tmps=a.tmps) (hd:fI E' a'.defers):Mod N E' a' g' :=
 ⟨hm'.glob,hd,by rw[ht];exact hm.size,fun i s hi=>by
  rw[hs] at hi
  obtain ⟨v,h1,h2⟩:=hm.slots i s hi
  exact ⟨v,by rw[ht];exact h1,hk.S h2⟩,hm'.blks,hm'.rows,hm'.xs⟩
theorem fI.turned {w':World} (ho:∀b,OBJ E b (.deferred (some []))->w'.heap[b]?=some (.deferred (some []))):∀{ds:List Deferred},fI E ds->fI (E.wset w') ds
 | [],_=>trivial
 | _ ::_,⟨⟨h0,r,h1,h2,h3⟩,h4⟩=>⟨⟨h0,r,h1,⟨h2.1,h2.2.1,ho _ h2⟩,h3⟩,fI.turned ho h4⟩
theorem MemOk.turned {w':World} (hm:MemOk E g) (hT:Turned E.w0.heap.size E.w w'):MemOk (E.wset w') g:=by
 have h:Mod 0 E { tmps:=#[],defers:=[] } { g with s:=fun _=>none }:=⟨⟨hm.glob.below,hm.glob.zlt,hm.glob.z0,hm.glob.zfrom,hm.glob.live,hm.glob.rlive,hm.glob.own,hm.glob.inj,hm.glob.rown,hm.glob.rinj,⟨hm.glob.xg.own,hm.glob.xg.inj⟩⟩,trivial,rfl,fun i s hi=>(by cases hi),hm.blks,hm.rows,hm.xs⟩
 have h2:=(h.turned hT (a2:={ tmps:=#[],defers:=[] }) rfl trivial).memOk
 exact ⟨⟨h2.glob.below,h2.glob.zlt,h2.glob.z0,h2.glob.zfrom,h2.glob.live,h2.glob.rlive,h2.glob.own,h2.glob.inj,h2.glob.rown,h2.glob.rinj,⟨h2.glob.xg.own,h2.glob.xg.inj⟩⟩,h2.blks,h2.rows,h2.xs⟩
def AU:List Nat->List (Bool×List At)->List (Nat×Option SlotV)->List (Nat×Option SlotV)
 | p ::ps,c ::cs,s=>AU ps cs ((p,some ⟨none,.c c.1 c.2⟩) ::s)
 | _,_,s=>s
def EJ (N:Nat):List Nat->Bool
 | []=>true
 | p ::r=>Nat.blt p N&&EJ N r
theorem Cr {h:List (Nat×List At)} {r:List (Nat×RowS)} {nx:Nat} {ro roR:List Nat}:∀{ps:List Nat} {cs:List (Bool×List At)} {vs:List Value} {s:List (Nat×Option SlotV)} {a:Act},hH E cs vs->EJ N ps=true->ps.length=cs.length->Mod N E a (St.look ⟨s,h,r,nx,ro,roR⟩) ->
  Mod N E { a with tmps:=(ps.zip vs).foldl (fun t p=>t.setIfInBounds p.1 p.2) a.tmps } (St.look ⟨AU ps cs s,h,r,nx,ro,roR⟩)
 | [],cs,vs,s,a,_,_,_,hm=>by simpa [AU] using hm
 | p ::ps,c ::cs,v ::vs,s,a,hr,hl,hn,hm=>by
  simp only[EJ,z10] at hl
  have h1:=hm.put (d:=p) (by have:=hl.1;simp[Nat.blt] at this;omega) (s:=⟨none,.c c.1 c.2⟩) (v:=v) hr.1
  have h2:=tz (σ:=⟨s,h,r,nx,ro,roR⟩) p ⟨none,.c c.1 c.2⟩
  rw[<-h2] at h1
  have h3:=Cr (ps:=ps) (cs:=cs) (vs:=vs) (s:=(p,some ⟨none,.c c.1 c.2⟩) ::s) (a:=a.put (some p) v) hr.2 hl.2 (by simpa using hn) h1
  exact h3
 | _ ::_,c ::cs,[],_,_,hr,_,_,_=>hr.elim
 | _ ::_,[],_,_,_,_,_,hn,_=>by simp at hn
def FR (h:List (Nat×List At)):(l:List Sh)->List (Nat×Nat)->Option (TsS l)
 | [],[]=>some ()
 | s ::r,p ::cap=>match look h p.1 with
  | some l=>match s.take (l.drop p.2),FR h r cap with
   | some (x,_),some y=>some (x,y)
   | _,_=>none
  | none=>none
 | _,_=>none
theorem xd:∀{l:List Sh} {cap:List (Nat×Nat)} {h:List (Nat×List At)} {x:TsS l},FR h l cap=some x->(∀p ∈ cap,∀l',look h p.1=some l'->uk E p.1 l')->y8 E.w E.Z l x (cap.map fun p=>⟨E.β p.1,p.2,none⟩)
 | [],[],h,x,_,_=>rfl
 | s ::r,p ::cap,h,x,hx,hb=>by
  simp only[FR] at hx
  split at hx
  ·rename_i l hl
   split at hx
   ·rename_i y z rest hy hz
    injection hx with hx
    subst hx
    obtain ⟨cs,h1,h2⟩:=p9 (hb p (by simp) l hl)
    obtain ⟨c1,c2,h3,h4,_⟩:=dz hy (h1.drop p.2)
    refine ⟨_,_,rfl,⟨c1,h4,fun j v hj=>?_⟩,xd hz fun q hq=>hb q (List.mem_cons_of_mem _ hq)⟩
    have h5:cs[p.2+j]?=some v:=by
     rw[<-List.getElem?_drop,h3]
     exact List.getElem?_append_left (List.getElem?_eq_some_iff.1 hj).1 ▸ hj
    have h6:=h2 _ v h5
    rw[cY,Nat.zero_add] at h6
    rw[cY]
    exact h6
   ·cases hx
  ·cases hx
 | [],_ ::_,_,_,hx,_=>by cases hx
 | _ ::_,[],_,_,hx,_=>by cases hx
end
end Dn
end Go.Proofs.YtfknoaclabfdlaaGreat
