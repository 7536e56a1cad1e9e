/- A symbolic executor: the fences in which code is walked: none, or that of a round of a loop over a function. A symbolic executor: states; regions in the order of the text, and in whatever order their edges allow. A symbolic executor: a region whose order is open. The symbolic run in the text's order serves every order that the edges allow, where operations that touch one another's slots or blocks wait for one another. A symbolic executor: states made general (at a loop's head, where two ways meet, behind a function that is walked in place): data of patterns in place of what slots, blocks and rows hold. A symbolic executor: a state that has come to a place is the place's own state. A symbolic executor: worlds that differ in blocks that hold no cells; the contracts of iterators; how a function with marks is left. -/
import Derived.OrdersIn
import Derived.TacticsIn
import Derived.RangeFuncCalls
import Derived.RangeFuncSeq
import Derived.Test.YtegbncajloeepaaGreatMgI

namespace Go.Proofs.YtegbncajloeepaaGreat
namespace Dn
open Go.RowKit
def oe (F:Fence):Prop:=F=Fence.wide\/∃l,F=Fence.wide.inRound l
theorem oe.fn {F:Fence} (h:oe F) (f:FuncId):F.fn f:=by
 rcases h with rfl | ⟨l,rfl⟩<;>trivial
theorem oe.depth {F:Fence} (h:oe F):F.depth.isSome=false:=by
 rcases h with rfl | ⟨l,rfl⟩<;>rfl
def nd (o:Oper):Bool:=match o.op with
 | .defer _=>false
 | _=>true
def sb:List Oper->Bool
 | []=>true
 | o ::r=>nd o&&sb r
theorem N1 {o:Oper} (h:nd o=true):∀c,o.op≠.defer c:=fun c e=>by unfold nd at h;rw[e] at h;cases h
theorem tV {o:Oper} {r:List Oper} (h:sb (o ::r)=true):nd o=true/\sb r=true:=by
 simp only[sb,z10] at h;exact h
theorem CW {o:Oper} {l:List Oper} (h:sb l=true) (hm:o ∈ l):nd o=true:=by
 induction l with
 | nil=>cases hm
 | cons x l ih =>
  obtain ⟨h1,h2⟩:=tV h
  rcases List.mem_cons.1 hm with e | hm
  ·rw[e];exact h1
  ·exact ih h2 hm
section
variable {F:Fence} {n:Nat} {P:Program}
theorem EH {f:FuncId} {args:Array Value} {w:World} {R:Ending->World->Prop} (hF:oe F) (h:Calls P f args w R):CallsIn F n P f args w R:=by
 rcases hF with rfl | ⟨l,rfl⟩
 ·exact callsIn_wide.2 h
 ·exact CallsIn.inRound l (callsIn_wide.2 h)
theorem Jc {row:String} {args:Array Value} {w:World} {R:Value->World->Prop} (hF:oe F) (h:Rows P row args w R):RowsIn F n P row args w R:=by
 have key:RowsIn Fence.wide n P row args w R:=fun c cs _=>let ⟨v,w',r,s⟩:=h c cs;⟨v,w',r,stepsIn_wide.2 s⟩
 rcases hF with rfl | ⟨l,rfl⟩
 ·exact key
 ·exact key
theorem HK {o:Oper} {a:Act} {w:World} {K:Act->World->Prop} {Q:Exit->Act->World->Prop} (hF:oe F) (hnd:nd o=true) (h:o.wp P a w K Q):o.wpIn F n P a w K Q:=by
 refine ⟨fun f _=>hF.fn f,?_⟩
 rw[Oper.semAt_eq _ _ _ (N1 hnd)]
 unfold Oper.wp at h
 generalize (execOp a.eval o).run P w=r at h ⊢
 have hd:F.depth.isSome=true->1<=n:=fun e=>by rw[hF.depth] at e;cases e
 cases r with
 | ok x w' =>
  cases x with
  | value v=>exact h
  | skip=>exact h
  | defer d=>exact h
  | enter f args=>exact ⟨hd,EH hF h⟩
  | row row args=>exact ⟨hd,Jc hF h⟩
  | _=>exact h.elim
 | halt x w' =>
  cases x with
  | panic v=>exact h
  | _=>exact h.elim
end
end Dn
end Go.Proofs.YtegbncajloeepaaGreat

namespace Go.Proofs.YtegbncajloeepaaGreat
noncomputable section
namespace Dn
open Go.RowKit
noncomputable section
structure St where
 s:List (Nat×Option SlotV)
 h:List (Nat×List At)
 r:List (Nat×RowS)
 next:Nat
 ro:List Nat:=[]
 roR:List Nat:=[]
def look {α:Type}:List (Nat×α)->Nat->Option α
 | [],_=>none
 | (j,x) ::r,i=>match Nat.beq j i with
  | true=>some x
  | false=>look r i
def eK (l:List (Nat×Option SlotV)) (i:Nat):Option SlotV:=match look l i with
 | some (some s)=>some s
 | _=>none
def St.look (σ:St):Look:={ s:=eK σ.s,h:=Dn.look σ.h,r:=Dn.look σ.r }
theorem ai {α:Type} (j:Nat) (x:α) (r:List (Nat×α)) (i:Nat):look ((j,x) ::r) i=if i=j then some x else look r i:=by
 simp only[look]
 split
 ·rename_i h
  have h:j=i:=by simpa using h
  rw[if_pos h.symm]
 ·rename_i h
  have h:j≠i:=by intro e;subst e;simp at h
  rw[if_neg (Ne.symm h)]
theorem iz (l:List Nat) (m:List (Nat×RowS)) (i:Nat):look (l.map (fun i=>((i,.none):Nat×RowS))++m) i=if i ∈ l then some .none else look m i:=by
 induction l with
 | nil=>simp
 | cons j l ih =>
  rw[List.map_cons,List.cons_append,ai]
  by_cases h:i=j
  ·simp[h]
  ·rw[if_neg h,ih]
   simp[h]
def St.putS (σ:St) (d:Nat) (s:SlotV):St:={ σ with s:=(d,some s) ::σ.s }
def St.app (σ:St):Eff->St
 | .none=>σ
 | .alloc b l=>{ σ with h:=(b,l) ::σ.h }
 | .store b l=>{ σ with h:=(b,l) ::σ.h }
 | .row k r (some o)=>{ σ with r:=(k,.some r) ::(o,.none) ::σ.r }
 | .row k r none=>{ σ with r:=(k,.some r) ::σ.r }
 | .rset k e l=>match tP e l (Dn.look σ.r k) with
  | some x=>{ σ with r:=(k,x) ::σ.r }
  | none=>σ
 | .rkill l=>{ σ with r:=l.map (fun i=>(i,.none))++σ.r }
 | .xset k x u=>{ σ with r:=(k,.x x) ::(u.map (fun i=>(i,.none))++σ.r) }
def St.plan (σ:St) (pl:Plan):St:=match pl.s with
 | some (d,s)=>(σ.app pl.eff).putS d s
 | none=>σ.app pl.eff
theorem rc (σ:St) (d:Nat) (s:SlotV):(σ.putS d s).look=σ.look.setS d (some s):=by
 simp only[St.putS,St.look,Look.setS]
 congr 1
 funext i
 simp only[eK,ai]
 by_cases h:i=d
 ·simp[h]
 ·simp[h]
theorem yG (σ:St) (e:Eff):(σ.app e).look=σ.look.app e:=by
 cases e with
 | none=>rfl
 | alloc b l=>simp only[St.app,St.look,Look.app,Look.setH];congr 1;funext i;exact ai _ _ _ _
 | store b l=>simp only[St.app,St.look,Look.app,Look.setH];congr 1;funext i;exact ai _ _ _ _
 | row k r o =>
  cases o with
  | none=>simp only[St.app,St.look,Look.app,Look.setR];congr 1;funext i;exact ai _ _ _ _
  | some o=>simp only[St.app,St.look,Look.app,Look.setR];congr 1;funext i;simp only[ai]
 | rset k e l =>
  simp only[St.app]
  split
  ·rename_i x hx
   simp only[St.look,Look.app]
   congr 1
   funext i
   rw[ai,hx]
  ·rename_i hx
   simp only[St.look,Look.app]
   congr 1
   funext i
   by_cases h:i=k
   ·rw[if_pos h,hx,h]
    have:∀y:Option RowS,tP e l y=none->y=none:=fun y hy=>by
     unfold tP at hy
     split at hy
     ·split at hy<;>cases hy
     ·exact hy
    exact this _ hx
   ·rw[if_neg h]
 | rkill l=>simp only[St.app,St.look,Look.app];congr 1;funext i;exact iz l σ.r i
 | xset k x u=>simp only[St.app,St.look,Look.app];congr 1;funext i;rw[ai,iz]
theorem CH (σ:St) (pl:Plan):(σ.plan pl).look=σ.look.plan pl:=by
 unfold St.plan Look.plan
 cases pl.s with
 | none=>exact yG σ pl.eff
 | some d=>simp only[rc,yG]
structure Ent where
 looks:List Nat
 tb:List Nat
 tr:List Nat
 tm:Bool
 deps:List Nat
 pl:Plan
def D1:At->List Nat
 | .ptr b _=>[b]
 | .clo _ cap=>cap.map (·.1)
 | .ae b _ _ _ _ _=>[b]
 | _=>[]
def uF:List At->List Nat
 | []=>[]
 | x ::r=>D1 x++uF r
def KS:List (Bool×List At)->List Nat
 | []=>[]
 | x ::r=>uF x.2++KS r
def F3:SV->List Nat
 | .c _ l=>uF l
 | .tup l=>KS l
def K1 (sl:Nat->Option SlotV):List Operand->List Nat
 | []=>[]
 | x ::r=>match sP sl x with
  | some s=>F3 s++K1 sl r
  | none=>K1 sl r
def gp (i:Nat):List Nat->Bool
 | []=>false
 | j ::r=>match Nat.beq i j with
  | true=>true
  | false=>gp i r
theorem bS {i:Nat}:∀{l:List Nat},gp i l=true↔i ∈ l
 | []=>by simp[gp]
 | j ::r=>by
  simp only[gp]
  split
  ·rename_i h
   have h:i=j:=by simpa using h
   simp[h]
  ·rename_i h
   have h:i≠j:=by intro e;subst e;simp at h
   simp[bS (l:=r),h]
def bkT (tb:List Nat) (h:Nat->Option (List At)) (i:Nat):Option (List At):=match gp i tb with
 | true=>h i
 | false=>none
def oS (l:List Nat):List Nat->Bool
 | []=>true
 | j ::r=>!gp j l&&oS l r
def mI (ro roR:List Nat) (r:Rk):Eff->Bool
 | .none=>true
 | .alloc b _=>!gp b ro
 | .store b _=>!gp b ro
 | .row k _ (some o)=>!gp k roR&&!gp o roR
 | .row k _ none=>!gp k roR
 | .rset k e _=>!gp k roR&&(match r k with
  | some (.some ri)=>(Sh.eq? e ri.e).isSome
  | _=>false)
 | .rkill l=>oS roR l
 | .xset k _ u=>!gp k roR&&oS roR u
def af {T R:Type} (m:Option T) (k:T->Option R):Option R:=Option.rec none k m
theorem pX {T R:Type} {m:Option T} {k:T->Option R} {z:R} (h:af m k=some z):∃t,m=some t/\k t=some z:=by
 cases m with
 | none=>cases h
 | some t=>exact ⟨t,rfl,h⟩
def JL:Op->Bool
 | .move _=>true
 | .assign _=>true
 | .nilCheck _=>true
 | .fieldAddr ..=>true
 | _=>false
def Bp (σ:St) (o:Oper):List Nat:=match JL o.op with
 | true=>[σ.next]
 | false=>σ.next ::K1 σ.look.s o.op.operands.toList
theorem rx {σ:St} {o:Oper}:σ.next ∈ Bp σ o:=by unfold Bp;split<;>simp
def sE:At->List Nat
 | .row r=>[r]
 | .re r _ _ _=>[r]
 | .sub r _ _ _=>[r]
 | .ir r _=>[r]
 | .ie r _ _ _ _=>[r]
 | _=>[]
def mS:List At->List Nat
 | []=>[]
 | x ::r=>sE x++mS r
def EQ:List (Bool×List At)->List Nat
 | []=>[]
 | x ::r=>mS x.2++EQ r
def yt:SV->List Nat
 | .c _ l=>mS l
 | .tup l=>EQ l
def Hp (sl:Nat->Option SlotV):List Operand->List Nat
 | []=>[]
 | x ::r=>match sP sl x with
  | some s=>yt s++Hp sl r
  | none=>Hp sl r
def Fz (h:Nat->Option (List At)):List Nat->List Nat
 | []=>[]
 | b ::r=>match h b with
  | some l=>mS l++Fz h r
  | none=>Fz h r
def trB (σ:St) (o:Oper):List Nat:=match o.op with
 | .call _=>Fz σ.look.h (Bp σ o)
 | _=>[]
def AV (σ:St) (o:Oper):List Nat:=σ.next ::(Hp σ.look.s o.op.operands.toList++trB σ o)
def fc:Option RowS->Option RowS
 | some (.some ri)=>some (.some ⟨ri.t,ri.e,ri.n,[]⟩)
 | x=>x
def rkT (o:Oper) (tr:List Nat) (r:Rk) (i:Nat):Option RowS:=match gp i tr with
 | true=>(match eL o with
  | true=>fc (r i)
  | false=>r i)
 | false=>none
theorem ye {o:Oper} {tr:List Nat} {r:Rk} (h:eL o=false) {i:Nat} {x:RowS} (hx:rkT o tr r i=some x):i ∈ tr/\r i=some x:=by
 unfold rkT at hx
 split at hx
 ·rename_i hm
  rw[h] at hx
  exact ⟨bS.1 hm,hx⟩
 ·cases hx
theorem uK {x:Option RowS} {ri:RowI} (h:fc x=some (.some ri)):∃rj,x=some (.some rj)/\rj.t=ri.t/\rj.e=ri.e/\rj.n=ri.n:=by
 unfold fc at h
 split at h
 ·rename_i rj
  simp only[Option.some.injEq,RowS.some.injEq] at h
  subst h
  exact ⟨rj,rfl,rfl,rfl,rfl⟩
 ·exact ⟨ri,h,rfl,rfl,rfl⟩
theorem uY {o:Oper} {tr:List Nat} {r:Rk} {i:Nat} {ri:RowI} (hx:rkT o tr r i=some (.some ri)):i ∈ tr/\∃rj,r i=some (.some rj)/\rj.t=ri.t/\rj.e=ri.e/\rj.n=ri.n:=by
 unfold rkT at hx
 split at hx
 ·rename_i hm
  refine ⟨bS.1 hm,?_⟩
  split at hx
  ·exact uK hx
  ·exact ⟨ri,hx,rfl,rfl,rfl⟩
 ·cases hx
theorem Cb {y:Option RowS} {x:XI} (h:fc y=some (.x x)):y=some (.x x):=by
 unfold fc at h
 split at h
 ·cases h
 ·exact h
theorem E6 {o:Oper} {tr:List Nat} {r:Rk} {i:Nat} {x:XI} (hx:rkT o tr r i=some (.x x)):i ∈ tr/\r i=some (.x x):=by
 unfold rkT at hx
 split at hx
 ·rename_i hm
  refine ⟨bS.1 hm,?_⟩
  split at hx
  ·exact Cb hx
  ·exact hx
 ·cases hx
theorem tK {o:Oper} {tr:List Nat} {r:Rk} {i:Nat} (hi:i ∈ tr) (hx:rkT o tr r i=none):r i=none:=by
 unfold rkT at hx
 rw[bS.2 hi] at hx
 simp only at hx
 split at hx
 ·unfold fc at hx
  split at hx
  ·cases hx
  ·exact hx
 ·exact hx
def Cc (ops:Array Oper) (σ:St) (o:Oper) (pl:Plan):Ent:=⟨o.looksAt ops,Bp σ o,AV σ o,eL o,(o.after.toList.filter (Region.binds .any)).map (·.on),pl⟩
def St.step (σ:St) (pl:Plan):St:={ σ.plan pl with next:=σ.next+1 }
def stepAt (C:Ctx) (N:Nat) (ops:Array Oper) (σ:St) (o:Oper):Option Stp:=rK C N ops σ.look.s (bkT (Bp σ o) σ.look.h) (rkT o (AV σ o) σ.look.r) σ.next o
def FH (C:Ctx) (N:Nat) (ops:Array Oper) {R:Type}:List Oper->St->(List Ent->St->Option R)->Option R
 | [],σ,K=>K [] σ
 | o ::r,σ,K=>match stepAt C N ops σ o with
  | some (.one p pl)=>match mI σ.ro σ.roR σ.look.r pl.eff with
   | true=>gt p (FH C N ops r (σ.step pl) fun es σ'=>K (Cc ops σ o pl ::es) σ')
   | false=>none
  | some (.call p _ m f)=>gt p (af m fun t=>match mI σ.ro σ.roR σ.look.r (f t).eff with
   | true=>FH C N ops r (σ.step (f t)) fun es σ'=>K (Cc ops σ o (f t) ::es) σ'
   | false=>none)
  | _=>none
abbrev Inl:=(R:Type)->FuncId->List SV->St->(List SV->St->Option R)->Option R
def oh:List SV->Option (List (Bool×List At))
 | []=>some []
 | .c ag l ::r=>match oh r with
  | some m=>some ((ag,l) ::m)
  | none=>none
 | .tup _ ::_=>none
def wm:List SV->Option SV
 | [v]=>some v
 | l=>match oh l with
  | some m=>some (.tup m)
  | none=>none
def St.back (σ σ':St) (d:Option Nat) (sv:SV):St:=match d with
 | some d=>({ σ' with s:=σ.s }:St).putS d ⟨none,sv⟩
 | none=>{ σ' with s:=σ.s }
def AX (rec:Inl) (C:Ctx) (N:Nat) (ops:Array Oper) {R:Type}:List Oper->St->(St->Option R)->Option R
 | [],σ,K=>K σ
 | o ::r,σ,K=>match stepAt C N ops σ o with
  | some (.one p pl)=>match mI σ.ro σ.roR σ.look.r pl.eff with
   | true=>gt p (AX rec C N ops r (σ.step pl) K)
   | false=>none
  | some (.call p _ m f)=>gt p (af m fun t=>match mI σ.ro σ.roR σ.look.r (f t).eff with
   | true=>AX rec C N ops r (σ.step (f t)) K
   | false=>none)
  | some (.inl p id args)=>gt p (rec R id args { σ with s:=[],next:=σ.next+1 } fun svs σ'=>match wm svs with
   | some sv=>AX rec C N ops r (σ.back σ' o.dst sv) K
   | none=>none)
  | none=>none
def DR (C:Ctx) (N:Nat) (ops:Array Oper):List Oper->St->List Ent->St->Prop
 | [],σ,es,σ'=>es=[]/\σ'=σ
 | o ::r,σ,es,σ'=>∃pl es',wu C N ops σ.look.s (bkT (Bp σ o) σ.look.h) (rkT o (AV σ o) σ.look.r) σ.next o pl/\mI σ.ro σ.roR σ.look.r pl.eff=true/\es=Cc ops σ o pl ::es'/\DR C N ops r (σ.step pl) es' σ'
theorem ut {C:Ctx} {N:Nat} {ops:Array Oper} {R:Type} {z:R}:∀{l:List Oper} {σ:St} {K:List Ent->St->Option R},FH C N ops l σ K=some z->∃es σ',DR C N ops l σ es σ'/\K es σ'=some z
 | [],σ,K,h=>⟨[],σ,⟨rfl,rfl⟩,h⟩
 | o ::r,σ,K,h=>by
  simp only[FH] at h
  split at h
  ·rename_i p pl hst
   split at h
   ·rename_i he
    obtain ⟨hp,h⟩:=dw h
    obtain ⟨es,σ',h1,h2⟩:=ut h
    exact ⟨_,σ',⟨pl,es,⟨_,hst,hp,rfl⟩,he,rfl,h1⟩,h2⟩
   ·cases h
  ·rename_i p T m f hst
   obtain ⟨hp,h⟩:=dw h
   obtain ⟨t,ht,h⟩:=pX h
   split at h
   ·rename_i he
    obtain ⟨es,σ',h1,h2⟩:=ut h
    exact ⟨_,σ',⟨f t,es,⟨_,hst,hp,t,ht,rfl⟩,he,rfl,h1⟩,h2⟩
   ·cases h
  ·cases h
theorem vF (σ:St) (pl:Plan):(σ.step pl).look=σ.look.plan pl:=CH σ pl
structure MemOk (E:Env) (g:Look):Prop where
 glob:Glob E g
 blks:∀i l,g.h i=some l->sy E i l
 rows:∀i r,g.r i=some (.some r)->nI E i r
 xs:∀i x,g.r i=some (.x x)->XOk E i x
theorem Glob.of {E:Env} {g g':Look} (h:Glob E g) (hh:g'.h=g.h) (hr:g'.r=g.r):Glob E g':=by
 obtain ⟨gs,gh,gr⟩:=g;obtain ⟨gs',gh',gr'⟩:=g'
 simp only at hh hr;subst hh;subst hr
 exact ⟨h.below,h.zlt,h.z0,h.zfrom,h.live,h.rlive,h.own,h.inj,h.rown,h.rinj,⟨h.xg.own,h.xg.inj⟩⟩
theorem MemOk.of {E:Env} {g g':Look} (h:MemOk E g) (hh:g'.h=g.h) (hr:g'.r=g.r):MemOk E g' :=
 ⟨h.glob.of hh hr,fun i l hi=>h.blks i l (by rw[<-hh];exact hi),fun i r hi=>h.rows i r (by rw[<-hr];exact hi),fun i x hi=>h.xs i x (by rw[<-hr];exact hi)⟩
theorem Mod.memOk {N:Nat} {E:Env} {a:Act} {g:Look} (h:Mod N E a g):MemOk E g:=⟨h.glob,h.blks,h.rows,h.xs⟩
structure Fr (σ σ':St):Prop where
 ro:σ'.ro=σ.ro
 roR:σ'.roR=σ.roR
 h:∀i ∈ σ.ro,look σ'.h i=look σ.h i
 r:∀i ∈ σ.roR,look σ'.r i=look σ.r i
theorem Fr.refl (σ:St):Fr σ σ:=⟨rfl,rfl,fun _ _=>rfl,fun _ _=>rfl⟩
theorem Fr.trans {σ σ' σ'':St} (h:Fr σ σ') (h':Fr σ' σ''):Fr σ σ'' :=
 ⟨h'.ro.trans h.ro,h'.roR.trans h.roR,fun i hi=>(h'.h i (by rw[h.ro];exact hi)).trans (h.h i hi),fun i hi=>(h'.r i (by rw[h.roR];exact hi)).trans (h.r i hi)⟩
theorem eP {l:List Nat}:∀{m:List Nat},oS l m=true->∀i ∈ m,i ∉ l
 | j ::r,h,i,hi=>by
  simp only[oS,z10,Bool.not_eq_true'] at h
  rcases List.mem_cons.1 hi with rfl | hi
  ·intro hm;rw[bS.2 hm] at h;cases h.1
  ·exact eP h.2 i hi
theorem nt {i:Nat} {l:List Nat} (h:(!gp i l)=true):i ∉ l:=fun hm=>by
 rw[bS.2 hm] at h;cases h
theorem Ll {σ:St} {e:Eff} (h:mI σ.ro σ.roR σ.look.r e=true):Fr σ (σ.app e):=by
 cases e with
 | none=>exact Fr.refl σ
 | alloc b l=>exact ⟨rfl,rfl,fun i hi=>by simp only[St.app];rw[ai,if_neg (fun e=>nt h (by rw[<-e];exact hi))],fun _ _=>rfl⟩
 | store b l=>exact ⟨rfl,rfl,fun i hi=>by simp only[St.app];rw[ai,if_neg (fun e=>nt h (by rw[<-e];exact hi))],fun _ _=>rfl⟩
 | row k r o =>
  cases o with
  | none=>exact ⟨rfl,rfl,fun _ _=>rfl,fun i hi=>by simp only[St.app];rw[ai,if_neg (fun e=>nt h (by rw[<-e];exact hi))]⟩
  | some o =>
   simp only[mI,z10] at h
   exact ⟨rfl,rfl,fun _ _=>rfl,fun i hi=>by simp only[St.app];rw[ai,if_neg (fun e=>nt h.1 (by rw[<-e];exact hi)),ai,if_neg (fun e=>nt h.2 (by rw[<-e];exact hi))]⟩
 | rset k e l =>
  simp only[St.app]
  split
  ·exact ⟨rfl,rfl,fun _ _=>rfl,fun i hi=>by simp only;rw[ai,if_neg (fun e=>nt (by simp only[mI,z10] at h;exact h.1) (by rw[<-e];exact hi))]⟩
  ·exact Fr.refl σ
 | rkill l=>exact ⟨rfl,rfl,fun _ _=>rfl,fun i hi=>by simp only[St.app];rw[iz,if_neg (fun e=>eP h i e hi)]⟩
 | xset k x u =>
  simp only[mI,z10] at h
  exact ⟨rfl,rfl,fun _ _=>rfl,fun i hi=>by simp only[St.app];rw[ai,if_neg (fun e=>nt h.1 (by rw[<-e];exact hi)),iz,if_neg (fun e=>eP h.2 i e hi)]⟩
theorem sT {σ:St} {pl:Plan} (h:mI σ.ro σ.roR σ.look.r pl.eff=true):Fr σ (σ.plan pl):=by
 have:=Ll h
 unfold St.plan
 split
 ·exact ⟨this.ro,this.roR,this.h,this.r⟩
 ·exact this
theorem wU {σ:St} {pl:Plan} (h:mI σ.ro σ.roR σ.look.r pl.eff=true):Fr σ (σ.step pl):=⟨(sT h).ro,(sT h).roR,(sT h).h,(sT h).r⟩
theorem Ko (σ:St) (e:Eff):(σ.app e).s=σ.s:=by
 cases e with
 | row k r o=>cases o<;>rfl
 | rset k e l=>simp only[St.app];split<;>rfl
 | _=>rfl
theorem CK {C:Ctx} {N:Nat} {ops:Array Oper} {sl:Nat->Option SlotV} {bk:Nat->Option (List At)} {rk:Rk} {b:Nat} {o:Oper} {pl:Plan} (h:wu C N ops sl bk rk b o pl):∀d s,pl.s=some (d,s)->o.dst=some d:=by
 have aux:∀(f:Nat->Nat×SlotV),(∀d,(f d).1=d)->∀d s,o.dst.map f=some (d,s)->o.dst=some d:=by
  intro f hf d s h
  cases hd:o.dst with
  | none=>rw[hd] at h;cases h
  | some d' =>
   rw[hd] at h
   simp only[Option.map_some,Option.some.injEq] at h
   have:=hf d'
   rw[h] at this
   rw[<-this]
 obtain ⟨st,h,hst⟩:=h
 unfold rK at h
 split at h
 ·cases h
 ·split at h
  ·cases h
  ·split at h
   ·injection h with h;subst h;obtain ⟨_,rfl⟩:=hst;exact aux _ fun _=>rfl
   ·injection h with h;subst h;obtain ⟨_,t,_,rfl⟩:=hst;exact aux _ fun _=>rfl
   ·injection h with h;subst h;exact hst.elim
   ·cases h
  ·split at h
   ·split at h
    ·injection h with h;subst h;obtain ⟨_,rfl⟩:=hst;exact aux _ fun _=>rfl
    ·cases h
   ·split at h
    ·injection h with h;subst h;obtain ⟨_,t,_,rfl⟩:=hst;exact aux _ fun _=>rfl
    ·cases h
   ·cases h
theorem uQ {C:Ctx} {N:Nat} {ops:Array Oper} {sl:Nat->Option SlotV} {bk:Nat->Option (List At)} {rk:Rk} {b:Nat} {o:Oper} {σ:St} {pl:Plan} (h:wu C N ops sl bk rk b o pl) {i:Nat} (hi:o.dst≠some i):look (σ.step pl).s i=look σ.s i:=by
 show look (σ.plan pl).s i=look σ.s i
 unfold St.plan
 split
 ·rename_i d s hs
  have hd:=CK h d s hs
  show look ((d,some s) ::(σ.app pl.eff).s) i=_
  rw[ai,if_neg (fun e=>hi (by rw[e,hd])),Ko]
 ·rw[Ko]
theorem DR.frame {C:Ctx} {N:Nat} {ops:Array Oper}:∀{l:List Oper} {σ σ':St} {es:List Ent},DR C N ops l σ es σ'->Fr σ σ'/\∀i,i ∉ l.filterMap (·.dst)->look σ'.s i=look σ.s i
 | [],σ,σ',es,h=>by
  obtain ⟨_,rfl⟩:=h
  exact ⟨Fr.refl _,fun _ _=>rfl⟩
 | o ::r,σ,σ',es,h=>by
  obtain ⟨pl,es',h1,h2,_,h4⟩:=h
  obtain ⟨h5,h6⟩:=h4.frame
  refine ⟨(wU h2).trans h5,fun i hi=>?_⟩
  have hd:o.dst≠some i:=fun e=>hi (by rw[List.filterMap_cons,e];simp)
  rw[h6 i fun hm=>hi (by
   rw[List.filterMap_cons]
   split
   ·exact hm
   ·exact List.mem_cons_of_mem _ hm),uQ h1 hd]
def RoR (σ:St):Prop:=∀i ∈ σ.roR,(look σ.r i).isSome=true
theorem RoR.fr {σ σ':St} (h:RoR σ) (hf:Fr σ σ'):RoR σ':=fun i hi=>by
 rw[hf.roR] at hi
 rw[hf.r i hi]
 exact h i hi
def yn (C:Ctx) (rec:Inl):Prop:=∀(R:Type) id args σ K (z:R),rec R id args σ K=some z->RoR σ->∀E,MemOk E σ.look->E.P=C.P->∀vs:Array Value,dU E args vs.toList->∀post:Ending->World->Prop,
 (∀svs σ' E' v,K svs σ'=some z->dW E E'->Keep E E'->Fr σ σ'->MemOk E' σ'.look->(∀sv,wm svs=some sv->bv E' sv v)->post (.returned v) E'.w)->Calls C.P id vs E.w post
section
variable {N:Nat} {E:Env} {a:Act}
theorem xp {tb:List Nat} {h:Nat->Option (List At)} {i:Nat} {l:List At} (hh:bkT tb h i=some l):i ∈ tb/\h i=some l:=by
 unfold bkT at hh
 split at hh
 ·rename_i hm
  exact ⟨bS.1 hm,hh⟩
 ·cases hh
theorem uz {tb:List Nat} {h:Nat->Option (List At)} {i:Nat} (hi:i ∈ tb) (hh:bkT tb h i=none):h i=none:=by
 unfold bkT at hh
 rw[bS.2 hi] at hh
 exact hh
theorem AU {C:Ctx} {ops:Array Oper} {sl:Nat->Option SlotV} {bk:Nat->Option (List At)} {rk:Rk} {b:Nat} {o:Oper} {p:List Bool} {id:FuncId} {args:List SV} (h:rK C N ops sl bk rk b o=some (.inl p id args)) :
  zy N o.dst=true/\uD ops sl o.guard=.always/\yB C .always sl bk rk b o=some (p,.inl id args):=by
 unfold rK at h
 split at h
 ·cases h
 ·rename_i hd
  split at h
  ·cases h
  ·rename_i hg
   split at h<;>first | (cases h;done) | (injection h with h;cases h;done) | skip
   rename_i p' id' args' hc
   injection h with h
   injection h with h1 h2 h3
   subst h1;subst h2;subst h3
   exact ⟨hd,hg,hc⟩
  ·split at h
   ·split at h<;>first | (injection h with h;cases h) | cases h
   ·split at h<;>first | (injection h with h;cases h) | cases h
   ·cases h
theorem Mod.slots_keep {a':Act} {g g':Look} {E':Env} (hm:Mod N E a g) (hk:Keep E E') (hm':MemOk E' g') (hs:g'.s=g.s) (ha:a'=a):Mod N E' a' g':=by
 subst ha
 exact ⟨hm'.glob,hk.marks hm.nodef,hm.size,fun i s hi=>by
  rw[hs] at hi
  obtain ⟨v,h1,h2⟩:=hm.slots i s hi
  exact ⟨v,h1,hk.S h2⟩,hm'.blks,hm'.rows,hm'.xs⟩
theorem AY {rec:Inl} {C:Ctx} (hC:C.ok) (hI:yn C rec) {F:Fence} {n:Nat} (hW:oe F) {ops:Array Oper} {Q:Exit->Act->World->Prop} {R:Type} {z:R}:∀{l:List Oper} {σ:St} {K:St->Option R} {E:Env} {a:Act},sb l=true->AX rec C N ops l σ K=some z->RoR σ->E.P=C.P ->
  Mod N E a σ.look->(∀σ' E' a',K σ'=some z->dW E E'->Keep E E'->Fr σ σ'->(∀i,i ∉ l.filterMap (·.dst)->look σ'.s i=look σ.s i)->Mod N E' a' σ'.look->Q .normal a' E'.w)->wpListIn F n C.P ops Q l a E.w
 | [],σ,K,E,a,_,h,_,hP,hm,hQ=>hQ σ E a h rfl (Keep.refl E) (Fr.refl σ) (fun _ _=>rfl) hm
 | o ::r,σ,K,E,a,hnd,h,hro,hP,hm,hQ=>by
  obtain ⟨hnd1,hnd2⟩:=tV hnd
  simp only[AX] at h
  have dstne:∀i,i ∉ (o ::r).filterMap (·.dst)->o.dst≠some i/\i ∉ r.filterMap (·.dst):=fun i hi=>by
   rw[List.filterMap_cons] at hi
   split at hi
   ·rename_i hd;exact ⟨by rw[hd];simp,hi⟩
   ·rename_i d hd
    rw[hd]
    simp only[List.mem_cons,not_or] at hi
    exact ⟨fun e=>hi.1 (by injection e with e;exact e.symm),hi.2⟩
  have go:∀pl,wu C N ops σ.look.s (bkT (Bp σ o) σ.look.h) (rkT o (AV σ o) σ.look.r) σ.next o pl->mI σ.ro σ.roR σ.look.r pl.eff=true->AX rec C N ops r (σ.step pl) K=some z->wpListIn F n C.P ops Q (o ::r) a E.w:=by
   intro pl hpl he hr
   have hs:=BH (K:=wpListIn F n C.P ops Q r) (Q:=Q) (X:=False) hC hP hpl hm (fun _ _=>rfl) (fun i l hi=>(xp hi).2) (fun hb=>uz rx hb) (fun hmo _ _ h=>(ye hmo h).2) (fun _ _ h=>by obtain ⟨_,rj,h1,_,h2,h3⟩:=uY h;exact ⟨rj,h1,h2,h3⟩) (fun _ _ h=>(E6 h).2) (fun h=>tK (by simp[AV]) h)
    (fun E' a' h0 hk0 hm'=>AY hC hI hW hnd2 hr (hro.fr (wU he)) (h0.P.trans hP) (by rw[vF];exact hm') fun σ' E'' a'' hz h1 hk1 hf hsl hm'' =>
     hQ σ' E'' a'' hz (h0.trans h1) (hk0.trans hk1) ((wU he).trans hf) (fun i hi=>(hsl i (dstne i hi).2).trans (uQ hpl (dstne i hi).1)) hm'')
   unfold wpListIn
   split at hs
   ·rename_i hw
    rw[if_pos hw]
    exact HK hW hnd1 (hs.resolve_right id)
   ·rename_i hw
    rw[if_neg hw]
    exact ⟨fun f _=>hW.fn f,hs⟩
  split at h
  ·rename_i p pl hst
   split at h
   ·rename_i he
    obtain ⟨hp,h⟩:=dw h
    exact go pl ⟨_,hst,hp,rfl⟩ he h
   ·cases h
  ·rename_i p T m f hst
   obtain ⟨hp,h⟩:=dw h
   obtain ⟨t,ht,h⟩:=pX h
   split at h
   ·rename_i he
    exact go (f t) ⟨_,hst,hp,t,ht,rfl⟩ he h
   ·cases h
  ·rename_i p id args hst
   obtain ⟨hp,h⟩:=dw h
   obtain ⟨hd,hg,hc⟩:=AU hst
   have hgr:=vY hm (ops:=ops) (o:=o) (sl:=σ.look.s) (fun _ _=>rfl)
   rw[hg] at hgr
   simp only at hgr
   obtain ⟨vs,hrun,hvs⟩:=nZ hC hP hc hp hm (fun _ _=>rfl) (fun i l hi=>(xp hi).2) (fun hb=>uz rx hb) (fun hmo _ _ h=>(ye hmo h).2) (fun _ _ h=>by obtain ⟨_,rj,h1,_,h2,h3⟩:=uY h;exact ⟨rj,h1,h2,h3⟩) (fun _ _ h=>(E6 h).2) (fun h=>tK (by simp[AV]) h) (fun c hc=>hc)
   unfold wpListIn
   rw[if_pos hgr]
   refine HK hW hnd1 ?_
   unfold Oper.wp
   rw[hrun]
   refine hI R id args _ _ z h (fun i hi=>hro i hi) E (hm.memOk.of rfl rfl) hP vs hvs _ fun svs σ' E' v hk h0 hk0 hf hmem hret=>?_
   split at hk
   ·rename_i sv hsv
    have hrel:=hret sv hsv
    have hmb:Mod N E' a (({ σ' with s:=σ.s }:St)).look:=hm.slots_keep hk0 (hmem.of rfl rfl) rfl rfl
    have hmod:Mod N E' (a.put o.dst v) (σ.back σ' o.dst sv).look:=by
     unfold St.back
     cases hdd:o.dst with
     | none=>exact hmb
     | some d =>
      rw[hdd] at hd
      simp only[rc]
      exact hmb.put (by simp[zy,Nat.blt] at hd;omega) hrel
    have hfb:Fr σ (σ.back σ' o.dst sv):=by
     unfold St.back
     cases o.dst<;>exact ⟨hf.ro,hf.roR,hf.h,hf.r⟩
    have hsb:∀i,o.dst≠some i->look (σ.back σ' o.dst sv).s i=look σ.s i:=fun i hi=>by
     unfold St.back
     cases hdd:o.dst with
     | none=>rfl
     | some d =>
      show look ((d,some _) ::σ.s) i=_
      rw[ai,if_neg (fun e=>hi (by rw[hdd,e]))]
    exact AY hC hI hW hnd2 hk (hro.fr hfb) (h0.P.trans hP) hmod fun σ2 E2 a2 hz h1 hk1 hf1 hsl hm2 =>
     hQ σ2 E2 a2 hz (h0.trans h1) (hk0.trans hk1) (hfb.trans hf1) (fun i hi=>(hsl i (dstne i hi).2).trans (hsb i (dstne i hi).1)) hm2
   ·cases hk
  ·cases h
end
end
end Dn
namespace Dn
noncomputable section
open Go.RowKit
def Ent.w (e:Ent):Option Nat:=match e.pl.eff with
 | .alloc b _=>some b
 | .store b _=>some b
 | _=>none
def Ent.d (e:Ent):Option Nat:=match e.pl.s with
 | some x=>some x.1
 | none=>none
def Cr:Eff->List Nat
 | .rset k _ _=>[k]
 | .row k _ (some o)=>[k,o]
 | .row k _ none=>[k]
 | .rkill l=>l
 | .xset k _ u=>k ::u
 | _=>[]
def B4:Eff->Bool
 | .row ..=>true
 | .rkill _=>true
 | .xset ..=>true
 | _=>false
def Ent.c (e:Ent):List Nat:=Cr e.pl.eff
def Ent.hard (e:Ent):Bool:=B4 e.pl.eff
def CV:Option Nat->List Nat->Bool
 | some d,l=>!gp d l
 | none,_=>true
def neO:Option Nat->Option Nat->Bool
 | some d,some e=>!Nat.beq d e
 | _,_=>true
def CJ:List Nat->List Nat->Bool
 | [],_=>true
 | x ::l,m=>!gp x m&&CJ l m
def kA (e f:Ent):Bool:=CV e.d f.looks&&neO e.d f.d&&CV f.d e.looks&&CV e.w f.tb&&CV f.w e.tb&&(CJ e.c f.tr||(f.tm&&!e.hard))&&(CJ f.c e.tr||(e.tm&&!f.hard))
def xX:List Ent->Nat->List Nat
 | [],_=>[]
 | e ::_,0=>e.deps
 | _ ::r,d+1=>xX r d
def xH (f:Nat->Bool):List Nat->Bool
 | []=>false
 | d ::r=>f d||xH f r
def xV (es:List Ent):Nat->Nat->Nat->Bool
 | 0,_,_=>false
 | n+1,i,j=>xH (fun d=>Nat.beq d i||(Nat.blt i d&&xV es n i d)) (xX es j)
def IJ (es:List Ent) (i:Nat) (e:Ent):Nat->List Ent->Bool
 | _,[]=>true
 | j,f ::r=>(kA e f||(gp i f.deps||xV es 8 i j))&&IJ es i e (j+1) r
def wN (i:Nat):List Nat->Bool
 | []=>true
 | d ::r=>Nat.blt d i&&wN i r
def ND (e:Ent):Bool:=match e.w with
 | some b=>gp b e.tb
 | none=>true
def JO:List Nat->List Nat->Bool
 | [],_=>true
 | x ::l,m=>gp x m&&JO l m
def Lv (e:Ent):Bool:=match e.c with
 | []=>true
 | x ::l=>JO (x ::l) e.tr&&!e.tm
def rL (es:List Ent):Nat->List Ent->Bool
 | _,[]=>true
 | i,e ::r=>IJ es i e (i+1) r&&wN i e.deps&&ND e&&Lv e&&rL es (i+1) r
theorem vZ:∀{l m:List Nat},CJ l m=true->∀{x},x ∈ l->x ∉ m
 | [],_,_,_,h=>by cases h
 | y ::l,m,h,x,hx=>by
  simp only[CJ,z10,Bool.not_eq_true'] at h
  rcases List.mem_cons.1 hx with rfl | hx
  ·intro hm
   rw[bS.2 hm] at h
   cases h.1
  ·exact vZ h.2 hx
theorem vN:∀{l m:List Nat},JO l m=true->∀{x},x ∈ l->x ∈ m
 | [],_,_,_,h=>by cases h
 | y ::l,m,h,x,hx=>by
  simp only[JO,z10] at h
  rcases List.mem_cons.1 hx with rfl | hx
  ·exact bS.1 h.1
  ·exact vN h.2 hx
theorem lL {x:Option Nat} {l:List Nat} (h:CV x l=true) {d:Nat} (hd:x=some d):d ∉ l:=by
 subst hd
 simp only[CV,Bool.not_eq_true'] at h
 intro hm
 rw[bS.2 hm] at h
 cases h
theorem G3 {x y:Option Nat} (h:neO x y=true) {d:Nat} (hx:x=some d) (hy:y=some d):False:=by
 subst hx;subst hy
 simp[neO] at h
inductive Awaits (es:List Ent):Nat->Nat->Prop
 | one {i j:Nat} {f:Ent}:es[j]?=some f->i ∈ f.deps->Awaits es i j
 | step {i d j:Nat} {f:Ent}:es[j]?=some f->d ∈ f.deps->Awaits es i d->Awaits es i j
theorem tS:∀{es:List Ent} {j d:Nat},d ∈ xX es j->∃f,es[j]?=some f/\d ∈ f.deps
 | [],_,_,h=>by simp[xX] at h
 | e ::_,0,_,h=>⟨e,rfl,h⟩
 | _ ::r,j+1,_,h=>by
  obtain ⟨f,h1,h2⟩:=tS (es:=r) (j:=j) h
  exact ⟨f,by simpa using h1,h2⟩
theorem rU {f:Nat->Bool}:∀{l:List Nat},xH f l=true->∃d ∈ l,f d=true
 | d ::r,h=>by
  simp only[xH,Bool.or_eq_true] at h
  rcases h with h | h
  ·exact ⟨d,by simp,h⟩
  ·obtain ⟨e,h1,h2⟩:=rU h
   exact ⟨e,List.mem_cons_of_mem _ h1,h2⟩
theorem si {es:List Ent}:∀{n i j:Nat},xV es n i j=true->Awaits es i j
 | n+1,i,j,h=>by
  simp only[xV] at h
  obtain ⟨d,h1,h2⟩:=rU h
  obtain ⟨f,h3,h4⟩:=tS h1
  simp only[Bool.or_eq_true,z10,Nat.beq_eq] at h2
  rcases h2 with h2 | h2
  ·subst h2;exact .one h3 h4
  ·exact .step h3 h4 (si h2.2)
theorem vC {es:List Ent} {i:Nat} {e:Ent}:∀{l:List Ent} {k j:Nat} {f:Ent},IJ es i e j l=true->l[k]?=some f->kA e f=true\/i ∈ f.deps\/Awaits es i (j+k)
 | [],k,j,f,_,hk=>by simp at hk
 | x ::r,k,j,f,h,hk=>by
  simp only[IJ,z10,Bool.or_eq_true] at h
  cases k with
  | zero =>
   simp only[List.getElem?_cons_zero,Option.some.injEq] at hk
   subst hk
   exact h.1.imp id fun h=>h.imp bS.1 si
  | succ k =>
   simp only[List.getElem?_cons_succ] at hk
   have:=vC h.2 hk
   rwa [show j+1+k=j+(k+1) by omega] at this
theorem rS {i:Nat}:∀{l:List Nat},wN i l=true->∀d ∈ l,d<i
 | [],_,d,hd=>by cases hd
 | x ::r,h,d,hd=>by
  simp only[wN,z10,Nat.blt,Nat.ble_eq] at h
  rcases List.mem_cons.1 hd with rfl | hd
  ·omega
  ·exact rS h.2 d hd
structure Chk (es:List Ent):Prop where
 pair:∀(i j:Nat) (e f:Ent),i<j->es[i]?=some e->es[j]?=some f->kA e f=true\/Awaits es i j
 lt:∀(i:Nat) (e:Ent),es[i]?=some e->∀d ∈ e.deps,d<i
 own:∀(i:Nat) (e:Ent) (b:Nat),es[i]?=some e->e.w=some b->b ∈ e.tb
 ownc:∀(i:Nat) (e:Ent) (b:Nat),es[i]?=some e->b ∈ e.c->b ∈ e.tr/\e.tm=false
theorem Dh {e:Ent} (h:Lv e=true) {b:Nat} (hb:b ∈ e.c):b ∈ e.tr/\e.tm=false:=by
 unfold Lv at h
 split at h
 ·rename_i hc;rw[hc] at hb;cases hb
 ·rename_i x l hc
  simp only[z10,Bool.not_eq_true'] at h
  rw[hc] at hb
  exact ⟨vN h.1 hb,h.2⟩
theorem ss {es:List Ent}:∀{l:List Ent} {n:Nat},rL es n l=true ->
  (∀(i j:Nat) (e f:Ent),i<j->l[i]?=some e->l[j]?=some f->kA e f=true\/n+i ∈ f.deps\/Awaits es (n+i) (n+j))/\(∀(i:Nat) (e:Ent),l[i]?=some e->∀d ∈ e.deps,d<n+i)/\(∀(i:Nat) (e:Ent) (b:Nat),l[i]?=some e->e.w=some b->b ∈ e.tb)/\(∀(i:Nat) (e:Ent) (b:Nat),l[i]?=some e->b ∈ e.c->b ∈ e.tr/\e.tm=false)
 | [],n,_=>⟨fun i j e f _ h=>by simp at h,fun i e h=>by simp at h,fun i e b h=>by simp at h,fun i e b h=>by simp at h⟩
 | x ::r,n,h=>by
  simp only[rL,z10] at h
  obtain ⟨⟨⟨⟨h1,h2⟩,h4⟩,h6⟩,h5⟩:=h
  obtain ⟨i1,i2,i4,i5⟩:=ss h5
  refine ⟨fun i j e f hij hi hj=>?_,fun i e hi d hd=>?_,fun i e b hi hb=>?_,fun i e b hi hb=>?_⟩
  ·cases j with
   | zero=>omega
   | succ j =>
    simp only[List.getElem?_cons_succ] at hj
    cases i with
    | zero =>
     simp only[List.getElem?_cons_zero,Option.some.injEq] at hi
     subst hi
     have:=vC h1 hj
     rwa [show n+1+j=n+(j+1) by omega] at this
    | succ i =>
     simp only[List.getElem?_cons_succ] at hi
     have:=i1 i j e f (by omega) hi hj
     rwa [show n+1+i=n+(i+1) by omega,show n+1+j=n+(j+1) by omega] at this
  ·cases i with
   | zero =>
    simp only[List.getElem?_cons_zero,Option.some.injEq] at hi
    subst hi
    exact rS h2 d hd
   | succ i =>
    simp only[List.getElem?_cons_succ] at hi
    have:=i2 i e hi d hd
    omega
  ·cases i with
   | zero =>
    simp only[List.getElem?_cons_zero,Option.some.injEq] at hi
    subst hi
    simp only[ND,hb] at h4
    exact bS.1 h4
   | succ i =>
    simp only[List.getElem?_cons_succ] at hi
    exact i4 i e b hi hb
  ·cases i with
   | zero =>
    simp only[List.getElem?_cons_zero,Option.some.injEq] at hi
    subst hi
    exact Dh h6 hb
   | succ i =>
    simp only[List.getElem?_cons_succ] at hi
    exact i5 i e b hi hb
theorem KE {es:List Ent} (h:rL es 0 es=true):Chk es:=by
 obtain ⟨h1,h2,h4,h5⟩:=ss h
 exact ⟨fun i j e f hij hi hj=>by have:=h1 i j e f hij hi hj;simp only[Nat.zero_add] at this;exact this.imp id fun h=>h.elim (fun h=>.one hj h) id,fun i e hi d hd=>by have:=h2 i e hi d hd;omega,h4,h5⟩
def fil (g:Look) (p:Nat->Bool):Nat->List Ent->Look
 | _,[]=>g
 | i,e ::r=>fil (match p i with | true=>g.plan e.pl | false=>g) p (i+1) r
theorem AJ (g:Look) (e:Ent) (t:Nat):(g.plan e.pl).s t=match e.pl.s with
  | some (d,s)=>if t=d then some s else g.s t
  | none=>g.s t:=by
 unfold Look.plan
 have happ:(g.app e.pl.eff).s=g.s:=by cases e.pl.eff<;>first | rfl | (rename_i k r o;cases o<;>rfl)
 cases e.pl.s with
 | none=>exact congrFun happ t
 | some d=>simp only[Look.setS,happ]
theorem A9 (g:Look) (e:Ent) (b:Nat):(g.plan e.pl).h b=match e.pl.eff with
  | .alloc i l=>if b=i then some l else g.h b
  | .store i l=>if b=i then some l else g.h b
  | _=>g.h b:=by
 unfold Look.plan
 cases e.pl.s<;>(cases e.pl.eff<;>first | rfl | (rename_i k r o;cases o<;>rfl))
def oI (f:Eff) (t:Nat) (x:Option RowS):Option RowS:=match f with
 | .row k r (some o)=>if t=k then some (.some r) else if t=o then some .none else x
 | .row k r none=>if t=k then some (.some r) else x
 | .rset k e l=>if t=k then tP e l x else x
 | .rkill l=>if t ∈ l then some .none else x
 | .xset k y u=>if t=k then some (.x y) else if t ∈ u then some .none else x
 | _=>x
theorem pA (g:Look) (e:Ent) (t:Nat):(g.plan e.pl).r t=oI e.pl.eff t (g.r t):=by
 unfold Look.plan
 cases e.pl.s<;>(cases he:e.pl.eff with
  | row k r o=>cases o<;>rfl
  | rset k s l =>
   simp only[Look.app,Look.setS,oI]
   by_cases h:t=k
   ·subst h;rfl
   ·rw[if_neg h,if_neg h]
  | _=>rfl)
theorem Hm {f:Eff} {t:Nat} {x:Option RowS} (h:t ∉ Cr f):oI f t x=x:=by
 cases f with
 | row k r o =>
  cases o<;>simp only[Cr,List.mem_cons,List.not_mem_nil,or_false,not_or] at h<;>simp[oI,h]
 | rset k s l=>simp only[Cr,List.mem_cons,List.not_mem_nil,or_false] at h;simp[oI,h]
 | rkill l=>simp only[Cr] at h;simp[oI,h]
 | xset k y u =>
  simp only[Cr,List.mem_cons,not_or] at h
  simp[oI,h.1,h.2]
 | _=>rfl
theorem pK (s:Sh) (l:List s.T) (x:Option RowS):fc (tP s l x)=fc x:=by
 unfold tP
 split
 ·split<;>rfl
 ·rfl
theorem C9 {f:Eff} {t:Nat} (h:B4 f=false) (x:Option RowS):fc (oI f t x)=fc x:=by
 cases f with
 | row k r o=>cases h
 | rkill l=>cases h
 | xset k y u=>cases h
 | rset k s l =>
  simp only[oI]
  split
  ·exact pK s l x
  ·rfl
 | _=>rfl
theorem DL {f:Eff} {t:Nat} {x y:Option RowS} (h:fc x=fc y):fc (oI f t x)=fc (oI f t y):=by
 cases f with
 | row k r o=>cases o<;>simp only[oI]<;>split<;>first | rfl | (split<;>first | rfl | exact h) | exact h
 | rkill l=>simp only[oI];split<;>first | rfl | exact h
 | xset k y u=>simp only[oI];split<;>first | rfl | (split<;>first | rfl | exact h)
 | rset k s l =>
  simp only[oI]
  split
  ·rw[pK,pK];exact h
  ·exact h
 | _=>exact h
theorem mC (g:Look) (e:Ent) (t:Nat) (h:t ∉ e.c):(g.plan e.pl).r t=g.r t:=by rw[pA,Hm h]
theorem pC (g:Look) (e:Ent) (t:Nat) (h:e.d≠some t):(g.plan e.pl).s t=g.s t:=by
 rw[AJ]
 unfold Ent.d at h
 cases hs:e.pl.s with
 | none=>rfl
 | some x=>rw[hs] at h;simp only[ne_eq,Option.some.injEq] at h;exact if_neg (Ne.symm h)
theorem wz (g g':Look) (e:Ent) (t:Nat) (h:e.d=some t):(g.plan e.pl).s t=(g'.plan e.pl).s t:=by
 rw[AJ,AJ]
 unfold Ent.d at h
 cases hs:e.pl.s with
 | none=>rw[hs] at h;cases h
 | some x=>rw[hs] at h;simp only[Option.some.injEq] at h;simp[h]
theorem pO (g:Look) (e:Ent) (b:Nat) (h:e.w≠some b):(g.plan e.pl).h b=g.h b:=by
 rw[A9]
 unfold Ent.w at h
 cases he:e.pl.eff<;>rw[he] at h<;>first | rfl | (simp only[ne_eq,Option.some.injEq] at h;exact if_neg (Ne.symm h))
theorem vA (g g':Look) (e:Ent) (b:Nat) (h:e.w=some b):(g.plan e.pl).h b=(g'.plan e.pl).h b:=by
 rw[A9,A9]
 unfold Ent.w at h
 cases he:e.pl.eff<;>rw[he] at h<;>first | cases h;done | (simp only[Option.some.injEq] at h;simp[h])
theorem yw {p q:Nat->Bool} {t:Nat}:∀{l:List Ent} {i:Nat} {g g':Look},(∀(k:Nat) (e:Ent),l[k]?=some e->e.d=some t->p (i+k)=q (i+k))->g.s t=g'.s t->(fil g p i l).s t=(fil g' q i l).s t
 | [],i,g,g',_,h=>h
 | e ::r,i,g,g',hpq,h=>by
  simp only[fil]
  refine yw (fun k f hk hd=>?_) ?_
  ·have:=hpq (k+1) f (by simpa using hk) hd
   rwa [show i+(k+1)=i+1+k by omega] at this
  ·by_cases hd:e.d=some t
   ·have:=hpq 0 e rfl hd
    simp only[Nat.add_zero] at this
    rw[this]
    cases q i
    ·exact h
    ·exact wz g g' e t hd
   ·have e1:(match p i with | true=>g.plan e.pl | false=>g).s t=g.s t:=by cases p i<;>first | rfl | exact pC g e t hd
    have e2:(match q i with | true=>g'.plan e.pl | false=>g').s t=g'.s t:=by cases q i<;>first | rfl | exact pC g' e t hd
    rw[e1,e2,h]
theorem Al {p q:Nat->Bool} {t:Nat}:∀{l:List Ent} {i:Nat} {g g':Look},(∀(k:Nat) (e:Ent),l[k]?=some e->e.w=some t->p (i+k)=q (i+k))->g.h t=g'.h t->(fil g p i l).h t=(fil g' q i l).h t
 | [],i,g,g',_,h=>h
 | e ::r,i,g,g',hpq,h=>by
  simp only[fil]
  refine Al (fun k f hk hd=>?_) ?_
  ·have:=hpq (k+1) f (by simpa using hk) hd
   rwa [show i+(k+1)=i+1+k by omega] at this
  ·by_cases hd:e.w=some t
   ·have:=hpq 0 e rfl hd
    simp only[Nat.add_zero] at this
    rw[this]
    cases q i
    ·exact h
    ·exact vA g g' e t hd
   ·have e1:(match p i with | true=>g.plan e.pl | false=>g).h t=g.h t:=by cases p i<;>first | rfl | exact pO g e t hd
    have e2:(match q i with | true=>g'.plan e.pl | false=>g').h t=g'.h t:=by cases q i<;>first | rfl | exact pO g' e t hd
    rw[e1,e2,h]
theorem zS {p q:Nat->Bool} {t:Nat}:∀{l:List Ent} {i:Nat} {g g':Look},(∀(k:Nat) (e:Ent),l[k]?=some e->t ∈ e.c->p (i+k)=q (i+k))->g.r t=g'.r t->(fil g p i l).r t=(fil g' q i l).r t
 | [],i,g,g',_,h=>h
 | e ::r,i,g,g',hpq,h=>by
  simp only[fil]
  refine zS (fun k f hk hd=>?_) ?_
  ·have:=hpq (k+1) f (by simpa using hk) hd
   rwa [show i+(k+1)=i+1+k by omega] at this
  ·by_cases hd:t ∈ e.c
   ·have:=hpq 0 e rfl hd
    simp only[Nat.add_zero] at this
    rw[this]
    cases q i
    ·exact h
    ·simp only[pA,h]
   ·have e1:(match p i with | true=>g.plan e.pl | false=>g).r t=g.r t:=by cases p i<;>first | rfl | exact mC g e t hd
    have e2:(match q i with | true=>g'.plan e.pl | false=>g').r t=g'.r t:=by cases q i<;>first | rfl | exact mC g' e t hd
    rw[e1,e2,h]
theorem vH {p q:Nat->Bool} {t:Nat}:∀{l:List Ent} {i:Nat} {g g':Look},(∀(k:Nat) (e:Ent),l[k]?=some e->t ∈ e.c->e.hard=true->p (i+k)=q (i+k))->fc (g.r t)=fc (g'.r t)->fc ((fil g p i l).r t)=fc ((fil g' q i l).r t)
 | [],i,g,g',_,h=>h
 | e ::r,i,g,g',hpq,h=>by
  simp only[fil]
  refine vH (fun k f hk hd hh=>?_) ?_
  ·have:=hpq (k+1) f (by simpa using hk) hd hh
   rwa [show i+(k+1)=i+1+k by omega] at this
  ·have same:e.hard=false\/t ∉ e.c->∀g:Look,fc ((g.plan e.pl).r t)=fc (g.r t):=fun ho g=>by
    rcases ho with ho | ho
    ·rw[pA];exact C9 ho _
    ·rw[mC g e t ho]
   by_cases hd:t ∈ e.c/\e.hard=true
   ·have:=hpq 0 e rfl hd.1 hd.2
    simp only[Nat.add_zero] at this
    rw[this]
    cases q i
    ·exact h
    ·simp only[pA];exact DL h
   ·have ho:e.hard=false\/t ∉ e.c:=by
     cases hh:e.hard with
     | false=>exact .inl rfl
     | true=>exact .inr fun hc=>hd ⟨hc,hh⟩
    have e1:fc ((match p i with | true=>g.plan e.pl | false=>g).r t)=fc (g.r t):=by cases p i<;>first | rfl | exact same ho g
    have e2:fc ((match q i with | true=>g'.plan e.pl | false=>g').r t)=fc (g'.r t):=by cases q i<;>first | rfl | exact same ho g'
    rw[e1,e2,h]
theorem zk {p:Nat->Bool} {t:Nat}:∀{l:List Ent} {i j:Nat} {g:Look} {e:Ent},l[j]?=some e->p (i+j)=true->e.d=some t->(∀(k:Nat) (f:Ent),j<k->l[k]?=some f->f.d=some t->p (i+k)=false)->∀g':Look,(fil g p i l).s t=(g'.plan e.pl).s t
 | [],i,j,g,e,h,_,_,_,_=>by simp at h
 | x ::r,i,0,g,e,h,hp,hd,hl,g'=>by
  simp only[List.getElem?_cons_zero,Option.some.injEq] at h
  subst h
  simp only[Nat.add_zero] at hp
  simp only[fil,hp]
  have:=yw (p:=p) (q:=fun _=>false) (t:=t) (l:=r) (i:=i+1) (g:=g.plan x.pl) (g':=g.plan x.pl) (fun k f hk hf=>by
   have:=hl (k+1) f (by omega) (by simpa using hk) hf
   rwa [show i+(k+1)=i+1+k by omega] at this) rfl
  rw[this]
  have none_:∀(l:List Ent) (i:Nat) (g:Look),fil g (fun _=>false) i l=g:=by
   intro l
   induction l with
   | nil=>intro i g;rfl
   | cons y l ih=>intro i g;exact ih (i+1) g
  rw[none_]
  exact wz g g' x t hd
 | x ::r,i,j+1,g,e,h,hp,hd,hl,g'=>by
  simp only[List.getElem?_cons_succ] at h
  simp only[fil]
  refine zk (j:=j) h (by rwa [show i+1+j=i+(j+1) by omega]) hd (fun k f hk hf hfd=>?_) g'
  have:=hl (k+1) f (by omega) (by simpa using hf) hfd
  rwa [show i+(k+1)=i+1+k by omega] at this
theorem yH {p:Nat->Bool} {t:Nat}:∀{l:List Ent} {i j:Nat} {g:Look} {e:Ent},l[j]?=some e->p (i+j)=true->e.w=some t->(∀(k:Nat) (f:Ent),j<k->l[k]?=some f->f.w=some t->p (i+k)=false)->∀g':Look,(fil g p i l).h t=(g'.plan e.pl).h t
 | [],i,j,g,e,h,_,_,_,_=>by simp at h
 | x ::r,i,0,g,e,h,hp,hd,hl,g'=>by
  simp only[List.getElem?_cons_zero,Option.some.injEq] at h
  subst h
  simp only[Nat.add_zero] at hp
  simp only[fil,hp]
  have:=Al (p:=p) (q:=fun _=>false) (t:=t) (l:=r) (i:=i+1) (g:=g.plan x.pl) (g':=g.plan x.pl) (fun k f hk hf=>by
   have:=hl (k+1) f (by omega) (by simpa using hk) hf
   rwa [show i+(k+1)=i+1+k by omega] at this) rfl
  rw[this]
  have none_:∀(l:List Ent) (i:Nat) (g:Look),fil g (fun _=>false) i l=g:=by
   intro l
   induction l with
   | nil=>intro i g;rfl
   | cons y l ih=>intro i g;exact ih (i+1) g
  rw[none_]
  exact vA g g' x t hd
 | x ::r,i,j+1,g,e,h,hp,hd,hl,g'=>by
  simp only[List.getElem?_cons_succ] at h
  simp only[fil]
  refine yH (j:=j) h (by rwa [show i+1+j=i+(j+1) by omega]) hd (fun k f hk hf hfd=>?_) g'
  have:=hl (k+1) f (by omega) (by simpa using hf) hfd
  rwa [show i+(k+1)=i+1+k by omega] at this
theorem yq (l:List Ent) (i:Nat) (g:Look) (p:Nat->Bool) (t:Nat) (h:∀(k:Nat) (f:Ent),l[k]?=some f->t ∈ f.c->p (i+k)=false):(fil g p i l).r t=g.r t:=by
 rw[zS (q:=fun _=>false) (g':=g) h rfl]
 have none_:∀(l:List Ent) (i:Nat) (g:Look),fil g (fun _=>false) i l=g:=by
  intro l
  induction l with
  | nil=>intro i g;rfl
  | cons y l ih=>intro i g;exact ih (i+1) g
 rw[none_]
theorem Ab {p q:Nat->Bool} {t:Nat}:∀{l:List Ent} {i j:Nat} {g g':Look} {e:Ent},l[j]?=some e->p (i+j)=true->q (i+j)=false->(∀k,k≠j->p (i+k)=q (i+k))->(∀(k:Nat) (f:Ent),j<k->l[k]?=some f->t ∈ f.c->p (i+k)=false) ->
  g.r t=g'.r t->(fil g p i l).r t=oI e.pl.eff t ((fil g' q i l).r t)
 | [],i,j,g,g',e,h,_,_,_,_,_=>by simp at h
 | x ::r,i,0,g,g',e,h,hp,hq,hpq,hl,hg=>by
  simp only[List.getElem?_cons_zero,Option.some.injEq] at h
  subst h
  simp only[Nat.add_zero] at hp hq
  simp only[fil,hp,hq]
  have hl':∀(k:Nat) (f:Ent),r[k]?=some f->t ∈ f.c->p (i+1+k)=false:=fun k f hk hf=>by
   have:=hl (k+1) f (by omega) (by simpa using hk) hf
   rwa [show i+(k+1)=i+1+k by omega] at this
  rw[yq r (i+1) _ p t hl',yq r (i+1) _ q t fun k f hk hf=>?_,pA,hg]
  have:=hpq (k+1) (by omega)
  rw[show i+(k+1)=i+1+k by omega] at this
  rw[<-this]
  exact hl' k f hk hf
 | x ::r,i,j+1,g,g',e,h,hp,hq,hpq,hl,hg=>by
  simp only[List.getElem?_cons_succ] at h
  simp only[fil]
  refine Ab (j:=j) h (by rwa [show i+1+j=i+(j+1) by omega]) (by rwa [show i+1+j=i+(j+1) by omega]) (fun k hk=>?_) (fun k f hk hf hfd=>?_) ?_
  ·have:=hpq (k+1) (by omega)
   rwa [show i+(k+1)=i+1+k by omega] at this
  ·have:=hl (k+1) f (by omega) (by simpa using hf) hfd
   rwa [show i+(k+1)=i+1+k by omega] at this
  ·have:=hpq 0 (by omega)
   simp only[Nat.add_zero] at this
   rw[this]
   cases q i
   ·exact hg
   ·simp only[pA,hg]
theorem vw {p:Nat->Bool}:∀{l:List Ent} {i:Nat} {g:Look},fil g p (i+1) l=fil g (fun k=>p (k+1)) i l
 | [],_,_=>rfl
 | e ::r,i,g=>by simp only[fil];exact vw
theorem yV:∀{l:List Ent} {i:Nat} {g:Look},fil g (fun _=>true) i l=l.foldl (fun g e=>g.plan e.pl) g
 | [],_,_=>rfl
 | e ::r,i,g=>by simp only[fil,List.foldl_cons];exact yV
structure At0 (C:Ctx) (N:Nat) (ops:Array Oper) (g:Look) (es:List Ent) (j:Nat) (o:Oper) (e:Ent):Prop where
 get:es[j]?=some e
 step:∃b,b ∈ e.tb/\b ∈ e.tr/\wu C N ops (fil g (fun k=>decide (k<j)) 0 es).s (bkT e.tb (fil g (fun k=>decide (k<j)) 0 es).h) (rkT o e.tr (fil g (fun k=>decide (k<j)) 0 es).r) b o e.pl
 tmeq:e.tm=eL o
 looks:e.looks=o.looksAt ops
 deps:e.deps=(o.after.toList.filter (Region.binds .any)).map (·.on)
theorem BO {C:Ctx} {N:Nat} {ops:Array Oper}:∀{l:List Oper} {σ σ':St} {es:List Ent},DR C N ops l σ es σ' ->
  σ'.look=es.foldl (fun g e=>g.plan e.pl) σ.look/\es.length=l.length/\(∀(j:Nat) (o:Oper),l[j]?=some o->∃e,At0 C N ops σ.look es j o e)
 | [],σ,σ',es,h=>by
  obtain ⟨rfl,rfl⟩:=h
  exact ⟨rfl,rfl,fun j o h=>by simp at h⟩
 | o ::r,σ,σ',es,h=>by
  obtain ⟨pl,es',hpl,hef,rfl,hr⟩:=h
  obtain ⟨h1,h2,h3⟩:=BO hr
  have e0:=vF σ pl
  rw[e0] at h1 h3
  refine ⟨h1,by simp[h2],fun j o' hj=>?_⟩
  cases j with
  | zero =>
   simp only[List.getElem?_cons_zero,Option.some.injEq] at hj
   subst hj
   refine ⟨_,rfl,⟨σ.next,rx,by simp[Cc,AV],?_⟩,rfl,rfl,rfl⟩
   have e00:∀(l:List Ent) (i:Nat) (g:Look),fil g (fun k=>decide (k<0)) i l=g:=by
    intro l
    induction l with
    | nil=>intro i g;rfl
    | cons y l ih=>intro i g;exact ih (i+1) g
   rw[e00]
   exact hpl
  | succ j =>
   simp only[List.getElem?_cons_succ] at hj
   obtain ⟨e,a1,⟨b,hb,hbr,a2⟩,am,a3,a4⟩:=h3 j o' hj
   refine ⟨e,by simpa using a1,⟨b,hb,hbr,?_⟩,am,a3,a4⟩
   have e1:∀(x:Ent),x.pl=pl->fil σ.look (fun k=>decide (k<j+1)) 0 (x ::es')=fil (σ.look.plan pl) (fun k=>decide (k<j)) 0 es':=by
    intro x hx
    have hf:(fun k=>decide (k+1<j+1))=fun k=>decide (k<j):=by funext k;simp
    simp only[fil]
    rw[vw,hf,hx]
    rfl
   rw[e1 _ rfl]
   exact a2
section
variable {N:Nat} {E:Env} {a:Act}
theorem GU {g:Look} (hm:Mod N E a g) (n:Nat):Mod N { E with w:={ E.w with drawn:=n } } a g/\Keep E { E with w:={ E.w with drawn:=n } }:=by
 have hx:Ext (fun _=>False) E { E with w:={ E.w with drawn:=n } }:=⟨rfl,rfl,rfl,rfl,fun _ h=>h,fun _ _ _=>rfl,fun _ _=>rfl,fun _ h=>h,fun _ _=>rfl,fun _ h=>h,Env.same_x⟩
 refine ⟨hm.move (fA.none E) hx ?_ rfl hm.size (fun i s h=>.inl ⟨h,rfl⟩) (fun i l h=>.inl ⟨h,id⟩) (fun i r h=>.inl ⟨h,fun _ _=>id⟩) (fun i r h=>.inl ⟨h,rfl,fun _ _=>id⟩),hx.keep hm.glob (fA.none E)⟩
 obtain ⟨⟨b1,b2,b3,b4,b5⟩,h2,h3,h4,h5,h6,h7,h8,h9,h10,⟨x1,x2⟩⟩:=hm.glob
 exact ⟨⟨b1,b2,b3,b4,b5⟩,h2,h3,h4,h5,h6,h7,h8,h9,h10,⟨x1,x2⟩⟩
theorem Eh {C:Ctx} (hC:C.ok) {ops:Array Oper} {g0:Look} {es:List Ent} (hk:Chk es) {L:Nat->Bool} (hL:∀(k:Nat) (e:Ent),es[k]?=some e->L k=true->∀d ∈ e.deps,L d=true)
  {j:Nat} {o:Oper} {e:Ent} (h0:At0 C N ops g0 es j o e) (hj:L j=false) (hd:∀d ∈ e.deps,L d=true) (hP:E.P=C.P) (hm:Mod N E a (fil g0 L 0 es)) {K:Act->World->Prop} {Q:Exit->Act->World->Prop} {X:Prop}
  (hK:∀E' a',dW E E'->Keep E E'->Mod N E' a' (fil g0 (fun k=>L k||k ==j) 0 es)->K a' E'.w) :
  if Region.wanted o (yielded ops a.tmps) then o.wp C.P a E.w K Q\/X else K (a.put o.dst undef) E.w:=by
 obtain ⟨hget,⟨b,hb,hbr,hst⟩,hmeta,hlk,hdp⟩:=h0
 have closed:∀{i d:Nat},Awaits es i d->L d=true->L i=true:=by
  intro i d hr
  induction hr with
  | one h1 h2=>exact fun h=>hL _ _ h1 h _ h2
  | step h1 h2 _ ih=>exact fun h=>ih (hL _ _ h1 h _ h2)
 have reachd:∀{i:Nat},Awaits es i j->L i=true:=by
  intro i hr
  cases hr with
  | one h1 h2=>rw[hget] at h1;injection h1 with h1;subst h1;exact hd _ h2
  | step h1 h2 h3=>rw[hget] at h1;injection h1 with h1;subst h1;exact closed h3 (hd _ h2)
 have before:∀(k:Nat) (f:Ent),es[k]?=some f->k≠j->(kA f e=true->False)->k<j->L k=true:=fun k f hf hne hi hlt =>
  have hr:=(hk.pair k j f e hlt hf hget).resolve_left fun h=>hi h
  reachd hr
 have after:∀(k:Nat) (f:Ent),es[k]?=some f->(kA e f=true->False)->j<k->L k=false:=fun k f hf hi hlt=>by
  have hdep:=(hk.pair j k e f hlt hget hf).resolve_left fun h=>hi h
  cases hLk:L k with
  | false=>rfl
  | true =>
   have:=closed hdep hLk
   rw[hj] at this
   cases this
 have slotsEq:∀t ∈ e.looks,(fil g0 L 0 es).s t=(fil g0 (fun k=>decide (k<j)) 0 es).s t:=fun t ht=>by
  refine yw (fun k f hf hfd=>?_) rfl
  rw[Nat.zero_add]
  rcases Nat.lt_trichotomy k j with h | h | h
  ·rw[before k f hf (by omega) (fun hi=>by
    simp only[kA,z10] at hi
    exact lL hi.1.1.1.1.1.1 hfd ht) h]
   simp[h]
  ·subst h
   simp[hj]
  ·rw[after k f hf (fun hi=>by
    simp only[kA,z10] at hi
    exact lL hi.1.1.1.1.2 hfd ht) h]
   simp;omega
 have blksEq:∀t ∈ e.tb,(fil g0 L 0 es).h t=(fil g0 (fun k=>decide (k<j)) 0 es).h t:=fun t ht=>by
  refine Al (fun k f hf hfd=>?_) rfl
  rw[Nat.zero_add]
  rcases Nat.lt_trichotomy k j with h | h | h
  ·rw[before k f hf (by omega) (fun hi=>by
    simp only[kA,z10] at hi
    exact lL hi.1.1.1.2 hfd ht) h]
   simp[h]
  ·subst h
   simp[hj]
  ·rw[after k f hf (fun hi=>by
    simp only[kA,z10] at hi
    exact lL hi.1.1.2 hfd ht) h]
   simp;omega
 have soft:∀(f g:Ent),(CJ f.c g.tr||(g.tm&&!f.hard))=true->∀t,t ∈ f.c->t ∈ g.tr->g.tm=true/\f.hard=false:=fun f g h t h1 h2=>by
  simp only[Bool.or_eq_true,z10,Bool.not_eq_true'] at h
  rcases h with h | h
  ·exact absurd h2 (vZ h h1)
  ·exact h
 have pick:∀t ∈ e.tr,∀(k:Nat) (f:Ent),es[k]?=some f->t ∈ f.c->k≠j->(e.tm=false\/f.hard=true)->L k=decide (k<j):=fun t ht k f hf hfd hne ho=>by
  have no:∀{q:Prop},e.tm=true/\f.hard=false->q:=fun hq=>by
   rcases ho with ho | ho
   ·rw[ho] at hq;cases hq.1
   ·rw[ho] at hq;cases hq.2
  rcases Nat.lt_trichotomy k j with h | h | h
  ·rw[before k f hf (by omega) (fun hi=>by
    simp only[kA,z10] at hi
    exact no (soft f e hi.1.2 t hfd ht)) h]
   simp[h]
  ·exact absurd h hne
  ·rw[after k f hf (fun hi=>by
    simp only[kA,z10] at hi
    exact no (soft f e hi.2 t hfd ht)) h]
   simp;omega
 have pick':∀t ∈ e.tr,∀(k:Nat) (f:Ent),es[k]?=some f->t ∈ f.c->(e.tm=false\/f.hard=true)->L k=decide (k<j):=fun t ht k f hf hfd ho=>by
  by_cases hne:k=j
  ·subst hne
   simp[hj]
  ·exact pick t ht k f hf hfd hne ho
 have blankEq:∀t ∈ e.tr,fc ((fil g0 L 0 es).r t)=fc ((fil g0 (fun k=>decide (k<j)) 0 es).r t):=fun t ht=>by
  refine vH (fun k f hf hfd hh=>?_) rfl
  rw[Nat.zero_add]
  exact pick' t ht k f hf hfd (.inr hh)
 have rowsEq:∀t ∈ e.tr,e.tm=false->(fil g0 L 0 es).r t=(fil g0 (fun k=>decide (k<j)) 0 es).r t:=fun t ht htm=>by
  refine zS (fun k f hf hfd=>?_) rfl
  rw[Nat.zero_add]
  exact pick' t ht k f hf hfd (.inl htm)
 refine BH (K:=K) (Q:=Q) (X:=X) hC hP hst hm (fun t ht=>slotsEq t (by rw[hlk];exact ht)) (fun i l hi=>?_) (fun hn=>?_) (fun hmo i r hi=>?_) (fun i ri hi=>?_) (fun i x hi=>?_) (fun hi=>?_) fun E' a' hs hkp hm'=>hK E' a' hs hkp ?_
 ·obtain ⟨h1,h2⟩:=xp hi
  rw[blksEq i h1]
  exact h2
 ·rw[blksEq b hb]
  exact uz hb hn
 ·obtain ⟨h1,h2⟩:=ye hmo hi
  rw[rowsEq i h1 (by rw[hmeta];exact hmo)]
  exact h2
 ·obtain ⟨h1,rj,h2,h3,h4,h5⟩:=uY hi
  have hbl:=blankEq i h1
  rw[h2] at hbl
  obtain ⟨rk,g1,g2,g3,g4⟩:=uK (ri:=⟨rj.t,rj.e,rj.n,[]⟩) hbl
  exact ⟨rk,g1,g3.trans h4,g4.trans h5⟩
 ·obtain ⟨h1,h2⟩:=E6 hi
  have hbl:=blankEq i h1
  rw[h2] at hbl
  exact Cb hbl
 ·have h1:=tK hbr hi
  have hbl:=blankEq b hbr
  rw[h1] at hbl
  have:∀x:Option RowS,fc x=none->x=none:=fun x hx=>by
   unfold fc at hx
   split at hx
   ·cases hx
   ·exact hx
  exact this _ hbl
 ·have hg:(fil g0 L 0 es).plan e.pl=fil g0 (fun k=>L k||k ==j) 0 es:=by
   have es_s:((fil g0 L 0 es).plan e.pl).s=(fil g0 (fun k=>L k||k ==j) 0 es).s:=by
    funext t
    by_cases ht:e.d=some t
    ·symm
     refine zk (j:=j) hget (by simp) ht (fun k f hlt hf hfd=>?_) _
     rw[Nat.zero_add,after k f hf (fun hi=>by
      simp only[kA,z10] at hi
      exact G3 hi.1.1.1.1.1.2 ht hfd) hlt]
     simp;omega
    ·rw[pC _ e t ht]
     refine yw (fun k f hf hfd=>?_) rfl
     rw[Nat.zero_add]
     have hkj:k≠j:=fun h=>by subst h;rw[hget] at hf;injection hf with hf;subst hf;exact ht hfd
     simp[hkj]
   have es_h:((fil g0 L 0 es).plan e.pl).h=(fil g0 (fun k=>L k||k ==j) 0 es).h:=by
    funext t
    by_cases ht:e.w=some t
    ·symm
     refine yH (j:=j) hget (by simp) ht (fun k f hlt hf hfd=>?_) _
     rw[Nat.zero_add,after k f hf (fun hi=>by
      simp only[kA,z10] at hi
      exact lL hi.1.1.2 hfd (hk.own j e t hget ht)) hlt]
     simp;omega
    ·rw[pO _ e t ht]
     refine Al (fun k f hf hfd=>?_) rfl
     rw[Nat.zero_add]
     have hkj:k≠j:=fun h=>by subst h;rw[hget] at hf;injection hf with hf;subst hf;exact ht hfd
     simp[hkj]
   have es_r:((fil g0 L 0 es).plan e.pl).r=(fil g0 (fun k=>L k||k ==j) 0 es).r:=by
    funext t
    by_cases ht:t ∈ e.c
    ·symm
     rw[pA]
     obtain ⟨o1,o2⟩:=hk.ownc j e t hget ht
     refine Ab (j:=j) hget (by simp) (by rw[Nat.zero_add];exact hj) (fun k hkj=>by simp[hkj]) (fun k f hlt hf hfd=>?_) rfl
     have:=pick t o1 k f hf hfd (by omega) (.inl o2)
     rw[Nat.zero_add,this]
     simp;omega
    ·rw[mC _ e t ht]
     refine zS (fun k f hf hfd=>?_) rfl
     rw[Nat.zero_add]
     have hkj:k≠j:=fun h=>by subst h;rw[hget] at hf;injection hf with hf;subst hf;exact ht hfd
     simp[hkj]
   have mk:∀x y:Look,x.s=y.s->x.h=y.h->x.r=y.r->x=y:=by
    intro x y h1 h2 h3
    cases x;cases y
    simp only at h1 h2 h3
    subst h1;subst h2;subst h3
    rfl
   exact mk _ _ es_s es_h es_r
  rw[hg] at hm'
  exact hm'
theorem De {l:List Bool} {j:Nat} (h:l[j]?=some false):(l.set j true).count false+1=l.count false:=by
 induction l generalizing j with
 | nil=>simp at h
 | cons b l ih =>
  cases j with
  | zero=>simp only[List.getElem?_cons_zero,Option.some.injEq] at h;subst h;simp
  | succ j =>
   simp only[List.getElem?_cons_succ] at h
   have:=ih h
   simp only[List.set_cons_succ,List.count_cons]
   omega
theorem Ln {C:Ctx} (hC:C.ok) {F:Fence} {n:Nat} (hW:oe F) {ops:Array Oper} {g0:Look} {es:List Ent} (hk:Chk es) (hlen:es.length=ops.size) (hat:∀(j:Nat) (o:Oper),ops[j]?=some o->∃e,At0 C N ops g0 es j o e) (hnd:∀(j:Nat) (o:Oper),ops[j]?=some o->nd o=true)
  {Q:Exit->Act->World->Prop} {E0:Env} (hQ:∀E' a',dW E0 E'->Keep E0 E'->Mod N E' a' (fil g0 (fun _=>true) 0 es)->Q .normal a' E'.w) (hP0:E0.P=C.P) :
  ∀(fuel:Nat) (listed:Array Bool) (a:Act) (E:Env),listed.size=ops.size->listed.toList.count false<=fuel->(∀(k:Nat) (e:Ent),es[k]?=some e->listed.getD k false=true->∀d ∈ e.deps,listed.getD d false=true)->dW E0 E->Keep E0 E ->
   Mod N E a (fil g0 (fun k=>listed.getD k false) 0 es)->wpAnyIn F n C.P .any ops Q fuel listed a E.w:=by
 have all:∀(listed:Array Bool),listed.size=ops.size->Region.ready .any ops listed=[]->∀j,j<ops.size->listed.getD j false=true:=by
  intro listed hsz hr j
  induction j using Nat.strongRecOn with
  | _ j ih =>
   intro hj
   cases hl:listed.getD j false with
   | true=>rfl
   | false =>
    exfalso
    have hoj:ops[j]?=some ops[j]:=Array.getElem?_eq_getElem hj
    obtain ⟨e,a1,_,_,_,a4⟩:=hat j _ hoj
    have:j ∈ Region.ready .any ops listed:=by
     refine mem_ready.2 ⟨?_,ops[j],hoj,fun ed hed hb=>?_⟩
     ·have hj':j<listed.size:=by omega
      simp only[Array.getD_eq_getD_getElem?,Array.getElem?_eq_getElem hj',Option.getD_some] at hl ⊢
      exact hl
     ·have hlt:=hk.lt j e a1 ed.on (by rw[a4];exact List.mem_map.2 ⟨ed,List.mem_filter.2 ⟨Array.mem_toList_iff.2 hed,hb⟩,rfl⟩)
      exact ih ed.on hlt (by omega)
    rw[hr] at this
    cases this
 have fin:∀(listed:Array Bool) (a:Act) (E:Env),listed.size=ops.size->Region.ready .any ops listed=[]->dW E0 E->Keep E0 E->Mod N E a (fil g0 (fun k=>listed.getD k false) 0 es)->Q .normal a E.w:=by
  intro listed a E hsz hr hs hkp hm
  refine hQ E a hs hkp ?_
  have hl:=all listed hsz hr
  have hT:∀(k:Nat) (e:Ent),es[k]?=some e->listed.getD k false=true:=fun k e hke=>hl k (by
   have:=(List.getElem?_eq_some_iff.1 hke).1
   omega)
  have:fil g0 (fun k=>listed.getD k false) 0 es=fil g0 (fun _=>true) 0 es:=by
   have mk:∀x y:Look,x.s=y.s->x.h=y.h->x.r=y.r->x=y:=by
    intro x y h1 h2 h3
    cases x;cases y
    simp only at h1 h2 h3
    subst h1;subst h2;subst h3
    rfl
   refine mk _ _ (funext fun t=>yw (fun k e hke _=>by rw[Nat.zero_add];exact hT k e hke) rfl) (funext fun t=>Al (fun k e hke _=>by rw[Nat.zero_add];exact hT k e hke) rfl) ?_
   exact funext fun t=>zS (fun k e hke _=>by rw[Nat.zero_add];exact hT k e hke) rfl
  rw[this] at hm
  exact hm
 intro fuel
 induction fuel with
 | zero =>
  intro listed a E hsz hc hdn hs hkp hm
  have hr:Region.ready .any ops listed=[]:=by
   rw[List.eq_nil_iff_forall_not_mem]
   intro j hj
   obtain ⟨h0,o,ho,_⟩:=mem_ready.1 hj
   have hlt:j<listed.size:=by
    rcases Nat.lt_or_ge j listed.size with h | h
    ·exact h
    ·simp[Array.getD_eq_getD_getElem?,Array.getElem?_eq_none h] at h0
   have:false ∈ listed.toList:=by
    rw[List.mem_iff_getElem?]
    refine ⟨j,?_⟩
    simp only[Array.getD_eq_getD_getElem?,Array.getElem?_eq_getElem hlt,Option.getD_some] at h0
    simp[hlt,h0]
   have:=List.count_pos_iff.2 this
   omega
  exact ⟨hr,fin listed a E hsz hr hs hkp hm⟩
 | succ fuel ih =>
  intro listed a E hsz hc hdn hs hkp hm
  refine ⟨fun hr=>fin listed a E hsz hr hs hkp hm,fun j hj=>?_⟩
  obtain ⟨h0,o,ho,hall⟩:=mem_ready.1 hj
  have hlt:j<listed.size:=by
   rcases Nat.lt_or_ge j listed.size with h | h
   ·exact h
   ·simp[Array.getD_eq_getD_getElem?,Array.getElem?_eq_none h] at h0
  have h0':listed.getD j false=false:=by
   simp only[Array.getD_eq_getD_getElem?,Array.getElem?_eq_getElem hlt,Option.getD_some] at h0 ⊢
   exact h0
  obtain ⟨e,he⟩:=hat j o ho
  have hd:∀d ∈ e.deps,listed.getD d false=true:=fun d hdm=>by
   rw[he.deps] at hdm
   obtain ⟨ed,h1,rfl⟩:=List.mem_map.1 hdm
   obtain ⟨h2,h3⟩:=List.mem_filter.1 h1
   exact hall ed (Array.mem_toList_iff.1 h2) h3
  have key:=Eh (K:=wpAnyIn F n C.P .any ops Q fuel (listed.setIfInBounds j true)) (Q:=Q) (X:=False) hC hk (L:=fun k=>listed.getD k false) hdn he h0' hd (hs.P.trans hP0) hm fun E' a' hs' hkp' hm'=>by
   have hf:(fun k=>listed.getD k false||k ==j)=fun k=>(listed.setIfInBounds j true).getD k false:=by
    funext k
    by_cases hkj:k=j
    ·subst hkj
     simp[Array.getD_eq_getD_getElem?,hlt]
    ·simp[Array.getD_eq_getD_getElem?,hkj,Array.getElem?_setIfInBounds_ne (Ne.symm hkj)]
   rw[hf] at hm'
   refine ih (listed.setIfInBounds j true) a' E' (by simpa using hsz) ?_ ?_ (hs.trans hs') (hkp.trans hkp') hm'
   ·have hl:listed.toList[j]?=some false:=by
     simp only[Array.getD_eq_getD_getElem?,Array.getElem?_eq_getElem hlt,Option.getD_some] at h0
     simp[hlt,h0]
    have:=De hl
    rw[Array.toList_setIfInBounds]
    omega
   ·intro k f hkf hlk d hdf
    have hlk':(listed.getD k false||k ==j)=true:=by rw[<-hlk];exact congrFun hf k
    have goal:(listed.getD d false||d ==j)=true:=by
     by_cases hkj:k=j
     ·subst hkj
      rw[he.get] at hkf
      injection hkf with hkf
      subst hkf
      rw[hd d hdf]
      rfl
     ·have:listed.getD k false=true:=by
       have hne:(k ==j)=false:=by simpa using hkj
       rwa [hne,Bool.or_false] at hlk'
      rw[hdn k f hkf this d hdf]
      rfl
    exact (congrFun hf d).symm.trans goal
  unfold wpOpIn
  simp only[ho]
  split at key
  ·rename_i hw
   rw[if_pos hw]
   exact HK hW (hnd j o ho) (key.resolve_right id)
  ·rename_i hw
   rw[if_neg hw]
   exact ⟨fun f _=>hW.fn f,key⟩
theorem IR {C:Ctx} (hC:C.ok) {F:Fence} {n:Nat} (hW:oe F) (aw:C.P.follows .mixedOrders=true) {id:Nat} {ops:Array Oper} {Q:Exit->Act->World->Prop} {σ σ':St} {es:List Ent} (h:DR C N ops ops.toList σ es σ') (hc:rL es 0 es=true) (hnd:sb ops.toList=true)
  (hP:E.P=C.P) (hm:Mod N E a σ.look) (hQ:∀E' a',dW E E'->Keep E E'->Mod N E' a' σ'.look->Q .normal a' E'.w):(Code.region id ops true).wpIn F n C.P Q a E.w:=by
 obtain ⟨h1,h2,h3⟩:=BO h
 have hk:=KE hc
 refine wpIn_region_any aw ?_
 obtain ⟨hm',hk0⟩:=GU hm (E.w.drawn+1)
 have hno:∀k,(Array.replicate ops.size false).getD k false=false:=fun k=>by
  simp only[Array.getD_eq_getD_getElem?,Array.getElem?_replicate]
  split<;>rfl
 have hf:(fun k=>(Array.replicate ops.size false).getD k false)=fun _=>false:=funext hno
 have none_:∀(l:List Ent) (i:Nat) (g:Look),fil g (fun _=>false) i l=g:=by
  intro l
  induction l with
  | nil=>intro i g;rfl
  | cons y l ih=>intro i g;exact ih (i+1) g
 refine Ln (E0:=E) hC hW hk (by simpa using h2) (fun j o ho=>h3 j o (by simpa using ho)) (fun j o ho=>CW hnd (Array.mem_toList_iff.2 (Array.mem_of_getElem? ho))) (fun E' a' hs hkp hm''=>hQ E' a' hs hkp ?_) hP ops.size _ a { E with w:={ E.w with drawn:=E.w.drawn+1 } } (by simp) (by simp) (fun k e _ hl=>by rw[hno] at hl;cases hl) rfl hk0 ?_
 ·rw[yV,<-h1] at hm''
  exact hm''
 ·rw[hf,none_]
  exact hm'
end
inductive Pat where
 | d (s:Sh)
 | row (t:TypeId) (e:Sh)
 | x (p:XP)
abbrev Pat.T:Pat->Type
 | .d s=>s.T
 | .row _ e=>List e.T
 | .x p=>p.T
abbrev pY:List Pat->Type->Type
 | [],X=>X
 | p ::r,X=>p.T×pY r X
def ji:(ps:List Pat)->{X:Type}->pY ps X->X
 | [],_,x=>x
 | _ ::r,_,x=>ji r x.2
def jP:(ps:List Pat)->{X:Type}->pY ps X->Nat->List At
 | [],_,_,_=>[]
 | .d s ::r,_,x,k=>Sh.cells s x.1++jP r x.2 k
 | .row _ _ ::r,_,x,k=>.row k ::jP r x.2 (k+1)
 | .x _ ::r,_,x,k=>.row k ::jP r x.2 (k+1)
def dX:(ps:List Pat)->{X:Type}->pY ps X->Nat->List (Nat×RowS)
 | [],_,_,_=>[]
 | .d _ ::r,_,x,k=>dX r x.2 k
 | .row t e ::r,_,x,k=>(k,.some ⟨t,e,x.1.length,x.1⟩) ::dX r x.2 (k+1)
 | .x p ::r,_,x,k=>(k,.x (p.mk x.1)) ::dX r x.2 (k+1)
def dV:List Pat->Nat
 | []=>0
 | .d _ ::r=>dV r
 | .row _ _ ::r=>dV r+1
 | .x _ ::r=>dV r+1
def kF (rk:Rk) (t:TypeId) (e:Sh):At->Option (List e.T)
 | .row q=>match rk q with
  | some (.some ri)=>match Nat.beq ri.t t,Sh.eq? ri.e e with
   | true,some ⟨h⟩=>some (h ▸ ri.l)
   | _,_=>none
  | _=>none
 | .v (.slice none 0 0)=>some []
 | _=>none
def xOf (rk:Rk) (p:XP):At->Option p.T
 | .row q=>match rk q with
  | some (.x y)=>p.get y
  | _=>none
 | .v (.slice none 0 0)=>p.nil
 | _=>none
def Dx:At->Option Nat
 | .row q=>some q
 | _=>none
def eJ (rk:Rk):(ps:List Pat)->List At->{X:Type}->X->Option (pY ps X)
 | [],[],_,y=>some y
 | [],_ ::_,_,_=>none
 | .d s ::r,l,_,y=>match s.take l with
  | some (x,l')=>match eJ rk r l' y with
   | some z=>some (x,z)
   | none=>none
  | none=>none
 | .row t e ::r,a ::l,_,y=>match kF rk t e a,eJ rk r l y with
  | some x,some z=>some (x,z)
  | _,_=>none
 | .row _ _ ::_,[],_,_=>none
 | .x p ::r,a ::l,_,y=>match xOf rk p a,eJ rk r l y with
  | some x,some z=>some (x,z)
  | _,_=>none
 | .x _ ::_,[],_,_=>none
def iE:List Pat->List At->List (Option Nat)
 | [],_=>[]
 | .d s ::r,l=>iE r (l.drop s.size)
 | .row _ _ ::r,a ::l=>Dx a ::iE r l
 | .row _ _ ::r,[]=>iE r []
 | .x _ ::r,a ::l=>Dx a ::iE r l
 | .x _ ::r,[]=>iE r []
inductive Plc where
 | slot (i:Nat) (ag:Bool)
 | blk (b:Nat)
 | row (q:Nat)
def oJ:Plc->List Pat->Nat
 | .row _,_=>0
 | _,ps=>dV ps
def fC:Plc->(ps:List Pat)->{X:Type}->pY ps X->Nat->List (Nat×RowS)
 | .row q,.row t e ::_,_,x,_=>[(q,.some ⟨t,e,x.1.length,x.1⟩)]
 | .row q,.x p ::_,_,x,_=>[(q,.x (p.mk x.1))]
 | .row _,_,_,_,_=>[]
 | .slot _ _,ps,_,x,k=>dX ps x k
 | .blk _,ps,_,x,k=>dX ps x k
def be:List (Plc×List Pat)->List Nat
 | []=>[]
 | (.row q,_) ::r=>q ::be r
 | (.slot _ _,_) ::r=>be r
 | (.blk _,_) ::r=>be r
abbrev TsR:List (Plc×List Pat)->Type
 | []=>Unit
 | p ::r=>pY p.2 (TsR r)
def eQ:(rh:List (Plc×List Pat))->TsR rh->Nat->List (Nat×Option SlotV)
 | [],_,_=>[]
 | (.slot i ag,ps) ::r,x,k=>(i,some ⟨none,.c ag (jP ps x k)⟩) ::eQ r (ji ps x) (k+dV ps)
 | (.blk _,ps) ::r,x,k=>eQ r (ji ps x) (k+dV ps)
 | (.row _,ps) ::r,x,k=>eQ r (ji ps x) k
def cM:(rh:List (Plc×List Pat))->TsR rh->Nat->List (Nat×List At)
 | [],_,_=>[]
 | (.slot _ _,ps) ::r,x,k=>cM r (ji ps x) (k+dV ps)
 | (.blk b,ps) ::r,x,k=>(b,jP ps x k) ::cM r (ji ps x) (k+dV ps)
 | (.row _,ps) ::r,x,k=>cM r (ji ps x) k
def cv:(rh:List (Plc×List Pat))->TsR rh->Nat->List (Nat×RowS)
 | [],_,_=>[]
 | (p,ps) ::r,x,k=>fC p ps x k++cv r (ji ps x) (k+oJ p ps)
def iT:List (Plc×List Pat)->Nat
 | []=>0
 | (p,ps) ::r=>oJ p ps+iT r
def mf (σ:St):Plc->Option (List At)
 | .slot i ag=>match eK σ.s i with
  | some ⟨none,.c ag' l⟩=>match ag ==ag' with
   | true=>some l
   | false=>none
  | _=>none
 | .blk b=>look σ.h b
 | .row q=>some [.row q]
def so (σ:St):(rh:List (Plc×List Pat))->Option (TsR rh)
 | []=>some ()
 | (p,ps) ::r=>match mf σ p,so σ r with
  | some l,some y=>eJ (look σ.r) ps l y
  | _,_=>none
def eg (σ:St):List (Plc×List Pat)->List (Option Nat)
 | []=>[]
 | (.row _,_) ::r=>eg σ r
 | (.slot i ag,ps) ::r=>match mf σ (.slot i ag) with
  | some l=>iE ps l++eg σ r
  | none=>eg σ r
 | (.blk b,ps) ::r=>match mf σ (.blk b) with
  | some l=>iE ps l++eg σ r
  | none=>eg σ r
structure Hd where
 sl:List (Nat×Bool×List Pat)
 bk:List (Nat×List Pat):=[]
 rw:List (Nat×Option Nat×Pat):=[]
def FSs:List (Nat×Bool×List Pat)->List (Plc×List Pat)
 | []=>[]
 | p ::r=>(.slot p.1 p.2.1,p.2.2) ::FSs r
def HT (σ:St):List (Nat×List Pat)->Option (List (Plc×List Pat))
 | []=>some []
 | p ::r=>match eK σ.s p.1,HT σ r with
  | some ⟨none,.c false [.ptr b 0]⟩,some l=>some ((.blk b,p.2) ::l)
  | _,_=>none
def Aw (σ:St):List (Nat×Option Nat×Pat)->Option (List (Plc×List Pat))
 | []=>some []
 | (i,none,p) ::r=>match eK σ.s i,Aw σ r with
  | some ⟨none,.c false [.row q]⟩,some l=>some ((.row q,[p]) ::l)
  | _,_=>none
 | (i,some o,p) ::r=>match eK σ.s i,Aw σ r with
  | some ⟨none,.c false [.ptr b 0]⟩,some l=>match look σ.h b with
   | some cs=>match cs[o]? with
    | some (.row q)=>some ((.row q,[p]) ::l)
    | _=>none
   | none=>none
  | _,_=>none
def Hd.at (hd:Hd) (σ:St):Option (List (Plc×List Pat)):=match HT σ hd.bk,Aw σ hd.rw with
 | some l,some m=>some (FSs hd.sl++(l++m))
 | _,_=>none
def dH:List (Option Nat)->List Nat
 | []=>[]
 | some q ::r=>q ::dH r
 | none ::r=>dH r
def bj:List (Plc×List Pat)->List Nat
 | []=>[]
 | (.slot _ _,_) ::r=>bj r
 | (.blk b,_) ::r=>b ::bj r
 | (.row _,_) ::r=>bj r
def lj {α:Type} (W:List Nat):List (Nat×α)->List (Nat×α)
 | []=>[]
 | p ::r=>match gp p.1 W with
  | true=>lj W r
  | false=>p ::lj W r
def bd {α:Type} (W:List Nat):List (Nat×α)->List Nat
 | []=>[]
 | p ::r=>match gp p.1 W with
  | true=>bd W r
  | false=>p.1 ::bd W r
def jl:List Nat->List (Nat×RowS)
 | []=>[]
 | q ::r=>(q,.none) ::jl r
def head (rh:List (Plc×List Pat)) (W:List Nat) (srcs:List Nat) (σ:St) (x:TsR rh):St :=
 {s:=eQ rh x σ.next++lj W σ.s,h:=cM rh x σ.next++σ.h,r:=cv rh x σ.next++(jl srcs++σ.r),next:=σ.next+iT rh,
  ro:=bd (bj rh) σ.h++σ.ro,roR:=bd (be rh++srcs) σ.r++σ.roR }
def nz:List Nat->Bool
 | []=>true
 | q ::r=>!gp q r&&nz r
def tw {α:Type} (l:List (Nat×α)) (k:Nat):Nat->Bool
 | 0=>true
 | n+1=>(match look l k with
  | none=>tw l (k+1) n
  | some _=>false)
def Jb {α:Type} (i:Nat):List (Nat×α)->Bool
 | []=>false
 | p ::r=>Nat.beq p.1 i||Jb i r
def sI {α:Type} (l:List (Nat×α)):List Nat->Bool
 | []=>true
 | i ::r=>Jb i l&&sI l r
def oj (σ:St):List (Nat×Option SlotV)->Bool
 | []=>true
 | (_,none) ::r=>oj σ r
 | (_,some s) ::r=>sI σ.h (F3 s.s)&&sI σ.r (yt s.s)&&oj σ r
def xC (σ:St):List (Nat×List At)->Bool
 | []=>true
 | p ::r=>sI σ.h (uF p.2)&&sI σ.r (mS p.2)&&xC σ r
def ff (rh:List (Plc×List Pat)) (W:List Nat) (srcs:List Nat) (σ:St):Bool :=
 oj σ (lj W σ.s)&&xC σ σ.h&&tw σ.r σ.next (iT rh)&&oS σ.ro (bj rh)&&oS σ.roR srcs&&nz (bj rh)&&(oS σ.roR (be rh)&&nz (be rh)&&sI σ.r (be rh)&&oS (be rh) srcs)
def Hk (rh:List (Plc×List Pat)) (roR:List Nat) (σ':St):Bool:=nz (dH (eg σ' rh))&&oS roR (dH (eg σ' rh))&&oS (be rh) (dH (eg σ' rh))
def iw (rh:List (Plc×List Pat)) (roR:List Nat) (σ':St):Option (TsR rh):=match Hk rh roR σ' with
 | true=>so σ' rh
 | false=>none
section
variable {N:Nat} {E:Env} {a:Act}
theorem wg {α:Type} {i:Nat}:∀{l:List (Nat×α)},Jb i l=true->(look l i).isSome=true
 | p ::r,h=>by
  simp only[Jb,Bool.or_eq_true] at h
  rw[ai]
  by_cases hp:i=p.1
  ·rw[if_pos hp];rfl
  ·rw[if_neg hp]
   refine wg (h.resolve_left fun h'=>hp ?_)
   have:p.1=i:=by simpa using h'
   exact this.symm
theorem iA {α:Type} {l:List (Nat×α)}:∀{r:List Nat},sI l r=true->∀i ∈ r,(look l i).isSome=true
 | j ::r,h,i,hi=>by
  simp only[sI,z10] at h
  rcases List.mem_cons.1 hi with rfl | hi
  ·exact wg h.1
  ·exact iA h.2 i hi
theorem aI {α:Type} {i:Nat}:∀{l m:List (Nat×α)},look (l++m) i=match look l i with | some x=>some x | none=>look m i
 | [],m=>rfl
 | p ::r,m=>by
  rw[List.cons_append,ai,ai]
  split
  ·rfl
  ·exact aI
theorem pQ {α:Type} {W:List Nat} {i:Nat}:∀{l:List (Nat×α)} {x:α},look (lj W l) i=some x->look l i=some x/\i ∉ W
 | [],x,h=>by simp[lj,look] at h
 | p ::r,x,h=>by
  simp only[lj] at h
  split at h
  ·rename_i hm
   obtain ⟨h1,h2⟩:=pQ h
   refine ⟨?_,h2⟩
   rw[ai,if_neg (fun e=>h2 (by rw[e];exact bS.1 hm))]
   exact h1
  ·rename_i hm
   rw[ai] at h ⊢
   split at h
   ·rename_i e
    exact ⟨by rw[if_pos e];exact h,fun hw=>by rw[e,<-bS,hm] at hw;cases hw⟩
   ·rename_i e
    rw[if_neg e]
    exact pQ h
theorem jK {α:Type} {W:List Nat} {i:Nat} (hi:i ∉ W):∀{l:List (Nat×α)},look (lj W l) i=look l i
 | []=>rfl
 | p ::r=>by
  simp only[lj]
  split
  ·rename_i hm
   rw[ai,if_neg (fun e=>hi (by rw[e];exact bS.1 hm))]
   exact jK hi
  ·rw[ai,ai,jK hi]
theorem kp {α:Type} {W:List Nat} {i:Nat}:∀{l:List (Nat×α)},i ∉ W->(look l i).isSome=true->i ∈ bd W l
 | [],_,h=>by cases h
 | p ::r,hw,h=>by
  rw[ai] at h
  simp only[bd]
  split at h
  ·rename_i e
   subst e
   split
   ·rename_i hm;exact absurd (bS.1 hm) hw
   ·simp
  ·split
   ·exact kp hw h
   ·exact List.mem_cons_of_mem _ (kp hw h)
theorem iu {i:Nat}:∀{l:List Nat},look (jl l) i=if i ∈ l then some .none else none
 | []=>rfl
 | q ::r=>by
  simp only[jl]
  rw[ai,iu]
  by_cases h:i=q
  ·simp[h]
  ·simp[h]
theorem ja {α:Type} {l:List (Nat×α)}:∀{n k:Nat},tw l k n=true->∀j,k<=j->j<k+n->look l j=none
 | 0,k,_,j,h1,h2=>by omega
 | n+1,k,h,j,h1,h2=>by
  simp only[tw] at h
  split at h
  ·rename_i hk
   by_cases e:j=k
   ·rw[e];exact hk
   ·exact ja h j (by omega) (by omega)
  ·cases h
theorem nc:∀{l:List Nat},nz l=true->l.Nodup
 | [],_=>List.nodup_nil
 | q ::r,h=>by
  simp only[nz,z10] at h
  exact List.nodup_cons.2 ⟨nt h.1,nc h.2⟩
theorem ka:∀{ps:List Pat} {X:Type} {x:pY ps X} {k i:Nat} {ri:RowS},look (dX ps x k) i=some ri->k<=i/\i<k+dV ps
 | [],_,_,_,_,_,h=>by simp[dX,look] at h
 | .d _ ::r,_,x,k,i,ri,h=>by
  simp only[dX,dV] at h ⊢
  exact ka h
 | .row t e ::r,_,x,k,i,ri,h=>by
  simp only[dX,dV] at h ⊢
  rw[ai] at h
  split at h
  ·rename_i e;omega
  ·have:=ka h;omega
 | .x p ::r,_,x,k,i,ri,h=>by
  simp only[dX,dV] at h ⊢
  rw[ai] at h
  split at h
  ·rename_i e;omega
  ·have:=ka h;omega
theorem iC:∀{ps:List Pat} {X:Type} {x:pY ps X} {k i:Nat},(k<=i/\i<k+dV ps)->(look (dX ps x k) i).isSome=true
 | [],_,_,_,_,h=>by simp only[dV] at h;omega
 | .d _ ::r,_,x,k,i,h=>by
  simp only[dX,dV] at h ⊢
  exact iC h
 | .row t e ::r,_,x,k,i,h=>by
  simp only[dX,dV] at h ⊢
  rw[ai]
  split
  ·rfl
  ·exact iC (by omega)
 | .x p ::r,_,x,k,i,h=>by
  simp only[dX,dV] at h ⊢
  rw[ai]
  split
  ·rfl
  ·exact iC (by omega)
theorem pR:∀{rh:List (Plc×List Pat)} {x:TsR rh} {k i:Nat},(look (cv rh x k) i).isSome=true->(k<=i/\i<k+iT rh)\/i ∈ be rh
 | [],_,_,_,h=>by simp[cv,look] at h
 | (p,ps) ::r,x,k,i,h=>by
  simp only[cv] at h
  rw[aI] at h
  cases hq:look (fC p ps x k) i with
  | some ri =>
   cases p with
   | row q =>
    refine .inr ?_
    match ps,x,hq with
    | .row t e ::_,x,hq =>
     simp only[fC] at hq
     rw[ai] at hq
     split at hq
     ·rename_i e';rw[e'];simp[be]
     ·cases hq
    | .x p ::_,x,hq =>
     simp only[fC] at hq
     rw[ai] at hq
     split at hq
     ·rename_i e';rw[e'];simp[be]
     ·cases hq
    | [],x,hq=>simp[fC,look] at hq
    | .d _ ::_,x,hq=>simp[fC,look] at hq
   | slot j ag =>
    have:=ka (ps:=ps) (x:=x) hq
    simp only[iT,oJ]
    exact .inl (by omega)
   | blk b =>
    have:=ka (ps:=ps) (x:=x) hq
    simp only[iT,oJ]
    exact .inl (by omega)
  | none =>
   rw[hq] at h
   simp only at h
   rcases pR (rh:=r) h with h1 | h1
   ·simp only[iT]
    exact .inl (by omega)
   ·refine .inr ?_
    cases p<;>simp[be,h1]
theorem oD:∀{rh:List (Plc×List Pat)} {x:TsR rh} {k i:Nat},(k<=i/\i<k+iT rh)->(look (cv rh x k) i).isSome=true
 | [],_,_,_,h=>by simp only[iT] at h;omega
 | (p,ps) ::r,x,k,i,h=>by
  simp only[cv,iT] at h ⊢
  rw[aI]
  cases hq:look (fC p ps x k) i with
  | some ri=>rfl
  | none =>
   simp only
   refine oD (rh:=r) ?_
   cases p with
   | row q=>simp only[oJ] at h ⊢;omega
   | slot j ag =>
    simp only[oJ] at h ⊢
    have h2:¬ (k<=i/\i<k+dV ps):=fun hc=>by have:=iC (x:=x) hc;simp only[fC] at hq;rw[hq] at this;cases this
    omega
   | blk b =>
    simp only[oJ] at h ⊢
    have h2:¬ (k<=i/\i<k+dV ps):=fun hc=>by have:=iC (x:=x) hc;simp only[fC] at hq;rw[hq] at this;cases this
    omega
def eI:List (Option Nat)->Nat->Nat->Option (Option Nat)
 | [],_,_=>none
 | o ::r,k,i=>if i=k then some o else eI r (k+1) i
theorem gW {l m:List (Option Nat)} {k i:Nat}:eI (l++m) k i=match eI l k i with | some o=>some o | none=>eI m (k+l.length) i:=by
 induction l generalizing k with
 | nil=>rfl
 | cons o l ih =>
  simp only[List.cons_append,eI]
  split
  ·rfl
  ·rw[ih,List.length_cons,show k+1+l.length=k+(l.length+1) by omega]
theorem dY {l:List (Option Nat)} {k i:Nat} {o:Option Nat} (h:eI l k i=some o):k<=i/\l[i - k]?=some o:=by
 induction l generalizing k with
 | nil=>cases h
 | cons p l ih =>
  simp only[eI] at h
  split at h
  ·rename_i e
   injection h with h
   subst h;subst e
   exact ⟨Nat.le_refl _,by simp⟩
  ·obtain ⟨h1,h2⟩:=ih h
   refine ⟨by omega,?_⟩
   rw[show i - k=(i - (k+1))+1 by omega]
   simpa using h2
theorem jA {l:List (Option Nat)}:∀{i:Nat} {q:Nat},l[i]?=some (some q)->q ∈ dH l:=by
 induction l with
 | nil=>intro i q h;simp at h
 | cons o l ih =>
  intro i q h
  cases i with
  | zero =>
   simp only[List.getElem?_cons_zero,Option.some.injEq] at h
   subst h
   simp[dH]
  | succ i =>
   simp only[List.getElem?_cons_succ] at h
   have:=ih h
   cases o with
   | none=>exact this
   | some p=>exact List.mem_cons_of_mem _ this
theorem CX {l:List (Option Nat)} (hn:(dH l).Nodup):∀{i j q:Nat},l[i]?=some (some q)->l[j]?=some (some q)->i=j:=by
 induction l with
 | nil=>intro i j q h;simp at h
 | cons o l ih =>
  intro i j q hi hj
  have hn':(dH l).Nodup:=by
   cases o with
   | none=>exact hn
   | some p=>exact (List.nodup_cons.1 hn).2
  cases i with
  | zero =>
   cases j with
   | zero=>rfl
   | succ j =>
    simp only[List.getElem?_cons_zero,Option.some.injEq,List.getElem?_cons_succ] at hi hj
    subst hi
    exact absurd (jA hj) (List.nodup_cons.1 hn).1
  | succ i =>
   cases j with
   | zero =>
    simp only[List.getElem?_cons_zero,Option.some.injEq,List.getElem?_cons_succ] at hi hj
    subst hj
    exact absurd (jA hi) (List.nodup_cons.1 hn).1
   | succ j =>
    simp only[List.getElem?_cons_succ] at hi hj
    rw[ih hn' hi hj]
def pick {α:Type} (f:Nat->α) (d:α) (i:Nat):Option (Option Nat)->α
 | some (some q)=>f q
 | some none=>d
 | none=>f i
def Env.re (E:Env) (h:Nat->Prop) (r:Nat->Prop) (src:Nat->Option (Option Nat)):Env :=
 {E with L:=h,R:=r,ρ:=fun i=>pick E.ρ (.slice none 0 0) i (src i),φ:=fun i=>pick E.φ (fun _=>False) i (src i),ι:=fun i=>pick E.ι (fun _=>undef) i (src i),ν:=fun i=>pick E.ν 0 i (src i) }
theorem fF.re {h r:Nat->Prop} {src:Nat->Option (Option Nat)} {x:At} {v:Value} (hv:fF E x v) (hh:∀i ∈ D1 x,h i) (hr:∀i ∈ sE x,r i/\src i=none):fF (E.re h r src) x v:=by
 cases x with
 | u=>trivial
 | v _=>exact hv
 | ptr b o=>exact ⟨hv.1,hh b (by simp[D1])⟩
 | clo g cap=>exact ⟨hv.1,fun p hp=>hh p.1 (List.mem_map.2 ⟨p,hp,rfl⟩)⟩
 | sl _ _=>exact hv
 | row q =>
  obtain ⟨h1,h2,h3⟩:=hv
  obtain ⟨h4,h5⟩:=hr q (by simp[sE])
  exact ⟨by simp only[Env.re,h5,pick];exact h1,h4,h3⟩
 | ae b _ _ _ _ _=>exact ⟨hv.1,hh b (by simp[D1])⟩
 | sn _ _=>exact hv
 | rf _ _ _=>exact hv
 | re q i sz off =>
  obtain ⟨g,h1,h2,h3⟩:=hv
  obtain ⟨h4,h5⟩:=hr q (by simp[sE])
  exact ⟨g,by simp only[Env.re,h5,pick];exact h1,h2,h4⟩
 | sub q lo hi sz =>
  obtain ⟨⟨A,c,h1,h2⟩,h3⟩:=hv
  obtain ⟨h4,h5⟩:=hr q (by simp[sE])
  exact ⟨⟨A,c,h1,fun hl=>by simp only[Env.re,h5,pick];exact h2 hl⟩,h4⟩
 | ir q i =>
  obtain ⟨h1,h2,h3,h6⟩:=hv
  obtain ⟨h4,h5⟩:=hr q (by simp[sE])
  exact ⟨by simp only[Env.re,h5,pick];exact h1,h4,by simp only[Env.re,h5,pick];exact h3,h6⟩
 | ie q i j sz off =>
  obtain ⟨g,h1,h2,h3,h6⟩:=hv
  obtain ⟨h4,h5⟩:=hr q (by simp[sE])
  exact ⟨g,by simp only[Env.re,h5,pick];exact h1,h2,h4,by simp only[Env.re,h5,pick];exact h6⟩
 | fn _ _ _=>exact hv
theorem bC.re {h r:Nat->Prop} {src:Nat->Option (Option Nat)}:∀{l:List At} {vs:List Value},bC E l vs->(∀i ∈ uF l,h i)->(∀i ∈ mS l,r i/\src i=none)->bC (E.re h r src) l vs
 | [],[],_,_,_=>trivial
 | _ ::_,_ ::_,hv,hh,hr=>⟨fF.re hv.1 (fun i hi=>hh i (List.mem_append_left _ hi)) (fun i hi=>hr i (List.mem_append_left _ hi)),bC.re hv.2 (fun i hi=>hh i (List.mem_append_right _ hi)) (fun i hi=>hr i (List.mem_append_right _ hi))⟩
 | [],_ ::_,hv,_,_=>hv.elim
 | _ ::_,[],hv,_,_=>hv.elim
theorem fG.re {h r:Nat->Prop} {src:Nat->Option (Option Nat)}:∀{l:List (Bool×List At)} {vs:List Value},fG E l vs->(∀i ∈ KS l,h i)->(∀i ∈ EQ l,r i/\src i=none)->fG (E.re h r src) l vs
 | [],[],_,_,_=>trivial
 | _ ::_,_ ::_,⟨⟨cs,h1,h2,h3⟩,hv⟩,hh,hr=>⟨⟨cs,h1,bC.re h2 (fun i hi=>hh i (List.mem_append_left _ hi)) (fun i hi=>hr i (List.mem_append_left _ hi)),h3⟩,fG.re hv (fun i hi=>hh i (List.mem_append_right _ hi)) (fun i hi=>hr i (List.mem_append_right _ hi))⟩
 | [],_ ::_,hv,_,_=>hv.elim
 | _ ::_,[],hv,_,_=>hv.elim
theorem bv.re {h r:Nat->Prop} {src:Nat->Option (Option Nat)} {s:SV} {v:Value} (hv:bv E s v) (hh:∀i ∈ F3 s,h i) (hr:∀i ∈ yt s,r i/\src i=none):bv (E.re h r src) s v:=by
 cases s with
 | c ag l=>obtain ⟨cs,h1,h2,h3⟩:=hv;exact ⟨cs,h1,bC.re h2 hh hr,h3⟩
 | tup l=>obtain ⟨vs,h1,h2⟩:=hv;exact ⟨vs,h1,fG.re h2 hh hr⟩
theorem fx.re {h r:Nat->Prop} {src:Nat->Option (Option Nat)} {s:SlotV} {v:Value} (hv:fx E s v) (hh:∀i ∈ F3 s.s,h i) (hr:∀i ∈ yt s.s,r i/\src i=none):fx (E.re h r src) s v:=by
 unfold fx at *
 split at hv
 ·exact bv.re hv hh hr
 ·exact ⟨fun hc=>bv.re (hv.1 hc) hh hr,hv.2⟩
theorem lP:∀{s:Sh} {x:s.T},uF (s.cells x)=[]/\mS (s.cells x)=[]
 | .int _,_=>⟨rfl,rfl⟩
 | .bool,_=>⟨rfl,rfl⟩
 | .str,_=>⟨rfl,rfl⟩
 | .sl _,_=>⟨rfl,rfl⟩
 | .pair a b,x=>by
  have ha:=lP (s:=a) (x:=x.1)
  have hb:=lP (s:=b) (x:=x.2)
  have app1:∀l m:List At,uF (l++m)=uF l++uF m:=fun l m=>by induction l with | nil=>rfl | cons y l ih=>simp[uF,ih]
  have app2:∀l m:List At,mS (l++m)=mS l++mS m:=fun l m=>by induction l with | nil=>rfl | cons y l ih=>simp[mS,ih]
  simp only[Sh.cells,app1,app2,ha,hb,List.append_nil,and_self]
 | .agg e,x=>lP (s:=e) (x:=x)
 | .ref,_=>⟨rfl,rfl⟩
theorem jH:∀{s:Sh} {l rest:List At} {x:s.T},s.take l=some (x,rest)->rest=l.drop s.size
 | .int k,l,rest,x,h=>by
  simp only[Sh.take,sU] at h
  split at h
  ·split at h
   ·simp only[Option.some.injEq,Prod.mk.injEq] at h;rw[<-h.2];rfl
   ·cases h
  ·cases h
 | .bool,l,rest,x,h=>by
  simp only[Sh.take,qD] at h
  split at h
  ·simp only[Option.some.injEq,Prod.mk.injEq] at h;rw[<-h.2];rfl
  ·cases h
 | .str,l,rest,x,h=>by
  simp only[Sh.take,sW] at h
  split at h
  ·simp only[Option.some.injEq,Prod.mk.injEq] at h;rw[<-h.2];rfl
  ·cases h
 | .sl e,l,rest,x,h=>by
  simp only[Sh.take,wV] at h
  split at h
  ·split at h
   ·simp only[Option.some.injEq,Prod.mk.injEq] at h;rw[<-h.2];rfl
   ·cases h
  ·split at h
   ·simp only[Option.some.injEq,Prod.mk.injEq] at h;rw[<-h.2];rfl
   ·cases h
  ·simp only[Option.some.injEq,Prod.mk.injEq] at h;rw[<-h.2];rfl
  ·cases h
 | .pair a b,l,rest,x,h=>by
  simp only[Sh.take] at h
  split at h
  ·rename_i y r hy
   split at h
   ·rename_i z r' hz
    simp only[Option.some.injEq,Prod.mk.injEq] at h
    rw[<-h.2,jH hz,jH hy,List.drop_drop]
    rfl
   ·cases h
  ·cases h
 | .agg e,l,rest,x,h=>jH (s:=e) h
 | .ref,_,_,_,h=>by cases h
theorem jC {σ:St} (hm:MemOk E σ.look) {h r:Nat->Prop} {src:Nat->Option (Option Nat)}:∀{ps:List Pat} {l:List At} {vs:List Value} {X:Type} {y:X} {z:pY ps X} {k:Nat},eJ (look σ.r) ps l y=some z->bC E l vs ->
  (∀j o,eI (iE ps l) k j=some o->r j/\src j=some o)->bC (E.re h r src) (jP ps z k) vs/\ji ps z=y/\(iE ps l).length=dV ps
 | [],[],[],_,_,z,k,hz,_,_=>by
  simp only[eJ,Option.some.injEq] at hz
  exact ⟨trivial,hz.symm,rfl⟩
 | [],[],_ ::_,_,_,_,_,_,hr,_=>hr.elim
 | [],_ ::_,_,_,_,_,_,hz,_,_=>by simp[eJ] at hz
 | .d s ::ps,l,vs,X,y,z,k,hz,hr,hs=>by
  simp only[eJ] at hz
  split at hz
  ·rename_i x l' hx
   split at hz
   ·rename_i w hw
    injection hz with hz
    subst hz
    obtain ⟨c1,c2,rfl,hd,h2⟩:=cK hx hr
    have e:=jH hx
    simp only[iE,<-e] at hs ⊢
    obtain ⟨i1,i2,i3⟩:=jC hm (h:=h) (r:=r) (src:=src) hw h2 hs
    have hc:bC (E.re h r src) (s.cells x) c1:=bC.re hd.rel (fun i hi=>by rw[lP.1] at hi;cases hi) (fun i hi=>by rw[lP.2] at hi;cases hi)
    exact ⟨hc.append i1,i2,i3⟩
   ·cases hz
  ·cases hz
 | .row t e ::ps,a ::l,vs,X,y,z,k,hz,hr,hs=>by
  simp only[eJ] at hz
  split at hz
  ·rename_i x w hx hw
   injection hz with hz
   subst hz
   match vs,hr with
   | v ::vs,hr =>
    simp only[iE] at hs ⊢
    obtain ⟨i1,i2,i3⟩:=jC hm (h:=h) (r:=r) (src:=src) (k:=k+1) hw hr.2 fun j o hj=>hs j o (by
     simp only[eI]
     rw[if_neg (fun e=>by have:=(dY hj).1;omega)]
     exact hj)
    obtain ⟨h1,h2⟩:=hs k (Dx a) (by simp[eI])
    refine ⟨⟨?_,i1⟩,i2,by simp[dV,i3]⟩
    have hra:=hr.1
    show v=pick E.ρ (.slice none 0 0) k (src k)/\r k/\v.oneCell'=true
    rw[h2]
    unfold kF at hx
    split at hx
    ·rename_i q
     obtain ⟨g1,g2,g3⟩:=hra
     exact ⟨g1,h1,g3⟩
    ·have g1:v=.slice none 0 0:=hra
     subst g1
     exact ⟨rfl,h1,rfl⟩
    ·cases hx
  ·cases hz
 | .row _ _ ::_,[],_,_,_,_,_,hz,_,_=>by simp[eJ] at hz
 | .x p ::ps,a ::l,vs,X,y,z,k,hz,hr,hs=>by
  simp only[eJ] at hz
  split at hz
  ·rename_i x w hx hw
   injection hz with hz
   subst hz
   match vs,hr with
   | v ::vs,hr =>
    simp only[iE] at hs ⊢
    obtain ⟨i1,i2,i3⟩:=jC hm (h:=h) (r:=r) (src:=src) (k:=k+1) hw hr.2 fun j o hj=>hs j o (by
     simp only[eI]
     rw[if_neg (fun e=>by have:=(dY hj).1;omega)]
     exact hj)
    obtain ⟨h1,h2⟩:=hs k (Dx a) (by simp[eI])
    refine ⟨⟨?_,i1⟩,i2,by simp[dV,i3]⟩
    have hra:=hr.1
    show v=pick E.ρ (.slice none 0 0) k (src k)/\r k/\v.oneCell'=true
    rw[h2]
    unfold xOf at hx
    split at hx
    ·rename_i q
     obtain ⟨g1,g2,g3⟩:=hra
     exact ⟨g1,h1,g3⟩
    ·have g1:v=.slice none 0 0:=hra
     subst g1
     exact ⟨rfl,h1,rfl⟩
    ·cases hx
  ·cases hz
 | .x _ ::_,[],_,_,_,_,_,hz,_,_=>by simp[eJ] at hz
def wI (σ:St) (o:Option Nat):RowS->Prop
 | .some ri=>(∃q n,o=some q/\look σ.r q=some (.some ⟨ri.t,ri.e,n,ri.l⟩)/\ri.n=ri.l.length)\/(o=none/\ri.l=[]/\ri.n=ri.l.length)
 | .x x=>(∃q,o=some q/\look σ.r q=some (.x x))\/(o=none/\∃t s ti e,x=.tab t s [] ti e [])
 | .none=>False
theorem Ai {σ:St} {rk:Rk} (hrk:rk=look σ.r) {p:XP} {a:At} {x:p.T} (hx:xOf rk p a=some x):wI σ (Dx a) (.x (p.mk x)):=by
 unfold xOf at hx
 split at hx
 ·rename_i q
  split at hx
  ·rename_i y hy
   have:=XP.get_mk hx
   subst this
   exact .inl ⟨q,rfl,by rw[<-hrk];exact hy⟩
  ·cases hx
 ·cases p with
  | tab t s ti e =>
   injection hx with hx
   subst hx
   exact .inr ⟨rfl,t,s,ti,e,rfl⟩
  | set _ _=>cases hx
  | map _ _ _=>cases hx
 ·cases hx
theorem tX {σ:St} {rk:Rk} (hrk:rk=look σ.r) {t:TypeId} {e:Sh} {a:At} {x:List e.T} (hx:kF rk t e a=some x):wI σ (Dx a) (.some ⟨t,e,x.length,x⟩):=by
 unfold kF at hx
 split at hx
 ·rename_i q
  split at hx
  ·rename_i ri hri
   split at hx
   ·rename_i he ht _
    obtain ⟨rt,re,rn,rl⟩:=ri
    simp only at he ht
    subst he
    have ht:rt=t:=by simpa using ht
    subst ht
    injection hx with hx
    subst hx
    exact .inl ⟨q,rn,rfl,by rw[<-hrk];exact hri,rfl⟩
   ·cases hx
  ·cases hx
 ·injection hx with hx
  subst hx
  exact .inr ⟨rfl,rfl,rfl⟩
 ·cases hx
theorem lU {σ:St} {rk:Rk} (hrk:rk=look σ.r):∀{ps:List Pat} {l:List At} {X:Type} {y:X} {z:pY ps X} {k:Nat},eJ rk ps l y=some z->∀i ri,look (dX ps z k) i=some ri ->
  ∃o,eI (iE ps l) k i=some o/\wI σ o ri
 | [],_,_,_,_,_,_,i,ri,h=>by simp[dX,look] at h
 | .d s ::ps,l,X,y,z,k,hz,i,ri,h=>by
  simp only[eJ] at hz
  split at hz
  ·rename_i x l' hx
   split at hz
   ·rename_i w hw
    injection hz with hz
    subst hz
    have e:=jH hx
    simp only[iE,<-e]
    exact lU hrk hw i ri h
   ·cases hz
  ·cases hz
 | .row t e ::ps,a ::l,X,y,z,k,hz,i,ri,h=>by
  simp only[eJ] at hz
  split at hz
  ·rename_i x w hx hw
   injection hz with hz
   subst hz
   simp only[dX] at h
   rw[ai] at h
   simp only[iE,eI]
   split at h
   ·rename_i hik
    injection h with h
    subst h
    rw[if_pos hik]
    exact ⟨_,rfl,tX hrk hx⟩
   ·rename_i hik
    rw[if_neg hik]
    exact lU hrk hw i ri h
  ·cases hz
 | .row _ _ ::_,[],_,_,_,_,hz,_,_,_=>by simp[eJ] at hz
 | .x p ::ps,a ::l,X,y,z,k,hz,i,ri,h=>by
  simp only[eJ] at hz
  split at hz
  ·rename_i x w hx hw
   injection hz with hz
   subst hz
   simp only[dX] at h
   rw[ai] at h
   simp only[iE,eI]
   split at h
   ·rename_i hik
    injection h with h
    subst h
    rw[if_pos hik]
    exact ⟨_,rfl,Ai hrk hx⟩
   ·rename_i hik
    rw[if_neg hik]
    exact lU hrk hw i ri h
  ·cases hz
 | .x _ ::_,[],_,_,_,_,hz,_,_,_=>by simp[eJ] at hz
end
section
variable {N:Nat} {E E0:Env} {a a0:Act}
theorem xJ {σ:St} (hm:Mod N E a σ.look) {i:Nat} {ag:Bool} {l:List At} (h:mf σ (.slot i ag)=some l):∃v cs,a.tmps[i]?=some v/\v=mkV ag cs/\bC E l cs/\(ag=false->cs.length=1):=by
 simp only[mf] at h
 split at h
 ·rename_i ag' l' hs
  split at h
  ·rename_i hag
   have hag:ag=ag':=by simpa using hag
   subst hag
   injection h with h
   subst h
   obtain ⟨v,hv,hr⟩:=hm.slots i _ hs
   obtain ⟨cs,h1,h2,h3⟩:=(hr:fe E ag l' v)
   exact ⟨v,cs,hv,h1,h2,h3⟩
  ·cases h
 ·cases h
theorem iB {rk:Rk}:∀{ps:List Pat} {l:List At} {X:Type} {y:X} {z:pY ps X},eJ rk ps l y=some z->ji ps z=y/\(iE ps l).length=dV ps
 | [],[],_,_,z,hz=>by
  simp only[eJ,Option.some.injEq] at hz
  exact ⟨hz.symm,rfl⟩
 | [],_ ::_,_,_,_,hz=>by simp[eJ] at hz
 | .d s ::ps,l,X,y,z,hz=>by
  simp only[eJ] at hz
  split at hz
  ·rename_i x l' hx
   split at hz
   ·rename_i w hw
    injection hz with hz
    subst hz
    have e:=jH hx
    simp only[iE,<-e]
    exact iB (ps:=ps) hw
   ·cases hz
  ·cases hz
 | .row t e ::ps,a ::l,X,y,z,hz=>by
  simp only[eJ] at hz
  split at hz
  ·rename_i x w hx hw
   injection hz with hz
   subst hz
   obtain ⟨h1,h2⟩:=iB (ps:=ps) hw
   exact ⟨h1,by simp[iE,dV,h2]⟩
  ·cases hz
 | .row _ _ ::_,[],_,_,_,hz=>by simp[eJ] at hz
 | .x p ::ps,a ::l,X,y,z,hz=>by
  simp only[eJ] at hz
  split at hz
  ·rename_i x w hx hw
   injection hz with hz
   subst hz
   obtain ⟨h1,h2⟩:=iB (ps:=ps) hw
   exact ⟨h1,by simp[iE,dV,h2]⟩
  ·cases hz
 | .x _ ::_,[],_,_,_,hz=>by simp[eJ] at hz
theorem lw {σ:St} (hm:Mod N E a σ.look) {h r:Nat->Prop} {src:Nat->Option (Option Nat)}:∀{rh:List (Plc×List Pat)} {x:TsR rh} {k:Nat},so σ rh=some x ->
  (∀j o,eI (eg σ rh) k j=some o->r j/\src j=some o)->(eg σ rh).length=iT rh/\(∀i t,look (eQ rh x k) i=some (some t)->∃v,a.tmps[i]?=some v/\fx (E.re h r src) t v) /\
  (∀i l,look (cM rh x k) i=some l->∃l',look σ.h i=some l'/\∀cs,bC E l' cs->bC (E.re h r src) l cs)
 | [],x,k,_,_=>⟨rfl,fun i t h=>by simp[eQ,look] at h,fun i l h=>by simp[cM,look] at h⟩
 | (p,ps) ::rh,x,k,hx,hs=>by
  simp only[so] at hx
  split at hx
  ·rename_i l y hl hy
   cases p with
   | row q =>
    obtain ⟨g2,_⟩:=iB (ps:=ps) hx
    simp only[eg] at hs ⊢
    have ih:=lw hm (h:=h) (r:=r) (src:=src) (k:=k) hy hs
    rw[<-g2] at ih
    obtain ⟨j1,j2,j3⟩:=ih
    exact ⟨by rw[j1];simp[iT,oJ],j2,j3⟩
   | slot i ag =>
    simp only[eg,hl] at hs ⊢
    have hs1:∀j o,eI (iE ps l) k j=some o->r j/\src j=some o:=fun j o hj=>hs j o (by rw[gW,hj])
    obtain ⟨v,cs,h1,h2,h3,h4⟩:=xJ hm hl
    obtain ⟨g1,g2,g3⟩:=jC hm.memOk (h:=h) (r:=r) (src:=src) (k:=k) hx h3 hs1
    have hs2:∀j o,eI (eg σ rh) (k+dV ps) j=some o->r j/\src j=some o:=fun j o hj=>hs j o (by
     rw[gW]
     cases hq:eI (iE ps l) k j with
     | none=>simp only[g3];exact hj
     | some o' =>
      have e1:=(dY hj).1
      obtain ⟨_,e3⟩:=dY hq
      have:=(List.getElem?_eq_some_iff.1 e3).1
      omega)
    have ih:=lw hm (h:=h) (r:=r) (src:=src) (k:=k+dV ps) hy hs2
    rw[<-g2] at ih
    obtain ⟨j1,j2,j3⟩:=ih
    refine ⟨by rw[List.length_append,g3,j1];rfl,fun i' t ht=>?_,j3⟩
    simp only[eQ] at ht
    rw[ai] at ht
    split at ht
    ·rename_i e
     subst e
     simp only[Option.some.injEq] at ht
     subst ht
     exact ⟨v,h1,(⟨cs,h2,g1,h4⟩:fe _ ag _ v)⟩
    ·exact j2 i' t ht
   | blk b =>
    simp only[eg,hl] at hs ⊢
    have hs1:∀j o,eI (iE ps l) k j=some o->r j/\src j=some o:=fun j o hj=>hs j o (by rw[gW,hj])
    have hb:look σ.h b=some l:=hl
    obtain ⟨_,cs0,t0,_,h3,_⟩:=hm.blks b l hb
    obtain ⟨_,g2,g3⟩:=jC hm.memOk (h:=h) (r:=r) (src:=src) (k:=k) hx h3 hs1
    have hs2:∀j o,eI (eg σ rh) (k+dV ps) j=some o->r j/\src j=some o:=fun j o hj=>hs j o (by
     rw[gW]
     cases hq:eI (iE ps l) k j with
     | none=>simp only[g3];exact hj
     | some o' =>
      have e1:=(dY hj).1
      obtain ⟨_,e3⟩:=dY hq
      have:=(List.getElem?_eq_some_iff.1 e3).1
      omega)
    have ih:=lw hm (h:=h) (r:=r) (src:=src) (k:=k+dV ps) hy hs2
    rw[<-g2] at ih
    obtain ⟨j1,j2,j3⟩:=ih
    refine ⟨by rw[List.length_append,g3,j1];rfl,j2,fun i l' ht=>?_⟩
    simp only[cM] at ht
    rw[ai] at ht
    split at ht
    ·rename_i e
     subst e
     injection ht with ht
     subst ht
     exact ⟨l,hb,fun cs hcs=>(jC hm.memOk (h:=h) (r:=r) (src:=src) (k:=k) hx hcs hs1).1⟩
    ·exact j3 i l' ht
  ·cases hx
theorem pD {σ:St}:∀{rh:List (Plc×List Pat)} {x:TsR rh} {k:Nat},so σ rh=some x ->
  ∀i ri,look (cv rh x k) i=some ri->(∃o,eI (eg σ rh) k i=some o/\wI σ o ri)\/(i ∈ be rh/\wI σ (some i) ri)
 | [],x,k,_,i,ri,h=>by simp[cv,look] at h
 | (p,ps) ::rh,x,k,hx,i,ri,h=>by
  simp only[so] at hx
  split at hx
  ·rename_i l y hl hy
   obtain ⟨g2,g3⟩:=iB (ps:=ps) hx
   simp only[cv] at h
   rw[aI] at h
   have other:∀q:Plc,q=p->(∀z,q≠.row z)->(∀ri',look (fC p ps x k) i=some ri'->look (dX ps x k) i=some ri')->(look (fC p ps x k) i=none->look (dX ps x k) i=none)->oJ p ps=dV ps->eg σ ((p,ps) ::rh)=iE ps l++eg σ rh->be ((p,ps) ::rh)=be rh ->
     (∃o,eI (eg σ ((p,ps) ::rh)) k i=some o/\wI σ o ri)\/(i ∈ be ((p,ps) ::rh)/\wI σ (some i) ri):=by
    intro _ _ _ e1 e2 e3 e4 e5
    rw[e4,e5,gW,g3]
    cases hq:look (fC p ps x k) i with
    | some ri' =>
     rw[hq] at h
     injection h with h
     subst h
     obtain ⟨o,h1,h2⟩:=lU rfl hx i ri' (e1 ri' hq)
     exact .inl ⟨o,by rw[h1],h2⟩
    | none =>
     rw[hq] at h
     simp only at h
     have hno:eI (iE ps l) k i=none:=by
      cases hh:eI (iE ps l) k i with
      | none=>rfl
      | some o =>
       obtain ⟨e1,e3⟩:=dY hh
       have:=(List.getElem?_eq_some_iff.1 e3).1
       have:=iC (ps:=ps) (x:=x) (k:=k) (i:=i) (by omega)
       rw[e2 hq] at this
       cases this
     rw[hno]
     rw[g2,e3] at h
     exact pD hy i ri h
   cases p with
   | slot j ag=>exact other _ rfl (by simp) (fun _ h=>h) (fun h=>h) rfl (by simp[eg,hl]) rfl
   | blk b=>exact other _ rfl (by simp) (fun _ h=>h) (fun h=>h) rfl (by simp only[eg,hl]) rfl
   | row q =>
    have hl':l=[.row q]:=by simp only[mf,Option.some.injEq] at hl;exact hl.symm
    subst hl'
    cases hq:look (fC (.row q) ps x k) i with
    | some ri' =>
     rw[hq] at h
     injection h with h
     subst h
     match ps,x,hx,hq with
     | .row t e ::_,x,hx,hq =>
      simp only[fC] at hq
      rw[ai] at hq
      split at hq
      ·rename_i e'
       injection hq with hq
       subst hq;subst e'
       refine .inr ⟨by simp[be],?_⟩
       simp only[eJ] at hx
       split at hx
       ·rename_i xl w hxl hw
        injection hx with hx
        subst hx
        exact tX rfl hxl
       ·cases hx
      ·cases hq
     | .x p ::_,x,hx,hq =>
      simp only[fC] at hq
      rw[ai] at hq
      split at hq
      ·rename_i e'
       injection hq with hq
       subst hq;subst e'
       refine .inr ⟨by simp[be],?_⟩
       simp only[eJ] at hx
       split at hx
       ·rename_i xl w hxl hw
        injection hx with hx
        subst hx
        exact Ai rfl hxl
       ·cases hx
      ·cases hq
     | [],x,_,hq=>simp[fC,look] at hq
     | .d _ ::_,x,_,hq=>simp[fC,look] at hq
    | none =>
     rw[hq] at h
     simp only[oJ,Nat.add_zero] at h
     rw[g2] at h
     simp only[eg]
     rcases pD hy i ri h with h | ⟨h1,h2⟩
     ·exact .inl h
     ·exact .inr ⟨by simp[be,h1],h2⟩
  ·cases hx
theorem eG {i:Nat}:∀{rh:List (Plc×List Pat)} {x:TsR rh} {k:Nat},(look (cM rh x k) i).isSome=true↔i ∈ bj rh
 | [],_,_=>by simp[cM,look,bj]
 | (.slot _ _,ps) ::r,x,k=>by simp only[cM,bj];exact eG
 | (.row _,ps) ::r,x,k=>by simp only[cM,bj];exact eG
 | (.blk b,ps) ::r,x,k=>by
  simp only[cM,bj]
  rw[ai]
  split
  ·rename_i e;simp[e]
  ·rename_i e
   rw[eG]
   simp[e]
theorem tM:∀{s:Sh} {q:Nat} {x:s.T} {l:List At},s.take [.row q]=some (x,l)->False
 | .int _,_,_,_,h=>by simp[Sh.take,sU] at h
 | .bool,_,_,_,h=>by simp[Sh.take,qD] at h
 | .str,_,_,_,h=>by simp[Sh.take,sW] at h
 | .sl _,_,_,_,h=>by simp[Sh.take,wV] at h
 | .pair a b,q,x,l,h=>by
  simp only[Sh.take] at h
  split at h
  ·rename_i y r hy
   exact tM hy
  ·cases h
 | .agg e,_,_,_,h=>tM (s:=e) h
 | .ref,_,_,_,h=>by cases h
theorem yR {σ:St} {i:Nat}:∀{rh:List (Plc×List Pat)} {x:TsR rh} {k:Nat},so σ rh=some x->i ∈ be rh->(look (cv rh x k) i).isSome=true
 | (p,ps) ::r,x,k,hx,h=>by
  simp only[so] at hx
  split at hx
  ·rename_i l y hl hy
   obtain ⟨g2,_⟩:=iB (ps:=ps) hx
   simp only[cv]
   rw[aI]
   cases hq:look (fC p ps x k) i with
   | some ri=>rfl
   | none =>
    simp only
    rw[g2]
    refine yR hy ?_
    cases p with
    | slot j ag=>exact h
    | blk b=>exact h
    | row q =>
     simp only[be,List.mem_cons] at h
     rcases h with h | h
     ·exfalso
      subst h
      have hl':l=[.row i]:=by simp only[mf,Option.some.injEq] at hl;exact hl.symm
      subst hl'
      match ps,x,hx,hq with
      | .row t e ::_,x,_,hq=>simp[fC,ai] at hq
      | .x p ::_,x,_,hq=>simp[fC,ai] at hq
      | [],x,hx,_=>simp[eJ] at hx
      | .d s ::_,x,hx,_ =>
       simp only[eJ] at hx
       split at hx
       ·rename_i hh
        have:=tM hh
        exact this
       ·cases hx
     ·exact h
  ·cases hx
theorem lW {σ:St}:∀{l:List (Nat×Option SlotV)},oj σ l=true->∀i s,look l i=some (some s)->(∀b ∈ F3 s.s,(look σ.h b).isSome=true)/\∀q ∈ yt s.s,(look σ.r q).isSome=true
 | (j,none) ::r,hh,i,s,hi=>by
  simp only[oj] at hh
  rw[ai] at hi
  split at hi
  ·cases hi
  ·exact lW hh i s hi
 | (j,some t) ::r,hh,i,s,hi=>by
  simp only[oj,z10] at hh
  rw[ai] at hi
  split at hi
  ·injection hi with hi
   injection hi with hi
   subst hi
   exact ⟨iA hh.1.1,iA hh.1.2⟩
  ·exact lW hh.2 i s hi
theorem sH {σ:St}:∀{l:List (Nat×List At)},xC σ l=true->∀i m,look l i=some m->(∀b ∈ uF m,(look σ.h b).isSome=true)/\∀q ∈ mS m,(look σ.r q).isSome=true
 | (j,t) ::r,hh,i,m,hi=>by
  simp only[xC,z10] at hh
  rw[ai] at hi
  split at hi
  ·injection hi with hi
   subst hi
   exact ⟨iA hh.1.1,iA hh.1.2⟩
  ·exact sH hh.2 i m hi
theorem dq.re {E E':Env} {i q:Nat} (hw:E'.w=E.w) (hZ:E'.Z=E.Z) (hι:E'.ι i=E.ι q) (hν:E'.ν i=E.ν q):∀{s:Sh} {x:s.T} {cs:List Value},dq E q s x cs->dq E' i s x cs
 | .ref,_,_,h=>by simp only[dq] at h ⊢;rw[hι,hν];exact h
 | .pair a b,x,cs,h=>by
  simp only[dq] at h ⊢
  obtain ⟨c1,c2,h1,h2,h3⟩:=h
  exact ⟨c1,c2,h1,dq.re hw hZ hι hν h2,dq.re hw hZ hι hν h3⟩
 | .agg e,x,cs,h=>dq.re (s:=e) (x:=x) hw hZ hι hν h
 | .int _,_,_,h=>h
 | .bool,_,_,h=>h
 | .str,_,_,h=>h
 | .sl _,_,_,h=>by simp only[dq] at h ⊢;rw[hw,hZ];exact h
theorem ca.re {E E':Env} {i q:Nat} (hw:E'.w=E.w) (hZ:E'.Z=E.Z) (hι:E'.ι i=E.ι q) (hν:E'.ν i=E.ν q) {s:Sh}:∀{l:List s.T} {xs:List Value},ca E q s l xs->ca E' i s l xs
 | [],_,h=>h
 | _ ::_,_,⟨c,r,h1,h2,h3⟩=>⟨c,r,h1,dq.re hw hZ hι hν h2,ca.re hw hZ hι hν h3⟩
theorem XOk.re {E E':Env} {i q:Nat} {x:XI} (hw:E'.w=E.w) (hZ:E'.Z=E.Z) (h0:E'.w0=E.w0) (hR:E'.R i) (hρ:E'.ρ i=E.ρ q) (hφ:E'.φ i=E.φ q) (hι:E'.ι i=E.ι q) (hν:E'.ν i=E.ν q) (h:XOk E q x):XOk E' i x:=by
 cases x with
 | set t k l =>
  obtain ⟨_,b,es,ck,h1,h2,h3,h4⟩:=h
  exact ⟨hR,b,es,ck,by rw[hρ];exact h1,by rw[hφ];exact h2,by rw[hw];exact h3,by rw[hw,hZ];exact h4⟩
 | map t k e l =>
  obtain ⟨_,b,es,ck,h1,h2,h3,h4⟩:=h
  exact ⟨hR,b,es,ck,by rw[hρ];exact h1,by rw[hφ];exact h2,by rw[hw];exact h3,by rw[hw,hZ];exact h4⟩
 | tab t s l ti e a =>
  obtain ⟨_,⟨xs,h1,h2⟩,h3,h4,h5,h6⟩:=h
  refine ⟨hR,⟨xs,by rw[hw,h0,hρ];exact h1,ca.re hw hZ hι hν h2⟩,by rw[hρ,hφ];exact h3,by rw[hν];exact h4,fun j l' hj=>?_,by rw[hι];exact h6⟩
  have:=h5 j l' hj
  unfold jR at this ⊢
  rw[hw,h0,hZ,hρ,hφ,hι]
  exact this
theorem gx {rh:List (Plc×List Pat)} {W:List Nat} {srcs:List Nat} {σ σ':St} {x:TsR rh} (hok:ff rh W srcs σ=true) (hm0:Mod N E0 a0 σ.look) (hk:Keep E0 E) (hm:Mod N E a σ'.look) (hx:iw rh (bd (be rh++srcs) σ.r++σ.roR) σ'=some x)
  (hs:∀i,i ∉ W->look σ'.s i=look σ.s i) (hh:∀i ∈ bd (bj rh) σ.h++σ.ro,look σ'.h i=look σ.h i) (hr:∀i ∈ bd (be rh++srcs) σ.r++σ.roR,look σ'.r i=look σ.r i) :
  ∃E',dW E E'/\E'.w=E.w/\Keep E0 E'/\Mod N E' a (head rh W srcs σ x).look:=by
 simp only[ff,z10] at hok
 obtain ⟨⟨⟨⟨⟨⟨k1,k2⟩,k3⟩,k4⟩,k5⟩,k6⟩,⟨⟨⟨k7,k8⟩,k9⟩,k10⟩⟩:=hok
 unfold iw at hx
 split at hx
 case h_2=>cases hx
 rename_i hro
 simp only[Hk,z10] at hro
 obtain ⟨⟨hnd,hoff⟩,hoff2⟩:=hro
 have hoff2:=eP hoff2
 have hrk9:=iA k9
 have hnd:=nc hnd
 have hoff:=eP hoff
 have hfresh:=ja k3
 let g':=(head rh W srcs σ x).look
 let src:Nat->Option (Option Nat):=eI (eg σ' rh) σ.next
 let E':=E.re (fun i=>(g'.h i).isSome=true) (fun i=>(g'.r i).isSome=true) src
 have hlen:(eg σ' rh).length=iT rh:=(lw hm (h:=fun _=>True) (r:=fun _=>True) (src:=src) (k:=σ.next) hx fun j o hj=>⟨trivial,hj⟩).1
 have gr:∀i,g'.r i=match look (cv rh x σ.next) i with | some ri=>some ri | none=>if i ∈ srcs then some .none else look σ.r i:=by
  intro i
  show look (cv rh x σ.next++(jl srcs++σ.r)) i=_
  rw[aI]
  cases look (cv rh x σ.next) i with
  | some ri=>rfl
  | none =>
   simp only
   rw[aI,iu]
   by_cases h:i ∈ srcs
   ·simp[h]
   ·simp[h]
 have gh:∀i,g'.h i=match look (cM rh x σ.next) i with | some l=>some l | none=>look σ.h i:=by
  intro i
  show look (cM rh x σ.next++σ.h) i=_
  rw[aI]
  cases look (cM rh x σ.next) i<;>rfl
 have srcNew:∀i,(src i).isSome=true↔(σ.next<=i/\i<σ.next+iT rh):=by
  intro i
  constructor
  ·intro h
   cases hq:src i with
   | none=>rw[hq] at h;cases h
   | some o =>
    obtain ⟨e1,e2⟩:=dY hq
    have:=(List.getElem?_eq_some_iff.1 e2).1
    omega
  ·intro h
   cases hq:src i with
   | some o=>rfl
   | none =>
    exfalso
    have:∀(l:List (Option Nat)) (k:Nat),k<=i->i<k+l.length->eI l k i=none->False:=by
     intro l
     induction l with
     | nil=>intro k h1 h2;simp at h2;omega
     | cons o l ih =>
      intro k h1 h2 h3
      simp only[eI] at h3
      split at h3
      ·cases h3
      ·simp only[List.length_cons] at h2;exact ih (k+1) (by omega) (by omega) h3
    exact this _ _ h.1 (by omega) hq
 have srcNone:∀i,(look σ.r i).isSome=true->src i=none:=by
  intro i h
  cases hq:src i with
  | none=>rfl
  | some o =>
   have:=(srcNew i).1 (by rw[hq];rfl)
   rw[hfresh i this.1 this.2] at h
   cases h
 have rkey:∀i,(look σ.r i).isSome=true->(g'.r i).isSome=true:=by
  intro i h
  rw[gr]
  split
  ·rfl
  ·split
   ·rfl
   ·exact h
 have hkey:∀i,(look σ.h i).isSome=true->(g'.h i).isSome=true:=by
  intro i h
  rw[gh]
  split
  ·rfl
  ·exact h
 have newR:∀i,(σ.next<=i/\i<σ.next+iT rh)->(g'.r i).isSome=true:=by
  intro i h
  rw[gr]
  have:=oD (rh:=rh) (x:=x) (k:=σ.next) (i:=i) h
  cases hq:look (cv rh x σ.next) i with
  | some ri=>rfl
  | none=>rw[hq] at this;cases this
 obtain ⟨_,hS,hB⟩:=lw hm (h:=fun i=>(g'.h i).isSome=true) (r:=fun i=>(g'.r i).isSome=true) (src:=src) (k:=σ.next) hx fun j o hj=>⟨newR j ((srcNew j).1 (by show (eI _ _ j).isSome=true;rw[hj];rfl)),hj⟩
 have hR:=pD (k:=σ.next) hx
 have keep:Keep E0 E':=⟨hk.rg,fun y v hv=>by
  have hv':=hk y v hv
  refine fF.re hv' (fun i hi=>?_) (fun i hi=>?_)
  ·have:E0.L i:=by
    cases y<;>simp only[D1] at hi
    case ptr=>simp only[List.mem_singleton] at hi;subst hi;exact hv.2
    case ae=>simp only[List.mem_singleton] at hi;subst hi;exact hv.2
    case clo=>obtain ⟨p,hp,rfl⟩:=List.mem_map.1 hi;exact hv.2 p hp
    all_goals cases hi
   exact hkey i (hm0.glob.live i this)
  ·have:E0.R i:=by
    cases y<;>simp only[sE] at hi
    case row r=>simp only[List.mem_singleton] at hi;subst hi;exact hv.2.1
    case re r _ _ _=>simp only[List.mem_singleton] at hi;subst hi;obtain ⟨_,_,_,h⟩:=hv;exact h
    case sub r _ _ _=>simp only[List.mem_singleton] at hi;subst hi;exact hv.2
    case ir r _=>simp only[List.mem_singleton] at hi;subst hi;exact hv.2.1
    case ie r _ _ _ _=>simp only[List.mem_singleton] at hi;subst hi;obtain ⟨_,_,_,h,_⟩:=hv;exact h
    all_goals cases hi
   have:=hm0.glob.rlive i this
   exact ⟨rkey i this,srcNone i this⟩,fun b o hb=>hk.obj b o hb⟩
 have eR:∀i o,src i=o->E'.ρ i=pick E.ρ (.slice none 0 0) i o/\E'.φ i=pick E.φ (fun _=>False) i o/\E'.ι i=pick E.ι (fun _=>undef) i o/\E'.ν i=pick E.ν 0 i o:=fun i o h=>by subst h;exact ⟨rfl,rfl,rfl,rfl⟩
 have origL:∀i ri,g'.r i=some ri->ri≠.none->(∃o,src i=some o/\wI σ' o ri)\/(src i=none/\i ∈ be rh/\wI σ' (some i) ri)\/(src i=none/\i ∈ bd (be rh++srcs) σ.r++σ.roR/\look σ'.r i=some ri):=by
  intro i ri hi hnn
  rw[gr] at hi
  cases hq:look (cv rh x σ.next) i with
  | some ri' =>
   rw[hq] at hi
   simp only[Option.some.injEq] at hi
   subst hi
   rcases hR i ri' hq with ⟨o,h1,h2⟩ | ⟨h1,h2⟩
   ·exact .inl ⟨o,h1,h2⟩
   ·exact .inr (.inl ⟨srcNone i (hrk9 i h1),h1,h2⟩)
  | none =>
   rw[hq] at hi
   simp only at hi
   split at hi
   ·injection hi with hi;exact absurd hi.symm hnn
   ·rename_i hns
    have hsome:(look σ.r i).isSome=true:=by rw[hi];rfl
    have hnq:i ∉ be rh:=fun hr=>by
     have:(look (cv rh x σ.next) i).isSome=true:=yR hx hr
     rw[hq] at this
     cases this
    have hmem:i ∈ bd (be rh++srcs) σ.r++σ.roR:=List.mem_append_left _ (kp (fun h=>(List.mem_append.1 h).elim hnq hns) hsome)
    exact .inr (.inr ⟨srcNone i hsome,hmem,by rw[hr i hmem];exact hi⟩)
 have cZ:∀i ri,g'.r i=some (.some ri)->(∃q n,look σ'.r q=some (.some ⟨ri.t,ri.e,n,ri.l⟩)/\E'.ρ i=E.ρ q/\((src i=some (some q))\/(src i=none/\q=i/\(i ∈ bd (be rh++srcs) σ.r++σ.roR\/i ∈ be rh)))/\(ri.n=ri.l.length\/ri.n=n))\/(E'.ρ i=.slice none 0 0/\ri.l=[]/\ri.n=ri.l.length):=by
  intro i ri hi
  rcases origL i _ hi (fun h=>by cases h) with ⟨o,h1,h2⟩ | ⟨h0,h1,h2⟩ | ⟨h0,h1,h2⟩
  ·rcases h2 with ⟨q,n,rfl,h3,h4⟩ | ⟨rfl,h3,h4⟩
   ·exact .inl ⟨q,n,h3,(eR i _ h1).1,.inl h1,.inl h4⟩
   ·exact .inr ⟨(eR i _ h1).1,h3,h4⟩
  ·rcases h2 with ⟨q,n,hq,h3,h4⟩ | ⟨hq,_⟩
   ·injection hq with hq
    subst hq
    exact .inl ⟨i,n,h3,(eR i _ h0).1,.inr ⟨h0,rfl,.inr h1⟩,.inl h4⟩
   ·cases hq
  ·exact .inl ⟨i,ri.n,h2,(eR i _ h0).1,.inr ⟨h0,rfl,.inl h1⟩,.inr rfl⟩
 have xsL:∀i y,g'.r i=some (.x y)->(∃q,look σ'.r q=some (.x y)/\(E'.ρ i=E.ρ q/\E'.φ i=E.φ q/\E'.ι i=E.ι q/\E'.ν i=E.ν q)/\((src i=some (some q))\/(src i=none/\q=i/\(i ∈ bd (be rh++srcs) σ.r++σ.roR\/i ∈ be rh))))\/(E'.ρ i=.slice none 0 0/\(∀b,¬ E'.φ i b)/\E'.ν i=0/\∃t s ti e,y=.tab t s [] ti e []):=by
  intro i y hi
  rcases origL i _ hi (fun h=>by cases h) with ⟨o,h1,h2⟩ | ⟨h0,h1,h2⟩ | ⟨h0,h1,h2⟩
  ·rcases h2 with ⟨q,rfl,h3⟩ | ⟨rfl,h3⟩
   ·exact .inl ⟨q,h3,eR i _ h1,.inl h1⟩
   ·exact .inr ⟨(eR i _ h1).1,fun b hb=>by rw[(eR i _ h1).2.1] at hb;exact hb,(eR i _ h1).2.2.2,h3⟩
  ·rcases h2 with ⟨q,hq,h3⟩ | ⟨hq,_⟩
   ·injection hq with hq
    subst hq
    exact .inl ⟨i,h3,eR i _ h0,.inr ⟨h0,rfl,.inr h1⟩⟩
   ·cases hq
  ·exact .inl ⟨i,h2,eR i _ h0,.inr ⟨h0,rfl,.inl h1⟩⟩
 have sameSrc:∀i j q,((src i=some (some q))\/(src i=none/\q=i/\(i ∈ bd (be rh++srcs) σ.r++σ.roR\/i ∈ be rh)))->((src j=some (some q))\/(src j=none/\q=j/\(j ∈ bd (be rh++srcs) σ.r++σ.roR\/j ∈ be rh)))->i=j:=by
  intro i j q h3 g3
  rcases h3 with h3 | ⟨h3,rfl,h4⟩
  ·rcases g3 with g3 | ⟨g3,rfl,g4⟩
   ·obtain ⟨e1,e2⟩:=dY h3
    obtain ⟨e3,e4⟩:=dY g3
    have:=CX hnd e2 e4
    omega
   ·rcases g4 with g4 | g4
    ·exact absurd g4 (hoff q (jA (dY h3).2))
    ·exact absurd g4 (hoff2 q (jA (dY h3).2))
  ·rcases g3 with g3 | ⟨_,rfl,_⟩
   ·rcases h4 with h4 | h4
    ·exact absurd h4 (hoff q (jA (dY g3).2))
    ·exact absurd h4 (hoff2 q (jA (dY g3).2))
   ·rfl
 have blksL:∀i l,g'.h i=some l->∃l',look σ'.h i=some l'/\∀cs,bC E l' cs->bC E' l cs:=by
  intro i l hi
  rw[gh] at hi
  cases hq:look (cM rh x σ.next) i with
  | some l0 =>
   rw[hq] at hi
   injection hi with hi
   subst hi
   exact hB i l0 hq
  | none =>
   rw[hq] at hi
   simp only at hi
   have hnb:i ∉ bj rh:=fun hb=>by
    have:=(eG (rh:=rh) (x:=x) (k:=σ.next)).2 hb
    rw[hq] at this
    cases this
   have hmem:i ∈ bd (bj rh) σ.h++σ.ro:=List.mem_append_left _ (kp hnb (by rw[hi];rfl))
   obtain ⟨o1,o2⟩:=sH k2 i l hi
   exact ⟨l,by rw[hh i hmem];exact hi,fun cs hcs=>bC.re hcs (fun b hb=>hkey b (o1 b hb)) (fun q hq=>⟨rkey q (o2 q hq),srcNone q (o2 q hq)⟩)⟩
 have hxg:XGlob E' g':=by
  refine ⟨fun i y b hi hb=>?_,fun i j y z b hi hj hb hb'=>?_⟩
  ·rcases xsL i y hi with ⟨q,h1,⟨_,h2,_,_⟩,_⟩ | ⟨_,h2,_⟩
   ·rw[h2] at hb
    obtain ⟨g1,g2,g3,g4,g5⟩:=hm.glob.xg.own q y b h1 hb
    refine ⟨g1,g2,g3,fun j l hj=>?_,fun j r hj=>?_⟩
    ·obtain ⟨l',h5,_⟩:=blksL j l hj
     exact g4 j l' h5
    ·rcases cZ j r hj with ⟨p,n,k1,k2,_⟩ | ⟨k1,_⟩
     ·rw[k2];exact g5 p _ k1
     ·rw[k1];intro e;cases e
   ·exact absurd hb (h2 b)
  ·rcases xsL i y hi with ⟨q,h1,⟨_,h2,_,_⟩,h3⟩ | ⟨_,h2,_⟩
   ·rcases xsL j z hj with ⟨p,k1,⟨_,k2,_,_⟩,k3⟩ | ⟨_,k2,_⟩
    ·rw[h2] at hb
     rw[k2] at hb'
     have:=hm.glob.xg.inj q p y z b h1 k1 hb hb'
     subst this
     exact sameSrc i j q h3 k3
    ·exact absurd hb' (k2 b)
   ·exact absurd hb (h2 b)
 refine ⟨E',rfl,rfl,keep,⟨⟨hm.glob.below,hm.glob.zlt,hm.glob.z0,hm.glob.zfrom,fun b hb=>hb,fun q hq=>hq,fun i l hi=>?_,fun i j l l' hi hj hij=>?_,fun i ri b hi hb=>?_,fun i j ri rj b hi hj hb hb'=>?_,hxg⟩,eH.cong (E:=E) (E':=E') rfl (fun _ h=>h) rfl rfl hm.nodef,hm.size,fun i t hi=>?_,fun i l hi=>?_,fun i ri hi=>?_,fun i y hi=>?_⟩⟩
 ·obtain ⟨l',h1,_⟩:=blksL i l hi
  exact hm.glob.own i l' h1
 ·obtain ⟨l1,h1,_⟩:=blksL i l hi
  obtain ⟨l2,h2,_⟩:=blksL j l' hj
  exact hm.glob.inj i j l1 l2 h1 h2 hij
 ·rcases cZ i ri hi with ⟨q,n,h1,h2,_⟩ | ⟨h1,_⟩
  ·rw[h2] at hb
   obtain ⟨h3,h4⟩:=hm.glob.rown q _ b h1 hb
   exact ⟨h3,fun j l hj=>by obtain ⟨l',h5,_⟩:=blksL j l hj;exact h4 j l' h5⟩
  ·rw[h1] at hb;cases hb
 ·rcases cZ i ri hi with ⟨q,n,h1,h2,h3,_⟩ | ⟨h1,_⟩
  ·rcases cZ j rj hj with ⟨p,n',g1,g2,g3,_⟩ | ⟨g1,_⟩
   ·rw[h2] at hb
    rw[g2] at hb'
    have hqp:=hm.glob.rinj q p _ _ b h1 g1 hb hb'
    subst hqp
    exact sameSrc i j q h3 g3
   ·rw[g1] at hb';cases hb'
  ·rw[h1] at hb;cases hb
 ·
  simp only[St.look,eK,head] at hi
  split at hi
  ·rename_i t' hl
   injection hi with hi
   subst hi
   rw[aI] at hl
   cases hq:look (eQ rh x σ.next) i with
   | some t0 =>
    rw[hq] at hl
    injection hl with hl
    subst hl
    exact hS i t' hq
   | none =>
    rw[hq] at hl
    simp only at hl
    obtain ⟨h1,h2⟩:=pQ hl
    have e:σ'.look.s i=some t':=by
     show eK σ'.s i=some t'
     simp only[eK,hs i h2,h1]
    obtain ⟨v,h3,h4⟩:=hm.slots i t' e
    obtain ⟨o1,o2⟩:=lW k1 i t' hl
    exact ⟨v,h3,fx.re h4 (fun b hb=>hkey b (o1 b hb)) (fun q hq=>⟨rkey q (o2 q hq),srcNone q (o2 q hq)⟩)⟩
  ·cases hi
 ·obtain ⟨l',h1,h2⟩:=blksL i l hi
  obtain ⟨_,cs,t,h4,h5,h6⟩:=hm.blks i l' h1
  exact ⟨by show (g'.h i).isSome=true;rw[hi];rfl,cs,t,h4,h2 cs h5,h6⟩
 ·rcases cZ i ri hi with ⟨q,n,h1,h2,_,h5⟩ | ⟨h1,h2,h3⟩
  ·obtain ⟨_,xs,h3,h4,h6⟩:=hm.rows q _ h1
   exact ⟨by show (g'.r i).isSome=true;rw[hi];rfl,xs,by rw[h2];exact h3,h4,h5.elim id fun e=>e.trans h6⟩
  ·obtain ⟨t,e,n,l⟩:=ri
   simp only at h2 h3
   subst h2
   exact ⟨by show (g'.r i).isSome=true;rw[hi];rfl,[],by rw[h1];exact World.ownsRow_nil _ _ _ _,rfl,h3⟩
 ·have hR':E'.R i:=by show (g'.r i).isSome=true;rw[hi];rfl
  rcases xsL i y hi with ⟨q,h1,⟨h2,h3,h4,h5⟩,_⟩ | ⟨h1,h2,h0,t,s,ti,e,rfl⟩
  ·exact XOk.re (E:=E) rfl rfl rfl hR' h2 h3 h4 h5 (hm.xs q y h1)
  ·refine ⟨hR',⟨[],?_,rfl⟩,?_,h0.symm,?_,?_⟩
   ·rw[h1];exact World.ownsRow_nil _ _ _ _
   ·intro b hb;rw[h1] at hb;cases hb
   ·intro j l' h;simp at h
   ·intro j k l1 l2 b h;simp at h
end
end
end Dn
end
end Go.Proofs.YtegbncajloeepaaGreat

namespace Go.Proofs.YtegbncajloeepaaGreat
namespace Dn
open Go.RowKit
theorem Keep.dat {E E':Env} (h:Keep E E'):∀{s:Sh} {x:s.T} {cs:List Value},Dat E.w E.Z s x cs->Dat E'.w E'.Z s x cs
 | .int _,_,_,h0=>h0
 | .bool,_,_,h0=>h0
 | .str,_,_,h0=>h0
 | .sl e,l,cs,h0=>by
  obtain ⟨A,c,rfl,h1⟩:=h0
  exact h (.sl e l) _ (show Dat E.w E.Z (.sl e) l [.slice A l.length c] from ⟨A,c,rfl,h1⟩)
 | .pair a b,x,cs,h0=>by
  obtain ⟨c1,c2,rfl,h1,h2⟩:=h0
  exact ⟨c1,c2,rfl,Keep.dat h h1,Keep.dat h h2⟩
 | .agg e,x,cs,h0=>Keep.dat (s:=e) (x:=x) h h0
section
variable {B:Nat} {w w':World} (hT:Turned B w w')
include hT
theorem Dat.turned {Z:Nat->Prop}:∀{s:Sh} {x:s.T} {cs:List Value},Dat w Z s x cs->Dat w' Z s x cs
 | .int _,_,_,h=>h
 | .bool,_,_,h=>h
 | .str,_,_,h=>h
 | .sl e,l,cs,h=>by
  simp only[Dat] at h ⊢
  obtain ⟨A,c,rfl,hc,hA,h⟩:=h
  refine ⟨A,c,rfl,hc,hA,fun h0=>?_⟩
  obtain ⟨ad,rfl,hz,h⟩:=h h0
  refine ⟨ad,rfl,hz,fun k x hx=>?_⟩
  obtain ⟨ecs,h1,h2⟩:=h k x hx
  exact ⟨ecs,Dat.turned h1,fun j v hv=>hT.cell (h2 j v hv)⟩
 | .pair a b,x,cs,h=>by
  simp only[Dat] at h ⊢
  obtain ⟨c1,c2,rfl,h1,h2⟩:=h
  exact ⟨c1,c2,rfl,Dat.turned h1,Dat.turned h2⟩
 | .agg e,x,cs,h=>Dat.turned (s:=e) (x:=x) h
theorem au.turned {Z:Nat->Prop} {e:Sh}:∀{l:List e.T} {xs:List Value},au w Z e l xs->au w' Z e l xs
 | [],_,h=>h
 | _ ::_,_,⟨c,r,h1,h2,h3⟩=>⟨c,r,h1,Dat.turned hT h2,au.turned h3⟩
end
section
variable {E:Env} {w':World}
theorem fF.turned (hT:Turned E.w0.heap.size E.w w') (_:E.w0.heap.size<=E.w.heap.size):∀{x:At} {v:Value},fF E x v->fF (E.wset w') x v
 | .u,_,_=>trivial
 | .v _,_,h=>h
 | .ptr _ _,_,h=>h
 | .clo _ _,_,h=>h
 | .sl e l,_,h=>Dat.turned hT (s:=.sl e) (x:=l) h
 | .row _,_,h=>h
 | .rf s x o,_,h=>by
  obtain ⟨ad,cs,h1,h2,h3,h4⟩:=h
  exact ⟨ad,cs,h1,h2,Dat.turned hT h3,fun j v hj=>hT.cell (h4 j v hj)⟩
 | .re _ _ _ _,_,h=>h
 | .sub _ _ _ _,_,h=>h
 | .ae _ _ _ _ _ _,_,h=>h
 | .sn e l,_,h=>⟨h.1,Dat.turned hT (s:=.sl e) (x:=l) h.2⟩
 | .ir _ _,_,h=>h
 | .ie _ _ _ _ _,_,h=>h
 | .fn _ _ _,_,h=>by
  obtain ⟨q,cap,h1,h2,h3⟩:=h
  exact ⟨q,cap,h1,h2,fun w2 Z' x y vals hA hZ=>h3 w2 Z' x y vals ⟨hA.1,fun ad u hz hc=>hA.2 ad u hz (hT.cell hc)⟩ hZ⟩
theorem Keep.turned {E0:Env} (hk:Keep E0 E) (hT:Turned E.w0.heap.size E.w w') (hsz:E.w0.heap.size<=E.w.heap.size) (ho:∀b o,OBJ E0 b o->w'.heap[b]?=some o):Keep E0 (E.wset w') :=
 ⟨hk.rg,fun x v hv=>fF.turned hT hsz (hk x v hv),fun b o hb=>⟨(hk.obj b o hb).1,(hk.obj b o hb).2.1,ho b o hb⟩⟩
theorem bC.turned (hT:Turned E.w0.heap.size E.w w') (hsz:E.w0.heap.size<=E.w.heap.size):∀{l:List At} {vs:List Value},bC E l vs->bC (E.wset w') l vs
 | [],[],_=>trivial
 | _ ::_,_ ::_,hv=>⟨fF.turned hT hsz hv.1,bC.turned hT hsz hv.2⟩
 | [],_ ::_,hv=>hv.elim
 | _ ::_,[],hv=>hv.elim
theorem fe.turned (hT:Turned E.w0.heap.size E.w w') (hsz:E.w0.heap.size<=E.w.heap.size) {ag:Bool} {l:List At} {v:Value} (hv:fe E ag l v):fe (E.wset w') ag l v :=
 let ⟨cs,h1,h2,h3⟩:=hv
 ⟨cs,h1,h2.turned hT hsz,h3⟩
theorem fG.turned (hT:Turned E.w0.heap.size E.w w') (hsz:E.w0.heap.size<=E.w.heap.size):∀{l:List (Bool×List At)} {vs:List Value},fG E l vs->fG (E.wset w') l vs
 | [],[],_=>trivial
 | _ ::_,_ ::_,hv=>⟨fe.turned hT hsz hv.1,fG.turned hT hsz hv.2⟩
 | [],_ ::_,hv=>hv.elim
 | _ ::_,[],hv=>hv.elim
theorem bv.turned (hT:Turned E.w0.heap.size E.w w') (hsz:E.w0.heap.size<=E.w.heap.size):∀{s:SV} {v:Value},bv E s v->bv (E.wset w') s v
 | .c _ _,_,hv=>fe.turned hT hsz hv
 | .tup _,_,⟨vs,h1,h2⟩=>⟨vs,h1,fG.turned hT hsz h2⟩
theorem fx.turned (hT:Turned E.w0.heap.size E.w w') (hsz:E.w0.heap.size<=E.w.heap.size) {s:SlotV} {v:Value} (hv:fx E s v):fx (E.wset w') s v:=by
 unfold fx at *
 split at hv
 ·exact bv.turned hT hsz hv
 ·exact ⟨fun hc=>bv.turned hT hsz (hv.1 hc),hv.2⟩
theorem nf (hT:Turned E.w0.heap.size E.w w') {t:TypeId} {n m:Nat} {v:Value} {xs:List Value} (h:E.w.ownsRow E.w0.heap.size t n v m xs):w'.ownsRow E.w0.heap.size t n v m xs:=by
 refine cJ h fun b hb=>?_
 obtain ⟨_,h5⟩:=h
 rcases h5 with ⟨h5,_⟩ | ⟨g',cap,cur,h5,_,hc,_⟩
 ·rw[h5] at hb;cases hb
 ·rw[h5] at hb
  simp only[Value.ownBlock,Option.some.injEq] at hb
  subst hb
  exact hT.cells hc rfl
theorem cU.turned (hT:Turned E.w0.heap.size E.w w') {Z:Nat->Prop} {k e:Sh}:∀{l:List (k.T×e.T)} {en:List MapEntry},cU E.w Z k e l en->cU w' Z k e l en
 | [],_,h=>h
 | _ ::_,_,⟨m,r,h1,h2,⟨cs,h3,h4,h5⟩,h6⟩=>⟨m,r,h1,Dat.turned hT h2,⟨cs,Dat.turned hT h3,h4,h5⟩,cU.turned hT h6⟩
theorem db.turned (hT:Turned E.w0.heap.size E.w w') {Z:Nat->Prop} {k:Sh}:∀{l:List k.T} {en:List MapEntry},db E.w Z k l en->db w' Z k l en
 | [],_,h=>h
 | _ ::_,_,⟨m,r,h1,h2,h3,h4⟩=>⟨m,r,h1,Dat.turned hT h2,h3,db.turned hT h4⟩
theorem dq.turned (hT:Turned E.w0.heap.size E.w w') {q:Nat}:∀{s:Sh} {x:s.T} {cs:List Value},dq E q s x cs->dq (E.wset w') q s x cs
 | .ref,_,_,h=>h
 | .pair a b,x,cs,h=>by
  simp only[dq] at h ⊢
  obtain ⟨c1,c2,h1,h2,h3⟩:=h
  exact ⟨c1,c2,h1,dq.turned hT h2,dq.turned hT h3⟩
 | .agg e,x,cs,h=>dq.turned hT (s:=e) (x:=x) h
 | .int _,_,_,h=>h
 | .bool,_,_,h=>h
 | .str,_,_,h=>h
 | .sl e,x,_,h=>Dat.turned hT (s:=.sl e) (x:=x) h
theorem ca.turned (hT:Turned E.w0.heap.size E.w w') {q:Nat} {s:Sh}:∀{l:List s.T} {xs:List Value},ca E q s l xs->ca (E.wset w') q s l xs
 | [],_,h=>h
 | _ ::_,_,⟨c,r,h1,h2,h3⟩=>⟨c,r,h1,dq.turned hT h2,ca.turned hT h3⟩
theorem XOk.turned (hT:Turned E.w0.heap.size E.w w') {q:Nat} {x:XI} (h:XOk E q x):XOk (E.wset w') q x:=by
 cases x with
 | set t k l =>
  obtain ⟨hr,b,es,ck,h1,h2,h3,h4⟩:=h
  exact ⟨hr,b,es,ck,h1,h2,(hT.cells h3 rfl).trans h3,h4.turned hT⟩
 | map t k e l =>
  obtain ⟨hr,b,es,ck,h1,h2,h3,h4⟩:=h
  exact ⟨hr,b,es,ck,h1,h2,(hT.cells h3 rfl).trans h3,h4.turned hT⟩
 | tab t s l ti e a =>
  obtain ⟨hr,⟨xs,h1,h2⟩,h3,h4,h5,h6⟩:=h
  refine ⟨hr,⟨xs,nf hT h1,h2.turned hT⟩,h3,h4,fun i l' hi=>?_,h6⟩
  obtain ⟨⟨ys,g1,g2⟩,g3⟩:=h5 i l' hi
  exact ⟨⟨ys,nf hT g1,au.turned hT g2⟩,g3⟩
theorem Mod.turned {N:Nat} {a a2:Act} {g:Look} (hm:Mod N E a g) (hT:Turned E.w0.heap.size E.w w') (ht:a2.tmps=a.tmps) (hd:eH (E.wset w') a2.defers):Mod N (E.wset w') a2 g:=by
 have G:=hm.glob
 have hsz:E.w0.heap.size<=E.w.heap.size:=G.below.size
 refine ⟨⟨hT.below G.below hsz,fun b hb=>Nat.lt_of_lt_of_le (G.zlt b hb) hT.size,G.z0,G.zfrom,G.live,G.rlive,G.own,G.inj,G.rown,G.rinj,G.xg.ext rfl hT.size (fun i x h=>⟨⟨x,h⟩,fun _ h=>h⟩) (fun b h=>.inl h) (fun j l h=>.inr ⟨j,l,h,rfl⟩) (fun j r b h h'=>.inr ⟨j,r,h,h'⟩)⟩,hd,by rw[ht];exact hm.size,fun i s hi=>?_,fun i l hi=>?_,fun i r hi=>?_,fun i x hi=>(hm.xs i x hi).turned hT⟩
 ·obtain ⟨v,h1,h2⟩:=hm.slots i s hi
  exact ⟨v,by rw[ht];exact h1,h2.turned hT hsz⟩
 ·obtain ⟨h1,cs,t,h2,h3,h4⟩:=hm.blks i l hi
  exact ⟨h1,cs,t,(hT.cells h2 rfl).trans h2,h3.turned hT hsz,h4⟩
 ·obtain ⟨h1,xs,h2,h3,h4⟩:=hm.rows i r hi
  refine ⟨h1,xs,cJ h2 fun b hb=>?_,au.turned hT h3,h4⟩
  obtain ⟨_,h5⟩:=h2
  have hb':(E.ρ i).ownBlock=some b:=hb
  show w'.heap[b]?=E.w.heap[b]?
  rcases h5 with ⟨h5,_⟩ | ⟨g',cap,cur,h5,_,hc,_⟩
  ·rw[h5] at hb';cases hb'
  ·rw[h5] at hb'
   simp only[Value.ownBlock,Option.some.injEq] at hb'
   subst hb'
   exact hT.cells hc rfl
end
theorem qW {P:Program} {fn:Func} {tmps:Array Value} {R:Ending->World->Prop} {E:Env}:∀(ds:List Deferred) (w:World),Turned E.w0.heap.size E.w w->(∀d ∈ ds,∀r,d.target=.collected r->w.heap[r]?=some (.deferred (some [])))->eH E ds ->
  (∀w',Turned E.w0.heap.size E.w w'->∃v,(results fn tmps).run P w'=.ok v w'/\R (.returned v) w')->LeavesInM Fence.wide 0 P fn tmps R ds .returning w
 | [],w,hT,_,_,h=>h w hT
 | d ::ds,w,hT,hh,⟨⟨_,r,h1,h2,h3⟩,h4⟩,h=>by
  have hw:=hh d (by simp) r h1
  refine ⟨by simp,.inl ⟨r,_,h1,run_takeDeferred hw,?_⟩⟩
  refine qW ds _ (hT.trans (Turned.putObj _ h2.2.1 hw rfl)) (fun d' hd' r' hr'=>?_) h4 h
  rw[World.putObj_heap_other (fun e=>h3 d' hd' (by rw[<-e];exact hr'))]
  exact hh d' (List.mem_cons_of_mem _ hd') r' hr'
theorem uW {E:Env}:∀{ds:List Deferred},eH E ds->∀d ∈ ds,∀r,d.target=.collected r->E.w.heap[r]?=some (.deferred (some []))
 | _ ::ds,⟨⟨_,r,h1,h2,_⟩,h4⟩,d,hd,r',hr'=>by
  rcases List.mem_cons.1 hd with e | hd
  ·subst e
   rw[h1] at hr'
   injection hr' with hr'
   subst hr'
   exact h2.2.2
  ·exact uW h4 d hd r' hr'
 | [],_,d,hd,_,_=>by cases hd
theorem gl {P:Program} {f:FuncId} {fn:Func} {c:Code} {args:Array Value} {w:World} {R:Ending->World->Prop} (hf:P.funcs[f]?=some fn) (hb:fn.body=some c)
  (h:c.wpIn Fence.wide 0 P (fun e a' w'=>(e=.normal\/e=.ret)/\∃E,E.w=w'/\eH E a'.defers/\∀w'',Turned E.w0.heap.size E.w w''->∃v,(results fn a'.tmps).run P w''=.ok v w''/\R (.returned v) w'')
   {tmps:=args++Array.replicate (fn.ntmps - args.size) undef,defers:=[] } w):Calls P f args w R:=by
 refine callsIn_wide.1 (callsIn_of_wp_marks (n:=0) hf hb trivial (wpIn_mono h ?_) rfl)
 rintro e a' w' ⟨he,E,rfl,hm,hr⟩
 have:=qW (P:=P) (fn:=fn) (tmps:=a'.tmps) (R:=R) a'.defers E.w (Turned.refl _ _) (uW hm) hm hr
 rcases he with rfl | rfl<;>exact this
section
variable {N:Nat} {E E':Env} {a a':Act} {g g':Look}
theorem Mod.rest (hm:Mod N E a g) (hk:Keep E E') (hm':MemOk E' g') (hs:g'.s=g.s) (ht:a'.tmps=a.tmps) (hd:eH E' a'.defers):Mod N E' a' g' :=
 ⟨hm'.glob,hd,by rw[ht];exact hm.size,fun i s hi=>by
  rw[hs] at hi
  obtain ⟨v,h1,h2⟩:=hm.slots i s hi
  exact ⟨v,by rw[ht];exact h1,hk.S h2⟩,hm'.blks,hm'.rows,hm'.xs⟩
theorem eH.turned {w':World} (ho:∀b,OBJ E b (.deferred (some []))->w'.heap[b]?=some (.deferred (some []))):∀{ds:List Deferred},eH E ds->eH (E.wset w') ds
 | [],_=>trivial
 | _ ::_,⟨⟨h0,r,h1,h2,h3⟩,h4⟩=>⟨⟨h0,r,h1,⟨h2.1,h2.2.1,ho _ h2⟩,h3⟩,eH.turned ho h4⟩
theorem MemOk.turned {w':World} (hm:MemOk E g) (hT:Turned E.w0.heap.size E.w w'):MemOk (E.wset w') g:=by
 have h:Mod 0 E { tmps:=#[],defers:=[] } { g with s:=fun _=>none }:=⟨⟨hm.glob.below,hm.glob.zlt,hm.glob.z0,hm.glob.zfrom,hm.glob.live,hm.glob.rlive,hm.glob.own,hm.glob.inj,hm.glob.rown,hm.glob.rinj,⟨hm.glob.xg.own,hm.glob.xg.inj⟩⟩,trivial,rfl,fun i s hi=>(by cases hi),hm.blks,hm.rows,hm.xs⟩
 have h2:=(h.turned hT (a2:={ tmps:=#[],defers:=[] }) rfl trivial).memOk
 exact ⟨⟨h2.glob.below,h2.glob.zlt,h2.glob.z0,h2.glob.zfrom,h2.glob.live,h2.glob.rlive,h2.glob.own,h2.glob.inj,h2.glob.rown,h2.glob.rinj,⟨h2.glob.xg.own,h2.glob.xg.inj⟩⟩,h2.blks,h2.rows,h2.xs⟩
def zg:List Nat->List (Bool×List At)->List (Nat×Option SlotV)->List (Nat×Option SlotV)
 | p ::ps,c ::cs,s=>zg ps cs ((p,some ⟨none,.c c.1 c.2⟩) ::s)
 | _,_,s=>s
def BF (N:Nat):List Nat->Bool
 | []=>true
 | p ::r=>Nat.blt p N&&BF N r
theorem zu {h:List (Nat×List At)} {r:List (Nat×RowS)} {nx:Nat} {ro roR:List Nat}:∀{ps:List Nat} {cs:List (Bool×List At)} {vs:List Value} {s:List (Nat×Option SlotV)} {a:Act},fG E cs vs->BF N ps=true->ps.length=cs.length->Mod N E a (St.look ⟨s,h,r,nx,ro,roR⟩) ->
  Mod N E { a with tmps:=(ps.zip vs).foldl (fun t p=>t.setIfInBounds p.1 p.2) a.tmps } (St.look ⟨zg ps cs s,h,r,nx,ro,roR⟩)
 | [],cs,vs,s,a,_,_,_,hm=>by simpa [zg] using hm
 | p ::ps,c ::cs,v ::vs,s,a,hr,hl,hn,hm=>by
  simp only[BF,z10] at hl
  have h1:=hm.put (d:=p) (by have:=hl.1;simp[Nat.blt] at this;omega) (s:=⟨none,.c c.1 c.2⟩) (v:=v) hr.1
  have h2:=rc (σ:=⟨s,h,r,nx,ro,roR⟩) p ⟨none,.c c.1 c.2⟩
  rw[<-h2] at h1
  have h3:=zu (ps:=ps) (cs:=cs) (vs:=vs) (s:=(p,some ⟨none,.c c.1 c.2⟩) ::s) (a:=a.put (some p) v) hr.2 hl.2 (by simpa using hn) h1
  exact h3
 | _ ::_,c ::cs,[],_,_,hr,_,_,_=>hr.elim
 | _ ::_,[],_,_,_,_,_,hn,_=>by simp at hn
def B1 (h:List (Nat×List At)):(l:List Sh)->List (Nat×Nat)->Option (TsS l)
 | [],[]=>some ()
 | s ::r,p ::cap=>match look h p.1 with
  | some l=>match s.take (l.drop p.2),B1 h r cap with
   | some (x,_),some y=>some (x,y)
   | _,_=>none
  | none=>none
 | _,_=>none
theorem uw:∀{l:List Sh} {cap:List (Nat×Nat)} {h:List (Nat×List At)} {x:TsS l},B1 h l cap=some x->(∀p ∈ cap,∀l',look h p.1=some l'->sy E p.1 l')->wZ E.w E.Z l x (cap.map fun p=>⟨E.β p.1,p.2,none⟩)
 | [],[],h,x,_,_=>rfl
 | s ::r,p ::cap,h,x,hx,hb=>by
  simp only[B1] at hx
  split at hx
  ·rename_i l hl
   split at hx
   ·rename_i y z rest hy hz
    injection hx with hx
    subst hx
    obtain ⟨cs,h1,h2⟩:=oE (hb p (by simp) l hl)
    obtain ⟨c1,c2,h3,h4,_⟩:=cK hy (h1.drop p.2)
    refine ⟨_,_,rfl,⟨c1,h4,fun j v hj=>?_⟩,uw hz fun q hq=>hb q (List.mem_cons_of_mem _ hq)⟩
    have h5:cs[p.2+j]?=some v:=by
     rw[<-List.getElem?_drop,h3]
     exact List.getElem?_append_left (List.getElem?_eq_some_iff.1 hj).1 ▸ hj
    have h6:=h2 _ v h5
    rw[cq,Nat.zero_add] at h6
    rw[cq]
    exact h6
   ·cases hx
  ·cases hx
 | [],_ ::_,_,_,hx,_=>by cases hx
 | _ ::_,[],_,_,hx,_=>by cases hx
end
end Dn
end Go.Proofs.YtegbncajloeepaaGreat
