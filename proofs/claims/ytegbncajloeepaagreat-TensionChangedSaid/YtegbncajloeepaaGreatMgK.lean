/- A symbolic executor: what code answers, as a plain function of data; loops go round with what their places hold. A symbolic executor: the contract of a function out of its body; functions that are walked in place; contexts. -/
import Derived.Scope
import Derived.Test.YtegbncajloeepaaGreatMgJ

namespace Go.Proofs.YtegbncajloeepaaGreat
noncomputable section
namespace Dn
noncomputable section
open Go.RowKit
inductive Ex where
 | normal
 | ret
 | exit (id:Nat)
def Ex.to:Ex->Exit
 | .normal=>.normal
 | .ret=>.ret
 | .exit id=>.exit id
structure Hint where
 loop:Nat->Option Hd:=fun _=>none
 join:Nat->Option Hd:=fun _=>none
 thaw:Nat->List Nat:=fun _=>[]
 inner:Bool:=false
def gn:Code->Nat
 | .region id _ _=>id
 | .seq a _=>gn a
 | .block _ c=>gn c
 | .scope c=>gn c
 | .loop c=>gn c
 | _=>0
def BQ (a b:Code):Nat:=match gn a with
 | 0=>1000000+gn b
 | n=>1000000+n
def fi:List (Nat×Bool×List Pat)->List Nat
 | []=>[]
 | p ::r=>p.1 ::fi r
def hdS:Option Hd->List Nat
 | some hd=>fi hd.sl
 | none=>[]
def wr (hl:Hint):Code->List Nat
 | .region _ ops _=>ops.toList.filterMap (·.dst)
 | .seq a b=>wr hl a++wr hl b
 | .cond _ a b=>hdS (hl.join (BQ a b))++(wr hl a++wr hl b)
 | .block id c=>hdS (hl.join id)++wr hl c
 | .loop c=>hdS (hl.loop (gn c))++wr hl c
 | .scope c=>wr hl c
 | _=>[]
def jO {α R:Type} (F:(α->Option R)->α->Option R) (n:Nat):α->Option R:=Nat.rec (fun _=>none) (fun _ ih=>F ih) n
theorem kg {α R:Type} {F:(α->Option R)->α->Option R} {n:Nat} {x:α}:jO F (n+1) x=F (jO F n) x:=rfl
def Fb {α R:Type} (j:α->Option R) (f:(α->Option R)->Option R):Option R:=f j
def K0:Nat:=1180591620717411303424
abbrev Lp:=(α R:Type)->((α->Option R)->α->Option R)->α->Option R
abbrev Jn:=(α R:Type)->(α->Option R)->((α->Option R)->Option R)->Option R
def lpK:Lp:=fun _ _ F x=>jO F K0 x
def jnK:Jn:=fun _ _ j f=>Fb j f
theorem LL {α R:Type} {F:(α->Option R)->α->Option R} {x:α}:lpK α R F x=jO F K0 x:=rfl
def St.un (σ σ':St):St:={ σ' with ro:=σ.ro,roR:=σ.roR }
def HC (σ:St) (c:Operand):Option Bool:=match sP σ.look.s c,sA σ.look.s c with
 | some (.c false [.v (.bool q)]),none=>some q
 | _,_=>none
def xF {R:Type} (id:Nat) (K:Ex->St->Option R):Ex->St->Option R
 | .normal,σ=>K .normal σ
 | .ret,σ=>K .ret σ
 | .exit i,σ=>match Nat.beq i id with
  | true=>K .normal σ
  | false=>K (.exit i) σ
def lJ (jn:Jn) {R:Type} (hd:Hd) (W:List Nat) (σ:St) (K:Ex->St->Option R) (body:St->(Ex->St->Option R)->Option R):Option R:=match hd.at σ with
 | some rh=>match ff rh (fi hd.sl++W) (dH (eg σ rh)) σ with
  | true=>jn _ _ (fun x=>K .normal (σ.un (head rh (fi hd.sl++W) (dH (eg σ rh)) σ x))) fun j =>
    body { σ with ro:=bd (bj rh) σ.h++σ.ro,roR:=bd (be rh++dH (eg σ rh)) σ.r++σ.roR } fun e σ'=>match e with
     | .normal=>match iw rh (bd (be rh++dH (eg σ rh)) σ.r++σ.roR) σ' with
      | some x=>j x
      | none=>none
     | .ret=>K .ret (σ.un σ')
     | .exit i=>K (.exit i) (σ.un σ')
  | false=>none
 | none=>none
def St.thaws:List Nat->St->Option St
 | [],σ=>some σ
 | s ::r,σ=>match eK σ.s s with
  | some ⟨none,.c false [.ptr b 0]⟩=>match Dn.look σ.h b with
   | some l=>match oS σ.roR (cZ l),gp b σ.ro with
    | true,false=>St.thaws r { σ with h:=(b,gV (noX σ.look.r) l) ::σ.h,r:=(cZ l).map (fun i=>(i,.none))++σ.r }
    | _,_=>none
   | none=>none
  | _=>none
structure Iter where
 gf:FuncId
 it:ICtr
 x:TsS it.caps
 cap:List (Nat×Nat)
def Bm (C:Ctx) (σ:St) (g:Operand):Option Iter:=match sP σ.look.s g,sA σ.look.s g with
 | some (.c false [.clo gf cap]),none=>match C.it gf with
  | some it=>match B1 σ.h it.caps cap with
   | some x=>some ⟨gf,it,x,cap⟩
   | none=>none
  | none=>none
 | _,_=>none
def Jh:List (Nat×Nat)->List Nat
 | []=>[]
 | p ::r=>p.1 ::Jh r
def Gz {α:Type}:List α->Nat
 | []=>0
 | _ ::r=>Nat.succ (Gz r)
def td:List (Plc×List Pat)->Bool
 | []=>true
 | (.slot _ _,_) ::_=>false
 | _ ::r=>td r
def yi (N:Nat) (I:Iter) (rh:List (Plc×List Pat)) (ps:List Nat):Bool:=oS (Jh I.cap) (bj rh)&&(BF N ps&&(Nat.beq (Gz ps) (Gz I.it.e)&&td rh))
def rnd (I:Iter) (rh:List (Plc×List Pat)) (srcs:List Nat) (σ:St) (ps:List Nat) (k:Nat) (x:TsR rh):St :=
 {head rh [] srcs σ x with s:=zg ps (nJ I.it.e ((I.it.m I.x).getD k (BL I.it.e))) (head rh [] srcs σ x).s }
def tq {R:Type} (dA dB:St->(Ex->St->Option R)->Option R) (I:Iter) (rh:List (Plc×List Pat)) (srcs:List Nat) (σ:St) (ps:List Nat) (K:Ex->St->Option R):(Nat×TsR rh->Option R)->Nat×TsR rh->Option R:=fun again p =>
 bif Nat.blt p.1 (I.it.m I.x).length then dA (rnd I rh srcs σ ps p.1 p.2) fun e σ1=>match e with
  | .normal=>dB σ1 fun e σ2=>match e with
   | .normal=>match iw rh (bd (be rh++srcs) σ.r++σ.roR) { σ2 with s:=σ.s } with
    | some x'=>again (Nat.succ p.1,x')
    | none=>none
   | .ret=>K .ret { σ.un σ2 with s:=σ.s }
   | .exit i=>K (.exit i) { σ.un σ2 with s:=σ.s }
  | _=>none
 else K .normal (σ.un (head rh [] srcs σ p.2))
def den (lp:Lp) (jn:Jn) (rec:Inl) (C:Ctx) (N:Nat) (hl:Hint) {R:Type}:Code->St->(Ex->St->Option R)->Option R
 | .skip,σ,K=>K .normal σ
 | .region id ops draw,σ,K=>match σ.thaws (hl.thaw (2000000+id)) with
  | none=>none
  | some σ=>match sb ops.toList with
  | false=>none
  | true=>match draw with
   | false=>AX rec C N ops ops.toList σ (K .normal)
   | true=>FH C N ops ops.toList σ fun es σ'=>match rL es 0 es with
    | true=>K .normal σ'
    | false=>none
 | .seq a b,σ,K=>den lp jn rec C N hl a σ fun e σ'=>match e with
  | .normal=>den lp jn rec C N hl b σ' K
  | .ret=>K .ret σ'
  | .exit i=>K (.exit i) σ'
 | .cond c a b,σ,K=>match HC σ c with
  | some q=>match hl.join (BQ a b) with
   | none=>bif q then den lp jn rec C N hl a σ K else den lp jn rec C N hl b σ K
   | some hd=>lJ jn hd (wr hl a++wr hl b) σ K fun σ' K'=>bif q then den lp jn rec C N hl a σ' K' else den lp jn rec C N hl b σ' K'
  | none=>none
 | .block id c,σ,K=>match hl.join id with
  | none=>den lp jn rec C N hl c σ (xF id K)
  | some hd=>lJ jn hd (wr hl c) σ K fun σ' K'=>den lp jn rec C N hl c σ' (xF id K')
 | .exit id,σ,K=>K (.exit id) σ
 | .ret,σ,K=>K .ret σ
 | .scope c,σ,K=>den lp jn rec C N hl c σ K
 | .label _,σ,K=>K .normal σ
 | .loop c,σ,K=>match σ.thaws (hl.thaw (gn c)) with
  | none=>none
  | some σ=>match hl.loop (gn c) with
  | some hd=>match hd.at σ with
   | some rh=>match ff rh (fi hd.sl++wr hl c) (dH (eg σ rh)) σ,iw rh (bd (be rh++dH (eg σ rh)) σ.r++σ.roR) σ with
    | true,some x=>lp _ _ (fun again x=>den lp jn rec C N hl c (head rh (fi hd.sl++wr hl c) (dH (eg σ rh)) σ x) fun e σ'=>match e with
      | .normal=>match iw rh (bd (be rh++dH (eg σ rh)) σ.r++σ.roR) σ' with
       | some x'=>again x'
       | none=>none
      | .ret=>K .ret (σ.un σ')
      | .exit i=>K (.exit i) (σ.un σ')) x
    | _,_=>none
   | none=>none
  | none=>none
 | .rangeFunc g ps assign body,σ,K=>match hl.inner,Bm C σ g with
  | false,some I=>match hl.loop (gn body) with
   | some hd=>match hd.at σ with
    | some rh=>match ff rh [] (dH (eg σ rh)) σ&&yi N I rh ps.toList,iw rh (bd (be rh++dH (eg σ rh)) σ.r++σ.roR) σ with
     | true,some x=>bif I.it.p I.x then lp _ _ (tq (den lp jn rec C N { hl with inner:=true } assign) (den lp jn rec C N { hl with inner:=true } body) I rh (dH (eg σ rh)) σ ps.toList K) (0,x) else none
     | _,_=>none
    | none=>none
   | none=>none
  | _,_=>none
 | _,_,_=>none
section
variable {N:Nat} {E:Env} {a:Act}
theorem Hu {σ:St} {b:Nat} {l:List At} (hm:Mod N E a σ.look) (hb:look σ.h b=some l):Mod N (E.zone σ.look (cZ l)) a ({ σ with h:=(b,gV (noX σ.look.r) l) ::σ.h,r:=(cZ l).map (fun i=>(i,.none))++σ.r }:St).look/\Keep E (E.zone σ.look (cZ l)):=by
 obtain ⟨m1,m2⟩:=qL hm (cZ l)
 have hrr:∀i,look ((cZ l).map (fun i=>((i,.none):Nat×RowS))++σ.r) i=(σ.look.app (.rkill (cZ l))).r i:=fun i=>iz (cZ l) σ.r i
 have hlk:({ σ with h:=(b,gV (noX σ.look.r) l) ::σ.h,r:=(cZ l).map (fun i=>(i,.none))++σ.r }:St).look=(σ.look.app (.rkill (cZ l))).setH b (gV (noX σ.look.r) l):=by
  simp only[St.look,Look.app,Look.setH]
  congr 1
  ·funext i;exact ai _ _ _ _
  ·funext i;exact iz (cZ l) σ.r i
 rw[hlk]
 refine ⟨?_,m2⟩
 have hz:∀i l',((σ.look.app (.rkill (cZ l))).setH b (gV (noX σ.look.r) l)).h i=some l'->∃l2,σ.look.h i=some l2:=fun i l' hi=>by
  simp only[Look.setH] at hi
  split at hi
  ·rename_i e;subst e;exact ⟨l,hb⟩
  ·exact ⟨l',hi⟩
 have hg:Glob (E.zone σ.look (cZ l)) ((σ.look.app (.rkill (cZ l))).setH b (gV (noX σ.look.r) l)):=by
  have G:=m1.glob
  refine ⟨G.below,G.zlt,G.z0,G.zfrom,fun i hi=>?_,G.rlive,fun i l' hi=>?_,fun i j l1 l2 hi hj hij=>?_,fun i r k hi hk=>?_,G.rinj,G.xg.ext rfl (Nat.le_refl _) (fun i x h=>⟨⟨x,h⟩,fun _ h=>h⟩) (fun b h=>.inl h) (fun j l' h=>.inr (by obtain ⟨l2,h2⟩:=hz j l' h;exact ⟨j,l2,h2,rfl⟩)) (fun j r b h h'=>.inr ⟨j,r,h,h'⟩)⟩
  ·simp only[Look.setH]
   split
   ·rfl
   ·exact G.live i hi
  ·obtain ⟨l2,h2⟩:=hz i l' hi
   exact G.own i l2 h2
  ·obtain ⟨l1',h1⟩:=hz i l1 hi
   obtain ⟨l2',h2⟩:=hz j l2 hj
   exact G.inj i j l1' l2' h1 h2 hij
  ·obtain ⟨h1,h2⟩:=G.rown i r k hi hk
   refine ⟨h1,fun j l' hj=>?_⟩
   obtain ⟨l2,h3⟩:=hz j l' hj
   exact h2 j l2 h3
 refine ⟨hg,m1.nodef,m1.size,m1.slots,fun i l' hi=>?_,m1.rows,m1.xs⟩
 simp only[Look.setH] at hi
 split at hi
 ·rename_i e
  subst e
  injection hi with hi
  subst hi
  obtain ⟨h1,cs,t,h2,h3,h4⟩:=hm.blks i l hb
  exact ⟨h1,cs,t,h2,jD hm (fun _ _ h=>xP h) (fun r _=>zG r) h3 fun r hr=>hr,h4⟩
 ·exact m1.blks i l' hi
theorem uf:∀{u:List Nat} {σ σ':St} {E:Env},Mod N E a σ.look->σ.thaws u=some σ'->∃E',dW E E'/\Keep E E'/\Fr σ σ'/\σ'.s=σ.s/\Mod N E' a σ'.look/\E'.w=E.w
 | [],σ,σ',E,hm,h=>by
  simp only[St.thaws,Option.some.injEq] at h
  subst h
  exact ⟨E,rfl,Keep.refl E,Fr.refl σ,rfl,hm,rfl⟩
 | s ::r,σ,σ',E,hm,h=>by
  simp only[St.thaws] at h
  split at h
  ·rename_i b _
   split at h
   ·rename_i l hl
    split at h
    ·rename_i h1 h2
     obtain ⟨m1,m2⟩:=Hu hm hl
     obtain ⟨E',g1,g2,g3,g4,g5,g6⟩:=uf m1 h
     refine (?_:∀hf:Fr σ ({ σ with h:=(b,gV (noX σ.look.r) l) ::σ.h,r:=(cZ l).map (fun i=>(i,.none))++σ.r }:St),_) ⟨rfl,rfl,fun i hi=>?_,fun i hi=>?_⟩
     ·intro hf
      exact ⟨E',dW.trans (E':=E.zone σ.look (cZ l)) rfl g1,m2.trans g2,hf.trans g3,g4,g5,g6⟩
     ·show look ((b,gV (noX σ.look.r) l) ::σ.h) i=_
      rw[ai,if_neg]
      intro e
      subst e
      rw[bS.2 hi] at h2
      cases h2
     ·show look ((cZ l).map (fun i=>((i,.none):Nat×RowS))++σ.r) i=_
      rw[iz,if_neg (fun e=>eP h1 i e hi)]
    ·cases h
   ·cases h
  ·cases h
theorem wj {σ:St} {c:Operand} {q:Bool} (h:HC σ c=some q) (hm:Mod N E a σ.look):a.eval c=.bool q:=by
 unfold HC at h
 split at h
 ·rename_i q' hg hc
  injection h with h
  subst h
  exact cW rfl (ly hm (fun _ _=>rfl) hg fun d hd=>by rw[hc] at hd;cases hd)
 ·cases h
theorem zU {p:Nat->Prop} (h:∃n,p n):∃n,p n/\∀m,p m->n<=m:=by
 obtain ⟨n,hn⟩:=h
 induction n using Nat.strongRecOn with
 | _ n ih =>
  by_cases hm:∃m,m<n/\p m
  ·obtain ⟨m,h1,h2⟩:=hm
   exact ih m h1 h2
  ·refine ⟨n,hn,fun m hpm=>?_⟩
   rcases Nat.lt_or_ge m n with h | h
   ·exact absurd ⟨m,h,hpm⟩ hm
   ·exact h
open Classical in
def xi (p:Nat->Prop):Nat:=if h:∃n,p n then Classical.choose (zU h) else 0
theorem vv {p:Nat->Prop} {m:Nat} (h:p m):p (xi p)/\xi p<=m:=by
 have hx:∃n,p n:=⟨m,h⟩
 unfold xi
 rw[dif_pos hx]
 obtain ⟨h1,h2⟩:=Classical.choose_spec (zU hx)
 exact ⟨h1,h2 m h⟩
theorem sL {F:Fence} {n0:Nat} {P:Program} {c:Code} {Q:Exit->Act->World->Prop} (I:Nat->Act->World->Prop) (round:∀n a w,I n a w->c.wpIn F n0 P (Exit.then (fun a' w'=>∃m,m<n/\I m a' w') Q) a w)
  {n:Nat} {a:Act} {w:World} (h₀:I n a w):(Code.loop c).wpIn F n0 P Q a w:=by
 refine wpIn_loop (fun a w=>∃n,I n a w) (fun a w=>xi fun n=>I n a w) ⟨n,h₀⟩ ?_
 rintro a w ⟨m,hm⟩
 refine wpIn_mono (round _ a w (vv (p:=fun n=>I n a w) hm).1) fun e a' w' hq=>?_
 cases e with
 | normal =>
  obtain ⟨k,h1,h2⟩:=hq
  exact ⟨⟨k,h2⟩,Nat.lt_of_le_of_lt (vv (p:=fun n=>I n a' w') h2).2 h1⟩
 | _=>exact hq
theorem va:∀{l:List (Nat×Bool×List Pat)} {i:Nat} {ag:Bool} {ps:List Pat},(Plc.slot i ag,ps) ∈ FSs l->i ∈ fi l
 | p ::r,i,ag,ps,h=>by
  simp only[FSs,List.mem_cons] at h
  rcases h with h | h
  ·simp only[Prod.mk.injEq,Plc.slot.injEq] at h
   rw[h.1.1]
   simp[fi]
  ·exact List.mem_cons_of_mem _ (va h)
theorem tv {σ:St}:∀{l:List (Nat×List Pat)} {rh:List (Plc×List Pat)} {i:Nat} {ag:Bool} {ps:List Pat},HT σ l=some rh->(Plc.slot i ag,ps) ∉ rh
 | [],rh,i,ag,ps,h=>by simp only[HT,Option.some.injEq] at h;subst h;simp
 | p ::r,rh,i,ag,ps,h=>by
  simp only[HT] at h
  split at h
  ·rename_i b l _ hl
   injection h with h
   subst h
   intro hm
   rcases List.mem_cons.1 hm with hm | hm
   ·cases hm
   ·exact tv hl hm
  ·cases h
theorem pV {σ:St}:∀{l:List (Nat×Option Nat×Pat)} {rh:List (Plc×List Pat)} {i:Nat} {ag:Bool} {ps:List Pat},Aw σ l=some rh->(Plc.slot i ag,ps) ∉ rh
 | [],rh,i,ag,ps,h=>by simp only[Aw,Option.some.injEq] at h;subst h;simp
 | (_,none,_) ::r,rh,i,ag,ps,h=>by
  simp only[Aw] at h
  split at h
  ·rename_i q l _ hl
   injection h with h
   subst h
   intro hm
   rcases List.mem_cons.1 hm with hm | hm
   ·cases hm
   ·exact pV hl hm
  ·cases h
 | (_,some _,_) ::r,rh,i,ag,ps,h=>by
  simp only[Aw] at h
  split at h
  ·rename_i b l _ hl
   split at h
   ·split at h
    ·injection h with h
     subst h
     intro hm
     rcases List.mem_cons.1 hm with hm | hm
     ·cases hm
     ·exact pV hl hm
    ·cases h
   ·cases h
  ·cases h
theorem mc:∀{rh:List (Plc×List Pat)} {x:TsR rh} {k i:Nat},(look (eQ rh x k) i).isSome=true->∃ag ps,(Plc.slot i ag,ps) ∈ rh
 | [],_,_,_,h=>by simp[eQ,look] at h
 | (.slot j ag,ps) ::r,x,k,i,h=>by
  simp only[eQ] at h
  rw[ai] at h
  split at h
  ·rename_i e
   subst e
   exact ⟨ag,ps,by simp⟩
  ·obtain ⟨ag',ps',h'⟩:=mc h
   exact ⟨ag',ps',by simp[h']⟩
 | (.blk _,ps) ::r,x,k,i,h=>by
  simp only[eQ] at h
  obtain ⟨ag',ps',h'⟩:=mc h
  exact ⟨ag',ps',by simp[h']⟩
 | (.row _,ps) ::r,x,k,i,h=>by
  simp only[eQ] at h
  obtain ⟨ag',ps',h'⟩:=mc h
  exact ⟨ag',ps',by simp[h']⟩
theorem lZ {hd:Hd} {rh:List (Plc×List Pat)} {W srcs:List Nat} {σ:St} {x:TsR rh} (hat:hd.at σ=some rh) {i:Nat} (hi:i ∉ fi hd.sl++W):look (head rh (fi hd.sl++W) srcs σ x).s i=look σ.s i:=by
 unfold Hd.at at hat
 split at hat
 ·rename_i l l2 hl hl2
  injection hat with hat
  subst hat
  simp only[head]
  rw[aI]
  cases hq:look (eQ (FSs hd.sl++(l++l2)) x σ.next) i with
  | some t =>
   exfalso
   obtain ⟨ag,ps,hm⟩:=mc (by rw[hq];rfl)
   rcases List.mem_append.1 hm with hm | hm
   ·exact hi (List.mem_append_left _ (va hm))
   ·rcases List.mem_append.1 hm with hm | hm
    ·exact tv hl hm
    ·exact pV hl2 hm
  | none =>
   simp only
   exact jK hi
 ·cases hat
theorem Bu {rh:List (Plc×List Pat)} {W srcs:List Nat} {σ:St} {x:TsR rh} {i:Nat} (hi:i ∉ bj rh):look (head rh W srcs σ x).h i=look σ.h i:=by
 simp only[head]
 rw[aI]
 cases hq:look (cM rh x σ.next) i with
 | some l=>exact absurd (eG.1 (by rw[hq];rfl)) hi
 | none=>rfl
theorem Fu {rh:List (Plc×List Pat)} {W srcs:List Nat} {σ:St} {x:TsR rh} {i:Nat} (hi:i ∉ srcs) (hw:i ∉ be rh) (hf:¬ (σ.next<=i/\i<σ.next+iT rh)):look (head rh W srcs σ x).r i=look σ.r i:=by
 simp only[head]
 rw[aI]
 cases hq:look (cv rh x σ.next) i with
 | some l=>exact (pR (by rw[hq];rfl)).elim (fun h=>absurd h hf) fun h=>absurd h hw
 | none =>
  simp only
  rw[aI,iu,if_neg hi]
theorem nP {rh:List (Plc×List Pat)} {W:List Nat} {srcs:List Nat} {σ:St} {x:TsR rh} (hok:ff rh W srcs σ=true) (hro:∀i ∈ σ.roR,(look σ.r i).isSome=true):Fr σ (σ.un (head rh W srcs σ x)):=by
 simp only[ff,z10] at hok
 obtain ⟨⟨⟨⟨⟨⟨k1,k2⟩,k3⟩,k4⟩,k5⟩,k6⟩,⟨⟨⟨k7,k8⟩,k9⟩,k10⟩⟩:=hok
 refine ⟨rfl,rfl,fun i hi=>Bu (W:=W) (srcs:=srcs) fun hb=>eP k4 i hb hi,fun i hi=>Fu (W:=W) (fun hs=>eP k5 i hs hi) (fun hs=>eP k7 i hs hi) fun hf=>?_⟩
 have:=hro i hi
 rw[ja k3 i hf.1 hf.2] at this
 cases this
theorem FK {σ σ' σ0:St} (h0:∀i ∈ σ.ro,i ∈ σ0.ro/\look σ0.h i=look σ.h i) (h1:∀i ∈ σ.roR,i ∈ σ0.roR/\look σ0.r i=look σ.r i) (hf:Fr σ0 σ'):Fr σ (σ.un σ') :=
 ⟨rfl,rfl,fun i hi=>(hf.h i (h0 i hi).1).trans (h0 i hi).2,fun i hi=>(hf.r i (h1 i hi).1).trans (h1 i hi).2⟩
theorem fh {α:Type} {W:List Nat} {i:Nat}:∀{l:List (Nat×α)},i ∈ bd W l->(look l i).isSome=true
 | p ::r,h=>by
  simp only[bd] at h
  rw[ai]
  split at h
  ·split
   ·rfl
   ·exact fh h
  ·split
   ·rfl
   ·rename_i hne
    rcases List.mem_cons.1 h with h | h
    ·exact absurd h hne
    ·exact fh h
theorem RoR.head {rh:List (Plc×List Pat)} {W srcs:List Nat} {σ:St} {x:TsR rh} (h:RoR σ) (hok:ff rh W srcs σ=true):RoR (head rh W srcs σ x):=fun i hi=>by
 simp only[ff,z10] at hok
 obtain ⟨⟨⟨⟨⟨⟨k1,k2⟩,k3⟩,k4⟩,k5⟩,k6⟩,⟨⟨⟨k7,k8⟩,k9⟩,k10⟩⟩:=hok
 have hsome:(look σ.r i).isSome=true:=by
  rcases List.mem_append.1 hi with hi | hi
  ·exact fh hi
  ·exact h i hi
 simp only[Dn.head]
 rw[aI]
 cases look (cv rh x σ.next) i with
 | some l=>rfl
 | none =>
  simp only
  rw[aI,iu]
  by_cases hs:i ∈ srcs
  ·simp[hs]
  ·simp only[if_neg hs];exact hsome
theorem J0 {rh:List (Plc×List Pat)} {W srcs:List Nat} {σ:St} {x:TsR rh} (hok:ff rh W srcs σ=true) (hro:RoR σ) :
  (∀i ∈ σ.ro,i ∈ (head rh W srcs σ x).ro/\look (head rh W srcs σ x).h i=look σ.h i)/\(∀i ∈ σ.roR,i ∈ (head rh W srcs σ x).roR/\look (head rh W srcs σ x).r i=look σ.r i):=by
 have:=nP (x:=x) hok hro
 exact ⟨fun i hi=>⟨List.mem_append_right _ hi,this.h i hi⟩,fun i hi=>⟨List.mem_append_right _ hi,this.r i hi⟩⟩
theorem rm {rh:List (Plc×List Pat)} {W srcs:List Nat} {σ:St} {x:TsR rh} (hok:ff rh W srcs σ=true) (hro:RoR σ) :
  (∀i ∈ (head rh W srcs σ x).ro,look (head rh W srcs σ x).h i=look σ.h i)/\(∀i ∈ (head rh W srcs σ x).roR,look (head rh W srcs σ x).r i=look σ.r i):=by
 have hok':=hok
 simp only[ff,z10] at hok
 obtain ⟨⟨⟨⟨⟨⟨k1,k2⟩,k3⟩,k4⟩,k5⟩,k6⟩,⟨⟨⟨k7,k8⟩,k9⟩,k10⟩⟩:=hok
 have hfr:=nP (x:=x) hok' hro
 have kb:∀{α:Type} {W:List Nat} {i:Nat} {l:List (Nat×α)},i ∈ bd W l->i ∉ W:=by
  intro α W i l
  induction l with
  | nil=>intro h;cases h
  | cons p r ih =>
   intro h
   simp only[bd] at h
   split at h
   ·exact ih h
   ·rename_i hm
    rcases List.mem_cons.1 h with h | h
    ·intro hw;rw[h] at hw;rw[bS.2 hw] at hm;cases hm
    ·exact ih h
 refine ⟨fun i hi=>?_,fun i hi=>?_⟩
 ·rcases List.mem_append.1 hi with hi | hi
  ·exact Bu (kb hi)
  ·exact hfr.h i hi
 ·rcases List.mem_append.1 hi with hi | hi
  ·refine Fu (fun h=>kb hi (List.mem_append_right _ h)) (fun h=>kb hi (List.mem_append_left _ h)) fun hf=>?_
   have:=fh hi
   rw[ja k3 i hf.1 hf.2] at this
   cases this
  ·exact hfr.r i hi
theorem Mod.same {g g':Look} (hm:Mod N E a g) (hs:g'.s=g.s) (hh:g'.h=g.h) (hr:g'.r=g.r):Mod N E a g':=hm.forget (fun i s h=>by rw[hs] at h;exact h) hh hr
theorem wv {w:World} {Z:Nat->Prop}:∀{l:List Sh} {x:TsS l} {vs:List Value},cu w Z l x vs->vs.length=l.length
 | [],_,_,h=>by simp only[cu] at h;subst h;rfl
 | _ ::_,_,_,h=>by
  simp only[cu] at h
  obtain ⟨v,vs',rfl,_,h2⟩:=h
  simp[wv h2]
theorem oT:∀{l:List Sh} {x:TsS l},(nJ l x).length=l.length
 | [],_=>rfl
 | _ ::r,x=>by simp[nJ,oT (l:=r)]
theorem wB {α:Type}:∀{l:List α},Gz l=l.length
 | []=>rfl
 | _ ::r=>by simp[Gz,wB (l:=r)]
theorem zA:∀{l:List (Nat×Nat)} {p:Nat×Nat},p ∈ l->p.1 ∈ Jh l
 | q ::r,p,h=>by
  rcases List.mem_cons.1 h with rfl | h
  ·simp[Jh]
  ·exact List.mem_cons_of_mem _ (zA h)
theorem wx {α:Type}:∀{l:List (Nat×α)},lj [] l=l
 | []=>rfl
 | p ::r=>by simp[lj,gp,wx (l:=r)]
theorem pW:∀{rh:List (Plc×List Pat)} {x:TsR rh} {k:Nat},td rh=true->eQ rh x k=[]
 | [],_,_,_=>rfl
 | (.blk _,_) ::r,x,k,h=>by simp only[eQ];exact pW (rh:=r) h
 | (.row _,_) ::r,x,k,h=>by simp only[eQ];exact pW (rh:=r) h
 | (.slot _ _,_) ::_,_,_,h=>by cases h
theorem KD {rh:List (Plc×List Pat)} {srcs:List Nat} {σ:St} {x:TsR rh} (h:td rh=true):(head rh [] srcs σ x).s=σ.s:=by
 simp only[head]
 rw[pW h,wx,List.nil_append]
def Mw (N:Nat) (C:Ctx) (F:Fence) (c:Code) {R:Type} (d:St->(Ex->St->Option R)->Option R) (z:R):Prop:=∀σ (K:Ex->St->Option R) (Q:Exit->Act->World->Prop) E a,d σ K=some z->RoR σ->E.P=C.P->Mod N E a σ.look ->
 (∀e σ' E' a',K e σ'=some z->dW E E'->Keep E E'->Fr σ σ'->Mod N E' a' σ'.look->Q e.to a' E'.w)->c.wpIn F 0 C.P Q a E.w
def Ex.code:Ex->Code
 | .ret=>.ret
 | .exit i=>.exit i
 | .normal=>.skip
theorem Hs {C:Ctx} (hC:C.ok) {R:Type} {z:R} {dA dB:St->(Ex->St->Option R)->Option R} {g:Operand} {ps:Array Tmp} {assign body:Code} (hA:∀L,Mw N C (Fence.wide.inRound L) assign dA z) (hB:∀L,Mw N C (Fence.wide.inRound L) body dB z)
  {σ:St} {K:Ex->St->Option R} {Q:Exit->Act->World->Prop} {I:Iter} {rh:List (Plc×List Pat)} {x0:TsR rh} (hit:Bm C σ g=some I) (hok:ff rh [] (dH (eg σ rh)) σ=true) (hrk:yi N I rh ps.toList=true) (hpx:I.it.p I.x=true)
  (hx0:iw rh (bd (be rh++dH (eg σ rh)) σ.r++σ.roR) σ=some x0) (h:lpK _ _ (tq dA dB I rh (dH (eg σ rh)) σ ps.toList K) (0,x0)=some z) (hro:RoR σ) (hP:E.P=C.P) (hrg:E.rg=true) (hm:Mod N E a σ.look)
  (hQ:∀e σ' E' a',K e σ'=some z->dW E E'->Keep E E'->Fr σ σ'->σ'.s=σ.s->Mod N E' a' σ'.look->Q e.to a' E'.w):(Code.rangeFunc g ps assign body).wpIn Fence.wide 0 C.P Q a E.w:=by
 unfold Bm at hit
 split at hit
 case h_2=>cases hit
 rename_i gf cap hg hgc
 split at hit
 case h_2=>cases hit
 rename_i it hci
 split at hit
 case h_2=>cases hit
 rename_i xc hcaps
 injection hit with hit
 subst hit
 obtain ⟨hcall,hitok⟩:=hC.it gf it hci
 have hv:=ly hm (fun _ _=>rfl) hg (fun c hc=>by rw[hgc] at hc;cases hc)
 obtain ⟨cs,hv1,hv2,_⟩:=hv
 match cs,hv2 with
 | [y],hv2 =>
 obtain ⟨hy,_⟩:=hv2
 have hvE:=hy
 obtain ⟨hy1,hy2⟩:=hy
 have hval:a.eval g=.func (.func gf) #[] (cap.map (eU E.β)).toArray:=by rw[hv1,hy1];rfl
 simp only[yi,z10] at hrk
 obtain ⟨q1,q2,q3,q4⟩:=hrk
 have q3:ps.toList.length=it.e.length:=by rw[<-wB,<-wB (l:=it.e)];exact Nat.beq_eq.mp q3
 have hsz:E.w0.heap.size<=E.w.heap.size:=hm.glob.below.size
 let srcs:=dH (eg σ rh)
 let len:=(it.m xc).length
 let F':=tq dA dB ⟨gf,it,xc,cap⟩ rh srcs σ ps.toList K
 let D:=E.w.heap.size
 let L:=E.w.heap.size+1
 let dm:Deferred:={ target:=.collected D,args:=#[] }
 let aD:Act:={ a with defers:=dm ::a.defers }
 refine wpIn_rangeFunc fun fn hfn=>?_
 let rec_:LoopState->Option Code->Loop:=fun st pe=>{ state:=st,pending:=pe,fn,tmps:=a.tmps,params:=ps,assign,body,defers:=D }
 let W1:=(E.w.alloc (.deferred (some []))).alloc (.loop (rec_ .ready none))
 have hL1:W1.heap[L]?=some (.loop (rec_ .ready none)):=by
  have:=World.alloc_heap_new (E.w.alloc (.deferred (some []))) (.loop (rec_ .ready none))
  rwa [World.size_alloc] at this
 have hD1:W1.heap[D]?=some (.deferred (some [])):=(Below.heap_alloc _ _ _ (by simp[D])).trans (World.alloc_heap_new E.w _)
 have hT1:Turned E.w.heap.size E.w W1:=(Turned.alloc _ _ _).trans (Turned.alloc _ _ _)
 have hsz1:W1.heap.size=E.w.heap.size+2:=by simp[W1]
 let E1:Env:={ E with w:=W1,Z:=fun b=>E.Z b\/b=D\/b=L }
 have hx1:Ext (fun _=>False) E E1:=⟨rfl,rfl,rfl,rfl,fun _ h=>.inl h,fun b hb _=>by
  rcases hT1.block b hb with h | ⟨h,_⟩
  ·exact h
  ·omega,fun _ _=>rfl,fun _ h=>h,fun _ _=>rfl,fun _ h=>h,Env.same_x⟩
 have hk1:Keep E E1:=hx1.keep hm.glob (fA.none E)
 have hlt:∀i l,σ.look.h i=some l->E.β i<E.w.heap.size:=fun i l hi=>by
  obtain ⟨_,cs,t,h2,_⟩:=hm.blks i l hi
  exact (Array.getElem?_eq_some_iff.1 h2).1
 have hxg1:XGlob E1 σ.look:=hm.glob.xg.ext rfl (by show E.w.heap.size<=W1.heap.size;omega) (fun i x h=>⟨⟨x,h⟩,fun _ h=>h⟩) (fun b h=>by
  rcases h with h | h | h
  ·exact .inl h
  ·exact .inr (.inl (by rw[h];exact Nat.le_refl _))
  ·exact .inr (.inl (by rw[h];exact Nat.le_succ _))) (fun j l h=>.inr ⟨j,l,h,rfl⟩) (fun j r b h h'=>.inr ⟨j,r,h,h'⟩)
 have hm1:Mod N E1 a σ.look:=by
  refine hm.move (fA.none E) hx1 ⟨(hT1.mono hsz).below hm.glob.below hsz,fun b hb=>?_,fun b hb=>.inl (hm.glob.z0 b hb),fun b hb=>?_,hm.glob.live,hm.glob.rlive,fun i l hi=>⟨(hm.glob.own i l hi).1,fun hz=>?_⟩,hm.glob.inj,fun i r b hi hb=>⟨fun hz=>?_,(hm.glob.rown i r b hi hb).2⟩,hm.glob.rinj,hxg1⟩ rfl hm.size (fun i s h=>.inl ⟨h,rfl⟩) (fun i l h=>.inl ⟨h,id⟩) (fun i r h=>.inl ⟨h,fun _ _=>id⟩) (fun i r h=>.inl ⟨h,rfl,fun _ _=>id⟩)
  ·show b<W1.heap.size
   rcases hb with hb | hb | hb
   ·have:=hm.glob.zlt b hb;omega
   ·show b<W1.heap.size;rw[hb,hsz1];simp only[D];omega
   ·show b<W1.heap.size;rw[hb,hsz1];simp only[L];omega
  ·rcases hb with hb | hb | hb
   ·exact hm.glob.zfrom b hb
   ·exact .inr (by rw[hb];exact hsz)
   ·exact .inr (by rw[hb];show E.w0.heap.size<=E.w.heap.size+1;omega)
  ·have:=hlt i l hi
   rcases hz with hz | hz | hz
   ·exact (hm.glob.own i l hi).2 hz
   ·have hz:E.β i=E.w.heap.size:=hz
    omega
   ·have hz:E.β i=E.w.heap.size+1:=hz
    omega
  ·have:=(hm.row_lt hi hb).2
   rcases hz with hz | hz | hz
   ·exact (hm.glob.rown i r b hi hb).1 hz
   ·simp only[D] at hz;omega
   ·simp only[L] at hz;omega
 have oD1:OBJ E1 D (.deferred (some [])):=⟨.inr (.inl rfl),hsz,hD1⟩
 have oL1:OBJ E1 L (.loop (rec_ .ready none)):=⟨.inr (.inr rfl),by show E.w0.heap.size<=E.w.heap.size+1;omega,hL1⟩
 have old:∀{b o},OBJ E b o->b<E.w.heap.size:=fun hb=>(Array.getElem?_eq_some_iff.1 hb.2.2).1
 have marks:∀E',Keep E E'->OBJ E' D (.deferred (some []))->eH E' aD.defers:=fun E' hk ho=>by
  refine ⟨⟨hk.rg.trans hrg,D,rfl,ho,fun d' hd' e=>?_⟩,hk.marks hm.nodef⟩
  have:∀{ds:List Deferred},eH E ds->d' ∈ ds->False:=by
   intro ds
   induction ds with
   | nil=>intro _ h;cases h
   | cons d ds ih =>
    intro hmk hdm
    obtain ⟨⟨_,r,h1,h2,_⟩,h4⟩:=hmk
    rcases List.mem_cons.1 hdm with hdm | hdm
    ·subst hdm
     rw[h1] at e
     injection e with e
     have:=old h2
     rw[e] at this
     simp only[D] at this
     omega
    ·exact ih h4 hdm
  exact this hm.nodef hd'
 obtain ⟨J,hJ⟩:∃J:Nat->World->Prop,∀k W,J k W↔∃(x:TsR rh) (m:Nat) (E':Env),jO F' m (k,x)=some z/\E'.w=W/\dW E1 E'/\Keep E1 E'/\Mod N E' aD (head rh [] srcs σ x).look:=⟨fun k W=>_,fun _ _=>Iff.rfl⟩
 obtain ⟨Jx,hJx⟩:∃Jx:World->Prop,∀W,Jx W↔∃(e:Ex) (σ2:St) (E':Env),e≠.normal/\K e { σ.un σ2 with s:=σ.s }=some z/\E'.w=W/\dW E E'/\Keep E E'/\OBJ E' D (.deferred (some []))/\OBJ E' L (.loop (rec_ .done (some e.code)))/\Mod N E' aD ({ σ.un σ2 with s:=σ.s }:St).look/\Fr σ { σ.un σ2 with s:=σ.s }:=⟨fun W=>_,fun _=>Iff.rfl⟩
 have turn:∀(E':Env) (o o':Obj),OBJ E' L o->Jl o=false->OBJ (E'.wset (E'.w.putObj L o')) L o'/\(∀b ob,b≠L->OBJ E' b ob->OBJ (E'.wset (E'.w.putObj L o')) b ob)/\Turned E'.w0.heap.size E'.w (E'.w.putObj L o')/\E'.w0.heap.size<=E'.w.heap.size:=by
  intro E' o o' oL hc
  refine ⟨⟨oL.1,oL.2.1,World.putObj_heap_same (Array.getElem?_eq_some_iff.1 oL.2.2).1⟩,fun b ob hb ho=>⟨ho.1,ho.2.1,?_⟩,Turned.putObj (w:=E'.w) o' oL.2.1 oL.2.2 hc,Nat.le_trans oL.2.1 (Nat.le_of_lt (Array.getElem?_eq_some_iff.1 oL.2.2).1)⟩
  rw[show (E'.wset (E'.w.putObj L o')).w=E'.w.putObj L o' from rfl,World.putObj_heap_other hb]
  exact ho.2.2
 have hDL:D≠L:=by simp only[D,L];omega
 have oldL:∀{b o},OBJ E b o->b≠L:=fun hb=>by have:=old hb;simp only[L];omega
 have noL:∀(E':Env) (l:Loop),OBJ E' L (.loop l)->∀b,OBJ E' b (.deferred (some []))->b≠L:=fun E' l ho b hb e=>by
  have h1:=ho.2.2
  have h2:=hb.2.2
  rw[e] at h2
  rw[h1] at h2
  cases h2
 have grown:∀(E':Env) (W':World),Turned E'.w.heap.size E'.w W'->∀b o,OBJ E' b o->W'.heap[b]?=some o:=fun E' W' hT b o ho=>by
  have hb:=(Array.getElem?_eq_some_iff.1 ho.2.2).1
  rcases hT.block b hb with h | ⟨h,_⟩
  ·rw[h];exact ho.2.2
  ·omega
 have hdone:∀(k:Nat) (x:TsR rh),¬ k<len->∀m,jO F' m (k,x)=some z->K .normal (σ.un (head rh [] srcs σ x))=some z:=fun k x hk m hl=>by
  cases m with
  | zero=>cases hl
  | succ m =>
   have hl:F' (jO F' m) (k,x)=some z:=hl
   simp only[F',tq] at hl
   have hb:Nat.blt k (it.m xc).length=false:=by
    rw[Bool.eq_false_iff];intro e;simp[Nat.blt] at e;simp only[len] at hk;omega
   rw[hb] at hl
   exact hl
 refine ⟨L,[dm],W1,{ target:=.fn (.func gf) (cap.map (eU E.β)).toArray,args:=#[.func (.yield L) #[] #[]] },W1,gf,#[.func (.yield L) #[] #[]]++(cap.map (eU E.β)).toArray,W1,run_enterLoop_outer _ _ _ _ _,?_,fun _ _=>trivial,?_,fun e=>(by cases e),?_⟩
 ·simp only[resolve,hval]
  simp[go_sem]
 ·simp[invoke,go_sem,er (hcall)]
 have hads:(cap.map (eU E.β))=(cap.map fun p=>(⟨E.β p.1,p.2,none⟩:Addr)).map fun a=>Value.pointer (some a):=by
  rw[List.map_map];rfl
 rw[hads]
 suffices hmain:CallsIn Fence.wide 0 C.P gf (#[.func (.yield L) #[] #[]]++((cap.map fun p=>(⟨E.β p.1,p.2,none⟩:Addr)).map fun a=>Value.pointer (some a)).toArray) W1 (fun e W'=>(∃v,e=.returned v)/\(J (it.m xc).length W'\/Jx W'))/\∀e W',((∃v,e=.returned v)/\(J (it.m xc).length W'\/Jx W'))->rangePost Fence.wide 0 C.P L Q { a with defers:=[dm]++a.defers } e W' from hmain.1.mono hmain.2
 unfold ICtr.ok at hitok
 have s1:=hitok L
 have s2:=s1 xc
 have s3:=s2 (cap.map fun p=>(⟨E.β p.1,p.2,none⟩:Addr))
 have s4:=s3 J
 have s5:=s4 Jx
 have s6:=s5 W1 hpx
 clear hitok s1 s2 s3 s4 s5
 refine ⟨s6 ?_ ?_ ?_ ?_ ?_ ?_,?_⟩
 ·
  intro k W W' hj hT
  obtain ⟨x,m,E',h1,rfl,h2,h3,h6⟩:=(hJ k W).1 hj
  have hsz':E'.w0.heap.size<=E'.w.heap.size:=h6.glob.below.size
  have hg:=grown E' W' hT
  exact (hJ _ _).2 ⟨x,m,E'.wset W',h1,rfl,h2.trans rfl,h3.turned (hT.mono hsz') hsz' fun b o hb=>hg b o (h3.obj b o hb),h6.turned (hT.mono hsz') rfl (eH.turned (fun b=>hg b _) h6.nodef)⟩
 ·intro W W' hj hT
  obtain ⟨e,σ2,E',h0,h1,rfl,h2,h3,h4,h5,h6,h7⟩:=(hJx W).1 hj
  have hsz':E'.w0.heap.size<=E'.w.heap.size:=h6.glob.below.size
  have hg:=grown E' W' hT
  exact (hJx _).2 ⟨e,σ2,E'.wset W',h0,h1,rfl,h2.trans rfl,h3.turned (hT.mono hsz') hsz' fun b o hb=>hg b o (h3.obj b o hb),⟨h4.1,h4.2.1,hg _ _ h4⟩,⟨h5.1,h5.2.1,hg _ _ h5⟩,h6.turned (hT.mono hsz') rfl (eH.turned (fun b=>hg b _) h6.nodef),h7⟩
 ·
  intro k W hj
  obtain ⟨x,m,E',h1,rfl,h2,h3,h6⟩:=(hJ k W).1 hj
  refine ⟨E'.Z,?_⟩
  have hβ:∀p ∈ cap,E'.β p.1=E.β p.1:=fun p hp=>by
   have h7:=(h3 (.clo gf cap) y (hk1 _ _ hvE)).1
   rw[hy1] at h7
   injection h7 with _ _ h7
   have h8:cap.map (eU E.β)=cap.map (eU E'.β):=by simpa using h7
   have h9:=List.map_inj_left.1 h8 p hp
   simp only[eU,Value.pointer.injEq,Option.some.injEq,Addr.mk.injEq] at h9
   exact h9.1.symm
  have h7:=uw (E:=E') hcaps fun p hp l' hl'=>h6.blks p.1 l' (by
   show look (head rh [] srcs σ x).h p.1=some l'
   rw[Bu (fun hb=>eP q1 p.1 hb (zA hp))]
   exact hl')
  have h8:(cap.map fun p=>(⟨E'.β p.1,p.2,none⟩:Addr))=cap.map fun p=>⟨E.β p.1,p.2,none⟩:=List.map_congr_left fun p hp=>by rw[hβ p hp]
  rw[h8] at h7
  exact h7
 ·
  exact ⟨E1.Z,uw (E:=E1) hcaps fun p _ l' hl'=>hm1.blks p.1 l' hl',fun s y cs hd k W' hj=>by
   obtain ⟨x,m,E',h1,rfl,h2,h3,h6⟩:=(hJ k W').1 hj
   exact ⟨E'.Z,h3.dat hd⟩⟩
 ·
  intro k y' vals W hky hj hvals
  obtain ⟨x,m,E',h1,rfl,h2,h3,h6⟩:=(hJ k W).1 hj
  have hk:k<len:=(List.getElem?_eq_some_iff.1 hky).1
  have hvl:vals.length=it.e.length:=wv (hvals E'.Z)
  have h4:=h3.obj _ _ oD1
  have h5:=h3.obj _ _ oL1
  cases m with
  | zero=>cases h1
  | succ m =>
  have hround:F' (jO F' m) (k,x)=some z:=h1
  simp only[F',tq] at hround
  rw[show Nat.blt k (it.m xc).length=true by simp[Nat.blt];exact hk,cond_true] at hround
  have hget:(it.m xc).getD k (BL it.e)=y':=by simp[List.getD,hky]
  have hy0:=run_yield (P:=C.P) (args:=vals.toArray) h5.2.2 (by show vals.toArray.size=ps.size;simp[hvl,<-q3])
  refine ⟨fn,_,assign,body,hy0,roundIn_of_wpIn trivial ?_⟩
  have hroh:RoR (head rh [] srcs σ x):=hro.head hok
  have hm0:Mod N E' { tmps:=a.tmps,defers:=[] } (head rh [] srcs σ x).look:=h6.rest (Keep.refl E') h6.memOk rfl rfl trivial
  have hmr:=zu (N:=N) (ps:=ps.toList) (cs:=nJ it.e y') (vs:=vals) (h:=(head rh [] srcs σ x).h) (r:=(head rh [] srcs σ x).r) (nx:=(head rh [] srcs σ x).next) (ro:=(head rh [] srcs σ x).ro) (roR:=(head rh [] srcs σ x).roR) (s:=(head rh [] srcs σ x).s) (rH (hvals E'.Z)) q2 (by rw[oT];exact q3) hm0
  have htm:(ps.zip vals.toArray).foldl (fun (t:Array Value) (p:Tmp×Value)=>t.setIfInBounds p.1 p.2) a.tmps=(ps.toList.zip vals).foldl (fun t p=>t.setIfInBounds p.1 p.2) a.tmps:=by
   rw[<-Array.foldl_toList,Array.toList_zip]
  rw[<-htm] at hmr
  have hrnd:(rnd ⟨gf,it,xc,cap⟩ rh srcs σ ps.toList k x)=⟨zg ps.toList (nJ it.e y') (head rh [] srcs σ x).s,(head rh [] srcs σ x).h,(head rh [] srcs σ x).r,(head rh [] srcs σ x).next,(head rh [] srcs σ x).ro,(head rh [] srcs σ x).roR⟩:=by
   unfold rnd
   rw[hget]
  rw[hrnd] at hround
  refine hA L _ _ _ E' _ hround hroh (h2.P.trans hP) hmr fun e σ1 Ea a1 hk2 hs1 hkp1 hf1 hma=>?_
  cases e with
  | ret=>cases hk2
  | exit i=>cases hk2
  | normal =>
  simp only at hk2
  have oLa:=hkp1.obj _ _ h5
  have oDa:=hkp1.obj _ _ h4
  obtain ⟨t1,t2,t3,t4⟩:=turn Ea _ (.loop (rec_ .busy none)) oLa rfl
  refine ⟨_,run_beginRound oLa.2.2 rfl,?_⟩
  have hm2:=hma.turned t3 (a2:=a1) rfl (eH.turned (fun b hb=>(t2 b _ (noL Ea _ oLa b hb) hb).2.2) hma.nodef)
  refine hB L σ1 _ _ (Ea.wset (Ea.w.putObj L (.loop (rec_ .busy none)))) a1 hk2 (fun i hi=>by rw[hf1.roR] at hi;rw[hf1.r i hi];exact hroh i hi) (hs1.P.trans (h2.P.trans hP)) hm2 fun e σ2 E3 a3 hk3 hs3 hkp3 hf3 hm3=>?_
  have oL3:=hkp3.obj _ _ t1
  have oD3:=hkp3.obj _ _ (t2 _ _ hDL oDa)
  have back:∀(o':Obj),dW E1 (E3.wset (E3.w.putObj L o'))/\(∀x v,fF E1 x v->fF (E3.wset (E3.w.putObj L o')) x v)/\(∀b o,b≠L->OBJ E1 b o->OBJ (E3.wset (E3.w.putObj L o')) b o)/\OBJ (E3.wset (E3.w.putObj L o')) L o'/\MemOk (E3.wset (E3.w.putObj L o')) σ2.look:=fun o'=>by
   obtain ⟨u1,u2,u3,u4⟩:=turn E3 _ o' oL3 rfl
   exact ⟨((h2.trans hs1).trans (E'':=E3) hs3).trans rfl,fun x v hv=>fF.turned u3 u4 (hkp3 x v (fF.turned t3 t4 (hkp1 x v (h3 x v hv)))),fun b o hb ho=>u2 b o hb (hkp3.obj b o (t2 b o hb (hkp1.obj b o (h3.obj b o ho)))),u1,hm3.memOk.turned u3⟩
  have rgc:E3.rg=E.rg:=hkp3.rg.trans (hkp1.rg.trans h3.rg)
  have hh:∀i ∈ bd (bj rh) σ.h++σ.ro,look σ2.h i=look σ.h i:=fun i hi=>by
   obtain ⟨r1,_⟩:=rm (x:=x) hok hro
   have e1:=hf1.h i hi
   have e3:=hf3.h i (by rw[hf1.ro];exact hi)
   exact (e3.trans e1).trans (r1 i hi)
  have hr:∀i ∈ bd (be rh++srcs) σ.r++σ.roR,look σ2.r i=look σ.r i:=fun i hi=>by
   obtain ⟨_,r2⟩:=rm (x:=x) hok hro
   have e1:=hf1.r i hi
   have e3:=hf3.r i (by rw[hf1.roR];exact hi)
   exact (e3.trans e1).trans (r2 i hi)
  have hfr:Fr σ { σ.un σ2 with s:=σ.s }:=⟨rfl,rfl,fun i hi=>hh i (List.mem_append_right _ hi),fun i hi=>hr i (List.mem_append_right _ hi)⟩
  have leave:∀(e:Ex),e≠.normal->K e { σ.un σ2 with s:=σ.s }=some z->Jx (E3.w.putObj L (.loop (rec_ .done (some e.code)))):=fun e he hke=>by
   obtain ⟨b1,b2,b3,b4,b5⟩:=back (.loop (rec_ .done (some e.code)))
   have hkE:Keep E (E3.wset (E3.w.putObj L (.loop (rec_ .done (some e.code))))):=⟨rgc,fun x v hv=>b2 x v (hk1 x v hv),fun b o ho=>b3 b o (oldL ho) (hk1.obj b o ho)⟩
   have hoD:=b3 _ _ hDL oD1
   exact (hJx _).2 ⟨e,σ2,_,he,hke,rfl,(show dW E E1 from rfl).trans b1,hkE,hoD,b4,hm.rest (g':=({ σ.un σ2 with s:=σ.s }:St).look) hkE (b5.of rfl rfl) rfl rfl (marks _ hkE hoD),hfr⟩
  cases e with
  | normal =>
   simp only at hk3
   split at hk3
   case h_2=>cases hk3
   rename_i x' hx'
   obtain ⟨b1,b2,b3,b4,b5⟩:=back (.loop (rec_ .ready none))
   have hkE1:Keep E1 (E3.wset (E3.w.putObj L (.loop (rec_ .ready none)))):=⟨rgc,b2,fun b o ho=>by
    by_cases hb:b=L
    ·subst hb
     have:some o=some (Obj.loop (rec_ .ready none)):=by rw[<-ho.2.2];exact oL1.2.2
     injection this with this
     subst this
     exact b4
    ·exact b3 b o hb ho⟩
   have hoD:=b3 _ _ hDL oD1
   have hm4:=hm1.rest (a':=aD) (g':=({ σ2 with s:=σ.s }:St).look) hkE1 (b5.of rfl rfl) rfl rfl (marks _ (hk1.trans hkE1) hoD)
   obtain ⟨E5,g1,g2,g3,g4⟩:=gx (E0:=E1) (a0:=a) (W:=[]) hok hm1 hkE1 hm4 hx' (fun _ _=>rfl) hh hr
   refine ⟨_,_,run_endRound none oL3.2.2,.inl ⟨rfl,(hJ _ _).2 ⟨x',m,E5,hk3,?_,b1.trans g1,g3,g4⟩⟩⟩
   rw[g2]
   rfl
  | ret=>exact ⟨_,_,run_endRound (some .ret) oL3.2.2,.inr ⟨rfl,leave .ret (by simp) hk3⟩⟩
  | exit i=>exact ⟨_,_,run_endRound (some (.exit i)) oL3.2.2,.inr ⟨rfl,leave (.exit i) (by simp) hk3⟩⟩
 ·have h':jO F' K0 (0,x0)=some z:=by rw[LL] at h;exact h
  have hma:Mod N E1 aD σ.look:=hm1.rest (Keep.refl E1) hm1.memOk rfl rfl (marks E1 hk1 oD1)
  obtain ⟨E5,g1,g2,g3,g4⟩:=gx (E0:=E1) (a0:=a) (W:=[]) hok hm1 (Keep.refl E1) hma hx0 (fun _ _=>rfl) (fun _ _=>rfl) (fun _ _=>rfl)
  exact (hJ _ _).2 ⟨x0,K0,E5,h',g2,g1,g3,g4⟩
 ·
  rintro e W2 ⟨⟨v,rfl⟩,hj | hj⟩
  ·obtain ⟨x,m,E',h1,rfl,h2,h3,h6⟩:=(hJ _ _).1 hj
   have h5:=h3.obj _ _ oL1
   have h4:=h3.obj _ _ oD1
   obtain ⟨t1,t2,t3,t4⟩:=turn E' _ (.loop (rec_ .exhausted none)) h5 rfl
   have hkE:=hk1.trans h3
   have hkE2:Keep E (E'.wset (E'.w.putObj L (.loop (rec_ .exhausted none)))):=hkE.turned t3 t4 fun b o ho=>(t2 b o (oldL ho) (hkE.obj b o ho)).2.2
   refine ⟨none,_,run_endLoop h5.2.2 (by simp[rec_]),?_⟩
   exact hQ .normal (σ.un (head rh [] srcs σ x)) (E'.wset (E'.w.putObj L (.loop (rec_ .exhausted none)))) aD (hdone _ x (by omega) m h1) ((show dW E E1 from rfl).trans (h2.trans rfl)) hkE2 (nP hok hro) (KD (srcs:=srcs) (σ:=σ) (x:=x) q4) (h6.turned t3 rfl (marks _ hkE2 (t2 _ _ hDL h4)))
  ·obtain ⟨e',σ2,E',h0,h1,rfl,h2,h3,h4,h5,h6,h7⟩:=(hJx _).1 hj
   obtain ⟨t1,t2,t3,t4⟩:=turn E' _ (.loop (rec_ .exhausted (some e'.code))) h5 rfl
   have hkE2:Keep E (E'.wset (E'.w.putObj L (.loop (rec_ .exhausted (some e'.code))))):=h3.turned t3 t4 fun b o ho=>(t2 b o (oldL ho) (h3.obj b o ho)).2.2
   refine ⟨some e'.code,_,run_endLoop h5.2.2 (by simp[rec_]),?_⟩
   have fin:=hQ e' { σ.un σ2 with s:=σ.s } (E'.wset (E'.w.putObj L (.loop (rec_ .exhausted (some e'.code))))) aD h1 (h2.trans rfl) hkE2 h7 rfl (h6.turned t3 rfl (marks _ hkE2 (t2 _ _ hDL h4)))
   cases e' with
   | normal=>exact absurd rfl h0
   | ret=>exact wpIn_ret fin
   | exit i=>exact wpIn_exit fin
def EOk (C:Ctx) (hl:Hint) (E:Env):Prop:=E.P=C.P/\(hl.inner=false->E.rg=true)
theorem EOk.next {C:Ctx} {hl:Hint} {E E':Env} (h:EOk C hl E) (hs:dW E E') (hk:Keep E E'):EOk C hl E':=⟨hs.P.trans h.1,fun hi=>hk.rg.trans (h.2 hi)⟩
theorem gy {P:Program} {b:Frame} {a:Act} {k:List Item} {cs:List Frame} {w:World} {c:Code}:step P (lone (b.atR a (.code (.scope c) ::k)) cs w)=.next (lone (b.atR a (.code c ::.inScope c ::k)) cs w) :=
 step_lone_go (by simp[stepG,stepG.exec,Frame.atR])
theorem vl {P:Program} {b:Frame} {a:Act} {k:List Item} {cs:List Frame} {w:World} {c:Code}:step P (lone (b.atR a (.inScope c ::k)) cs w)=.next (lone (b.atR a k) cs w) :=
 step_lone_go (by simp[stepG,stepG.exec,Frame.atR])
theorem qy {c:Code} {id:Nat} {k:List Item}:exitTo id (.inScope c ::k)=exitTo id k:=by simp[exitTo]
theorem AI {F:Fence} {n:Nat} {P:Program} {Q:Exit->Act->World->Prop} {a:Act} {w:World} {c:Code} (h:c.wpIn F n P (Exit.noGoto Q) a w):(Code.scope c).wpIn F n P Q a w:=by
 intro b k cs hro hb hr
 have h0:(lone (b.atR a (.code (.scope c) ::k)) cs w).fenced P F:=fenced_calm hb hr rfl
 obtain ⟨e,a₁,w₁,hq,harr⟩:=h b (.inScope c ::k) cs hro hb hr
 cases e with
 | normal=>exact ⟨.normal,a₁,w₁,hq,.head h0 gy (StepsIn.trans harr (.one (fenced_calm hb hr rfl) vl))⟩
 | exit id' =>
  exact ⟨.exit id',a₁,w₁,hq,fun k' hk=>.head h0 gy (harr.1 k' (by rw[qy];exact hk)),
   fun hr' hk=>let ⟨k₁,h1,h2⟩:=harr.2 hr' (by rw[qy];exact hk);⟨k₁,h1,.head h0 gy h2⟩⟩
 | goto l=>exact hq.elim
 | ret=>exact ⟨_,a₁,w₁,hq,.of_steps (.one h0 gy) harr⟩
 | panic ch=>exact ⟨_,a₁,w₁,hq,.of_steps (.one h0 gy) harr⟩
 | outgrown=>exact ⟨_,a₁,w₁,hq,.of_steps (.one h0 gy) harr⟩
theorem eM {rec:Inl} {C:Ctx} (hC:C.ok) (hI:yn C rec) (aw:C.P.follows .mixedOrders=true) {R:Type} {z:R}:∀{c:Code} {F:Fence} {hl:Hint} {σ:St} {K:Ex->St->Option R} {Q:Exit->Act->World->Prop} {E:Env} {a:Act},oe F->(hl.inner=false->F=Fence.wide)->den lpK jnK rec C N hl c σ K=some z->RoR σ->EOk C hl E->Mod N E a σ.look ->
  (∀e σ' E' a',K e σ'=some z->dW E E'->Keep E E'->Fr σ σ'->(∀i,i ∉ wr hl c->look σ'.s i=look σ.s i)->Mod N E' a' σ'.look->Q e.to a' E'.w)->c.wpIn F 0 C.P Q a E.w
 | .skip,F,hl,σ,K,Q,E,a,hW,hin,h,_,_,hm,hQ=>wpIn_skip (hQ .normal σ E a h rfl (Keep.refl E) (Fr.refl σ) (fun _ _=>rfl) hm)
 | .region id ops draw,F,hl,σq,K,Q,Eq,a,hW,hin,h,hroq,hPq,hmq,hQq=>by
  simp only[den] at h
  split at h
  ·cases h
  rename_i σ hth
  obtain ⟨E,hsq,hkq,hfq,hslq,hm,hwq⟩:=uf hmq hth
  have hro:RoR σ:=hroq.fr hfq
  have hP:=hPq.next hsq hkq
  rw[<-hwq]
  have hQ:∀e σ' E' a',K e σ'=some z->dW E E'->Keep E E'->Fr σ σ'->(∀i,i ∉ wr hl (.region id ops draw)->look σ'.s i=look σ.s i)->Mod N E' a' σ'.look->Q e.to a' E'.w:=fun e σ' E' a' hk hs hkp hf hsl hm' =>
   hQq e σ' E' a' hk (hsq.trans hs) (hkq.trans hkp) (hfq.trans hf) (fun i hi=>(hsl i hi).trans (by rw[hslq])) hm'
  clear hQq hmq hPq hroq
  split at h
  ·cases h
  rename_i hnd
  split at h
  ·exact wpIn_region_list (AY hC hI hW hnd h hro hP.1 hm fun σ' E' a' hk hs hkp hf hsl hm'=>hQ .normal σ' E' a' hk hs hkp hf (fun i hi=>hsl i hi) hm')
  ·obtain ⟨es,σ',hr,hk⟩:=ut h
   split at hk
   ·rename_i hck
    obtain ⟨hf,hsl⟩:=hr.frame
    exact IR hC hW aw hr hck hnd hP.1 hm fun E' a' hs hkp hm'=>hQ .normal σ' E' a' hk hs hkp hf (fun i hi=>hsl i hi) hm'
   ·cases hk
 | .seq x y,F,hl,σ,K,Q,E,a,hW,hin,h,hro,hP,hm,hQ=>by
  simp only[den] at h
  refine wpIn_seq (eM hC hI aw hW hin h hro hP hm fun e σ' E' a' hk hs hkp hf hsl hm'=>?_)
  have hsl':∀i,i ∉ wr hl (.seq x y)->look σ'.s i=look σ.s i:=fun i hi=>hsl i fun hx=>hi (List.mem_append_left _ hx)
  cases e with
  | normal=>exact eM hC hI aw hW hin hk (hro.fr hf) (hP.next hs hkp) hm' fun e2 σ2 E2 a2 hk2 hs2 hkp2 hf2 hsl2 hm2=>hQ e2 σ2 E2 a2 hk2 (hs.trans hs2) (hkp.trans hkp2) (hf.trans hf2) (fun i hi=>(hsl2 i fun hx=>hi (List.mem_append_right _ hx)).trans (hsl' i hi)) hm2
  | ret=>exact hQ .ret σ' E' a' hk hs hkp hf hsl' hm'
  | exit i=>exact hQ (.exit i) σ' E' a' hk hs hkp hf hsl' hm'
 | .cond c x y,F,hl,σ,K,Q,E,a,hW,hin,h,hro,hP,hm,hQ=>by
  simp only[den] at h
  split at h
  ·rename_i q hq
   split at h
   ·rename_i hj
    have sub:∀i,i ∉ wr hl (.cond c x y)->i ∉ wr hl x/\i ∉ wr hl y:=fun i hi=>⟨fun hx=>hi (List.mem_append_right _ (List.mem_append_left _ hx)),fun hy=>hi (List.mem_append_right _ (List.mem_append_right _ hy))⟩
    refine wpIn_cond_split (wj hq hm) (fun ht=>?_) (fun hf=>?_)
    ·rw[ht] at h
     exact eM hC hI aw hW hin h hro hP hm fun e σ' E' a' hk hs hkp hf hsl hm'=>hQ e σ' E' a' hk hs hkp hf (fun i hi=>hsl i (sub i hi).1) hm'
    ·rw[hf] at h
     exact eM hC hI aw hW hin h hro hP hm fun e σ' E' a' hk hs hkp hf hsl hm'=>hQ e σ' E' a' hk hs hkp hf (fun i hi=>hsl i (sub i hi).2) hm'
   ·rename_i hd hj
    unfold lJ at h
    split at h
    ·rename_i rh hat
     split at h
     ·rename_i hok
      simp only[jnK,Fb] at h
      have fin:∀(cc:Code) {σ':St} {E':Env} {a':Act} (e:Ex),(match e with
        | .normal=>match iw rh (bd (be rh++dH (eg σ rh)) σ.r++σ.roR) σ' with
         | some x'=>K .normal (σ.un (head rh (fi hd.sl++(wr hl x++wr hl y)) (dH (eg σ rh)) σ x'))
         | none=>none
        | .ret=>K .ret (σ.un σ')
        | .exit i=>K (.exit i) (σ.un σ'))=some z->dW E E'->Keep E E'->Fr { σ with ro:=bd (bj rh) σ.h++σ.ro,roR:=bd (be rh++dH (eg σ rh)) σ.r++σ.roR } σ' ->
        (∀i,i ∉ wr hl x++wr hl y->look σ'.s i=look σ.s i)->Mod N E' a' σ'.look->Q e.to a' E'.w:=by
       intro cc σ' E' a' e hk hs hkp hf hsl hm'
       have hfu:Fr σ (σ.un σ'):=FK (σ0:={ σ with ro:=bd (bj rh) σ.h++σ.ro,roR:=bd (be rh++dH (eg σ rh)) σ.r++σ.roR }) (fun i hi=>⟨List.mem_append_right _ hi,rfl⟩) (fun i hi=>⟨List.mem_append_right _ hi,rfl⟩) hf
       have hsl':∀i,i ∉ wr hl (.cond c x y)->look σ'.s i=look σ.s i:=fun i hi=>hsl i fun hx=>hi (List.mem_append_right _ hx)
       cases e with
       | normal =>
        simp only at hk
        split at hk
        ·rename_i x' hx'
         obtain ⟨E2,h1,h2,h3,h4⟩:=gx (W:=fi hd.sl++(wr hl x++wr hl y)) hok hm hkp hm' hx' (fun i hi=>hsl i fun hx=>hi (List.mem_append_right _ hx)) hf.h hf.r
         have:=hQ .normal _ E2 a' hk (hs.trans h1) h3 (nP hok hro) (fun i hi=>lZ (srcs:=dH (eg σ rh)) (x:=x') hat fun hx=>hi (by
          rcases List.mem_append.1 hx with hx | hx
          ·exact List.mem_append_left _ (by rw[hj];exact hx)
          ·exact List.mem_append_right _ hx)) (h4.same rfl rfl rfl)
         rw[h2] at this
         exact this
        ·cases hk
       | ret=>exact hQ .ret _ E' a' hk hs hkp hfu hsl' (hm'.same rfl rfl rfl)
       | exit i=>exact hQ (.exit i) _ E' a' hk hs hkp hfu hsl' (hm'.same rfl rfl rfl)
      have hro':RoR { σ with ro:=bd (bj rh) σ.h++σ.ro,roR:=bd (be rh++dH (eg σ rh)) σ.r++σ.roR }:=fun i hi=>by
       rcases List.mem_append.1 hi with hi | hi
       ·exact fh hi
       ·exact hro i hi
      refine wpIn_cond_split (wj hq hm) (fun ht=>?_) (fun hf=>?_)
      ·rw[ht] at h
       exact eM hC hI aw hW hin h hro' hP (hm.same rfl rfl rfl) fun e σ' E' a' hk hs hkp hf hsl hm'=>fin x e hk hs hkp hf (fun i hi=>hsl i fun hx=>hi (List.mem_append_left _ hx)) hm'
      ·rw[hf] at h
       exact eM hC hI aw hW hin h hro' hP (hm.same rfl rfl rfl) fun e σ' E' a' hk hs hkp hf hsl hm'=>fin y e hk hs hkp hf (fun i hi=>hsl i fun hx=>hi (List.mem_append_right _ hx)) hm'
     ·cases h
    ·cases h
  ·cases h
 | .block id c,F,hl,σ,K,Q,E,a,hW,hin,h,hro,hP,hm,hQ=>by
  simp only[den] at h
  have blk:∀{K':Ex->St->Option R} {e:Ex} {σ':St} {a':Act} {w':World},xF id K' e σ'=some z->(∀e',K' e' σ'=some z->Q e'.to a' w')->Exit.inBlock id Q e.to a' w':=by
   intro K' e σ' a' w' hk hq
   cases e with
   | normal=>exact hq .normal hk
   | ret=>exact hq .ret hk
   | exit i =>
    simp only[xF] at hk
    show Exit.inBlock id Q (.exit i) a' w'
    simp only[Exit.inBlock]
    split at hk
    ·rename_i hi
     have hi:i=id:=by simpa using hi
     rw[if_pos hi]
     exact hq .normal hk
    ·rename_i hi
     rw[if_neg (fun e=>by subst e;simp at hi)]
     exact hq (.exit i) hk
  split at h
  ·rename_i hj
   exact wpIn_block (eM hC hI aw hW hin h hro hP hm fun e σ' E' a' hk hs hkp hf hsl hm'=>blk hk fun e' hk'=>hQ e' σ' E' a' hk' hs hkp hf (fun i hi=>hsl i fun hx=>hi (List.mem_append_right _ hx)) hm')
  ·rename_i hd hj
   unfold lJ at h
   split at h
   ·rename_i rh hat
    split at h
    ·rename_i hok
     simp only[jnK,Fb] at h
     have hro':RoR { σ with ro:=bd (bj rh) σ.h++σ.ro,roR:=bd (be rh++dH (eg σ rh)) σ.r++σ.roR }:=fun i hi=>by
      rcases List.mem_append.1 hi with hi | hi
      ·exact fh hi
      ·exact hro i hi
     refine wpIn_block (eM hC hI aw hW hin h hro' hP (hm.same rfl rfl rfl) fun e σ' E' a' hk hs hkp hf hsl hm'=>blk hk fun e' hk'=>?_)
     have hfu:Fr σ (σ.un σ'):=FK (σ0:={ σ with ro:=bd (bj rh) σ.h++σ.ro,roR:=bd (be rh++dH (eg σ rh)) σ.r++σ.roR }) (fun i hi=>⟨List.mem_append_right _ hi,rfl⟩) (fun i hi=>⟨List.mem_append_right _ hi,rfl⟩) hf
     have hsl':∀i,i ∉ wr hl (.block id c)->look σ'.s i=look σ.s i:=fun i hi=>hsl i fun hx=>hi (List.mem_append_right _ hx)
     cases e' with
     | normal =>
      simp only at hk'
      split at hk'
      ·rename_i x' hx'
       obtain ⟨E2,h1,h2,h3,h4⟩:=gx (W:=fi hd.sl++wr hl c) hok hm hkp hm' hx' (fun i hi=>hsl i fun hx=>hi (List.mem_append_right _ hx)) hf.h hf.r
       have:=hQ .normal _ E2 a' hk' (hs.trans h1) h3 (nP hok hro) (fun i hi=>lZ (srcs:=dH (eg σ rh)) (x:=x') hat fun hx=>hi (by
        rcases List.mem_append.1 hx with hx | hx
        ·exact List.mem_append_left _ (by rw[hj];exact hx)
        ·exact List.mem_append_right _ hx)) (h4.same rfl rfl rfl)
       rw[h2] at this
       exact this
      ·cases hk'
     | ret=>exact hQ .ret _ E' a' hk' hs hkp hfu hsl' (hm'.same rfl rfl rfl)
     | exit i=>exact hQ (.exit i) _ E' a' hk' hs hkp hfu hsl' (hm'.same rfl rfl rfl)
    ·cases h
   ·cases h
 | .exit id,F,hl,σ,K,Q,E,a,hW,hin,h,_,_,hm,hQ=>wpIn_exit (hQ (.exit id) σ E a h rfl (Keep.refl E) (Fr.refl σ) (fun _ _=>rfl) hm)
 | .ret,F,hl,σ,K,Q,E,a,hW,hin,h,_,_,hm,hQ=>wpIn_ret (hQ .ret σ E a h rfl (Keep.refl E) (Fr.refl σ) (fun _ _=>rfl) hm)
 | .loop c,F,hl,σq,K,Q,Eq,a,hW,hin,h,hroq,hPq,hmq,hQq=>by
  simp only[den] at h
  split at h
  ·cases h
  rename_i σ hth
  obtain ⟨E,hsq,hkq,hfq,hslq,hm,hwq⟩:=uf hmq hth
  have hro:RoR σ:=hroq.fr hfq
  have hP:=hPq.next hsq hkq
  rw[<-hwq]
  have hQ:∀e σ' E' a',K e σ'=some z->dW E E'->Keep E E'->Fr σ σ'->(∀i,i ∉ wr hl (.loop c)->look σ'.s i=look σ.s i)->Mod N E' a' σ'.look->Q e.to a' E'.w:=fun e σ' E' a' hk hs hkp hf hsl hm' =>
   hQq e σ' E' a' hk (hsq.trans hs) (hkq.trans hkp) (hfq.trans hf) (fun i hi=>(hsl i hi).trans (by rw[hslq])) hm'
  clear hQq hmq hPq hroq
  split at h
  ·rename_i hd hlp
   split at h
   ·rename_i rh hat
    split at h
    ·rename_i x0 hok hx0
     obtain ⟨E1,g1,g2,g3,g4⟩:=gx (E0:=E) (a0:=a) hok hm (Keep.refl E) hm hx0 (fun _ _=>rfl) (fun _ _=>rfl) (fun _ _=>rfl)
     let F':(TsR rh->Option R)->TsR rh->Option R:=fun again x=>den lpK jnK rec C N hl c (head rh (fi hd.sl++wr hl c) (dH (eg σ rh)) σ x) fun e σ'=>match e with
      | .normal=>match iw rh (bd (be rh++dH (eg σ rh)) σ.r++σ.roR) σ' with
       | some x'=>again x'
       | none=>none
      | .ret=>K .ret (σ.un σ')
      | .exit i=>K (.exit i) (σ.un σ')
     let I:Nat->Act->World->Prop:=fun n a' w'=>∃x E',jO F' n x=some z/\E'.w=w'/\dW E E'/\Keep E E'/\Mod N E' a' (head rh (fi hd.sl++wr hl c) (dH (eg σ rh)) σ x).look
     refine sL I ?_ (n:=K0) ⟨x0,E1,h,g2,g1,g3,g4⟩
     rintro n a' w' ⟨x,E',hloop,rfl,hs,hkp,hm'⟩
     cases n with
     | zero=>cases hloop
     | succ n =>
      have hround:F' (jO F' n) x=some z:=hloop
      refine eM hC hI aw hW hin hround (hro.head hok) (hP.next hs hkp) hm' fun e σ2 E2 a2 hk hs2 hkp2 hf2 hsl2 hm2=>?_
      obtain ⟨r1,r2⟩:=J0 (x:=x) hok hro
      obtain ⟨q1,q2⟩:=rm (x:=x) hok hro
      have hfu:Fr σ (σ.un σ2):=FK r1 r2 hf2
      have hsl':∀i,i ∉ wr hl (.loop c)->look σ2.s i=look σ.s i:=fun i hi=>(hsl2 i fun hx=>hi (List.mem_append_right _ hx)).trans (lZ hat fun hx=>hi (by
       rcases List.mem_append.1 hx with hx | hx
       ·exact List.mem_append_left _ (by rw[hlp];exact hx)
       ·exact List.mem_append_right _ hx))
      cases e with
      | normal =>
       simp only at hk
       split at hk
       ·rename_i x' hx'
        obtain ⟨E3,e1,e2,e3,e4⟩:=gx (E0:=E) (a0:=a) hok hm (hkp.trans hkp2) hm2 hx' (fun i hi=>(hsl2 i fun hx=>hi (List.mem_append_right _ hx)).trans (lZ hat hi)) (fun i hi=>(hf2.h i hi).trans (q1 i hi)) (fun i hi=>(hf2.r i hi).trans (q2 i hi))
        exact ⟨n,Nat.lt_succ_self n,x',E3,hk,e2,(hs.trans hs2).trans e1,e3,e4⟩
       ·cases hk
      | ret=>exact hQ .ret _ E2 a2 hk (hs.trans hs2) (hkp.trans hkp2) hfu hsl' (hm2.same rfl rfl rfl)
      | exit i=>exact hQ (.exit i) _ E2 a2 hk (hs.trans hs2) (hkp.trans hkp2) hfu hsl' (hm2.same rfl rfl rfl)
    ·cases h
   ·cases h
  ·cases h
 | .rangeFunc g ps assign body,F,hl,σ,K,Q,E,a,hW,hin,h,hro,hP,hm,hQ=>by
  simp only[den] at h
  split at h
  case h_2=>cases h
  rename_i I hinn hit
  split at h
  case h_2=>cases h
  split at h
  case h_2=>cases h
  split at h
  case h_2=>cases h
  rename_i x0 hok hx0
  rw[z10] at hok
  rw[hin hinn]
  cases hpx:I.it.p I.x with
  | false=>rw[hpx,cond_false] at h;cases h
  | true =>
  rw[hpx,cond_true] at h
  exact Hs hC (fun L σ' K' Q' E' a' h1 h2 h3 h4 h5=>eM hC hI aw (.inr ⟨L,rfl⟩) (fun e=>by cases e) h1 h2 ⟨h3,fun e=>by cases e⟩ h4 fun e σ2 E2 a2 k1 k2 k3 k4 _ k6=>h5 e σ2 E2 a2 k1 k2 k3 k4 k6)
   (fun L σ' K' Q' E' a' h1 h2 h3 h4 h5=>eM hC hI aw (.inr ⟨L,rfl⟩) (fun e=>by cases e) h1 h2 ⟨h3,fun e=>by cases e⟩ h4 fun e σ2 E2 a2 k1 k2 k3 k4 _ k6=>h5 e σ2 E2 a2 k1 k2 k3 k4 k6)
   hit hok.1 hok.2 hpx hx0 h hro hP.1 (hP.2 hinn) hm fun e σ' E' a' k1 k2 k3 k4 k5 k6=>hQ e σ' E' a' k1 k2 k3 k4 (fun i _=>by rw[k5]) k6
 | .scope c,F,hl,σ,K,Q,E,a,hW,hin,h,hro,hP,hm,hQ=>by
  simp only[den] at h
  exact AI (eM hC hI aw hW hin h hro hP hm fun e σ' E' a' hk hs hkp hf hsl hm'=>by
   have:=hQ e σ' E' a' hk hs hkp hf hsl hm'
   cases e<;>exact this)
 | .label l,F,hl,σ,K,Q,E,a,hW,hin,h,_,_,hm,hQ=>wpIn_label (hQ .normal σ E a (by simpa only[den] using h) rfl (Keep.refl E) (Fr.refl σ) (fun _ _=>rfl) hm)
 | .goto _,_,_,_,_,_,_,_,_,_,h,_,_,_,_=>by simp[den] at h
 | .refuse _,_,_,_,_,_,_,_,_,_,h,_,_,_,_=>by simp[den] at h
end
def gZ:(as:List Sh)->TsS as->Nat->List (Nat×Option SlotV)
 | [],_,_=>[]
 | s ::r,x,i=>(i,some ⟨none,.c s.isAgg (Sh.cells s x.1)⟩) ::gZ r x.2 (i+1)
def yY:(fs:List (List Sh×Sh))->TsF fs->Nat->List (Nat×Option SlotV)
 | [],_,_=>[]
 | s ::r,x,i=>(i,some ⟨none,.c false [.fn s.1 s.2 x.1]⟩) ::yY r x.2 (i+1)
def zH:(cs:List Sh)->TsS cs->Nat->List (Nat×Option SlotV)
 | [],_,_=>[]
 | s ::r,x,i=>(i,some ⟨none,.c false [.rf s x.1 0]⟩) ::zH r x.2 (i+1)
def Ctr.init (c:Ctr) (x:TsS c.as) (F:TsF c.fs) (y:TsS c.cs):St :=
 {s:=gZ c.as x 0++yY c.fs F c.as.length++zH c.cs y (c.as.length+c.fs.length),h:=[],r:=[],next:=0 }
def jh (P:Program) (g:Look):List ResultVar->Option (List SV)
 | []=>some []
 | .tmp t ::r=>match g.s t,jh P g r with
  | some ⟨none,s⟩,some l=>some (s ::l)
  | _,_=>none
 | .cell t ty ::r=>match g.s t,jh P g r with
  | some ⟨none,.c false [.ptr b off]⟩,some l=>match g.h b with
   | some m=>match iX P ty m off with
    | some s=>some (s ::l)
    | none=>none
   | none=>none
  | _,_=>none
def kK:(l:List Sh)->List SV->Option (TsS l)
 | [],[]=>some ()
 | s ::r,v ::vs=>match s.whole v,kK r vs with
  | some x,some y=>some (x,y)
  | _,_=>none
 | _,_=>none
def DY:List Sh->Bool
 | [_]=>false
 | _=>true
def ku:(r:RSh)->List SV->Option r.T
 | .one s,[v]=>s.whole v
 | .tup l,vs=>match DY l with
  | true=>kK l vs
  | false=>none
 | _,_=>none
def post (P:Program) (r:RSh) (rv:Array ResultVar):Ex->St->Option r.T
 | .exit _,_=>none
 | _,σ=>match jh P σ.look rv.toList with
  | some vs=>gt (lc σ.look.r (fz vs)) (ku r (kS σ.look.r vs))
  | none=>none
def cS:List SV->Nat->List (Nat×Option SlotV)
 | [],_=>[]
 | v ::r,i=>(i,some ⟨none,v⟩) ::cS r (i+1)
def vt (lp:Lp) (jn:Jn) (C:Ctx) (hl:FuncId->Hint):Nat->Inl
 | 0=>fun _ _ _ _ _=>none
 | d+1=>fun _ id args σ K=>match C.P.funcs[id]? with
  | some fn=>match fn.body,Nat.ble args.length fn.ntmps with
   | some code,true=>den lp jn (vt lp jn C hl d) C fn.ntmps { hl id with inner:=true } code { σ with s:=cS args 0 } fun e σ'=>match e with
    | .exit _=>none
    | _=>match jh C.P σ'.look fn.results.toList with
     | some svs=>K svs σ'
     | none=>none
   | _,_=>none
  | none=>none
def Env.setRg (E:Env) (b:Bool):Env:={ E with rg:=b }
section
variable {E:Env} {b:Bool}
theorem fF.setRg:∀{x:At} {v:Value},fF E x v->fF (E.setRg b) x v
 | .u,_,h=>h
 | .v _,_,h=>h
 | .ptr _ _,_,h=>h
 | .clo _ _,_,h=>h
 | .sl _ _,_,h=>h
 | .row _,_,h=>h
 | .rf _ _ _,_,h=>h
 | .re _ _ _ _,_,h=>h
 | .sub _ _ _ _,_,h=>h
 | .ae _ _ _ _ _ _,_,h=>h
 | .sn _ _,_,h=>h
 | .ir _ _,_,h=>h
 | .ie _ _ _ _ _,_,h=>h
 | .fn _ _ _,_,h=>h
theorem bC.setRg:∀{l:List At} {vs:List Value},bC E l vs->bC (E.setRg b) l vs
 | [],[],_=>trivial
 | _ ::_,_ ::_,hv=>⟨hv.1.setRg,bC.setRg hv.2⟩
 | [],_ ::_,hv=>hv.elim
 | _ ::_,[],hv=>hv.elim
theorem fe.setRg {ag:Bool} {l:List At} {v:Value} (hv:fe E ag l v):fe (E.setRg b) ag l v :=
 let ⟨cs,h1,h2,h3⟩:=hv
 ⟨cs,h1,h2.setRg,h3⟩
theorem fG.setRg:∀{l:List (Bool×List At)} {vs:List Value},fG E l vs->fG (E.setRg b) l vs
 | [],[],_=>trivial
 | _ ::_,_ ::_,hv=>⟨hv.1.setRg,fG.setRg hv.2⟩
 | [],_ ::_,hv=>hv.elim
 | _ ::_,[],hv=>hv.elim
theorem bv.setRg:∀{s:SV} {v:Value},bv E s v->bv (E.setRg b) s v
 | .c _ _,_,hv=>fe.setRg hv
 | .tup _,_,⟨vs,h1,h2⟩=>⟨vs,h1,h2.setRg⟩
theorem fx.setRg {s:SlotV} {v:Value} (hv:fx E s v):fx (E.setRg b) s v:=by
 unfold fx at *
 split at hv
 ·exact hv.setRg
 ·exact ⟨fun hc=>(hv.1 hc).setRg,hv.2⟩
theorem MemOk.setRg {g:Look} (h:MemOk E g):MemOk (E.setRg b) g :=
 ⟨⟨h.glob.below,h.glob.zlt,h.glob.z0,h.glob.zfrom,h.glob.live,h.glob.rlive,h.glob.own,h.glob.inj,h.glob.rown,h.glob.rinj,⟨h.glob.xg.own,h.glob.xg.inj⟩⟩,fun i l hi=>by
  obtain ⟨h1,cs,t,h2,h3,h4⟩:=h.blks i l hi
  exact ⟨h1,cs,t,h2,h3.setRg,h4⟩,fun i r hi=>h.rows i r hi,fun i x hi=>XOk.re (E:=E) rfl rfl rfl (h.xs i x hi).live rfl rfl rfl rfl (h.xs i x hi)⟩
end
section
variable {N:Nat} {E:Env} {a:Act}
theorem tG {g:Look} (hm:Mod N E a g):∀{rv:List ResultVar} {l:List SV},jh E.P g rv=some l ->
  ∃vs,(rv.mapM (m:=Sem) fun | .tmp t=>pure (a.tmps.getD t undef) | .cell x t=>do loadVar t (<-asAddr (a.tmps.getD x undef))).run E.P E.w=.ok vs E.w/\dU E l vs
 | [],l,h=>by
  simp only[jh] at h
  injection h with h
  subst h
  exact ⟨[],rfl,trivial⟩
 | .tmp t ::r,l,h=>by
  simp only[jh] at h
  split at h
  ·rename_i s l' hs hl
   injection h with h
   subst h
   obtain ⟨vs,h1,h2⟩:=tG hm hl
   obtain ⟨v,hv,hr⟩:=hm.slots t _ hs
   refine ⟨v ::vs,?_,hr,h2⟩
   have e:a.tmps.getD t undef=v:=by simp[hv]
   simp only[List.mapM_cons,Sem.run_bind,e,Sem.run_pure,Result.andThen_ok,h1]
  ·cases h
 | .cell t ty ::r,l,h=>by
  simp only[jh] at h
  split at h
  ·rename_i b off l' hs hl
   split at h
   ·rename_i m hb
    split at h
    ·rename_i s hp
     injection h with h
     subst h
     obtain ⟨vs,h1,h2⟩:=tG hm hl
     obtain ⟨v,hv,hr⟩:=hm.slots t _ hs
     obtain ⟨cs,hv2,hc,_⟩:=(hr:fe E false [.ptr b off] v)
     match cs,hc with
     | [y],hc =>
      obtain ⟨⟨hy,_⟩,_⟩:=hc
      obtain ⟨ds,hd,hcl⟩:=oE (hm.blks b m hb)
      obtain ⟨u,hrun,hrel⟩:=jE hp hd E.w hcl
      refine ⟨u ::vs,?_,hrel,h2⟩
      have e:a.tmps.getD t undef=.pointer (some ⟨E.β b,off,none⟩):=by
       rw[hy] at hv2
       simp[hv,hv2,mkV,eU]
      rw[cq,Nat.zero_add] at hrun
      have ea:(asAddr (a.tmps.getD t undef)).run E.P E.w=.ok ⟨E.β b,off,none⟩ E.w:=by rw[e];rfl
      simp only[List.mapM_cons,Sem.run_bind,ea,Result.andThen_ok,hrun,h1,Sem.run_pure]
    ·cases h
   ·cases h
  ·cases h
theorem fW:∀{l:List SV} {vs:List Value},dU E l vs->l.length=vs.length
 | [],[],_=>rfl
 | _ ::_,_ ::_,h=>by simp[fW h.2]
 | [],_ ::_,h=>h.elim
 | _ ::_,[],h=>h.elim
theorem eB {g:Look} (hm:Mod N E a g) {fn:Func} {svs:List SV} (h:jh E.P g fn.results.toList=some svs):∃vs,dU E svs vs/\(results fn a.tmps).run E.P E.w=.ok (if h:vs.length=1 then vs[0] else .tuple vs.toArray) E.w:=by
 obtain ⟨vs,h1,h2⟩:=tG hm h
 refine ⟨vs,h2,?_⟩
 unfold results
 rw[<-Array.toArray_toList (xs:=fn.results),List.mapM_toArray]
 rw[Sem.run_bind,Sem.run_map]
 erw [h1]
 rfl
theorem sG:∀{l:List SV} {m:List (Bool×List At)} {vs:List Value},oh l=some m->dU E l vs->fG E m vs
 | [],m,[],h,_=>by simp only[oh,Option.some.injEq] at h;subst h;trivial
 | .c ag l ::r,m,v ::vs,h,hr=>by
  simp only[oh] at h
  split at h
  ·rename_i m' hm
   injection h with h
   subst h
   exact ⟨hr.1,sG hm hr.2⟩
  ·cases h
 | .tup _ ::_,_,_,h,_=>by simp[oh] at h
 | [],_,_ ::_,_,hr=>hr.elim
 | .c _ _ ::_,_,[],_,hr=>hr.elim
theorem oC {l:List SV} {sv:SV} {vs:List Value} (h:wm l=some sv) (hr:dU E l vs):bv E sv (if h:vs.length=1 then vs[0] else .tuple vs.toArray):=by
 have e:=fW hr
 unfold wm at h
 split at h
 ·injection h with h
  subst h
  match vs,hr with
  | [u],hr=>exact hr.1
 ·rename_i hne
  split at h
  ·rename_i m hm
   injection h with h
   subst h
   have hv:¬ vs.length=1:=fun h1=>by
    match l,e,hne with
    | [x],_,hne=>exact hne x rfl
    | [],e,_=>simp only[List.length_nil] at e;omega
    | _ ::_ ::_,e,_=>simp only[List.length_cons] at e;omega
   rw[dif_neg hv]
   exact ⟨vs,rfl,sG hm hr⟩
  ·cases h
theorem ju:∀{args:List SV} {vs:List Value} {i:Nat},dU E args vs->∀j t,look (cS args i) j=some (some t)->∃v,i<=j/\vs[j - i]?=some v/\fx E t v
 | [],_,i,_,j,t,h=>by simp[cS,look] at h
 | s ::r,v ::vs,i,hr,j,t,h=>by
  simp only[cS] at h
  rw[ai] at h
  split at h
  ·rename_i e
   simp only[Option.some.injEq] at h
   subst h
   subst e
   exact ⟨v,Nat.le_refl _,by simp,hr.1⟩
  ·obtain ⟨u,h3,h4,h5⟩:=ju hr.2 j t h
   refine ⟨u,by omega,?_,h5⟩
   rw[show j - i=(j - (i+1))+1 by omega]
   exact h4
 | _ ::_,[],_,hr,_,_,_=>hr.elim
theorem ky {C:Ctx} (hC:C.ok) (aw:C.P.follows .mixedOrders=true) {hl:FuncId->Hint}:∀d,yn C (vt lpK jnK C hl d)
 | 0=>fun _ _ _ _ _ _ h=>by cases h
 | d+1=>fun R id args σ K z h hro E hm hP vs hvs post hpost=>by
  simp only[vt] at h
  split at h
  ·rename_i fn hf
   split at h
   ·rename_i code hb hle
    have hle:args.length<=fn.ntmps:=by simpa using hle
    have hlen:=fW hvs
    refine calls_of_wp hf hb (wpIn_wide (n:=0).1 ?_)
    have hmod:Mod fn.ntmps (E.setRg false) { tmps:=vs++Array.replicate (fn.ntmps - vs.size) undef,defers:=[] } ({ σ with s:=cS args 0 }:St).look:=by
     have hm':MemOk (E.setRg false) ({ σ with s:=cS args 0 }:St).look:=(hm.of (g':=({ σ with s:=cS args 0 }:St).look) rfl rfl).setRg
     refine ⟨hm'.glob,trivial,?_,fun i t hi=>?_,hm'.blks,hm'.rows,hm'.xs⟩
     ·have:vs.size=args.length:=by rw[hlen];simp
      simp only[Array.size_append,Array.size_replicate]
      omega
     ·simp only[St.look,eK] at hi
      split at hi
      ·rename_i t' hl'
       injection hi with hi
       subst hi
       obtain ⟨v,_,h2,h3⟩:=ju hvs i t' hl'
       rw[Nat.sub_zero] at h2
       refine ⟨v,?_,h3.setRg⟩
       have hlt:=(List.getElem?_eq_some_iff.1 h2).1
       rw[Array.getElem?_append_left (by simpa using hlt)]
       simpa using h2
      ·cases hi
    refine eM (F:=Fence.wide) hC (ky hC aw d) aw (.inl rfl) (fun _=>rfl) h hro ⟨hP,fun e=>by cases e⟩ (E:=E.setRg false) hmod fun e σ' E' a' hk hs hkp hf' hsl hm'=>?_
    have hdef:a'.defers=[]:=eH.none hkp.rg hm'.nodef
    have hkp2:Keep E (E'.setRg E.rg):=⟨rfl,fun x v hv=>(hkp x v hv.setRg).setRg,fun b o hb=>hkp.obj b o hb⟩
    have hs2:dW E (E'.setRg E.rg):=hs
    have fin:∀svs,jh C.P σ'.look fn.results.toList=some svs->K svs σ'=some z->a'.defers=[]/\∃v,(results fn a'.tmps).run C.P E'.w=.ok v E'.w/\post (.returned v) E'.w:=fun svs hsv hkk=>by
     have hPP:E'.P=C.P:=hs2.P.trans hP
     rw[<-hPP] at hsv
     obtain ⟨us,hu1,hu2⟩:=eB hm' hsv
     rw[hPP] at hu2
     exact ⟨hdef,_,hu2,hpost svs σ' (E'.setRg E.rg) _ hkk hs2 hkp2 ⟨hf'.ro,hf'.roR,hf'.h,hf'.r⟩ (hm'.memOk.setRg) fun sv hsv'=>(oC hsv' hu1).setRg⟩
    cases e with
    | normal =>
     simp only at hk
     split at hk
     ·rename_i svs hsv;exact fin svs hsv hk
     ·cases hk
    | ret =>
     simp only at hk
     split at hk
     ·rename_i svs hsv;exact fin svs hsv hk
     ·cases hk
    | exit i=>cases hk
   ·cases h
  ·cases h
theorem uq:∀{l:List Sh} {svs:List SV} {z:TsS l} {vs:List Value},kK l svs=some z->dU E svs vs->cu E.w E.Z l z vs
 | [],[],_,[],_,_=>rfl
 | s ::r,v ::svs,z,u ::us,h,hr=>by
  simp only[kK] at h
  split at h
  ·rename_i x y hx hy
   injection h with h
   subst h
   simp only[cu]
   exact ⟨u,us,rfl,fu hx hr.1,uq hy hr.2⟩
  ·cases h
 | [],[],_,_ ::_,_,hr=>hr.elim
 | _ ::_,_ ::_,_,[],_,hr=>hr.elim
 | [],_ ::_,_,_,h,_=>by simp[kK] at h
 | _ ::_,[],_,_,h,_=>by simp[kK] at h
theorem oW:∀{l:List Sh} {svs:List SV} {z:TsS l},kK l svs=some z->svs.length=l.length
 | [],[],_,_=>rfl
 | s ::r,v ::svs,z,h=>by
  simp only[kK] at h
  split at h
  ·rename_i x y hx hy
   simp[oW hy]
  ·cases h
 | [],_ ::_,_,h=>by simp[kK] at h
 | _ ::_,[],_,h=>by simp[kK] at h
theorem nv {r:RSh} {svs:List SV} {z:r.T} {vs:List Value} (h:ku r svs=some z) (hr:dU E svs vs):ki E.w E.Z r z (if h:vs.length=1 then vs[0] else .tuple vs.toArray):=by
 cases r with
 | one s =>
  match svs,vs,hr with
  | [v],[u],hr=>exact fu h hr.1
  | [],_,_=>simp[ku] at h
  | _ ::_ ::_,_,_=>simp[ku] at h
 | tup l =>
  simp only[ku] at h
  split at h
  ·rename_i h1
   have e1:=oW h
   have e2:=fW hr
   have hne:¬ vs.length=1:=by
    intro e
    match l,e1,h1 with
    | [],e1,_=>simp only[List.length_nil] at e1;omega
    | [_],_,h1=>simp[DY] at h1
    | _ ::_ ::_,e1,_=>simp only[List.length_cons] at e1;omega
   rw[dif_neg hne]
   exact ⟨vs,rfl,uq h hr⟩
  ·cases h
theorem eV:∀{as:List Sh} {x:TsS as} {vals:List Value} {i:Nat},cu E.w E.Z as x vals->∀j t,look (gZ as x i) j=some (some t)->∃v,i<=j/\vals[j - i]?=some v/\fx E t v
 | [],_,_,i,_,j,t,h=>by simp[gZ,look] at h
 | s ::r,x,vals,i,hd,j,t,h=>by
  simp only[cu] at hd
  obtain ⟨v,vs',rfl,h1,h2⟩:=hd
  simp only[gZ] at h
  rw[ai] at h
  split at h
  ·rename_i e
   simp only[Option.some.injEq] at h
   subst h
   subst e
   exact ⟨v,Nat.le_refl _,by simp,nN h1⟩
  ·rename_i e
   obtain ⟨u,h3,h4,h5⟩:=eV h2 j t h
   refine ⟨u,by omega,?_,h5⟩
   rw[show j - i=(j - (i+1))+1 by omega]
   exact h4
theorem cu.length {w:World} {Z:Nat->Prop}:∀{as:List Sh} {x:TsS as} {vals:List Value},cu w Z as x vals->vals.length=as.length
 | [],_,_,h=>by simp only[cu] at h;subst h;rfl
 | _ ::_,_,_,h=>by simp only[cu] at h;obtain ⟨v,vs',rfl,_,h2⟩:=h;simp[cu.length h2]
theorem sR.length {P:Program} {w:World} {Z:Nat->Prop}:∀{as:List (List Sh×Sh)} {x:TsF as} {vals:List Value},sR P w Z as x vals->vals.length=as.length
 | [],_,_,h=>by simp only[sR] at h;subst h;rfl
 | _ ::_,_,_,h=>by simp only[sR] at h;obtain ⟨v,vs',rfl,_,h2⟩:=h;simp[sR.length h2]
theorem lO.length {w:World} {Z:Nat->Prop}:∀{as:List Sh} {x:TsS as} {vals:List Value},lO w Z as x vals->vals.length=as.length
 | [],_,_,h=>by simp only[lO] at h;subst h;rfl
 | _ ::_,_,_,h=>by simp only[lO] at h;obtain ⟨v,vs',rfl,_,h2⟩:=h;simp[lO.length h2]
theorem rT (hE:E.w0=E.w) (hZ:E.Z0=E.Z):∀{as:List (List Sh×Sh)} {x:TsF as} {vals:List Value} {i:Nat},sR E.P E.w E.Z as x vals->∀j t,look (yY as x i) j=some (some t)->∃v,i<=j/\vals[j - i]?=some v/\fx E t v
 | [],_,_,i,_,j,t,h=>by simp[yY,look] at h
 | s ::r,x,vals,i,hd,j,t,h=>by
  simp only[sR] at hd
  obtain ⟨v,vs',rfl,h1,h2⟩:=hd
  simp only[yY] at h
  rw[ai] at h
  split at h
  ·rename_i e
   simp only[Option.some.injEq] at h
   subst h
   subst e
   refine ⟨v,Nat.le_refl _,by simp,⟨[v],rfl,⟨?_,trivial⟩,fun _=>rfl⟩⟩
   obtain ⟨q,cap,g1,g2,g3⟩:=h1
   refine ⟨q,cap,g1,g2,fun w' Z' x y vals hA hZ'=>g3 w' Z' x y vals ?_ hZ'⟩
   have:=hA.1
   rw[hE] at this
   exact this
  ·rename_i e
   obtain ⟨u,h3,h4,h5⟩:=rT hE hZ h2 j t h
   refine ⟨u,by omega,?_,h5⟩
   rw[show j - i=(j - (i+1))+1 by omega]
   exact h4
theorem su (hE:E.w0=E.w):∀{as:List Sh} {x:TsS as} {vals:List Value} {i:Nat},lO E.w E.Z as x vals->∀j t,look (zH as x i) j=some (some t)->∃v,i<=j/\vals[j - i]?=some v/\fx E t v
 | [],_,_,i,_,j,t,h=>by simp[zH,look] at h
 | s ::r,x,vals,i,hd,j,t,h=>by
  simp only[lO] at hd
  obtain ⟨v,vs',rfl,h1,h2⟩:=hd
  simp only[zH] at h
  rw[ai] at h
  split at h
  ·rename_i e
   simp only[Option.some.injEq] at h
   subst h
   subst e
   obtain ⟨b,cs,rfl,hb,hd',hc⟩:=h1
   refine ⟨.pointer (some ⟨b,0,none⟩),Nat.le_refl _,by simp,⟨[.pointer (some ⟨b,0,none⟩)],rfl,⟨⟨⟨b,0,none⟩,cs,by simp[Addr.add],.inr (by rw[hE];exact hb),hd',fun j u hj=>by rw[cq,Nat.zero_add];exact hc j u hj⟩,trivial⟩,fun _=>rfl⟩⟩
  ·rename_i e
   obtain ⟨u,h3,h4,h5⟩:=su hE h2 j t h
   refine ⟨u,by omega,?_,h5⟩
   rw[show j - i=(j - (i+1))+1 by omega]
   exact h4
theorem jU {α:Type} {i:Nat}:∀{l m:List (Nat×α)} {x:α},look (l++m) i=some x->look l i=some x\/look m i=some x
 | [],m,x,h=>.inr h
 | p ::r,m,x,h=>by
  rw[List.cons_append,ai] at h
  rw[ai]
  split at h
  ·exact .inl (by rw[if_pos (by assumption)];exact h)
  ·rw[if_neg (by assumption)]
   exact jU h
theorem vQ {w:World} {Z Z':Nat->Prop} (hZ:∀b,Z b->Z' b) {r:RSh} {x:r.T} {v:Value} (h:ki w Z r x v):ki w Z' r x v:=by
 have one:∀{s:Sh} {x:s.T} {v:Value},kJ w Z s x v->kJ w Z' s x v:=fun ⟨cs,h1,h2,h3⟩=>⟨cs,Dat.mono hZ (fun _ _=>rfl) h1,h2,h3⟩
 cases r with
 | one s=>exact one h
 | tup l =>
  obtain ⟨vs,h1,h2⟩:=h
  refine ⟨vs,h1,?_⟩
  clear h1
  induction l generalizing vs with
  | nil=>exact h2
  | cons s r ih =>
   simp only[cu] at h2 ⊢
   obtain ⟨v,vs',h3,h4,h5⟩:=h2
   exact ⟨v,vs',h3,one h4,ih (x:=x.2) vs' h5⟩
def bo (lp:Lp) (jn:Jn) (C:Ctx) (hl:FuncId->Hint) (d:Nat) (id:FuncId) (fn:Func) (c:Ctr) (x:TsS c.as) (F:TsF c.fs) (y:TsS c.cs):Option c.r.T :=
 den lp jn (vt lp jn C hl d) C fn.ntmps (hl id) (fn.body.getD .skip) (c.init x F y) (post C.P c.r fn.results)
theorem Ctr.of_rec {C:Ctx} (hC:C.ok) (aw:C.P.follows .mixedOrders=true) {rec:Inl} (hI:yn C rec) {hl:FuncId->Hint} {f:FuncId} {fn:Func} {code:Code} {c:Ctr} (hf:C.P.funcs[f]?=some fn) (hb:fn.body=some code) (hn:c.as.length+c.fs.length+c.cs.length<=fn.ntmps)
  (h:∀x F y,c.m x F y=den lpK jnK rec C fn.ntmps (hl f) (fn.body.getD .skip) (c.init x F y) (post C.P c.r fn.results)):c.ok C.P f:=by
 intro x F y z hz w Z vals fvals cvals hZ h1 h2 h3
 refine gl hf hb ?_
 let E:Env:={ P:=C.P,w0:=w,Z0:=Z,w:=w,Z:=Z,β:=fun _=>0,L:=fun _=>False,ρ:=fun _=>undef,R:=fun _=>False,φ:=fun _ _=>False,ι:=fun _ _=>undef,ν:=fun _=>0 }
 have l1:=h1.length
 have l2:=h2.length
 have l3:=h3.length
 have hm:Mod fn.ntmps E { tmps:=(vals++fvals++cvals).toArray++Array.replicate (fn.ntmps - (vals++fvals++cvals).toArray.size) undef,defers:=[] } (c.init x F y).look:=by
  refine ⟨⟨Below.refl _ _,hZ,fun _ h=>h,fun _ h=>.inl h,fun b hb=>hb.elim,fun r hr=>hr.elim,fun i l hi=>by simp[Ctr.init,St.look,look] at hi,fun i j l l' hi=>by simp[Ctr.init,St.look,look] at hi,
   fun i r b hi=>by simp[Ctr.init,St.look,look] at hi,fun i j r r' b hi=>by simp[Ctr.init,St.look,look] at hi,⟨fun i x b hi=>by simp[Ctr.init,St.look,look] at hi,fun i j x y b hi=>by simp[Ctr.init,St.look,look] at hi⟩⟩,trivial,?_,fun i t hi=>?_,fun i l hi=>by simp[Ctr.init,St.look,look] at hi,fun i r hi=>by simp[Ctr.init,St.look,look] at hi,fun i x hi=>by simp[Ctr.init,St.look,look] at hi⟩
  ·simp only[Array.size_append,List.size_toArray,List.length_append,Array.size_replicate]
   omega
  ·have get:∀v,(vals++fvals++cvals)[i]?=some v->((vals++fvals++cvals).toArray++Array.replicate (fn.ntmps - (vals++fvals++cvals).toArray.size) undef)[i]?=some v:=fun v hv=>by
    have hlt:=(List.getElem?_eq_some_iff.1 hv).1
    rw[Array.getElem?_append_left (by simpa using hlt)]
    simpa using hv
   simp only[St.look,eK] at hi
   split at hi
   ·rename_i t' hl
    injection hi with hi
    subst hi
    simp only[Ctr.init] at hl
    rcases jU hl with hl | hl
    ·rcases jU hl with hl | hl
     ·obtain ⟨v,h4,h5,h6⟩:=eV (E:=E) h1 i t' hl
      refine ⟨v,get v ?_,h6⟩
      rw[Nat.sub_zero] at h5
      have hlt:=(List.getElem?_eq_some_iff.1 h5).1
      rw[List.append_assoc,List.getElem?_append_left hlt]
      exact h5
     ·obtain ⟨v,h4,h5,h6⟩:=rT (E:=E) rfl rfl h2 i t' hl
      refine ⟨v,get v ?_,h6⟩
      have hlt:=(List.getElem?_eq_some_iff.1 h5).1
      rw[List.append_assoc,List.getElem?_append_right (by omega),List.getElem?_append_left (by omega),l1]
      exact h5
    ·obtain ⟨v,h4,h5,h6⟩:=su (E:=E) rfl h3 i t' hl
     refine ⟨v,get v ?_,h6⟩
     rw[List.getElem?_append_right (by simp;omega)]
     simp only[List.length_append,l1,l2]
     exact h5
   ·cases hi
 have hrun:=hz
 rw[h x F y] at hrun
 rw[hb] at hrun
 refine eM hC hI aw (.inl rfl) (fun _=>rfl) hrun (fun i hi=>by simp[Ctr.init] at hi) (E:=E) ⟨rfl,fun _=>rfl⟩ hm fun e σ' E1 a1 hk hs _ _ _ hm1=>?_
 have hcases:e=.normal\/e=.ret:=by
  cases e with
  | normal=>exact .inl rfl
  | ret=>exact .inr rfl
  | exit i=>cases hk
 refine ⟨by rcases hcases with rfl | rfl<;>simp[Ex.to],E1,rfl,hm1.nodef,fun w2 hT=>?_⟩
 obtain ⟨E',hE'⟩:∃E',E'=E1.wset w2:=⟨_,rfl⟩
 have hw2:w2=E'.w:=by rw[hE'];rfl
 have hs:dW E E':=by rw[hE'];exact hs
 have hm':Mod fn.ntmps E' { tmps:=a1.tmps,defers:=[] } σ'.look:=by rw[hE'];exact hm1.turned hT rfl trivial
 rw[hw2]
 clear hm1 hT hE' hw2
 have hP:E'.P=C.P:=hs.P
 have h0:E'.w0=w:=hs.w0
 have hz0:E'.Z0=Z:=hs.Z0
 have done:∀vs,jh C.P σ'.look fn.results.toList=some vs->gt (lc σ'.look.r (fz vs)) (ku c.r (kS σ'.look.r vs))=some z->∃v,(results fn a1.tmps).run C.P E'.w=.ok v E'.w/\∃u,Ending.returned v=.returned u/\ki E'.w (fresh Z w E'.w) c.r z u/\Below w.heap.size w E'.w:=by
  intro vs hvs hok
  obtain ⟨hlv,hok⟩:=dw hok
  rw[<-hP] at hvs
  obtain ⟨us,hu1,hu2⟩:=eB hm' hvs
  rw[hP] at hu2
  have hu3:=iI hm' (fun _ _ h=>h) (u:=fz vs) (gk hlv) hu1 fun r hr=>hr
  refine ⟨_,hu2,_,rfl,vQ (fun b hb=>?_) (nv (E:=E'.zone σ'.look (fz vs)) hok hu3),?_⟩
  ·rcases hb with hb | ⟨r,_,⟨ri,h5,h6⟩ | ⟨x,h5,h6⟩⟩
   ·rcases hm'.glob.zfrom b hb with h | h
    ·exact .inl (by rw[<-hz0];exact h)
    ·exact .inr ⟨by rw[h0] at h;exact h,hm'.glob.zlt b hb⟩
   ·obtain ⟨h7,h8⟩:=hm'.row_lt h5 h6
    rw[h0] at h7
    exact .inr ⟨h7,h8⟩
   ·obtain ⟨h7,h8,_⟩:=hm'.glob.xg.own r x b h5 h6
    rw[h0] at h7
    exact .inr ⟨h7,h8⟩
  ·have:=hm'.glob.below
   rw[h0] at this
   exact this
 cases e with
 | normal =>
  simp only[post] at hk
  split at hk
  ·rename_i vs hvs
   exact done vs hvs hk
  ·cases hk
 | ret =>
  simp only[post] at hk
  split at hk
  ·rename_i vs hvs
   exact done vs hvs hk
  ·cases hk
 | exit i=>cases hk
theorem Ctr.of_den {C:Ctx} (hC:C.ok) (aw:C.P.follows .mixedOrders=true) {hl:FuncId->Hint} {d:Nat} {f:FuncId} {fn:Func} {code:Code} {c:Ctr} (hf:C.P.funcs[f]?=some fn) (hb:fn.body=some code) (hn:c.as.length+c.fs.length+c.cs.length<=fn.ntmps)
  (h:∀x F y,c.m x F y=bo lpK jnK C hl d f fn c x F y):c.ok C.P f:=Ctr.of_rec hC aw (ky hC aw d) hf hb hn h
def wS (rk:Rk) (t:TypeId) (e:Sh):List SV->Option (List e.T)
 | [.c false [x]]=>kF rk t e x
 | _=>none
def EW (P:Program) (t:TypeId) (e:Sh) (rv:Array ResultVar):Ex->St->Option (List e.T)
 | .exit _,_=>none
 | _,σ=>match jh P σ.look rv.toList with
  | some vs=>wS (look σ.r) t e vs
  | none=>none
def vG:(as:List Sh)->TsS as->Bool->List (Nat×Option SlotV)
 | .sl e ::r,x,true=>(0,some ⟨none,.c false [.sn e x.1]⟩) ::gZ r x.2 1
 | _ ::r,x,false=>(0,some ⟨none,.c false [.v (.slice none 0 0)]⟩) ::gZ r x.2 1
 | _,_,_=>[]
def zm (lp:Lp) (jn:Jn) (C:Ctx) (hl:FuncId->Hint) (d:Nat) (id:FuncId) (fn:Func) (t:TypeId) (e:Sh) (s:List (Nat×Option SlotV)):Option (List e.T) :=
 den lp jn (vt lp jn C hl d) C fn.ntmps (hl id) (fn.body.getD .skip) { s:=s,h:=[],r:=[],next:=0 } (EW C.P t e fn.results)
theorem xh {C:Ctx} (hC:C.ok) (aw:C.P.follows .mixedOrders=true) {hl:FuncId->Hint} {d:Nat} {f:FuncId} {fn:Func} {code:Code} {t:TypeId} {e:Sh} {s:List (Nat×Option SlotV)} {l:List e.T} (hf:C.P.funcs[f]?=some fn) (hb:fn.body=some code)
  (h:zm lpK jnK C hl d f fn t e s=some l) {w:World} {Z:Nat->Prop} {vals:List Value} (hn:vals.length<=fn.ntmps) (hZ:∀b,Z b->b<w.heap.size)
  (hs:∀E:Env,E.w=w->E.Z=Z->E.w0=w->E.Z0=Z->∀i s',look s i=some (some s')->∃v,vals[i]?=some v/\fx E s' v) :
  Calls C.P f vals.toArray w fun en w'=>∃(v:Value) (Z':Nat->Prop),en=.returned v/\(∀b,Z b->Z' b)/\(∀b,Z' b->fresh Z w w' b)/\(∀b,v.ownBlock=some b->¬ Z' b) /\
   (∃xs,w'.ownsRow w.heap.size t e.size v l.length xs/\au w' Z' e l xs)/\Below w.heap.size w w':=by
 refine gl hf hb ?_
 let E:Env:={ P:=C.P,w0:=w,Z0:=Z,w:=w,Z:=Z,β:=fun _=>0,L:=fun _=>False,ρ:=fun _=>undef,R:=fun _=>False,φ:=fun _ _=>False,ι:=fun _ _=>undef,ν:=fun _=>0 }
 have hm:Mod fn.ntmps E { tmps:=vals.toArray++Array.replicate (fn.ntmps - vals.toArray.size) undef,defers:=[] } ({ s:=s,h:=[],r:=[],next:=0 }:St).look:=by
  refine ⟨⟨Below.refl _ _,hZ,fun _ h=>h,fun _ h=>.inl h,fun b hb=>hb.elim,fun r hr=>hr.elim,fun i l hi=>by simp[St.look,look] at hi,fun i j l l' hi=>by simp[St.look,look] at hi,
   fun i r b hi=>by simp[St.look,look] at hi,fun i j r r' b hi=>by simp[St.look,look] at hi,⟨fun i x b hi=>by simp[St.look,look] at hi,fun i j x y b hi=>by simp[St.look,look] at hi⟩⟩,trivial,?_,fun i t' hi=>?_,fun i l hi=>by simp[St.look,look] at hi,fun i r hi=>by simp[St.look,look] at hi,fun i x hi=>by simp[St.look,look] at hi⟩
  ·simp only[Array.size_append,List.size_toArray,Array.size_replicate]
   omega
  ·simp only[St.look,eK] at hi
   split at hi
   ·rename_i s' hl'
    injection hi with hi
    subst hi
    obtain ⟨v,h2,h3⟩:=hs E rfl rfl rfl rfl i s' hl'
    refine ⟨v,?_,h3⟩
    have hlt:=(List.getElem?_eq_some_iff.1 h2).1
    rw[Array.getElem?_append_left (by simpa using hlt)]
    simpa using h2
   ·cases hi
 unfold zm at h
 rw[hb] at h
 refine eM hC (ky hC aw d) aw (.inl rfl) (fun _=>rfl) h (fun i hi=>by simp at hi) (E:=E) ⟨rfl,fun _=>rfl⟩ hm fun ex σ' E1 a1 hk hs' _ _ _ hm1=>?_
 have hcases:ex=.normal\/ex=.ret:=by
  cases ex with
  | normal=>exact .inl rfl
  | ret=>exact .inr rfl
  | exit i=>cases hk
 refine ⟨by rcases hcases with rfl | rfl<;>simp[Ex.to],E1,rfl,hm1.nodef,fun w2 hT=>?_⟩
 obtain ⟨E',hE'⟩:∃E',E'=E1.wset w2:=⟨_,rfl⟩
 have hw2:w2=E'.w:=by rw[hE'];rfl
 have hs':dW E E':=by rw[hE'];exact hs'
 have hm':Mod fn.ntmps E' { tmps:=a1.tmps,defers:=[] } σ'.look:=by rw[hE'];exact hm1.turned hT rfl trivial
 rw[hw2]
 clear hm1 hT hE' hw2
 have hP:E'.P=C.P:=hs'.P
 have h0:E'.w0=w:=hs'.w0
 have hz0:E'.Z0=Z:=hs'.Z0
 have done:∀vs,jh C.P σ'.look fn.results.toList=some vs->wS (look σ'.r) t e vs=some l->∃v,(results fn a1.tmps).run C.P E'.w=.ok v E'.w/\∃(u:Value) (Z':Nat->Prop),Ending.returned v=.returned u/\(∀b,Z b->Z' b)/\(∀b,Z' b->fresh Z w E'.w b)/\(∀b,u.ownBlock=some b->¬ Z' b) /\
   (∃xs,E'.w.ownsRow w.heap.size t e.size u l.length xs/\au E'.w Z' e l xs)/\Below w.heap.size w E'.w:=by
  intro vs hvs hok
  rw[<-hP] at hvs
  obtain ⟨us,hu1,hu2⟩:=eB hm' hvs
  rw[hP] at hu2
  refine ⟨_,hu2,_,E'.Z,rfl,fun b hb=>by have:=hm'.glob.z0 b;rw[hz0] at this;exact this hb,fun b hb=>?_,?_⟩
  ·rcases hm'.glob.zfrom b hb with h | h
   ·exact .inl (by rw[<-hz0];exact h)
   ·exact .inr ⟨by rw[h0] at h;exact h,hm'.glob.zlt b hb⟩
  ·have hbel:=hm'.glob.below
   rw[h0] at hbel
   unfold wS at hok
   split at hok
   ·rename_i x
    match us,hu1 with
    | [u],hu1 =>
     obtain ⟨cs,hu,hr,_⟩:=hu1.1
     match cs,hr with
     | [y],hr =>
      have huy:u=y:=hu
      subst huy
      have hone:(if h:[u].length=1 then [u][0] else Value.tuple [u].toArray)=u:=by simp
      rw[hone]
      cases x with
      | row q =>
       simp only[kF] at hok
       split at hok
       ·rename_i ri hri
        split at hok
        ·rename_i he ht _
         obtain ⟨rt,re,rn,rl⟩:=ri
         simp only at he ht
         subst he
         have ht:rt=t:=by simpa using ht
         subst ht
         injection hok with hok
         subst hok
         obtain ⟨⟨hv,_⟩,_⟩:=hr
         obtain ⟨_,xs,o1,o2,_⟩:=hm'.rows q _ hri
         rw[h0] at o1
         exact ⟨fun b hb=>(hm'.glob.rown q _ b hri (by rw[<-hv];exact hb)).1,⟨xs,by rw[hv];exact o1,o2⟩,hbel⟩
        ·cases hok
       ·cases hok
      | v z =>
       unfold kF at hok
       split at hok
       ·rename_i heq;cases heq
       ·rename_i heq
        injection heq with heq
        subst heq
        injection hok with hok
        subst hok
        have hv:u=.slice none 0 0:=hr.1
        subst hv
        exact ⟨fun b hb=>(by cases hb),⟨[],World.ownsRow_nil _ _ _ _,rfl⟩,hbel⟩
       ·cases hok
      | _=>simp[kF] at hok
   ·cases hok
 cases ex with
 | normal =>
  simp only[EW] at hk
  split at hk
  ·rename_i vs hvs;exact done vs hvs hk
  ·cases hk
 | ret =>
  simp only[EW] at hk
  split at hk
  ·rename_i vs hvs;exact done vs hvs hk
  ·cases hk
 | exit i=>cases hk
theorem RCtr.of_den {C:Ctx} (hC:C.ok) (aw:C.P.follows .mixedOrders=true) {hl:FuncId->Hint} {d:Nat} {f:FuncId} {fn:Func} {code:Code} {c:RCtr} (hf:C.P.funcs[f]?=some fn) (hb:fn.body=some code) (hn:c.as.length<=fn.ntmps)
  (h:∀x,c.m x=zm lpK jnK C hl d f fn c.t c.e (gZ c.as x 0)):c.ok C.P f:=by
 intro x l hl' w Z vals hZ h1
 rw[h x] at hl'
 refine xh hC aw hf hb hl' (by rw[h1.length];exact hn) hZ fun E hw hz _ _ i s' hi=>?_
 subst hw;subst hz
 obtain ⟨v,_,h3,h4⟩:=eV h1 i s' hi
 exact ⟨v,by simpa using h3,h4⟩
theorem RCtr.of_den_nil {C:Ctx} (hC:C.ok) (aw:C.P.follows .mixedOrders=true) {hl:FuncId->Hint} {d:Nat} {f:FuncId} {fn:Func} {code:Code} {c:RCtr} {e:Sh} {r:List Sh} (has:c.as=.sl e ::r) (hf:C.P.funcs[f]?=some fn) (hb:fn.body=some code) (hn:c.as.length<=fn.ntmps)
  (h1:∀x,c.m x=zm lpK jnK C hl d f fn c.t c.e (vG c.as x true)) (h2:∀(x:TsS (.sl e ::r)),x.1=[]->c.m (has ▸ x)=zm lpK jnK C hl d f fn c.t c.e (vG (.sl e ::r) x false)):c.ok C.P f:=by
 obtain ⟨as,t,ee,m⟩:=c
 simp only at has
 subst has
 intro x l hl' w Z vals hZ hd
 have hlen:=hd.length
 have hd0:=hd
 simp only[cu] at hd
 obtain ⟨v,vs',rfl,⟨cs,g1,g2,g3⟩,g4⟩:=hd
 simp only[Dat] at g1
 obtain ⟨A,cp,rfl,hc,hA,g1⟩:=g1
 have hv:v=.slice A x.1.length cp:=g2
 have rest:∀E:Env,E.w=w->E.Z=Z->∀i s',look (gZ r x.2 1) i=some (some s')->∃u,(v ::vs')[i]?=some u/\fx E s' u:=fun E hw hz i s' hi=>by
  subst hw;subst hz
  obtain ⟨u,k1,k2,k3⟩:=eV g4 i s' hi
  refine ⟨u,?_,k3⟩
  rw[show i=(i - 1)+1 by omega]
  simpa using k2
 cases A with
 | none =>
  have hcp:=hA rfl
  subst hcp
  have hx:x.1=[]:=List.eq_nil_of_length_eq_zero (by omega)
  have hl2:=(h2 x hx).symm.trans hl'
  refine xh hC aw hf hb hl2 (by rw[hlen];exact hn) hZ fun E hw hz _ _ i s' hi=>?_
  simp only[vG] at hi
  rw[ai] at hi
  split at hi
  ·rename_i e0
   simp only[Option.some.injEq] at hi
   subst hi;subst e0
   exact ⟨v,rfl,⟨[v],rfl,⟨by rw[hv,hx];rfl,trivial⟩,fun _=>rfl⟩⟩
  ·exact rest E hw hz i s' hi
 | some ad =>
  have hl2:=(h1 x).symm.trans hl'
  refine xh hC aw hf hb hl2 (by rw[hlen];exact hn) hZ fun E hw hz _ _ i s' hi=>?_
  simp only[vG] at hi
  rw[ai] at hi
  split at hi
  ·rename_i e0
   simp only[Option.some.injEq] at hi
   subst hi;subst e0
   refine ⟨v,rfl,⟨[v],rfl,⟨⟨⟨ad,_,_,hv⟩,?_⟩,trivial⟩,fun _=>rfl⟩⟩
   rw[hw,hz]
   simp only[Dat]
   exact ⟨some ad,cp,by rw[hv],hc,hA,g1⟩
  ·exact rest E hw hz i s' hi
def zX:At->List Nat->Bool
 | .row q,u=>!gp q u
 | _,_=>true
def D6 (rk:Rk) (t:TypeId) (e s:Sh):List SV->Option (List e.T×s.T)
 | [.c true (x ::xs)]=>match kF rk t e x,ke s (gV rk xs),zX x (cZ xs) with
  | some l,some y,true=>gt (lc rk (cZ xs)) (some (l,y))
  | _,_,_=>none
 | _=>none
def GP (P:Program) (t:TypeId) (e s:Sh) (rv:Array ResultVar):Ex->St->Option (List e.T×s.T)
 | .exit _,_=>none
 | _,σ=>match jh P σ.look rv.toList with
  | some vs=>D6 σ.look.r t e s vs
  | none=>none
def MP (lp:Lp) (jn:Jn) (C:Ctx) (hl:FuncId->Hint) (d:Nat) (id:FuncId) (fn:Func) (c:WCtr) (x:TsS c.as):Option (List c.e.T×c.s.T) :=
 den lp jn (vt lp jn C hl d) C fn.ntmps (hl id) (fn.body.getD .skip) { s:=gZ c.as x 0,h:=[],r:=[],next:=0 } (GP C.P c.t c.e c.s fn.results)
theorem WCtr.of_den {C:Ctx} (hC:C.ok) (aw:C.P.follows .mixedOrders=true) {hl:FuncId->Hint} {d:Nat} {f:FuncId} {fn:Func} {code:Code} {c:WCtr} (hf:C.P.funcs[f]?=some fn) (hb:fn.body=some code) (hn:c.as.length<=fn.ntmps)
  (hm0:∀x,c.m x=MP lpK jnK C hl d f fn c x):c.ok C.P f:=by
 intro x z h w Z vals hZ h1
 rw[hm0 x] at h
 have hlen:=h1.length
 refine gl hf hb ?_
 let E:Env:={ P:=C.P,w0:=w,Z0:=Z,w:=w,Z:=Z,β:=fun _=>0,L:=fun _=>False,ρ:=fun _=>undef,R:=fun _=>False,φ:=fun _ _=>False,ι:=fun _ _=>undef,ν:=fun _=>0 }
 have hm:Mod fn.ntmps E { tmps:=vals.toArray++Array.replicate (fn.ntmps - vals.toArray.size) undef,defers:=[] } ({ s:=gZ c.as x 0,h:=[],r:=[],next:=0 }:St).look:=by
  refine ⟨⟨Below.refl _ _,hZ,fun _ h=>h,fun _ h=>.inl h,fun b hb=>hb.elim,fun r hr=>hr.elim,fun i l hi=>by simp[St.look,look] at hi,fun i j l l' hi=>by simp[St.look,look] at hi,
   fun i r b hi=>by simp[St.look,look] at hi,fun i j r r' b hi=>by simp[St.look,look] at hi,⟨fun i x b hi=>by simp[St.look,look] at hi,fun i j x y b hi=>by simp[St.look,look] at hi⟩⟩,trivial,?_,fun i t' hi=>?_,fun i l hi=>by simp[St.look,look] at hi,fun i r hi=>by simp[St.look,look] at hi,fun i x hi=>by simp[St.look,look] at hi⟩
  ·simp only[Array.size_append,List.size_toArray,Array.size_replicate]
   omega
  ·simp only[St.look,eK] at hi
   split at hi
   ·rename_i s' hl'
    injection hi with hi
    subst hi
    obtain ⟨v,_,h2,h3⟩:=eV (E:=E) h1 i s' hl'
    rw[Nat.sub_zero] at h2
    refine ⟨v,?_,h3⟩
    have hlt:=(List.getElem?_eq_some_iff.1 h2).1
    rw[Array.getElem?_append_left (by simpa using hlt)]
    simpa using h2
   ·cases hi
 unfold MP at h
 rw[hb] at h
 refine eM hC (ky hC aw d) aw (.inl rfl) (fun _=>rfl) h (fun i hi=>by simp at hi) (E:=E) ⟨rfl,fun _=>rfl⟩ hm fun ex σ' E1 a1 hk hs' _ _ _ hm1=>?_
 have hcases:ex=.normal\/ex=.ret:=by
  cases ex with
  | normal=>exact .inl rfl
  | ret=>exact .inr rfl
  | exit i=>cases hk
 refine ⟨by rcases hcases with rfl | rfl<;>simp[Ex.to],E1,rfl,hm1.nodef,fun w2 hT=>?_⟩
 obtain ⟨E',hE'⟩:∃E',E'=E1.wset w2:=⟨_,rfl⟩
 have hw2:w2=E'.w:=by rw[hE'];rfl
 have hs':dW E E':=by rw[hE'];exact hs'
 have hm':Mod fn.ntmps E' { tmps:=a1.tmps,defers:=[] } σ'.look:=by rw[hE'];exact hm1.turned hT rfl trivial
 rw[hw2]
 clear hm1 hT hE' hw2
 have hP:E'.P=C.P:=hs'.P
 have h0:E'.w0=w:=hs'.w0
 have hz0:E'.Z0=Z:=hs'.Z0
 have done:∀vs,jh C.P σ'.look fn.results.toList=some vs->D6 σ'.look.r c.t c.e c.s vs=some z->∃v,(results fn a1.tmps).run C.P E'.w=.ok v E'.w/\∃(u:Value) (cs:List Value) (Z':Nat->Prop),Ending.returned v=.returned (.agg (u ::cs).toArray)/\(∀b,Z b->Z' b)/\(∀b,Z' b->fresh Z w E'.w b)/\(∀b,u.ownBlock=some b->¬ Z' b) /\
   (∃xs,E'.w.ownsRow w.heap.size c.t c.e.size u z.1.length xs/\au E'.w Z' c.e z.1 xs)/\Dat E'.w Z' c.s z.2 cs/\Below w.heap.size w E'.w:=by
  intro vs hvs hok
  rw[<-hP] at hvs
  obtain ⟨us,hu1,hu2⟩:=eB hm' hvs
  rw[hP] at hu2
  have hbel:=hm'.glob.below
  rw[h0] at hbel
  unfold D6 at hok
  split at hok
  ·rename_i x xs
   match us,hu1 with
   | [u],hu1 =>
    obtain ⟨cs,hu,hr,_⟩:=hu1.1
    match cs,hr with
    | y ::ys,hr =>
     have huy:u=.agg (y ::ys).toArray:=hu
     subst huy
     split at hok
     ·rename_i l y' hrow hwh hni
      obtain ⟨hlv,hok⟩:=dw hok
      injection hok with hok
      subst hok
      have ht:=jD hm' (fun _ _ h=>h) (u:=cZ xs) (gk hlv) hr.2 fun r hr=>hr
      have hdat:Dat E'.w (E'.zp σ'.look (cZ xs)) c.s y' ys:=by
       unfold ke at hwh
       split at hwh
       ·rename_i x' hx
        injection hwh with hwh
        subst hwh
        obtain ⟨c1,c2,e1,hd,h2⟩:=cK hx ht
        match c2,h2 with
        | [],_ =>
        rw[List.append_nil] at e1
        rw[e1]
        exact hd
       ·cases hwh
      refine ⟨_,hu2,y,ys,E'.zp σ'.look (cZ xs),by simp,fun b hb=>.inl (by have:=hm'.glob.z0 b;rw[hz0] at this;exact this hb),fun b hb=>?_,?_⟩
      ·rcases hb with hb | ⟨r,_,⟨ri,h5,h6⟩ | ⟨x,h5,h6⟩⟩
       ·rcases hm'.glob.zfrom b hb with h | h
        ·exact .inl (by rw[<-hz0];exact h)
        ·exact .inr ⟨by rw[h0] at h;exact h,hm'.glob.zlt b hb⟩
       ·obtain ⟨h7,h8⟩:=hm'.row_lt h5 h6
        rw[h0] at h7
        exact .inr ⟨h7,h8⟩
       ·obtain ⟨h7,h8,_⟩:=hm'.glob.xg.own r x b h5 h6
        rw[h0] at h7
        exact .inr ⟨h7,h8⟩
      ·have hone:fF E' x y:=hr.1
       cases x with
       | row q =>
        simp only[kF] at hrow
        split at hrow
        ·rename_i ri hri
         split at hrow
         ·rename_i he ht' _
          obtain ⟨rt,re,rn,rl⟩:=ri
          simp only at he ht'
          have ht':rt=c.t:=by simpa using ht'
          subst he
          injection hrow with hrow
          obtain ⟨hv,_⟩:=hone
          obtain ⟨_,zs,o1,o2,_⟩:=hm'.rows q _ hri
          rw[h0] at o1
          simp only at o1 o2
          have hrl:l=rl:=hrow.symm
          rw[hrl]
          refine ⟨fun b hb hz=>?_,⟨zs,by rw[hv,<-ht'];exact o1,au.mono (fun b hb=>.inl hb) (fun _ _=>rfl) o2⟩,hdat,hbel⟩
          rw[hv] at hb
          have hro:=hm'.glob.rown q _ b hri hb
          rcases hz with hz | ⟨r,hru,⟨ri',h5,h6⟩ | ⟨x',h5,h6⟩⟩
          ·exact hro.1 hz
          ·have hqr:=hm'.glob.rinj q r _ _ b hri h5 hb h6
           subst hqr
           simp only[zX,Bool.not_eq_true'] at hni
           have:=bS.2 hru
           rw[hni] at this
           cases this
          ·exact (hm'.glob.xg.own r x' b h5 h6).2.2.2.2 q _ hri hb
         ·cases hrow
        ·cases hrow
       | v z' =>
        unfold kF at hrow
        split at hrow
        ·rename_i heq;cases heq
        ·rename_i heq
         injection heq with heq
         subst heq
         injection hrow with hrow
         subst hrow
         have hv:y=.slice none 0 0:=hone
         subst hv
         exact ⟨fun b hb=>(by cases hb),⟨[],World.ownsRow_nil _ _ _ _,rfl⟩,hdat,hbel⟩
        ·cases hrow
       | _=>simp[kF] at hrow
     ·cases hok
  ·cases hok
 cases ex with
 | normal =>
  simp only[GP] at hk
  split at hk
  ·rename_i vs hvs;exact done vs hvs hk
  ·cases hk
 | ret =>
  simp only[GP] at hk
  split at hk
  ·rename_i vs hvs;exact done vs hvs hk
  ·cases hk
 | exit i=>cases hk
def ACtr.init (c:ACtr) (l:List c.e.T) (x:TsS c.as):St:={ s:=(0,some ⟨none,.c false [.row 0]⟩) ::gZ c.as x 1,h:=[],r:=[(0,.some ⟨c.t,c.e,l.length,l⟩)],next:=1 }
def FZ (rk:Rk) (t:TypeId) (e:Sh):List SV->Option (List e.T)
 | [.c false [.row q]]=>match kF rk t e (.row q) with
  | some l=>gt [Nat.ble 1 l.length] (some l)
  | none=>none
 | _=>none
def D3 (P:Program) (t:TypeId) (e:Sh) (rv:Array ResultVar):Ex->St->Option (List e.T)
 | .exit _,_=>none
 | _,σ=>match jh P σ.look rv.toList with
  | some vs=>FZ σ.look.r t e vs
  | none=>none
def KF (lp:Lp) (jn:Jn) (C:Ctx) (hl:FuncId->Hint) (d:Nat) (id:FuncId) (fn:Func) (c:ACtr) (l:List c.e.T) (x:TsS c.as):Option (List c.e.T) :=
 den lp jn (vt lp jn C hl d) C fn.ntmps { hl id with inner:=true } (fn.body.getD .skip) (c.init l x) (D3 C.P c.t c.e fn.results)
theorem sC {w:World} {base base':Nat} {t:TypeId} {sz n:Nat} {v:Value} {xs:List Value} (h:w.ownsRow base t sz v n xs) (hb:∀b,v.ownBlock=some b->base'<=b):w.ownsRow base' t sz v n xs:=by
 obtain ⟨h1,h2⟩:=h
 refine ⟨h1,?_⟩
 rcases h2 with h2 | ⟨g,cap,cur,rfl,h3,h4⟩
 ·exact .inl h2
 ·exact .inr ⟨g,cap,cur,rfl,hb g rfl,h4⟩
theorem ACtr.of_den {C:Ctx} (hC:C.ok) (aw:C.P.follows .mixedOrders=true) {hl:FuncId->Hint} {d:Nat} {f:FuncId} {fn:Func} {code:Code} {c:ACtr} (hf:C.P.funcs[f]?=some fn) (hb:fn.body=some code) (hn:c.as.length+1<=fn.ntmps)
  (hm0:∀l x,c.m l x=KF lpK jnK C hl d f fn c l x):c.ok C.P f:=by
 intro l x z h w Z base v xs vals hZ hbase hv hr hvZ h1
 rw[hm0 l x] at h
 have hlen:=h1.length
 refine calls_of_wp hf hb (wpIn_wide (n:=0).1 ?_)
 let Y:Nat->Prop:=fun b=>b<w.heap.size/\v.ownBlock≠some b
 have hZY:∀b,Z b->Y b:=fun b hb=>⟨hZ b hb,fun e=>hvZ b e hb⟩
 have hvlt:∀b,v.ownBlock=some b->b<w.heap.size:=fun b hb=>(hv.lt b hb).2
 have hvle:∀b,v.ownBlock=some b->base<=b:=fun b hb=>(hv.lt b hb).1
 have h1':cu w Y c.as x vals:=by
  clear h hlen hm0 hn
  revert h1
  have one:∀{s:Sh} {x:s.T} {v:Value},kJ w Z s x v->kJ w Y s x v:=fun ⟨cs,g1,g2,g3⟩=>⟨cs,Dat.mono hZY (fun _ _=>rfl) g1,g2,g3⟩
  generalize c.as=as at x
  intro h1
  induction as generalizing vals with
  | nil=>exact h1
  | cons s r ih =>
   simp only[cu] at h1 ⊢
   obtain ⟨v,vs',h3,h4,h5⟩:=h1
   exact ⟨v,vs',h3,one h4,ih (vals:=vs') (x:=x.2) h5⟩
 let w0:World:={ w with heap:=#[] }
 have hbel0:Below w0.heap.size w0 w:=⟨rfl,rfl,rfl,Nat.zero_le _,fun k hk=>absurd hk (Nat.not_lt_zero k)⟩
 let E:Env:={ P:=C.P,w0:=w0,Z0:=Y,w:=w,Z:=Y,β:=fun _=>0,L:=fun _=>False,ρ:=fun _=>v,R:=fun i=>i=0,φ:=fun _ _=>False,ι:=fun _ _=>undef,ν:=fun _=>0,rg:=false }
 have hr0:∀i ri,(c.init l x).look.r i=some ri->i=0/\ri=.some ⟨c.t,c.e,l.length,l⟩:=fun i ri hi=>by
  simp only[ACtr.init,St.look] at hi
  rw[ai] at hi
  split at hi
  ·rename_i e
   injection hi with hi
   exact ⟨e,hi.symm⟩
  ·simp[look] at hi
 have hm:Mod fn.ntmps E { tmps:=(v ::vals).toArray++Array.replicate (fn.ntmps - (v ::vals).toArray.size) undef,defers:=[] } (c.init l x).look:=by
  refine ⟨⟨hbel0,fun b hb=>hb.1,fun _ h=>h,fun _ h=>.inl h,fun b hb=>hb.elim,fun r hr=>?_,fun i l hi=>by simp[ACtr.init,St.look,look] at hi,fun i j l l' hi=>by simp[ACtr.init,St.look,look] at hi,
   fun i r b hi hb=>⟨fun hy=>hy.2 hb,fun j l hj=>by simp[ACtr.init,St.look,look] at hj⟩,fun i j r r' b hi hj _ _=>(hr0 i _ hi).1.trans (hr0 j _ hj).1.symm,⟨fun i x b hi=>(by have:=(hr0 i _ hi).2;cases this),fun i j x y b hi=>(by have:=(hr0 i _ hi).2;cases this)⟩⟩,trivial,?_,fun i t' hi=>?_,fun i l hi=>by simp[ACtr.init,St.look,look] at hi,fun i r hi=>?_,fun i x hi=>(by have:=(hr0 i _ hi).2;cases this)⟩
  ·have hr:r=0:=hr
   subst hr
   rfl
  ·simp only[Array.size_append,List.size_toArray,Array.size_replicate,List.length_cons]
   omega
  ·simp only[St.look,eK] at hi
   split at hi
   ·rename_i s' hl'
    injection hi with hi
    subst hi
    have get:∀u,(v ::vals)[i]?=some u->((v ::vals).toArray++Array.replicate (fn.ntmps - (v ::vals).toArray.size) undef)[i]?=some u:=fun u hu=>by
     have hlt:=(List.getElem?_eq_some_iff.1 hu).1
     rw[Array.getElem?_append_left (by simpa using hlt)]
     simpa using hu
    simp only[ACtr.init] at hl'
    rw[ai] at hl'
    split at hl'
    ·rename_i e0
     simp only[Option.some.injEq] at hl'
     subst hl';subst e0
     exact ⟨v,get v rfl,⟨[v],rfl,⟨⟨rfl,rfl,cX hv⟩,trivial⟩,fun _=>rfl⟩⟩
    ·obtain ⟨u,k1,k2,k3⟩:=eV (E:=E) h1' i s' hl'
     refine ⟨u,get u ?_,k3⟩
     rw[show i=(i - 1)+1 by omega]
     simpa using k2
   ·cases hi
  ·obtain ⟨e1,e2⟩:=hr0 i _ hi
   injection e2 with e2
   subst e2
   exact ⟨e1,xs,sC hv fun b _=>Nat.zero_le _,au.mono hZY (fun _ _=>rfl) hr,rfl⟩
 unfold KF at h
 rw[hb] at h
 refine eM (F:=Fence.wide) hC (ky hC aw d) aw (.inl rfl) (fun _=>rfl) h (fun i hi=>by simp[ACtr.init] at hi) (E:=E) ⟨rfl,fun e=>by cases e⟩ hm fun ex σ' E' a1 hk hs' hkp1 _ _ hm'=>?_
 have hdef:a1.defers=[]:=eH.none hkp1.rg hm'.nodef
 have hkeep:∀b,Y b->E'.w.heap[b]?=w.heap[b]?:=fun b hy=>by
  have hlt:b<w.heap.size:=hy.1
  have hob:w.heap[b]?=some w.heap[b]:=Array.getElem?_eq_getElem hlt
  have h3:=hkp1.obj b _ ⟨hy,Nat.zero_le _,hob⟩
  rw[h3.2.2,hob]
 have h0:E'.w0=w0:=hs'.w0
 have hz0:E'.Z0=Y:=hs'.Z0
 have hP:E'.P=C.P:=hs'.P
 have hzY:∀b,Y b->E'.Z b:=fun b hb=>by have:=hm'.glob.z0 b;rw[hz0] at this;exact this hb
 have hbel:=hm'.glob.below
 rw[h0] at hbel
 have done:∀vs,jh C.P σ'.look fn.results.toList=some vs->FZ σ'.look.r c.t c.e vs=some z->a1.defers=[]/\∃u,(results fn a1.tmps).run C.P E'.w=.ok u E'.w/\∃(v':Value) (ys:List Value),Ending.returned u=.returned v'/\w.grownBy E'.w v.ownBlock/\E'.w.ownsRow base c.t c.e.size v' z.length ys/\(∃Z',au E'.w Z' c.e z ys)/\(∀b,v'.ownBlock=some b->v.ownBlock=some b\/w.heap.size<=b):=by
  intro vs hvs hok
  rw[<-hP] at hvs
  obtain ⟨us,hu1,hu2⟩:=eB hm' hvs
  rw[hP] at hu2
  refine ⟨hdef,_,hu2,?_⟩
  unfold FZ at hok
  split at hok
  ·rename_i q
   match us,hu1 with
   | [u],hu1 =>
    obtain ⟨cs,hu,hr,_⟩:=hu1.1
    match cs,hr with
    | [y],hr =>
     have huy:u=y:=hu
     subst huy
     have hone:(if h:[u].length=1 then [u][0] else Value.tuple [u].toArray)=u:=by simp
     rw[hone]
     split at hok
     ·rename_i l' hrow
      obtain ⟨hble,hok⟩:=dw hok
      injection hok with hok
      subst hok
      obtain ⟨hble,_⟩:=dt hble
      have hne:1<=l'.length:=by simpa using hble
      simp only[kF] at hrow
      split at hrow
      ·rename_i ri hri
       split at hrow
       ·rename_i he ht _
        obtain ⟨rt,re,rn,rl⟩:=ri
        simp only at he ht
        subst he
        have ht:rt=c.t:=by simpa using ht
        injection hrow with hrow
        have hrl:l'=rl:=hrow.symm
        obtain ⟨⟨hv',_⟩,_⟩:=hr
        obtain ⟨_,zs,o1,o2,_⟩:=hm'.rows q _ hri
        rw[h0] at o1
        simp only at o1 o2
        rw[<-hv',ht,<-hrl] at o1
        rw[<-hrl] at o2
        have hrown:=fun b=>hm'.glob.rown q _ b hri
        have hblk:∀b,u.ownBlock=some b->v.ownBlock=some b\/w.heap.size<=b:=fun b hub=>by
         rw[hv'] at hub
         have:=(hrown b hub).1
         by_cases hb1:w.heap.size<=b
         ·exact .inr hb1
         ·by_cases hb2:v.ownBlock=some b
          ·exact .inl hb2
          ·exact absurd (hzY b ⟨by omega,hb2⟩) this
        have hsize:w.heap.size<=E'.w.heap.size:=by
         rcases o1.2 with ⟨_,hn0⟩ | ⟨g,cap,cur,hug,_⟩
         ·omega
         ·have hgo:u.ownBlock=some g:=by rw[hug];rfl
          have hglt:g<E'.w.heap.size:=(o1.lt g hgo).2
          rcases hblk g hgo with hvg | hge
          ·have h6:=hvlt g hvg
           by_cases hlast:g=w.heap.size - 1
           ·omega
           ·have h5:=hzY (w.heap.size - 1) ⟨by omega,fun e=>hlast (by rw[hvg] at e;injection e)⟩
            have:=hm'.glob.zlt _ h5
            omega
          ·omega
        refine ⟨u,zs,rfl,⟨hbel.os,hbel.tape,hbel.output,hsize,fun k hk hne=>hkeep k ⟨hk,fun e=>hne e.symm⟩⟩,sC o1 fun b hub=>?_,⟨_,o2⟩,hblk⟩
        rcases hblk b hub with h | h
        ·exact hvle b h
        ·omega
       ·cases hrow
      ·cases hrow
     ·cases hok
  ·cases hok
 cases ex with
 | normal =>
  simp only[D3] at hk
  split at hk
  ·rename_i vs hvs;exact done vs hvs hk
  ·cases hk
 | ret =>
  simp only[D3] at hk
  split at hk
  ·rename_i vs hvs;exact done vs hvs hk
  ·cases hk
 | exit i=>cases hk
def gj (P:Program) (sh:TypeId->Option Sh) (inl:List Nat) (il:List (Nat×ICtr)) (l:List (Nat×Ctr)) (rl:List (Nat×RCtr):=[]):Ctx:=⟨P,sh,look l,fun i=>gp i inl,look rl,look il,fun _=>none,fun _=>none,fun _=>none,fun _=>none,fun _=>false,fun _=>none,fun _=>none⟩
def Od (C:Ctx) (a:List Sh) (r:Sh) (rv:Array ResultVar):Ex->St->Option (FnT a r)
 | .exit _,_=>none
 | _,σ=>match jh C.P σ.look rv.toList with
  | some [sv]=>match qp sv with
   | some (id,cap)=>match C.ctr id,fP (look σ.h) cap with
    | some c,[]=>match gL (look σ.r) (look σ.h) c.cs cap with
     | some y=>c.asFn a r y
     | none=>none
    | _,_=>none
   | none=>none
  | _=>none
def L1 (lp:Lp) (jn:Jn) (C:Ctx) (hl:FuncId->Hint) (d:Nat) (id:FuncId) (fn:Func) (c:FCtr) (x:TsS c.as):Option (FnT c.a c.r) :=
 den lp jn (vt lp jn C hl d) C fn.ntmps (hl id) (fn.body.getD .skip) { s:=gZ c.as x 0,h:=[],r:=[],next:=0 } (Od C c.a c.r fn.results)
theorem J3 {w:World} {b j:Nat} {u:Value} (h:w.cell? ⟨b,j,none⟩=some u):b<w.heap.size:=by
 unfold World.cell? at h
 cases hb:w.heap[b]? with
 | none=>simp[hb] at h
 | some o=>exact (Array.getElem?_eq_some_iff.1 hb).1
theorem Dat.cellwise {w w':World} {Z Z':Nat->Prop} (hZ:∀b,Z b->Z' b) (hw:∀(ad:Addr) (u:Value),Z ad.block->w.cell? ad=some u->w'.cell? ad=some u):∀{s:Sh} {x:s.T} {cs:List Value},Dat w Z s x cs->Dat w' Z' s x cs
 | .int _,_,_,h=>h
 | .bool,_,_,h=>h
 | .str,_,_,h=>h
 | .ref,_,_,h=>h
 | .sl e,l,cs,h=>by
  simp only[Dat] at h ⊢
  obtain ⟨A,c,rfl,hc,hA,h⟩:=h
  refine ⟨A,c,rfl,hc,hA,fun h0=>?_⟩
  obtain ⟨ad,rfl,hz,h⟩:=h h0
  refine ⟨ad,rfl,hZ _ hz,fun k x hx=>?_⟩
  obtain ⟨ecs,h1,h2⟩:=h k x hx
  exact ⟨ecs,Dat.cellwise hZ hw h1,fun j v hv=>hw _ _ (by rw[jz];exact hz) (h2 j v hv)⟩
 | .pair a b,x,cs,h=>by
  simp only[Dat] at h ⊢
  obtain ⟨c1,c2,rfl,h1,h2⟩:=h
  exact ⟨c1,c2,rfl,Dat.cellwise hZ hw h1,Dat.cellwise hZ hw h2⟩
 | .agg e,x,cs,h=>Dat.cellwise (s:=e) (x:=x) hZ hw h
theorem wn {N:Nat} {E:Env} {a:Act} {g:Look} (hm:Mod N E a g) {w':World} {Z1 Z':Nat->Prop} (h1:∀b,E.Z b->Z1 b) (hw:∀(ad:Addr) (u:Value),Z1 ad.block->E.w.cell? ad=some u->w'.cell? ad=some u) (hZ:∀b,Z1 b->Z' b) :
  ∀{cs:List Sh} {cap:List (Nat×Nat)} {y:TsS cs},gL g.r g.h cs cap=some y->fP g.h cap=[]->(∀p ∈ cap,Z1 (E.β p.1))->lO w' Z' cs y (cap.map (eU E.β))
 | [],[],_,_,_,_=>rfl
 | s ::r,p ::l,y,h,hu,hc=>by
  simp only[gL] at h
  split at h
  ·rename_i b z h0 hb hz
   split at h
   ·rename_i x hx
    injection h with h
    subst h
    rw[pj hb] at hu
    obtain ⟨hu1,hu2⟩:=List.append_eq_nil_iff.1 hu
    obtain ⟨i,off⟩:=p
    have h0:off=0:=by simpa using h0
    subst h0
    simp only[List.map_cons,lO]
    refine ⟨_,_,rfl,?_,wn hm h1 hw hZ hz hu2 fun q hq=>hc q (List.mem_cons_of_mem _ hq)⟩
    obtain ⟨_,cs,t,hh,hr0,_⟩:=hm.blks i b hb
    have hr:=jD hm (fun _ _ h=>h) (u:=[]) (fun r hr=>by cases hr) hr0 (fun r hr=>by rw[hu1] at hr;cases hr)
    unfold ke at hx
    split at hx
    ·rename_i x' hx'
     injection hx with hx
     subst hx
     obtain ⟨c1,c2,rfl,hd,h2⟩:=cK hx' hr
     match c2,h2 with
     | [],_ =>
     rw[List.append_nil] at hh
     have hcell:∀j u,c1[j]?=some u->w'.cell? ⟨E.β i,j,none⟩=some u:=fun j u hj=>hw _ _ (hc (i,0) (by simp)) (by simp[World.cell?,hh,hj])
     have hlt:E.β i<w'.heap.size:=by
      have hl:=hd.len
      have hp:=Sh.size_pos' s
      exact J3 (hcell 0 (c1[0]'(by omega)) (List.getElem?_eq_getElem _))
     refine ⟨E.β i,c1,rfl,hlt,?_,hcell⟩
     refine Dat.cellwise (fun b hb=>hZ b ?_) (fun ad u hz hcu=>hw ad u ?_ hcu) hd
     ·rcases hb with hb | ⟨r,hr,_⟩
      ·exact h1 b hb
      ·cases hr
     ·rcases hz with hb | ⟨r,hr,_⟩
      ·exact h1 _ hb
      ·cases hr
    ·cases hx
   ·cases h
  ·cases h
 | [],_ ::_,_,h,_,_=>by cases h
 | _ ::_,[],_,h,_,_=>by cases h
theorem FCtr.of_den {C:Ctx} (hC:C.ok) (aw:C.P.follows .mixedOrders=true) {hl:FuncId->Hint} {d:Nat} {f:FuncId} {fn:Func} {code:Code} {c:FCtr} (hf:C.P.funcs[f]?=some fn) (hb:fn.body=some code) (hn:c.as.length<=fn.ntmps)
  (h:∀x,c.m x=L1 lpK jnK C hl d f fn c x):c.ok C.P f:=by
 intro x F hz w Z vals hZ h1
 refine gl hf hb ?_
 let E:Env:={ P:=C.P,w0:=w,Z0:=Z,w:=w,Z:=Z,β:=fun _=>0,L:=fun _=>False,ρ:=fun _=>undef,R:=fun _=>False,φ:=fun _ _=>False,ι:=fun _ _=>undef,ν:=fun _=>0 }
 have l1:=h1.length
 have hm:Mod fn.ntmps E { tmps:=vals.toArray++Array.replicate (fn.ntmps - vals.toArray.size) undef,defers:=[] } ({ s:=gZ c.as x 0,h:=[],r:=[],next:=0 }:St).look:=by
  refine ⟨⟨Below.refl _ _,hZ,fun _ h=>h,fun _ h=>.inl h,fun b hb=>hb.elim,fun r hr=>hr.elim,fun i l hi=>by simp[St.look,look] at hi,fun i j l l' hi=>by simp[St.look,look] at hi,
   fun i r b hi=>by simp[St.look,look] at hi,fun i j r r' b hi=>by simp[St.look,look] at hi,⟨fun i x b hi=>by simp[St.look,look] at hi,fun i j x y b hi=>by simp[St.look,look] at hi⟩⟩,trivial,?_,fun i t' hi=>?_,fun i l hi=>by simp[St.look,look] at hi,fun i r hi=>by simp[St.look,look] at hi,fun i x hi=>by simp[St.look,look] at hi⟩
  ·simp only[Array.size_append,List.size_toArray,Array.size_replicate]
   omega
  ·simp only[St.look,eK] at hi
   split at hi
   ·rename_i s' hl'
    injection hi with hi
    subst hi
    obtain ⟨v,_,h2,h3⟩:=eV (E:=E) h1 i s' hl'
    rw[Nat.sub_zero] at h2
    refine ⟨v,?_,h3⟩
    have hlt:=(List.getElem?_eq_some_iff.1 h2).1
    rw[Array.getElem?_append_left (by simpa using hlt)]
    simpa using h2
   ·cases hi
 have hrun:=hz
 rw[h x] at hrun
 unfold L1 at hrun
 rw[hb] at hrun
 refine eM hC (ky hC aw d) aw (.inl rfl) (fun _=>rfl) hrun (fun i hi=>by simp at hi) (E:=E) ⟨rfl,fun _=>rfl⟩ hm fun ex σ' E1 a1 hk hs' _ _ _ hm1=>?_
 have hcases:ex=.normal\/ex=.ret:=by
  cases ex with
  | normal=>exact .inl rfl
  | ret=>exact .inr rfl
  | exit i=>cases hk
 refine ⟨by rcases hcases with rfl | rfl<;>simp[Ex.to],E1,rfl,hm1.nodef,fun w2 hT=>?_⟩
 obtain ⟨E',hE'⟩:∃E',E'=E1.wset w2:=⟨_,rfl⟩
 have hw2:w2=E'.w:=by rw[hE'];rfl
 have hs':dW E E':=by rw[hE'];exact hs'
 have hm':Mod fn.ntmps E' { tmps:=a1.tmps,defers:=[] } σ'.look:=by rw[hE'];exact hm1.turned hT rfl trivial
 rw[hw2]
 clear hm1 hT hE' hw2
 have hP:E'.P=C.P:=hs'.P
 have h0:E'.w0=w:=hs'.w0
 have hz0:E'.Z0=Z:=hs'.Z0
 have done:(match jh C.P σ'.look fn.results.toList with
  | some [sv]=>match qp sv with
   | some (id,cap)=>match C.ctr id,fP (look σ'.h) cap with
    | some c',[]=>match gL (look σ'.r) (look σ'.h) c'.cs cap with
     | some y=>c'.asFn c.a c.r y
     | none=>none
    | _,_=>none
   | none=>none
  | _=>none)=some F->∃v,(results fn a1.tmps).run C.P E'.w=.ok v E'.w/\∃u Z',Ending.returned v=.returned u/\(∀b,Z' b->fresh Z w E'.w b)/\FnZ C.P E'.w Z' c.a c.r F u/\Below w.heap.size w E'.w:=by
  intro hok
  split at hok
  case h_2=>cases hok
  rename_i sv hsv
  split at hok
  case h_2=>cases hok
  rename_i id cap hfo
  split at hok
  case h_2=>cases hok
  rename_i c' hc' hrow
  split at hok
  case h_2=>cases hok
  rename_i y hy
  rw[<-hP] at hsv
  obtain ⟨us,hu1,hu2⟩:=eB hm' hsv
  rw[hP] at hu2
  match us,hu1,hu2 with
  | [u],hu1,hu2 =>
  have hub:(if h:[u].length=1 then [u][0] else .tuple [u].toArray)=u:=rfl
  rw[hub] at hu2
  have hu:=qH hfo hu1.1
  have hcl:=yy hfo hu1.1
  obtain ⟨hcall,hokc⟩:=hC.ctr id c' hc'
  have blkOf:∀p ∈ cap,∃l,σ'.look.h p.1=some l:=fun p hp=>by
   have:=hm'.glob.live p.1 (hcl p hp)
   cases hq:σ'.look.h p.1 with
   | none=>rw[hq] at this;cases this
   | some l=>exact ⟨l,rfl⟩
  refine ⟨u,hu2,u,fun b=>E'.Z b\/∃p ∈ cap,E'.β p.1=b,rfl,fun b hb=>?_,⟨id,_,hu,hcall,fun w' Z' x' y' vals' hw hZ' hZb hd hv'=>?_⟩,by have:=hm'.glob.below;rw[h0] at this;exact this⟩
  ·rcases hb with hb | ⟨p,hp,rfl⟩
   ·rcases hm'.glob.zfrom b hb with h | h
    ·exact .inl (by rw[<-hz0];exact h)
    ·exact .inr ⟨by rw[h0] at h;exact h,hm'.glob.zlt b hb⟩
   ·obtain ⟨l,hl⟩:=blkOf p hp
    refine .inr ⟨by have:=(hm'.glob.own p.1 l hl).1;rw[h0] at this;exact this,hm'.blk_lt hl⟩
  ·have hrefs:=wn hm' (Z1:=fun b=>E'.Z b\/∃p ∈ cap,E'.β p.1=b) (fun _ h=>.inl h) hw hZ' hy hrow fun p hp=>.inr ⟨p,hp,rfl⟩
   obtain ⟨as',fs',cs',r',m⟩:=c'
   unfold Ctr.asFn at hok
   split at hok
   ·rename_i as2 cs2 r2 m2 _ y2 heq1 heq2
    injection heq1 with e1 e2 e3 e4 e6
    subst e1;subst e2;subst e3;subst e4
    cases e6;cases heq2
    split at hok
    ·rename_i g1 g2 _ _
     subst g1;subst g2
     injection hok with hok
     subst hok
     have:=hokc x' () y2 y' hd w' Z' vals' [] _ hZb hv' rfl hrefs
     simpa [ki] using this
    ·cases hok
   ·cases hok
 rcases hcases with rfl | rfl
 ·exact done hk
 ·exact done hk
def Ar (lp:Lp) (jn:Jn) (C:Ctx) (hl:FuncId->Hint) (d:Nat) (id:FuncId) (fn:Func) (c:PCtr) (x:c.s.T) (y:TsS c.as):Option c.r.T :=
 den lp jn (vt lp jn C hl d) C fn.ntmps (hl id) (fn.body.getD .skip) { s:=(0,some ⟨none,.c false [.rf c.s x 0]⟩) ::gZ c.as y 1,h:=[],r:=[],next:=0 } (post C.P c.r fn.results)
theorem PCtr.of_den {C:Ctx} (hC:C.ok) (aw:C.P.follows .mixedOrders=true) {hl:FuncId->Hint} {d:Nat} {f:FuncId} {fn:Func} {code:Code} {c:PCtr} (hf:C.P.funcs[f]?=some fn) (hb:fn.body=some code) (hn:c.as.length+1<=fn.ntmps)
  (h:∀x y,c.m x y=Ar lpK jnK C hl d f fn c x y):c.ok C.P f:=by
 intro x y z hz w Z v vals hZ hv h1
 refine gl hf hb ?_
 let E:Env:={ P:=C.P,w0:=w,Z0:=Z,w:=w,Z:=Z,β:=fun _=>0,L:=fun _=>False,ρ:=fun _=>undef,R:=fun _=>False,φ:=fun _ _=>False,ι:=fun _ _=>undef,ν:=fun _=>0 }
 have l1:=h1.length
 have hm:Mod fn.ntmps E { tmps:=(v ::vals).toArray++Array.replicate (fn.ntmps - (v ::vals).toArray.size) undef,defers:=[] } ({ s:=(0,some ⟨none,.c false [.rf c.s x 0]⟩) ::gZ c.as y 1,h:=[],r:=[],next:=0 }:St).look:=by
  refine ⟨⟨Below.refl _ _,hZ,fun _ h=>h,fun _ h=>.inl h,fun b hb=>hb.elim,fun r hr=>hr.elim,fun i l hi=>by simp[St.look,look] at hi,fun i j l l' hi=>by simp[St.look,look] at hi,
   fun i r b hi=>by simp[St.look,look] at hi,fun i j r r' b hi=>by simp[St.look,look] at hi,⟨fun i x b hi=>by simp[St.look,look] at hi,fun i j x y b hi=>by simp[St.look,look] at hi⟩⟩,trivial,?_,fun i t' hi=>?_,fun i l hi=>by simp[St.look,look] at hi,fun i r hi=>by simp[St.look,look] at hi,fun i x hi=>by simp[St.look,look] at hi⟩
  ·simp only[Array.size_append,List.size_toArray,Array.size_replicate,List.length_cons]
   omega
  ·have get:∀v',(v ::vals)[i]?=some v'->((v ::vals).toArray++Array.replicate (fn.ntmps - (v ::vals).toArray.size) undef)[i]?=some v':=fun v' hv'=>by
    have hlt:=(List.getElem?_eq_some_iff.1 hv').1
    rw[Array.getElem?_append_left (by simpa using hlt)]
    simpa using hv'
   simp only[St.look,eK] at hi
   split at hi
   ·rename_i s' hl'
    injection hi with hi
    subst hi
    rw[ai] at hl'
    split at hl'
    ·rename_i e
     subst e
     simp only[Option.some.injEq] at hl'
     subst hl'
     obtain ⟨ad,cs,g1,g2,g3,g4⟩:=hv
     exact ⟨v,get v rfl,⟨[v],rfl,⟨⟨ad,cs,g1,.inr g2,g3,g4⟩,trivial⟩,fun _=>rfl⟩⟩
    ·obtain ⟨v',h3,h2,h4⟩:=eV (E:=E) h1 i s' hl'
     refine ⟨v',get v' ?_,h4⟩
     rw[show i=(i - 1)+1 by omega]
     exact h2
   ·cases hi
 have hrun:=hz
 rw[h x y] at hrun
 unfold Ar at hrun
 rw[hb] at hrun
 refine eM hC (ky hC aw d) aw (.inl rfl) (fun _=>rfl) hrun (fun i hi=>by simp at hi) (E:=E) ⟨rfl,fun _=>rfl⟩ hm fun e σ' E1 a1 hk hs _ _ _ hm1=>?_
 have hcases:e=.normal\/e=.ret:=by
  cases e with
  | normal=>exact .inl rfl
  | ret=>exact .inr rfl
  | exit i=>cases hk
 refine ⟨by rcases hcases with rfl | rfl<;>simp[Ex.to],E1,rfl,hm1.nodef,fun w2 hT=>?_⟩
 obtain ⟨E',hE'⟩:∃E',E'=E1.wset w2:=⟨_,rfl⟩
 have hw2:w2=E'.w:=by rw[hE'];rfl
 have hs:dW E E':=by rw[hE'];exact hs
 have hm':Mod fn.ntmps E' { tmps:=a1.tmps,defers:=[] } σ'.look:=by rw[hE'];exact hm1.turned hT rfl trivial
 rw[hw2]
 clear hm1 hT hE' hw2
 have hP:E'.P=C.P:=hs.P
 have h0:E'.w0=w:=hs.w0
 have hz0:E'.Z0=Z:=hs.Z0
 have done:∀vs,jh C.P σ'.look fn.results.toList=some vs->gt (lc σ'.look.r (fz vs)) (ku c.r (kS σ'.look.r vs))=some z->∃v,(results fn a1.tmps).run C.P E'.w=.ok v E'.w/\∃u,Ending.returned v=.returned u/\ki E'.w (fresh Z w E'.w) c.r z u/\Below w.heap.size w E'.w:=by
  intro vs hvs hok
  obtain ⟨hlv,hok⟩:=dw hok
  rw[<-hP] at hvs
  obtain ⟨us,hu1,hu2⟩:=eB hm' hvs
  rw[hP] at hu2
  have hu3:=iI hm' (fun _ _ h=>h) (u:=fz vs) (gk hlv) hu1 fun r hr=>hr
  refine ⟨_,hu2,_,rfl,vQ (fun b hb=>?_) (nv (E:=E'.zone σ'.look (fz vs)) hok hu3),?_⟩
  ·rcases hb with hb | ⟨r,_,⟨ri,h5,h6⟩ | ⟨x,h5,h6⟩⟩
   ·rcases hm'.glob.zfrom b hb with h | h
    ·exact .inl (by rw[<-hz0];exact h)
    ·exact .inr ⟨by rw[h0] at h;exact h,hm'.glob.zlt b hb⟩
   ·obtain ⟨h7,h8⟩:=hm'.row_lt h5 h6
    rw[h0] at h7
    exact .inr ⟨h7,h8⟩
   ·obtain ⟨h7,h8,_⟩:=hm'.glob.xg.own r x b h5 h6
    rw[h0] at h7
    exact .inr ⟨h7,h8⟩
  ·have:=hm'.glob.below
   rw[h0] at this
   exact this
 cases e with
 | normal =>
  simp only[post] at hk
  split at hk
  ·rename_i vs hvs
   exact done vs hvs hk
  ·cases hk
 | ret =>
  simp only[post] at hk
  split at hk
  ·rename_i vs hvs
   exact done vs hvs hk
  ·cases hk
 | exit i=>cases hk
def uG (tb:TypeId->Option XP) (lit:String->Bool) (C:Ctx):Ctx:={ C with tb:=tb,lit:=lit }
theorem an {tb:TypeId->Option XP} {lit:String->Bool} {C:Ctx} (h:C.ok):(uG tb lit C).ok:=⟨h.ctr,h.inl,h.rctr,h.it,h.fctr,h.pctr,h.mctr,h.wctr,h.actr⟩
def Av (pl:List (Nat×PCtr)) (ml:List (Nat×MCtr)) (C:Ctx):Ctx:={ C with pctr:=look pl,mctr:=look ml }
def JG (P:Program) (fl:List (Nat×PCtr)):Prop:=∀id c,look fl id=some c->bP P id=true/\c.ok P id
theorem lq {P:Program}:JG P []:=fun _ _ h=>by cases h
theorem fY {P:Program} {f:FuncId} {c:PCtr} {fl:List (Nat×PCtr)} (hc:bP P f=true) (ho:c.ok P f) (h:JG P fl):JG P ((f,c) ::fl):=fun id d hd=>by
 rw[ai] at hd
 split at hd
 ·rename_i e
  injection hd with hd
  subst hd;subst e
  exact ⟨hc,ho⟩
 ·exact h id d hd
def H7 (P:Program) (fl:List (Nat×MCtr)):Prop:=∀id c,look fl id=some c->bP P id=true/\c.ok P id
theorem lk {P:Program}:H7 P []:=fun _ _ h=>by cases h
theorem Cv {P:Program} {f:FuncId} {c:MCtr} {fl:List (Nat×MCtr)} (hc:bP P f=true) (ho:c.ok P f) (h:H7 P fl):H7 P ((f,c) ::fl):=fun id d hd=>by
 rw[ai] at hd
 split at hd
 ·rename_i e
  injection hd with hd
  subst hd;subst e
  exact ⟨hc,ho⟩
 ·exact h id d hd
theorem oG {pl:List (Nat×PCtr)} {ml:List (Nat×MCtr)} {C:Ctx} (h:C.ok) (hp:JG C.P pl) (hm:H7 C.P ml):(Av pl ml C).ok:=⟨h.ctr,h.inl,h.rctr,h.it,h.fctr,hp,hm,h.wctr,h.actr⟩
def MQ (fl:List (Nat×FCtr)) (C:Ctx):Ctx:={ C with fctr:=look fl }
def I0 (P:Program) (fl:List (Nat×FCtr)):Prop:=∀id c,look fl id=some c->bP P id=true/\c.ok P id
theorem GH {P:Program}:I0 P []:=fun _ _ h=>by cases h
theorem CZ {P:Program} {f:FuncId} {c:FCtr} {fl:List (Nat×FCtr)} (hc:bP P f=true) (ho:c.ok P f) (h:I0 P fl):I0 P ((f,c) ::fl):=fun id d hd=>by
 rw[ai] at hd
 split at hd
 ·rename_i e
  injection hd with hd
  subst hd;subst e
  exact ⟨hc,ho⟩
 ·exact h id d hd
theorem JC {fl:List (Nat×FCtr)} {C:Ctx} (h:C.ok) (hf:I0 C.P fl):(MQ fl C).ok:=⟨h.ctr,h.inl,h.rctr,h.it,hf,h.pctr,h.mctr,h.wctr,h.actr⟩
def PE (fl:List (Nat×WCtr)) (C:Ctx):Ctx:={ C with wctr:=look fl }
def MJ (fl:List (Nat×ACtr)) (C:Ctx):Ctx:={ C with actr:=look fl }
def Jo (P:Program) (fl:List (Nat×ACtr)):Prop:=∀id c,look fl id=some c->bP P id=true/\c.ok P id
theorem FW {P:Program}:Jo P []:=fun _ _ h=>by cases h
theorem Dm {P:Program} {f:FuncId} {c:ACtr} {fl:List (Nat×ACtr)} (hc:bP P f=true) (ho:c.ok P f) (h:Jo P fl):Jo P ((f,c) ::fl):=fun id d hd=>by
 rw[ai] at hd
 split at hd
 ·rename_i e
  injection hd with hd
  subst hd;subst e
  exact ⟨hc,ho⟩
 ·exact h id d hd
theorem Iv {fl:List (Nat×ACtr)} {C:Ctx} (h:C.ok) (hf:Jo C.P fl):(MJ fl C).ok:=⟨h.ctr,h.inl,h.rctr,h.it,h.fctr,h.pctr,h.mctr,h.wctr,hf⟩
def H1 (P:Program) (il:List (Nat×ICtr)):Prop:=∀id c,look il id=some c->bP P id=true/\c.ok P id
theorem CC {P:Program}:H1 P []:=fun _ _ h=>by cases h
def zF (P:Program):List Nat->Bool
 | []=>true
 | i ::r=>bP P i&&zF P r
theorem wb {P:Program} {i:Nat}:∀{l:List Nat},zF P l=true->gp i l=true->bP P i=true
 | [],_,h=>by cases h
 | j ::r,h,hi=>by
  simp only[zF,z10] at h
  simp only[gp] at hi
  split at hi
  ·rename_i e
   have e:i=j:=by simpa using e
   rw[e];exact h.1
  ·exact wb h.2 hi
theorem Cz {P:Program} {sh:TypeId->Option Sh} {inl:List Nat} {il:List (Nat×ICtr)} (h:zF P inl=true) (hi:H1 P il):(gj P sh inl il []).ok:=⟨fun _ _ h=>(by cases h),fun _ hi=>wb h hi,fun _ _ h=>(by cases h),hi,fun _ _ h=>(by cases h),fun _ _ h=>(by cases h),fun _ _ h=>(by cases h),fun _ _ h=>(by cases h),fun _ _ h=>(by cases h)⟩
theorem rE {P:Program} {sh:TypeId->Option Sh} {inl:List Nat} {il:List (Nat×ICtr)} {rl:List (Nat×RCtr)} {f:FuncId} {c:RCtr} (h:(gj P sh inl il [] rl).ok) (hc:bP P f=true) (ho:c.ok P f):(gj P sh inl il [] ((f,c) ::rl)).ok:=⟨h.ctr,h.inl,fun id d hd=>by
 simp only[gj] at hd
 rw[ai] at hd
 split at hd
 ·rename_i e
  injection hd with hd
  subst hd
  subst e
  exact ⟨hc,ho⟩
 ·exact h.rctr id d hd,h.it,h.fctr,h.pctr,h.mctr,h.wctr,h.actr⟩
theorem aa {P:Program} {sh:TypeId->Option Sh} {inl:List Nat} {il:List (Nat×ICtr)} {l:List (Nat×Ctr)} {rl:List (Nat×RCtr)} {f:FuncId} {c:Ctr} (h:(gj P sh inl il l rl).ok) (hc:bP P f=true) (ho:c.ok P f):(gj P sh inl il ((f,c) ::l) rl).ok:=⟨fun id d hd=>by
 simp only[gj] at hd
 rw[ai] at hd
 split at hd
 ·rename_i e
  injection hd with hd
  subst hd
  subst e
  exact ⟨hc,ho⟩
 ·exact h.ctr id d hd,h.inl,h.rctr,h.it,h.fctr,h.pctr,h.mctr,h.wctr,h.actr⟩
end
end
end Dn
end
end Go.Proofs.YtegbncajloeepaaGreat
