/- A symbolic executor: what code answers, as a plain function of data; loops go round with what their places hold. -/
import Derived.Scope
import Derived.Test.YtlfdhaiigdllcaaGreatDoorMgJ

namespace Go.Proofs.YtlfdhaiigdllcaaGreatDoor
namespace Dn
noncomputable section
open Go.RowKit
inductive Ex where
 | normal
 | ret
 | exit (id:Nat)
def Ex.to:Ex->Exit
 | .normal=>.normal
 | .ret=>.ret
 | .exit id=>.exit id
structure Hint where
 loop:Nat->Option Hd:=fun _=>none
 join:Nat->Option Hd:=fun _=>none
 thaw:Nat->List Nat:=fun _=>[]
 inner:Bool:=false
def firstReg:Code->Nat
 | .region id _ _=>id
 | .seq a _=>firstReg a
 | .block _ c=>firstReg c
 | .scope c=>firstReg c
 | .loop c=>firstReg c
 | _=>0
def condKey (a b:Code):Nat:=match firstReg a with
 | 0=>1000000+firstReg b
 | n=>1000000+n
def hdSlots:List (Nat×Bool×List Pat)->List Nat
 | []=>[]
 | p ::r=>p.1 ::hdSlots r
def hdS:Option Hd->List Nat
 | some hd=>hdSlots hd.sl
 | none=>[]
def wr (hl:Hint):Code->List Nat
 | .region _ ops _=>ops.toList.filterMap (·.dst)
 | .seq a b=>wr hl a++wr hl b
 | .cond _ a b=>hdS (hl.join (condKey a b))++(wr hl a++wr hl b)
 | .block id c=>hdS (hl.join id)++wr hl c
 | .loop c=>hdS (hl.loop (firstReg c))++wr hl c
 | .scope c=>wr hl c
 | _=>[]
def loopF {α R:Type} (F:(α->Option R)->α->Option R) (n:Nat):α->Option R:=Nat.rec (fun _=>none) (fun _ ih=>F ih) n
theorem loopF_succ {α R:Type} {F:(α->Option R)->α->Option R} {n:Nat} {x:α}:loopF F (n+1) x=F (loopF F n) x:=rfl
def joinF {α R:Type} (j:α->Option R) (f:(α->Option R)->Option R):Option R:=f j
def K0:Nat:=1180591620717411303424
abbrev Lp:=(α R:Type)->((α->Option R)->α->Option R)->α->Option R
abbrev Jn:=(α R:Type)->(α->Option R)->((α->Option R)->Option R)->Option R
def lpK:Lp:=fun _ _ F x=>loopF F K0 x
def jnK:Jn:=fun _ _ j f=>joinF j f
theorem lpK_eq {α R:Type} {F:(α->Option R)->α->Option R} {x:α}:lpK α R F x=loopF F K0 x:=rfl
def St.un (σ σ':St):St:={ σ' with ro:=σ.ro,roR:=σ.roR }
def condB (σ:St) (c:Operand):Option Bool:=match getS σ.look.s c,condS σ.look.s c with
 | some (.c false [.v (.bool q)]),none=>some q
 | _,_=>none
def blockK {R:Type} (id:Nat) (K:Ex->St->Option R):Ex->St->Option R
 | .normal,σ=>K .normal σ
 | .ret,σ=>K .ret σ
 | .exit i,σ=>match Nat.beq i id with
  | true=>K .normal σ
  | false=>K (.exit i) σ
def place (jn:Jn) {R:Type} (hd:Hd) (W:List Nat) (σ:St) (K:Ex->St->Option R) (body:St->(Ex->St->Option R)->Option R):Option R:=match hd.at σ with
 | some rh=>match placeOk rh (hdSlots hd.sl++W) (somes (srcR σ rh)) σ with
  | true=>jn _ _ (fun x=>K .normal (σ.un (head rh (hdSlots hd.sl++W) (somes (srcR σ rh)) σ x))) fun j =>
    body { σ with ro:=keysBut (blksOf rh) σ.h++σ.ro,roR:=keysBut (rowsOf rh++somes (srcR σ rh)) σ.r++σ.roR } fun e σ'=>match e with
     | .normal=>match readAt rh (keysBut (rowsOf rh++somes (srcR σ rh)) σ.r++σ.roR) σ' with
      | some x=>j x
      | none=>none
     | .ret=>K .ret (σ.un σ')
     | .exit i=>K (.exit i) (σ.un σ')
  | false=>none
 | none=>none
def St.thaws:List Nat->St->Option St
 | [],σ=>some σ
 | s ::r,σ=>match lookS σ.s s with
  | some ⟨none,.c false [.ptr b 0]⟩=>match Dn.look σ.h b with
   | some l=>match offL σ.roR (rowsL l),memN b σ.ro with
    | true,false=>St.thaws r { σ with h:=(b,thawL (noX σ.look.r) l) ::σ.h,r:=(rowsL l).map (fun i=>(i,.none))++σ.r }
    | _,_=>none
   | none=>none
  | _=>none
structure Iter where
 gf:FuncId
 it:ICtr
 x:TsS it.caps
 cap:List (Nat×Nat)
def iterOf (C:Ctx) (σ:St) (g:Operand):Option Iter:=match getS σ.look.s g,condS σ.look.s g with
 | some (.c false [.clo gf cap]),none=>match C.it gf with
  | some it=>match capsR σ.h it.caps cap with
   | some x=>some ⟨gf,it,x,cap⟩
   | none=>none
  | none=>none
 | _,_=>none
def fstL:List (Nat×Nat)->List Nat
 | []=>[]
 | p ::r=>p.1 ::fstL r
def lenL {α:Type}:List α->Nat
 | []=>0
 | _ ::r=>Nat.succ (lenL r)
def noSlots:List (Plc×List Pat)->Bool
 | []=>true
 | (.slot _ _,_) ::_=>false
 | _ ::r=>noSlots r
def rangeOk (N:Nat) (I:Iter) (rh:List (Plc×List Pat)) (ps:List Nat):Bool:=offL (fstL I.cap) (blksOf rh)&&(ltAll N ps&&(Nat.beq (lenL ps) (lenL I.it.e)&&noSlots rh))
def rnd (I:Iter) (rh:List (Plc×List Pat)) (srcs:List Nat) (σ:St) (ps:List Nat) (k:Nat) (x:TsR rh):St :=
 {head rh [] srcs σ x with s:=setPs ps (compsS I.it.e ((I.it.m I.x).getD k (dflts I.it.e))) (head rh [] srcs σ x).s }
def roundF {R:Type} (dA dB:St->(Ex->St->Option R)->Option R) (I:Iter) (rh:List (Plc×List Pat)) (srcs:List Nat) (σ:St) (ps:List Nat) (K:Ex->St->Option R):(Nat×TsR rh->Option R)->Nat×TsR rh->Option R:=fun again p =>
 bif Nat.blt p.1 (I.it.m I.x).length then dA (rnd I rh srcs σ ps p.1 p.2) fun e σ1=>match e with
  | .normal=>dB σ1 fun e σ2=>match e with
   | .normal=>match readAt rh (keysBut (rowsOf rh++srcs) σ.r++σ.roR) { σ2 with s:=σ.s } with
    | some x'=>again (Nat.succ p.1,x')
    | none=>none
   | .ret=>K .ret { σ.un σ2 with s:=σ.s }
   | .exit i=>K (.exit i) { σ.un σ2 with s:=σ.s }
  | _=>none
 else K .normal (σ.un (head rh [] srcs σ p.2))
def den (lp:Lp) (jn:Jn) (rec:Inl) (C:Ctx) (N:Nat) (hl:Hint) {R:Type}:Code->St->(Ex->St->Option R)->Option R
 | .skip,σ,K=>K .normal σ
 | .region id ops draw,σ,K=>match σ.thaws (hl.thaw (2000000+id)) with
  | none=>none
  | some σ=>match ndAll ops.toList with
  | false=>none
  | true=>match draw with
   | false=>regS rec C N ops ops.toList σ (K .normal)
   | true=>regD C N ops ops.toList σ fun es σ'=>match chkAll es 0 es with
    | true=>K .normal σ'
    | false=>none
 | .seq a b,σ,K=>den lp jn rec C N hl a σ fun e σ'=>match e with
  | .normal=>den lp jn rec C N hl b σ' K
  | .ret=>K .ret σ'
  | .exit i=>K (.exit i) σ'
 | .cond c a b,σ,K=>match condB σ c with
  | some q=>match hl.join (condKey a b) with
   | none=>bif q then den lp jn rec C N hl a σ K else den lp jn rec C N hl b σ K
   | some hd=>place jn hd (wr hl a++wr hl b) σ K fun σ' K'=>bif q then den lp jn rec C N hl a σ' K' else den lp jn rec C N hl b σ' K'
  | none=>none
 | .block id c,σ,K=>match hl.join id with
  | none=>den lp jn rec C N hl c σ (blockK id K)
  | some hd=>place jn hd (wr hl c) σ K fun σ' K'=>den lp jn rec C N hl c σ' (blockK id K')
 | .exit id,σ,K=>K (.exit id) σ
 | .ret,σ,K=>K .ret σ
 | .scope c,σ,K=>den lp jn rec C N hl c σ K
 | .label _,σ,K=>K .normal σ
 | .loop c,σ,K=>match σ.thaws (hl.thaw (firstReg c)) with
  | none=>none
  | some σ=>match hl.loop (firstReg c) with
  | some hd=>match hd.at σ with
   | some rh=>match placeOk rh (hdSlots hd.sl++wr hl c) (somes (srcR σ rh)) σ,readAt rh (keysBut (rowsOf rh++somes (srcR σ rh)) σ.r++σ.roR) σ with
    | true,some x=>lp _ _ (fun again x=>den lp jn rec C N hl c (head rh (hdSlots hd.sl++wr hl c) (somes (srcR σ rh)) σ x) fun e σ'=>match e with
      | .normal=>match readAt rh (keysBut (rowsOf rh++somes (srcR σ rh)) σ.r++σ.roR) σ' with
       | some x'=>again x'
       | none=>none
      | .ret=>K .ret (σ.un σ')
      | .exit i=>K (.exit i) (σ.un σ')) x
    | _,_=>none
   | none=>none
  | none=>none
 | .rangeFunc g ps assign body,σ,K=>match hl.inner,iterOf C σ g with
  | false,some I=>match hl.loop (firstReg body) with
   | some hd=>match hd.at σ with
    | some rh=>match placeOk rh [] (somes (srcR σ rh)) σ&&rangeOk N I rh ps.toList,readAt rh (keysBut (rowsOf rh++somes (srcR σ rh)) σ.r++σ.roR) σ with
     | true,some x=>bif I.it.p I.x then lp _ _ (roundF (den lp jn rec C N { hl with inner:=true } assign) (den lp jn rec C N { hl with inner:=true } body) I rh (somes (srcR σ rh)) σ ps.toList K) (0,x) else none
     | _,_=>none
    | none=>none
   | none=>none
  | _,_=>none
 | _,_,_=>none
section
variable {N:Nat} {E:Env} {a:Act}
theorem thaw1_ok {σ:St} {b:Nat} {l:List At} (hm:Mod N E a σ.look) (hb:look σ.h b=some l):Mod N (E.zone σ.look (rowsL l)) a ({ σ with h:=(b,thawL (noX σ.look.r) l) ::σ.h,r:=(rowsL l).map (fun i=>(i,.none))++σ.r }:St).look/\Keep E (E.zone σ.look (rowsL l)):=by
 obtain ⟨m1,m2⟩:=zone_mod hm (rowsL l)
 have hrr:∀i,look ((rowsL l).map (fun i=>((i,.none):Nat×RowS))++σ.r) i=(σ.look.app (.rkill (rowsL l))).r i:=fun i=>look_kill (rowsL l) σ.r i
 have hlk:({ σ with h:=(b,thawL (noX σ.look.r) l) ::σ.h,r:=(rowsL l).map (fun i=>(i,.none))++σ.r }:St).look=(σ.look.app (.rkill (rowsL l))).setH b (thawL (noX σ.look.r) l):=by
  simp only[St.look,Look.app,Look.setH]
  congr 1
  ·funext i;exact look_cons _ _ _ _
  ·funext i;exact look_kill (rowsL l) σ.r i
 rw[hlk]
 refine ⟨?_,m2⟩
 have hz:∀i l',((σ.look.app (.rkill (rowsL l))).setH b (thawL (noX σ.look.r) l)).h i=some l'->∃l2,σ.look.h i=some l2:=fun i l' hi=>by
  simp only[Look.setH] at hi
  split at hi
  ·rename_i e;subst e;exact ⟨l,hb⟩
  ·exact ⟨l',hi⟩
 have hg:Glob (E.zone σ.look (rowsL l)) ((σ.look.app (.rkill (rowsL l))).setH b (thawL (noX σ.look.r) l)):=by
  have G:=m1.glob
  refine ⟨G.below,G.zlt,G.z0,G.zfrom,fun i hi=>?_,G.rlive,fun i l' hi=>?_,fun i j l1 l2 hi hj hij=>?_,fun i r k hi hk=>?_,G.rinj,G.xg.ext rfl (Nat.le_refl _) (fun i x h=>⟨⟨x,h⟩,fun _ h=>h⟩) (fun b h=>.inl h) (fun j l' h=>.inr (by obtain ⟨l2,h2⟩:=hz j l' h;exact ⟨j,l2,h2,rfl⟩)) (fun j r b h h'=>.inr ⟨j,r,h,h'⟩),G.gd⟩
  ·simp only[Look.setH]
   split
   ·rfl
   ·exact G.live i hi
  ·obtain ⟨l2,h2⟩:=hz i l' hi
   exact G.own i l2 h2
  ·obtain ⟨l1',h1⟩:=hz i l1 hi
   obtain ⟨l2',h2⟩:=hz j l2 hj
   exact G.inj i j l1' l2' h1 h2 hij
  ·obtain ⟨h1,h2⟩:=G.rown i r k hi hk
   refine ⟨h1,fun j l' hj=>?_⟩
   obtain ⟨l2,h3⟩:=hz j l' hj
   exact h2 j l2 h3
 refine ⟨hg,m1.nodef,m1.size,m1.slots,fun i l' hi=>?_,m1.rows,m1.xs⟩
 simp only[Look.setH] at hi
 split at hi
 ·rename_i e
  subst e
  injection hi with hi
  subst hi
  obtain ⟨h1,cs,t,h2,h3,h4⟩:=hm.blks i l hb
  exact ⟨h1,cs,t,h2,thawL_rel hm (fun _ _ h=>noX_sub h) (fun r _=>noX_live r) h3 fun r hr=>hr,h4⟩
 ·exact m1.blks i l' hi
theorem thaws_ok:∀{u:List Nat} {σ σ':St} {E:Env},Mod N E a σ.look->σ.thaws u=some σ'->∃E',Same E E'/\Keep E E'/\Fr σ σ'/\σ'.s=σ.s/\Mod N E' a σ'.look/\E'.w=E.w
 | [],σ,σ',E,hm,h=>by
  simp only[St.thaws,Option.some.injEq] at h
  subst h
  exact ⟨E,rfl,Keep.refl E,Fr.refl σ,rfl,hm,rfl⟩
 | s ::r,σ,σ',E,hm,h=>by
  simp only[St.thaws] at h
  split at h
  ·rename_i b _
   split at h
   ·rename_i l hl
    split at h
    ·rename_i h1 h2
     obtain ⟨m1,m2⟩:=thaw1_ok hm hl
     obtain ⟨E',g1,g2,g3,g4,g5,g6⟩:=thaws_ok m1 h
     refine (?_:∀hf:Fr σ ({ σ with h:=(b,thawL (noX σ.look.r) l) ::σ.h,r:=(rowsL l).map (fun i=>(i,.none))++σ.r }:St),_) ⟨rfl,rfl,fun i hi=>?_,fun i hi=>?_⟩
     ·intro hf
      exact ⟨E',Same.trans (E':=E.zone σ.look (rowsL l)) rfl g1,m2.trans g2,hf.trans g3,g4,g5,g6⟩
     ·show look ((b,thawL (noX σ.look.r) l) ::σ.h) i=_
      rw[look_cons,if_neg]
      intro e
      subst e
      rw[memN_iff.2 hi] at h2
      cases h2
     ·show look ((rowsL l).map (fun i=>((i,.none):Nat×RowS))++σ.r) i=_
      rw[look_kill,if_neg (fun e=>offL_mem h1 i e hi)]
    ·cases h
   ·cases h
  ·cases h
theorem condB_run {σ:St} {c:Operand} {q:Bool} (h:condB σ c=some q) (hm:Mod N E a σ.look):a.eval c=.bool q:=by
 unfold condB at h
 split at h
 ·rename_i q' hg hc
  injection h with h
  subst h
  exact toV_rel rfl (getS_rel hm (fun _ _=>rfl) hg fun d hd=>by rw[hc] at hd;cases hd)
 ·cases h
theorem least_of {p:Nat->Prop} (h:∃n,p n):∃n,p n/\∀m,p m->n<=m:=by
 obtain ⟨n,hn⟩:=h
 induction n using Nat.strongRecOn with
 | _ n ih =>
  by_cases hm:∃m,m<n/\p m
  ·obtain ⟨m,h1,h2⟩:=hm
   exact ih m h1 h2
  ·refine ⟨n,hn,fun m hpm=>?_⟩
   rcases Nat.lt_or_ge m n with h | h
   ·exact absurd ⟨m,h,hpm⟩ hm
   ·exact h
open Classical in
noncomputable def leastN (p:Nat->Prop):Nat:=if h:∃n,p n then Classical.choose (least_of h) else 0
theorem leastN_le {p:Nat->Prop} {m:Nat} (h:p m):p (leastN p)/\leastN p<=m:=by
 have hx:∃n,p n:=⟨m,h⟩
 unfold leastN
 rw[dif_pos hx]
 obtain ⟨h1,h2⟩:=Classical.choose_spec (least_of hx)
 exact ⟨h1,h2 m h⟩
theorem wpIn_loop_ghost {F:Fence} {n0:Nat} {P:Program} {c:Code} {Q:Exit->Act->World->Prop} (I:Nat->Act->World->Prop) (round:∀n a w,I n a w->c.wpIn F n0 P (Exit.then (fun a' w'=>∃m,m<n/\I m a' w') Q) a w)
  {n:Nat} {a:Act} {w:World} (h₀:I n a w):(Code.loop c).wpIn F n0 P Q a w:=by
 refine wpIn_loop (fun a w=>∃n,I n a w) (fun a w=>leastN fun n=>I n a w) ⟨n,h₀⟩ ?_
 rintro a w ⟨m,hm⟩
 refine wpIn_mono (round _ a w (leastN_le (p:=fun n=>I n a w) hm).1) fun e a' w' hq=>?_
 cases e with
 | normal =>
  obtain ⟨k,h1,h2⟩:=hq
  exact ⟨⟨k,h2⟩,Nat.lt_of_le_of_lt (leastN_le (p:=fun n=>I n a' w') h2).2 h1⟩
 | _=>exact hq
theorem plcS_slots:∀{l:List (Nat×Bool×List Pat)} {i:Nat} {ag:Bool} {ps:List Pat},(Plc.slot i ag,ps) ∈ plcS l->i ∈ hdSlots l
 | p ::r,i,ag,ps,h=>by
  simp only[plcS,List.mem_cons] at h
  rcases h with h | h
  ·simp only[Prod.mk.injEq,Plc.slot.injEq] at h
   rw[h.1.1]
   simp[hdSlots]
  ·exact List.mem_cons_of_mem _ (plcS_slots h)
theorem plcB_slots {σ:St}:∀{l:List (Nat×List Pat)} {rh:List (Plc×List Pat)} {i:Nat} {ag:Bool} {ps:List Pat},plcB σ l=some rh->(Plc.slot i ag,ps) ∉ rh
 | [],rh,i,ag,ps,h=>by simp only[plcB,Option.some.injEq] at h;subst h;simp
 | p ::r,rh,i,ag,ps,h=>by
  simp only[plcB] at h
  split at h
  ·rename_i b l _ hl
   injection h with h
   subst h
   intro hm
   rcases List.mem_cons.1 hm with hm | hm
   ·cases hm
   ·exact plcB_slots hl hm
  ·cases h
theorem plcW_slots {σ:St}:∀{l:List (Nat×Option Nat×Pat)} {rh:List (Plc×List Pat)} {i:Nat} {ag:Bool} {ps:List Pat},plcW σ l=some rh->(Plc.slot i ag,ps) ∉ rh
 | [],rh,i,ag,ps,h=>by simp only[plcW,Option.some.injEq] at h;subst h;simp
 | (_,none,_) ::r,rh,i,ag,ps,h=>by
  simp only[plcW] at h
  split at h
  ·rename_i q l _ hl
   injection h with h
   subst h
   intro hm
   rcases List.mem_cons.1 hm with hm | hm
   ·cases hm
   ·exact plcW_slots hl hm
  ·cases h
 | (_,some _,_) ::r,rh,i,ag,ps,h=>by
  simp only[plcW] at h
  split at h
  ·rename_i b l _ hl
   split at h
   ·split at h
    ·injection h with h
     subst h
     intro hm
     rcases List.mem_cons.1 hm with hm | hm
     ·cases hm
     ·exact plcW_slots hl hm
    ·cases h
   ·cases h
  ·cases h
theorem instS_keys:∀{rh:List (Plc×List Pat)} {x:TsR rh} {k i:Nat},(look (instS rh x k) i).isSome=true->∃ag ps,(Plc.slot i ag,ps) ∈ rh
 | [],_,_,_,h=>by simp[instS,look] at h
 | (.slot j ag,ps) ::r,x,k,i,h=>by
  simp only[instS] at h
  rw[look_cons] at h
  split at h
  ·rename_i e
   subst e
   exact ⟨ag,ps,by simp⟩
  ·obtain ⟨ag',ps',h'⟩:=instS_keys h
   exact ⟨ag',ps',by simp[h']⟩
 | (.blk _,ps) ::r,x,k,i,h=>by
  simp only[instS] at h
  obtain ⟨ag',ps',h'⟩:=instS_keys h
  exact ⟨ag',ps',by simp[h']⟩
 | (.row _,ps) ::r,x,k,i,h=>by
  simp only[instS] at h
  obtain ⟨ag',ps',h'⟩:=instS_keys h
  exact ⟨ag',ps',by simp[h']⟩
theorem head_slots {hd:Hd} {rh:List (Plc×List Pat)} {W srcs:List Nat} {σ:St} {x:TsR rh} (hat:hd.at σ=some rh) {i:Nat} (hi:i ∉ hdSlots hd.sl++W):look (head rh (hdSlots hd.sl++W) srcs σ x).s i=look σ.s i:=by
 unfold Hd.at at hat
 split at hat
 ·rename_i l l2 hl hl2
  injection hat with hat
  subst hat
  simp only[head]
  rw[look_append]
  cases hq:look (instS (plcS hd.sl++(l++l2)) x σ.next) i with
  | some t =>
   exfalso
   obtain ⟨ag,ps,hm⟩:=instS_keys (by rw[hq];rfl)
   rcases List.mem_append.1 hm with hm | hm
   ·exact hi (List.mem_append_left _ (plcS_slots hm))
   ·rcases List.mem_append.1 hm with hm | hm
    ·exact plcB_slots hl hm
    ·exact plcW_slots hl2 hm
  | none =>
   simp only
   exact look_off_dropK hi
 ·cases hat
theorem head_h {rh:List (Plc×List Pat)} {W srcs:List Nat} {σ:St} {x:TsR rh} {i:Nat} (hi:i ∉ blksOf rh):look (head rh W srcs σ x).h i=look σ.h i:=by
 simp only[head]
 rw[look_append]
 cases hq:look (instB rh x σ.next) i with
 | some l=>exact absurd (instB_keys.1 (by rw[hq];rfl)) hi
 | none=>rfl
theorem head_r {rh:List (Plc×List Pat)} {W srcs:List Nat} {σ:St} {x:TsR rh} {i:Nat} (hi:i ∉ srcs) (hw:i ∉ rowsOf rh) (hf:¬ (σ.next<=i/\i<σ.next+cntR rh)):look (head rh W srcs σ x).r i=look σ.r i:=by
 simp only[head]
 rw[look_append]
 cases hq:look (instR rh x σ.next) i with
 | some l=>exact (instR_keys (by rw[hq];rfl)).elim (fun h=>absurd h hf) fun h=>absurd h hw
 | none =>
  simp only
  rw[look_append,look_kills,if_neg hi]
theorem place_fr {rh:List (Plc×List Pat)} {W:List Nat} {srcs:List Nat} {σ:St} {x:TsR rh} (hok:placeOk rh W srcs σ=true) (hro:∀i ∈ σ.roR,(look σ.r i).isSome=true):Fr σ (σ.un (head rh W srcs σ x)):=by
 simp only[placeOk,Bool.and_eq_true] at hok
 obtain ⟨⟨⟨⟨⟨⟨k1,k2⟩,k3⟩,k4⟩,k5⟩,k6⟩,⟨⟨⟨k7,k8⟩,k9⟩,k10⟩⟩:=hok
 refine ⟨rfl,rfl,fun i hi=>head_h (W:=W) (srcs:=srcs) fun hb=>offL_mem k4 i hb hi,fun i hi=>head_r (W:=W) (fun hs=>offL_mem k5 i hs hi) (fun hs=>offL_mem k7 i hs hi) fun hf=>?_⟩
 have:=hro i hi
 rw[freshN_spec k3 i hf.1 hf.2] at this
 cases this
theorem un_fr {σ σ' σ0:St} (h0:∀i ∈ σ.ro,i ∈ σ0.ro/\look σ0.h i=look σ.h i) (h1:∀i ∈ σ.roR,i ∈ σ0.roR/\look σ0.r i=look σ.r i) (hf:Fr σ0 σ'):Fr σ (σ.un σ') :=
 ⟨rfl,rfl,fun i hi=>(hf.h i (h0 i hi).1).trans (h0 i hi).2,fun i hi=>(hf.r i (h1 i hi).1).trans (h1 i hi).2⟩
theorem keysBut_sub {α:Type} {W:List Nat} {i:Nat}:∀{l:List (Nat×α)},i ∈ keysBut W l->(look l i).isSome=true
 | p ::r,h=>by
  simp only[keysBut] at h
  rw[look_cons]
  split at h
  ·split
   ·rfl
   ·exact keysBut_sub h
  ·split
   ·rfl
   ·rename_i hne
    rcases List.mem_cons.1 h with h | h
    ·exact absurd h hne
    ·exact keysBut_sub h
theorem RoR.head {rh:List (Plc×List Pat)} {W srcs:List Nat} {σ:St} {x:TsR rh} (h:RoR σ) (hok:placeOk rh W srcs σ=true):RoR (head rh W srcs σ x):=fun i hi=>by
 simp only[placeOk,Bool.and_eq_true] at hok
 obtain ⟨⟨⟨⟨⟨⟨k1,k2⟩,k3⟩,k4⟩,k5⟩,k6⟩,⟨⟨⟨k7,k8⟩,k9⟩,k10⟩⟩:=hok
 have hsome:(look σ.r i).isSome=true:=by
  rcases List.mem_append.1 hi with hi | hi
  ·exact keysBut_sub hi
  ·exact h i hi
 simp only[Dn.head]
 rw[look_append]
 cases look (instR rh x σ.next) i with
 | some l=>rfl
 | none =>
  simp only
  rw[look_append,look_kills]
  by_cases hs:i ∈ srcs
  ·simp[hs]
  ·simp only[if_neg hs];exact hsome
theorem head_ro {rh:List (Plc×List Pat)} {W srcs:List Nat} {σ:St} {x:TsR rh} (hok:placeOk rh W srcs σ=true) (hro:RoR σ) :
  (∀i ∈ σ.ro,i ∈ (head rh W srcs σ x).ro/\look (head rh W srcs σ x).h i=look σ.h i)/\(∀i ∈ σ.roR,i ∈ (head rh W srcs σ x).roR/\look (head rh W srcs σ x).r i=look σ.r i):=by
 have:=place_fr (x:=x) hok hro
 exact ⟨fun i hi=>⟨List.mem_append_right _ hi,this.h i hi⟩,fun i hi=>⟨List.mem_append_right _ hi,this.r i hi⟩⟩
theorem head_keep {rh:List (Plc×List Pat)} {W srcs:List Nat} {σ:St} {x:TsR rh} (hok:placeOk rh W srcs σ=true) (hro:RoR σ) :
  (∀i ∈ (head rh W srcs σ x).ro,look (head rh W srcs σ x).h i=look σ.h i)/\(∀i ∈ (head rh W srcs σ x).roR,look (head rh W srcs σ x).r i=look σ.r i):=by
 have hok':=hok
 simp only[placeOk,Bool.and_eq_true] at hok
 obtain ⟨⟨⟨⟨⟨⟨k1,k2⟩,k3⟩,k4⟩,k5⟩,k6⟩,⟨⟨⟨k7,k8⟩,k9⟩,k10⟩⟩:=hok
 have hfr:=place_fr (x:=x) hok' hro
 have kb:∀{α:Type} {W:List Nat} {i:Nat} {l:List (Nat×α)},i ∈ keysBut W l->i ∉ W:=by
  intro α W i l
  induction l with
  | nil=>intro h;cases h
  | cons p r ih =>
   intro h
   simp only[keysBut] at h
   split at h
   ·exact ih h
   ·rename_i hm
    rcases List.mem_cons.1 h with h | h
    ·intro hw;rw[h] at hw;rw[memN_iff.2 hw] at hm;cases hm
    ·exact ih h
 refine ⟨fun i hi=>?_,fun i hi=>?_⟩
 ·rcases List.mem_append.1 hi with hi | hi
  ·exact head_h (kb hi)
  ·exact hfr.h i hi
 ·rcases List.mem_append.1 hi with hi | hi
  ·refine head_r (fun h=>kb hi (List.mem_append_right _ h)) (fun h=>kb hi (List.mem_append_left _ h)) fun hf=>?_
   have:=keysBut_sub hi
   rw[freshN_spec k3 i hf.1 hf.2] at this
   cases this
  ·exact hfr.r i hi
theorem Mod.same {g g':Look} (hm:Mod N E a g) (hs:g'.s=g.s) (hh:g'.h=g.h) (hr:g'.r=g.r):Mod N E a g':=hm.forget (fun i s h=>by rw[hs] at h;exact h) hh hr
theorem datVs_len {w:World} {Z:Nat->Prop}:∀{l:List Sh} {x:TsS l} {vs:List Value},DatVs w Z l x vs->vs.length=l.length
 | [],_,_,h=>by simp only[DatVs] at h;subst h;rfl
 | _ ::_,_,_,h=>by
  simp only[DatVs] at h
  obtain ⟨v,vs',rfl,_,h2⟩:=h
  simp[datVs_len h2]
theorem compsS_length:∀{l:List Sh} {x:TsS l},(compsS l x).length=l.length
 | [],_=>rfl
 | _ ::r,x=>by simp[compsS,compsS_length (l:=r)]
theorem lenL_eq {α:Type}:∀{l:List α},lenL l=l.length
 | []=>rfl
 | _ ::r=>by simp[lenL,lenL_eq (l:=r)]
theorem fstL_mem:∀{l:List (Nat×Nat)} {p:Nat×Nat},p ∈ l->p.1 ∈ fstL l
 | q ::r,p,h=>by
  rcases List.mem_cons.1 h with rfl | h
  ·simp[fstL]
  ·exact List.mem_cons_of_mem _ (fstL_mem h)
theorem dropK_nil {α:Type}:∀{l:List (Nat×α)},dropK [] l=l
 | []=>rfl
 | p ::r=>by simp[dropK,memN,dropK_nil (l:=r)]
theorem instS_none:∀{rh:List (Plc×List Pat)} {x:TsR rh} {k:Nat},noSlots rh=true->instS rh x k=[]
 | [],_,_,_=>rfl
 | (.blk _,_) ::r,x,k,h=>by simp only[instS];exact instS_none (rh:=r) h
 | (.row _,_) ::r,x,k,h=>by simp only[instS];exact instS_none (rh:=r) h
 | (.slot _ _,_) ::_,_,_,h=>by cases h
theorem head_s {rh:List (Plc×List Pat)} {srcs:List Nat} {σ:St} {x:TsR rh} (h:noSlots rh=true):(head rh [] srcs σ x).s=σ.s:=by
 simp only[head]
 rw[instS_none h,dropK_nil,List.nil_append]
def Runs (N:Nat) (C:Ctx) (F:Fence) (c:Code) {R:Type} (d:St->(Ex->St->Option R)->Option R) (z:R):Prop:=∀σ (K:Ex->St->Option R) (Q:Exit->Act->World->Prop) E a,d σ K=some z->RoR σ->E.P=C.P->Mod N E a σ.look ->
 (∀e σ' E' a',K e σ'=some z->Same E E'->Keep E E'->Fr σ σ'->Mod N E' a' σ'.look->Q e.to a' E'.w)->c.wpIn F 0 C.P Q a E.w
def Ex.code:Ex->Code
 | .ret=>.ret
 | .exit i=>.exit i
 | .normal=>.skip
theorem range_ok {C:Ctx} (hC:C.ok) {R:Type} {z:R} {dA dB:St->(Ex->St->Option R)->Option R} {g:Operand} {ps:Array Tmp} {assign body:Code} (hA:∀L,Runs N C (Fence.wide.inRound L) assign dA z) (hB:∀L,Runs N C (Fence.wide.inRound L) body dB z)
  {σ:St} {K:Ex->St->Option R} {Q:Exit->Act->World->Prop} {I:Iter} {rh:List (Plc×List Pat)} {x0:TsR rh} (hit:iterOf C σ g=some I) (hok:placeOk rh [] (somes (srcR σ rh)) σ=true) (hrk:rangeOk N I rh ps.toList=true) (hpx:I.it.p I.x=true)
  (hx0:readAt rh (keysBut (rowsOf rh++somes (srcR σ rh)) σ.r++σ.roR) σ=some x0) (h:lpK _ _ (roundF dA dB I rh (somes (srcR σ rh)) σ ps.toList K) (0,x0)=some z) (hro:RoR σ) (hP:E.P=C.P) (hrg:E.rg=true) (hm:Mod N E a σ.look)
  (hQ:∀e σ' E' a',K e σ'=some z->Same E E'->Keep E E'->Fr σ σ'->σ'.s=σ.s->Mod N E' a' σ'.look->Q e.to a' E'.w):(Code.rangeFunc g ps assign body).wpIn Fence.wide 0 C.P Q a E.w:=by
 unfold iterOf at hit
 split at hit
 case h_2=>cases hit
 rename_i gf cap hg hgc
 split at hit
 case h_2=>cases hit
 rename_i it hci
 split at hit
 case h_2=>cases hit
 rename_i xc hcaps
 injection hit with hit
 subst hit
 obtain ⟨hcall,hitok⟩:=hC.it gf it hci
 have hv:=getS_rel hm (fun _ _=>rfl) hg (fun c hc=>by rw[hgc] at hc;cases hc)
 obtain ⟨cs,hv1,hv2,_⟩:=hv
 match cs,hv2 with
 | [y],hv2 =>
 obtain ⟨hy,_⟩:=hv2
 have hvE:=hy
 obtain ⟨hy1,hy2⟩:=hy
 have hval:a.eval g=.func (.func gf) #[] (cap.map (ptrV E.β)).toArray:=by rw[hv1,hy1];rfl
 simp only[rangeOk,Bool.and_eq_true] at hrk
 obtain ⟨q1,q2,q3,q4⟩:=hrk
 have q3:ps.toList.length=it.e.length:=by rw[<-lenL_eq,<-lenL_eq (l:=it.e)];exact Nat.beq_eq.mp q3
 have hsz:E.w0.heap.size<=E.w.heap.size:=hm.glob.below.size
 let srcs:=somes (srcR σ rh)
 let len:=(it.m xc).length
 let F':=roundF dA dB ⟨gf,it,xc,cap⟩ rh srcs σ ps.toList K
 let D:=E.w.heap.size
 let L:=E.w.heap.size+1
 let dm:Deferred:={ target:=.collected D,args:=#[] }
 let aD:Act:={ a with defers:=dm ::a.defers }
 refine wpIn_rangeFunc fun fn hfn=>?_
 let rec_:LoopState->Option Code->Loop:=fun st pe=>{ state:=st,pending:=pe,fn,tmps:=a.tmps,params:=ps,assign,body,defers:=D }
 let W1:=(E.w.alloc (.deferred (some []))).alloc (.loop (rec_ .ready none))
 have hL1:W1.heap[L]?=some (.loop (rec_ .ready none)):=by
  have:=World.alloc_heap_new (E.w.alloc (.deferred (some []))) (.loop (rec_ .ready none))
  rwa [World.size_alloc] at this
 have hD1:W1.heap[D]?=some (.deferred (some [])):=(Below.heap_alloc _ _ _ (by simp[D])).trans (World.alloc_heap_new E.w _)
 have hT1:Turned E.w.heap.size E.w W1:=(Turned.alloc _ _ _).trans (Turned.alloc _ _ _)
 have hsz1:W1.heap.size=E.w.heap.size+2:=by simp[W1]
 let E1:Env:={ E with w:=W1,Z:=fun b=>E.Z b\/b=D\/b=L }
 have hx1:Ext (fun _=>False) E E1:=⟨rfl,rfl,rfl,rfl,fun _ h=>.inl h,fun b hb _=>by
  rcases hT1.block b hb with h | ⟨h,_⟩
  ·exact h
  ·omega,fun _ _=>rfl,fun _ h=>h,fun _ _=>rfl,fun _ h=>h,Env.same_x⟩
 have hk1:Keep E E1:=hx1.keep hm.glob (Free.none E)
 have hlt:∀i l,σ.look.h i=some l->E.β i<E.w.heap.size:=fun i l hi=>by
  obtain ⟨_,cs,t,h2,_⟩:=hm.blks i l hi
  exact (Array.getElem?_eq_some_iff.1 h2).1
 have hxg1:XGlob E1 σ.look:=hm.glob.xg.ext rfl (by show E.w.heap.size<=W1.heap.size;omega) (fun i x h=>⟨⟨x,h⟩,fun _ h=>h⟩) (fun b h=>by
  rcases h with h | h | h
  ·exact .inl h
  ·exact .inr (.inl (by rw[h];exact Nat.le_refl _))
  ·exact .inr (.inl (by rw[h];exact Nat.le_succ _))) (fun j l h=>.inr ⟨j,l,h,rfl⟩) (fun j r b h h'=>.inr ⟨j,r,h,h'⟩)
 have hm1:Mod N E1 a σ.look:=by
  refine hm.move (Free.none E) hx1 ⟨(hT1.mono hsz).below hm.glob.below hsz,fun b hb=>?_,fun b hb=>.inl (hm.glob.z0 b hb),fun b hb=>?_,hm.glob.live,hm.glob.rlive,fun i l hi=>⟨(hm.glob.own i l hi).1,fun hz=>?_⟩,hm.glob.inj,fun i r b hi hb=>⟨fun hz=>?_,(hm.glob.rown i r b hi hb).2⟩,hm.glob.rinj,hxg1,hm.glob.gd⟩ rfl hm.size (fun i s h=>.inl ⟨h,rfl⟩) (fun i l h=>.inl ⟨h,id⟩) (fun i r h=>.inl ⟨h,fun _ _=>id⟩) (fun i r h=>.inl ⟨h,rfl,fun _ _=>id⟩)
  ·show b<W1.heap.size
   rcases hb with hb | hb | hb
   ·have:=hm.glob.zlt b hb;omega
   ·show b<W1.heap.size;rw[hb,hsz1];simp only[D];omega
   ·show b<W1.heap.size;rw[hb,hsz1];simp only[L];omega
  ·rcases hb with hb | hb | hb
   ·exact hm.glob.zfrom b hb
   ·exact .inr (by rw[hb];exact hsz)
   ·exact .inr (by rw[hb];show E.w0.heap.size<=E.w.heap.size+1;omega)
  ·have:=hlt i l hi
   rcases hz with hz | hz | hz
   ·exact (hm.glob.own i l hi).2 hz
   ·have hz:E.β i=E.w.heap.size:=hz
    omega
   ·have hz:E.β i=E.w.heap.size+1:=hz
    omega
  ·have:=(hm.row_lt hi hb).2
   rcases hz with hz | hz | hz
   ·exact (hm.glob.rown i r b hi hb).1 hz
   ·simp only[D] at hz;omega
   ·simp only[L] at hz;omega
 have oD1:OBJ E1 D (.deferred (some [])):=⟨.inr (.inl rfl),hsz,hD1⟩
 have oL1:OBJ E1 L (.loop (rec_ .ready none)):=⟨.inr (.inr rfl),by show E.w0.heap.size<=E.w.heap.size+1;omega,hL1⟩
 have old:∀{b o},OBJ E b o->b<E.w.heap.size:=fun hb=>(Array.getElem?_eq_some_iff.1 hb.2.2).1
 have marks:∀E',Keep E E'->OBJ E' D (.deferred (some []))->Marks E' aD.defers:=fun E' hk ho=>by
  refine ⟨⟨hk.rg.trans hrg,D,rfl,ho,fun d' hd' e=>?_⟩,hk.marks hm.nodef⟩
  have:∀{ds:List Deferred},Marks E ds->d' ∈ ds->False:=by
   intro ds
   induction ds with
   | nil=>intro _ h;cases h
   | cons d ds ih =>
    intro hmk hdm
    obtain ⟨⟨_,r,h1,h2,_⟩,h4⟩:=hmk
    rcases List.mem_cons.1 hdm with hdm | hdm
    ·subst hdm
     rw[h1] at e
     injection e with e
     have:=old h2
     rw[e] at this
     simp only[D] at this
     omega
    ·exact ih h4 hdm
  exact this hm.nodef hd'
 obtain ⟨J,hJ⟩:∃J:Nat->World->Prop,∀k W,J k W↔∃(x:TsR rh) (m:Nat) (E':Env),loopF F' m (k,x)=some z/\E'.w=W/\Same E1 E'/\Keep E1 E'/\Mod N E' aD (head rh [] srcs σ x).look:=⟨fun k W=>_,fun _ _=>Iff.rfl⟩
 obtain ⟨Jx,hJx⟩:∃Jx:World->Prop,∀W,Jx W↔∃(e:Ex) (σ2:St) (E':Env),e≠.normal/\K e { σ.un σ2 with s:=σ.s }=some z/\E'.w=W/\Same E E'/\Keep E E'/\OBJ E' D (.deferred (some []))/\OBJ E' L (.loop (rec_ .done (some e.code)))/\Mod N E' aD ({ σ.un σ2 with s:=σ.s }:St).look/\Fr σ { σ.un σ2 with s:=σ.s }:=⟨fun W=>_,fun _=>Iff.rfl⟩
 have turn:∀(E':Env) (o o':Obj),OBJ E' L o->stab o=false->OBJ (E'.wset (E'.w.putObj L o')) L o'/\(∀b ob,b≠L->OBJ E' b ob->OBJ (E'.wset (E'.w.putObj L o')) b ob)/\Turned E'.w0.heap.size E'.w (E'.w.putObj L o')/\E'.w0.heap.size<=E'.w.heap.size:=by
  intro E' o o' oL hc
  refine ⟨⟨oL.1,oL.2.1,World.putObj_heap_same (Array.getElem?_eq_some_iff.1 oL.2.2).1⟩,fun b ob hb ho=>⟨ho.1,ho.2.1,?_⟩,Turned.putObj (w:=E'.w) o' oL.2.1 oL.2.2 hc,Nat.le_trans oL.2.1 (Nat.le_of_lt (Array.getElem?_eq_some_iff.1 oL.2.2).1)⟩
  rw[show (E'.wset (E'.w.putObj L o')).w=E'.w.putObj L o' from rfl,World.putObj_heap_other hb]
  exact ho.2.2
 have hDL:D≠L:=by simp only[D,L];omega
 have oldL:∀{b o},OBJ E b o->b≠L:=fun hb=>by have:=old hb;simp only[L];omega
 have noL:∀(E':Env) (l:Loop),OBJ E' L (.loop l)->∀b,OBJ E' b (.deferred (some []))->b≠L:=fun E' l ho b hb e=>by
  have h1:=ho.2.2
  have h2:=hb.2.2
  rw[e] at h2
  rw[h1] at h2
  cases h2
 have grown:∀(E':Env) (W':World),Turned E'.w.heap.size E'.w W'->∀b o,OBJ E' b o->W'.heap[b]?=some o:=fun E' W' hT b o ho=>by
  have hb:=(Array.getElem?_eq_some_iff.1 ho.2.2).1
  rcases hT.block b hb with h | ⟨h,_⟩
  ·rw[h];exact ho.2.2
  ·omega
 have hdone:∀(k:Nat) (x:TsR rh),¬ k<len->∀m,loopF F' m (k,x)=some z->K .normal (σ.un (head rh [] srcs σ x))=some z:=fun k x hk m hl=>by
  cases m with
  | zero=>cases hl
  | succ m =>
   have hl:F' (loopF F' m) (k,x)=some z:=hl
   simp only[F',roundF] at hl
   have hb:Nat.blt k (it.m xc).length=false:=by
    rw[Bool.eq_false_iff];intro e;simp[Nat.blt] at e;simp only[len] at hk;omega
   rw[hb] at hl
   exact hl
 refine ⟨L,[dm],W1,{ target:=.fn (.func gf) (cap.map (ptrV E.β)).toArray,args:=#[.func (.yield L) #[] #[]] },W1,gf,#[.func (.yield L) #[] #[]]++(cap.map (ptrV E.β)).toArray,W1,run_enterLoop_outer _ _ _ _ _,?_,fun _ _=>trivial,?_,fun e=>(by cases e),?_⟩
 ·simp only[resolve,hval]
  simp[go_sem]
 ·simp[invoke,go_sem,run_callFunc (hcall)]
 have hads:(cap.map (ptrV E.β))=(cap.map fun p=>(⟨E.β p.1,p.2,none⟩:Addr)).map fun a=>Value.pointer (some a):=by
  rw[List.map_map];rfl
 rw[hads]
 suffices hmain:CallsIn Fence.wide 0 C.P gf (#[.func (.yield L) #[] #[]]++((cap.map fun p=>(⟨E.β p.1,p.2,none⟩:Addr)).map fun a=>Value.pointer (some a)).toArray) W1 (fun e W'=>(∃v,e=.returned v)/\(J (it.m xc).length W'\/Jx W'))/\∀e W',((∃v,e=.returned v)/\(J (it.m xc).length W'\/Jx W'))->rangePost Fence.wide 0 C.P L Q { a with defers:=[dm]++a.defers } e W' from hmain.1.mono hmain.2
 unfold ICtr.ok at hitok
 have s1:=hitok L
 have s2:=s1 xc
 have s3:=s2 (cap.map fun p=>(⟨E.β p.1,p.2,none⟩:Addr))
 have s4:=s3 J
 have s5:=s4 Jx
 have s6:=s5 W1 hpx
 clear hitok s1 s2 s3 s4 s5
 refine ⟨s6 ?_ ?_ ?_ ?_ ?_ ?_,?_⟩
 ·
  intro k W W' hj hT
  obtain ⟨x,m,E',h1,rfl,h2,h3,h6⟩:=(hJ k W).1 hj
  have hsz':E'.w0.heap.size<=E'.w.heap.size:=h6.glob.below.size
  have hg:=grown E' W' hT
  exact (hJ _ _).2 ⟨x,m,E'.wset W',h1,rfl,h2.trans rfl,h3.turned (hT.mono hsz') hsz' fun b o hb=>hg b o (h3.obj b o hb),h6.turned (hT.mono hsz') rfl (Marks.turned (fun b=>hg b _) h6.nodef)⟩
 ·intro W W' hj hT
  obtain ⟨e,σ2,E',h0,h1,rfl,h2,h3,h4,h5,h6,h7⟩:=(hJx W).1 hj
  have hsz':E'.w0.heap.size<=E'.w.heap.size:=h6.glob.below.size
  have hg:=grown E' W' hT
  exact (hJx _).2 ⟨e,σ2,E'.wset W',h0,h1,rfl,h2.trans rfl,h3.turned (hT.mono hsz') hsz' fun b o hb=>hg b o (h3.obj b o hb),⟨h4.1,h4.2.1,hg _ _ h4⟩,⟨h5.1,h5.2.1,hg _ _ h5⟩,h6.turned (hT.mono hsz') rfl (Marks.turned (fun b=>hg b _) h6.nodef),h7⟩
 ·
  intro k W hj
  obtain ⟨x,m,E',h1,rfl,h2,h3,h6⟩:=(hJ k W).1 hj
  refine ⟨E'.Z,?_⟩
  have hβ:∀p ∈ cap,E'.β p.1=E.β p.1:=fun p hp=>by
   have h7:=(h3 (.clo gf cap) y (hk1 _ _ hvE)).1
   rw[hy1] at h7
   injection h7 with _ _ h7
   have h8:cap.map (ptrV E.β)=cap.map (ptrV E'.β):=by simpa using h7
   have h9:=List.map_inj_left.1 h8 p hp
   simp only[ptrV,Value.pointer.injEq,Option.some.injEq,Addr.mk.injEq] at h9
   exact h9.1.symm
  have h7:=capsR_at (E:=E') hcaps fun p hp l' hl'=>h6.blks p.1 l' (by
   show look (head rh [] srcs σ x).h p.1=some l'
   rw[head_h (fun hb=>offL_mem q1 p.1 hb (fstL_mem hp))]
   exact hl')
  have h8:(cap.map fun p=>(⟨E'.β p.1,p.2,none⟩:Addr))=cap.map fun p=>⟨E.β p.1,p.2,none⟩:=List.map_congr_left fun p hp=>by rw[hβ p hp]
  rw[h8] at h7
  exact h7
 ·
  exact ⟨E1.Z,capsR_at (E:=E1) hcaps fun p _ l' hl'=>hm1.blks p.1 l' hl',fun s y cs hd k W' hj=>by
   obtain ⟨x,m,E',h1,rfl,h2,h3,h6⟩:=(hJ k W').1 hj
   exact ⟨E'.Z,h3.dat hd⟩⟩
 ·
  intro k y' vals W hky hj hvals
  obtain ⟨x,m,E',h1,rfl,h2,h3,h6⟩:=(hJ k W).1 hj
  have hk:k<len:=(List.getElem?_eq_some_iff.1 hky).1
  have hvl:vals.length=it.e.length:=datVs_len (hvals E'.Z)
  have h4:=h3.obj _ _ oD1
  have h5:=h3.obj _ _ oL1
  cases m with
  | zero=>cases h1
  | succ m =>
  have hround:F' (loopF F' m) (k,x)=some z:=h1
  simp only[F',roundF] at hround
  rw[show Nat.blt k (it.m xc).length=true by simp[Nat.blt];exact hk,cond_true] at hround
  have hget:(it.m xc).getD k (dflts it.e)=y':=by simp[List.getD,hky]
  have hy0:=run_yield (P:=C.P) (args:=vals.toArray) h5.2.2 (by show vals.toArray.size=ps.size;simp[hvl,<-q3])
  refine ⟨fn,_,assign,body,hy0,roundIn_of_wpIn trivial ?_⟩
  have hroh:RoR (head rh [] srcs σ x):=hro.head hok
  have hm0:Mod N E' { tmps:=a.tmps,defers:=[] } (head rh [] srcs σ x).look:=h6.rest (Keep.refl E') h6.memOk rfl rfl trivial
  have hmr:=setPs_ok (N:=N) (ps:=ps.toList) (cs:=compsS it.e y') (vs:=vals) (h:=(head rh [] srcs σ x).h) (r:=(head rh [] srcs σ x).r) (nx:=(head rh [] srcs σ x).next) (ro:=(head rh [] srcs σ x).ro) (roR:=(head rh [] srcs σ x).roR) (s:=(head rh [] srcs σ x).s) (datVs_rel (hvals E'.Z)) q2 (by rw[compsS_length];exact q3) hm0
  have htm:(ps.zip vals.toArray).foldl (fun (t:Array Value) (p:Tmp×Value)=>t.setIfInBounds p.1 p.2) a.tmps=(ps.toList.zip vals).foldl (fun t p=>t.setIfInBounds p.1 p.2) a.tmps:=by
   rw[<-Array.foldl_toList,Array.toList_zip]
  rw[<-htm] at hmr
  have hrnd:(rnd ⟨gf,it,xc,cap⟩ rh srcs σ ps.toList k x)=⟨setPs ps.toList (compsS it.e y') (head rh [] srcs σ x).s,(head rh [] srcs σ x).h,(head rh [] srcs σ x).r,(head rh [] srcs σ x).next,(head rh [] srcs σ x).ro,(head rh [] srcs σ x).roR⟩:=by
   unfold rnd
   rw[hget]
  rw[hrnd] at hround
  refine hA L _ _ _ E' _ hround hroh (h2.P.trans hP) hmr fun e σ1 Ea a1 hk2 hs1 hkp1 hf1 hma=>?_
  cases e with
  | ret=>cases hk2
  | exit i=>cases hk2
  | normal =>
  simp only at hk2
  have oLa:=hkp1.obj _ _ h5
  have oDa:=hkp1.obj _ _ h4
  obtain ⟨t1,t2,t3,t4⟩:=turn Ea _ (.loop (rec_ .busy none)) oLa rfl
  refine ⟨_,run_beginRound oLa.2.2 rfl,?_⟩
  have hm2:=hma.turned t3 (a2:=a1) rfl (Marks.turned (fun b hb=>(t2 b _ (noL Ea _ oLa b hb) hb).2.2) hma.nodef)
  refine hB L σ1 _ _ (Ea.wset (Ea.w.putObj L (.loop (rec_ .busy none)))) a1 hk2 (fun i hi=>by rw[hf1.roR] at hi;rw[hf1.r i hi];exact hroh i hi) (hs1.P.trans (h2.P.trans hP)) hm2 fun e σ2 E3 a3 hk3 hs3 hkp3 hf3 hm3=>?_
  have oL3:=hkp3.obj _ _ t1
  have oD3:=hkp3.obj _ _ (t2 _ _ hDL oDa)
  have back:∀(o':Obj),Same E1 (E3.wset (E3.w.putObj L o'))/\(∀x v,RelA E1 x v->RelA (E3.wset (E3.w.putObj L o')) x v)/\(∀b o,b≠L->OBJ E1 b o->OBJ (E3.wset (E3.w.putObj L o')) b o)/\OBJ (E3.wset (E3.w.putObj L o')) L o'/\MemOk (E3.wset (E3.w.putObj L o')) σ2.look:=fun o'=>by
   obtain ⟨u1,u2,u3,u4⟩:=turn E3 _ o' oL3 rfl
   exact ⟨((h2.trans hs1).trans (E'':=E3) hs3).trans rfl,fun x v hv=>RelA.turned u3 u4 (hkp3 x v (RelA.turned t3 t4 (hkp1 x v (h3 x v hv)))),fun b o hb ho=>u2 b o hb (hkp3.obj b o (t2 b o hb (hkp1.obj b o (h3.obj b o ho)))),u1,hm3.memOk.turned u3⟩
  have rgc:E3.rg=E.rg:=hkp3.rg.trans (hkp1.rg.trans h3.rg)
  have hh:∀i ∈ keysBut (blksOf rh) σ.h++σ.ro,look σ2.h i=look σ.h i:=fun i hi=>by
   obtain ⟨r1,_⟩:=head_keep (x:=x) hok hro
   have e1:=hf1.h i hi
   have e3:=hf3.h i (by rw[hf1.ro];exact hi)
   exact (e3.trans e1).trans (r1 i hi)
  have hr:∀i ∈ keysBut (rowsOf rh++srcs) σ.r++σ.roR,look σ2.r i=look σ.r i:=fun i hi=>by
   obtain ⟨_,r2⟩:=head_keep (x:=x) hok hro
   have e1:=hf1.r i hi
   have e3:=hf3.r i (by rw[hf1.roR];exact hi)
   exact (e3.trans e1).trans (r2 i hi)
  have hfr:Fr σ { σ.un σ2 with s:=σ.s }:=⟨rfl,rfl,fun i hi=>hh i (List.mem_append_right _ hi),fun i hi=>hr i (List.mem_append_right _ hi)⟩
  have leave:∀(e:Ex),e≠.normal->K e { σ.un σ2 with s:=σ.s }=some z->Jx (E3.w.putObj L (.loop (rec_ .done (some e.code)))):=fun e he hke=>by
   obtain ⟨b1,b2,b3,b4,b5⟩:=back (.loop (rec_ .done (some e.code)))
   have hkE:Keep E (E3.wset (E3.w.putObj L (.loop (rec_ .done (some e.code))))):=⟨rgc,fun x v hv=>b2 x v (hk1 x v hv),fun b o ho=>b3 b o (oldL ho) (hk1.obj b o ho)⟩
   have hoD:=b3 _ _ hDL oD1
   exact (hJx _).2 ⟨e,σ2,_,he,hke,rfl,(show Same E E1 from rfl).trans b1,hkE,hoD,b4,hm.rest (g':=({ σ.un σ2 with s:=σ.s }:St).look) hkE (b5.of rfl rfl) rfl rfl (marks _ hkE hoD),hfr⟩
  cases e with
  | normal =>
   simp only at hk3
   split at hk3
   case h_2=>cases hk3
   rename_i x' hx'
   obtain ⟨b1,b2,b3,b4,b5⟩:=back (.loop (rec_ .ready none))
   have hkE1:Keep E1 (E3.wset (E3.w.putObj L (.loop (rec_ .ready none)))):=⟨rgc,b2,fun b o ho=>by
    by_cases hb:b=L
    ·subst hb
     have:some o=some (Obj.loop (rec_ .ready none)):=by rw[<-ho.2.2];exact oL1.2.2
     injection this with this
     subst this
     exact b4
    ·exact b3 b o hb ho⟩
   have hoD:=b3 _ _ hDL oD1
   have hm4:=hm1.rest (a':=aD) (g':=({ σ2 with s:=σ.s }:St).look) hkE1 (b5.of rfl rfl) rfl rfl (marks _ (hk1.trans hkE1) hoD)
   obtain ⟨E5,g1,g2,g3,g4⟩:=place_mod (E0:=E1) (a0:=a) (W:=[]) hok hm1 hkE1 hm4 hx' (fun _ _=>rfl) hh hr
   refine ⟨_,_,run_endRound none oL3.2.2,.inl ⟨rfl,(hJ _ _).2 ⟨x',m,E5,hk3,?_,b1.trans g1,g3,g4⟩⟩⟩
   rw[g2]
   rfl
  | ret=>exact ⟨_,_,run_endRound (some .ret) oL3.2.2,.inr ⟨rfl,leave .ret (by simp) hk3⟩⟩
  | exit i=>exact ⟨_,_,run_endRound (some (.exit i)) oL3.2.2,.inr ⟨rfl,leave (.exit i) (by simp) hk3⟩⟩
 ·have h':loopF F' K0 (0,x0)=some z:=by rw[lpK_eq] at h;exact h
  have hma:Mod N E1 aD σ.look:=hm1.rest (Keep.refl E1) hm1.memOk rfl rfl (marks E1 hk1 oD1)
  obtain ⟨E5,g1,g2,g3,g4⟩:=place_mod (E0:=E1) (a0:=a) (W:=[]) hok hm1 (Keep.refl E1) hma hx0 (fun _ _=>rfl) (fun _ _=>rfl) (fun _ _=>rfl)
  exact (hJ _ _).2 ⟨x0,K0,E5,h',g2,g1,g3,g4⟩
 ·
  rintro e W2 ⟨⟨v,rfl⟩,hj | hj⟩
  ·obtain ⟨x,m,E',h1,rfl,h2,h3,h6⟩:=(hJ _ _).1 hj
   have h5:=h3.obj _ _ oL1
   have h4:=h3.obj _ _ oD1
   obtain ⟨t1,t2,t3,t4⟩:=turn E' _ (.loop (rec_ .exhausted none)) h5 rfl
   have hkE:=hk1.trans h3
   have hkE2:Keep E (E'.wset (E'.w.putObj L (.loop (rec_ .exhausted none)))):=hkE.turned t3 t4 fun b o ho=>(t2 b o (oldL ho) (hkE.obj b o ho)).2.2
   refine ⟨none,_,run_endLoop h5.2.2 (by simp[rec_]),?_⟩
   exact hQ .normal (σ.un (head rh [] srcs σ x)) (E'.wset (E'.w.putObj L (.loop (rec_ .exhausted none)))) aD (hdone _ x (by omega) m h1) ((show Same E E1 from rfl).trans (h2.trans rfl)) hkE2 (place_fr hok hro) (head_s (srcs:=srcs) (σ:=σ) (x:=x) q4) (h6.turned t3 rfl (marks _ hkE2 (t2 _ _ hDL h4)))
  ·obtain ⟨e',σ2,E',h0,h1,rfl,h2,h3,h4,h5,h6,h7⟩:=(hJx _).1 hj
   obtain ⟨t1,t2,t3,t4⟩:=turn E' _ (.loop (rec_ .exhausted (some e'.code))) h5 rfl
   have hkE2:Keep E (E'.wset (E'.w.putObj L (.loop (rec_ .exhausted (some e'.code))))):=h3.turned t3 t4 fun b o ho=>(t2 b o (oldL ho) (h3.obj b o ho)).2.2
   refine ⟨some e'.code,_,run_endLoop h5.2.2 (by simp[rec_]),?_⟩
   have fin:=hQ e' { σ.un σ2 with s:=σ.s } (E'.wset (E'.w.putObj L (.loop (rec_ .exhausted (some e'.code))))) aD h1 (h2.trans rfl) hkE2 h7 rfl (h6.turned t3 rfl (marks _ hkE2 (t2 _ _ hDL h4)))
   cases e' with
   | normal=>exact absurd rfl h0
   | ret=>exact wpIn_ret fin
   | exit i=>exact wpIn_exit fin
def EOk (C:Ctx) (hl:Hint) (E:Env):Prop:=E.P=C.P/\(hl.inner=false->E.rg=true)
theorem EOk.next {C:Ctx} {hl:Hint} {E E':Env} (h:EOk C hl E) (hs:Same E E') (hk:Keep E E'):EOk C hl E':=⟨hs.P.trans h.1,fun hi=>hk.rg.trans (h.2 hi)⟩
theorem stepR_scope {P:Program} {b:Frame} {a:Act} {k:List Item} {cs:List Frame} {w:World} {c:Code}:step P (lone (b.atR a (.code (.scope c) ::k)) cs w)=.next (lone (b.atR a (.code c ::.inScope c ::k)) cs w) :=
 step_lone_go (by simp[stepG,stepG.exec,Frame.atR])
theorem stepR_inScope {P:Program} {b:Frame} {a:Act} {k:List Item} {cs:List Frame} {w:World} {c:Code}:step P (lone (b.atR a (.inScope c ::k)) cs w)=.next (lone (b.atR a k) cs w) :=
 step_lone_go (by simp[stepG,stepG.exec,Frame.atR])
theorem exitTo_scope {c:Code} {id:Nat} {k:List Item}:exitTo id (.inScope c ::k)=exitTo id k:=by simp[exitTo]
theorem wpIn_scope {F:Fence} {n:Nat} {P:Program} {Q:Exit->Act->World->Prop} {a:Act} {w:World} {c:Code} (h:c.wpIn F n P (Exit.noGoto Q) a w):(Code.scope c).wpIn F n P Q a w:=by
 intro b k cs hro hb hr
 have h0:(lone (b.atR a (.code (.scope c) ::k)) cs w).fenced P F:=fenced_calm hb hr rfl
 obtain ⟨e,a₁,w₁,hq,harr⟩:=h b (.inScope c ::k) cs hro hb hr
 cases e with
 | normal=>exact ⟨.normal,a₁,w₁,hq,.head h0 stepR_scope (StepsIn.trans harr (.one (fenced_calm hb hr rfl) stepR_inScope))⟩
 | exit id' =>
  exact ⟨.exit id',a₁,w₁,hq,fun k' hk=>.head h0 stepR_scope (harr.1 k' (by rw[exitTo_scope];exact hk)),
   fun hr' hk=>let ⟨k₁,h1,h2⟩:=harr.2 hr' (by rw[exitTo_scope];exact hk);⟨k₁,h1,.head h0 stepR_scope h2⟩⟩
 | goto l=>exact hq.elim
 | ret=>exact ⟨_,a₁,w₁,hq,.of_steps (.one h0 stepR_scope) harr⟩
 | panic ch=>exact ⟨_,a₁,w₁,hq,.of_steps (.one h0 stepR_scope) harr⟩
 | outgrown=>exact ⟨_,a₁,w₁,hq,.of_steps (.one h0 stepR_scope) harr⟩
theorem den_ok {rec:Inl} {C:Ctx} (hC:C.ok) (hI:InlOk C rec) (hmix:C.P.follows .mixedOrders=true) {R:Type} {z:R}:∀{c:Code} {F:Fence} {hl:Hint} {σ:St} {K:Ex->St->Option R} {Q:Exit->Act->World->Prop} {E:Env} {a:Act},WideF F->(hl.inner=false->F=Fence.wide)->den lpK jnK rec C N hl c σ K=some z->RoR σ->EOk C hl E->Mod N E a σ.look ->
  (∀e σ' E' a',K e σ'=some z->Same E E'->Keep E E'->Fr σ σ'->(∀i,i ∉ wr hl c->look σ'.s i=look σ.s i)->Mod N E' a' σ'.look->Q e.to a' E'.w)->c.wpIn F 0 C.P Q a E.w
 | .skip,F,hl,σ,K,Q,E,a,hW,hin,h,_,_,hm,hQ=>wpIn_skip (hQ .normal σ E a h rfl (Keep.refl E) (Fr.refl σ) (fun _ _=>rfl) hm)
 | .region id ops draw,F,hl,σq,K,Q,Eq,a,hW,hin,h,hroq,hPq,hmq,hQq=>by
  simp only[den] at h
  split at h
  ·cases h
  rename_i σ hth
  obtain ⟨E,hsq,hkq,hfq,hslq,hm,hwq⟩:=thaws_ok hmq hth
  have hro:RoR σ:=hroq.fr hfq
  have hP:=hPq.next hsq hkq
  rw[<-hwq]
  have hQ:∀e σ' E' a',K e σ'=some z->Same E E'->Keep E E'->Fr σ σ'->(∀i,i ∉ wr hl (.region id ops draw)->look σ'.s i=look σ.s i)->Mod N E' a' σ'.look->Q e.to a' E'.w:=fun e σ' E' a' hk hs hkp hf hsl hm' =>
   hQq e σ' E' a' hk (hsq.trans hs) (hkq.trans hkp) (hfq.trans hf) (fun i hi=>(hsl i hi).trans (by rw[hslq])) hm'
  clear hQq hmq hPq hroq
  split at h
  ·cases h
  rename_i hnd
  split at h
  ·exact wpIn_region_list (seq_ok hC hI hW hnd h hro hP.1 hm fun σ' E' a' hk hs hkp hf hsl hm'=>hQ .normal σ' E' a' hk hs hkp hf (fun i hi=>hsl i hi) hm')
  ·obtain ⟨es,σ',hr,hk⟩:=regD_rel h
   split at hk
   ·rename_i hck
    obtain ⟨hf,hsl⟩:=hr.frame
    exact draw_ok hC hW hmix hr hck hnd hP.1 hm fun E' a' hs hkp hm'=>hQ .normal σ' E' a' hk hs hkp hf (fun i hi=>hsl i hi) hm'
   ·cases hk
 | .seq x y,F,hl,σ,K,Q,E,a,hW,hin,h,hro,hP,hm,hQ=>by
  simp only[den] at h
  refine wpIn_seq (den_ok hC hI hmix hW hin h hro hP hm fun e σ' E' a' hk hs hkp hf hsl hm'=>?_)
  have hsl':∀i,i ∉ wr hl (.seq x y)->look σ'.s i=look σ.s i:=fun i hi=>hsl i fun hx=>hi (List.mem_append_left _ hx)
  cases e with
  | normal=>exact den_ok hC hI hmix hW hin hk (hro.fr hf) (hP.next hs hkp) hm' fun e2 σ2 E2 a2 hk2 hs2 hkp2 hf2 hsl2 hm2=>hQ e2 σ2 E2 a2 hk2 (hs.trans hs2) (hkp.trans hkp2) (hf.trans hf2) (fun i hi=>(hsl2 i fun hx=>hi (List.mem_append_right _ hx)).trans (hsl' i hi)) hm2
  | ret=>exact hQ .ret σ' E' a' hk hs hkp hf hsl' hm'
  | exit i=>exact hQ (.exit i) σ' E' a' hk hs hkp hf hsl' hm'
 | .cond c x y,F,hl,σ,K,Q,E,a,hW,hin,h,hro,hP,hm,hQ=>by
  simp only[den] at h
  split at h
  ·rename_i q hq
   split at h
   ·rename_i hj
    have sub:∀i,i ∉ wr hl (.cond c x y)->i ∉ wr hl x/\i ∉ wr hl y:=fun i hi=>⟨fun hx=>hi (List.mem_append_right _ (List.mem_append_left _ hx)),fun hy=>hi (List.mem_append_right _ (List.mem_append_right _ hy))⟩
    refine wpIn_cond_split (condB_run hq hm) (fun ht=>?_) (fun hf=>?_)
    ·rw[ht] at h
     exact den_ok hC hI hmix hW hin h hro hP hm fun e σ' E' a' hk hs hkp hf hsl hm'=>hQ e σ' E' a' hk hs hkp hf (fun i hi=>hsl i (sub i hi).1) hm'
    ·rw[hf] at h
     exact den_ok hC hI hmix hW hin h hro hP hm fun e σ' E' a' hk hs hkp hf hsl hm'=>hQ e σ' E' a' hk hs hkp hf (fun i hi=>hsl i (sub i hi).2) hm'
   ·rename_i hd hj
    unfold place at h
    split at h
    ·rename_i rh hat
     split at h
     ·rename_i hok
      simp only[jnK,joinF] at h
      have fin:∀(cc:Code) {σ':St} {E':Env} {a':Act} (e:Ex),(match e with
        | .normal=>match readAt rh (keysBut (rowsOf rh++somes (srcR σ rh)) σ.r++σ.roR) σ' with
         | some x'=>K .normal (σ.un (head rh (hdSlots hd.sl++(wr hl x++wr hl y)) (somes (srcR σ rh)) σ x'))
         | none=>none
        | .ret=>K .ret (σ.un σ')
        | .exit i=>K (.exit i) (σ.un σ'))=some z->Same E E'->Keep E E'->Fr { σ with ro:=keysBut (blksOf rh) σ.h++σ.ro,roR:=keysBut (rowsOf rh++somes (srcR σ rh)) σ.r++σ.roR } σ' ->
        (∀i,i ∉ wr hl x++wr hl y->look σ'.s i=look σ.s i)->Mod N E' a' σ'.look->Q e.to a' E'.w:=by
       intro cc σ' E' a' e hk hs hkp hf hsl hm'
       have hfu:Fr σ (σ.un σ'):=un_fr (σ0:={ σ with ro:=keysBut (blksOf rh) σ.h++σ.ro,roR:=keysBut (rowsOf rh++somes (srcR σ rh)) σ.r++σ.roR }) (fun i hi=>⟨List.mem_append_right _ hi,rfl⟩) (fun i hi=>⟨List.mem_append_right _ hi,rfl⟩) hf
       have hsl':∀i,i ∉ wr hl (.cond c x y)->look σ'.s i=look σ.s i:=fun i hi=>hsl i fun hx=>hi (List.mem_append_right _ hx)
       cases e with
       | normal =>
        simp only at hk
        split at hk
        ·rename_i x' hx'
         obtain ⟨E2,h1,h2,h3,h4⟩:=place_mod (W:=hdSlots hd.sl++(wr hl x++wr hl y)) hok hm hkp hm' hx' (fun i hi=>hsl i fun hx=>hi (List.mem_append_right _ hx)) hf.h hf.r
         have:=hQ .normal _ E2 a' hk (hs.trans h1) h3 (place_fr hok hro) (fun i hi=>head_slots (srcs:=somes (srcR σ rh)) (x:=x') hat fun hx=>hi (by
          rcases List.mem_append.1 hx with hx | hx
          ·exact List.mem_append_left _ (by rw[hj];exact hx)
          ·exact List.mem_append_right _ hx)) (h4.same rfl rfl rfl)
         rw[h2] at this
         exact this
        ·cases hk
       | ret=>exact hQ .ret _ E' a' hk hs hkp hfu hsl' (hm'.same rfl rfl rfl)
       | exit i=>exact hQ (.exit i) _ E' a' hk hs hkp hfu hsl' (hm'.same rfl rfl rfl)
      have hro':RoR { σ with ro:=keysBut (blksOf rh) σ.h++σ.ro,roR:=keysBut (rowsOf rh++somes (srcR σ rh)) σ.r++σ.roR }:=fun i hi=>by
       rcases List.mem_append.1 hi with hi | hi
       ·exact keysBut_sub hi
       ·exact hro i hi
      refine wpIn_cond_split (condB_run hq hm) (fun ht=>?_) (fun hf=>?_)
      ·rw[ht] at h
       exact den_ok hC hI hmix hW hin h hro' hP (hm.same rfl rfl rfl) fun e σ' E' a' hk hs hkp hf hsl hm'=>fin x e hk hs hkp hf (fun i hi=>hsl i fun hx=>hi (List.mem_append_left _ hx)) hm'
      ·rw[hf] at h
       exact den_ok hC hI hmix hW hin h hro' hP (hm.same rfl rfl rfl) fun e σ' E' a' hk hs hkp hf hsl hm'=>fin y e hk hs hkp hf (fun i hi=>hsl i fun hx=>hi (List.mem_append_right _ hx)) hm'
     ·cases h
    ·cases h
  ·cases h
 | .block id c,F,hl,σ,K,Q,E,a,hW,hin,h,hro,hP,hm,hQ=>by
  simp only[den] at h
  have blk:∀{K':Ex->St->Option R} {e:Ex} {σ':St} {a':Act} {w':World},blockK id K' e σ'=some z->(∀e',K' e' σ'=some z->Q e'.to a' w')->Exit.inBlock id Q e.to a' w':=by
   intro K' e σ' a' w' hk hq
   cases e with
   | normal=>exact hq .normal hk
   | ret=>exact hq .ret hk
   | exit i =>
    simp only[blockK] at hk
    show Exit.inBlock id Q (.exit i) a' w'
    simp only[Exit.inBlock]
    split at hk
    ·rename_i hi
     have hi:i=id:=by simpa using hi
     rw[if_pos hi]
     exact hq .normal hk
    ·rename_i hi
     rw[if_neg (fun e=>by subst e;simp at hi)]
     exact hq (.exit i) hk
  split at h
  ·rename_i hj
   exact wpIn_block (den_ok hC hI hmix hW hin h hro hP hm fun e σ' E' a' hk hs hkp hf hsl hm'=>blk hk fun e' hk'=>hQ e' σ' E' a' hk' hs hkp hf (fun i hi=>hsl i fun hx=>hi (List.mem_append_right _ hx)) hm')
  ·rename_i hd hj
   unfold place at h
   split at h
   ·rename_i rh hat
    split at h
    ·rename_i hok
     simp only[jnK,joinF] at h
     have hro':RoR { σ with ro:=keysBut (blksOf rh) σ.h++σ.ro,roR:=keysBut (rowsOf rh++somes (srcR σ rh)) σ.r++σ.roR }:=fun i hi=>by
      rcases List.mem_append.1 hi with hi | hi
      ·exact keysBut_sub hi
      ·exact hro i hi
     refine wpIn_block (den_ok hC hI hmix hW hin h hro' hP (hm.same rfl rfl rfl) fun e σ' E' a' hk hs hkp hf hsl hm'=>blk hk fun e' hk'=>?_)
     have hfu:Fr σ (σ.un σ'):=un_fr (σ0:={ σ with ro:=keysBut (blksOf rh) σ.h++σ.ro,roR:=keysBut (rowsOf rh++somes (srcR σ rh)) σ.r++σ.roR }) (fun i hi=>⟨List.mem_append_right _ hi,rfl⟩) (fun i hi=>⟨List.mem_append_right _ hi,rfl⟩) hf
     have hsl':∀i,i ∉ wr hl (.block id c)->look σ'.s i=look σ.s i:=fun i hi=>hsl i fun hx=>hi (List.mem_append_right _ hx)
     cases e' with
     | normal =>
      simp only at hk'
      split at hk'
      ·rename_i x' hx'
       obtain ⟨E2,h1,h2,h3,h4⟩:=place_mod (W:=hdSlots hd.sl++wr hl c) hok hm hkp hm' hx' (fun i hi=>hsl i fun hx=>hi (List.mem_append_right _ hx)) hf.h hf.r
       have:=hQ .normal _ E2 a' hk' (hs.trans h1) h3 (place_fr hok hro) (fun i hi=>head_slots (srcs:=somes (srcR σ rh)) (x:=x') hat fun hx=>hi (by
        rcases List.mem_append.1 hx with hx | hx
        ·exact List.mem_append_left _ (by rw[hj];exact hx)
        ·exact List.mem_append_right _ hx)) (h4.same rfl rfl rfl)
       rw[h2] at this
       exact this
      ·cases hk'
     | ret=>exact hQ .ret _ E' a' hk' hs hkp hfu hsl' (hm'.same rfl rfl rfl)
     | exit i=>exact hQ (.exit i) _ E' a' hk' hs hkp hfu hsl' (hm'.same rfl rfl rfl)
    ·cases h
   ·cases h
 | .exit id,F,hl,σ,K,Q,E,a,hW,hin,h,_,_,hm,hQ=>wpIn_exit (hQ (.exit id) σ E a h rfl (Keep.refl E) (Fr.refl σ) (fun _ _=>rfl) hm)
 | .ret,F,hl,σ,K,Q,E,a,hW,hin,h,_,_,hm,hQ=>wpIn_ret (hQ .ret σ E a h rfl (Keep.refl E) (Fr.refl σ) (fun _ _=>rfl) hm)
 | .loop c,F,hl,σq,K,Q,Eq,a,hW,hin,h,hroq,hPq,hmq,hQq=>by
  simp only[den] at h
  split at h
  ·cases h
  rename_i σ hth
  obtain ⟨E,hsq,hkq,hfq,hslq,hm,hwq⟩:=thaws_ok hmq hth
  have hro:RoR σ:=hroq.fr hfq
  have hP:=hPq.next hsq hkq
  rw[<-hwq]
  have hQ:∀e σ' E' a',K e σ'=some z->Same E E'->Keep E E'->Fr σ σ'->(∀i,i ∉ wr hl (.loop c)->look σ'.s i=look σ.s i)->Mod N E' a' σ'.look->Q e.to a' E'.w:=fun e σ' E' a' hk hs hkp hf hsl hm' =>
   hQq e σ' E' a' hk (hsq.trans hs) (hkq.trans hkp) (hfq.trans hf) (fun i hi=>(hsl i hi).trans (by rw[hslq])) hm'
  clear hQq hmq hPq hroq
  split at h
  ·rename_i hd hlp
   split at h
   ·rename_i rh hat
    split at h
    ·rename_i x0 hok hx0
     obtain ⟨E1,g1,g2,g3,g4⟩:=place_mod (E0:=E) (a0:=a) hok hm (Keep.refl E) hm hx0 (fun _ _=>rfl) (fun _ _=>rfl) (fun _ _=>rfl)
     let F':(TsR rh->Option R)->TsR rh->Option R:=fun again x=>den lpK jnK rec C N hl c (head rh (hdSlots hd.sl++wr hl c) (somes (srcR σ rh)) σ x) fun e σ'=>match e with
      | .normal=>match readAt rh (keysBut (rowsOf rh++somes (srcR σ rh)) σ.r++σ.roR) σ' with
       | some x'=>again x'
       | none=>none
      | .ret=>K .ret (σ.un σ')
      | .exit i=>K (.exit i) (σ.un σ')
     let I:Nat->Act->World->Prop:=fun n a' w'=>∃x E',loopF F' n x=some z/\E'.w=w'/\Same E E'/\Keep E E'/\Mod N E' a' (head rh (hdSlots hd.sl++wr hl c) (somes (srcR σ rh)) σ x).look
     refine wpIn_loop_ghost I ?_ (n:=K0) ⟨x0,E1,h,g2,g1,g3,g4⟩
     rintro n a' w' ⟨x,E',hloop,rfl,hs,hkp,hm'⟩
     cases n with
     | zero=>cases hloop
     | succ n =>
      have hround:F' (loopF F' n) x=some z:=hloop
      refine den_ok hC hI hmix hW hin hround (hro.head hok) (hP.next hs hkp) hm' fun e σ2 E2 a2 hk hs2 hkp2 hf2 hsl2 hm2=>?_
      obtain ⟨r1,r2⟩:=head_ro (x:=x) hok hro
      obtain ⟨q1,q2⟩:=head_keep (x:=x) hok hro
      have hfu:Fr σ (σ.un σ2):=un_fr r1 r2 hf2
      have hsl':∀i,i ∉ wr hl (.loop c)->look σ2.s i=look σ.s i:=fun i hi=>(hsl2 i fun hx=>hi (List.mem_append_right _ hx)).trans (head_slots hat fun hx=>hi (by
       rcases List.mem_append.1 hx with hx | hx
       ·exact List.mem_append_left _ (by rw[hlp];exact hx)
       ·exact List.mem_append_right _ hx))
      cases e with
      | normal =>
       simp only at hk
       split at hk
       ·rename_i x' hx'
        obtain ⟨E3,e1,e2,e3,e4⟩:=place_mod (E0:=E) (a0:=a) hok hm (hkp.trans hkp2) hm2 hx' (fun i hi=>(hsl2 i fun hx=>hi (List.mem_append_right _ hx)).trans (head_slots hat hi)) (fun i hi=>(hf2.h i hi).trans (q1 i hi)) (fun i hi=>(hf2.r i hi).trans (q2 i hi))
        exact ⟨n,Nat.lt_succ_self n,x',E3,hk,e2,(hs.trans hs2).trans e1,e3,e4⟩
       ·cases hk
      | ret=>exact hQ .ret _ E2 a2 hk (hs.trans hs2) (hkp.trans hkp2) hfu hsl' (hm2.same rfl rfl rfl)
      | exit i=>exact hQ (.exit i) _ E2 a2 hk (hs.trans hs2) (hkp.trans hkp2) hfu hsl' (hm2.same rfl rfl rfl)
    ·cases h
   ·cases h
  ·cases h
 | .rangeFunc g ps assign body,F,hl,σ,K,Q,E,a,hW,hin,h,hro,hP,hm,hQ=>by
  simp only[den] at h
  split at h
  case h_2=>cases h
  rename_i I hinn hit
  split at h
  case h_2=>cases h
  split at h
  case h_2=>cases h
  split at h
  case h_2=>cases h
  rename_i x0 hok hx0
  rw[Bool.and_eq_true] at hok
  rw[hin hinn]
  cases hpx:I.it.p I.x with
  | false=>rw[hpx,cond_false] at h;cases h
  | true =>
  rw[hpx,cond_true] at h
  exact range_ok hC (fun L σ' K' Q' E' a' h1 h2 h3 h4 h5=>den_ok hC hI hmix (.inr ⟨L,rfl⟩) (fun e=>by cases e) h1 h2 ⟨h3,fun e=>by cases e⟩ h4 fun e σ2 E2 a2 k1 k2 k3 k4 _ k6=>h5 e σ2 E2 a2 k1 k2 k3 k4 k6)
   (fun L σ' K' Q' E' a' h1 h2 h3 h4 h5=>den_ok hC hI hmix (.inr ⟨L,rfl⟩) (fun e=>by cases e) h1 h2 ⟨h3,fun e=>by cases e⟩ h4 fun e σ2 E2 a2 k1 k2 k3 k4 _ k6=>h5 e σ2 E2 a2 k1 k2 k3 k4 k6)
   hit hok.1 hok.2 hpx hx0 h hro hP.1 (hP.2 hinn) hm fun e σ' E' a' k1 k2 k3 k4 k5 k6=>hQ e σ' E' a' k1 k2 k3 k4 (fun i _=>by rw[k5]) k6
 | .scope c,F,hl,σ,K,Q,E,a,hW,hin,h,hro,hP,hm,hQ=>by
  simp only[den] at h
  exact wpIn_scope (den_ok hC hI hmix hW hin h hro hP hm fun e σ' E' a' hk hs hkp hf hsl hm'=>by
   have:=hQ e σ' E' a' hk hs hkp hf hsl hm'
   cases e<;>exact this)
 | .label l,F,hl,σ,K,Q,E,a,hW,hin,h,_,_,hm,hQ=>wpIn_label (hQ .normal σ E a (by simpa only[den] using h) rfl (Keep.refl E) (Fr.refl σ) (fun _ _=>rfl) hm)
 | .goto _,_,_,_,_,_,_,_,_,_,h,_,_,_,_=>by simp[den] at h
 | .refuse _,_,_,_,_,_,_,_,_,_,h,_,_,_,_=>by simp[den] at h
end
end
end Dn
end Go.Proofs.YtlfdhaiigdllcaaGreatDoor
