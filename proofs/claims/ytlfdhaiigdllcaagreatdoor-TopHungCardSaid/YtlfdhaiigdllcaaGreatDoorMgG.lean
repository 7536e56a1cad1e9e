/- A symbolic executor: sets and maps of the call's own. A symbolic executor: tables of the call's own: rows whose elements refer to inner rows, which change in place. A symbolic executor: tables: what operations on their elements, and on those of their inner rows, come to. A symbolic executor: tables: how they come, and how they grow. A symbolic executor: tables: stores into their elements, appending to an inner row, new tables of a length. -/
import Derived.MapKept
import Derived.WideMake
import Derived.Test.YtlfdhaiigdllcaaGreatDoorMgF

namespace Go.Proofs.YtlfdhaiigdllcaaGreatDoor
namespace Dn
open Go.RowKit
def keyT (P:Program) (kt:TypeId):Sh->Bool
 | .str=>match P.underlying kt with
  | some .string=>true
  | _=>false
 | .int k=>match P.underlying kt with
  | some (.int k')=>decide (k'=k)
  | _=>false
 | _=>false
def keyEq:(k:Sh)->k.T->k.T->Bool
 | .str,a,b=>decide (a=b)
 | .int _,a,b=>decide (a=b)
 | _,_,_=>false
def memK (k:Sh) (x:k.T):List k.T->Bool
 | []=>false
 | y ::l=>keyEq k x y||memK k x l
def addK (k:Sh) (x:k.T) (l:List k.T):List k.T:=bif memK k x l then l else l++[x]
def memM (k e:Sh) (x:k.T):List (k.T×e.T)->Bool
 | []=>false
 | y ::l=>keyEq k x y.1||memM k e x l
def getM (k e:Sh) (x:k.T) (z:e.T):List (k.T×e.T)->e.T
 | []=>z
 | y ::l=>bif keyEq k x y.1 then y.2 else getM k e x z l
def putM (k e:Sh) (x:k.T) (z:e.T):List (k.T×e.T)->List (k.T×e.T)
 | []=>[(x,z)]
 | y ::l=>bif keyEq k x y.1 then (x,z) ::l else y ::putM k e x z l
section
variable {P:Program} {N:Nat} {g:Look} {E:Env} {a:Act} {o:Oper}
theorem key_same {w:World} {Z:Nat->Prop} {kt:TypeId} {k:Sh} (h:keyT P kt k=true):∃d,P.underlying kt=some d/\∀{x y:k.T} {v v':Value},Dat w Z k x [v]->Dat w Z k y [v']->MapKept.IsKey d v/\Instr.sameNow d v v'=some (keyEq k x y)/\(keyEq k x y=true->v=v'):=by
 cases k<;>simp only[keyT] at h<;>try (cases h;done)
 case int kk =>
  split at h
  ·rename_i kk' hd
   have hkk:kk'=kk:=by simpa using h
   subst hkk
   refine ⟨_,hd,fun {x y v v'} hx hy=>?_⟩
   simp only[Dat] at hx hy
   injection hx with hx _
   injection hy with hy _
   subst hx;subst hy
   refine ⟨by simp[MapKept.IsKey],?_,fun e=>?_⟩
   ·simp only[Instr.sameNow,if_true,keyEq]
    congr 1
   ·simp only[keyEq,decide_eq_true_eq] at e
    rw[e]
  ·cases h
 case str =>
  split at h
  ·rename_i hd
   refine ⟨_,hd,fun {x y v v'} hx hy=>?_⟩
   simp only[Dat] at hx hy
   injection hx with hx _
   injection hy with hy _
   subst hx;subst hy
   refine ⟨by simp[MapKept.IsKey],?_,fun e=>?_⟩
   ·simp only[Instr.sameNow,keyEq]
    congr 1
    rw[Bool.eq_iff_iff,MapKept.bytes_beq,decide_eq_true_eq]
   ·simp only[keyEq,decide_eq_true_eq] at e
    rw[e]
  ·cases h
theorem find_keys {w:World} {Z:Nat->Prop} {kt:TypeId} {k:Sh} {d:TypeDesc} (hd:P.underlying kt=some d) (hk:keyT P kt k=true) {x:k.T} {v:Value} (hx:Dat w Z k x [v]):∀{l:List k.T} {es:List MapEntry} {i:Nat},KeysRel w Z k l es ->
  (memK k x l=false/\Instr.findNow d v es i=some none)\/(memK k x l=true/\∃j m,i<=j/\es[j - i]?=some m/\m.key=v/\m.val=.agg #[]/\Instr.findNow d v es i=some (some (j,m.val)))
 | [],es,i,h=>by simp only[KeysRel] at h;subst h;exact .inl ⟨rfl,rfl⟩
 | y ::l,es,i,⟨m,r,h1,h2,h3,h4⟩=>by
  subst h1
  obtain ⟨d',hd',hs⟩:=key_same (w:=w) (Z:=Z) hk
  rw[hd] at hd'
  injection hd' with hd'
  subst hd'
  obtain ⟨_,h5,h6⟩:=hs hx h2
  simp only[Instr.findNow,h5,memK]
  cases he:keyEq k x y with
  | true=>exact .inr ⟨rfl,i,m,Nat.le_refl _,by simp,(h6 he).symm,h3,rfl⟩
  | false =>
   rcases find_keys hd hk hx (i:=i+1) h4 with ⟨g1,g2⟩ | ⟨g1,j,m',g2,g3,g4⟩
   ·exact .inl ⟨by simp[g1],g2⟩
   ·exact .inr ⟨by simp[g1],j,m',by omega,by rw[show j - i=(j - (i+1))+1 by omega];simpa using g3,g4⟩
theorem find_ents {w:World} {Z:Nat->Prop} {kt:TypeId} {k e:Sh} {d:TypeDesc} (hd:P.underlying kt=some d) (hk:keyT P kt k=true) {x:k.T} {v:Value} (hx:Dat w Z k x [v]) {z:e.T}:∀{l:List (k.T×e.T)} {es:List MapEntry} {i:Nat},EntsRel w Z k e l es ->
  (memM k e x l=false/\getM k e x z l=z/\Instr.findNow d v es i=some none)\/(memM k e x l=true/\∃j m,i<=j/\es[j - i]?=some m/\m.key=v/\DatV w Z e (getM k e x z l) m.val/\Instr.findNow d v es i=some (some (j,m.val)))
 | [],es,i,h=>by simp only[EntsRel] at h;subst h;exact .inl ⟨rfl,rfl,rfl⟩
 | y ::l,es,i,⟨m,r,h1,h2,h3,h4⟩=>by
  subst h1
  obtain ⟨d',hd',hs⟩:=key_same (w:=w) (Z:=Z) hk
  rw[hd] at hd'
  injection hd' with hd'
  subst hd'
  obtain ⟨_,h5,h6⟩:=hs hx h2
  simp only[Instr.findNow,h5,memM,getM]
  cases he:keyEq k x y.1 with
  | true=>exact .inr ⟨rfl,i,m,Nat.le_refl _,by simp,(h6 he).symm,h3,rfl⟩
  | false =>
   rcases find_ents hd hk hx (z:=z) (i:=i+1) h4 with ⟨g1,g2,g3⟩ | ⟨g1,j,m',g2,g3,g4⟩
   ·exact .inl ⟨by simp[g1],g2,g3⟩
   ·exact .inr ⟨by simp[g1],j,m',by omega,by rw[show j - i=(j - (i+1))+1 by omega];simpa using g3,g4⟩
theorem keys_append {w:World} {Z:Nat->Prop} {k:Sh} {x:k.T} {m:MapEntry} (hx:Dat w Z k x [m.key]) (hv:m.val=.agg #[]):∀{l:List k.T} {es:List MapEntry},KeysRel w Z k l es->KeysRel w Z k (l++[x]) (es++[m])
 | [],es,h=>by simp only[KeysRel] at h;subst h;exact ⟨m,[],rfl,hx,hv,rfl⟩
 | _ ::_,_,⟨m',r,h1,h2,h3,h4⟩=>⟨m',r++[m],by rw[h1];rfl,h2,h3,keys_append hx hv h4⟩
theorem ents_put {w:World} {Z:Nat->Prop} {kt:TypeId} {k e:Sh} {d:TypeDesc} (hd:P.underlying kt=some d) (hk:keyT P kt k=true) {x:k.T} {v u:Value} (hx:Dat w Z k x [v]) {z:e.T} (hz:DatV w Z e z u):∀{l:List (k.T×e.T)} {es:List MapEntry} {i:Nat},EntsRel w Z k e l es ->
  (Instr.findNow d v es i=some none/\∀b,EntsRel w Z k e (putM k e x z l) (es++[{ key:=v,val:=u,born:=b }]))\/(∃j q,i<=j/\Instr.findNow d v es i=some (some (j,q))/\(∃m,es[j - i]?=some m/\m.key=v)/\EntsRel w Z k e (putM k e x z l) (es.modify (j - i) fun en=>{ en with key:=v,val:=u }))
 | [],es,i,h=>by
  simp only[EntsRel] at h;subst h
  exact .inl ⟨rfl,fun b=>⟨_,[],rfl,hx,hz,rfl⟩⟩
 | y ::l,es,i,⟨m,r,h1,h2,h3,h4⟩=>by
  subst h1
  obtain ⟨d',hd',hs⟩:=key_same (w:=w) (Z:=Z) hk
  rw[hd] at hd'
  injection hd' with hd'
  subst hd'
  obtain ⟨_,h5,h6⟩:=hs hx h2
  simp only[Instr.findNow,h5,putM]
  cases he:keyEq k x y.1 with
  | true =>
   refine .inr ⟨i,m.val,Nat.le_refl _,rfl,⟨m,by simp,(h6 he).symm⟩,?_⟩
   rw[Nat.sub_self,List.modify_zero_cons]
   exact ⟨_,r,rfl,hx,hz,h4⟩
  | false =>
   rcases ents_put hd hk hx hz (i:=i+1) h4 with ⟨g1,g2⟩ | ⟨j,q,g1,g2,⟨m',g3,g4⟩,g5⟩
   ·exact .inl ⟨g1,fun b=>⟨m,_,rfl,h2,h3,g2 b⟩⟩
   ·refine .inr ⟨j,q,by omega,g2,⟨m',by rw[show j - i=(j - (i+1))+1 by omega];simpa using g3,g4⟩,?_⟩
    rw[show j - i=(j - (i+1))+1 by omega,List.modify_succ_cons]
    exact ⟨m,_,rfl,h2,h3,g5⟩
theorem makeMap_ok {t:TypeId} {b:Nat} {x:XI} (ho:o.op=.makeMap t none) (hb:g.r b=none) (hx:∀E':Env,E'.R b->(∃(q:Nat),E'.ρ b=.map (some q)/\E'.φ b q/\E'.w.heap[q]?=some (.map #[] 0))->XOk E' b x) (hm:Mod N E a g) :
  CoreOk P N g E a o ⟨.c false [.row b],.xset b x [],[]⟩:=by
 have hnew:=heap_new E.w (.map #[] 0)
 obtain ⟨m1,m2⟩:=xset_mod hm (k:=b) (x:=x) (u:=[]) (w':=E.w.alloc (.map #[] 0)) (v:=.map (some E.w.heap.size)) (F:=fun q=>q=E.w.heap.size) (I:=fun _=>undef) (n:=0) (.inl hb) (by simp)
  (fun q hq=>.inl ⟨by rw[hq];exact Nat.le_refl _,by rw[hq,World.size_alloc];omega⟩) (fun q hq _=>heap_push E.w _ q hq) rfl rfl rfl (by rw[World.size_alloc];omega)
  (hx _ (.inr rfl) ⟨E.w.heap.size,by simp[Env.xput],by simp[Env.xput],hnew⟩)
 refine CoreOk.value (E':=E.xput b (.map (some E.w.heap.size)) (E.w.alloc (.map #[] 0)) (fun q=>q=E.w.heap.size) (fun _=>undef) 0) (v:=.map (some E.w.heap.size)) ?_ rfl m2 m1 ⟨[_],rfl,⟨⟨?_,.inr rfl,rfl⟩,trivial⟩,fun _=>rfl⟩
 ·simp only[execOp,ho]
  simp[Instr.makeMap,Env.xput]
 ·simp[Env.xput]
def zeroV (P:Program) (t:TypeId):Option Value:=match P.info? t with
 | some i=>i.zero
 | none=>none
theorem zeroV_run {t:TypeId} {z:Value} (h:zeroV P t=some z) (w:World):(zeroValue t).run P w=.ok z w:=by
 unfold zeroV at h
 split at h
 ·rename_i i hi
  simp[zeroValue,typeInfo,hi,h]
 ·cases h
def newX (C_sh:TypeId->Option Sh) (P:Program) (t:TypeId):Option XI:=match P.underlying t with
 | some (.map kt et)=>match C_sh kt with
  | some k=>match keyT P kt k,zeroV P et with
   | true,some (.agg ⟨[]⟩)=>some (.set t k [])
   | true,some z=>match C_sh et with
    | some e=>match e.whole (ofV z) with
     | some _=>some (.map t k e [])
     | none=>none
    | none=>none
   | _,_=>none
  | none=>none
 | _=>none
theorem newX_ok {sh:TypeId->Option Sh} {t:TypeId} {x:XI} {q:Nat} (h:newX sh P t=some x) (hR:E.R q) (hq:∃b:Nat,E.ρ q=.map (some b)/\E.φ q b/\E.w.heap[b]?=some (.map #[] 0)):XOk E q x:=by
 obtain ⟨b,h1,h2,h3⟩:=hq
 unfold newX at h
 split at h
 ·split at h
  ·split at h
   ·injection h with h;subst h
    exact ⟨hR,b,#[],0,h1,h2,h3,rfl⟩
   ·split at h
    ·split at h
     ·injection h with h;subst h
      exact ⟨hR,b,#[],0,h1,h2,h3,rfl⟩
     ·cases h
    ·cases h
   ·cases h
  ·cases h
 ·cases h
def makeMapC (C_sh:TypeId->Option Sh) (P:Program) (rk:Rk) (b:Nat) (t:TypeId):Option Core:=match newX C_sh P t,rk b with
 | some x,none=>some ⟨.c false [.row b],.xset b x [],[]⟩
 | _,_=>none
theorem makeMapC_ok {sh:TypeId->Option Sh} {rk:Rk} {b:Nat} {t:TypeId} {r:Core} (ho:o.op=.makeMap t none) (h:makeMapC sh P rk b t=some r) (hm:Mod N E a g) (hb:rk b=none->g.r b=none):CoreOk P N g E a o r:=by
 unfold makeMapC at h
 split at h
 ·rename_i x hx hn
  injection h with h
  subst h
  exact makeMap_ok ho (hb hn) (fun E' hR hq=>newX_ok hx hR hq) hm
 ·cases h
theorem mapSet_mod (hm:Mod N E a g) {q:Nat} {y x:XI} (hq:g.r q=some (.x y)) {b:Nat} {es es':Array MapEntry} {ck ck':Nat} (hv:E.ρ q=.map (some b)) (hf:E.φ q b) (hh:E.w.heap[b]?=some (.map es ck))
  (hx:∀E':Env,E'.R q->(∃(b:Nat),E'.ρ q=.map (some b)/\E'.φ q b/\E'.w.heap[b]?=some (.map es' ck'))->(∀{s:Sh} {z:s.T} {cs:List Value},Dat E.w E.Z s z cs->Dat E'.w E'.Z s z cs)->XOk E' q x) :
  let w':World:={ E.w with heap:=E.w.heap.setIfInBounds b (.map es' ck') }
  Mod N (E.xput q (E.ρ q) w' (E.φ q) (E.ι q) (E.ν q)) a (g.app (.xset q x []))/\Keep E (E.xput q (E.ρ q) w' (E.φ q) (E.ι q) (E.ν q)):=by
 intro w'
 have h1:=MapKept.heap_set (o':=.map es' ck') hh
 have hR:E.R q:=XOk.live (hm.xs q y hq)
 have hz:¬ E.Z b:=(hm.glob.xg.own q y b hq hf).2.2.1
 refine xset_mod hm (.inr ⟨⟨y,hq⟩,rfl,fun _ h=>h,Nat.le_refl _,fun _ _=>rfl⟩) (by simp) (fun c hc=>.inr (.inl ⟨⟨y,hq⟩,hc⟩)) (fun c hc hn=>h1.2 c fun e=>hn (.inl ⟨⟨y,hq⟩,by rw[e];exact hf⟩)) rfl rfl rfl (by simp[w']) ?_
 refine hx _ (.inl hR) ⟨b,by simp[Env.xput,hv],by simp[Env.xput,hf],h1.1⟩ fun hd=>Dat.mono (fun _ h=>h) (fun c hc=>?_) hd
 exact h1.2 c fun e=>hz (by rw[<-e];exact hc)
def mapUpdC (P:Program) (get:Operand->Option SV) (rk:Rk) (t:TypeId) (m k x:Operand):Option Core:=match get m with
 | some (.c false [.row q])=>match rk q with
  | some (.x (.set _ ks l))=>match P.underlying t,get k,getV get x with
   | some (.map kt _),some kv,some (.agg ⟨[]⟩)=>match keyT P kt ks,ks.whole kv with
    | true,some key=>some ⟨.c false [.u],.xset q (.set t ks (addK ks key l)) [],[]⟩
    | _,_=>none
   | _,_,_=>none
  | some (.x (.map _ ks e l))=>match P.underlying t,get k,get x with
   | some (.map kt _),some kv,some xv=>match keyT P kt ks,ks.whole kv,e.whole xv with
    | true,some key,some val=>some ⟨.c false [.u],.xset q (.map t ks e (putM ks e key val l)) [],[]⟩
    | _,_,_=>none
   | _,_,_=>none
  | _=>none
 | _=>none
theorem key_dat {kt:TypeId} {ks:Sh} (hk:keyT P kt ks=true) {key:ks.T} {v:Value} (h:DatV E.w E.Z ks key v):Dat E.w E.Z ks key [v]:=by
 obtain ⟨cs,h1,h2,h3⟩:=h
 cases ks<;>simp only[keyT] at hk<;>try (cases hk;done)
 all_goals
  match cs,h3 rfl with
  | [c],_=>rw[h2];exact h1
theorem same_bits {kt:TypeId} {ks:Sh} (hk:keyT P kt ks=true) {key:ks.T} {v:Value} {w:World} {Z:Nat->Prop} (h:Dat w Z ks key [v]):Instr.sameBits 10000 v v=true:=by
 cases ks<;>simp only[keyT] at hk<;>try (cases hk;done)
 all_goals
  simp only[Dat] at h
  injection h with h _
  subst h
  simp[Instr.sameBits,MapKept.bytes_beq]
theorem mapUpdC_ok {get:Operand->Option SV} {rk:Rk} {t:TypeId} {m k x:Operand} {r:Core} (ho:o.op=.mapUpdate t m k x\/o.op=.insert t m k x) (h:mapUpdC P get rk t m k x=some r) (hg:Gets E a get o) (hm:Mod N E a g) (hrx:∀i x,rk i=some (.x x)->g.r i=some (.x x)):CoreOk P N g E a o r:=by
 have hop:m ∈ o.op.operands/\k ∈ o.op.operands/\x ∈ o.op.operands:=by
  rcases ho with ho | ho<;>(rw[ho];simp[Op.operands])
 have hrun:execOp a.eval o=(do Instr.mapUpdate t (a.eval m) (a.eval k) (a.eval x);pure .skip)\/True:=.inr trivial
 unfold mapUpdC at h
 split at h
 case h_2=>cases h
 rename_i q hq
 obtain ⟨cs,hv,hr,_⟩:=(hg m _ hop.1 hq:RelC E false _ _)
 match cs,hr with
 | [v],hr =>
 obtain ⟨⟨hv1,hRq,_⟩,_⟩:=hr
 have hme:a.eval m=E.ρ q:=by rw[hv];exact hv1
 split at h
 ·rename_i t' ks l hl
  split at h
  case h_2=>cases h
  rename_i kt et kv hu hkv hxv
  split at h
  case h_2=>cases h
  rename_i key hk hw
  injection h with h
  subst h
  have hq':=hrx _ _ hl
  obtain ⟨_,b,es,ck,h1,h2,h3,h4⟩:=hm.xs q _ hq'
  have hdat:=key_dat hk (whole_rel hw (hg k _ hop.2.1 hkv))
  obtain ⟨d,hd,hsame⟩:=key_same (w:=E.w) (Z:=E.Z) hk
  have hx0:a.eval x=.agg #[]:=getV_eval hg hop.2.2 hxv
  have hchk:=MapKept.run_checkKey (w:=E.w) hd (hsame hdat hdat).1 false 9999
  have fin:∀(es':Array MapEntry) (ck':Nat),(Instr.mapUpdate t (a.eval m) (a.eval k) (a.eval x)).run P E.w=.ok () { E.w with heap:=E.w.heap.setIfInBounds b (.map es' ck') }->KeysRel E.w E.Z ks (addK ks key l) es'.toList->CoreOk P N g E a o ⟨.c false [.u],.xset q (.set t ks (addK ks key l)) [],[]⟩:=by
   intro es' ck' hrun hrel
   obtain ⟨m1,m2⟩:=mapSet_mod hm hq' (x:=.set t ks (addK ks key l)) (es':=es') (ck':=ck') h1 h2 h3 (fun E' hR ⟨b',g1,g2,g3⟩ hdt=>⟨hR,b',es',ck',g1,g2,g3,by
    have conv:∀{l:List ks.T} {en:List MapEntry},KeysRel E.w E.Z ks l en->KeysRel E'.w E'.Z ks l en:=by
     intro l
     induction l with
     | nil=>intro en h;exact h
     | cons y l ih=>rintro en ⟨m',r',k1,k2,k3,k4⟩;exact ⟨m',r',k1,hdt k2,k3,ih k4⟩
    exact conv hrel⟩)
   refine CoreOk.skip (E':=E.xput q (E.ρ q) { E.w with heap:=E.w.heap.setIfInBounds b (.map es' ck') } (E.φ q) (E.ι q) (E.ν q)) ?_ rfl m2 m1 ⟨[undef],rfl,⟨trivial,trivial⟩,fun _=>rfl⟩
   rcases ho with ho | ho<;>(simp only[execOp,ho];simp[hrun,Result.andThen,Env.xput])
  rcases find_keys hd hk hdat (i:=0) h4 with ⟨g1,g2⟩ | ⟨g1,j,en,g2,g3,g4,g5,g6⟩
  ·refine fin (es.push { key:=a.eval k,val:=.agg #[],born:=ck }) (ck+1) ?_ ?_
   ·rw[hme,h1,hx0]
    simp[Instr.mapUpdate,run_underlying hu,MapKept.run_getObj_map h3,hchk,MapKept.run_findKey hd g2,MapKept.run_setObj_map _ h3,Result.andThen]
   ·simp only[addK,g1,cond_false,Array.toList_push]
    exact keys_append (m:={ key:=a.eval k,val:=.agg #[],born:=ck }) hdat rfl h4
  ·refine fin es ck ?_ ?_
   ·rw[hme,h1,hx0]
    have e1:es[j]?=some en:=by simpa using g3
    have hk2:(Instr.keyThatStays en.key (a.eval k)).run P E.w=.ok (a.eval k) E.w:=by
     unfold Instr.keyThatStays
     rw[g4,same_bits hk hdat]
     simp
    have e2:es.modify j (fun e=>{ e with key:=a.eval k,val:=.agg #[] })=es:=by
     apply Array.ext_getElem?
     intro i
     rw[Array.getElem?_modify]
     split
     ·rename_i hij
      subst hij
      rw[e1]
      simp only[Option.map_some]
      congr 1
      obtain ⟨ek,ev,eb⟩:=en
      simp only at g4 g5
      rw[g4,g5]
     ·rfl
    simp[Instr.mapUpdate,run_underlying hu,MapKept.run_getObj_map h3,hchk,MapKept.run_findKey hd g6,MapKept.run_setObj_map _ h3,Result.andThen,e1,hk2,e2]
   ·simp only[addK,g1,cond_true]
    exact h4
 ·rename_i t' ks e l hl
  split at h
  case h_2=>cases h
  rename_i kt et kv xv hu hkv hxv
  split at h
  case h_2=>cases h
  rename_i key val hk hw hwx
  injection h with h
  subst h
  have hq':=hrx _ _ hl
  obtain ⟨_,b,es,ck,h1,h2,h3,h4⟩:=hm.xs q _ hq'
  have hdat:=key_dat hk (whole_rel hw (hg k _ hop.2.1 hkv))
  have hval:=whole_rel hwx (hg x _ hop.2.2 hxv)
  obtain ⟨d,hd,hsame⟩:=key_same (w:=E.w) (Z:=E.Z) hk
  have hchk:=MapKept.run_checkKey (w:=E.w) hd (hsame hdat hdat).1 false 9999
  have fin:∀(es':Array MapEntry) (ck':Nat),(Instr.mapUpdate t (a.eval m) (a.eval k) (a.eval x)).run P E.w=.ok () { E.w with heap:=E.w.heap.setIfInBounds b (.map es' ck') }->EntsRel E.w E.Z ks e (putM ks e key val l) es'.toList->CoreOk P N g E a o ⟨.c false [.u],.xset q (.map t ks e (putM ks e key val l)) [],[]⟩:=by
   intro es' ck' hrun hrel
   obtain ⟨m1,m2⟩:=mapSet_mod hm hq' (x:=.map t ks e (putM ks e key val l)) (es':=es') (ck':=ck') h1 h2 h3 (fun E' hR ⟨b',g1,g2,g3⟩ hdt=>⟨hR,b',es',ck',g1,g2,g3,by
    have conv:∀{l:List (ks.T×e.T)} {en:List MapEntry},EntsRel E.w E.Z ks e l en->EntsRel E'.w E'.Z ks e l en:=by
     intro l
     induction l with
     | nil=>intro en h;exact h
     | cons y l ih=>rintro en ⟨m',r',k1,k2,⟨cs,k3,k4,k5⟩,k6⟩;exact ⟨m',r',k1,hdt k2,⟨cs,hdt k3,k4,k5⟩,ih k6⟩
    exact conv hrel⟩)
   refine CoreOk.skip (E':=E.xput q (E.ρ q) { E.w with heap:=E.w.heap.setIfInBounds b (.map es' ck') } (E.φ q) (E.ι q) (E.ν q)) ?_ rfl m2 m1 ⟨[undef],rfl,⟨trivial,trivial⟩,fun _=>rfl⟩
   rcases ho with ho | ho<;>(simp only[execOp,ho];simp[hrun,Result.andThen,Env.xput])
  rcases ents_put hd hk hdat hval (i:=0) h4 with ⟨g2,g3⟩ | ⟨j,p,g2,g3,⟨en,g4,g5⟩,g6⟩
  ·refine fin (es.push { key:=a.eval k,val:=a.eval x,born:=ck }) (ck+1) ?_ ?_
   ·rw[hme,h1]
    simp[Instr.mapUpdate,run_underlying hu,MapKept.run_getObj_map h3,hchk,MapKept.run_findKey hd g2,MapKept.run_setObj_map _ h3,Result.andThen]
   ·rw[Array.toList_push]
    exact g3 ck
  ·refine fin (es.modify j fun e=>{ e with key:=a.eval k,val:=a.eval x }) ck ?_ ?_
   ·rw[hme,h1]
    have e1:es[j]?=some en:=by simpa using g4
    have hk2:(Instr.keyThatStays en.key (a.eval k)).run P E.w=.ok (a.eval k) E.w:=by
     unfold Instr.keyThatStays
     rw[g5,same_bits hk hdat]
     simp
    simp[Instr.mapUpdate,run_underlying hu,MapKept.run_getObj_map h3,hchk,MapKept.run_findKey hd g3,MapKept.run_setObj_map _ h3,Result.andThen,e1,hk2]
   ·rw[Array.toList_modify]
    simpa using g6
 ·cases h
def okV:Bool->Value->Bool->Value
 | true,v,b=>.tuple #[v,.bool b]
 | false,v,_=>v
def okS:Bool->Bool->List At->Bool->SV
 | true,ag,l,b=>.tup [(ag,l),(false,[.v (.bool b)])]
 | false,ag,l,_=>.c ag l
def lookupC (P:Program) (get:Operand->Option SV) (rk:Rk) (t:TypeId) (m k:Operand) (ok:Bool):Option Core:=match get m with
 | some (.c false [.row q])=>match rk q with
  | some (.x (.set _ ks l))=>match P.underlying t,get k with
   | some (.map kt et),some kv=>match keyT P kt ks,ks.whole kv,zeroV P et with
    | true,some key,some (.agg ⟨[]⟩)=>some ⟨okS ok true [] (memK ks key l),.none,[]⟩
    | _,_,_=>none
   | _,_=>none
  | some (.x (.map _ ks e l))=>match P.underlying t,get k with
   | some (.map kt et),some kv=>match keyT P kt ks,ks.whole kv,zeroV P et with
    | true,some key,some z=>match e.whole (ofV z) with
     | some zv=>some ⟨okS ok e.isAgg (e.cells (getM ks e key zv l)) (memM ks e key l),.none,[]⟩
     | none=>none
    | _,_,_=>none
   | _,_=>none
  | _=>none
 | _=>none
theorem lookupC_ok {get:Operand->Option SV} {rk:Rk} {t:TypeId} {m k:Operand} {ok:Bool} {r:Core} (ho:o.op=.lookup t m k ok) (h:lookupC P get rk t m k ok=some r) (hg:Gets E a get o) (hm:Mod N E a g) (hrx:∀i x,rk i=some (.x x)->g.r i=some (.x x)):CoreOk P N g E a o r:=by
 have hop:m ∈ o.op.operands/\k ∈ o.op.operands:=by rw[ho];simp[Op.operands]
 unfold lookupC at h
 split at h
 case h_2=>cases h
 rename_i q hq
 obtain ⟨cs,hv,hr,_⟩:=(hg m _ hop.1 hq:RelC E false _ _)
 match cs,hr with
 | [v],hr =>
 obtain ⟨⟨hv1,hRq,_⟩,_⟩:=hr
 have hme:a.eval m=E.ρ q:=by rw[hv];exact hv1
 split at h
 ·rename_i t' ks l hl
  split at h
  case h_2=>cases h
  rename_i kt et kv hu hkv
  split at h
  case h_2=>cases h
  rename_i key hk hw hz
  injection h with h
  subst h
  obtain ⟨_,b,es,ck,h1,h2,h3,h4⟩:=hm.xs q _ (hrx _ _ hl)
  have hdat:=key_dat hk (whole_rel hw (hg k _ hop.2 hkv))
  obtain ⟨d,hd,hsame⟩:=key_same (w:=E.w) (Z:=E.Z) hk
  have hchk:=fun em=>MapKept.run_checkKey (w:=E.w) hd (hsame hdat hdat).1 em 9999
  have hzr:=zeroV_run hz E.w
  have hrun:(Instr.lookup t (a.eval m) (a.eval k) ok).run P E.w=.ok (okV ok (.agg #[]) (memK ks key l)) E.w:=by
   rw[hme,h1]
   rcases find_keys hd hk hdat (i:=0) h4 with ⟨g1,g2⟩ | ⟨g1,j,en,_,g3,g4,g5,g6⟩
   ·cases ok<;>simp[Instr.lookup,run_underlying hu,MapKept.run_getObj_map h3,hchk,MapKept.run_findKey hd g2,hzr,Result.andThen,g1,okV]
   ·cases ok<;>simp[Instr.lookup,run_underlying hu,MapKept.run_getObj_map h3,hchk,MapKept.run_findKey hd g6,Result.andThen,g1,g5,okV]
  refine CoreOk.value (E':=E) (v:=okV ok (.agg #[]) (memK ks key l)) ?_ rfl (Keep.refl E) hm ?_
  ·simp only[execOp,ho]
   simp[hrun,Result.andThen]
  ·cases ok with
   | true=>exact ⟨[.agg #[],.bool (memK ks key l)],rfl,⟨[],rfl,trivial,fun h=>by cases h⟩,⟨[_],rfl,⟨rfl,trivial⟩,fun _=>rfl⟩,trivial⟩
   | false=>exact ⟨[],rfl,trivial,fun h=>by cases h⟩
 ·rename_i t' ks e l hl
  split at h
  case h_2=>cases h
  rename_i kt et kv hu hkv
  split at h
  case h_2=>cases h
  rename_i key z hk hw hz
  split at h
  case h_2=>cases h
  rename_i zv hzv
  injection h with h
  subst h
  obtain ⟨_,b,es,ck,h1,h2,h3,h4⟩:=hm.xs q _ (hrx _ _ hl)
  have hdat:=key_dat hk (whole_rel hw (hg k _ hop.2 hkv))
  obtain ⟨d,hd,hsame⟩:=key_same (w:=E.w) (Z:=E.Z) hk
  have hchk:=fun em=>MapKept.run_checkKey (w:=E.w) hd (hsame hdat hdat).1 em 9999
  have hzr:=zeroV_run hz E.w
  have hzd:DatV E.w E.Z e zv z:=whole_rel hzv (ofV_rel z)
  obtain ⟨u,hu1,hrun⟩:∃u,DatV E.w E.Z e (getM ks e key zv l) u/\(Instr.lookup t (a.eval m) (a.eval k) ok).run P E.w=.ok (okV ok u (memM ks e key l)) E.w:=by
   rw[hme,h1]
   rcases find_ents hd hk hdat (z:=zv) (i:=0) h4 with ⟨g1,g2,g3⟩ | ⟨g1,j,en,_,g3,g4,g5,g6⟩
   ·refine ⟨z,by rw[g2];exact hzd,?_⟩
    cases ok<;>simp[Instr.lookup,run_underlying hu,MapKept.run_getObj_map h3,hchk,MapKept.run_findKey hd g3,hzr,Result.andThen,g1,okV]
   ·refine ⟨en.val,g5,?_⟩
    cases ok<;>simp[Instr.lookup,run_underlying hu,MapKept.run_getObj_map h3,hchk,MapKept.run_findKey hd g6,Result.andThen,g1,okV]
  refine CoreOk.value (E':=E) (v:=okV ok u (memM ks e key l)) ?_ rfl (Keep.refl E) hm ?_
  ·simp only[execOp,ho]
   simp[hrun,Result.andThen]
  ·cases ok with
   | true=>exact ⟨[u,.bool (memM ks e key l)],rfl,datV_rel hu1,⟨[_],rfl,⟨rfl,trivial⟩,fun _=>rfl⟩,trivial⟩
   | false=>exact datV_rel hu1
 ·cases h
def lenXC (P:Program) (get:Operand->Option SV) (rk:Rk) (x:Operand) (ts:Array TypeId):Option Core:=match ts[0]?,get x with
 | some t,some (.c false [.row q])=>match P.underlying t,rk q with
  | some (.map _ _),some (.x (.set _ _ l))=>some ⟨.c false [.v (.int .i64 l.length)],.none,[]⟩
  | some (.map _ _),some (.x (.map _ _ _ l))=>some ⟨.c false [.v (.int .i64 l.length)],.none,[]⟩
  | _,_=>none
 | _,_=>none
theorem keys_len {w:World} {Z:Nat->Prop} {k:Sh}:∀{l:List k.T} {es:List MapEntry},KeysRel w Z k l es->es.length=l.length
 | [],_,h=>by simp only[KeysRel] at h;subst h;rfl
 | _ ::_,_,⟨_,_,h1,_,_,h2⟩=>by rw[h1,List.length_cons,keys_len h2,List.length_cons]
theorem ents_len {w:World} {Z:Nat->Prop} {k e:Sh}:∀{l:List (k.T×e.T)} {es:List MapEntry},EntsRel w Z k e l es->es.length=l.length
 | [],_,h=>by simp only[EntsRel] at h;subst h;rfl
 | _ ::_,_,⟨_,_,h1,_,_,h2⟩=>by rw[h1,List.length_cons,ents_len h2,List.length_cons]
theorem lenXC_ok {get:Operand->Option SV} {rk:Rk} {x:Operand} {ts:Array TypeId} {r:Core} (ho:o.op=.call { callee:=.builtin .len,args:=#[x],argTypes:=ts }) (h:lenXC P get rk x ts=some r) (hg:Gets E a get o) (hm:Mod N E a g) (hrx:∀i x,rk i=some (.x x)->g.r i=some (.x x)):CoreOk P N g E a o r:=by
 have hop:x ∈ o.op.operands:=by rw[ho];simp[Op.operands,Call.operands]
 have fin:∀(t:TypeId) (kt et:TypeId) (q b:Nat) (es:Array MapEntry) (ck n:Nat),ts[0]?=some t->P.underlying t=some (.map kt et)->a.eval x=.map (some b)->E.w.heap[b]?=some (.map es ck)->es.size=n->CoreOk P N g E a o ⟨.c false [.v (.int .i64 n)],.none,[]⟩:=by
  intro t kt et q b es ck n hts hu hx hb hn
  refine CoreOk.value (E':=E) (v:=.int .i64 n) ?_ rfl (Keep.refl E) hm ⟨[_],rfl,⟨rfl,trivial⟩,fun _=>rfl⟩
  simp only[execOp,ho,resolve,pure_bind]
  simp[invoke,builtin,Builtin.len_,hts,hx,run_underlying hu,MapKept.run_getObj_map hb,goInt,Result.andThen,hn]
 unfold lenXC at h
 split at h
 case h_2=>cases h
 rename_i t q hts hq
 obtain ⟨cs,hv,hr,_⟩:=(hg x _ hop hq:RelC E false _ _)
 match cs,hr with
 | [v],hr =>
 obtain ⟨⟨hv1,_,_⟩,_⟩:=hr
 have hme:a.eval x=E.ρ q:=by rw[hv];exact hv1
 split at h
 ·rename_i kt et _ ks l hu hl
  injection h with h;subst h
  obtain ⟨_,b,es,ck,h1,h2,h3,h4⟩:=hm.xs q _ (hrx _ _ hl)
  exact fin t _ _ q b es ck _ hts hu (by rw[hme,h1]) h3 (by rw[<-keys_len h4];simp)
 ·rename_i kt et _ ks e l hu hl
  injection h with h;subst h
  obtain ⟨_,b,es,ck,h1,h2,h3,h4⟩:=hm.xs q _ (hrx _ _ hl)
  exact fin t _ _ q b es ck _ hts hu (by rw[hme,h1]) h3 (by rw[<-ents_len h4];simp)
 ·cases h
end
def ocells (q:Nat):(s:Sh)->s.T->List At
 | .ref,i=>[.ir q i]
 | .pair a b,x=>ocells q a x.1++ocells q b x.2
 | .agg e,x=>ocells q e x
 | .int k,x=>Sh.cells (.int k) x
 | .bool,x=>Sh.cells .bool x
 | .str,x=>Sh.cells .str x
 | .sl e,x=>Sh.cells (.sl e) x
section
variable {P:Program} {N:Nat} {g:Look} {E:Env} {a:Act} {o:Oper}
theorem odat_rel {q:Nat} (hR:E.R q):∀{s:Sh} {x:s.T} {cs:List Value},ODat E q s x cs->RelL E (ocells q s x) cs
 | .ref,i,cs,⟨h1,h2,h3⟩=>by subst h1;exact ⟨⟨rfl,hR,h2,h3⟩,trivial⟩
 | .pair a b,x,cs,h=>by
  simp only[ODat] at h
  obtain ⟨c1,c2,rfl,h1,h2⟩:=h
  exact RelL.append (odat_rel hR h1) (odat_rel hR h2)
 | .agg e,x,cs,h=>odat_rel hR (s:=e) (x:=x) h
 | .int _,_,_,h=>Dat.rel h
 | .bool,_,_,h=>Dat.rel h
 | .str,_,_,h=>Dat.rel h
 | .sl _,_,_,h=>Dat.rel h
theorem odat_one {q:Nat}:∀{s:Sh} {x:s.T} {cs:List Value},ODat E q s x cs->∀v ∈ cs,v.oneCell'=true
 | .ref,i,cs,⟨h1,_,h3⟩=>by subst h1;intro v hv;rw[List.mem_singleton.1 hv];exact h3
 | .pair a b,x,cs,h=>by
  simp only[ODat] at h
  obtain ⟨c1,c2,rfl,h1,h2⟩:=h
  intro v hv
  rcases List.mem_append.1 hv with hv | hv
  ·exact odat_one h1 v hv
  ·exact odat_one h2 v hv
 | .agg e,x,cs,h=>odat_one (s:=e) (x:=x) h
 | .int _,_,_,h=>Dat.one h
 | .bool,_,_,h=>Dat.one h
 | .str,_,_,h=>Dat.one h
 | .sl _,_,_,h=>Dat.one h
theorem tabRel_len {q:Nat} {s:Sh}:∀{l:List s.T} {xs:List Value},TabRel E q s l xs->xs.length=l.length*s.size
 | [],_,h=>by simp only[TabRel] at h;subst h;simp
 | _ ::l,_,⟨c,r,h1,h2,h3⟩=>by
  subst h1
  rw[List.length_append,odat_len h2,tabRel_len h3,List.length_cons,Nat.add_mul,Nat.one_mul,Nat.add_comm]
theorem tabRel_append {q:Nat} {s:Sh}:∀{l m:List s.T} {xs ys:List Value},TabRel E q s l xs->TabRel E q s m ys->TabRel E q s (l++m) (xs++ys)
 | [],_,_,_,h,h'=>by simp only[TabRel] at h;subst h;exact h'
 | _ ::l,_,_,_,⟨c,r,h1,h2,h3⟩,h'=>by
  subst h1
  exact ⟨c,r++_,by simp,h2,tabRel_append h3 h'⟩
theorem tabRel_one {q:Nat} {s:Sh}:∀{l:List s.T} {xs:List Value},TabRel E q s l xs->∀v ∈ xs,v.oneCell'=true
 | [],_,h,v,hv=>by simp only[TabRel] at h;subst h;cases hv
 | _ ::l,_,⟨c,r,h1,h2,h3⟩,v,hv=>by
  subst h1
  rcases List.mem_append.1 hv with hv | hv
  ·exact odat_one h2 v hv
  ·exact tabRel_one h3 v hv
theorem tabRel_get {q:Nat} {s:Sh}:∀{l:List s.T} {xs:List Value} {k:Nat} {x:s.T},TabRel E q s l xs->l[k]?=some x->∃ecs,ODat E q s x ecs/\xs=xs.take (k*s.size)++ecs++xs.drop (k*s.size+s.size)/\k*s.size+s.size<=xs.length
 | [],xs,k,x,_,hk=>by simp at hk
 | y ::l,xs,0,x,⟨c,r,h1,h2,h3⟩,hk=>by
  simp only[List.getElem?_cons_zero,Option.some.injEq] at hk
  subst hk;subst h1
  have:=odat_len h2
  refine ⟨c,h2,?_,by simp[this]⟩
  simp only[Nat.zero_mul,List.take_zero,List.nil_append,Nat.zero_add]
  rw[<-this,List.drop_left]
 | y ::l,xs,k+1,x,⟨c,r,h1,h2,h3⟩,hk=>by
  simp only[List.getElem?_cons_succ] at hk
  obtain ⟨ecs,h4,h5,h6⟩:=tabRel_get h3 hk
  subst h1
  have hc:=odat_len h2
  refine ⟨ecs,h4,?_,by rw[List.length_append,hc,Nat.add_mul];omega⟩
  have e1:(k+1)*s.size=c.length+k*s.size:=by rw[Nat.add_mul,hc];omega
  have e2:(k+1)*s.size+s.size=c.length+(k*s.size+s.size):=by omega
  rw[e2,e1,List.take_length_add_append,List.drop_length_add_append,List.append_assoc,List.append_assoc]
  congr 1
  rw[<-List.append_assoc]
  exact h5
theorem tabRel_at {q:Nat} {s:Sh} {l:List s.T} {xs:List Value} {k:Nat} {x:s.T} (h:TabRel E q s l xs) (hk:l[k]?=some x):∃ecs,ODat E q s x ecs/\∀j v,ecs[j]?=some v->xs[k*s.size+j]?=some v:=by
 obtain ⟨ecs,h1,h2,h3⟩:=tabRel_get h hk
 refine ⟨ecs,h1,fun j v hj=>?_⟩
 have hl:=odat_len h1
 have hjl:=(List.getElem?_eq_some_iff.1 hj).1
 rw[h2,List.append_assoc,List.getElem?_append_right (by simp;omega),List.getElem?_append_left (by simp;omega)]
 simp only[List.length_take]
 rw[show k*s.size+j - min (k*s.size) xs.length=j by omega]
 exact hj
theorem tabRel_set {q:Nat} {s:Sh}:∀{l:List s.T} {xs:List Value} {k:Nat} {y:s.T} {ecs:List Value},TabRel E q s l xs->k<l.length->ODat E q s y ecs->TabRel E q s (l.set k y) (xs.take (k*s.size)++ecs++xs.drop (k*s.size+s.size))
 | [],_,k,_,_,_,hk,_=>by simp at hk
 | z ::l,xs,0,y,ecs,⟨c,r,h1,h2,h3⟩,_,hy=>by
  subst h1
  have:=odat_len h2
  simp only[Nat.zero_mul,List.take_zero,List.nil_append,Nat.zero_add,List.set_cons_zero]
  rw[<-this,List.drop_left]
  exact ⟨ecs,r,rfl,hy,h3⟩
 | z ::l,xs,k+1,y,ecs,⟨c,r,h1,h2,h3⟩,hk,hy=>by
  subst h1
  have hc:=odat_len h2
  have ih:=tabRel_set h3 (by simpa using hk) hy
  have e1:(k+1)*s.size=c.length+k*s.size:=by rw[Nat.add_mul,hc];omega
  have e2:(k+1)*s.size+s.size=c.length+(k*s.size+s.size):=by omega
  rw[e2,e1,List.take_length_add_append,List.drop_length_add_append,List.set_cons_succ]
  exact ⟨c,_,by simp,h2,ih⟩
theorem odat_to {E E':Env} {q p:Nat} {f:Nat->Nat} (hι:∀i,i<E.ν q->E'.ι p i=E.ι q i) (hν:E.ν q<=E'.ν p) (hd:∀(s:Sh) (z:s.T) (cs:List Value),Dat E.w E.Z s z cs->Dat E'.w E'.Z s z cs):∀{s:Sh} {x:s.T} {cs:List Value},ODat E q s x cs->ODat E' p s x cs
 | .ref,i,cs,⟨h1,h2,h3⟩=>by
  simp only[ODat]
  rw[hι i h2]
  exact ⟨h1,Nat.lt_of_lt_of_le h2 hν,h3⟩
 | .pair a b,x,cs,h=>by
  simp only[ODat] at h ⊢
  obtain ⟨c1,c2,h0,h1,h2⟩:=h
  exact ⟨c1,c2,h0,odat_to (f:=f) hι hν hd h1,odat_to (f:=f) hι hν hd h2⟩
 | .agg e,x,cs,h=>odat_to (f:=f) (s:=e) (x:=x) hι hν hd h
 | .int _,_,_,h=>hd _ _ _ h
 | .bool,_,_,h=>hd _ _ _ h
 | .str,_,_,h=>hd _ _ _ h
 | .sl _,_,_,h=>hd _ _ _ h
theorem tabRel_to {E E':Env} {q p:Nat} (hι:∀i,i<E.ν q->E'.ι p i=E.ι q i) (hν:E.ν q<=E'.ν p) (hd:∀(s:Sh) (z:s.T) (cs:List Value),Dat E.w E.Z s z cs->Dat E'.w E'.Z s z cs) {s:Sh}:∀{l:List s.T} {xs:List Value},TabRel E q s l xs->TabRel E' p s l xs
 | [],_,h=>h
 | _ ::_,_,⟨c,r,h1,h2,h3⟩=>⟨c,r,h1,odat_to (f:=id) hι hν hd h2,tabRel_to hι hν hd h3⟩
theorem indexVal_ok {t et:TypeId} {x y:Operand} {k:IntKind} {i:Int} {q n cap sz:Nat} {s:At} (ho:o.op=.indexAddr t x y) (hx:a.eval x=.slice (some ⟨q,0,none⟩) n cap) (hy:RelV E (.c false [.v (.int k i)]) (a.eval y))
  (ht:elemT P t=some et) (hz:sizeT P et=some sz) (hm:Mod N E a g) (hp:0<=i/\i<n) (hs:RelA E s (.pointer (some ⟨q,i.toNat*sz+0,none⟩))) {p:List Bool}:CoreOk P N g E a o ⟨.c false [s],.none,p⟩:=by
 have hyv:=toV_rel (x:=.int k i) rfl hy
 have hu:=elemT_eq ht
 refine CoreOk.value (E':=E) (v:=.pointer (some ⟨q,i.toNat*sz+0,none⟩)) ?_ rfl (Keep.refl E) hm ⟨[_],rfl,⟨hs,trivial⟩,fun _=>rfl⟩
 simp[execOp,ho,hx,hyv,Instr.indexAt,asIntOf,run_underlying hu,hp.1,hp.2,run_sizeOf hz,add_lit]
theorem lenVal_ok {x:Operand} {t:TypeId} {et:TypeId} {ts:Array TypeId} {A:Option Addr} {n c:Nat} {p:List Bool} (ho:o.op=.call { callee:=.builtin .len,args:=#[x],argTypes:=ts }) (hts:ts[0]?=some t) (ht:elemT P t=some et)
  (hx:a.eval x=.slice A n c) (hm:Mod N E a g):CoreOk P N g E a o ⟨.c false [.v (.int .i64 n)],.none,p⟩:=by
 have hu:=elemT_eq ht
 refine CoreOk.value (E':=E) (v:=.int .i64 n) ?_ rfl (Keep.refl E) hm ⟨[_],rfl,⟨rfl,trivial⟩,fun _=>rfl⟩
 simp[execOp,ho,resolve,invoke,builtin,Builtin.len_,hx,hts,run_underlying hu,goInt]
theorem loadVal_ok {t:TypeId} {x:Operand} {l:List At} {cs:List Value} {off q at_:Nat} {s:SV} {p:List Bool} (ho:o.op=.load t x) (hx:a.eval x=.pointer (some ⟨q,at_+off,none⟩)) (hs:partC P t l off=some s) (hr:RelL E l cs)
  (hc:∀j u,cs[j]?=some u->E.w.cell? ⟨q,at_+j,none⟩=some u) (hm:Mod N E a g):CoreOk P N g E a o ⟨s,.none,p⟩:=by
 obtain ⟨v,hrun,hrel⟩:=partC_run hs hr (ad:=⟨q,at_,none⟩) E.w (fun j u hj=>by rw[add_lit];exact hc j u hj)
 refine CoreOk.value (E':=E) (v:=v) ?_ rfl (Keep.refl E) hm hrel
 rw[add_lit] at hrun
 simp[execOp,ho,hx,Instr.loadAt,Instr.sureAddr,hrun]
theorem cell_of_take {w:World} {q:Nat} {cur:Array Value} {t:TypeId} {n k:Nat} {xs:List Value} {u:Value} (h3:w.heap[q]?=some (.cells cur t (0,0))) (h7:cur.toList.take n=xs) (hu:xs[k]?=some u):w.cell? ⟨q,k,none⟩=some u:=by
 rw[<-h7,List.getElem?_take] at hu
 split at hu
 ·simp only[World.cell?,h3]
  simpa using hu
 ·cases hu
end
section
variable {P:Program} {N:Nat} {g:Look} {E:Env} {a:Act} {o:Oper}
def indexTC (P:Program) (get:Operand->Option SV) (rk:Rk) (t:TypeId) (x y:Operand):Option Core:=match get x,get y,elemT P t with
 | some (.c false [.row q]),some (.c false [.v (.int _ i)]),some et=>match rk q,sizeT P et with
  | some (.x (.tab _ s l _ _ _)),some n=>match Nat.beq n s.size with
   | true=>some ⟨.c false [.re q i.toNat s.size 0],.none,[inB i l.length]⟩
   | false=>none
  | _,_=>none
 | some (.c false [.ir q id]),some (.c false [.v (.int _ i)]),some et=>match rk q,sizeT P et with
  | some (.x (.tab _ _ _ _ e a)),some n=>match Nat.beq n e.size with
   | true=>some ⟨.c false [.ie q id i.toNat e.size 0],.none,[inB i (rowD a id).length]⟩
   | false=>none
  | _,_=>none
 | _,_,_=>none
theorem indexTC_ok {get:Operand->Option SV} {rk:Rk} {t:TypeId} {x y:Operand} {r:Core} (ho:o.op=.indexAddr t x y) (h:indexTC P get rk t x y=some r) (hp:allB r.p=true) (hg:Gets E a get o) (hm:Mod N E a g) (hrx:∀i x,rk i=some (.x x)->g.r i=some (.x x)):CoreOk P N g E a o r:=by
 have hop:x ∈ o.op.operands/\y ∈ o.op.operands:=by rw[ho];simp[Op.operands]
 unfold indexTC at h
 split at h
 ·rename_i q k i et hx hy ht
  split at h
  ·rename_i t' s l ti e ar n hl hz
   split at h
   ·rename_i hn
    have hn:n=s.size:=by simpa using hn
    subst hn
    injection h with h
    subst h
    have hp:0<=i/\i<l.length:=inB_iff.1 hp
    obtain ⟨cs,hv,hr,_⟩:=(hg x _ hop.1 hx:RelC E false _ _)
    match cs,hr with
    | [v],hr =>
    obtain ⟨⟨hv1,hR,_⟩,_⟩:=hr
    obtain ⟨_,⟨xs,h1,h2⟩,_⟩:=hm.xs q _ (hrx _ _ hl)
    obtain ⟨b,cap,cur,f1,_⟩:=ownsRow_form h1 (by omega)
    exact indexVal_ok (s:=.re q i.toNat s.size 0) ho (by rw[hv];exact hv1.trans f1) (hg y _ hop.2 hy) ht hz hm hp ⟨b,by rw[f1];rfl,rfl,hR⟩
   ·cases h
  ·cases h
 ·rename_i q id k i et hx hy ht
  split at h
  ·rename_i t' s l ti e ar n hl hz
   split at h
   ·rename_i hn
    have hn:n=e.size:=by simpa using hn
    subst hn
    injection h with h
    subst h
    have hp:0<=i/\i<(rowD ar id).length:=inB_iff.1 hp
    obtain ⟨cs,hv,hr,_⟩:=(hg x _ hop.1 hx:RelC E false _ _)
    match cs,hr with
    | [v],hr =>
    obtain ⟨⟨hv1,hR,hi,_⟩,_⟩:=hr
    obtain ⟨_,_,_,_,h5,_⟩:=hm.xs q _ (hrx _ _ hl)
    obtain ⟨⟨ys,h1,h2⟩,_⟩:=h5 id _ (rowD_get (by omega))
    obtain ⟨b,cap,cur,f1,_⟩:=ownsRow_form h1 (by omega)
    exact indexVal_ok (s:=.ie q id i.toNat e.size 0) ho (by rw[hv];exact hv1.trans f1) (hg y _ hop.2 hy) ht hz hm hp ⟨b,by rw[f1];rfl,rfl,hR,hi⟩
   ·cases h
  ·cases h
 ·cases h
def fieldTC (P:Program) (get:Operand->Option SV) (t:TypeId) (x:Operand) (f:Nat):Option Core:=match get x,fieldT P t f with
 | some (.c false [.ie q id j sz off]),some d=>some ⟨.c false [.ie q id j sz (off+d)],.none,[]⟩
 | _,_=>none
theorem fieldTC_ok {get:Operand->Option SV} {t:TypeId} {x:Operand} {f:Nat} {r:Core} (ho:o.op=.fieldAddr t x f) (h:fieldTC P get t x f=some r) (hg:Gets E a get o) (hm:Mod N E a g):CoreOk P N g E a o r:=by
 have hop:x ∈ o.op.operands:=by rw[ho];simp[Op.operands]
 unfold fieldTC at h
 split at h
 ·rename_i q id j sz off d hx hf
  injection h with h
  subst h
  obtain ⟨cs,hv,hr,_⟩:=(hg x _ hop hx:RelC E false _ _)
  match cs,hr with
  | [v],hr =>
  obtain ⟨⟨b,h1,h2,h3,h4⟩,_⟩:=hr
  refine CoreOk.value (E':=E) (v:=.pointer (some ⟨b,j*sz+(off+d),none⟩)) ?_ rfl (Keep.refl E) hm ⟨[_],rfl,⟨⟨b,h1,rfl,h3,h4⟩,trivial⟩,fun _=>rfl⟩
  simp[execOp,ho,hv,mkV,h2,run_fieldAt hf,add_lit,Nat.add_assoc]
 ·cases h
def lenTC (P:Program) (get:Operand->Option SV) (rk:Rk) (x:Operand) (ts:Array TypeId):Option Core:=match ts[0]?,get x with
 | some t,some (.c false [.row q])=>match elemT P t,rk q with
  | some _,some (.x (.tab _ _ l _ _ _))=>some ⟨.c false [.v (.int .i64 l.length)],.none,[]⟩
  | _,_=>none
 | some t,some (.c false [.ir q id])=>match elemT P t,rk q with
  | some _,some (.x (.tab _ _ _ _ _ a))=>some ⟨.c false [.v (.int .i64 (rowD a id).length)],.none,[liveB a id]⟩
  | _,_=>none
 | _,_=>none
theorem lenTC_ok {get:Operand->Option SV} {rk:Rk} {x:Operand} {ts:Array TypeId} {r:Core} (ho:o.op=.call { callee:=.builtin .len,args:=#[x],argTypes:=ts }) (h:lenTC P get rk x ts=some r) (hp:allB r.p=true) (hg:Gets E a get o) (hm:Mod N E a g) (hrx:∀i x,rk i=some (.x x)->g.r i=some (.x x)):CoreOk P N g E a o r:=by
 have hop:x ∈ o.op.operands:=by rw[ho];simp[Op.operands,Call.operands]
 unfold lenTC at h
 split at h
 ·rename_i t q hts hx
  split at h
  ·rename_i et _ _ l _ _ _ ht hl
   injection h with h
   subst h
   obtain ⟨cs,hv,hr,_⟩:=(hg x _ hop hx:RelC E false _ _)
   match cs,hr with
   | [v],hr =>
   obtain ⟨⟨hv1,hR,_⟩,_⟩:=hr
   obtain ⟨_,⟨xs,h1,h2⟩,_⟩:=hm.xs q _ (hrx _ _ hl)
   obtain ⟨A,c,f1⟩:=ownsRow_slice h1
   exact lenVal_ok ho hts ht (by rw[hv];exact hv1.trans f1) hm
  ·cases h
 ·rename_i t q id hts hx
  split at h
  ·rename_i et _ _ l _ _ ar ht hl
   injection h with h
   subst h
   obtain ⟨cs,hv,hr,_⟩:=(hg x _ hop hx:RelC E false _ _)
   match cs,hr with
   | [v],hr =>
   obtain ⟨⟨hv1,hR,_⟩,_⟩:=hr
   obtain ⟨_,_,_,_,h5,_⟩:=hm.xs q _ (hrx _ _ hl)
   obtain ⟨⟨ys,h1,h2⟩,_⟩:=h5 id _ (liveB_get hp)
   obtain ⟨A,c,f1⟩:=ownsRow_slice h1
   exact lenVal_ok ho hts ht (by rw[hv];exact hv1.trans f1) hm
  ·cases h
 ·cases h
def loadTC (P:Program) (get:Operand->Option SV) (rk:Rk) (t:TypeId) (x:Operand):Option Core:=match get x with
 | some (.c false [.re q i sz off])=>match rk q with
  | some (.x (.tab _ s l _ _ _))=>match Nat.beq sz s.size,partC P t (ocells q s (l.getD i s.dflt)) off with
   | true,some sv=>some ⟨sv,.none,[Nat.blt i l.length]⟩
   | _,_=>none
  | _=>none
 | some (.c false [.ie q id j sz off])=>match rk q with
  | some (.x (.tab _ _ _ _ e a))=>match Nat.beq sz e.size,partC P t (e.cells ((rowD a id).getD j e.dflt)) off with
   | true,some sv=>some ⟨sv,.none,[Nat.blt j (rowD a id).length]⟩
   | _,_=>none
  | _=>none
 | _=>none
theorem blt_iff {i n:Nat}:Nat.blt i n=true↔i<n:=by simp only[Nat.blt,Nat.ble_eq];omega
theorem loadTC_ok {get:Operand->Option SV} {rk:Rk} {t:TypeId} {x:Operand} {r:Core} (ho:o.op=.load t x) (h:loadTC P get rk t x=some r) (hp:allB r.p=true) (hg:Gets E a get o) (hm:Mod N E a g) (hrx:∀i x,rk i=some (.x x)->g.r i=some (.x x)):CoreOk P N g E a o r:=by
 have hop:x ∈ o.op.operands:=by rw[ho];simp[Op.operands]
 unfold loadTC at h
 split at h
 ·rename_i q i sz off hx
  split at h
  ·rename_i t' s l ti e ar hl
   split at h
   ·rename_i sv hn hs
    have hn:sz=s.size:=by simpa using hn
    subst hn
    injection h with h
    subst h
    have hp:i<l.length:=blt_iff.1 hp
    obtain ⟨cs,hv,hr,_⟩:=(hg x _ hop hx:RelC E false _ _)
    match cs,hr with
    | [v],hr =>
    obtain ⟨⟨b',h1',hv1,hR⟩,_⟩:=hr
    obtain ⟨_,⟨xs,h1,h2⟩,_⟩:=hm.xs q _ (hrx _ _ hl)
    obtain ⟨b,cap,cur,f1,f2,f3,f4,f5,f6,f7⟩:=ownsRow_form h1 (by omega)
    rw[f1] at h1'
    simp only[Value.ownBlock,Option.some.injEq] at h1'
    subst h1'
    have hget:l[i]?=some (l.getD i s.dflt):=by simp[List.getD,List.getElem?_eq_getElem hp]
    obtain ⟨ecs,g1,g2⟩:=tabRel_at h2 hget
    exact loadVal_ok ho (by rw[hv];exact hv1) hs (odat_rel hR g1) (fun j u hj=>cell_of_take f3 f7 (g2 j u hj)) hm
   ·cases h
  ·cases h
 ·rename_i q id j sz off hx
  split at h
  ·rename_i t' s l ti e ar hl
   split at h
   ·rename_i sv hn hs
    have hn:sz=e.size:=by simpa using hn
    subst hn
    injection h with h
    subst h
    have hp:j<(rowD ar id).length:=blt_iff.1 hp
    obtain ⟨cs,hv,hr,_⟩:=(hg x _ hop hx:RelC E false _ _)
    match cs,hr with
    | [v],hr =>
    obtain ⟨⟨b',h1',hv1,hR,hi⟩,_⟩:=hr
    obtain ⟨_,_,_,_,h5,_⟩:=hm.xs q _ (hrx _ _ hl)
    obtain ⟨⟨ys,h1,h2⟩,_⟩:=h5 id _ (rowD_get (by omega))
    obtain ⟨b,cap,cur,f1,f2,f3,f4,f5,f6,f7⟩:=ownsRow_form h1 (by omega)
    rw[f1] at h1'
    simp only[Value.ownBlock,Option.some.injEq] at h1'
    subst h1'
    have hget:(rowD ar id)[j]?=some ((rowD ar id).getD j e.dflt):=by simp[List.getD,List.getElem?_eq_getElem hp]
    obtain ⟨ecs,g1,g2⟩:=rowRel_at h2 hget
    exact loadVal_ok ho (by rw[hv];exact hv1) hs g1.rel (fun k u hk=>cell_of_take f3 f7 (g2 k u hk)) hm
   ·cases h
  ·cases h
 ·cases h
theorem inner_mod (hm:Mod N E a g) {q:Nat} {t:TypeId} {s:Sh} {l:List s.T} {ti:TypeId} {e:Sh} {ar:List (Option (List e.T))} (hq:g.r q=some (.x (.tab t s l ti e ar))) {id:Nat} {row row':List e.T} (hid:ar[id]?=some (some row)) {b:Nat} (hb:(E.ι q id).ownBlock=some b)
  {w':World} (hk:∀k,k≠b->w'.heap[k]?=E.w.heap[k]?) (hos:w'.os=E.w.os) (htp:w'.tape=E.w.tape) (hop:w'.output=E.w.output) (hsz:w'.heap.size=E.w.heap.size)
  (hown:∃ys,w'.ownsRow E.w0.heap.size ti e.size (E.ι q id) row'.length ys/\RowRel w' E.Z e row' ys) :
  Mod N (E.xput q (E.ρ q) w' (E.φ q) (E.ι q) (E.ν q)) a (g.app (.xset q (.tab t s l ti e (ar.set id (some row'))) []))/\Keep E (E.xput q (E.ρ q) w' (E.φ q) (E.ι q) (E.ν q)):=by
 obtain ⟨hR,⟨xs,h1,h2⟩,h3,h4,h5,h6⟩:=hm.xs q _ hq
 have hf:E.φ q b:=((h5 id row hid).2.2 b hb).1
 have hz:¬ E.Z b:=(hm.glob.xg.own q _ b hq hf).2.2.1
 have hdat:∀(s:Sh) (z:s.T) (cs:List Value),Dat E.w E.Z s z cs->Dat w' E.Z s z cs:=fun s z cs hd=>Dat.mono (fun _ h=>h) (fun k hkz=>hk k fun e=>hz (by rw[<-e];exact hkz)) hd
 refine xset_mod hm (.inr ⟨⟨_,hq⟩,rfl,fun _ h=>h,Nat.le_refl _,fun _ _=>rfl⟩) (by simp) (fun c hc=>.inr (.inl ⟨⟨_,hq⟩,hc⟩)) (fun c hc hn=>hk c fun e=>hn (.inl ⟨⟨_,hq⟩,by rw[e];exact hf⟩)) hos htp hop (by rw[hsz];exact Nat.le_refl _) ?_
 have eι:(E.xput q (E.ρ q) w' (E.φ q) (E.ι q) (E.ν q)).ι q=E.ι q:=by simp[Env.xput]
 have eρ:(E.xput q (E.ρ q) w' (E.φ q) (E.ι q) (E.ν q)).ρ q=E.ρ q:=by simp[Env.xput]
 have eφ:(E.xput q (E.ρ q) w' (E.φ q) (E.ι q) (E.ν q)).φ q=E.φ q:=by simp[Env.xput]
 have eν:(E.xput q (E.ρ q) w' (E.φ q) (E.ι q) (E.ν q)).ν q=E.ν q:=by simp[Env.xput]
 have old:∀i l1,(ar.set id (some row'))[i]?=some (some l1)->∃l2,ar[i]?=some (some l2):=fun i l1 hi=>by
  rw[List.getElem?_set] at hi
  split at hi
  ·rename_i e;subst e;exact ⟨row,hid⟩
  ·exact ⟨l1,hi⟩
 refine ⟨.inr rfl,⟨xs,?_,tabRel_to (E:=E) (fun i _=>by rw[eι]) (by rw[eν];exact Nat.le_refl _) hdat h2⟩,?_,?_,fun i l1 hi=>?_,fun i j l1 l2 c hi hj hc hc'=>?_⟩
 ·rw[eρ]
  exact ownsRow_same h1 fun c hc=>hk c fun e=>(h5 id row hid).2.2 b hb |>.2 (by rw[<-e];exact hc)
 ·intro c hc
  rw[eρ] at hc;rw[eφ]
  exact h3 c hc
 ·rw[eν,List.length_set];exact h4
 ·unfold InnOk
  rw[eι,eρ,eφ]
  by_cases e:i=id
  ·subst e
   rw[List.getElem?_set_self (List.getElem?_eq_some_iff.1 hid).1] at hi
   injection hi with hi
   injection hi with hi
   subst hi
   exact ⟨hown,(h5 i row hid).2⟩
  ·rw[List.getElem?_set_ne (Ne.symm e)] at hi
   obtain ⟨⟨ys,g1,g2⟩,g3⟩:=h5 i l1 hi
   exact ⟨⟨ys,ownsRow_same g1 fun c hc=>hk c fun e'=>e (h6 i id l1 row c hi hid hc (by rw[e'];exact hb)),RowRel.mono (fun _ h=>h) (fun k hkz=>hk k fun e=>hz (by rw[<-e];exact hkz)) g2⟩,g3⟩
 ·rw[eι] at hc hc'
  obtain ⟨k1,hk1⟩:=old i l1 hi
  obtain ⟨k2,hk2⟩:=old j l2 hj
  exact h6 i j k1 k2 c hk1 hk2 hc hc'
def storeIC (P:Program) (get:Operand->Option SV) (rk:Rk) (t:TypeId) (x y:Operand):Option Core:=match get x,get y with
 | some (.c false [.ie q id j sz off]),some (.c _ l')=>match rk q,sizeT P t with
  | some (.x (.tab tt s l ti e a)),some n=>match l'.all at1,Nat.beq l'.length n,Nat.ble (off+n) e.size,Nat.beq sz e.size,e.take ((e.cells ((rowD a id).getD j e.dflt)).take off++l'++(e.cells ((rowD a id).getD j e.dflt)).drop (off+l'.length)) with
   | true,true,true,true,some (z,[])=>some ⟨.c false [.u],.xset q (.tab tt s l ti e (a.set id (some ((rowD a id).set j z)))) [],[Nat.blt j (rowD a id).length]⟩
   | _,_,_,_,_=>none
  | _,_=>none
 | _,_=>none
theorem storeIC_ok {get:Operand->Option SV} {rk:Rk} {t:TypeId} {x y:Operand} {r:Core} (ho:o.op=.store t x y) (h:storeIC P get rk t x y=some r) (hp:allB r.p=true) (hg:Gets E a get o) (hm:Mod N E a g) (hrx:∀i x,rk i=some (.x x)->g.r i=some (.x x)):CoreOk P N g E a o r:=by
 have hop:x ∈ o.op.operands/\y ∈ o.op.operands:=by rw[ho];simp[Op.operands]
 unfold storeIC at h
 split at h
 case h_2=>cases h
 rename_i q id j sz off ag l' hx hy
 split at h
 case h_2=>cases h
 rename_i tt s l ti e ar n hl hz
 split at h
 case h_2=>cases h
 rename_i z hl1 hn hfit hsz hw
 have hsz:sz=e.size:=by simpa using hsz
 subst hsz
 injection h with h
 subst h
 have hp:j<(rowD ar id).length:=blt_iff.1 hp
 have hq:=hrx _ _ hl
 have hid:ar[id]?=some (some (rowD ar id)):=rowD_get (by omega)
 obtain ⟨cs,hv,hrl,_⟩:=(hg x _ hop.1 hx:RelC E false _ _)
 obtain ⟨vs,hv',hr',h1'⟩:=(hg y _ hop.2 hy:RelC E ag _ _)
 have hone:=ats1_one hl1 hr'
 simp only[Nat.beq_eq] at hn
 simp only[Nat.ble_eq] at hfit
 have hlen:=hr'.length
 match cs,hrl with
 | [p],hrl =>
 obtain ⟨⟨b',g1',hp',hR,hi⟩,_⟩:=hrl
 obtain ⟨_,_,_,_,h5,_⟩:=hm.xs q _ hq
 obtain ⟨⟨xs,k1,k2⟩,_,k4⟩:=h5 id _ hid
 have kall:=k1
 obtain ⟨b,cap,cur,f1,f2,f3,f4,f5,f6,f7⟩:=ownsRow_form k1 (by omega)
 rw[f1] at g1'
 simp only[Value.ownBlock,Option.some.injEq] at g1'
 subst g1'
 have hbb:(E.ι q id).ownBlock=some b:=by rw[f1];rfl
 have hf:=(k4 b hbb).1
 have hzb:¬ E.Z b:=(hm.glob.xg.own q _ b hq hf).2.2.1
 have hget:(rowD ar id)[j]?=some ((rowD ar id).getD j e.dflt):=by simp[List.getD,List.getElem?_eq_getElem hp]
 obtain ⟨ecs,e1,e2,e3⟩:=rowRel_get k2 hget
 have hel:=e1.len
 have hxl:=rowRel_len k2
 have hcap:(rowD ar id).length*e.size<=cur.size:=by rw[f6];exact Nat.mul_le_mul_right _ f4
 have hst:=run_storeCells_at P b (j*e.size+off) ti vs 0 cur E.w f3 (by omega) hone
 simp only[Nat.add_zero] at hst
 obtain ⟨c1,c2,hc,hd,hc2⟩:=take_rel hw (((e1.rel.take off).append hr').append (e1.rel.drop _))
 have hc2:c2=[]:=by
  match c2,hc2 with
  | [],_=>rfl
 subst hc2
 rw[List.append_nil,hlen] at hc
 subst hc
 have hxs:xs.take (j*e.size+off)++vs++xs.drop (j*e.size+off+vs.length)=xs.take (j*e.size)++(ecs.take off++vs++ecs.drop (off+vs.length))++xs.drop (j*e.size+e.size):=by
  have hA:(xs.take (j*e.size)).length=j*e.size:=by simp;omega
  have:=seg_set (xs.take (j*e.size)) ecs (xs.drop (j*e.size+e.size)) vs off (by omega)
  rw[<-e2,hA] at this
  exact this
 have hzone:∀k,E.Z k->(E.w.setRow b (cur.toList.take (j*e.size+off)++vs++cur.toList.drop (j*e.size+off+vs.length)).toArray).heap[k]?=E.w.heap[k]?:=fun k hk=>setRow_other E.w b k _ fun e'=>hzb (e' ▸ hk)
 have hown:∃xs',(E.w.setRow b (cur.toList.take (j*e.size+off)++vs++cur.toList.drop (j*e.size+off+vs.length)).toArray).ownsRow E.w0.heap.size ti e.size (E.ι q id) ((rowD ar id).set j z).length xs'/\RowRel (E.w.setRow b (cur.toList.take (j*e.size+off)++vs++cur.toList.drop (j*e.size+off+vs.length)).toArray) E.Z e ((rowD ar id).set j z) xs':=by
  refine ⟨xs.take (j*e.size)++(ecs.take off++vs++ecs.drop (off+vs.length))++xs.drop (j*e.size+e.size),⟨?_,.inr ⟨b,cap,_,by rw[f1];simp,f2,setRow_heap E.w _ _ _ ti (0,0) f3,by simpa using f4,f5,?_,?_⟩⟩,?_⟩
  ·rw[<-hxs]
   simp only[List.length_append,List.length_take,List.length_drop,List.length_set]
   omega
  ·simp only[List.size_toArray,List.length_append,List.length_take,List.length_drop,Array.length_toList]
   omega
  ·rw[<-hxs,<-f7]
   simp only[List.length_set]
   have hin:j*e.size+off+vs.length<=(rowD ar id).length*e.size:=by omega
   rw[List.take_append,List.take_of_length_le (by simp;omega)]
   have e1:List.take (j*e.size+off) (List.take ((rowD ar id).length*e.size) cur.toList)=cur.toList.take (j*e.size+off):=by
    rw[List.take_take];congr 1;omega
   rw[e1,List.drop_take]
   congr 2
   simp only[List.length_append,List.length_take,Array.length_toList]
   omega
  ·refine RowRel.mono (fun _ h=>h) hzone ?_
   exact rowRel_set k2 hp hd
 obtain ⟨m1,m2⟩:=inner_mod hm hq hid hbb (row':=(rowD ar id).set j z) (fun k hk=>setRow_other E.w _ k _ hk) rfl rfl rfl (by simp[World.setRow]) hown
 refine CoreOk.skip (E':=E.xput q (E.ρ q) (E.w.setRow b (cur.toList.take (j*e.size+off)++vs++cur.toList.drop (j*e.size+off+vs.length)).toArray) (E.φ q) (E.ι q) (E.ν q)) ?_ rfl m2 m1 ⟨[undef],rfl,⟨trivial,trivial⟩,fun _=>rfl⟩
 have hszv:vs.length=n:=by omega
 have hv0:a.eval x=.pointer (some ⟨b,j*e.size+off,none⟩):=by rw[hv,hp'];rfl
 simp only[execOp,ho,hv0,hv',Instr.storeAt,Instr.sureAddr,storeVar,pure_bind,Sem.run_bind,run_sizeOf hz,Result.andThen_ok]
 have hc:=cells_mkV h1' hone
 simp only[hc,List.size_toArray,hszv,ne_eq,not_true_eq_false,if_false]
 simp[hst,Env.xput,hszv]
end
def shS (n:Nat):(s:Sh)->s.T->s.T
 | .ref,i=>n+i
 | .pair a b,x=>(shS n a x.1,shS n b x.2)
 | .agg e,x=>shS n e x
 | .int _,x=>x
 | .bool,x=>x
 | .str,x=>x
 | .sl _,x=>x
section
variable {P:Program} {N:Nat} {g:Look} {E:Env} {a:Act} {o:Oper}
theorem odat_shift {E E':Env} {q p n:Nat} (hι:∀i,i<E.ν q->E'.ι p (n+i)=E.ι q i) (hν:n+E.ν q<=E'.ν p) (hd:∀(s:Sh) (z:s.T) (cs:List Value),Dat E.w E.Z s z cs->Dat E'.w E'.Z s z cs):∀{s:Sh} {x:s.T} {cs:List Value},ODat E q s x cs->ODat E' p s (shS n s x) cs
 | .ref,i,cs,⟨h1,h2,h3⟩=>by
  simp only[ODat,shS]
  rw[hι i h2]
  exact ⟨h1,Nat.lt_of_lt_of_le (Nat.add_lt_add_left h2 n) hν,h3⟩
 | .pair a b,x,cs,h=>by
  simp only[ODat] at h ⊢
  obtain ⟨c1,c2,h0,h1,h2⟩:=h
  exact ⟨c1,c2,h0,odat_shift hι hν hd h1,odat_shift hι hν hd h2⟩
 | .agg e,x,cs,h=>odat_shift (s:=e) (x:=x) hι hν hd h
 | .int _,_,_,h=>hd _ _ _ h
 | .bool,_,_,h=>hd _ _ _ h
 | .str,_,_,h=>hd _ _ _ h
 | .sl _,_,_,h=>hd _ _ _ h
theorem tabRel_shift {E E':Env} {q p n:Nat} (hι:∀i,i<E.ν q->E'.ι p (n+i)=E.ι q i) (hν:n+E.ν q<=E'.ν p) (hd:∀(s:Sh) (z:s.T) (cs:List Value),Dat E.w E.Z s z cs->Dat E'.w E'.Z s z cs) {s:Sh}:∀{l:List s.T} {xs:List Value},TabRel E q s l xs->TabRel E' p s (l.map (shS n s)) xs
 | [],_,h=>h
 | _ ::_,_,⟨c,r,h1,h2,h3⟩=>⟨c,r,h1,odat_shift hι hν hd h2,tabRel_shift hι hν hd h3⟩
def buildXC (tb:TypeId->Bool) (P:Program) (get:Operand->Option SV) (rk:Rk) (b:Nat) (t:TypeId) (n:Nat) (ps:Array (Nat×Operand)):Option Core:=match tb t,n,ps.toList,rk b with
 | true,1,[(0,x)],none=>match get x,elemT P t with
  | some (.c false [.row r]),some et=>match rk r,elemT P et,sizeT P et,zeroV P et with
   | some (.some ri),some ti,some 1,some _=>match Nat.beq ri.t ti with
    | true=>some ⟨.c false [.row b],.xset b (.tab et .ref [(0:Nat)] ri.t ri.e [some ri.l]) [r],[]⟩
    | false=>none
   | _,_,_,_=>none
  | _,_=>none
 | _,_,_,_=>none
theorem buildXC_ok {tb:TypeId->Bool} {get:Operand->Option SV} {rk:Rk} {b:Nat} {t:TypeId} {n:Nat} {ps:Array (Nat×Operand)} {r:Core} (ho:o.op=.buildSlice t n ps) (h:buildXC tb P get rk b t n ps=some r) (hg:Gets E a get o) (hm:Mod N E a g) (hrk:∀i r,rk i=some r->g.r i=some r) (hb:rk b=none->g.r b=none):CoreOk P N g E a o r:=by
 unfold buildXC at h
 split at h
 case h_2=>cases h
 rename_i x _ hps hbn
 split at h
 case h_2=>cases h
 rename_i q et hx ht
 split at h
 case h_2=>cases h
 rename_i ri ti _ hl ht2 hz hzv
 split at h
 case h_2=>cases h
 injection h with h
 subst h
 have hps:ps=#[(0,x)]:=by rw[<-Array.toArray_toList (xs:=ps),hps]
 subst hps
 have hop:x ∈ o.op.operands:=by rw[ho];simp[Op.operands]
 obtain ⟨cs,hv,hr,_⟩:=(hg x _ hop hx:RelC E false _ _)
 match cs,hr with
 | [v],hr =>
 obtain ⟨⟨hv1,hR,hone⟩,_⟩:=hr
 have hxv:a.eval x=E.ρ q:=by rw[hv];exact hv1
 have hone:(E.ρ q).oneCell'=true:=by rw[<-hv1];exact hone
 have hq:=hrk _ _ hl
 obtain ⟨_,xs,h1,h2,h3⟩:=hm.rows q ri hq
 have hcells:(E.ρ q).cells=#[E.ρ q]:=cells_mkV (ag:=false) (cs:=[E.ρ q]) (fun _=>rfl) (fun u hu=>by rw[List.mem_singleton.1 hu];exact hone)
 have hnew:=heap_new E.w (.cells #[E.ρ q] et)
 have hsz:E.w.heap.size<(E.w.alloc (.cells #[E.ρ q] et)).heap.size:=by rw[World.size_alloc];omega
 have hlow:∀k,k<E.w.heap.size->(E.w.alloc (.cells #[E.ρ q] et)).heap[k]?=E.w.heap[k]?:=fun k hk=>heap_push E.w _ k hk
 have hne:q≠b:=fun e=>by rw[e,hb hbn] at hq;cases hq
 obtain ⟨m1,m2⟩:=xset_mod hm (k:=b) (x:=.tab et .ref [(0:Nat)] ri.t ri.e [some ri.l]) (u:=[q]) (w':=E.w.alloc (.cells #[E.ρ q] et)) (v:=.slice (some ⟨E.w.heap.size,0,none⟩) 1 1) (F:=fun c=>c=E.w.heap.size\/(E.ρ q).ownBlock=some c) (I:=fun _=>E.ρ q) (n:=1)
  (.inl (hb hbn)) (by simpa using (Ne.symm hne)) (fun c hc=>by
   rcases hc with hc | hc
   ·exact .inl ⟨by rw[hc];exact Nat.le_refl _,by rw[hc];exact hsz⟩
   ·exact .inr (.inr ⟨q,by simp,.inl ⟨ri,hq,hc⟩⟩)) (fun k hk _=>hlow k hk) rfl rfl rfl (Nat.le_of_lt hsz) (by
   refine ⟨.inr rfl,⟨[E.ρ q],⟨rfl,.inr ⟨E.w.heap.size,1,#[E.ρ q],by simp[Env.xput],hm.glob.below.size,hnew,Nat.le_refl _,by decide,rfl,rfl⟩⟩,⟨[E.ρ q],[],rfl,⟨by simp[Env.xput],by simp[Env.xput],by simpa [Env.xput] using hone⟩,rfl⟩⟩,fun c hc=>?_,by simp[Env.xput],fun i l' hi=>?_,fun i j l1 l2 c hi hj _ _=>?_⟩
   ·simp only[Env.xput,if_true] at hc ⊢
    simp only[Value.ownBlock,Option.some.injEq] at hc
    exact .inl hc.symm
   ·match i,hi with
    | 0,hi =>
     simp only[List.getElem?_cons_zero,Option.some.injEq] at hi
     subst hi
     unfold InnOk
     simp only[Env.xput,if_true]
     refine ⟨⟨xs,ownsRow_same h1 fun c hc=>hlow c (h1.lt c hc).2,RowRel.mono (fun _ h=>h) (fun c hc=>hlow c (hm.glob.zlt c hc)) h2⟩,hone,fun c hc=>⟨.inr hc,fun e=>?_⟩⟩
     simp only[Value.ownBlock,Option.some.injEq] at e
     have:=(h1.lt c hc).2
     omega
    | i+1,hi=>simp at hi
   ·match i,j,hi,hj with
    | 0,0,_,_=>rfl
    | i+1,_,hi,_=>simp at hi
    | 0,j+1,_,hj=>simp at hj)
 refine CoreOk.value (E':=E.xput b (.slice (some ⟨E.w.heap.size,0,none⟩) 1 1) (E.w.alloc (.cells #[E.ρ q] et)) (fun c=>c=E.w.heap.size\/(E.ρ q).ownBlock=some c) (fun _=>E.ρ q) 1) (v:=.slice (some ⟨E.w.heap.size,0,none⟩) 1 1) ?_ rfl m2 m1 ⟨[_],rfl,⟨⟨by simp[Env.xput],.inr rfl,rfl⟩,trivial⟩,fun _=>rfl⟩
 have hu:=elemT_eq ht
 have hfill:∀c0:Array Value,c0.size=1->Instr.fill (fun i=>some (i*1,1)) c0 [(0,E.ρ q)]=some #[E.ρ q]:=fun c0 hc0=>by
  have:=fill_seq 1 [E.ρ q] 0 c0 (fun u hu=>by rw[List.mem_singleton.1 hu,hcells];rfl) (by simp[hc0])
  simp only[List.zipIdx_cons,List.zipIdx_nil,List.map_cons,List.map_nil] at this
  have e:List.drop ((0+[E.ρ q].length)*1) c0.toList=[]:=List.drop_eq_nil_of_le (by simp[hc0])
  rw[this,e]
  simp[hcells]
 unfold zeroV at hzv
 split at hzv
 ·rename_i i hi
  simp only[execOp,ho,Instr.buildSlice,Sem.run_bind,run_underlying hu,Result.andThen_ok,run_sizeOf hz]
  rw[if_neg (by decide),if_neg (by decide)]
  simp only[Sem.run_bind,zeroValue,typeInfo]
  simp only[run_program,Result.andThen_ok,hi,hzv,Sem.run_pure]
  have hl:(Array.map (fun p:Nat×Operand=>(p.1,a.eval p.2)) #[(0,x)]).toList=[(0,E.ρ q)]:=by simp[hxv]
  rw[hl,hfill _ (by simp)]
  rfl
 ·cases hzv
def dstX (rk:Rk) (et:TypeId) (s:Sh) (ti:TypeId) (e:Sh):SV->Option (Option Nat×List s.T×List (Option (List e.T)))
 | .c false [.v (.slice none 0 0)]=>some (none,[],[])
 | .c false [.row q]=>match rk q with
  | some (.x y)=>match (XP.tab et s ti e).get y with
   | some z=>some (some q,z.1,z.2)
   | none=>none
  | _=>none
 | _=>none
theorem dstX_rel (hm:Mod N E a g) {rk:Rk} (hrx:∀i x,rk i=some (.x x)->g.r i=some (.x x)) {et:TypeId} {s:Sh} {ti:TypeId} {e:Sh} {v:SV} {old:Option Nat} {l:List s.T} {ar:List (Option (List e.T))} {y:Value} (p:Nat) (h:dstX rk et s ti e v=some (old,l,ar)) (hv:RelV E v y) :
  ∃(q:Nat) (F:Nat->Prop),(∃xs,E.w.ownsRow E.w0.heap.size et s.size y l.length xs/\TabRel E q s l xs)/\(∀c,y.ownBlock=some c->F c)/\(∀i,i<E.ν q->(i<ar.length/\old=some q)\/(ar.length=0/\q=p))/\(∀i l',ar[i]?=some (some l')->InnOk E q ti e i l'/\∀c,(E.ι q i).ownBlock=some c->F c/\y.ownBlock≠some c) /\
   (∀i j l1 l2 b,ar[i]?=some (some l1)->ar[j]?=some (some l2)->(E.ι q i).ownBlock=some b->(E.ι q j).ownBlock=some b->i=j)/\(∀c,F c->∃q',old=some q'/\(∃z,g.r q'=some (.x z))/\E.φ q' c)/\(∀q',old=some q'->q'=q/\ar.length=E.ν q/\∃z,g.r q'=some (.x z))/\(old=none->ar.length=0/\q=p):=by
 unfold dstX at h
 split at h
 ·simp only[Option.some.injEq,Prod.mk.injEq] at h
  obtain ⟨rfl,rfl,rfl⟩:=h
  have:=toV_rel (x:=.slice none 0 0) rfl hv
  subst this
  refine ⟨p,fun _=>False,⟨[],World.ownsRow_nil _ _ _ _,rfl⟩,fun c hc=>(by cases hc),fun i _=>.inr ⟨rfl,rfl⟩,fun i l' hi=>by simp at hi,fun i j l1 l2 b hi=>by simp at hi,fun c hc=>hc.elim,fun q' e=>(by cases e),fun _=>⟨rfl,rfl⟩⟩
 ·rename_i q
  split at h
  ·rename_i yx hl
   split at h
   ·rename_i z hz
    simp only[Option.some.injEq,Prod.mk.injEq] at h
    obtain ⟨rfl,rfl,rfl⟩:=h
    have hyx:=XP.get_mk hz
    subst hyx
    have hq:=hrx _ _ hl
    obtain ⟨cs,rfl,hr,_⟩:=hv
    match cs,hr with
    | [u],hr =>
    obtain ⟨⟨hu,_⟩,_⟩:=hr
    subst hu
    obtain ⟨_,⟨xs,h1,h2⟩,h3,h4,h5,h6⟩:=hm.xs q _ hq
    exact ⟨q,E.φ q,⟨xs,h1,h2⟩,h3,fun i hi=>.inl ⟨by omega,rfl⟩,fun i l' hi=>⟨h5 i l' hi,fun c hc=>⟨((h5 i l' hi).2.2 c hc).1,fun e=>((h5 i l' hi).2.2 c hc).2 e⟩⟩,h6,fun c hc=>⟨q,rfl,⟨_,hq⟩,hc⟩,fun q' e=>by injection e with e;subst e;exact ⟨rfl,h4,_,hq⟩,fun e=>(by cases e)⟩
   ·cases h
  ·cases h
 ·cases h
def appendXC (P:Program) (get:Operand->Option SV) (rk:Rk) (b:Nat) (xs:Array Operand) (ts:Array TypeId):Option Core:=match xs.toList,ts.toList,rk b with
 | [x,y],[t,t'],none=>match Nat.beq t t',elemT P t,get x,get y with
  | true,some et,some vx,some (.c false [.row p])=>match rk p,P.info? et with
   | some (.x (.tab t2 s l2 ti e a2)),some i=>match zeroV P et,Nat.beq i.size s.size&&Nat.ble 1 i.bytes&&Nat.beq t2 et,dstX rk et s ti e vx with
    | some z,true,some (none,l,a1)=>match Nat.beq z.cells.size s.size with
     | true=>some ⟨.c false [.row b],.xset b (.tab et s (l++l2.map (shS a1.length s)) ti e (a1++a2)) [p],[fitB (l.length+l2.length) i.bytes]⟩
     | false=>none
    | some z,true,some (some q,l,a1)=>match Nat.beq z.cells.size s.size&&!Nat.beq q p with
     | true=>some ⟨.c false [.row b],.xset b (.tab et s (l++l2.map (shS a1.length s)) ti e (a1++a2)) [q,p],[fitB (l.length+l2.length) i.bytes]⟩
     | false=>none
    | _,_,_=>none
   | _,_=>none
  | _,_,_,_=>none
 | _,_,_=>none
theorem appendX_ok {x y:Operand} {t et:TypeId} {vx:SV} {p b:Nat} {s:Sh} {l l2:List s.T} {ti:TypeId} {e:Sh} {a1 a2:List (Option (List e.T))} {i:TypeInfo} {z:Value} {old:Option Nat} {u:List Nat} {rk:Rk} (ho:o.op=.call { callee:=.builtin .append,args:=#[x,y],argTypes:=#[t,t] }) (hu:elemT P t=some et)
  (hx:RelV E vx (a.eval x)) (hy:RelV E (.c false [.row p]) (a.eval y)) (hp:g.r p=some (.x (.tab et s l2 ti e a2))) (hi:P.info? et=some i) (hz:zeroV P et=some z) (hsz:i.size=s.size) (hby:1<=i.bytes) (hd:dstX rk et s ti e vx=some (old,l,a1)) (hzs:z.cells.size=s.size)
  (hb:g.r b=none) (hrx:∀i x,rk i=some (.x x)->g.r i=some (.x x)) (hm:Mod N E a g) (hu1:∀q,old=some q->q ∈ u/\q≠p) (hu2:p ∈ u) (hu3:∀q ∈ u,q=p\/old=some q) (hfit:(l.length+l2.length)*i.bytes<=140737488355328) {pp:List Bool} :
  CoreOk P N g E a o ⟨.c false [.row b],.xset b (.tab et s (l++l2.map (shS a1.length s)) ti e (a1++a2)) u,pp⟩:=by
 have hz0:i.zero=some z:=by
  unfold zeroV at hz
  rw[hi] at hz
  exact hz
 obtain ⟨q,F,⟨ws,d1,d2⟩,d3,d4,d5,d6,d7,d8,d9⟩:=dstX_rel hm hrx p hd hx
 obtain ⟨hRp,⟨ys,s1,s2⟩,s3,s4,s5,s6⟩:=hm.xs p _ hp
 obtain ⟨cs,hv,hr,_⟩:=hy
 match cs,hr with
 | [v],hr =>
 obtain ⟨⟨hv1,_,_⟩,_⟩:=hr
 have hyv:a.eval y=E.ρ p:=by rw[hv];exact hv1
 have h63:l.length+l2.length<=maxLen:=by
  have:l.length+l2.length<=(l.length+l2.length)*i.bytes:=Nat.le_mul_of_pos_right _ hby
  simp only[maxLen]
  omega
 have hu':=elemT_eq hu
 have key:∃v' w',(Builtin.append_ #[t,t] o.type #[a.eval x,a.eval y]).run P E.w=.ok v' w'/\w'.ownsRow E.w0.heap.size et s.size v' (l.length+l2.length) (ws++ys)/\E.w.grownBy w' (a.eval x).ownBlock /\
   (v'.ownBlock=(a.eval x).ownBlock\/v'.ownBlock=some E.w.heap.size):=by
  rcases s1.2 with ⟨hn,h0⟩ | ⟨c,cap,cur,f1,f2,f3,f4,f5,f6,f7⟩
  ·have hl2:l2=[]:=List.eq_nil_of_length_eq_zero h0
   subst hl2
   have hys:ys=[]:=by simpa [TabRel] using s2
   subst hys
   refine ⟨a.eval x,E.w,?_,by simpa using d1,⟨rfl,rfl,rfl,Nat.le_refl _,fun _ _ _=>rfl⟩,.inl rfl⟩
   rw[hyv,hn]
   rcases d1.2 with ⟨hxn,_⟩ | ⟨q,cap,cur,hxq,_,_,hnc,_⟩
   ·rw[hxn]
    simp[Builtin.append_,run_underlying hu',sizeOf,typeInfo,hi,Builtin.lenOf,Builtin.firstCells]
   ·rw[hxq]
    simp[Builtin.append_,run_underlying hu',sizeOf,typeInfo,hi,Builtin.lenOf,Builtin.firstCells,hnc,storeCells]
  ·obtain ⟨v',w',r1,r2,r3,_,r5⟩:=run_append_own_at (P:=P) (w:=E.w) E.w0.heap.size t o.type et i z s.size i.bytes hu' hi hz0 hsz rfl hzs (Sh.size_pos' s) (a.eval x) l.length ws d1 ⟨c,0,none⟩ l2.length cap ys (tabRel_len s2) (fun j u hj=>by rw[add_lit,Nat.zero_add];exact cell_of_take f3 f7 hj) (tabRel_one s2) h63 hfit hm.glob.below.size
   exact ⟨v',w',by rw[hyv,f1];exact r1,r2,r3,r5⟩
 obtain ⟨v',w',r1,r2,r3,r4⟩:=key
 have hbk:∀q,q ∈ u->q≠b:=fun q hq e'=>by
  subst e'
  rcases hu3 q hq with h | h
  ·subst h;rw[hb] at hp;cases hp
  ·obtain ⟨_,_,z,hz⟩:=d8 q h
   rw[hb] at hz;cases hz
 have hFrom:∀c,F c\/E.φ p c->From E g b u c:=fun c hc=>by
  rcases hc with hc | hc
  ·obtain ⟨q',h1,h2,h3⟩:=d7 c hc
   exact .inr ⟨q',(hu1 q' h1).1,.inr ⟨h2.choose,h2.choose_spec,h3⟩⟩
  ·exact .inr ⟨p,hu2,.inr ⟨_,hp,hc⟩⟩
 have hlow:∀k,k<E.w.heap.size->¬ From E g b u k->w'.heap[k]?=E.w.heap[k]?:=fun k hk hn=>r3.block k hk fun e'=>hn (hFrom k (.inl (d3 k e'.symm)))
 have hzk:∀k,E.Z k->w'.heap[k]?=E.w.heap[k]?:=fun k hk=>hlow k (hm.glob.zlt k hk) fun hf=>(from_facts hm hf).1 hk
 have hdat:∀(s:Sh) (z:s.T) (cs:List Value),Dat E.w E.Z s z cs->Dat w' E.Z s z cs:=fun s z cs hd=>Dat.mono (fun _ h=>h) hzk hd
 have own':∀(j:Nat) (v:Value) (m:Nat) (xs:List Value),E.w.ownsRow E.w0.heap.size ti e.size v m xs->(∀c,v.ownBlock=some c->(a.eval x).ownBlock≠some c)->w'.ownsRow E.w0.heap.size ti e.size v m xs:=fun j v m xs h hne=>ownsRow_same h fun c hc=>r3.block c (h.lt c hc).2 fun e'=>hne c hc e'.symm
 have pne:∀c,E.φ p c->(a.eval x).ownBlock≠some c:=fun c hc hx'=>by
  obtain ⟨q',h1,h2,h3⟩:=d7 c (d3 c hx')
  exact (hu1 q' h1).2 (hm.glob.xg.inj q' p _ _ c h2.choose_spec hp h3 hc)
 have Fp:∀c,F c->¬ E.φ p c:=fun c hc hpc=>by
  obtain ⟨q',h1,h2,h3⟩:=d7 c hc
  exact (hu1 q' h1).2 (hm.glob.xg.inj q' p _ _ c h2.choose_spec hp h3 hpc)
 have ltw:∀c,F c\/E.φ p c->c<E.w.heap.size:=fun c hc=>(from_facts hm (hFrom c hc)).2.2.1
 let I:Nat->Value:=fun i=>if i<a1.length then E.ι q i else E.ι p (i - a1.length)
 let E':=E.xput b v' w' (fun c=>F c\/E.φ p c\/v'.ownBlock=some c) I (a1.length+a2.length)
 have eι:E'.ι b=I:=by simp[E',Env.xput]
 have eρ:E'.ρ b=v':=by simp[E',Env.xput]
 have eφ:E'.φ b=fun c=>F c\/E.φ p c\/v'.ownBlock=some c:=by simp[E',Env.xput]
 have eν:E'.ν b=a1.length+a2.length:=by simp[E',Env.xput]
 have I1:∀i,i<a1.length->I i=E.ι q i:=fun i hi=>by simp only[I];rw[if_pos hi]
 have I2:∀i,I (a1.length+i)=E.ι p i:=fun i=>by simp only[I];rw[if_neg (by omega),Nat.add_sub_cancel_left]
 have vb:∀c,v'.ownBlock=some c->(a.eval x).ownBlock=some c\/c=E.w.heap.size:=fun c hc=>by
  rcases r4 with h | h
  ·exact .inl (by rw[<-h];exact hc)
  ·rw[h] at hc;injection hc with hc;exact .inr hc.symm
 have inn1:∀i l',a1[i]?=some (some l')->InnOk E' b ti e i l':=fun i l' hi=>by
  have hlt:=(List.getElem?_eq_some_iff.1 hi).1
  obtain ⟨⟨⟨xs,g1,g2⟩,g3,g4⟩,g5⟩:=d5 i l' hi
  unfold InnOk
  rw[eι,eρ,eφ,I1 i hlt]
  refine ⟨⟨xs,own' i _ _ _ g1 fun c hc=>(g5 c hc).2,RowRel.mono (fun _ h=>h) hzk g2⟩,g3,fun c hc=>⟨.inl (g5 c hc).1,fun e'=>?_⟩⟩
  rcases vb c e' with h | h
  ·exact (g5 c hc).2 h
  ·have:=ltw c (.inl (g5 c hc).1);omega
 have inn2:∀i l',a2[i]?=some (some l')->InnOk E' b ti e (a1.length+i) l':=fun i l' hi=>by
  obtain ⟨⟨xs,g1,g2⟩,g3,g4⟩:=s5 i l' hi
  unfold InnOk
  rw[eι,eρ,eφ,I2 i]
  refine ⟨⟨xs,own' i _ _ _ g1 fun c hc=>pne c (g4 c hc).1,RowRel.mono (fun _ h=>h) hzk g2⟩,g3,fun c hc=>⟨.inr (.inl (g4 c hc).1),fun e'=>?_⟩⟩
  rcases vb c e' with h | h
  ·exact pne c (g4 c hc).1 h
  ·have:=ltw c (.inr (g4 c hc).1);omega
 have at_:∀i (l':List e.T),(a1++a2)[i]?=some (some l')->(a1[i]?=some (some l')/\i<a1.length)\/∃j,i=a1.length+j/\a2[j]?=some (some l'):=fun i l' hi=>by
  by_cases hlt:i<a1.length
  ·rw[List.getElem?_append_left hlt] at hi;exact .inl ⟨hi,hlt⟩
  ·rw[List.getElem?_append_right (by omega)] at hi;exact .inr ⟨i - a1.length,by omega,hi⟩
 obtain ⟨m1,m2⟩:=xset_mod hm (k:=b) (x:=.tab et s (l++l2.map (shS a1.length s)) ti e (a1++a2)) (u:=u) (w':=w') (v:=v') (F:=fun c=>F c\/E.φ p c\/v'.ownBlock=some c) (I:=I) (n:=a1.length+a2.length)
  (.inl hb) (fun h=>hbk b h rfl) (fun c hc=>by
   rcases hc with hc | hc | hc
   ·exact .inr (hFrom c (.inl hc))
   ·exact .inr (hFrom c (.inr hc))
   ·rcases vb c hc with h | h
    ·exact .inr (hFrom c (.inl (d3 c h)))
    ·exact .inl ⟨by omega,(r2.lt c hc).2⟩) hlow r3.os r3.tape r3.output r3.size (by
   refine ⟨.inr rfl,⟨ws++ys,?_,?_⟩,fun c hc=>?_,?_,fun i l' hi=>?_,fun i j l1 l2' c hi hj hc hc'=>?_⟩
   ·show w'.ownsRow E.w0.heap.size et s.size (E'.ρ b) _ _
    rw[eρ,List.length_append,List.length_map]
    exact r2
   ·refine tabRel_append (E:=E') (tabRel_to (E:=E) (q:=q) (fun i hi=>?_) ?_ hdat d2) (tabRel_shift (E:=E) (q:=p) (fun i hi=>?_) ?_ hdat s2)
    ·rw[eι]
     rcases d4 i hi with ⟨h,_⟩ | ⟨h,h'⟩
     ·exact I1 i h
     ·have:=I2 i;rw[h,Nat.zero_add] at this;rw[this,h']
    ·rw[eν]
     cases hold:old with
     | none=>rw[(d9 hold).2];omega
     | some q'=>have:=(d8 q' hold).2.1;omega
    ·rw[eι];exact I2 i
    ·rw[eν];omega
   ·show E'.φ b c
    rw[eφ]
    have hc:(E'.ρ b).ownBlock=some c:=hc
    rw[eρ] at hc
    exact .inr (.inr hc)
   ·show _=E'.ν b
    rw[eν,List.length_append]
   ·rcases at_ i l' hi with ⟨h,_⟩ | ⟨j,rfl,h⟩
    ·exact inn1 i l' h
    ·exact inn2 j l' h
   ·have hc:(E'.ι b i).ownBlock=some c:=hc
    have hc':(E'.ι b j).ownBlock=some c:=hc'
    rw[eι] at hc hc'
    rcases at_ i l1 hi with ⟨h,hlt⟩ | ⟨i',rfl,h⟩
    ·rw[I1 i hlt] at hc
     rcases at_ j l2' hj with ⟨k,hlt'⟩ | ⟨j',rfl,k⟩
     ·rw[I1 j hlt'] at hc'
      exact d6 i j l1 l2' c h k hc hc'
     ·rw[I2 j'] at hc'
      exact (Fp c ((d5 i l1 h).2 c hc).1 ((s5 j' l2' k).2.2 c hc').1).elim
    ·rw[I2 i'] at hc
     rcases at_ j l2' hj with ⟨k,hlt'⟩ | ⟨j',rfl,k⟩
     ·rw[I1 j hlt'] at hc'
      exact (Fp c ((d5 j l2' k).2 c hc').1 ((s5 i' l1 h).2.2 c hc).1).elim
     ·rw[I2 j'] at hc'
      rw[s6 i' j' l1 l2' c h k hc hc'])
 refine CoreOk.value (E':=E') (v:=v') ?_ rfl m2 m1 ⟨[v'],rfl,⟨⟨eρ.symm,.inr rfl,ownsRow_oneCell r2⟩,trivial⟩,fun _=>rfl⟩
 simp only[execOp,ho,resolve,pure_bind]
 simp[invoke,builtin,r1,E',Env.xput]
theorem appendXC_ok {get:Operand->Option SV} {rk:Rk} {b:Nat} {xs:Array Operand} {ts:Array TypeId} {r:Core} (ho:o.op=.call { callee:=.builtin .append,args:=xs,argTypes:=ts }) (h:appendXC P get rk b xs ts=some r) (hp:allB r.p=true) (hg:Gets E a get o) (hm:Mod N E a g)
  (hrx:∀i x,rk i=some (.x x)->g.r i=some (.x x)) (hb:rk b=none->g.r b=none):CoreOk P N g E a o r:=by
 unfold appendXC at h
 split at h
 case h_2=>cases h
 rename_i x y t t' hxs hts hbn
 have hxs:xs=#[x,y]:=by rw[<-Array.toArray_toList (xs:=xs),hxs]
 have hts:ts=#[t,t']:=by rw[<-Array.toArray_toList (xs:=ts),hts]
 subst hxs;subst hts
 split at h
 case h_2=>cases h
 rename_i et vx p htt hu hvx hvy
 have htt:t=t':=by simpa using htt
 subst htt
 have hx:=hg x vx (by rw[ho];simp[Op.operands,Call.operands]) hvx
 have hy:=hg y _ (by rw[ho];simp[Op.operands,Call.operands]) hvy
 split at h
 case h_2=>cases h
 rename_i t2 s l2 ti e a2 i hl hi
 split at h
 ·rename_i z l a1 hz hsz hd
  split at h
  ·rename_i hzs
   injection h with h
   subst h
   simp only[Bool.and_eq_true,Nat.beq_eq,Nat.ble_eq] at hsz
   have h2:=hsz.2
   subst h2
   exact appendX_ok (old:=none) ho hu hx hy (hrx _ _ hl) hi hz hsz.1.1 hsz.1.2 hd (by simpa using hzs) (hb hbn) hrx hm (fun q e=>by cases e) (by simp) (fun q hq=>.inl (by simpa using hq)) (fitB_iff.1 hp)
  ·cases h
 ·rename_i z q l a1 hz hsz hd
  split at h
  ·rename_i hzs
   injection h with h
   subst h
   simp only[Bool.and_eq_true,Nat.beq_eq,Nat.ble_eq,Bool.not_eq_true'] at hsz hzs
   have h2:=hsz.2
   subst h2
   have hne:q≠p:=fun e=>by rw[e] at hzs;simp at hzs
   exact appendX_ok (old:=some q) ho hu hx hy (hrx _ _ hl) hi hz hsz.1.1 hsz.1.2 hd hzs.1 (hb hbn) hrx hm (fun q' e=>by injection e with e;subst e;exact ⟨by simp,hne⟩) (by simp) (fun q' hq=>by
    rcases List.mem_cons.1 hq with h | h
    ·exact .inr (by rw[h])
    ·exact .inl (by simpa using h)) (fitB_iff.1 hp)
  ·cases h
 ·cases h
end
section
variable {P:Program} {N:Nat} {g:Look} {E:Env} {a:Act} {o:Oper}
inductive Nw (e:Sh) where
 | no
 | nil
 | row (k:Nat) (w:List e.T)
def nwV (E:Env) {e:Sh}:Nw e->Option Value
 | .no=>none
 | .nil=>some (.slice none 0 0)
 | .row k _=>some (E.ρ k)
def oref (rk:Rk) (q:Nat) (ti:TypeId) (e:Sh) (n:Nat):List At->Option (Nat×List At×Nw e)
 | .ir q' i ::r=>match Nat.beq q' q with
  | true=>some (i,r,.no)
  | false=>none
 | .row k ::r=>match rk k with
  | some (.some ri)=>match Nat.beq ri.t ti,Sh.eq? ri.e e with
   | true,some ⟨h⟩=>some (n,r,.row k (h ▸ ri.l))
   | _,_=>none
  | _=>none
 | .v (.slice none 0 0) ::r=>some (n,r,.nil)
 | _=>none
def oput (rk:Rk) (q:Nat) (ti:TypeId) (e:Sh) (n:Nat):(s:Sh)->List At->Option (s.T×List At×Nw e)
 | .ref,l=>oref rk q ti e n l
 | .pair s t,l=>match oput rk q ti e n s l with
  | some (x,r,.no)=>match oput rk q ti e n t r with
   | some (y,r',w)=>some ((x,y),r',w)
   | none=>none
  | some (x,r,w)=>match oput rk q ti e n t r with
   | some (y,r',.no)=>some ((x,y),r',w)
   | _=>none
  | none=>none
 | .agg s,l=>oput rk q ti e n s l
 | .int k,l=>match Sh.take (.int k) l with
  | some (x,r)=>some (x,r,.no)
  | none=>none
 | .bool,l=>match Sh.take .bool l with
  | some (x,r)=>some (x,r,.no)
  | none=>none
 | .str,l=>match Sh.take .str l with
  | some (x,r)=>some (x,r,.no)
  | none=>none
 | .sl s,l=>match Sh.take (.sl s) l with
  | some (x,r)=>some (x,r,.no)
  | none=>none
def NwIs (rk:Rk) (ti:TypeId) {e:Sh}:Nw e->Prop
 | .row k w=>∃m,rk k=some (.some ⟨ti,e,m,w⟩)
 | _=>True
def PutIn (E:Env) (q n:Nat) {e:Sh} (nw:Nw e) (s:Sh) (x:s.T) (c:List Value):Prop :=
 ∀E':Env,(∀i,i<E.ν q->E'.ι q i=E.ι q i)->E.ν q<=E'.ν q->(∀v,nwV E nw=some v->E'.ι q n=v/\n<E'.ν q)->(∀(s:Sh) (z:s.T) (cs:List Value),Dat E.w E.Z s z cs->Dat E'.w E'.Z s z cs)->ODat E' q s x c
theorem oput_dat {q n:Nat} {e s:Sh} {x:s.T} {c:List Value} (nw:Nw e) (h:Dat E.w E.Z s x c) (hs:∀E':Env,Dat E'.w E'.Z s x c->ODat E' q s x c):PutIn E q n nw s x c:=fun E' _ _ _ hd=>hs E' (hd s x c h)
theorem oput_rel {rk:Rk} {q:Nat} {ti:TypeId} {e:Sh} {n:Nat}:∀{s:Sh} {l rest:List At} {x:s.T} {nw:Nw e} {cs:List Value},oput rk q ti e n s l=some (x,rest,nw)->RelL E l cs ->
  NwIs rk ti nw/\∃c1 c2,cs=c1++c2/\RelL E rest c2/\PutIn E q n nw s x c1
 | .ref,l,rest,x,nw,cs,h,hr=>by
  simp only[oput] at h
  unfold oref at h
  split at h
  ·rename_i q' i r
   match cs,hr with
   | c ::cs,hr =>
   split at h
   ·rename_i hq
    have hq:q'=q:=by simpa using hq
    subst hq
    simp only[Option.some.injEq,Prod.mk.injEq] at h
    obtain ⟨rfl,rfl,rfl⟩:=h
    obtain ⟨⟨h1,h2,h3,h4⟩,h5⟩:=hr
    subst h1
    exact ⟨trivial,[_],cs,rfl,h5,fun E' hι hν _ _=>⟨by rw[hι _ h3],Nat.lt_of_lt_of_le h3 hν,by rw[hι _ h3];exact h4⟩⟩
   ·cases h
  ·rename_i k r
   match cs,hr with
   | c ::cs,hr =>
   split at h
   ·rename_i ri hk
    split at h
    ·rename_i h1 ht _
     simp only[Option.some.injEq,Prod.mk.injEq] at h
     obtain ⟨rfl,rfl,rfl⟩:=h
     obtain ⟨t0,e0,n0,l0⟩:=ri
     simp only[Nat.beq_eq] at ht
     simp only at h1
     subst ht;subst h1
     obtain ⟨⟨g1,g2,g3⟩,g5⟩:=hr
     subst g1
     exact ⟨⟨n0,hk⟩,[_],cs,rfl,g5,fun E' _ _ hv _=>by
      obtain ⟨z1,z2⟩:=hv _ rfl
      exact ⟨by rw[z1],z2,by rw[z1];exact g3⟩⟩
    ·cases h
   ·cases h
  ·rename_i r
   match cs,hr with
   | c ::cs,hr =>
   simp only[Option.some.injEq,Prod.mk.injEq] at h
   obtain ⟨rfl,rfl,rfl⟩:=h
   obtain ⟨g1,g5⟩:=hr
   have g1:c=.slice none 0 0:=g1
   subst g1
   exact ⟨trivial,[_],cs,rfl,g5,fun E' _ _ hv _=>by
    obtain ⟨z1,z2⟩:=hv _ rfl
    exact ⟨by rw[z1],z2,by rw[z1];rfl⟩⟩
  ·cases h
 | .pair s t,l,rest,x,nw,cs,h,hr=>by
  simp only[oput] at h
  split at h
  ·rename_i y r hy
   split at h
   ·rename_i z r' w hz
    simp only[Option.some.injEq,Prod.mk.injEq] at h
    obtain ⟨rfl,rfl,rfl⟩:=h
    obtain ⟨_,c1,c2,rfl,h1,h2⟩:=oput_rel hy hr
    obtain ⟨h5,c3,c4,rfl,h3,h4⟩:=oput_rel hz h1
    exact ⟨h5,c1++c3,c4,by simp,h3,fun E' hι hν hv hd=>⟨c1,c3,rfl,h2 E' hι hν (fun v hv'=>by cases hv') hd,h4 E' hι hν hv hd⟩⟩
   ·cases h
  ·rename_i y r w hno hy
   split at h
   ·rename_i z r' hz
    simp only[Option.some.injEq,Prod.mk.injEq] at h
    obtain ⟨rfl,rfl,rfl⟩:=h
    obtain ⟨h5,c1,c2,rfl,h1,h2⟩:=oput_rel hy hr
    obtain ⟨_,c3,c4,rfl,h3,h4⟩:=oput_rel hz h1
    exact ⟨h5,c1++c3,c4,by simp,h3,fun E' hι hν hv hd=>⟨c1,c3,rfl,h2 E' hι hν hv hd,h4 E' hι hν (fun v hv'=>by cases hv') hd⟩⟩
   ·cases h
  ·cases h
 | .agg s,l,rest,x,nw,cs,h,hr=>by
  simp only[oput] at h
  obtain ⟨h5,c1,c2,h1,h2,h3⟩:=oput_rel (s:=s) (x:=x) h hr
  exact ⟨h5,c1,c2,h1,h2,fun E' hι hν hv hd=>h3 E' hι hν hv hd⟩
 | .int k,l,rest,x,nw,cs,h,hr=>by
  simp only[oput] at h
  split at h
  ·rename_i y r hy
   simp only[Option.some.injEq,Prod.mk.injEq] at h
   obtain ⟨rfl,rfl,rfl⟩:=h
   obtain ⟨c1,c2,h1,h2,h3⟩:=take_rel (s:=.int k) hy hr
   exact ⟨trivial,c1,c2,h1,h3,oput_dat .no h2 fun _ h=>h⟩
  ·cases h
 | .bool,l,rest,x,nw,cs,h,hr=>by
  simp only[oput] at h
  split at h
  ·rename_i y r hy
   simp only[Option.some.injEq,Prod.mk.injEq] at h
   obtain ⟨rfl,rfl,rfl⟩:=h
   obtain ⟨c1,c2,h1,h2,h3⟩:=take_rel (s:=.bool) hy hr
   exact ⟨trivial,c1,c2,h1,h3,oput_dat .no h2 fun _ h=>h⟩
  ·cases h
 | .str,l,rest,x,nw,cs,h,hr=>by
  simp only[oput] at h
  split at h
  ·rename_i y r hy
   simp only[Option.some.injEq,Prod.mk.injEq] at h
   obtain ⟨rfl,rfl,rfl⟩:=h
   obtain ⟨c1,c2,h1,h2,h3⟩:=take_rel (s:=.str) hy hr
   exact ⟨trivial,c1,c2,h1,h3,oput_dat .no h2 fun _ h=>h⟩
  ·cases h
 | .sl s,l,rest,x,nw,cs,h,hr=>by
  simp only[oput] at h
  split at h
  ·rename_i y r hy
   simp only[Option.some.injEq,Prod.mk.injEq] at h
   obtain ⟨rfl,rfl,rfl⟩:=h
   obtain ⟨c1,c2,h1,h2,h3⟩:=take_rel (s:=.sl s) hy hr
   exact ⟨trivial,c1,c2,h1,h3,oput_dat .no h2 fun _ h=>h⟩
  ·cases h
def nwL {e:Sh}:Nw e->List (Option (List e.T))
 | .no=>[]
 | .nil=>[some []]
 | .row _ w=>[some w]
def nwU {e:Sh}:Nw e->List Nat
 | .row k _=>[k]
 | _=>[]
def storeTC (P:Program) (get:Operand->Option SV) (rk:Rk) (t:TypeId) (x y:Operand):Option Core:=match get x,get y with
 | some (.c false [.re q i sz off]),some (.c _ l')=>match rk q,sizeT P t with
  | some (.x (.tab tt s l ti e a)),some n=>match l'.all at1,Nat.beq l'.length n,Nat.ble (off+n) s.size,Nat.beq sz s.size,oput rk q ti e a.length s ((ocells q s (l.getD i s.dflt)).take off++l'++(ocells q s (l.getD i s.dflt)).drop (off+l'.length)) with
   | true,true,true,true,some (z,[],nw)=>some ⟨.c false [.u],.xset q (.tab tt s (l.set i z) ti e (a++nwL nw)) (nwU nw),[Nat.blt i l.length]⟩
   | _,_,_,_,_=>none
  | _,_=>none
 | _,_=>none
theorem storeTC_ok {get:Operand->Option SV} {rk:Rk} {t:TypeId} {x y:Operand} {r:Core} (ho:o.op=.store t x y) (h:storeTC P get rk t x y=some r) (hp:allB r.p=true) (hg:Gets E a get o) (hm:Mod N E a g) (hrk:∀i r,rk i=some r->g.r i=some r):CoreOk P N g E a o r:=by
 have hop:x ∈ o.op.operands/\y ∈ o.op.operands:=by rw[ho];simp[Op.operands]
 unfold storeTC at h
 split at h
 case h_2=>cases h
 rename_i q i sz off ag l' hx hy
 split at h
 case h_2=>cases h
 rename_i tt s l ti e ar n hl hz
 split at h
 case h_2=>cases h
 rename_i z nw hl1 hn hfit hsz hw
 have hsz:sz=s.size:=by simpa using hsz
 subst hsz
 injection h with h
 subst h
 have hp:i<l.length:=blt_iff.1 hp
 have hq:=hrk _ _ hl
 obtain ⟨cs,hv,hrl,_⟩:=(hg x _ hop.1 hx:RelC E false _ _)
 obtain ⟨vs,hv',hr',h1'⟩:=(hg y _ hop.2 hy:RelC E ag _ _)
 have hone:=ats1_one hl1 hr'
 simp only[Nat.beq_eq] at hn
 simp only[Nat.ble_eq] at hfit
 have hlen:=hr'.length
 match cs,hrl with
 | [p],hrl =>
 obtain ⟨⟨b',g1',hp',hR⟩,_⟩:=hrl
 obtain ⟨_,⟨xs,k1,k2⟩,k3,k4,k5,k6⟩:=hm.xs q _ hq
 obtain ⟨b,cap,cur,f1,f2,f3,f4,f5,f6,f7⟩:=ownsRow_form k1 (by omega)
 rw[f1] at g1'
 simp only[Value.ownBlock,Option.some.injEq] at g1'
 subst g1'
 have hbb:(E.ρ q).ownBlock=some b:=by rw[f1];rfl
 have hf:=k3 b hbb
 obtain ⟨_,_,hzb,_,hrb⟩:=hm.glob.xg.own q _ b hq hf
 have hget:l[i]?=some (l.getD i s.dflt):=by simp[List.getD,List.getElem?_eq_getElem hp]
 obtain ⟨ecs,e1,e2,e3⟩:=tabRel_get k2 hget
 have hel:=odat_len e1
 have hxl:=tabRel_len k2
 have hcap:l.length*s.size<=cur.size:=by rw[f6];exact Nat.mul_le_mul_right _ f4
 have hst:=run_storeCells_at P b (i*s.size+off) tt vs 0 cur E.w f3 (by omega) hone
 simp only[Nat.add_zero] at hst
 have herl:=odat_rel hR e1
 obtain ⟨hnw,c1,c2,hc,hc2,hd⟩:=oput_rel hw (((herl.take off).append hr').append (herl.drop _))
 have hc2:c2=[]:=by
  match c2,hc2 with
  | [],_=>rfl
 subst hc2
 rw[List.append_nil,hlen] at hc
 subst hc
 have hxs:xs.take (i*s.size+off)++vs++xs.drop (i*s.size+off+vs.length)=xs.take (i*s.size)++(ecs.take off++vs++ecs.drop (off+vs.length))++xs.drop (i*s.size+s.size):=by
  have hA:(xs.take (i*s.size)).length=i*s.size:=by simp;omega
  have:=seg_set (xs.take (i*s.size)) ecs (xs.drop (i*s.size+s.size)) vs off (by omega)
  rw[<-e2,hA] at this
  exact this
 obtain ⟨w',hw'⟩:∃w',w'=E.w.setRow b (cur.toList.take (i*s.size+off)++vs++cur.toList.drop (i*s.size+off+vs.length)).toArray:=⟨_,rfl⟩
 have hoth:∀k,k≠b->w'.heap[k]?=E.w.heap[k]?:=fun k hk=>by rw[hw'];exact setRow_other E.w b k _ hk
 have hdat:∀(s:Sh) (z:s.T) (cs:List Value),Dat E.w E.Z s z cs->Dat w' E.Z s z cs:=fun s z cs hd=>Dat.mono (fun _ h=>h) (fun k hkz=>hoth k fun e=>hzb (by rw[<-e];exact hkz)) hd
 let F:Nat->Prop:=fun c=>E.φ q c\/∃v,nwV E nw=some v/\v.ownBlock=some c
 let I:Nat->Value:=fun j=>if j<ar.length then E.ι q j else (nwV E nw).getD undef
 let n':=ar.length+(nwL nw).length
 have hnwb:∀v c,nwV E nw=some v->v.ownBlock=some c->∃k w m,nw=.row k w/\g.r k=some (.some ⟨ti,e,m,w⟩)/\v=E.ρ k:=fun v c hv hc=>by
  cases nw with
  | no=>cases hv
  | nil=>injection hv with hv;subst hv;cases hc
  | row k w =>
   obtain ⟨m,hk⟩:=hnw
   injection hv with hv
   exact ⟨k,w,m,rfl,hrk _ _ hk,hv.symm⟩
 have hFrom:∀c,F c->From E g q (nwU nw) c:=fun c hc=>by
  rcases hc with hc | ⟨v,hv,hc⟩
  ·exact .inl ⟨⟨_,hq⟩,hc⟩
  ·obtain ⟨k,w,m,rfl,hk,rfl⟩:=hnwb v c hv hc
   exact .inr ⟨k,by simp[nwU],.inl ⟨_,hk,hc⟩⟩
 have hku:q ∉ nwU nw:=fun hin=>by
  cases nw with
  | no=>cases hin
  | nil=>cases hin
  | row k w =>
   obtain ⟨m,hk⟩:=hnw
   simp only[nwU,List.mem_singleton] at hin
   subst hin
   rw[hk] at hl
   cases hl
 have hI:∀j,j<E.ν q->I j=E.ι q j:=fun j hj=>by simp only[I];rw[if_pos (by omega)]
 have newI:∀v,nwV E nw=some v->I ar.length=v/\ar.length<n':=fun v hv=>by
  refine ⟨by simp only[I];rw[if_neg (by omega),hv];rfl,?_⟩
  cases nw with
  | no=>cases hv
  | nil=>simp[n',nwL]
  | row k w=>simp[n',nwL]
 have newAt:∀j l1,(ar++nwL nw)[j]?=some (some l1)->(ar[j]?=some (some l1)/\j<ar.length)\/(j=ar.length/\∃v,nwV E nw=some v/\v.oneCell'=true/\∃ys,E.w.ownsRow E.w0.heap.size ti e.size v l1.length ys/\RowRel E.w E.Z e l1 ys):=fun j l1 hj=>by
  by_cases hlt:j<ar.length
  ·rw[List.getElem?_append_left hlt] at hj;exact .inl ⟨hj,hlt⟩
  ·rw[List.getElem?_append_right (by omega)] at hj
   refine .inr ?_
   cases nw with
   | no=>simp[nwL] at hj
   | nil =>
    have hj0:j - ar.length=0:=by
     have:=(List.getElem?_eq_some_iff.1 hj).1
     simp[nwL] at this
     omega
    rw[hj0] at hj
    simp only[nwL,List.getElem?_cons_zero,Option.some.injEq] at hj
    subst hj
    exact ⟨by omega,_,rfl,rfl,[],World.ownsRow_nil _ _ _ _,rfl⟩
   | row k w =>
    have hj0:j - ar.length=0:=by
     have:=(List.getElem?_eq_some_iff.1 hj).1
     simp[nwL] at this
     omega
    rw[hj0] at hj
    simp only[nwL,List.getElem?_cons_zero,Option.some.injEq] at hj
    subst hj
    obtain ⟨m,hk⟩:=hnw
    obtain ⟨_,ys,y1,y2,_⟩:=hm.rows k _ (hrk _ _ hk)
    exact ⟨by omega,_,rfl,ownsRow_oneCell y1,ys,y1,y2⟩
 have newNe:∀v c,nwV E nw=some v->v.ownBlock=some c->¬ E.φ q c:=fun v c hv hc hfc=>by
  obtain ⟨k,w,m,rfl,hk,rfl⟩:=hnwb v c hv hc
  exact (hm.glob.xg.own q _ c hq hfc).2.2.2.2 k _ hk hc
 obtain ⟨E',hE'⟩:∃E',E'=E.xput q (E.ρ q) w' F I n':=⟨_,rfl⟩
 have eι:E'.ι q=I:=by rw[hE'];simp[Env.xput]
 have eρ:E'.ρ q=E.ρ q:=by rw[hE'];simp[Env.xput]
 have eφ:E'.φ q=F:=by rw[hE'];simp[Env.xput]
 have eν:E'.ν q=n':=by rw[hE'];simp[Env.xput]
 have eR:E'.R q:=by rw[hE'];exact .inr rfl
 have ew:E'.w=w':=by rw[hE'];rfl
 have ew0:E'.w0=E.w0:=by rw[hE'];rfl
 have eZ:E'.Z=E.Z:=by rw[hE'];rfl
 have hdat':∀(s:Sh) (z:s.T) (cs:List Value),Dat E.w E.Z s z cs->Dat E'.w E'.Z s z cs:=by rw[ew,eZ];exact hdat
 have hνle:E.ν q<=E'.ν q:=by rw[eν];simp only[n'];omega
 have hobj:ODat E' q s z (ecs.take off++vs++ecs.drop (off+vs.length)):=hd E' (fun j hj=>by rw[eι];exact hI j hj) hνle (fun v hv=>by rw[eι,eν];exact newI v hv) hdat'
 have htab:TabRel E' q s l xs:=tabRel_to (fun j hj=>by rw[eι];exact hI j hj) hνle hdat' k2
 have hx':XOk E' q (.tab tt s (l.set i z) ti e (ar++nwL nw)):=by
  refine ⟨eR,⟨xs.take (i*s.size)++(ecs.take off++vs++ecs.drop (off+vs.length))++xs.drop (i*s.size+s.size),⟨?_,.inr ⟨b,cap,(cur.toList.take (i*s.size+off)++vs++cur.toList.drop (i*s.size+off+vs.length)).toArray,by rw[eρ,f1];simp,by rw[ew0];exact f2,by rw[ew,hw'];exact setRow_heap E.w _ _ _ tt (0,0) f3,by simpa using f4,f5,?_,?_⟩⟩,tabRel_set htab hp hobj⟩,fun c hc=>?_,?_,fun j l1 hj=>?_,fun j1 j2 l1 l2 c hj1 hj2 hc1 hc2=>?_⟩
  ·rw[<-hxs]
   simp only[List.length_append,List.length_take,List.length_drop,List.length_set]
   omega
  ·simp only[List.size_toArray,List.length_append,List.length_take,List.length_drop,Array.length_toList]
   omega
  ·rw[<-hxs,<-f7]
   simp only[List.length_set]
   have hin:i*s.size+off+vs.length<=l.length*s.size:=by omega
   rw[List.take_append,List.take_of_length_le (by simp;omega)]
   have e1:List.take (i*s.size+off) (List.take (l.length*s.size) cur.toList)=cur.toList.take (i*s.size+off):=by
    rw[List.take_take];congr 1;omega
   rw[e1,List.drop_take]
   congr 2
   simp only[List.length_append,List.length_take,Array.length_toList]
   omega
  ·rw[eρ] at hc
   rw[eφ]
   exact .inl (k3 c hc)
  ·rw[eν,List.length_append]
  ·unfold InnOk
   rw[eι,eρ,eφ,ew,ew0,eZ]
   rcases newAt j l1 hj with ⟨h1,hlt⟩ | ⟨rfl,v,hv,h1,ys,h2,h3⟩
   ·obtain ⟨⟨ys,g1,g2⟩,g3,g4⟩:=k5 j l1 h1
    rw[hI j (by omega)]
    exact ⟨⟨ys,ownsRow_same g1 fun c hc=>hoth c fun e'=>(g4 c hc).2 (by rw[e'];exact hbb),RowRel.mono (fun _ h=>h) (fun k hkz=>hoth k fun e=>hzb (by rw[<-e];exact hkz)) g2⟩,g3,fun c hc=>⟨.inl (g4 c hc).1,(g4 c hc).2⟩⟩
   ·rw[(newI v hv).1]
    refine ⟨⟨ys,ownsRow_same h2 fun c hc=>hoth c fun e'=>newNe v c hv hc (by rw[e'];exact hf),RowRel.mono (fun _ h=>h) (fun k hkz=>hoth k fun e=>hzb (by rw[<-e];exact hkz)) h3⟩,h1,fun c hc=>⟨.inr ⟨v,hv,hc⟩,fun e'=>newNe v c hv hc (k3 c e')⟩⟩
  ·rw[eι] at hc1 hc2
   rcases newAt j1 l1 hj1 with ⟨h1,hlt1⟩ | ⟨rfl,v1,hv1,_⟩
   ·rw[hI j1 (by omega)] at hc1
    rcases newAt j2 l2 hj2 with ⟨h2,hlt2⟩ | ⟨rfl,v2,hv2,_⟩
    ·rw[hI j2 (by omega)] at hc2
     exact k6 j1 j2 l1 l2 c h1 h2 hc1 hc2
    ·rw[(newI v2 hv2).1] at hc2
     exact (newNe v2 c hv2 hc2 ((k5 j1 l1 h1).2.2 c hc1).1).elim
   ·rcases newAt j2 l2 hj2 with ⟨h2,hlt2⟩ | ⟨rfl,v2,hv2,_⟩
    ·rw[hI j2 (by omega)] at hc2
     rw[(newI v1 hv1).1] at hc1
     exact (newNe v1 c hv1 hc1 ((k5 j2 l2 h2).2.2 c hc2).1).elim
    ·rfl
 subst hE'
 obtain ⟨m1,m2⟩:=xset_mod hm (k:=q) (x:=.tab tt s (l.set i z) ti e (ar++nwL nw)) (u:=nwU nw) (w':=w') (v:=E.ρ q) (F:=F) (I:=I) (n:=n')
  (.inr ⟨⟨_,hq⟩,rfl,fun _ h=>.inl h,by simp only[n'];omega,hI⟩) hku (fun c hc=>.inr (hFrom c hc)) (fun c _ hn=>hoth c fun e=>hn (.inl ⟨⟨_,hq⟩,by rw[e];exact hf⟩)) (by rw[hw'];rfl) (by rw[hw'];rfl) (by rw[hw'];rfl) (by rw[hw'];simp[World.setRow]) hx'
 refine CoreOk.skip (E':=E.xput q (E.ρ q) w' F I n') ?_ rfl m2 m1 ⟨[undef],rfl,⟨trivial,trivial⟩,fun _=>rfl⟩
 have hszv:vs.length=n:=by omega
 have hv0:a.eval x=.pointer (some ⟨b,i*s.size+off,none⟩):=by rw[hv,hp'];rfl
 simp only[execOp,ho,hv0,hv',Instr.storeAt,Instr.sureAddr,storeVar,pure_bind,Sem.run_bind,run_sizeOf hz,Result.andThen_ok]
 have hc:=cells_mkV h1' hone
 simp only[hc,List.size_toArray,hszv,ne_eq,not_true_eq_false,if_false]
 rw[hw']
 simp[hst,Env.xput,hszv]
def appendIC (P:Program) (get:Operand->Option SV) (rk:Rk) (xs:Array Operand) (ts:Array TypeId):Option Core:=match xs.toList,ts.toList with
 | [x,y],[t,t']=>match Nat.beq t t',elemT P t,get x,get y with
  | true,some et,some (.c false [.ir q id]),some vy=>match rk q,P.info? et with
   | some (.x (.tab tt s l ti e a)),some i=>match i.zero,Nat.beq et ti&&Nat.beq i.size e.size&&Nat.ble 1 i.bytes,srcOf rk e vy with
    | some z,true,some m=>match Nat.beq z.cells.size e.size with
     | true=>some ⟨.c false [.ir q a.length],.xset q (.tab tt s l ti e (a.set id none++[some (rowD a id++m)])) [],[liveB a id,fitB ((rowD a id).length+m.length) i.bytes]⟩
     | false=>none
    | _,_,_=>none
   | _,_=>none
  | _,_,_,_=>none
 | _,_=>none
theorem appendIC_ok {get:Operand->Option SV} {rk:Rk} {xs:Array Operand} {ts:Array TypeId} {r:Core} (ho:o.op=.call { callee:=.builtin .append,args:=xs,argTypes:=ts }) (h:appendIC P get rk xs ts=some r) (hp:allB r.p=true) (hg:Gets E a get o) (hm:Mod N E a g)
  (hrk:∀i r,rk i=some r->g.r i=some r):CoreOk P N g E a o r:=by
 unfold appendIC at h
 split at h
 case h_2=>cases h
 rename_i x y t t' hxs hts
 have hxs:xs=#[x,y]:=by rw[<-Array.toArray_toList (xs:=xs),hxs]
 have hts:ts=#[t,t']:=by rw[<-Array.toArray_toList (xs:=ts),hts]
 subst hxs;subst hts
 split at h
 case h_2=>cases h
 rename_i et q id vy htt hu hvx hvy
 have htt:t=t':=by simpa using htt
 subst htt
 split at h
 case h_2=>cases h
 rename_i tt s l ti e ar i hl hi
 split at h
 case h_2=>cases h
 rename_i z m hz hsz hs
 split at h
 case h_2=>cases h
 rename_i hzs
 injection h with h
 subst h
 have hzs:z.cells.size=e.size:=by simpa using hzs
 simp only[Bool.and_eq_true,Nat.beq_eq,Nat.ble_eq] at hsz
 obtain ⟨⟨htt,hsz1⟩,hby⟩:=hsz
 subst htt
 obtain ⟨hlv,hfit⟩:=allB_cons hp
 have hfit:((rowD ar id).length+m.length)*i.bytes<=140737488355328:=fitB_iff.1 hfit
 have hq:=hrk _ _ hl
 have hx:=hg x _ (by rw[ho];simp[Op.operands,Call.operands]) hvx
 have hy:=hg y _ (by rw[ho];simp[Op.operands,Call.operands]) hvy
 obtain ⟨cs,hv,hr,_⟩:=hx
 match cs,hr with
 | [v],hr =>
 obtain ⟨⟨hv1,hR,hin,hone1⟩,_⟩:=hr
 have hxv:a.eval x=E.ι q id:=by rw[hv];exact hv1
 have hid:=liveB_get hlv
 obtain ⟨_,⟨xs,k1,k2⟩,k3,k4,k5,k6⟩:=hm.xs q _ hq
 obtain ⟨⟨ws,d1,d2⟩,d3,d4⟩:=k5 id _ hid
 obtain ⟨A,c,ys,hyv,s1,s2,s3⟩:=src_rel hm hrk hs hy
 have h63:(rowD ar id).length+m.length<=maxLen:=by
  have:(rowD ar id).length+m.length<=((rowD ar id).length+m.length)*i.bytes:=Nat.le_mul_of_pos_right _ hby
  simp only[maxLen]
  omega
 have key:∃v' w',(Builtin.append_ #[t,t] o.type #[a.eval x,a.eval y]).run P E.w=.ok v' w'/\w'.ownsRow E.w0.heap.size et e.size v' ((rowD ar id).length+m.length) (ws++ys)/\E.w.grownBy w' (E.ι q id).ownBlock /\
   (v'.ownBlock=(E.ι q id).ownBlock\/v'.ownBlock=some E.w.heap.size):=by
  rw[hxv]
  cases A with
  | none =>
   have hm0:m=[]:=s2 rfl
   subst hm0
   have hy0:ys=[]:=by simpa [RowRel] using s1
   subst hy0
   refine ⟨E.ι q id,E.w,?_,by simpa using d1,⟨rfl,rfl,rfl,Nat.le_refl _,fun _ _ _=>rfl⟩,.inl rfl⟩
   rw[hyv]
   have hu':=elemT_eq hu
   rcases d1.2 with ⟨hxn,_⟩ | ⟨q',cap,cur,hxq,_,_,hnc,_⟩
   ·rw[hxn]
    simp[Builtin.append_,run_underlying hu',sizeOf,typeInfo,hi,Builtin.lenOf,Builtin.firstCells]
   ·rw[hxq]
    simp[Builtin.append_,run_underlying hu',sizeOf,typeInfo,hi,Builtin.lenOf,Builtin.firstCells,hnc,storeCells]
  | some ad =>
   obtain ⟨v',w',r1,r2,r3,_,r5⟩:=run_append_own_at (P:=P) (w:=E.w) E.w0.heap.size t o.type et i z e.size i.bytes (elemT_eq hu) hi hz hsz1 rfl hzs (Sh.size_pos' e) (E.ι q id) (rowD ar id).length ws d1 ad m.length c ys (rowRel_len s1) (s3 ad rfl) (rowRel_one s1) h63 hfit hm.glob.below.size
   exact ⟨v',w',by rw[hyv];exact r1,r2,r3,r5⟩
 obtain ⟨v',w',r1,r2,r3,r4⟩:=key
 have hinn:∀c,(E.ι q id).ownBlock=some c->E.φ q c:=fun c hc=>(d4 c hc).1
 have hoth:∀k,k<E.w.heap.size->(E.ι q id).ownBlock≠some k->w'.heap[k]?=E.w.heap[k]?:=fun k hk hne=>r3.block k hk fun e'=>hne e'.symm
 have hzk:∀k,E.Z k->w'.heap[k]?=E.w.heap[k]?:=fun k hk=>hoth k (hm.glob.zlt k hk) fun e'=>(hm.glob.xg.own q _ k hq (hinn k e')).2.2.1 hk
 have hdat:∀(s:Sh) (z:s.T) (cs:List Value),Dat E.w E.Z s z cs->Dat w' E.Z s z cs:=fun s z cs hd=>Dat.mono (fun _ h=>h) hzk hd
 let F:Nat->Prop:=fun c=>E.φ q c\/v'.ownBlock=some c
 let I:Nat->Value:=fun j=>if j<ar.length then E.ι q j else v'
 have hI:∀j,j<E.ν q->I j=E.ι q j:=fun j hj=>by simp only[I];rw[if_pos (by omega)]
 have hIn:I ar.length=v':=by simp only[I];rw[if_neg (by omega)]
 have hidlt:id<ar.length:=(List.getElem?_eq_some_iff.1 hid).1
 have vb:∀c,v'.ownBlock=some c->(E.ι q id).ownBlock=some c\/c=E.w.heap.size:=fun c hc=>by
  rcases r4 with h | h
  ·exact .inl (by rw[<-h];exact hc)
  ·rw[h] at hc;injection hc with hc;exact .inr hc.symm
 have ltw:∀c,E.φ q c->c<E.w.heap.size:=fun c hc=>(hm.glob.xg.own q _ c hq hc).2.1
 have at_:∀j l1,(ar.set id none++[some (rowD ar id++m)])[j]?=some (some l1)->(ar[j]?=some (some l1)/\j<ar.length/\j≠id)\/(j=ar.length/\l1=rowD ar id++m):=fun j l1 hj=>by
  by_cases hlt:j<ar.length
  ·rw[List.getElem?_append_left (by simpa using hlt),List.getElem?_set] at hj
   split at hj
   ·cases hj
   ·rename_i hne
    exact .inl ⟨hj,hlt,fun e=>hne e.symm⟩
  ·rw[List.getElem?_append_right (by simp;omega)] at hj
   have hj0:j - ar.length=0:=by
    have:=(List.getElem?_eq_some_iff.1 hj).1
    simp at this
    omega
   simp only[List.length_set] at hj
   rw[hj0] at hj
   simp only[List.getElem?_cons_zero,Option.some.injEq] at hj
   exact .inr ⟨by omega,hj.symm⟩
 obtain ⟨E',hE'⟩:∃E',E'=E.xput q (E.ρ q) w' F I (ar.length+1):=⟨_,rfl⟩
 have eι:E'.ι q=I:=by rw[hE'];simp[Env.xput]
 have eρ:E'.ρ q=E.ρ q:=by rw[hE'];simp[Env.xput]
 have eφ:E'.φ q=F:=by rw[hE'];simp[Env.xput]
 have eν:E'.ν q=ar.length+1:=by rw[hE'];simp[Env.xput]
 have eR:E'.R q:=by rw[hE'];exact .inr rfl
 have ew:E'.w=w':=by rw[hE'];rfl
 have ew0:E'.w0=E.w0:=by rw[hE'];rfl
 have eZ:E'.Z=E.Z:=by rw[hE'];rfl
 have hνle:E.ν q<=E'.ν q:=by rw[eν];omega
 have hx':XOk E' q (.tab tt s l et e (ar.set id none++[some (rowD ar id++m)])):=by
  refine ⟨eR,⟨xs,?_,tabRel_to (E:=E) (fun j hj=>by rw[eι];exact hI j hj) hνle (by rw[ew,eZ];exact hdat) k2⟩,fun c hc=>?_,?_,fun j l1 hj=>?_,fun j1 j2 l1 l2 c hj1 hj2 hc1 hc2=>?_⟩
  ·rw[ew,ew0,eρ]
   exact ownsRow_same k1 fun c hc=>hoth c (k1.lt c hc).2 fun e'=>(d4 c e').2 hc
  ·rw[eρ] at hc
   rw[eφ]
   exact .inl (k3 c hc)
  ·rw[eν];simp
  ·unfold InnOk
   rw[eι,eρ,eφ,ew,ew0,eZ]
   rcases at_ j l1 hj with ⟨h1,hlt,hne⟩ | ⟨rfl,rfl⟩
   ·obtain ⟨⟨zs,g1,g2⟩,g3,g4⟩:=k5 j l1 h1
    rw[hI j (by omega)]
    exact ⟨⟨zs,ownsRow_same g1 fun c hc=>hoth c (g1.lt c hc).2 fun e'=>hne (k6 j id l1 _ c h1 hid hc e'),RowRel.mono (fun _ h=>h) hzk g2⟩,g3,fun c hc=>⟨.inl (g4 c hc).1,(g4 c hc).2⟩⟩
   ·rw[hIn]
    refine ⟨⟨ws++ys,by rw[List.length_append];exact r2,rowRel_append (RowRel.mono (fun _ h=>h) hzk d2) (RowRel.mono (fun _ h=>h) hzk s1)⟩,ownsRow_oneCell r2,fun c hc=>⟨.inr hc,fun e'=>?_⟩⟩
    rcases vb c hc with h | h
    ·exact (d4 c h).2 e'
    ·have:=(k1.lt c e').2;omega
  ·rw[eι] at hc1 hc2
   rcases at_ j1 l1 hj1 with ⟨h1,hlt1,hne1⟩ | ⟨rfl,rfl⟩
   ·rw[hI j1 (by omega)] at hc1
    have hφ1:=((k5 j1 l1 h1).2.2 c hc1).1
    rcases at_ j2 l2 hj2 with ⟨h2,hlt2,hne2⟩ | ⟨rfl,rfl⟩
    ·rw[hI j2 (by omega)] at hc2
     exact k6 j1 j2 l1 l2 c h1 h2 hc1 hc2
    ·rw[hIn] at hc2
     rcases vb c hc2 with h | h
     ·exact (hne1 (k6 j1 id l1 _ c h1 hid hc1 h)).elim
     ·have:=ltw c hφ1;omega
   ·rcases at_ j2 l2 hj2 with ⟨h2,hlt2,hne2⟩ | ⟨rfl,rfl⟩
    ·rw[hI j2 (by omega)] at hc2
     rw[hIn] at hc1
     have hφ2:=((k5 j2 l2 h2).2.2 c hc2).1
     rcases vb c hc1 with h | h
     ·exact (hne2 (k6 j2 id l2 _ c h2 hid hc2 h)).elim
     ·have:=ltw c hφ2;omega
    ·rfl
 subst hE'
 obtain ⟨m1,m2⟩:=xset_mod hm (k:=q) (x:=.tab tt s l et e (ar.set id none++[some (rowD ar id++m)])) (u:=[]) (w':=w') (v:=E.ρ q) (F:=F) (I:=I) (n:=ar.length+1)
  (.inr ⟨⟨_,hq⟩,rfl,fun _ h=>.inl h,by omega,hI⟩) (by simp) (fun c hc=>by
   rcases hc with hc | hc
   ·exact .inr (.inl ⟨⟨_,hq⟩,hc⟩)
   ·rcases vb c hc with h | h
    ·exact .inr (.inl ⟨⟨_,hq⟩,hinn c h⟩)
    ·exact .inl ⟨by omega,(r2.lt c hc).2⟩) (fun c hc hn=>hoth c hc fun e=>hn (.inl ⟨⟨_,hq⟩,hinn c e⟩)) r3.os r3.tape r3.output r3.size hx'
 refine CoreOk.value (E':=E.xput q (E.ρ q) w' F I (ar.length+1)) (v:=v') ?_ rfl m2 m1 ⟨[v'],rfl,⟨⟨?_,?_,?_,ownsRow_oneCell r2⟩,trivial⟩,fun _=>rfl⟩
 ·simp only[execOp,ho,resolve,pure_bind]
  simp[invoke,builtin,r1,Env.xput]
 ·rw[eι];exact hIn.symm
 ·exact eR
 ·rw[eν];omega
def tabZ (s:Sh) (z:s.T):Nat->Nat->List s.T
 | 0,_=>[]
 | n+1,k=>shS k s z ::tabZ s z n (k+1)
def makeXC (tb:TypeId->Option XP) (P:Program) (get:Operand->Option SV) (rk:Rk) (b:Nat) (t:TypeId) (l c:Operand):Option Core:=match tb t,elemT P t,getV get l,sameOpd l c,rk b with
 | some (.tab tt s ti e),some et,some (.int _ n),true,none=>match P.info? et,zeroT P et with
  | some i,some cs=>match oput (fun _=>none) b ti e 0 s (cs.map .v),Nat.beq tt et&&Nat.beq i.size s.size&&Nat.ble 1 i.bytes with
   | some (z,[],.nil),true=>some ⟨.c false [.row b],.xset b (.tab et s (tabZ s z n.toNat 0) ti e (List.replicate n.toNat (some []))) [],[decide (0<=n),fitB n.toNat i.bytes]⟩
   | _,_=>none
  | _,_=>none
 | _,_,_,_,_=>none
theorem tabZ_len (s:Sh) (z:s.T):∀n k,(tabZ s z n k).length=n
 | 0,_=>rfl
 | n+1,k=>by simp[tabZ,tabZ_len s z n]
theorem madeCells_flat {zs:List Value} {sz:Nat} (hl:zs.length=sz) (hpos:0<sz):∀n:Nat,(madeCells zs.toArray (n*sz)).toList=(List.replicate n zs).flatten:=by
 intro n
 apply List.ext_getElem?
 intro k
 have hlen:((List.replicate n zs).flatten).length=n*sz:=by simp[hl]
 by_cases hk:k<n*sz
 ·have hq:k / sz<n:=by rw[Nat.div_lt_iff_lt_mul hpos];exact hk
  have hm:k % sz<sz:=Nat.mod_lt _ hpos
  have e1:(List.replicate n zs).flatten[k]?=some (zs[k % sz]'(by omega)):=by
   have:=flatten_at (n:=sz) (css:=List.replicate n zs) (k:=k / sz) (c:=zs) (j:=k % sz) (v:=zs[k % sz]'(by omega)) (fun x hx=>by rw[List.eq_of_mem_replicate hx];exact hl) (by rw[List.getElem?_replicate,if_pos hq]) (List.getElem?_eq_getElem _)
   rwa [show k / sz*sz+k % sz=k by rw[Nat.mul_comm];exact Nat.div_add_mod k sz] at this
  rw[e1]
  simp only[madeCells,Array.toList_map,Array.toList_range,List.getElem?_map,List.getElem?_range hk,Option.map_some,List.size_toArray,hl]
  congr 1
  exact getElem!_pos zs.toArray (k % sz) (by simp;omega)
 ·rw[List.getElem?_eq_none (by simp[madeCells];omega),List.getElem?_eq_none (by omega)]
theorem tabZ_rel {E':Env} {b:Nat} {s:Sh} {z:s.T} {cs:List Value} {N:Nat} (hz:∀k,k<N->ODat E' b s (shS k s z) cs):∀n k,k+n<=N->TabRel E' b s (tabZ s z n k) (List.replicate n cs).flatten
 | 0,_,_=>rfl
 | n+1,k,h=>⟨cs,(List.replicate n cs).flatten,by simp[List.replicate_succ],hz k (by omega),tabZ_rel hz n (k+1) (by omega)⟩
theorem makeXC_ok {tb:TypeId->Option XP} {get:Operand->Option SV} {rk:Rk} {b:Nat} {t:TypeId} {l c:Operand} {r:Core} (ho:o.op=.makeSlice t l c) (h:makeXC tb P get rk b t l c=some r) (hp:allB r.p=true) (hg:Gets E a get o) (hm:Mod N E a g) (hb:rk b=none->g.r b=none):CoreOk P N g E a o r:=by
 unfold makeXC at h
 split at h
 case h_2=>cases h
 rename_i tt s ti e et kk n htb hu hl hsame hbn
 split at h
 case h_2=>cases h
 rename_i i cs hi hz
 split at h
 case h_2=>cases h
 rename_i z hzo hsz
 injection h with h
 subst h
 simp only[Bool.and_eq_true,Nat.beq_eq,Nat.ble_eq] at hsz
 obtain ⟨⟨htt,hsz1⟩,hby⟩:=hsz
 obtain ⟨hp0,hp1⟩:=allB_cons hp
 have h0:0<=n:=of_decide_eq_true hp0
 have hfit:n.toNat*i.bytes<=140737488355328:=fitB_iff.1 hp1
 have e1:=getV_eval hg (by simp[ho,Op.operands]) hl
 obtain ⟨k',e2⟩:=sameOpd_eval hsame e1
 obtain ⟨i',zv,hi',hzv,hcs,hone⟩:=zeroT_info hz
 rw[hi] at hi'
 injection hi' with hi'
 subst hi'
 have hn:n=((n.toNat:Nat):Int):=by omega
 have h63:n.toNat<=maxLen:=by
  have:n.toNat<=n.toNat*i.bytes:=Nat.le_mul_of_pos_right _ hby
  simp only[maxLen]
  omega
 obtain ⟨w',r1,r2,r3⟩:=run_make_full (P:=P) E.w E.w.heap.size t et i zv s.size (elemT_eq hu) hi hzv hsz1 kk k' n.toNat (by rw[Nat.mul_comm];omega) h63 (Nat.le_refl _)
 obtain ⟨_,c1,c2,hc,hc2,hput⟩:=oput_rel hzo (relL_v (E:={ E with ν:=fun _=>0 }) cs)
 have hc2:c2=[]:=by
  match c2,hc2 with
  | [],_=>rfl
 subst hc2
 rw[List.append_nil] at hc
 subst hc
 have hc:zv.cells=cs.toArray:=by rw[<-hcs]
 have hlow:∀k,k<E.w.heap.size->w'.heap[k]?=E.w.heap[k]?:=fun k hk=>r3.block k hk fun e=>by cases e
 have hdat:∀(s:Sh) (z:s.T) (cs:List Value),Dat E.w E.Z s z cs->Dat w' E.Z s z cs:=fun s z cs hd=>Dat.mono (fun _ h=>h) (fun k hk=>hlow k (hm.glob.zlt k hk)) hd
 let v:Value:=.slice (some ⟨E.w.heap.size,0,none⟩) n.toNat n.toNat
 let F:Nat->Prop:=fun c=>c=E.w.heap.size
 obtain ⟨E',hE'⟩:∃E',E'=E.xput b v w' F (fun _=>.slice none 0 0) n.toNat:=⟨_,rfl⟩
 have eι:E'.ι b=fun _=>.slice none 0 0:=by rw[hE'];simp[Env.xput]
 have eρ:E'.ρ b=v:=by rw[hE'];simp[Env.xput]
 have eφ:E'.φ b=F:=by rw[hE'];simp[Env.xput]
 have eν:E'.ν b=n.toNat:=by rw[hE'];simp[Env.xput]
 have eR:E'.R b:=by rw[hE'];exact .inr rfl
 have ew:E'.w=w':=by rw[hE'];rfl
 have ew0:E'.w0=E.w0:=by rw[hE'];rfl
 have eZ:E'.Z=E.Z:=by rw[hE'];rfl
 have hone1:ODat { E with w:=w',ι:=fun _ _=>.slice none 0 0,ν:=fun _=>1 } b s z cs:=hput _ (fun i hi=>absurd hi (Nat.not_lt_zero i)) (Nat.zero_le _) (fun v hv=>⟨by injection hv,Nat.one_pos⟩) hdat
 have hel:∀k,k<n.toNat->ODat E' b s (shS k s z) cs:=fun k hk=>odat_shift (n:=k) (fun i _=>by rw[eι]) (by rw[eν];exact hk) (by rw[ew,eZ];exact fun _ _ _ h=>h) hone1
 have hsize:cs.length=s.size:=odat_len hone1
 have hx':XOk E' b (.tab et s (tabZ s z n.toNat 0) ti e (List.replicate n.toNat (some []))):=by
  refine ⟨eR,⟨_,?_,by have:=tabZ_rel hel n.toNat 0 (by omega);exact this⟩,fun c hc=>?_,by rw[eν];simp,fun j l1 hj=>?_,fun j1 j2 l1 l2 c hj1 hj2 hc1 hc2=>?_⟩
  ·rw[ew,ew0,eρ,tabZ_len,<-madeCells_flat hsize (Sh.size_pos' s),<-hc]
   exact ⟨r2.1,r2.2.imp id fun ⟨b,cap,cur,h1,h2,h3⟩=>⟨b,cap,cur,h1,Nat.le_trans hm.glob.below.size h2,h3⟩⟩
  ·rw[eρ] at hc
   rw[eφ]
   simp only[v,Value.ownBlock,Option.some.injEq] at hc
   exact hc.symm
  ·have hl1:l1=[]:=by
    rw[List.getElem?_replicate] at hj
    split at hj
    ·injection hj with hj;injection hj with hj;exact hj.symm
    ·cases hj
   subst hl1
   unfold InnOk
   rw[eι]
   exact ⟨⟨[],World.ownsRow_nil _ _ _ _,rfl⟩,rfl,fun c hc=>by cases hc⟩
  ·rw[eι] at hc1
   cases hc1
 subst hE'
 obtain ⟨m1,m2⟩:=xset_mod hm (k:=b) (x:=.tab et s (tabZ s z n.toNat 0) ti e (List.replicate n.toNat (some []))) (u:=[]) (w':=w') (v:=v) (F:=F) (I:=fun _=>.slice none 0 0) (n:=n.toNat)
  (.inl (hb hbn)) (by simp) (fun c hc=>.inl ⟨by rw[show c=E.w.heap.size from hc];exact Nat.le_refl _,by rw[show c=E.w.heap.size from hc];exact (r2.lt _ rfl).2⟩) (fun c hc _=>hlow c hc) r3.os r3.tape r3.output r3.size hx'
 refine CoreOk.value (E':=E.xput b v w' F (fun _=>.slice none 0 0) n.toNat) (v:=v) ?_ rfl m2 m1 ⟨[_],rfl,⟨⟨eρ.symm,eR,rfl⟩,trivial⟩,fun _=>rfl⟩
 have e1':a.eval l=.int kk ((n.toNat:Nat):Int):=by rw[e1];congr 1
 have e2':a.eval c=.int k' ((n.toNat:Nat):Int):=by rw[e2];congr 1
 simp only[execOp,ho,e1',e2',Sem.run_bind,r1,Result.andThen_ok,Sem.run_pure]
 rfl
end
end Dn
end Go.Proofs.YtlfdhaiigdllcaaGreatDoor
