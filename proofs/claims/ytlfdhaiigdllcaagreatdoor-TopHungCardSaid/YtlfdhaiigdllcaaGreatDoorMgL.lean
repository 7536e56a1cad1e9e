/- A symbolic executor: the contract of a function out of its body; functions that are walked in place; contexts. -/
import Derived.KernelRfl
import Derived.Test.YtlfdhaiigdllcaaGreatDoorMgK

namespace Go.Proofs.YtlfdhaiigdllcaaGreatDoor
namespace Dn
noncomputable section
open Go.RowKit
def initS:(as:List Sh)->TsS as->Nat->List (Nat×Option SlotV)
 | [],_,_=>[]
 | s ::r,x,i=>(i,some ⟨none,.c s.isAgg (Sh.cells s x.1)⟩) ::initS r x.2 (i+1)
def initF:(fs:List (List Sh×Sh))->TsF fs->Nat->List (Nat×Option SlotV)
 | [],_,_=>[]
 | s ::r,x,i=>(i,some ⟨none,.c false [.fn s.1 s.2 x.1]⟩) ::initF r x.2 (i+1)
def initC:(cs:List Sh)->TsS cs->Nat->List (Nat×Option SlotV)
 | [],_,_=>[]
 | s ::r,x,i=>(i,some ⟨none,.c false [.rf s x.1 0]⟩) ::initC r x.2 (i+1)
def Ctr.init (c:Ctr) (x:TsS c.as) (F:TsF c.fs) (y:TsS c.cs):St :=
 {s:=initS c.as x 0++initF c.fs F c.as.length++initC c.cs y (c.as.length+c.fs.length),h:=[],r:=[],next:=0 }
def resS (P:Program) (g:Look):List ResultVar->Option (List SV)
 | []=>some []
 | .tmp t ::r=>match g.s t,resS P g r with
  | some ⟨none,s⟩,some l=>some (s ::l)
  | _,_=>none
 | .cell t ty ::r=>match g.s t,resS P g r with
  | some ⟨none,.c false [.ptr b off]⟩,some l=>match g.h b with
   | some m=>match partC P ty m off with
    | some s=>some (s ::l)
    | none=>none
   | none=>none
  | _,_=>none
def readVs:(l:List Sh)->List SV->Option (TsS l)
 | [],[]=>some ()
 | s ::r,v ::vs=>match s.whole v,readVs r vs with
  | some x,some y=>some (x,y)
  | _,_=>none
 | _,_=>none
def notOne:List Sh->Bool
 | [_]=>false
 | _=>true
def readRet:(r:RSh)->List SV->Option r.T
 | .one s,[v]=>s.whole v
 | .tup l,vs=>match notOne l with
  | true=>readVs l vs
  | false=>none
 | _,_=>none
def post (P:Program) (r:RSh) (rv:Array ResultVar):Ex->St->Option r.T
 | .exit _,_=>none
 | _,σ=>match resS P σ.look rv.toList with
  | some vs=>guardB (liveR σ.look.r (rowsVs vs)) (readRet r (thawVs σ.look.r vs))
  | none=>none
def argSlots:List SV->Nat->List (Nat×Option SlotV)
 | [],_=>[]
 | v ::r,i=>(i,some ⟨none,v⟩) ::argSlots r (i+1)
def inlF (lp:Lp) (jn:Jn) (C:Ctx) (hl:FuncId->Hint):Nat->Inl
 | 0=>fun _ _ _ _ _=>none
 | d+1=>fun _ id args σ K=>match C.P.funcs[id]? with
  | some fn=>match fn.body,Nat.ble args.length fn.ntmps with
   | some code,true=>den lp jn (inlF lp jn C hl d) C fn.ntmps { hl id with inner:=true } code { σ with s:=argSlots args 0 } fun e σ'=>match e with
    | .exit _=>none
    | _=>match resS C.P σ'.look fn.results.toList with
     | some svs=>K svs σ'
     | none=>none
   | _,_=>none
  | none=>none
def Env.setRg (E:Env) (b:Bool):Env:={ E with rg:=b }
section
variable {E:Env} {b:Bool}
theorem RelA.setRg:∀{x:At} {v:Value},RelA E x v->RelA (E.setRg b) x v
 | .u,_,h=>h
 | .v _,_,h=>h
 | .ptr _ _,_,h=>h
 | .clo _ _,_,h=>h
 | .sl _ _,_,h=>h
 | .row _,_,h=>h
 | .rf _ _ _,_,h=>h
 | .re _ _ _ _,_,h=>h
 | .sub _ _ _ _,_,h=>h
 | .ae _ _ _ _ _ _,_,h=>h
 | .sn _ _,_,h=>h
 | .ir _ _,_,h=>h
 | .ie _ _ _ _ _,_,h=>h
 | .fn _ _ _,_,h=>h
theorem RelL.setRg:∀{l:List At} {vs:List Value},RelL E l vs->RelL (E.setRg b) l vs
 | [],[],_=>trivial
 | _ ::_,_ ::_,hv=>⟨hv.1.setRg,RelL.setRg hv.2⟩
 | [],_ ::_,hv=>hv.elim
 | _ ::_,[],hv=>hv.elim
theorem RelC.setRg {ag:Bool} {l:List At} {v:Value} (hv:RelC E ag l v):RelC (E.setRg b) ag l v :=
 let ⟨cs,h1,h2,h3⟩:=hv
 ⟨cs,h1,h2.setRg,h3⟩
theorem RelT.setRg:∀{l:List (Bool×List At)} {vs:List Value},RelT E l vs->RelT (E.setRg b) l vs
 | [],[],_=>trivial
 | _ ::_,_ ::_,hv=>⟨hv.1.setRg,RelT.setRg hv.2⟩
 | [],_ ::_,hv=>hv.elim
 | _ ::_,[],hv=>hv.elim
theorem RelV.setRg:∀{s:SV} {v:Value},RelV E s v->RelV (E.setRg b) s v
 | .c _ _,_,hv=>RelC.setRg hv
 | .tup _,_,⟨vs,h1,h2⟩=>⟨vs,h1,h2.setRg⟩
theorem RelS.setRg {s:SlotV} {v:Value} (hv:RelS E s v):RelS (E.setRg b) s v:=by
 unfold RelS at *
 split at hv
 ·exact hv.setRg
 ·exact ⟨fun hc=>(hv.1 hc).setRg,hv.2⟩
theorem MemOk.setRg {g:Look} (h:MemOk E g):MemOk (E.setRg b) g :=
 ⟨⟨h.glob.below,h.glob.zlt,h.glob.z0,h.glob.zfrom,h.glob.live,h.glob.rlive,h.glob.own,h.glob.inj,h.glob.rown,h.glob.rinj,⟨h.glob.xg.own,h.glob.xg.inj⟩,h.glob.gd⟩,fun i l hi=>by
  obtain ⟨h1,cs,t,h2,h3,h4⟩:=h.blks i l hi
  exact ⟨h1,cs,t,h2,h3.setRg,h4⟩,fun i r hi=>h.rows i r hi,fun i x hi=>XOk.re (E:=E) rfl rfl rfl (h.xs i x hi).live rfl rfl rfl rfl (h.xs i x hi)⟩
end
section
variable {N:Nat} {E:Env} {a:Act}
theorem resS_run {g:Look} (hm:Mod N E a g):∀{rv:List ResultVar} {l:List SV},resS E.P g rv=some l ->
  ∃vs,(rv.mapM (m:=Sem) fun | .tmp t=>pure (a.tmps.getD t undef) | .cell x t=>do loadVar t (<-asAddr (a.tmps.getD x undef))).run E.P E.w=.ok vs E.w/\RelVs E l vs
 | [],l,h=>by
  simp only[resS] at h
  injection h with h
  subst h
  exact ⟨[],rfl,trivial⟩
 | .tmp t ::r,l,h=>by
  simp only[resS] at h
  split at h
  ·rename_i s l' hs hl
   injection h with h
   subst h
   obtain ⟨vs,h1,h2⟩:=resS_run hm hl
   obtain ⟨v,hv,hr⟩:=hm.slots t _ hs
   refine ⟨v ::vs,?_,hr,h2⟩
   have e:a.tmps.getD t undef=v:=by simp[hv]
   simp only[List.mapM_cons,Sem.run_bind,e,Sem.run_pure,Result.andThen_ok,h1]
  ·cases h
 | .cell t ty ::r,l,h=>by
  simp only[resS] at h
  split at h
  ·rename_i b off l' hs hl
   split at h
   ·rename_i m hb
    split at h
    ·rename_i s hp
     injection h with h
     subst h
     obtain ⟨vs,h1,h2⟩:=resS_run hm hl
     obtain ⟨v,hv,hr⟩:=hm.slots t _ hs
     obtain ⟨cs,hv2,hc,_⟩:=(hr:RelC E false [.ptr b off] v)
     match cs,hc with
     | [y],hc =>
      obtain ⟨⟨hy,_⟩,_⟩:=hc
      obtain ⟨ds,hd,hcl⟩:=blk_cells (hm.blks b m hb)
      obtain ⟨u,hrun,hrel⟩:=partC_run hp hd E.w hcl
      refine ⟨u ::vs,?_,hrel,h2⟩
      have e:a.tmps.getD t undef=.pointer (some ⟨E.β b,off,none⟩):=by
       rw[hy] at hv2
       simp[hv,hv2,mkV,ptrV]
      rw[add_lit,Nat.zero_add] at hrun
      have ea:(asAddr (a.tmps.getD t undef)).run E.P E.w=.ok ⟨E.β b,off,none⟩ E.w:=by rw[e];rfl
      simp only[List.mapM_cons,Sem.run_bind,ea,Result.andThen_ok,hrun,h1,Sem.run_pure]
    ·cases h
   ·cases h
  ·cases h
theorem relVs_length:∀{l:List SV} {vs:List Value},RelVs E l vs->l.length=vs.length
 | [],[],_=>rfl
 | _ ::_,_ ::_,h=>by simp[relVs_length h.2]
 | [],_ ::_,h=>h.elim
 | _ ::_,[],h=>h.elim
theorem results_run {g:Look} (hm:Mod N E a g) {fn:Func} {svs:List SV} (h:resS E.P g fn.results.toList=some svs):∃vs,RelVs E svs vs/\(results fn a.tmps).run E.P E.w=.ok (if h:vs.length=1 then vs[0] else .tuple vs.toArray) E.w:=by
 obtain ⟨vs,h1,h2⟩:=resS_run hm h
 refine ⟨vs,h2,?_⟩
 unfold results
 rw[<-Array.toArray_toList (xs:=fn.results),List.mapM_toArray]
 rw[Sem.run_bind,Sem.run_map]
 erw [h1]
 rfl
theorem compsOf_rel:∀{l:List SV} {m:List (Bool×List At)} {vs:List Value},compsOf l=some m->RelVs E l vs->RelT E m vs
 | [],m,[],h,_=>by simp only[compsOf,Option.some.injEq] at h;subst h;trivial
 | .c ag l ::r,m,v ::vs,h,hr=>by
  simp only[compsOf] at h
  split at h
  ·rename_i m' hm
   injection h with h
   subst h
   exact ⟨hr.1,compsOf_rel hm hr.2⟩
  ·cases h
 | .tup _ ::_,_,_,h,_=>by simp[compsOf] at h
 | [],_,_ ::_,_,hr=>hr.elim
 | .c _ _ ::_,_,[],_,hr=>hr.elim
theorem retSV_rel {l:List SV} {sv:SV} {vs:List Value} (h:retSV l=some sv) (hr:RelVs E l vs):RelV E sv (if h:vs.length=1 then vs[0] else .tuple vs.toArray):=by
 have e:=relVs_length hr
 unfold retSV at h
 split at h
 ·injection h with h
  subst h
  match vs,hr with
  | [u],hr=>exact hr.1
 ·rename_i hne
  split at h
  ·rename_i m hm
   injection h with h
   subst h
   have hv:¬ vs.length=1:=fun h1=>by
    match l,e,hne with
    | [x],_,hne=>exact hne x rfl
    | [],e,_=>simp only[List.length_nil] at e;omega
    | _ ::_ ::_,e,_=>simp only[List.length_cons] at e;omega
   rw[dif_neg hv]
   exact ⟨vs,rfl,compsOf_rel hm hr⟩
  ·cases h
theorem argSlots_rel:∀{args:List SV} {vs:List Value} {i:Nat},RelVs E args vs->∀j t,look (argSlots args i) j=some (some t)->∃v,i<=j/\vs[j - i]?=some v/\RelS E t v
 | [],_,i,_,j,t,h=>by simp[argSlots,look] at h
 | s ::r,v ::vs,i,hr,j,t,h=>by
  simp only[argSlots] at h
  rw[look_cons] at h
  split at h
  ·rename_i e
   simp only[Option.some.injEq] at h
   subst h
   subst e
   exact ⟨v,Nat.le_refl _,by simp,hr.1⟩
  ·obtain ⟨u,h3,h4,h5⟩:=argSlots_rel hr.2 j t h
   refine ⟨u,by omega,?_,h5⟩
   rw[show j - i=(j - (i+1))+1 by omega]
   exact h4
 | _ ::_,[],_,hr,_,_,_=>hr.elim
theorem inlF_ok {C:Ctx} (hC:C.ok) (hmix:C.P.follows .mixedOrders=true) {hl:FuncId->Hint}:∀d,InlOk C (inlF lpK jnK C hl d)
 | 0=>fun _ _ _ _ _ _ h=>by cases h
 | d+1=>fun R id args σ K z h hro E hm hP vs hvs post hpost=>by
  simp only[inlF] at h
  split at h
  ·rename_i fn hf
   split at h
   ·rename_i code hb hle
    have hle:args.length<=fn.ntmps:=by simpa using hle
    have hlen:=relVs_length hvs
    refine calls_of_wp hf hb (wpIn_wide (n:=0).1 ?_)
    have hmod:Mod fn.ntmps (E.setRg false) { tmps:=vs++Array.replicate (fn.ntmps - vs.size) undef,defers:=[] } ({ σ with s:=argSlots args 0 }:St).look:=by
     have hm':MemOk (E.setRg false) ({ σ with s:=argSlots args 0 }:St).look:=(hm.of (g':=({ σ with s:=argSlots args 0 }:St).look) rfl rfl).setRg
     refine ⟨hm'.glob,trivial,?_,fun i t hi=>?_,hm'.blks,hm'.rows,hm'.xs⟩
     ·have:vs.size=args.length:=by rw[hlen];simp
      simp only[Array.size_append,Array.size_replicate]
      omega
     ·simp only[St.look,lookS] at hi
      split at hi
      ·rename_i t' hl'
       injection hi with hi
       subst hi
       obtain ⟨v,_,h2,h3⟩:=argSlots_rel hvs i t' hl'
       rw[Nat.sub_zero] at h2
       refine ⟨v,?_,h3.setRg⟩
       have hlt:=(List.getElem?_eq_some_iff.1 h2).1
       rw[Array.getElem?_append_left (by simpa using hlt)]
       simpa using h2
      ·cases hi
    refine den_ok (F:=Fence.wide) hC (inlF_ok hC hmix d) hmix (.inl rfl) (fun _=>rfl) h hro ⟨hP,fun e=>by cases e⟩ (E:=E.setRg false) hmod fun e σ' E' a' hk hs hkp hf' hsl hm'=>?_
    have hdef:a'.defers=[]:=Marks.none hkp.rg hm'.nodef
    have hkp2:Keep E (E'.setRg E.rg):=⟨rfl,fun x v hv=>(hkp x v hv.setRg).setRg,fun b o hb=>hkp.obj b o hb⟩
    have hs2:Same E (E'.setRg E.rg):=hs
    have fin:∀svs,resS C.P σ'.look fn.results.toList=some svs->K svs σ'=some z->a'.defers=[]/\∃v,(results fn a'.tmps).run C.P E'.w=.ok v E'.w/\post (.returned v) E'.w:=fun svs hsv hkk=>by
     have hPP:E'.P=C.P:=hs2.P.trans hP
     rw[<-hPP] at hsv
     obtain ⟨us,hu1,hu2⟩:=results_run hm' hsv
     rw[hPP] at hu2
     exact ⟨hdef,_,hu2,hpost svs σ' (E'.setRg E.rg) _ hkk hs2 hkp2 ⟨hf'.ro,hf'.roR,hf'.h,hf'.r⟩ (hm'.memOk.setRg) fun sv hsv'=>(retSV_rel hsv' hu1).setRg⟩
    cases e with
    | normal =>
     simp only at hk
     split at hk
     ·rename_i svs hsv;exact fin svs hsv hk
     ·cases hk
    | ret =>
     simp only at hk
     split at hk
     ·rename_i svs hsv;exact fin svs hsv hk
     ·cases hk
    | exit i=>cases hk
   ·cases h
  ·cases h
theorem readVs_rel:∀{l:List Sh} {svs:List SV} {z:TsS l} {vs:List Value},readVs l svs=some z->RelVs E svs vs->DatVs E.w E.Z l z vs
 | [],[],_,[],_,_=>rfl
 | s ::r,v ::svs,z,u ::us,h,hr=>by
  simp only[readVs] at h
  split at h
  ·rename_i x y hx hy
   injection h with h
   subst h
   simp only[DatVs]
   exact ⟨u,us,rfl,whole_rel hx hr.1,readVs_rel hy hr.2⟩
  ·cases h
 | [],[],_,_ ::_,_,hr=>hr.elim
 | _ ::_,_ ::_,_,[],_,hr=>hr.elim
 | [],_ ::_,_,_,h,_=>by simp[readVs] at h
 | _ ::_,[],_,_,h,_=>by simp[readVs] at h
theorem readVs_length:∀{l:List Sh} {svs:List SV} {z:TsS l},readVs l svs=some z->svs.length=l.length
 | [],[],_,_=>rfl
 | s ::r,v ::svs,z,h=>by
  simp only[readVs] at h
  split at h
  ·rename_i x y hx hy
   simp[readVs_length hy]
  ·cases h
 | [],_ ::_,_,h=>by simp[readVs] at h
 | _ ::_,[],_,h=>by simp[readVs] at h
theorem readRet_rel {r:RSh} {svs:List SV} {z:r.T} {vs:List Value} (h:readRet r svs=some z) (hr:RelVs E svs vs):RetV E.w E.Z r z (if h:vs.length=1 then vs[0] else .tuple vs.toArray):=by
 cases r with
 | one s =>
  match svs,vs,hr with
  | [v],[u],hr=>exact whole_rel h hr.1
  | [],_,_=>simp[readRet] at h
  | _ ::_ ::_,_,_=>simp[readRet] at h
 | tup l =>
  simp only[readRet] at h
  split at h
  ·rename_i h1
   have e1:=readVs_length h
   have e2:=relVs_length hr
   have hne:¬ vs.length=1:=by
    intro e
    match l,e1,h1 with
    | [],e1,_=>simp only[List.length_nil] at e1;omega
    | [_],_,h1=>simp[notOne] at h1
    | _ ::_ ::_,e1,_=>simp only[List.length_cons] at e1;omega
   rw[dif_neg hne]
   exact ⟨vs,rfl,readVs_rel h hr⟩
  ·cases h
theorem initS_slots:∀{as:List Sh} {x:TsS as} {vals:List Value} {i:Nat},DatVs E.w E.Z as x vals->∀j t,look (initS as x i) j=some (some t)->∃v,i<=j/\vals[j - i]?=some v/\RelS E t v
 | [],_,_,i,_,j,t,h=>by simp[initS,look] at h
 | s ::r,x,vals,i,hd,j,t,h=>by
  simp only[DatVs] at hd
  obtain ⟨v,vs',rfl,h1,h2⟩:=hd
  simp only[initS] at h
  rw[look_cons] at h
  split at h
  ·rename_i e
   simp only[Option.some.injEq] at h
   subst h
   subst e
   exact ⟨v,Nat.le_refl _,by simp,datV_rel h1⟩
  ·rename_i e
   obtain ⟨u,h3,h4,h5⟩:=initS_slots h2 j t h
   refine ⟨u,by omega,?_,h5⟩
   rw[show j - i=(j - (i+1))+1 by omega]
   exact h4
theorem DatVs.length {w:World} {Z:Nat->Prop}:∀{as:List Sh} {x:TsS as} {vals:List Value},DatVs w Z as x vals->vals.length=as.length
 | [],_,_,h=>by simp only[DatVs] at h;subst h;rfl
 | _ ::_,_,_,h=>by simp only[DatVs] at h;obtain ⟨v,vs',rfl,_,h2⟩:=h;simp[DatVs.length h2]
theorem FnVs.length {P:Program} {w:World} {Z:Nat->Prop}:∀{as:List (List Sh×Sh)} {x:TsF as} {vals:List Value},FnVs P w Z as x vals->vals.length=as.length
 | [],_,_,h=>by simp only[FnVs] at h;subst h;rfl
 | _ ::_,_,_,h=>by simp only[FnVs] at h;obtain ⟨v,vs',rfl,_,h2⟩:=h;simp[FnVs.length h2]
theorem RefVs.length {w:World} {Z:Nat->Prop}:∀{as:List Sh} {x:TsS as} {vals:List Value},RefVs w Z as x vals->vals.length=as.length
 | [],_,_,h=>by simp only[RefVs] at h;subst h;rfl
 | _ ::_,_,_,h=>by simp only[RefVs] at h;obtain ⟨v,vs',rfl,_,h2⟩:=h;simp[RefVs.length h2]
theorem initF_slots (hE:E.w0=E.w) (hZ:E.Z0=E.Z):∀{as:List (List Sh×Sh)} {x:TsF as} {vals:List Value} {i:Nat},FnVs E.P E.w E.Z as x vals->∀j t,look (initF as x i) j=some (some t)->∃v,i<=j/\vals[j - i]?=some v/\RelS E t v
 | [],_,_,i,_,j,t,h=>by simp[initF,look] at h
 | s ::r,x,vals,i,hd,j,t,h=>by
  simp only[FnVs] at hd
  obtain ⟨v,vs',rfl,h1,h2⟩:=hd
  simp only[initF] at h
  rw[look_cons] at h
  split at h
  ·rename_i e
   simp only[Option.some.injEq] at h
   subst h
   subst e
   refine ⟨v,Nat.le_refl _,by simp,⟨[v],rfl,⟨?_,trivial⟩,fun _=>rfl⟩⟩
   obtain ⟨q,cap,g1,g2,g3⟩:=h1
   refine ⟨q,cap,g1,g2,fun w' Z' x y vals hA hZ'=>g3 w' Z' x y vals ?_ hZ'⟩
   have:=hA.1
   rw[hE] at this
   exact this
  ·rename_i e
   obtain ⟨u,h3,h4,h5⟩:=initF_slots hE hZ h2 j t h
   refine ⟨u,by omega,?_,h5⟩
   rw[show j - i=(j - (i+1))+1 by omega]
   exact h4
theorem initC_slots (hE:E.w0=E.w):∀{as:List Sh} {x:TsS as} {vals:List Value} {i:Nat},RefVs E.w E.Z as x vals->∀j t,look (initC as x i) j=some (some t)->∃v,i<=j/\vals[j - i]?=some v/\RelS E t v
 | [],_,_,i,_,j,t,h=>by simp[initC,look] at h
 | s ::r,x,vals,i,hd,j,t,h=>by
  simp only[RefVs] at hd
  obtain ⟨v,vs',rfl,h1,h2⟩:=hd
  simp only[initC] at h
  rw[look_cons] at h
  split at h
  ·rename_i e
   simp only[Option.some.injEq] at h
   subst h
   subst e
   obtain ⟨b,cs,rfl,hb,hd',hc⟩:=h1
   refine ⟨.pointer (some ⟨b,0,none⟩),Nat.le_refl _,by simp,⟨[.pointer (some ⟨b,0,none⟩)],rfl,⟨⟨⟨b,0,none⟩,cs,by simp[Addr.add],.inr (by rw[hE];exact hb),hd',fun j u hj=>by rw[add_lit,Nat.zero_add];exact hc j u hj⟩,trivial⟩,fun _=>rfl⟩⟩
  ·rename_i e
   obtain ⟨u,h3,h4,h5⟩:=initC_slots hE h2 j t h
   refine ⟨u,by omega,?_,h5⟩
   rw[show j - i=(j - (i+1))+1 by omega]
   exact h4
theorem look_append_or {α:Type} {i:Nat}:∀{l m:List (Nat×α)} {x:α},look (l++m) i=some x->look l i=some x\/look m i=some x
 | [],m,x,h=>.inr h
 | p ::r,m,x,h=>by
  rw[List.cons_append,look_cons] at h
  rw[look_cons]
  split at h
  ·exact .inl (by rw[if_pos (by assumption)];exact h)
  ·rw[if_neg (by assumption)]
   exact look_append_or h
theorem retV_mono {w:World} {Z Z':Nat->Prop} (hZ:∀b,Z b->Z' b) {r:RSh} {x:r.T} {v:Value} (h:RetV w Z r x v):RetV w Z' r x v:=by
 have one:∀{s:Sh} {x:s.T} {v:Value},DatV w Z s x v->DatV w Z' s x v:=fun ⟨cs,h1,h2,h3⟩=>⟨cs,Dat.mono hZ (fun _ _=>rfl) h1,h2,h3⟩
 cases r with
 | one s=>exact one h
 | tup l =>
  obtain ⟨vs,h1,h2⟩:=h
  refine ⟨vs,h1,?_⟩
  clear h1
  induction l generalizing vs with
  | nil=>exact h2
  | cons s r ih =>
   simp only[DatVs] at h2 ⊢
   obtain ⟨v,vs',h3,h4,h5⟩:=h2
   exact ⟨v,vs',h3,one h4,ih (x:=x.2) vs' h5⟩
def runC (lp:Lp) (jn:Jn) (C:Ctx) (hl:FuncId->Hint) (d:Nat) (id:FuncId) (fn:Func) (c:Ctr) (x:TsS c.as) (F:TsF c.fs) (y:TsS c.cs):Option c.r.T :=
 den lp jn (inlF lp jn C hl d) C fn.ntmps (hl id) (fn.body.getD .skip) (c.init x F y) (post C.P c.r fn.results)
theorem Ctr.of_rec {C:Ctx} (hC:C.ok) (hmix:C.P.follows .mixedOrders=true) {rec:Inl} (hI:InlOk C rec) {hl:FuncId->Hint} {f:FuncId} {fn:Func} {code:Code} {c:Ctr} (hf:C.P.funcs[f]?=some fn) (hb:fn.body=some code) (hn:c.as.length+c.fs.length+c.cs.length<=fn.ntmps)
  (h:∀x F y,c.m x F y=den lpK jnK rec C fn.ntmps (hl f) (fn.body.getD .skip) (c.init x F y) (post C.P c.r fn.results)):c.ok C.P f:=by
 intro x F y z hz w Z vals fvals cvals hG hZ h1 h2 h3
 refine calls_of_body hf hb ?_
 let E:Env:={ P:=C.P,w0:=w,Z0:=Z,w:=w,Z:=Z,β:=fun _=>0,L:=fun _=>False,ρ:=fun _=>undef,R:=fun _=>False,φ:=fun _ _=>False,ι:=fun _ _=>undef,ν:=fun _=>0 }
 have l1:=h1.length
 have l2:=h2.length
 have l3:=h3.length
 have hm:Mod fn.ntmps E { tmps:=(vals++fvals++cvals).toArray++Array.replicate (fn.ntmps - (vals++fvals++cvals).toArray.size) undef,defers:=[] } (c.init x F y).look:=by
  refine ⟨⟨Below.refl _ _,hZ,fun _ h=>h,fun _ h=>.inl h,fun b hb=>hb.elim,fun r hr=>hr.elim,fun i l hi=>by simp[Ctr.init,St.look,look] at hi,fun i j l l' hi=>by simp[Ctr.init,St.look,look] at hi,
   fun i r b hi=>by simp[Ctr.init,St.look,look] at hi,fun i j r r' b hi=>by simp[Ctr.init,St.look,look] at hi,⟨fun i x b hi=>by simp[Ctr.init,St.look,look] at hi,fun i j x y b hi=>by simp[Ctr.init,St.look,look] at hi⟩,hG⟩,trivial,?_,fun i t hi=>?_,fun i l hi=>by simp[Ctr.init,St.look,look] at hi,fun i r hi=>by simp[Ctr.init,St.look,look] at hi,fun i x hi=>by simp[Ctr.init,St.look,look] at hi⟩
  ·simp only[Array.size_append,List.size_toArray,List.length_append,Array.size_replicate]
   omega
  ·have get:∀v,(vals++fvals++cvals)[i]?=some v->((vals++fvals++cvals).toArray++Array.replicate (fn.ntmps - (vals++fvals++cvals).toArray.size) undef)[i]?=some v:=fun v hv=>by
    have hlt:=(List.getElem?_eq_some_iff.1 hv).1
    rw[Array.getElem?_append_left (by simpa using hlt)]
    simpa using hv
   simp only[St.look,lookS] at hi
   split at hi
   ·rename_i t' hl
    injection hi with hi
    subst hi
    simp only[Ctr.init] at hl
    rcases look_append_or hl with hl | hl
    ·rcases look_append_or hl with hl | hl
     ·obtain ⟨v,h4,h5,h6⟩:=initS_slots (E:=E) h1 i t' hl
      refine ⟨v,get v ?_,h6⟩
      rw[Nat.sub_zero] at h5
      have hlt:=(List.getElem?_eq_some_iff.1 h5).1
      rw[List.append_assoc,List.getElem?_append_left hlt]
      exact h5
     ·obtain ⟨v,h4,h5,h6⟩:=initF_slots (E:=E) rfl rfl h2 i t' hl
      refine ⟨v,get v ?_,h6⟩
      have hlt:=(List.getElem?_eq_some_iff.1 h5).1
      rw[List.append_assoc,List.getElem?_append_right (by omega),List.getElem?_append_left (by omega),l1]
      exact h5
    ·obtain ⟨v,h4,h5,h6⟩:=initC_slots (E:=E) rfl h3 i t' hl
     refine ⟨v,get v ?_,h6⟩
     rw[List.getElem?_append_right (by simp;omega)]
     simp only[List.length_append,l1,l2]
     exact h5
   ·cases hi
 have hrun:=hz
 rw[h x F y] at hrun
 rw[hb] at hrun
 refine den_ok hC hI hmix (.inl rfl) (fun _=>rfl) hrun (fun i hi=>by simp[Ctr.init] at hi) (E:=E) ⟨rfl,fun _=>rfl⟩ hm fun e σ' E1 a1 hk hs _ _ _ hm1=>?_
 have hcases:e=.normal\/e=.ret:=by
  cases e with
  | normal=>exact .inl rfl
  | ret=>exact .inr rfl
  | exit i=>cases hk
 refine ⟨by rcases hcases with rfl | rfl<;>simp[Ex.to],E1,rfl,hm1.nodef,fun w2 hT=>?_⟩
 obtain ⟨E',hE'⟩:∃E',E'=E1.wset w2:=⟨_,rfl⟩
 have hw2:w2=E'.w:=by rw[hE'];rfl
 have hs:Same E E':=by rw[hE'];exact hs
 have hm':Mod fn.ntmps E' { tmps:=a1.tmps,defers:=[] } σ'.look:=by rw[hE'];exact hm1.turned hT rfl trivial
 rw[hw2]
 clear hm1 hT hE' hw2
 have hP:E'.P=C.P:=hs.P
 have h0:E'.w0=w:=hs.w0
 have hz0:E'.Z0=Z:=hs.Z0
 have done:∀vs,resS C.P σ'.look fn.results.toList=some vs->guardB (liveR σ'.look.r (rowsVs vs)) (readRet c.r (thawVs σ'.look.r vs))=some z->∃v,(results fn a1.tmps).run C.P E'.w=.ok v E'.w/\∃u,Ending.returned v=.returned u/\RetV E'.w (fresh Z w E'.w) c.r z u/\Below w.heap.size w E'.w:=by
  intro vs hvs hok
  obtain ⟨hlv,hok⟩:=guardB_some hok
  rw[<-hP] at hvs
  obtain ⟨us,hu1,hu2⟩:=results_run hm' hvs
  rw[hP] at hu2
  have hu3:=thawVs_rel hm' (fun _ _ h=>h) (u:=rowsVs vs) (liveR_ok hlv) hu1 fun r hr=>hr
  refine ⟨_,hu2,_,rfl,retV_mono (fun b hb=>?_) (readRet_rel (E:=E'.zone σ'.look (rowsVs vs)) hok hu3),?_⟩
  ·rcases hb with hb | ⟨r,_,⟨ri,h5,h6⟩ | ⟨x,h5,h6⟩⟩
   ·rcases hm'.glob.zfrom b hb with h | h
    ·exact .inl (by rw[<-hz0];exact h)
    ·exact .inr ⟨by rw[h0] at h;exact h,hm'.glob.zlt b hb⟩
   ·obtain ⟨h7,h8⟩:=hm'.row_lt h5 h6
    rw[h0] at h7
    exact .inr ⟨h7,h8⟩
   ·obtain ⟨h7,h8,_⟩:=hm'.glob.xg.own r x b h5 h6
    rw[h0] at h7
    exact .inr ⟨h7,h8⟩
  ·have:=hm'.glob.below
   rw[h0] at this
   exact this
 cases e with
 | normal =>
  simp only[post] at hk
  split at hk
  ·rename_i vs hvs
   exact done vs hvs hk
  ·cases hk
 | ret =>
  simp only[post] at hk
  split at hk
  ·rename_i vs hvs
   exact done vs hvs hk
  ·cases hk
 | exit i=>cases hk
theorem Ctr.of_den {C:Ctx} (hC:C.ok) (hmix:C.P.follows .mixedOrders=true) {hl:FuncId->Hint} {d:Nat} {f:FuncId} {fn:Func} {code:Code} {c:Ctr} (hf:C.P.funcs[f]?=some fn) (hb:fn.body=some code) (hn:c.as.length+c.fs.length+c.cs.length<=fn.ntmps)
  (h:∀x F y,c.m x F y=runC lpK jnK C hl d f fn c x F y):c.ok C.P f:=Ctr.of_rec hC hmix (inlF_ok hC hmix d) hf hb hn h
def readRow (rk:Rk) (t:TypeId) (e:Sh):List SV->Option (List e.T)
 | [.c false [x]]=>rowOf rk t e x
 | _=>none
def postR (P:Program) (t:TypeId) (e:Sh) (rv:Array ResultVar):Ex->St->Option (List e.T)
 | .exit _,_=>none
 | _,σ=>match resS P σ.look rv.toList with
  | some vs=>readRow (look σ.r) t e vs
  | none=>none
def initN:(as:List Sh)->TsS as->Bool->List (Nat×Option SlotV)
 | .sl e ::r,x,true=>(0,some ⟨none,.c false [.sn e x.1]⟩) ::initS r x.2 1
 | _ ::r,x,false=>(0,some ⟨none,.c false [.v (.slice none 0 0)]⟩) ::initS r x.2 1
 | _,_,_=>[]
def runR (lp:Lp) (jn:Jn) (C:Ctx) (hl:FuncId->Hint) (d:Nat) (id:FuncId) (fn:Func) (t:TypeId) (e:Sh) (s:List (Nat×Option SlotV)):Option (List e.T) :=
 den lp jn (inlF lp jn C hl d) C fn.ntmps (hl id) (fn.body.getD .skip) { s:=s,h:=[],r:=[],next:=0 } (postR C.P t e fn.results)
theorem runR_ok {C:Ctx} (hC:C.ok) (hmix:C.P.follows .mixedOrders=true) {hl:FuncId->Hint} {d:Nat} {f:FuncId} {fn:Func} {code:Code} {t:TypeId} {e:Sh} {s:List (Nat×Option SlotV)} {l:List e.T} (hf:C.P.funcs[f]?=some fn) (hb:fn.body=some code)
  (h:runR lpK jnK C hl d f fn t e s=some l) {w:World} {Z:Nat->Prop} {vals:List Value} (hn:vals.length<=fn.ntmps) (hG:Gd C.P w) (hZ:∀b,Z b->b<w.heap.size)
  (hs:∀E:Env,E.w=w->E.Z=Z->E.w0=w->E.Z0=Z->∀i s',look s i=some (some s')->∃v,vals[i]?=some v/\RelS E s' v) :
  Calls C.P f vals.toArray w fun en w'=>∃(v:Value) (Z':Nat->Prop),en=.returned v/\(∀b,Z b->Z' b)/\(∀b,Z' b->fresh Z w w' b)/\(∀b,v.ownBlock=some b->¬ Z' b) /\
   (∃xs,w'.ownsRow w.heap.size t e.size v l.length xs/\RowRel w' Z' e l xs)/\Below w.heap.size w w':=by
 refine calls_of_body hf hb ?_
 let E:Env:={ P:=C.P,w0:=w,Z0:=Z,w:=w,Z:=Z,β:=fun _=>0,L:=fun _=>False,ρ:=fun _=>undef,R:=fun _=>False,φ:=fun _ _=>False,ι:=fun _ _=>undef,ν:=fun _=>0 }
 have hm:Mod fn.ntmps E { tmps:=vals.toArray++Array.replicate (fn.ntmps - vals.toArray.size) undef,defers:=[] } ({ s:=s,h:=[],r:=[],next:=0 }:St).look:=by
  refine ⟨⟨Below.refl _ _,hZ,fun _ h=>h,fun _ h=>.inl h,fun b hb=>hb.elim,fun r hr=>hr.elim,fun i l hi=>by simp[St.look,look] at hi,fun i j l l' hi=>by simp[St.look,look] at hi,
   fun i r b hi=>by simp[St.look,look] at hi,fun i j r r' b hi=>by simp[St.look,look] at hi,⟨fun i x b hi=>by simp[St.look,look] at hi,fun i j x y b hi=>by simp[St.look,look] at hi⟩,hG⟩,trivial,?_,fun i t' hi=>?_,fun i l hi=>by simp[St.look,look] at hi,fun i r hi=>by simp[St.look,look] at hi,fun i x hi=>by simp[St.look,look] at hi⟩
  ·simp only[Array.size_append,List.size_toArray,Array.size_replicate]
   omega
  ·simp only[St.look,lookS] at hi
   split at hi
   ·rename_i s' hl'
    injection hi with hi
    subst hi
    obtain ⟨v,h2,h3⟩:=hs E rfl rfl rfl rfl i s' hl'
    refine ⟨v,?_,h3⟩
    have hlt:=(List.getElem?_eq_some_iff.1 h2).1
    rw[Array.getElem?_append_left (by simpa using hlt)]
    simpa using h2
   ·cases hi
 unfold runR at h
 rw[hb] at h
 refine den_ok hC (inlF_ok hC hmix d) hmix (.inl rfl) (fun _=>rfl) h (fun i hi=>by simp at hi) (E:=E) ⟨rfl,fun _=>rfl⟩ hm fun ex σ' E1 a1 hk hs' _ _ _ hm1=>?_
 have hcases:ex=.normal\/ex=.ret:=by
  cases ex with
  | normal=>exact .inl rfl
  | ret=>exact .inr rfl
  | exit i=>cases hk
 refine ⟨by rcases hcases with rfl | rfl<;>simp[Ex.to],E1,rfl,hm1.nodef,fun w2 hT=>?_⟩
 obtain ⟨E',hE'⟩:∃E',E'=E1.wset w2:=⟨_,rfl⟩
 have hw2:w2=E'.w:=by rw[hE'];rfl
 have hs':Same E E':=by rw[hE'];exact hs'
 have hm':Mod fn.ntmps E' { tmps:=a1.tmps,defers:=[] } σ'.look:=by rw[hE'];exact hm1.turned hT rfl trivial
 rw[hw2]
 clear hm1 hT hE' hw2
 have hP:E'.P=C.P:=hs'.P
 have h0:E'.w0=w:=hs'.w0
 have hz0:E'.Z0=Z:=hs'.Z0
 have done:∀vs,resS C.P σ'.look fn.results.toList=some vs->readRow (look σ'.r) t e vs=some l->∃v,(results fn a1.tmps).run C.P E'.w=.ok v E'.w/\∃(u:Value) (Z':Nat->Prop),Ending.returned v=.returned u/\(∀b,Z b->Z' b)/\(∀b,Z' b->fresh Z w E'.w b)/\(∀b,u.ownBlock=some b->¬ Z' b) /\
   (∃xs,E'.w.ownsRow w.heap.size t e.size u l.length xs/\RowRel E'.w Z' e l xs)/\Below w.heap.size w E'.w:=by
  intro vs hvs hok
  rw[<-hP] at hvs
  obtain ⟨us,hu1,hu2⟩:=results_run hm' hvs
  rw[hP] at hu2
  refine ⟨_,hu2,_,E'.Z,rfl,fun b hb=>by have:=hm'.glob.z0 b;rw[hz0] at this;exact this hb,fun b hb=>?_,?_⟩
  ·rcases hm'.glob.zfrom b hb with h | h
   ·exact .inl (by rw[<-hz0];exact h)
   ·exact .inr ⟨by rw[h0] at h;exact h,hm'.glob.zlt b hb⟩
  ·have hbel:=hm'.glob.below
   rw[h0] at hbel
   unfold readRow at hok
   split at hok
   ·rename_i x
    match us,hu1 with
    | [u],hu1 =>
     obtain ⟨cs,hu,hr,_⟩:=hu1.1
     match cs,hr with
     | [y],hr =>
      have huy:u=y:=hu
      subst huy
      have hone:(if h:[u].length=1 then [u][0] else Value.tuple [u].toArray)=u:=by simp
      rw[hone]
      cases x with
      | row q =>
       simp only[rowOf] at hok
       split at hok
       ·rename_i ri hri
        split at hok
        ·rename_i he ht _
         obtain ⟨rt,re,rn,rl⟩:=ri
         simp only at he ht
         subst he
         have ht:rt=t:=by simpa using ht
         subst ht
         injection hok with hok
         subst hok
         obtain ⟨⟨hv,_⟩,_⟩:=hr
         obtain ⟨_,xs,o1,o2,_⟩:=hm'.rows q _ hri
         rw[h0] at o1
         exact ⟨fun b hb=>(hm'.glob.rown q _ b hri (by rw[<-hv];exact hb)).1,⟨xs,by rw[hv];exact o1,o2⟩,hbel⟩
        ·cases hok
       ·cases hok
      | v z =>
       unfold rowOf at hok
       split at hok
       ·rename_i heq;cases heq
       ·rename_i heq
        injection heq with heq
        subst heq
        injection hok with hok
        subst hok
        have hv:u=.slice none 0 0:=hr.1
        subst hv
        exact ⟨fun b hb=>(by cases hb),⟨[],World.ownsRow_nil _ _ _ _,rfl⟩,hbel⟩
       ·cases hok
      | _=>simp[rowOf] at hok
   ·cases hok
 cases ex with
 | normal =>
  simp only[postR] at hk
  split at hk
  ·rename_i vs hvs;exact done vs hvs hk
  ·cases hk
 | ret =>
  simp only[postR] at hk
  split at hk
  ·rename_i vs hvs;exact done vs hvs hk
  ·cases hk
 | exit i=>cases hk
theorem RCtr.of_den {C:Ctx} (hC:C.ok) (hmix:C.P.follows .mixedOrders=true) {hl:FuncId->Hint} {d:Nat} {f:FuncId} {fn:Func} {code:Code} {c:RCtr} (hf:C.P.funcs[f]?=some fn) (hb:fn.body=some code) (hn:c.as.length<=fn.ntmps)
  (h:∀x,c.m x=runR lpK jnK C hl d f fn c.t c.e (initS c.as x 0)):c.ok C.P f:=by
 intro x l hl' w Z vals hG hZ h1
 rw[h x] at hl'
 refine runR_ok hC hmix hf hb hl' (by rw[h1.length];exact hn) hG hZ fun E hw hz _ _ i s' hi=>?_
 subst hw;subst hz
 obtain ⟨v,_,h3,h4⟩:=initS_slots h1 i s' hi
 exact ⟨v,by simpa using h3,h4⟩
theorem RCtr.of_den_nil {C:Ctx} (hC:C.ok) (hmix:C.P.follows .mixedOrders=true) {hl:FuncId->Hint} {d:Nat} {f:FuncId} {fn:Func} {code:Code} {c:RCtr} {e:Sh} {r:List Sh} (has:c.as=.sl e ::r) (hf:C.P.funcs[f]?=some fn) (hb:fn.body=some code) (hn:c.as.length<=fn.ntmps)
  (h1:∀x,c.m x=runR lpK jnK C hl d f fn c.t c.e (initN c.as x true)) (h2:∀(x:TsS (.sl e ::r)),x.1=[]->c.m (has ▸ x)=runR lpK jnK C hl d f fn c.t c.e (initN (.sl e ::r) x false)):c.ok C.P f:=by
 obtain ⟨as,t,ee,m⟩:=c
 simp only at has
 subst has
 intro x l hl' w Z vals hG hZ hd
 have hlen:=hd.length
 have hd0:=hd
 simp only[DatVs] at hd
 obtain ⟨v,vs',rfl,⟨cs,g1,g2,g3⟩,g4⟩:=hd
 simp only[Dat] at g1
 obtain ⟨A,cp,rfl,hc,hA,g1⟩:=g1
 have hv:v=.slice A x.1.length cp:=g2
 have rest:∀E:Env,E.w=w->E.Z=Z->∀i s',look (initS r x.2 1) i=some (some s')->∃u,(v ::vs')[i]?=some u/\RelS E s' u:=fun E hw hz i s' hi=>by
  subst hw;subst hz
  obtain ⟨u,k1,k2,k3⟩:=initS_slots g4 i s' hi
  refine ⟨u,?_,k3⟩
  rw[show i=(i - 1)+1 by omega]
  simpa using k2
 cases A with
 | none =>
  have hcp:=hA rfl
  subst hcp
  have hx:x.1=[]:=List.eq_nil_of_length_eq_zero (by omega)
  have hl2:=(h2 x hx).symm.trans hl'
  refine runR_ok hC hmix hf hb hl2 (by rw[hlen];exact hn) hG hZ fun E hw hz _ _ i s' hi=>?_
  simp only[initN] at hi
  rw[look_cons] at hi
  split at hi
  ·rename_i e0
   simp only[Option.some.injEq] at hi
   subst hi;subst e0
   exact ⟨v,rfl,⟨[v],rfl,⟨by rw[hv,hx];rfl,trivial⟩,fun _=>rfl⟩⟩
  ·exact rest E hw hz i s' hi
 | some ad =>
  have hl2:=(h1 x).symm.trans hl'
  refine runR_ok hC hmix hf hb hl2 (by rw[hlen];exact hn) hG hZ fun E hw hz _ _ i s' hi=>?_
  simp only[initN] at hi
  rw[look_cons] at hi
  split at hi
  ·rename_i e0
   simp only[Option.some.injEq] at hi
   subst hi;subst e0
   refine ⟨v,rfl,⟨[v],rfl,⟨⟨⟨ad,_,_,hv⟩,?_⟩,trivial⟩,fun _=>rfl⟩⟩
   rw[hw,hz]
   simp only[Dat]
   exact ⟨some ad,cp,by rw[hv],hc,hA,g1⟩
  ·exact rest E hw hz i s' hi
def notIn:At->List Nat->Bool
 | .row q,u=>!memN q u
 | _,_=>true
def readW (rk:Rk) (t:TypeId) (e s:Sh):List SV->Option (List e.T×s.T)
 | [.c true (x ::xs)]=>match rowOf rk t e x,wholeL s (thawL rk xs),notIn x (rowsL xs) with
  | some l,some y,true=>guardB (liveR rk (rowsL xs)) (some (l,y))
  | _,_,_=>none
 | _=>none
def postW (P:Program) (t:TypeId) (e s:Sh) (rv:Array ResultVar):Ex->St->Option (List e.T×s.T)
 | .exit _,_=>none
 | _,σ=>match resS P σ.look rv.toList with
  | some vs=>readW σ.look.r t e s vs
  | none=>none
def runW (lp:Lp) (jn:Jn) (C:Ctx) (hl:FuncId->Hint) (d:Nat) (id:FuncId) (fn:Func) (c:WCtr) (x:TsS c.as):Option (List c.e.T×c.s.T) :=
 den lp jn (inlF lp jn C hl d) C fn.ntmps (hl id) (fn.body.getD .skip) { s:=initS c.as x 0,h:=[],r:=[],next:=0 } (postW C.P c.t c.e c.s fn.results)
theorem WCtr.of_den {C:Ctx} (hC:C.ok) (hmix:C.P.follows .mixedOrders=true) {hl:FuncId->Hint} {d:Nat} {f:FuncId} {fn:Func} {code:Code} {c:WCtr} (hf:C.P.funcs[f]?=some fn) (hb:fn.body=some code) (hn:c.as.length<=fn.ntmps)
  (hm0:∀x,c.m x=runW lpK jnK C hl d f fn c x):c.ok C.P f:=by
 intro x z h w Z vals hG hZ h1
 rw[hm0 x] at h
 have hlen:=h1.length
 refine calls_of_body hf hb ?_
 let E:Env:={ P:=C.P,w0:=w,Z0:=Z,w:=w,Z:=Z,β:=fun _=>0,L:=fun _=>False,ρ:=fun _=>undef,R:=fun _=>False,φ:=fun _ _=>False,ι:=fun _ _=>undef,ν:=fun _=>0 }
 have hm:Mod fn.ntmps E { tmps:=vals.toArray++Array.replicate (fn.ntmps - vals.toArray.size) undef,defers:=[] } ({ s:=initS c.as x 0,h:=[],r:=[],next:=0 }:St).look:=by
  refine ⟨⟨Below.refl _ _,hZ,fun _ h=>h,fun _ h=>.inl h,fun b hb=>hb.elim,fun r hr=>hr.elim,fun i l hi=>by simp[St.look,look] at hi,fun i j l l' hi=>by simp[St.look,look] at hi,
   fun i r b hi=>by simp[St.look,look] at hi,fun i j r r' b hi=>by simp[St.look,look] at hi,⟨fun i x b hi=>by simp[St.look,look] at hi,fun i j x y b hi=>by simp[St.look,look] at hi⟩,hG⟩,trivial,?_,fun i t' hi=>?_,fun i l hi=>by simp[St.look,look] at hi,fun i r hi=>by simp[St.look,look] at hi,fun i x hi=>by simp[St.look,look] at hi⟩
  ·simp only[Array.size_append,List.size_toArray,Array.size_replicate]
   omega
  ·simp only[St.look,lookS] at hi
   split at hi
   ·rename_i s' hl'
    injection hi with hi
    subst hi
    obtain ⟨v,_,h2,h3⟩:=initS_slots (E:=E) h1 i s' hl'
    rw[Nat.sub_zero] at h2
    refine ⟨v,?_,h3⟩
    have hlt:=(List.getElem?_eq_some_iff.1 h2).1
    rw[Array.getElem?_append_left (by simpa using hlt)]
    simpa using h2
   ·cases hi
 unfold runW at h
 rw[hb] at h
 refine den_ok hC (inlF_ok hC hmix d) hmix (.inl rfl) (fun _=>rfl) h (fun i hi=>by simp at hi) (E:=E) ⟨rfl,fun _=>rfl⟩ hm fun ex σ' E1 a1 hk hs' _ _ _ hm1=>?_
 have hcases:ex=.normal\/ex=.ret:=by
  cases ex with
  | normal=>exact .inl rfl
  | ret=>exact .inr rfl
  | exit i=>cases hk
 refine ⟨by rcases hcases with rfl | rfl<;>simp[Ex.to],E1,rfl,hm1.nodef,fun w2 hT=>?_⟩
 obtain ⟨E',hE'⟩:∃E',E'=E1.wset w2:=⟨_,rfl⟩
 have hw2:w2=E'.w:=by rw[hE'];rfl
 have hs':Same E E':=by rw[hE'];exact hs'
 have hm':Mod fn.ntmps E' { tmps:=a1.tmps,defers:=[] } σ'.look:=by rw[hE'];exact hm1.turned hT rfl trivial
 rw[hw2]
 clear hm1 hT hE' hw2
 have hP:E'.P=C.P:=hs'.P
 have h0:E'.w0=w:=hs'.w0
 have hz0:E'.Z0=Z:=hs'.Z0
 have done:∀vs,resS C.P σ'.look fn.results.toList=some vs->readW σ'.look.r c.t c.e c.s vs=some z->∃v,(results fn a1.tmps).run C.P E'.w=.ok v E'.w/\∃(u:Value) (cs:List Value) (Z':Nat->Prop),Ending.returned v=.returned (.agg (u ::cs).toArray)/\(∀b,Z b->Z' b)/\(∀b,Z' b->fresh Z w E'.w b)/\(∀b,u.ownBlock=some b->¬ Z' b) /\
   (∃xs,E'.w.ownsRow w.heap.size c.t c.e.size u z.1.length xs/\RowRel E'.w Z' c.e z.1 xs)/\Dat E'.w Z' c.s z.2 cs/\Below w.heap.size w E'.w:=by
  intro vs hvs hok
  rw[<-hP] at hvs
  obtain ⟨us,hu1,hu2⟩:=results_run hm' hvs
  rw[hP] at hu2
  have hbel:=hm'.glob.below
  rw[h0] at hbel
  unfold readW at hok
  split at hok
  ·rename_i x xs
   match us,hu1 with
   | [u],hu1 =>
    obtain ⟨cs,hu,hr,_⟩:=hu1.1
    match cs,hr with
    | y ::ys,hr =>
     have huy:u=.agg (y ::ys).toArray:=hu
     subst huy
     split at hok
     ·rename_i l y' hrow hwh hni
      obtain ⟨hlv,hok⟩:=guardB_some hok
      injection hok with hok
      subst hok
      have ht:=thawL_rel hm' (fun _ _ h=>h) (u:=rowsL xs) (liveR_ok hlv) hr.2 fun r hr=>hr
      have hdat:Dat E'.w (E'.zp σ'.look (rowsL xs)) c.s y' ys:=by
       unfold wholeL at hwh
       split at hwh
       ·rename_i x' hx
        injection hwh with hwh
        subst hwh
        obtain ⟨c1,c2,e1,hd,h2⟩:=take_rel hx ht
        match c2,h2 with
        | [],_ =>
        rw[List.append_nil] at e1
        rw[e1]
        exact hd
       ·cases hwh
      refine ⟨_,hu2,y,ys,E'.zp σ'.look (rowsL xs),by simp,fun b hb=>.inl (by have:=hm'.glob.z0 b;rw[hz0] at this;exact this hb),fun b hb=>?_,?_⟩
      ·rcases hb with hb | ⟨r,_,⟨ri,h5,h6⟩ | ⟨x,h5,h6⟩⟩
       ·rcases hm'.glob.zfrom b hb with h | h
        ·exact .inl (by rw[<-hz0];exact h)
        ·exact .inr ⟨by rw[h0] at h;exact h,hm'.glob.zlt b hb⟩
       ·obtain ⟨h7,h8⟩:=hm'.row_lt h5 h6
        rw[h0] at h7
        exact .inr ⟨h7,h8⟩
       ·obtain ⟨h7,h8,_⟩:=hm'.glob.xg.own r x b h5 h6
        rw[h0] at h7
        exact .inr ⟨h7,h8⟩
      ·have hone:RelA E' x y:=hr.1
       cases x with
       | row q =>
        simp only[rowOf] at hrow
        split at hrow
        ·rename_i ri hri
         split at hrow
         ·rename_i he ht' _
          obtain ⟨rt,re,rn,rl⟩:=ri
          simp only at he ht'
          have ht':rt=c.t:=by simpa using ht'
          subst he
          injection hrow with hrow
          obtain ⟨hv,_⟩:=hone
          obtain ⟨_,zs,o1,o2,_⟩:=hm'.rows q _ hri
          rw[h0] at o1
          simp only at o1 o2
          have hrl:l=rl:=hrow.symm
          rw[hrl]
          refine ⟨fun b hb hz=>?_,⟨zs,by rw[hv,<-ht'];exact o1,RowRel.mono (fun b hb=>.inl hb) (fun _ _=>rfl) o2⟩,hdat,hbel⟩
          rw[hv] at hb
          have hro:=hm'.glob.rown q _ b hri hb
          rcases hz with hz | ⟨r,hru,⟨ri',h5,h6⟩ | ⟨x',h5,h6⟩⟩
          ·exact hro.1 hz
          ·have hqr:=hm'.glob.rinj q r _ _ b hri h5 hb h6
           subst hqr
           simp only[notIn,Bool.not_eq_true'] at hni
           have:=memN_iff.2 hru
           rw[hni] at this
           cases this
          ·exact (hm'.glob.xg.own r x' b h5 h6).2.2.2.2 q _ hri hb
         ·cases hrow
        ·cases hrow
       | v z' =>
        unfold rowOf at hrow
        split at hrow
        ·rename_i heq;cases heq
        ·rename_i heq
         injection heq with heq
         subst heq
         injection hrow with hrow
         subst hrow
         have hv:y=.slice none 0 0:=hone
         subst hv
         exact ⟨fun b hb=>(by cases hb),⟨[],World.ownsRow_nil _ _ _ _,rfl⟩,hdat,hbel⟩
        ·cases hrow
       | _=>simp[rowOf] at hrow
     ·cases hok
  ·cases hok
 cases ex with
 | normal =>
  simp only[postW] at hk
  split at hk
  ·rename_i vs hvs;exact done vs hvs hk
  ·cases hk
 | ret =>
  simp only[postW] at hk
  split at hk
  ·rename_i vs hvs;exact done vs hvs hk
  ·cases hk
 | exit i=>cases hk
def ACtr.init (c:ACtr) (l:List c.e.T) (x:TsS c.as):St:={ s:=(0,some ⟨none,.c false [.row 0]⟩) ::initS c.as x 1,h:=[],r:=[(0,.some ⟨c.t,c.e,l.length,l⟩)],next:=1 }
def readA (rk:Rk) (t:TypeId) (e:Sh):List SV->Option (List e.T)
 | [.c false [.row q]]=>match rowOf rk t e (.row q) with
  | some l=>guardB [Nat.ble 1 l.length] (some l)
  | none=>none
 | _=>none
def postA (P:Program) (t:TypeId) (e:Sh) (rv:Array ResultVar):Ex->St->Option (List e.T)
 | .exit _,_=>none
 | _,σ=>match resS P σ.look rv.toList with
  | some vs=>readA σ.look.r t e vs
  | none=>none
def runA (lp:Lp) (jn:Jn) (C:Ctx) (hl:FuncId->Hint) (d:Nat) (id:FuncId) (fn:Func) (c:ACtr) (l:List c.e.T) (x:TsS c.as):Option (List c.e.T) :=
 den lp jn (inlF lp jn C hl d) C fn.ntmps { hl id with inner:=true } (fn.body.getD .skip) (c.init l x) (postA C.P c.t c.e fn.results)
theorem ownsRow_low {w:World} {base base':Nat} {t:TypeId} {sz n:Nat} {v:Value} {xs:List Value} (h:w.ownsRow base t sz v n xs) (hb:∀b,v.ownBlock=some b->base'<=b):w.ownsRow base' t sz v n xs:=by
 obtain ⟨h1,h2⟩:=h
 refine ⟨h1,?_⟩
 rcases h2 with h2 | ⟨g,cap,cur,rfl,h3,h4⟩
 ·exact .inl h2
 ·exact .inr ⟨g,cap,cur,rfl,hb g rfl,h4⟩
theorem ACtr.of_den0 {C:Ctx} (hC:C.ok) (hmix:C.P.follows .mixedOrders=true) {hl:FuncId->Hint} {d:Nat} {f:FuncId} {fn:Func} {code:Code} {c:ACtr} (hf:C.P.funcs[f]?=some fn) (hb:fn.body=some code) (hn:c.as.length+1<=fn.ntmps)
  (hm0:∀l x,c.m l x=runA lpK jnK C hl d f fn c l x):c.ok0 C.P f:=by
 intro l x z h w Z base v xs vals hG hZ hbase hv hr hvZ h1
 rw[hm0 l x] at h
 have hlen:=h1.length
 refine calls_of_wp hf hb (wpIn_wide (n:=0).1 ?_)
 let Y:Nat->Prop:=fun b=>b<w.heap.size/\v.ownBlock≠some b
 have hZY:∀b,Z b->Y b:=fun b hb=>⟨hZ b hb,fun e=>hvZ b e hb⟩
 have hvlt:∀b,v.ownBlock=some b->b<w.heap.size:=fun b hb=>(hv.lt b hb).2
 have hvle:∀b,v.ownBlock=some b->base<=b:=fun b hb=>(hv.lt b hb).1
 have h1':DatVs w Y c.as x vals:=by
  clear h hlen hm0 hn
  revert h1
  have one:∀{s:Sh} {x:s.T} {v:Value},DatV w Z s x v->DatV w Y s x v:=fun ⟨cs,g1,g2,g3⟩=>⟨cs,Dat.mono hZY (fun _ _=>rfl) g1,g2,g3⟩
  generalize c.as=as at x
  intro h1
  induction as generalizing vals with
  | nil=>exact h1
  | cons s r ih =>
   simp only[DatVs] at h1 ⊢
   obtain ⟨v,vs',h3,h4,h5⟩:=h1
   exact ⟨v,vs',h3,one h4,ih (vals:=vs') (x:=x.2) h5⟩
 let w0:World:={ w with heap:=#[] }
 have hbel0:Below w0.heap.size w0 w:=⟨rfl,rfl,rfl,Nat.zero_le _,fun k hk=>absurd hk (Nat.not_lt_zero k)⟩
 let E:Env:={ P:=C.P,w0:=w0,Z0:=Y,w:=w,Z:=Y,β:=fun _=>0,L:=fun _=>False,ρ:=fun _=>v,R:=fun i=>i=0,φ:=fun _ _=>False,ι:=fun _ _=>undef,ν:=fun _=>0,rg:=false }
 have hr0:∀i ri,(c.init l x).look.r i=some ri->i=0/\ri=.some ⟨c.t,c.e,l.length,l⟩:=fun i ri hi=>by
  simp only[ACtr.init,St.look] at hi
  rw[look_cons] at hi
  split at hi
  ·rename_i e
   injection hi with hi
   exact ⟨e,hi.symm⟩
  ·simp[look] at hi
 have hm:Mod fn.ntmps E { tmps:=(v ::vals).toArray++Array.replicate (fn.ntmps - (v ::vals).toArray.size) undef,defers:=[] } (c.init l x).look:=by
  refine ⟨⟨hbel0,fun b hb=>hb.1,fun _ h=>h,fun _ h=>.inl h,fun b hb=>hb.elim,fun r hr=>?_,fun i l hi=>by simp[ACtr.init,St.look,look] at hi,fun i j l l' hi=>by simp[ACtr.init,St.look,look] at hi,
   fun i r b hi hb=>⟨fun hy=>hy.2 hb,fun j l hj=>by simp[ACtr.init,St.look,look] at hj⟩,fun i j r r' b hi hj _ _=>(hr0 i _ hi).1.trans (hr0 j _ hj).1.symm,⟨fun i x b hi=>(by have:=(hr0 i _ hi).2;cases this),fun i j x y b hi=>(by have:=(hr0 i _ hi).2;cases this)⟩,hG _⟩,trivial,?_,fun i t' hi=>?_,fun i l hi=>by simp[ACtr.init,St.look,look] at hi,fun i r hi=>?_,fun i x hi=>(by have:=(hr0 i _ hi).2;cases this)⟩
  ·have hr:r=0:=hr
   subst hr
   rfl
  ·simp only[Array.size_append,List.size_toArray,Array.size_replicate,List.length_cons]
   omega
  ·simp only[St.look,lookS] at hi
   split at hi
   ·rename_i s' hl'
    injection hi with hi
    subst hi
    have get:∀u,(v ::vals)[i]?=some u->((v ::vals).toArray++Array.replicate (fn.ntmps - (v ::vals).toArray.size) undef)[i]?=some u:=fun u hu=>by
     have hlt:=(List.getElem?_eq_some_iff.1 hu).1
     rw[Array.getElem?_append_left (by simpa using hlt)]
     simpa using hu
    simp only[ACtr.init] at hl'
    rw[look_cons] at hl'
    split at hl'
    ·rename_i e0
     simp only[Option.some.injEq] at hl'
     subst hl';subst e0
     exact ⟨v,get v rfl,⟨[v],rfl,⟨⟨rfl,rfl,ownsRow_oneCell hv⟩,trivial⟩,fun _=>rfl⟩⟩
    ·obtain ⟨u,k1,k2,k3⟩:=initS_slots (E:=E) h1' i s' hl'
     refine ⟨u,get u ?_,k3⟩
     rw[show i=(i - 1)+1 by omega]
     simpa using k2
   ·cases hi
  ·obtain ⟨e1,e2⟩:=hr0 i _ hi
   injection e2 with e2
   subst e2
   exact ⟨e1,xs,ownsRow_low hv fun b _=>Nat.zero_le _,RowRel.mono hZY (fun _ _=>rfl) hr,rfl⟩
 unfold runA at h
 rw[hb] at h
 refine den_ok (F:=Fence.wide) hC (inlF_ok hC hmix d) hmix (.inl rfl) (fun _=>rfl) h (fun i hi=>by simp[ACtr.init] at hi) (E:=E) ⟨rfl,fun e=>by cases e⟩ hm fun ex σ' E' a1 hk hs' hkp1 _ _ hm'=>?_
 have hdef:a1.defers=[]:=Marks.none hkp1.rg hm'.nodef
 have hkeep:∀b,Y b->E'.w.heap[b]?=w.heap[b]?:=fun b hy=>by
  have hlt:b<w.heap.size:=hy.1
  have hob:w.heap[b]?=some w.heap[b]:=Array.getElem?_eq_getElem hlt
  have h3:=hkp1.obj b _ ⟨hy,Nat.zero_le _,hob⟩
  rw[h3.2.2,hob]
 have h0:E'.w0=w0:=hs'.w0
 have hz0:E'.Z0=Y:=hs'.Z0
 have hP:E'.P=C.P:=hs'.P
 have hzY:∀b,Y b->E'.Z b:=fun b hb=>by have:=hm'.glob.z0 b;rw[hz0] at this;exact this hb
 have hbel:=hm'.glob.below
 rw[h0] at hbel
 have done:∀vs,resS C.P σ'.look fn.results.toList=some vs->readA σ'.look.r c.t c.e vs=some z->a1.defers=[]/\∃u,(results fn a1.tmps).run C.P E'.w=.ok u E'.w/\∃(v':Value) (ys:List Value),Ending.returned u=.returned v'/\w.grownBy E'.w v.ownBlock/\E'.w.ownsRow base c.t c.e.size v' z.length ys/\(∃Z',RowRel E'.w Z' c.e z ys)/\(∀b,v'.ownBlock=some b->v.ownBlock=some b\/w.heap.size<=b):=by
  intro vs hvs hok
  rw[<-hP] at hvs
  obtain ⟨us,hu1,hu2⟩:=results_run hm' hvs
  rw[hP] at hu2
  refine ⟨hdef,_,hu2,?_⟩
  unfold readA at hok
  split at hok
  ·rename_i q
   match us,hu1 with
   | [u],hu1 =>
    obtain ⟨cs,hu,hr,_⟩:=hu1.1
    match cs,hr with
    | [y],hr =>
     have huy:u=y:=hu
     subst huy
     have hone:(if h:[u].length=1 then [u][0] else Value.tuple [u].toArray)=u:=by simp
     rw[hone]
     split at hok
     ·rename_i l' hrow
      obtain ⟨hble,hok⟩:=guardB_some hok
      injection hok with hok
      subst hok
      obtain ⟨hble,_⟩:=allB_cons hble
      have hne:1<=l'.length:=by simpa using hble
      simp only[rowOf] at hrow
      split at hrow
      ·rename_i ri hri
       split at hrow
       ·rename_i he ht _
        obtain ⟨rt,re,rn,rl⟩:=ri
        simp only at he ht
        subst he
        have ht:rt=c.t:=by simpa using ht
        injection hrow with hrow
        have hrl:l'=rl:=hrow.symm
        obtain ⟨⟨hv',_⟩,_⟩:=hr
        obtain ⟨_,zs,o1,o2,_⟩:=hm'.rows q _ hri
        rw[h0] at o1
        simp only at o1 o2
        rw[<-hv',ht,<-hrl] at o1
        rw[<-hrl] at o2
        have hrown:=fun b=>hm'.glob.rown q _ b hri
        have hblk:∀b,u.ownBlock=some b->v.ownBlock=some b\/w.heap.size<=b:=fun b hub=>by
         rw[hv'] at hub
         have:=(hrown b hub).1
         by_cases hb1:w.heap.size<=b
         ·exact .inr hb1
         ·by_cases hb2:v.ownBlock=some b
          ·exact .inl hb2
          ·exact absurd (hzY b ⟨by omega,hb2⟩) this
        have hsize:w.heap.size<=E'.w.heap.size:=by
         rcases o1.2 with ⟨_,hn0⟩ | ⟨g,cap,cur,hug,_⟩
         ·omega
         ·have hgo:u.ownBlock=some g:=by rw[hug];rfl
          have hglt:g<E'.w.heap.size:=(o1.lt g hgo).2
          rcases hblk g hgo with hvg | hge
          ·have h6:=hvlt g hvg
           by_cases hlast:g=w.heap.size - 1
           ·omega
           ·have h5:=hzY (w.heap.size - 1) ⟨by omega,fun e=>hlast (by rw[hvg] at e;injection e)⟩
            have:=hm'.glob.zlt _ h5
            omega
          ·omega
        refine ⟨u,zs,rfl,⟨hbel.os,hbel.tape,hbel.output,hsize,fun k hk hne=>hkeep k ⟨hk,fun e=>hne e.symm⟩⟩,ownsRow_low o1 fun b hub=>?_,⟨_,o2⟩,hblk⟩
        rcases hblk b hub with h | h
        ·exact hvle b h
        ·omega
       ·cases hrow
      ·cases hrow
     ·cases hok
  ·cases hok
 cases ex with
 | normal =>
  simp only[postA] at hk
  split at hk
  ·rename_i vs hvs;exact done vs hvs hk
  ·cases hk
 | ret =>
  simp only[postA] at hk
  split at hk
  ·rename_i vs hvs;exact done vs hvs hk
  ·cases hk
 | exit i=>cases hk
def ctxOf (P:Program) (sh:TypeId->Option Sh) (inl:List Nat) (il:List (Nat×ICtr)) (l:List (Nat×Ctr)) (rl:List (Nat×RCtr):=[]):Ctx:=⟨P,sh,look l,fun i=>memN i inl,look rl,look il,fun _=>none,fun _=>none,fun _=>none,fun _=>none,fun _=>false,fun _=>none,fun _=>none⟩
def postF (C:Ctx) (a:List Sh) (r:Sh) (rv:Array ResultVar):Ex->St->Option (FnT a r)
 | .exit _,_=>none
 | _,σ=>match resS C.P σ.look rv.toList with
  | some [sv]=>match fnOf sv with
   | some (id,cap)=>match C.ctr id,rowsRefs (look σ.h) cap with
    | some c,[]=>match takeRefs (look σ.r) (look σ.h) c.cs cap with
     | some y=>c.asFn a r y
     | none=>none
    | _,_=>none
   | none=>none
  | _=>none
def runF (lp:Lp) (jn:Jn) (C:Ctx) (hl:FuncId->Hint) (d:Nat) (id:FuncId) (fn:Func) (c:FCtr) (x:TsS c.as):Option (FnT c.a c.r) :=
 den lp jn (inlF lp jn C hl d) C fn.ntmps (hl id) (fn.body.getD .skip) { s:=initS c.as x 0,h:=[],r:=[],next:=0 } (postF C c.a c.r fn.results)
theorem cell_lt {w:World} {b j:Nat} {u:Value} (h:w.cell? ⟨b,j,none⟩=some u):b<w.heap.size:=by
 unfold World.cell? at h
 cases hb:w.heap[b]? with
 | none=>simp[hb] at h
 | some o=>exact (Array.getElem?_eq_some_iff.1 hb).1
theorem Dat.cellwise {w w':World} {Z Z':Nat->Prop} (hZ:∀b,Z b->Z' b) (hw:∀(ad:Addr) (u:Value),Z ad.block->w.cell? ad=some u->w'.cell? ad=some u):∀{s:Sh} {x:s.T} {cs:List Value},Dat w Z s x cs->Dat w' Z' s x cs
 | .int _,_,_,h=>h
 | .bool,_,_,h=>h
 | .str,_,_,h=>h
 | .ref,_,_,h=>h
 | .sl e,l,cs,h=>by
  simp only[Dat] at h ⊢
  obtain ⟨A,c,rfl,hc,hA,h⟩:=h
  refine ⟨A,c,rfl,hc,hA,fun h0=>?_⟩
  obtain ⟨ad,rfl,hz,h⟩:=h h0
  refine ⟨ad,rfl,hZ _ hz,fun k x hx=>?_⟩
  obtain ⟨ecs,h1,h2⟩:=h k x hx
  exact ⟨ecs,Dat.cellwise hZ hw h1,fun j v hv=>hw _ _ (by rw[add_block];exact hz) (h2 j v hv)⟩
 | .pair a b,x,cs,h=>by
  simp only[Dat] at h ⊢
  obtain ⟨c1,c2,rfl,h1,h2⟩:=h
  exact ⟨c1,c2,rfl,Dat.cellwise hZ hw h1,Dat.cellwise hZ hw h2⟩
 | .agg e,x,cs,h=>Dat.cellwise (s:=e) (x:=x) hZ hw h
theorem refs_zone {N:Nat} {E:Env} {a:Act} {g:Look} (hm:Mod N E a g) {w':World} {Z1 Z':Nat->Prop} (h1:∀b,E.Z b->Z1 b) (hw:∀(ad:Addr) (u:Value),Z1 ad.block->E.w.cell? ad=some u->w'.cell? ad=some u) (hZ:∀b,Z1 b->Z' b) :
  ∀{cs:List Sh} {cap:List (Nat×Nat)} {y:TsS cs},takeRefs g.r g.h cs cap=some y->rowsRefs g.h cap=[]->(∀p ∈ cap,Z1 (E.β p.1))->RefVs w' Z' cs y (cap.map (ptrV E.β))
 | [],[],_,_,_,_=>rfl
 | s ::r,p ::l,y,h,hu,hc=>by
  simp only[takeRefs] at h
  split at h
  ·rename_i b z h0 hb hz
   split at h
   ·rename_i x hx
    injection h with h
    subst h
    rw[rowsRefs_cons hb] at hu
    obtain ⟨hu1,hu2⟩:=List.append_eq_nil_iff.1 hu
    obtain ⟨i,off⟩:=p
    have h0:off=0:=by simpa using h0
    subst h0
    simp only[List.map_cons,RefVs]
    refine ⟨_,_,rfl,?_,refs_zone hm h1 hw hZ hz hu2 fun q hq=>hc q (List.mem_cons_of_mem _ hq)⟩
    obtain ⟨_,cs,t,hh,hr0,_⟩:=hm.blks i b hb
    have hr:=thawL_rel hm (fun _ _ h=>h) (u:=[]) (fun r hr=>by cases hr) hr0 (fun r hr=>by rw[hu1] at hr;cases hr)
    unfold wholeL at hx
    split at hx
    ·rename_i x' hx'
     injection hx with hx
     subst hx
     obtain ⟨c1,c2,rfl,hd,h2⟩:=take_rel hx' hr
     match c2,h2 with
     | [],_ =>
     rw[List.append_nil] at hh
     have hcell:∀j u,c1[j]?=some u->w'.cell? ⟨E.β i,j,none⟩=some u:=fun j u hj=>hw _ _ (hc (i,0) (by simp)) (by simp[World.cell?,hh,hj])
     have hlt:E.β i<w'.heap.size:=by
      have hl:=hd.len
      have hp:=Sh.size_pos' s
      exact cell_lt (hcell 0 (c1[0]'(by omega)) (List.getElem?_eq_getElem _))
     refine ⟨E.β i,c1,rfl,hlt,?_,hcell⟩
     refine Dat.cellwise (fun b hb=>hZ b ?_) (fun ad u hz hcu=>hw ad u ?_ hcu) hd
     ·rcases hb with hb | ⟨r,hr,_⟩
      ·exact h1 b hb
      ·cases hr
     ·rcases hz with hb | ⟨r,hr,_⟩
      ·exact h1 _ hb
      ·cases hr
    ·cases hx
   ·cases h
  ·cases h
 | [],_ ::_,_,h,_,_=>by cases h
 | _ ::_,[],_,h,_,_=>by cases h
theorem FCtr.of_den {C:Ctx} (hC:C.ok) (hmix:C.P.follows .mixedOrders=true) {hl:FuncId->Hint} {d:Nat} {f:FuncId} {fn:Func} {code:Code} {c:FCtr} (hf:C.P.funcs[f]?=some fn) (hb:fn.body=some code) (hn:c.as.length<=fn.ntmps)
  (h:∀x,c.m x=runF lpK jnK C hl d f fn c x):c.ok C.P f:=by
 intro x F hz w Z vals hG hZ h1
 refine calls_of_body hf hb ?_
 let E:Env:={ P:=C.P,w0:=w,Z0:=Z,w:=w,Z:=Z,β:=fun _=>0,L:=fun _=>False,ρ:=fun _=>undef,R:=fun _=>False,φ:=fun _ _=>False,ι:=fun _ _=>undef,ν:=fun _=>0 }
 have l1:=h1.length
 have hm:Mod fn.ntmps E { tmps:=vals.toArray++Array.replicate (fn.ntmps - vals.toArray.size) undef,defers:=[] } ({ s:=initS c.as x 0,h:=[],r:=[],next:=0 }:St).look:=by
  refine ⟨⟨Below.refl _ _,hZ,fun _ h=>h,fun _ h=>.inl h,fun b hb=>hb.elim,fun r hr=>hr.elim,fun i l hi=>by simp[St.look,look] at hi,fun i j l l' hi=>by simp[St.look,look] at hi,
   fun i r b hi=>by simp[St.look,look] at hi,fun i j r r' b hi=>by simp[St.look,look] at hi,⟨fun i x b hi=>by simp[St.look,look] at hi,fun i j x y b hi=>by simp[St.look,look] at hi⟩,hG⟩,trivial,?_,fun i t' hi=>?_,fun i l hi=>by simp[St.look,look] at hi,fun i r hi=>by simp[St.look,look] at hi,fun i x hi=>by simp[St.look,look] at hi⟩
  ·simp only[Array.size_append,List.size_toArray,Array.size_replicate]
   omega
  ·simp only[St.look,lookS] at hi
   split at hi
   ·rename_i s' hl'
    injection hi with hi
    subst hi
    obtain ⟨v,_,h2,h3⟩:=initS_slots (E:=E) h1 i s' hl'
    rw[Nat.sub_zero] at h2
    refine ⟨v,?_,h3⟩
    have hlt:=(List.getElem?_eq_some_iff.1 h2).1
    rw[Array.getElem?_append_left (by simpa using hlt)]
    simpa using h2
   ·cases hi
 have hrun:=hz
 rw[h x] at hrun
 unfold runF at hrun
 rw[hb] at hrun
 refine den_ok hC (inlF_ok hC hmix d) hmix (.inl rfl) (fun _=>rfl) hrun (fun i hi=>by simp at hi) (E:=E) ⟨rfl,fun _=>rfl⟩ hm fun ex σ' E1 a1 hk hs' _ _ _ hm1=>?_
 have hcases:ex=.normal\/ex=.ret:=by
  cases ex with
  | normal=>exact .inl rfl
  | ret=>exact .inr rfl
  | exit i=>cases hk
 refine ⟨by rcases hcases with rfl | rfl<;>simp[Ex.to],E1,rfl,hm1.nodef,fun w2 hT=>?_⟩
 obtain ⟨E',hE'⟩:∃E',E'=E1.wset w2:=⟨_,rfl⟩
 have hw2:w2=E'.w:=by rw[hE'];rfl
 have hs':Same E E':=by rw[hE'];exact hs'
 have hm':Mod fn.ntmps E' { tmps:=a1.tmps,defers:=[] } σ'.look:=by rw[hE'];exact hm1.turned hT rfl trivial
 rw[hw2]
 clear hm1 hT hE' hw2
 have hP:E'.P=C.P:=hs'.P
 have h0:E'.w0=w:=hs'.w0
 have hz0:E'.Z0=Z:=hs'.Z0
 have done:(match resS C.P σ'.look fn.results.toList with
  | some [sv]=>match fnOf sv with
   | some (id,cap)=>match C.ctr id,rowsRefs (look σ'.h) cap with
    | some c',[]=>match takeRefs (look σ'.r) (look σ'.h) c'.cs cap with
     | some y=>c'.asFn c.a c.r y
     | none=>none
    | _,_=>none
   | none=>none
  | _=>none)=some F->∃v,(results fn a1.tmps).run C.P E'.w=.ok v E'.w/\∃u Z',Ending.returned v=.returned u/\(∀b,Z' b->fresh Z w E'.w b)/\FnZ C.P E'.w Z' c.a c.r F u/\Below w.heap.size w E'.w:=by
  intro hok
  split at hok
  case h_2=>cases hok
  rename_i sv hsv
  split at hok
  case h_2=>cases hok
  rename_i id cap hfo
  split at hok
  case h_2=>cases hok
  rename_i c' hc' hrow
  split at hok
  case h_2=>cases hok
  rename_i y hy
  rw[<-hP] at hsv
  obtain ⟨us,hu1,hu2⟩:=results_run hm' hsv
  rw[hP] at hu2
  match us,hu1,hu2 with
  | [u],hu1,hu2 =>
  have hub:(if h:[u].length=1 then [u][0] else .tuple [u].toArray)=u:=rfl
  rw[hub] at hu2
  have hu:=fnOf_rel hfo hu1.1
  have hcl:=fnOf_cap hfo hu1.1
  obtain ⟨hcall,hokc⟩:=hC.ctr id c' hc'
  have blkOf:∀p ∈ cap,∃l,σ'.look.h p.1=some l:=fun p hp=>by
   have:=hm'.glob.live p.1 (hcl p hp)
   cases hq:σ'.look.h p.1 with
   | none=>rw[hq] at this;cases this
   | some l=>exact ⟨l,rfl⟩
  refine ⟨u,hu2,u,fun b=>E'.Z b\/∃p ∈ cap,E'.β p.1=b,rfl,fun b hb=>?_,⟨id,_,hu,hcall,fun w' Z' x' y' vals' hG' hw hZ' hZb hd hv'=>?_⟩,by have:=hm'.glob.below;rw[h0] at this;exact this⟩
  ·rcases hb with hb | ⟨p,hp,rfl⟩
   ·rcases hm'.glob.zfrom b hb with h | h
    ·exact .inl (by rw[<-hz0];exact h)
    ·exact .inr ⟨by rw[h0] at h;exact h,hm'.glob.zlt b hb⟩
   ·obtain ⟨l,hl⟩:=blkOf p hp
    refine .inr ⟨by have:=(hm'.glob.own p.1 l hl).1;rw[h0] at this;exact this,hm'.blk_lt hl⟩
  ·have hrefs:=refs_zone hm' (Z1:=fun b=>E'.Z b\/∃p ∈ cap,E'.β p.1=b) (fun _ h=>.inl h) hw hZ' hy hrow fun p hp=>.inr ⟨p,hp,rfl⟩
   obtain ⟨as',fs',cs',r',m⟩:=c'
   unfold Ctr.asFn at hok
   split at hok
   ·rename_i as2 cs2 r2 m2 _ y2 heq1 heq2
    injection heq1 with e1 e2 e3 e4 e6
    subst e1;subst e2;subst e3;subst e4
    cases e6;cases heq2
    split at hok
    ·rename_i g1 g2 _ _
     subst g1;subst g2
     injection hok with hok
     subst hok
     have:=hokc x' () y2 y' hd w' Z' vals' [] _ hG' hZb hv' rfl hrefs
     simpa [RetV] using this
    ·cases hok
   ·cases hok
 rcases hcases with rfl | rfl
 ·exact done hk
 ·exact done hk
def runP (lp:Lp) (jn:Jn) (C:Ctx) (hl:FuncId->Hint) (d:Nat) (id:FuncId) (fn:Func) (c:PCtr) (x:c.s.T) (y:TsS c.as):Option c.r.T :=
 den lp jn (inlF lp jn C hl d) C fn.ntmps (hl id) (fn.body.getD .skip) { s:=(0,some ⟨none,.c false [.rf c.s x 0]⟩) ::initS c.as y 1,h:=[],r:=[],next:=0 } (post C.P c.r fn.results)
theorem PCtr.of_den {C:Ctx} (hC:C.ok) (hmix:C.P.follows .mixedOrders=true) {hl:FuncId->Hint} {d:Nat} {f:FuncId} {fn:Func} {code:Code} {c:PCtr} (hf:C.P.funcs[f]?=some fn) (hb:fn.body=some code) (hn:c.as.length+1<=fn.ntmps)
  (h:∀x y,c.m x y=runP lpK jnK C hl d f fn c x y):c.ok C.P f:=by
 intro x y z hz w Z v vals hG hZ hv h1
 refine calls_of_body hf hb ?_
 let E:Env:={ P:=C.P,w0:=w,Z0:=Z,w:=w,Z:=Z,β:=fun _=>0,L:=fun _=>False,ρ:=fun _=>undef,R:=fun _=>False,φ:=fun _ _=>False,ι:=fun _ _=>undef,ν:=fun _=>0 }
 have l1:=h1.length
 have hm:Mod fn.ntmps E { tmps:=(v ::vals).toArray++Array.replicate (fn.ntmps - (v ::vals).toArray.size) undef,defers:=[] } ({ s:=(0,some ⟨none,.c false [.rf c.s x 0]⟩) ::initS c.as y 1,h:=[],r:=[],next:=0 }:St).look:=by
  refine ⟨⟨Below.refl _ _,hZ,fun _ h=>h,fun _ h=>.inl h,fun b hb=>hb.elim,fun r hr=>hr.elim,fun i l hi=>by simp[St.look,look] at hi,fun i j l l' hi=>by simp[St.look,look] at hi,
   fun i r b hi=>by simp[St.look,look] at hi,fun i j r r' b hi=>by simp[St.look,look] at hi,⟨fun i x b hi=>by simp[St.look,look] at hi,fun i j x y b hi=>by simp[St.look,look] at hi⟩,hG⟩,trivial,?_,fun i t' hi=>?_,fun i l hi=>by simp[St.look,look] at hi,fun i r hi=>by simp[St.look,look] at hi,fun i x hi=>by simp[St.look,look] at hi⟩
  ·simp only[Array.size_append,List.size_toArray,Array.size_replicate,List.length_cons]
   omega
  ·have get:∀v',(v ::vals)[i]?=some v'->((v ::vals).toArray++Array.replicate (fn.ntmps - (v ::vals).toArray.size) undef)[i]?=some v':=fun v' hv'=>by
    have hlt:=(List.getElem?_eq_some_iff.1 hv').1
    rw[Array.getElem?_append_left (by simpa using hlt)]
    simpa using hv'
   simp only[St.look,lookS] at hi
   split at hi
   ·rename_i s' hl'
    injection hi with hi
    subst hi
    rw[look_cons] at hl'
    split at hl'
    ·rename_i e
     subst e
     simp only[Option.some.injEq] at hl'
     subst hl'
     obtain ⟨ad,cs,g1,g2,g3,g4⟩:=hv
     exact ⟨v,get v rfl,⟨[v],rfl,⟨⟨ad,cs,g1,.inr g2,g3,g4⟩,trivial⟩,fun _=>rfl⟩⟩
    ·obtain ⟨v',h3,h2,h4⟩:=initS_slots (E:=E) h1 i s' hl'
     refine ⟨v',get v' ?_,h4⟩
     rw[show i=(i - 1)+1 by omega]
     exact h2
   ·cases hi
 have hrun:=hz
 rw[h x y] at hrun
 unfold runP at hrun
 rw[hb] at hrun
 refine den_ok hC (inlF_ok hC hmix d) hmix (.inl rfl) (fun _=>rfl) hrun (fun i hi=>by simp at hi) (E:=E) ⟨rfl,fun _=>rfl⟩ hm fun e σ' E1 a1 hk hs _ _ _ hm1=>?_
 have hcases:e=.normal\/e=.ret:=by
  cases e with
  | normal=>exact .inl rfl
  | ret=>exact .inr rfl
  | exit i=>cases hk
 refine ⟨by rcases hcases with rfl | rfl<;>simp[Ex.to],E1,rfl,hm1.nodef,fun w2 hT=>?_⟩
 obtain ⟨E',hE'⟩:∃E',E'=E1.wset w2:=⟨_,rfl⟩
 have hw2:w2=E'.w:=by rw[hE'];rfl
 have hs:Same E E':=by rw[hE'];exact hs
 have hm':Mod fn.ntmps E' { tmps:=a1.tmps,defers:=[] } σ'.look:=by rw[hE'];exact hm1.turned hT rfl trivial
 rw[hw2]
 clear hm1 hT hE' hw2
 have hP:E'.P=C.P:=hs.P
 have h0:E'.w0=w:=hs.w0
 have hz0:E'.Z0=Z:=hs.Z0
 have done:∀vs,resS C.P σ'.look fn.results.toList=some vs->guardB (liveR σ'.look.r (rowsVs vs)) (readRet c.r (thawVs σ'.look.r vs))=some z->∃v,(results fn a1.tmps).run C.P E'.w=.ok v E'.w/\∃u,Ending.returned v=.returned u/\RetV E'.w (fresh Z w E'.w) c.r z u/\Below w.heap.size w E'.w:=by
  intro vs hvs hok
  obtain ⟨hlv,hok⟩:=guardB_some hok
  rw[<-hP] at hvs
  obtain ⟨us,hu1,hu2⟩:=results_run hm' hvs
  rw[hP] at hu2
  have hu3:=thawVs_rel hm' (fun _ _ h=>h) (u:=rowsVs vs) (liveR_ok hlv) hu1 fun r hr=>hr
  refine ⟨_,hu2,_,rfl,retV_mono (fun b hb=>?_) (readRet_rel (E:=E'.zone σ'.look (rowsVs vs)) hok hu3),?_⟩
  ·rcases hb with hb | ⟨r,_,⟨ri,h5,h6⟩ | ⟨x,h5,h6⟩⟩
   ·rcases hm'.glob.zfrom b hb with h | h
    ·exact .inl (by rw[<-hz0];exact h)
    ·exact .inr ⟨by rw[h0] at h;exact h,hm'.glob.zlt b hb⟩
   ·obtain ⟨h7,h8⟩:=hm'.row_lt h5 h6
    rw[h0] at h7
    exact .inr ⟨h7,h8⟩
   ·obtain ⟨h7,h8,_⟩:=hm'.glob.xg.own r x b h5 h6
    rw[h0] at h7
    exact .inr ⟨h7,h8⟩
  ·have:=hm'.glob.below
   rw[h0] at this
   exact this
 cases e with
 | normal =>
  simp only[post] at hk
  split at hk
  ·rename_i vs hvs
   exact done vs hvs hk
  ·cases hk
 | ret =>
  simp only[post] at hk
  split at hk
  ·rename_i vs hvs
   exact done vs hvs hk
  ·cases hk
 | exit i=>cases hk
theorem ACtr.of_den {C:Ctx} (hC:C.ok) (hmix:C.P.follows .mixedOrders=true) {hl:FuncId->Hint} {d:Nat} {f:FuncId} {fn:Func} {code:Code} {c:ACtr} (hf:C.P.funcs[f]?=some fn) (hb:fn.body=some code) (hn:c.as.length+1<=fn.ntmps)
  (hm0:∀l x,c.m l x=runA lpK jnK C hl d f fn c l x) (hfl:c.e.flat=true:=by rfl):c.ok C.P f:=fun l x z h w Z base v xs vals hG h1 h2 h3 h4 h5 h6 =>
 (ACtr.of_den0 hC hmix hf hb hn hm0 l x z h w Z base v xs vals hG h1 h2 h3 h4 h5 h6).mono fun _ _ ⟨v',ys,g1,g2,g3,⟨_,g4⟩,g5⟩=>⟨v',ys,g1,g2,g3,RowRel.flat hfl g4,g5⟩
def ItsOk (P:Program) (il:List (Nat×ICtr)):Prop:=∀id c,look il id=some c->callable P id=true/\c.ok P id
theorem itsOk_nil {P:Program}:ItsOk P []:=fun _ _ h=>by cases h
theorem itsOk_cons {P:Program} {f:FuncId} {c:ICtr} {il:List (Nat×ICtr)} (hc:callable P f=true) (ho:c.ok P f) (h:ItsOk P il):ItsOk P ((f,c) ::il):=fun id d hd=>by
 rw[look_cons] at hd
 split at hd
 ·rename_i e
  injection hd with hd
  subst hd
  subst e
  exact ⟨hc,ho⟩
 ·exact h id d hd
def inlOk (P:Program):List Nat->Bool
 | []=>true
 | i ::r=>callable P i&&inlOk P r
theorem inlOk_mem {P:Program} {i:Nat}:∀{l:List Nat},inlOk P l=true->memN i l=true->callable P i=true
 | [],_,h=>by cases h
 | j ::r,h,hi=>by
  simp only[inlOk,Bool.and_eq_true] at h
  simp only[memN] at hi
  split at hi
  ·rename_i e
   have e:i=j:=by simpa using e
   rw[e];exact h.1
  ·exact inlOk_mem h.2 hi
theorem ctxOf_nil {P:Program} {sh:TypeId->Option Sh} {inl:List Nat} {il:List (Nat×ICtr)} (h:inlOk P inl=true) (hi:ItsOk P il):(ctxOf P sh inl il []).ok:=⟨fun _ _ h=>(by cases h),fun _ hi=>inlOk_mem h hi,fun _ _ h=>(by cases h),hi,fun _ _ h=>(by cases h),fun _ _ h=>(by cases h),fun _ _ h=>(by cases h),fun _ _ h=>(by cases h),fun _ _ h=>(by cases h)⟩
theorem ctxOf_row {P:Program} {sh:TypeId->Option Sh} {inl:List Nat} {il:List (Nat×ICtr)} {rl:List (Nat×RCtr)} {f:FuncId} {c:RCtr} (h:(ctxOf P sh inl il [] rl).ok) (hc:callable P f=true) (ho:c.ok P f):(ctxOf P sh inl il [] ((f,c) ::rl)).ok:=⟨h.ctr,h.inl,fun id d hd=>by
 simp only[ctxOf] at hd
 rw[look_cons] at hd
 split at hd
 ·rename_i e
  injection hd with hd
  subst hd
  subst e
  exact ⟨hc,ho⟩
 ·exact h.rctr id d hd,h.it,h.fctr,h.pctr,h.mctr,h.wctr,h.actr⟩
theorem ctxOf_cons {P:Program} {sh:TypeId->Option Sh} {inl:List Nat} {il:List (Nat×ICtr)} {l:List (Nat×Ctr)} {rl:List (Nat×RCtr)} {f:FuncId} {c:Ctr} (h:(ctxOf P sh inl il l rl).ok) (hc:callable P f=true) (ho:c.ok P f):(ctxOf P sh inl il ((f,c) ::l) rl).ok:=⟨fun id d hd=>by
 simp only[ctxOf] at hd
 rw[look_cons] at hd
 split at hd
 ·rename_i e
  injection hd with hd
  subst hd
  subst e
  exact ⟨hc,ho⟩
 ·exact h.ctr id d hd,h.inl,h.rctr,h.it,h.fctr,h.pctr,h.mctr,h.wctr,h.actr⟩
end
end
end Dn
end Go.Proofs.YtlfdhaiigdllcaaGreatDoor
