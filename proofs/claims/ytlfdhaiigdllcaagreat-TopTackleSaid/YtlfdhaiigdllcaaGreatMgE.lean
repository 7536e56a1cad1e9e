/- A symbolic executor: strings by their bytes, arrays and structs that are values, carries, new rows of a length, copies into rows, rows that become data. -/
import Derived.Laws.Strings
import Derived.Laws.Tables
import Derived.Laws.Externs
import Derived.Laws.OwnMore
import Derived.ChangeKeysEq
import Derived.Test.YtlfdhaiigdllcaaGreatMgD
open Array renaming getElem?_eq_getElem→k_,toArray_toList→mV
open Int renaming ofNat→mK
open List renaming append_nil→gO,getD→aT,getElem?_cons_zero→dG,getElem?_eq_getElem→dg,getElem?_eq_none→m_,getElem?_take→pL,length_drop→l_,length_take→b_,replicate→bx,size_toArray→i_
open Nat renaming add_zero→lE,beq→g_,ble→cl,le_refl→bY,mul_comm→rW
open Option.some renaming injEq→a_
open Prod.mk renaming injEq→dO

namespace Go.Proofs.YtlfdhaiigdllcaaGreat
namespace Dn
open Go.RowKit
section
variable {P:Program} {N:Nat} {g:Look} {E:Env} {a:Act} {o:Oper}
def iZ (s:ByteArray) (i:Nat):Int:=((s.data.toList.getD i 0).toNat:Int)
theorem MG {s:ByteArray} {i:Nat} (h:i<s.size):((s[i]'h).toNat:Int)=iZ s i:=by
 have h':i<s.data.size:=h
 have h2:s.data.toList.getD i 0=s[i]:=by
  rw[aT,Array.getElem?_toList,k_ h']
  rfl
 rw[iZ,h2]
theorem Ig {t:TypeId} {x y:Operand} {s:ByteArray} {k:IntKind} {i:Int} (ho:o.op=.index t x y) (hx:dh E (.c false [.v (.string s)]) (a.eval x)) (hy:dh E (.c false [.v (.int k i)]) (a.eval y))
  (ht:P.underlying t=some .string) (hm:Mod N E a g) (hp:0<=i/\i<s.size):ak P N g E a o ⟨.c false [.v (.int .u8 (iZ s i.toNat))],.none,[inB i s.size]⟩:=by
 have e1:=fR (x:=.string s) rfl hx
 have e2:=fR (x:=.int k i) rfl hy
 refine ak.value (E':=E) (v:=.int .u8 (iZ s i.toNat)) ?_ rfl (Keep.refl E) hm ⟨[_],rfl,⟨rfl,trivial⟩,fun _=>rfl⟩
 simp only[execOp,ho,e1,e2,Sem.run_bind,run_index_string E.w t s k i ht,dif_pos hp,Result.andThen_ok,Sem.run_pure,MG (show i.toNat<s.size by omega)]
theorem AE {t:TypeId} {ag:Bool} {cs ecs:List Value} {off:Nat} (ha:JB P t=some ag) (hz:eW P t=some ecs.length) (h1:ag=false->ecs.length=1) (hc:∀j v,ecs[j]?=some v->cs[off+j]?=some v) (w:World) :
  (part t cs.toArray off).run P w=.ok (mkV ag ecs) w:=by
 cases ag with
 | true =>
  simp only[part,Sem.run_bind,vR ha,Result.andThen_ok,if_true,dq hz,Sem.run_pure,mkV]
  congr 2
  apply Array.ext'
  apply List.ext_getElem?
  intro j
  simp only[List.extract_toArray,List.extract_eq_take_drop,pL,List.getElem?_drop]
  by_cases hj:j<ecs.length
  ·rw[if_pos (by omega),dg hj]
   exact hc j _ (dg hj)
  ·rw[if_neg (by omega),m_ (by omega)]
 | false =>
  have h:=h1 rfl
  match ecs,h with
  | [c],_ =>
   have h0:=hc 0 c rfl
   simp only[lE] at h0
   simp[part,vR ha,h0,mkV]
theorem H0 {t et:TypeId} {x y:Operand} {l:List At} {n:Nat} {e:Sh} {xs:List e.T} {k:IntKind} {i:Int} (ho:o.op=.index t x y) (hx:dh E (.c true l) (a.eval x)) (hy:dh E (.c false [.v (.int k i)]) (a.eval y))
  (ht:EV P t=some (n,et)) (hag:JB P et=some e.isAgg) (hz:eW P et=some e.size) (h1:(e.isAgg||g_ e.size 1)=true) (hxs:els e n l=some xs) (hm:Mod N E a g) (hp:0<=i/\i<n) :
  ak P N g E a o ⟨.c e.isAgg (e.cells (xs.getD i.toNat e.dflt)),.none,[inB i n]⟩:=by
 obtain ⟨cs,hv,hr,_⟩:=hx
 have hyv:=fR (x:=.int k i) rfl hy
 have hu:=KL ht
 have hlen:=zj hxs
 have hget:xs[i.toNat]?=some (xs.getD i.toNat e.dflt):=by simp[aT,dg (show i.toNat<xs.length by omega)]
 obtain ⟨ecs,g1,g2⟩:=yz hxs hr _ _ hget
 have hel:=g1.len
 have hone:e.isAgg=false->ecs.length=1:=fun h=>by
  rw[h,Bool.false_or] at h1
  rw[hel];simpa using h1
 have hrun:=AE (P:=P) (cs:=cs) (off:=i.toNat*e.size) hag (by rw[hel];exact hz) hone g2 E.w
 refine ak.value (E':=E) (v:=mkV e.isAgg ecs) ?_ rfl (Keep.refl E) hm ⟨ecs,rfl,g1.rel,hone⟩
 simp only[execOp,ho,hv,hyv,mkV,if_true,Instr.index,asIntOf,pure_bind,Sem.run_bind,run_underlying hu,Result.andThen_ok,hp.1,hp.2,and_self,dq hz,hrun,Sem.run_pure]
def Fx (P:Program) (t:TypeId) (f:Nat):Option (TypeId×Nat):=match P.underlying t with
 | some (.struct fs)=>match fs[f]? with
  | some x=>some (x.type,x.offset)
  | none=>none
 | _=>none
theorem MO {t:TypeId} {x:Operand} {f ft off:Nat} {l:List At} {s:SV} (ho:o.op=.field t x f) (hx:dh E (.c true l) (a.eval x)) (hf:Fx P t f=some (ft,off)) (hs:oa P ft l off=some s) (hm:Mod N E a g) :
  ak P N g E a o ⟨s,.none,[]⟩:=by
 obtain ⟨cs,hv,hr,_⟩:=hx
 unfold Fx at hf
 split at hf
 ·rename_i fs hu
  split at hf
  ·rename_i y hy
   simp only[a_,dO] at hf
   obtain ⟨rfl,rfl⟩:=hf
   unfold oa at hs
   split at hs
   ·rename_i ag n ha hz
    split at hs
    ·rename_i hb
     injection hs with hs;subst hs
     simp only[z10,Nat.ble_eq,Bool.or_eq_true,Nat.beq_eq] at hb
     have hl:((cs.drop y.offset).take n).length=n:=by
      have:=hr.length
      simp[b_,l_]
      omega
     have h1:ag=false->((cs.drop y.offset).take n).length=1:=fun h0=>by
      rw[hl]
      rcases hb.2 with h | h
      ·rw[h0] at h;cases h
      ·exact h
     have hrun:=AE (P:=P) (cs:=cs) (off:=y.offset) (ecs:=(cs.drop y.offset).take n) ha (by rw[hl];exact hz) h1 (fun j v hj=>by
      rw[pL] at hj
      split at hj
      ·rwa [List.getElem?_drop] at hj
      ·cases hj) E.w
     refine ak.value (E':=E) (v:=mkV ag ((cs.drop y.offset).take n)) ?_ rfl (Keep.refl E) hm ⟨_,rfl,(hr.drop _).take n,h1⟩
     simp only[execOp,ho,hv,mkV,if_true,Instr.field,Sem.run_bind,run_underlying hu,Result.andThen_ok,hy,asAgg,Sem.run_pure,hrun]
    ·cases hs
   ·cases hs
  ·cases hf
 ·cases hf
def Er (su:Nat->Option (Nat×Nat)):List At->List (Nat×SV)->Option (List At)
 | cells,[]=>some cells
 | cells,(i,.c ag l) ::r=>match su i with
  | some (off,n)=>match g_ l.length n,cl (off+n) cells.length,l.all at1,ag||g_ n 1 with
   | true,true,true,true=>Er su (cells.take off++l++cells.drop (off+l.length)) r
   | _,_,_,_=>none
  | none=>none
 | _,(_,.tup _) ::_=>none
def R6 (E:Env):List (Nat×SV)->List (Nat×Value)->Prop
 | [],[]=>True
 | p ::l,q ::r=>p.1=q.1/\dh E p.2 q.2/\R6 E l r
 | _,_=>False
theorem Ef {su:Nat->Option (Nat×Nat)}:∀{ps:List (Nat×SV)} {cells out:List At} {qs:List (Nat×Value)} {cs:List Value},Er su cells ps=some out->dy E cells cs->R6 E ps qs ->
  ∃us,Instr.fill su cs.toArray qs=some us.toArray/\dy E out us
 | [],cells,out,[],cs,h,hr,_=>by
  simp only[Er,a_] at h
  subst h
  exact ⟨cs,rfl,hr⟩
 | (i,.c ag l) ::r,cells,out,(j,v) ::qs,cs,h,hr,hp=>by
  simp only[Er] at h
  obtain ⟨hij,hv,hps⟩:=hp
  simp only at hij hv
  subst hij
  split at h
  ·rename_i off n hpl
   split at h
   ·rename_i h1 h2 h3 h4
    have h1:l.length=n:=by simpa using h1
    have h2:off+n<=cells.length:=Nat.le_of_ble_eq_true h2
    obtain ⟨vs,rfl,hvr,hv1⟩:=hv
    have hone:=oh h3 hvr
    have hlen:=hvr.length
    have hcl:=hr.length
    have hcells:=kZ hv1 hone
    have hr2:dy E (cells.take off++l++cells.drop (off+l.length)) (cs.take off++vs++cs.drop (off+vs.length)):=by
     rw[hlen]
     exact ((hr.take off).append hvr).append (hr.drop _)
    obtain ⟨us,hu1,hu2⟩:=Ef h hr2 hps
    refine ⟨us,?_,hu2⟩
    have hf:=zx off vs 0 cs.toArray (by simp;omega)
    have hf':(vs.toArray.zipIdx.foldl (fun cs x=>cs.setIfInBounds (off+x.2) x.1) cs.toArray)=(cs.take off++vs++cs.drop (off+vs.length)).toArray:=by
     rw[<-Array.foldl_toList,Array.toList_zipIdx]
     simpa using hf
    simp only[Instr.fill,hpl,hcells]
    rw[if_neg (by simp;omega)]
    have e:(fun (cs:Array Value) (x:Value×Nat)=>match x with | (c,j)=>cs.setIfInBounds (off+j) c)=fun cs x=>cs.setIfInBounds (off+x.2) x.1:=rfl
    rw[e,hf']
    exact hu1
   ·cases h
  ·cases h
 | (_,.tup _) ::_,_,_,_,_,h,_,_=>by simp[Er] at h
 | [],_,_,_ ::_,_,_,_,hp=>hp.elim
 | (_,.c _ _) ::_,_,_,[],_,_,_,hp=>hp.elim
def Hk (P:Program) (t:TypeId):Option (Nat->Option (Nat×Nat)):=match P.underlying t with
 | some (.array _ e)=>match P.info? e with
  | some ie=>some fun i=>some (i*ie.size,ie.size)
  | none=>none
 | some (.struct fields)=>match fields.toList.mapM (fun f=>(P.info? f.type).map fun i=>(f.offset,i.size)) with
  | some places=>some (places.toArray[·]?)
  | none=>none
 | _=>none
def G2 (get:Operand->Option SV):List (Nat×Operand)->Option (List (Nat×SV))
 | []=>some []
 | p ::r=>match get p.2,G2 get r with
  | some s,some l=>some ((p.1,s) ::l)
  | _,_=>none
theorem Du {get:Operand->Option SV}:∀{ps:List (Nat×Operand)} {l:List (Nat×SV)},G2 get ps=some l->(∀p ∈ ps,∀s,get p.2=some s->dh E s (a.eval p.2))->R6 E l (ps.map fun p=>(p.1,a.eval p.2))
 | [],l,h,_=>by simp only[G2,a_] at h;subst h;trivial
 | p ::r,l,h,hg=>by
  simp only[G2] at h
  split at h
  ·rename_i s l' hs hl
   injection h with h
   subst h
   exact ⟨rfl,hg p (by simp) s hs,Du hl fun q hq=>hg q (by simp[hq])⟩
  ·cases h
def Bq (P:Program) (get:Operand->Option SV) (t:TypeId) (ps:Array (Nat×Operand)):Option Core:=match Hk P t,ra P t,G2 get ps.toList with
 | some su,some cs,some l=>match Er su (cs.map .v) l with
  | some out=>some ⟨.c true out,.none,[]⟩
  | none=>none
 | _,_,_=>none
theorem qy {t:TypeId} {cs:List Value} (h:ra P t=some cs):∃i z,P.info? t=some i/\i.zero=some z/\z.cells.toList=cs/\cs.all Value.oneCell'=true:=by
 unfold ra at h
 split at h
 ·rename_i i hi
  split at h
  ·rename_i z hz
   split at h
   ·rename_i hall
    injection h with h
    subst h
    exact ⟨i,z,hi,hz,rfl,hall⟩
   ·cases h
  ·cases h
 ·cases h
theorem Hr {get:Operand->Option SV} {t:TypeId} {ps:Array (Nat×Operand)} {r:Core} (ho:o.op=.build t ps) (h:Bq P get t ps=some r) (hg:im E a get o) (hm:Mod N E a g):ak P N g E a o r:=by
 unfold Bq at h
 split at h
 ·rename_i su cs l hpl hz hl
  split at h
  ·rename_i out hout
   injection h with h
   subst h
   obtain ⟨i,z,hi,hzz,hcs,_⟩:=qy hz
   have hrel:=Du hl fun p hp s hs=>hg p.2 s (by rw[ho];simp only[Op.operands];simpa using ⟨p.1,Array.mem_toList_iff.1 hp⟩) hs
   obtain ⟨us,hu1,hu2⟩:=Ef hout (xk cs) hrel
   refine ak.value (E':=E) (v:=.agg us.toArray) ?_ rfl (Keep.refl E) hm ⟨us,rfl,hu2,fun h=>(by cases h)⟩
   have hb:P.built t (ps.map fun x=>(x.1,a.eval x.2)).toList=some us.toArray:=by
    have hc:z.cells=cs.toArray:=by rw[<-hcs]
    unfold Program.built
    unfold Hk at hpl
    split at hpl
    ·rename_i n e hu
     split at hpl
     ·rename_i ie hie
      injection hpl with hpl
      subst hpl
      simp only[hi,hu,hzz,hie]
      rw[hc,Array.toList_map]
      exact hu1
     ·cases hpl
    ·rename_i fields hu
     split at hpl
     ·rename_i places hpp
      injection hpl with hpl
      subst hpl
      simp only[hi,hu,hzz,hpp]
      rw[hc,Array.toList_map]
      exact hu1
     ·cases hpl
    ·cases hpl
   have hrun:=run_build E.w t (ps.map fun x=>(x.1,a.eval x.2)) us.toArray hb
   simp only[execOp,ho,Sem.run_bind]
   erw [hrun]
   rfl
  ·cases h
 ·cases h
def Kg:Array Value->Sem Value:=fun args=>do
 let (x, y, b) ← Extern.MathBitsCarry.three "Sub64" args
 pure (Extern.MathBitsCarry.pair ((x+Extern.MathBitsCarry.m64 - y - b) % Extern.MathBitsCarry.m64) (if x<y+b then 1 else 0))
def KQ (P:Program) (f:FuncId):Option Bool:=match P.funcs[f]? with
 | some fn => match fn.body.isNone, fn.name == "runtime.NumGoroutine", fn.origin == "" with
  | true, false, true => match fn.name == "math/bits.Add64", fn.name == "math/bits.Sub64" with
   | true,_=>some true
   | false,true=>some false
   | _,_=>none
  | _,_,_=>none
 | none=>none
def AP (x y c:Int):Int:=mK ((x.toNat+y.toNat+c.toNat) % 18446744073709551616)
def rU (x y c:Int):Int:=mK ((x.toNat+y.toNat+c.toNat) / 18446744073709551616)
def xA (x y b:Int):Int:=mK ((18446744073709551616+x.toNat - y.toNat - b.toNat) % 18446744073709551616)
def qt (x y b:Int):Int:=mK (bif Nat.blt x.toNat (y.toNat+b.toNat) then 1 else 0)
def I6 (P:Program) (get:Operand->Option SV) (f:FuncId) (xs:Array Operand):Option Core:=match KQ P f,xs.toList with
 | some ad,[x,y,c]=>match pf get x,pf get y,pf get c with
  | some (.int _ i),some (.int _ j),some (.int _ k)=>some ⟨.tup [(false,[.v (.int .u64 (bif ad then AP i j k else xA i j k))]),(false,[.v (.int .u64 (bif ad then rU i j k else qt i j k))])],.none,[decide (0<=k),decide (k<=1)]⟩
  | _,_,_=>none
 | _,_=>none
theorem ML {get:Operand->Option SV} {f:Operand} {id:FuncId} {xs:Array Operand} {ts:Array TypeId} {r:Core} (ho:o.op=.call { callee:=.value f,args:=xs,argTypes:=ts }) (hf:a.eval f=.func (.func id) #[] #[])
  (h:I6 P get id xs=some r) (hp:ij r.p=true) (hg:im E a get o) (hm:Mod N E a g):ak P N g E a o r:=by
 unfold I6 at h
 split at h
 ·rename_i ad x y c had hxs
  have hxs:xs=#[x,y,c]:=by rw[<-mV (xs:=xs),hxs]
  subst hxs
  split at h
  ·rename_i k1 i k2 j k3 k hx hy hc
   injection h with h
   subst h
   have e1:=fi hg (by simp[ho,Op.operands,Call.operands]) hx
   have e2:=fi hg (by simp[ho,Op.operands,Call.operands]) hy
   have e3:=fi hg (by simp[ho,Op.operands,Call.operands]) hc
   have hk:k=0\/k=1:=by
    obtain ⟨h1,h2⟩:=gJ hp
    have h1:0<=k:=z12 h1
    have h2:k<=1:=z12 h2
    omega
   unfold KQ at had
   split at had
   ·rename_i fn hfn
    split at had
    ·rename_i hb hng hnx
     have hor : fn.origin = "" := by simpa using hnx
     refine ak.value (E':=E) (v:=.tuple #[.int .u64 (bif ad then AP i j k else xA i j k),.int .u64 (bif ad then rU i j k else qt i j k)]) ?_ rfl (Keep.refl E) hm ⟨[_,_],rfl,⟨⟨[_],rfl,⟨rfl,trivial⟩,fun _=>rfl⟩,⟨[_],rfl,⟨rfl,trivial⟩,fun _=>rfl⟩,trivial⟩⟩
     have key:(callFunc id #[a.eval x,a.eval y,a.eval c]).run P E.w=.ok (.value (.tuple #[.int .u64 (bif ad then AP i j k else xA i j k),.int .u64 (bif ad then rU i j k else qt i j k)])) E.w:=by
      rw[e1,e2,e3]
      split at had
      ·rename_i hn
       injection had with had
       subst had
       have hn : fn.name = "math/bits.Add64" := by simpa using hn
       have hn1:Extern.findNext fn=none:=by unfold Extern.findNext;rw[hn,hor];rfl
       have hn2:Extern.find fn=some add64Entry:=by unfold Extern.find;rw[hn];rfl
       rw[run_callFunc_extern hfn hng hb hn1 hn2]
       rcases hk with rfl | rfl<;>rfl
      ·rename_i hn hn'
       injection had with had
       subst had
       have hn : fn.name = "math/bits.Sub64" := by simpa using hn'
       have hn1:Extern.findNext fn=none:=by unfold Extern.findNext;rw[hn,hor];rfl
       have hn2:Extern.find fn=some Kg:=by unfold Extern.find;rw[hn];rfl
       rw[run_callFunc_extern hfn hng hb hn1 hn2]
       have hcond:∀m n:Nat,(if m<n then 1 else 0:Nat)=(bif Nat.blt m n then 1 else 0):=fun m n=>by
        by_cases h:m<n
        ·rw[if_pos h,Nat.blt_eq.mpr h];rfl
        ·rw[if_neg h,show Nat.blt m n=false by rw[Bool.eq_false_iff];intro hh;exact h (Nat.blt_eq.mp hh)];rfl
       simp only[xA,qt,cond_false,<-hcond,Nat.add_comm 18446744073709551616]
       rcases hk with rfl | rfl<;>rfl
      ·cases had
     simp only[execOp,ho,resolve,hf,Deferred.ofValue,pure_bind,invoke,Array.empty_append]
     simpa using key
    ·cases had
   ·cases had
  ·cases h
 ·cases h
theorem wS {w:World} {Z:Nat->Prop} {e:Sh} {z:e.T} {zs:List Value} (hz:Dat w Z e z zs):∀n:Nat,aM w Z e (bx n z) (madeCells zs.toArray (n*e.size)).toList:=by
 have hl:=hz.len
 have hpos:=Sh.size_pos' e
 have key:∀n:Nat,(madeCells zs.toArray (n*e.size)).toList=(bx n zs).flatten:=by
  intro n
  apply List.ext_getElem?
  intro k
  have hlen:((bx n zs).flatten).length=n*e.size:=by simp[hl]
  by_cases hk:k<n*e.size
  ·have hq:k / e.size<n:=by rw[Nat.div_lt_iff_lt_mul hpos];exact hk
   have hm:k % e.size<e.size:=Nat.mod_lt _ hpos
   have e1:(bx n zs).flatten[k]?=some (zs[k % e.size]'(by omega)):=by
    have:=tW (n:=e.size) (css:=bx n zs) (k:=k / e.size) (c:=zs) (j:=k % e.size) (v:=zs[k % e.size]'(by omega)) (fun x hx=>by rw[List.eq_of_mem_replicate hx];exact hl) (by rw[List.getElem?_replicate,if_pos hq]) (dg _)
    rwa [show k / e.size*e.size+k % e.size=k by rw[rW];exact Nat.div_add_mod k e.size] at this
   rw[e1]
   simp only[madeCells,Array.toList_map,Array.toList_range,List.getElem?_map,List.getElem?_range hk,Option.map_some,i_,hl]
   congr 1
   exact getElem!_pos zs.toArray (k % e.size) (by simp;omega)
  ·rw[m_ (by simp[madeCells];omega),m_ (by omega)]
 intro n
 rw[key n]
 clear key
 induction n with
 | zero=>exact rfl
 | succ n ih=>exact ⟨zs,_,by simp[List.replicate_succ],hz,ih⟩
def Bf (e:Sh) (cs:List Value):Option e.T:=match e.take (cs.map .v) with
 | some (z,[])=>some z
 | _=>none
theorem Ax {e:Sh} {cs:List Value} {z:e.T} (h:Bf e cs=some z):Dat E.w E.Z e z cs:=by
 unfold Bf at h
 split at h
 ·rename_i y hy
  injection h with h
  subst h
  obtain ⟨c1,c2,rfl,hd,h2⟩:=fI hy (xk (E:=E) cs)
  match c2,h2 with
  | [],_=>rw[gO];exact hd
 ·cases h
def Bg:Operand->Operand->Bool
 | .tmp i,.tmp j=>g_ i j
 | .const (.int _ m),.const (.int _ n)=>decide (m=n)
 | _,_=>false
theorem ze {x y:Operand} {k:IntKind} {i:Int} (h:Bg x y=true) (hx:a.eval x=.int k i):∃k',a.eval y=.int k' i:=by
 unfold Bg at h
 split at h
 ·rename_i p q
  have h:p=q:=by simpa using h
  subst h
  exact ⟨k,hx⟩
 ·rename_i k1 m k2 n
  have h:m=n:=z12 h
  subst h
  simp only[Act.eval] at hx ⊢
  injection hx with h1 h2
  exact ⟨k2,by rw[h2]⟩
 ·cases h
def Om (C_sh:TypeId->Option Sh) (P:Program) (get:Operand->Option SV) (rk:Rk) (b:Nat) (t:TypeId) (l c:Operand):Option Core:=match gl P t,pf get l,Bg l c,rk b with
 | some et,some (.int _ n),true,none=>match C_sh et,P.info? et,ra P et with
  | some e,some i,some cs=>match Bf e cs,g_ i.size e.size&&cl 1 i.bytes with
   | some z,true=>some ⟨.c false [.row b],.row b ⟨et,e,n.toNat,bx n.toNat z⟩ none,[decide (0<=n),dS n.toNat i.bytes]⟩
   | _,_=>none
  | _,_,_=>none
 | _,_,_,_=>none
theorem R5 {sh:TypeId->Option Sh} {get:Operand->Option SV} {rk:Rk} {b:Nat} {t:TypeId} {l c:Operand} {r:Core} (ho:o.op=.makeSlice t l c) (h:Om sh P get rk b t l c=some r) (hp:ij r.p=true) (hg:im E a get o) (hm:Mod N E a g) (hb:rk b=none->g.r b=none):ak P N g E a o r:=by
 unfold Om at h
 split at h
 ·rename_i et k n hu hl hsame hbn
  split at h
  ·rename_i e i cs he hi hz
   split at h
   ·rename_i z hzo hsz
    injection h with h
    subst h
    simp only[z10,Nat.beq_eq,Nat.ble_eq] at hsz
    obtain ⟨hp0,hp1⟩:=gJ hp
    have h0:0<=n:=z12 hp0
    have hfit:n.toNat*i.bytes<=140737488355328:=oc.1 hp1
    have e1:=fi hg (by simp[ho,Op.operands]) hl
    obtain ⟨k',e2⟩:=ze hsame e1
    obtain ⟨i',zv,hi',hzv,hcs,hone⟩:=qy hz
    rw[hi] at hi'
    injection hi' with hi'
    subst hi'
    have hn:n=((n.toNat:Nat):Int):=by omega
    have h63:n.toNat<=maxLen:=by
     have:n.toNat<=n.toNat*i.bytes:=Nat.le_mul_of_pos_right _ hsz.2
     simp only[maxLen]
     omega
    obtain ⟨w',r1,r2,r3⟩:=run_make_full (P:=P) E.w E.w.heap.size t et i zv e.size (eu hu) hi hzv hsz.1 k k' n.toNat (by rw[rW];omega) h63 (bY _)
    have hbel:Below E.w.heap.size E.w w':=⟨r3.os,r3.tape,r3.output,r3.size,fun q hq=>r3.block q hq fun e=>by cases e⟩
    have hdat:=Ax (E:=E) hzo
    have hc:zv.cells=cs.toArray:=by rw[<-hcs]
    have hrow:aM w' E.Z e (bx n.toNat z) (madeCells zv.cells (n.toNat*e.size)).toList:=by
     rw[hc]
     exact aM.mono (fun _ h=>h) (fun q hq=>hbel.block q (hm.glob.zlt q hq)) (wS hdat n.toNat)
    have hmod:=nc (v':=.slice (some ⟨E.w.heap.size,0,none⟩) n.toNat n.toNat) (ri:=⟨et,e,n.toNat,bx n.toNat z⟩) (Z2:=E.Z) hm (hb hbn) hbel (fun _ h=>h) (fun _ h=>.inl h) (fun q hq hz=>by
     simp only[Value.ownBlock,a_] at hq
     have:=hm.glob.zlt q hz
     omega) ⟨_,by simpa using r2,hrow,by simp⟩
    refine ak.value (E':=E.made b (.slice (some ⟨E.w.heap.size,0,none⟩) n.toNat n.toNat) w' E.Z) (v:=.slice (some ⟨E.w.heap.size,0,none⟩) n.toNat n.toNat) ?_ rfl hmod.2 hmod.1 ⟨[_],rfl,⟨⟨?_,.inr rfl,rfl⟩,trivial⟩,fun _=>rfl⟩
    ·have e1':a.eval l=.int k ((n.toNat:Nat):Int):=by rw[e1];congr 1
     have e2':a.eval c=.int k' ((n.toNat:Nat):Int):=by rw[e2];congr 1
     simp only[execOp,ho,e1',e2',Sem.run_bind,r1,Result.andThen_ok,Sem.run_pure]
     rfl
    ·show _=if b=b then _ else _
     rw[if_pos rfl]
   ·cases h
  ·cases h
 ·cases h
theorem uV {w:World} {Z:Nat->Prop} {e:Sh}:∀{l:List e.T} {css:List (List Value)},css.length=l.length->(∀(k:Nat) (x:e.T),l[k]?=some x->∃c,css[k]?=some c/\Dat w Z e x c)->aM w Z e l css.flatten
 | [],[],_,_=>rfl
 | x ::l,c ::css,hl,h=>by
  obtain ⟨c',h1,h2⟩:=h 0 x rfl
  simp only[dG,a_] at h1
  subst h1
  exact ⟨c,css.flatten,by simp,h2,uV (by simpa using hl) fun k y hy=>by simpa using h (k+1) y (by simpa using hy)⟩
 | [],_ ::_,hl,_=>by simp at hl
 | _ ::_,[],hl,_=>by simp at hl
theorem HQ {t et n b:Nat} {ps:Array (Nat×Operand)} {e:Sh} {l:List e.T} {get:Operand->Option SV} (ho:o.op=.buildSlice t n ps) (hgt:im E a get o)
  (ht:gl P t=some et) (hz:eW P et=some e.size) (hw:pJ e get 0 ps.toList=some l) (hn:ps.size=n) {z:List Value} (hz0:ra P et=some z) (hsm:n*e.size<=2 ^ 24) (hm:Mod N E a g) (hb0:g.r b=none) {p:List Bool} :
  ak P N g E a o ⟨.c false [.row b],.row b ⟨et,e,l.length,l⟩ none,p⟩:=by
 obtain ⟨h1,css,h2,h3,h4⟩:=xz hw (fun p hp s hs=>hgt p.2 s (by rw[ho];simp only[Op.operands];simpa using ⟨p.1,Array.mem_toList_iff.1 hp⟩) hs)
 have hll:=sd hw
 have hln:l.length=n:=by rw[hll,<-hn];simp
 have hlen:∀c ∈ css,c.length=e.size:=by
  intro c hc
  obtain ⟨k,hk,rfl⟩:=List.getElem_of_mem hc
  have hkl:k<l.length:=by omega
  obtain ⟨c',e1,e2⟩:=h4 k l[k] (dg hkl)
  rw[dg hk] at e1
  injection e1 with e1
  rw[e1]
  exact e2.len
 have hcs:∀v ∈ ps.toList.map (fun p=>a.eval p.2),v.cells.size=e.size:=by
  intro v hv
  obtain ⟨p,hp,rfl⟩:=List.mem_map.1 hv
  have:(a.eval p.2).cells.toList ∈ css:=by rw[<-h3];exact List.mem_map.2 ⟨p,hp,rfl⟩
  have:=hlen _ this
  simpa using this
 have hflat:(ps.toList.map fun p=>a.eval p.2).flatMap (fun v=>v.cells.toList)=css.flatten:=by
  rw[<-h3,List.flatMap,List.map_map]
  rfl
 have hu:=eu ht
 obtain ⟨ti,zv,hi,hzv,_,_⟩:=qy hz0
 have hfill:∀c0:Array Value,c0.size=n*e.size->Instr.fill (fun i=>some (i*e.size,e.size)) c0 (ps.map fun p=>(p.1,a.eval p.2)).toList=some css.flatten.toArray:=by
  intro c0 hc0
  rw[Array.toList_map,h1,yf e.size _ 0 c0 hcs (by simp[hn,hc0]),hflat]
  simp[hn,hc0]
 have hb:Below E.w.heap.size E.w (E.w.alloc (.cells css.flatten.toArray et)):=(Below.refl _ _).alloc (bY _) _
 have hrow:aM (E.w.alloc (.cells css.flatten.toArray et)) E.Z e l css.flatten:=aM.mono (fun _ h=>h) (fun k hk=>hb.block k (hm.glob.zlt k hk)) (uV h2 h4)
 have hfl:css.flatten.length=n*e.size:=by rw[ke hrow,hln]
 have hmax:n<=maxLen:=by
  have:=Nat.le_mul_of_pos_right n (Sh.size_pos' e)
  simp only[maxLen]
  omega
 have hmod:=nc (v':=.slice (some ⟨E.w.heap.size,0,none⟩) n n) (ri:=⟨et,e,l.length,l⟩) (Z2:=E.Z) hm hb0 hb (fun _ h=>h) (fun _ h=>.inl h) (fun q hq hz=>by
  simp only[Value.ownBlock,a_] at hq
  have:=hm.glob.zlt q hz
  omega) ⟨css.flatten,⟨by rw[hfl,hln],.inr ⟨E.w.heap.size,n,css.flatten.toArray,by rw[hln],bY _,sk E.w _,by rw[hln];exact bY _,hmax,by simpa using hfl,(by rw[hln,<-hfl];exact List.take_length)⟩⟩,hrow,rfl⟩
 refine ak.value (E':=E.made b (.slice (some ⟨E.w.heap.size,0,none⟩) n n) (E.w.alloc (.cells css.flatten.toArray et)) E.Z) (v:=.slice (some ⟨E.w.heap.size,0,none⟩) n n) ?_ rfl hmod.2 hmod.1 ⟨[_],rfl,⟨⟨?_,.inr rfl,rfl⟩,trivial⟩,fun _=>rfl⟩
 ·simp only[execOp,ho,Instr.buildSlice,Sem.run_bind,run_underlying hu,Result.andThen_ok,dq hz]
  rw[if_neg (by omega)]
  by_cases h0:n*e.size=0
  ·rw[if_pos h0]
   simp only[pure_bind]
   rw[hfill _ (by simp)]
   rfl
  ·rw[if_neg h0]
   simp only[Sem.run_bind,zeroValue,typeInfo]
   simp only[run_program,Result.andThen_ok,hi,hzv,Sem.run_pure]
   rw[hfill _ (by simp)]
   rfl
 ·show _=if b=b then _ else _
  rw[if_pos rfl]
theorem ak.thaw {u:List Nat} {sv:SV} {p:List Bool} (hm:Mod N E a g) (h:Mod N (E.zone g u) a (g.app (.rkill u))->ak P N (g.app (.rkill u)) (E.zone g u) a o ⟨sv,.none,p⟩):ak P N g E a o ⟨sv,.rkill u,p⟩:=by
 obtain ⟨m1,m2⟩:=yS hm u
 intro K Q hK
 refine h m1 K Q fun E' v' h0 hk hm' hv=>?_
 exact hK E' v' (io.trans (E':=E.zone g u) rfl h0) (m2.trans hk) hm' hv
theorem ak.thaw2 {u:List Nat} {sv:SV} {p p':List Bool} {e1 e2:Eff} (hm:Mod N E a g) (he:(g.app (.rkill u)).app e1=g.app e2) (h:Mod N (E.zone g u) a (g.app (.rkill u))->ak P N (g.app (.rkill u)) (E.zone g u) a o ⟨sv,e1,p⟩):ak P N g E a o ⟨sv,e2,p'⟩:=by
 obtain ⟨m1,m2⟩:=yS hm u
 intro K Q hK
 refine h m1 K Q fun E' v' h0 hk hm' hv=>?_
 simp only[he] at hm'
 exact hK E' v' (io.trans (E':=E.zone g u) rfl h0) (m2.trans hk) hm' hv
end
end Dn
end Go.Proofs.YtlfdhaiigdllcaaGreat
