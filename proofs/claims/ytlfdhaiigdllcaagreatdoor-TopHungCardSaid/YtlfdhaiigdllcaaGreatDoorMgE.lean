/- A symbolic executor: strings by their bytes, arrays and structs that are values, carries, new rows of a length, copies into rows, rows that become data. -/
import Derived.Laws.Strings
import Derived.Laws.Tables
import Derived.Laws.Externs
import Derived.Laws.OwnMore
import Derived.ChangeKeysEq
import Derived.Test.YtlfdhaiigdllcaaGreatDoorMgD

namespace Go.Proofs.YtlfdhaiigdllcaaGreatDoor
namespace Dn
open Go.RowKit
section
variable {P:Program} {N:Nat} {g:Look} {E:Env} {a:Act} {o:Oper}
def byteAt (s:ByteArray) (i:Nat):Int:=((s.data.toList.getD i 0).toNat:Int)
theorem byteAt_eq {s:ByteArray} {i:Nat} (h:i<s.size):((s[i]'h).toNat:Int)=byteAt s i:=by
 have h':i<s.data.size:=h
 have h2:s.data.toList.getD i 0=s[i]:=by
  rw[List.getD,Array.getElem?_toList,Array.getElem?_eq_getElem h']
  rfl
 rw[byteAt,h2]
theorem indexStr_ok {t:TypeId} {x y:Operand} {s:ByteArray} {k:IntKind} {i:Int} (ho:o.op=.index t x y) (hx:RelV E (.c false [.v (.string s)]) (a.eval x)) (hy:RelV E (.c false [.v (.int k i)]) (a.eval y))
  (ht:P.underlying t=some .string) (hm:Mod N E a g) (hp:0<=i/\i<s.size):CoreOk P N g E a o ⟨.c false [.v (.int .u8 (byteAt s i.toNat))],.none,[inB i s.size]⟩:=by
 have e1:=toV_rel (x:=.string s) rfl hx
 have e2:=toV_rel (x:=.int k i) rfl hy
 refine CoreOk.value (E':=E) (v:=.int .u8 (byteAt s i.toNat)) ?_ rfl (Keep.refl E) hm ⟨[_],rfl,⟨rfl,trivial⟩,fun _=>rfl⟩
 simp only[execOp,ho,e1,e2,Sem.run_bind,run_index_string E.w t s k i ht,dif_pos hp,Result.andThen_ok,Sem.run_pure,byteAt_eq (show i.toNat<s.size by omega)]
theorem run_part_of {t:TypeId} {ag:Bool} {cs ecs:List Value} {off:Nat} (ha:aggT P t=some ag) (hz:sizeT P t=some ecs.length) (h1:ag=false->ecs.length=1) (hc:∀j v,ecs[j]?=some v->cs[off+j]?=some v) (w:World) :
  (part t cs.toArray off).run P w=.ok (mkV ag ecs) w:=by
 cases ag with
 | true =>
  simp only[part,Sem.run_bind,run_isAgg ha,Result.andThen_ok,if_true,run_sizeOf hz,Sem.run_pure,mkV]
  congr 2
  apply Array.ext'
  apply List.ext_getElem?
  intro j
  simp only[List.extract_toArray,List.extract_eq_take_drop,List.getElem?_take,List.getElem?_drop]
  by_cases hj:j<ecs.length
  ·rw[if_pos (by omega),List.getElem?_eq_getElem hj]
   exact hc j _ (List.getElem?_eq_getElem hj)
  ·rw[if_neg (by omega),List.getElem?_eq_none (by omega)]
 | false =>
  have h:=h1 rfl
  match ecs,h with
  | [c],_ =>
   have h0:=hc 0 c rfl
   simp only[Nat.add_zero] at h0
   simp[part,run_isAgg ha,h0,mkV]
theorem indexAgg_ok {t et:TypeId} {x y:Operand} {l:List At} {n:Nat} {e:Sh} {xs:List e.T} {k:IntKind} {i:Int} (ho:o.op=.index t x y) (hx:RelV E (.c true l) (a.eval x)) (hy:RelV E (.c false [.v (.int k i)]) (a.eval y))
  (ht:arrT P t=some (n,et)) (hag:aggT P et=some e.isAgg) (hz:sizeT P et=some e.size) (h1:(e.isAgg||Nat.beq e.size 1)=true) (hxs:els e n l=some xs) (hm:Mod N E a g) (hp:0<=i/\i<n) :
  CoreOk P N g E a o ⟨.c e.isAgg (e.cells (xs.getD i.toNat e.dflt)),.none,[inB i n]⟩:=by
 obtain ⟨cs,hv,hr,_⟩:=hx
 have hyv:=toV_rel (x:=.int k i) rfl hy
 have hu:=arrT_eq ht
 have hlen:=els_len hxs
 have hget:xs[i.toNat]?=some (xs.getD i.toNat e.dflt):=by simp[List.getD,List.getElem?_eq_getElem (show i.toNat<xs.length by omega)]
 obtain ⟨ecs,g1,g2⟩:=els_rel hxs hr _ _ hget
 have hel:=g1.len
 have hone:e.isAgg=false->ecs.length=1:=fun h=>by
  rw[h,Bool.false_or] at h1
  rw[hel];simpa using h1
 have hrun:=run_part_of (P:=P) (cs:=cs) (off:=i.toNat*e.size) hag (by rw[hel];exact hz) hone g2 E.w
 refine CoreOk.value (E':=E) (v:=mkV e.isAgg ecs) ?_ rfl (Keep.refl E) hm ⟨ecs,rfl,g1.rel,hone⟩
 simp only[execOp,ho,hv,hyv,mkV,if_true,Instr.index,asIntOf,pure_bind,Sem.run_bind,run_underlying hu,Result.andThen_ok,hp.1,hp.2,and_self,run_sizeOf hz,hrun,Sem.run_pure]
def fieldTy (P:Program) (t:TypeId) (f:Nat):Option (TypeId×Nat):=match P.underlying t with
 | some (.struct fs)=>match fs[f]? with
  | some x=>some (x.type,x.offset)
  | none=>none
 | _=>none
theorem fieldV_ok {t:TypeId} {x:Operand} {f ft off:Nat} {l:List At} {s:SV} (ho:o.op=.field t x f) (hx:RelV E (.c true l) (a.eval x)) (hf:fieldTy P t f=some (ft,off)) (hs:partC P ft l off=some s) (hm:Mod N E a g) :
  CoreOk P N g E a o ⟨s,.none,[]⟩:=by
 obtain ⟨cs,hv,hr,_⟩:=hx
 unfold fieldTy at hf
 split at hf
 ·rename_i fs hu
  split at hf
  ·rename_i y hy
   simp only[Option.some.injEq,Prod.mk.injEq] at hf
   obtain ⟨rfl,rfl⟩:=hf
   unfold partC at hs
   split at hs
   ·rename_i ag n ha hz
    split at hs
    ·rename_i hb
     injection hs with hs;subst hs
     simp only[Bool.and_eq_true,Nat.ble_eq,Bool.or_eq_true,Nat.beq_eq] at hb
     have hl:((cs.drop y.offset).take n).length=n:=by
      have:=hr.length
      simp[List.length_take,List.length_drop]
      omega
     have h1:ag=false->((cs.drop y.offset).take n).length=1:=fun h0=>by
      rw[hl]
      rcases hb.2 with h | h
      ·rw[h0] at h;cases h
      ·exact h
     have hrun:=run_part_of (P:=P) (cs:=cs) (off:=y.offset) (ecs:=(cs.drop y.offset).take n) ha (by rw[hl];exact hz) h1 (fun j v hj=>by
      rw[List.getElem?_take] at hj
      split at hj
      ·rwa [List.getElem?_drop] at hj
      ·cases hj) E.w
     refine CoreOk.value (E':=E) (v:=mkV ag ((cs.drop y.offset).take n)) ?_ rfl (Keep.refl E) hm ⟨_,rfl,(hr.drop _).take n,h1⟩
     simp only[execOp,ho,hv,mkV,if_true,Instr.field,Sem.run_bind,run_underlying hu,Result.andThen_ok,hy,asAgg,Sem.run_pure,hrun]
    ·cases hs
   ·cases hs
  ·cases hf
 ·cases hf
def fillS (place:Nat->Option (Nat×Nat)):List At->List (Nat×SV)->Option (List At)
 | cells,[]=>some cells
 | cells,(i,.c ag l) ::r=>match place i with
  | some (off,n)=>match Nat.beq l.length n,Nat.ble (off+n) cells.length,l.all at1,ag||Nat.beq n 1 with
   | true,true,true,true=>fillS place (cells.take off++l++cells.drop (off+l.length)) r
   | _,_,_,_=>none
  | none=>none
 | _,(_,.tup _) ::_=>none
def RelPs (E:Env):List (Nat×SV)->List (Nat×Value)->Prop
 | [],[]=>True
 | p ::l,q ::r=>p.1=q.1/\RelV E p.2 q.2/\RelPs E l r
 | _,_=>False
theorem fillS_run {place:Nat->Option (Nat×Nat)}:∀{ps:List (Nat×SV)} {cells out:List At} {qs:List (Nat×Value)} {cs:List Value},fillS place cells ps=some out->RelL E cells cs->RelPs E ps qs ->
  ∃us,Instr.fill place cs.toArray qs=some us.toArray/\RelL E out us
 | [],cells,out,[],cs,h,hr,_=>by
  simp only[fillS,Option.some.injEq] at h
  subst h
  exact ⟨cs,rfl,hr⟩
 | (i,.c ag l) ::r,cells,out,(j,v) ::qs,cs,h,hr,hp=>by
  simp only[fillS] at h
  obtain ⟨hij,hv,hps⟩:=hp
  simp only at hij hv
  subst hij
  split at h
  ·rename_i off n hpl
   split at h
   ·rename_i h1 h2 h3 h4
    have h1:l.length=n:=by simpa using h1
    have h2:off+n<=cells.length:=Nat.le_of_ble_eq_true h2
    obtain ⟨vs,rfl,hvr,hv1⟩:=hv
    have hone:=ats1_one h3 hvr
    have hlen:=hvr.length
    have hcl:=hr.length
    have hcells:=cells_mkV hv1 hone
    have hr2:RelL E (cells.take off++l++cells.drop (off+l.length)) (cs.take off++vs++cs.drop (off+vs.length)):=by
     rw[hlen]
     exact ((hr.take off).append hvr).append (hr.drop _)
    obtain ⟨us,hu1,hu2⟩:=fillS_run h hr2 hps
    refine ⟨us,?_,hu2⟩
    have hf:=foldl_seg off vs 0 cs.toArray (by simp;omega)
    have hf':(vs.toArray.zipIdx.foldl (fun cs x=>cs.setIfInBounds (off+x.2) x.1) cs.toArray)=(cs.take off++vs++cs.drop (off+vs.length)).toArray:=by
     rw[<-Array.foldl_toList,Array.toList_zipIdx]
     simpa using hf
    simp only[Instr.fill,hpl,hcells]
    rw[if_neg (by simp;omega)]
    have e:(fun (cs:Array Value) (x:Value×Nat)=>match x with | (c,j)=>cs.setIfInBounds (off+j) c)=fun cs x=>cs.setIfInBounds (off+x.2) x.1:=rfl
    rw[e,hf']
    exact hu1
   ·cases h
  ·cases h
 | (_,.tup _) ::_,_,_,_,_,h,_,_=>by simp[fillS] at h
 | [],_,_,_ ::_,_,_,_,hp=>hp.elim
 | (_,.c _ _) ::_,_,_,[],_,_,_,hp=>hp.elim
def placesOf (P:Program) (t:TypeId):Option (Nat->Option (Nat×Nat)):=match P.underlying t with
 | some (.array _ e)=>match P.info? e with
  | some ie=>some fun i=>some (i*ie.size,ie.size)
  | none=>none
 | some (.struct fields)=>match fields.toList.mapM (fun f=>(P.info? f.type).map fun i=>(f.offset,i.size)) with
  | some places=>some (places.toArray[·]?)
  | none=>none
 | _=>none
def getPs (get:Operand->Option SV):List (Nat×Operand)->Option (List (Nat×SV))
 | []=>some []
 | p ::r=>match get p.2,getPs get r with
  | some s,some l=>some ((p.1,s) ::l)
  | _,_=>none
theorem getPs_rel {get:Operand->Option SV}:∀{ps:List (Nat×Operand)} {l:List (Nat×SV)},getPs get ps=some l->(∀p ∈ ps,∀s,get p.2=some s->RelV E s (a.eval p.2))->RelPs E l (ps.map fun p=>(p.1,a.eval p.2))
 | [],l,h,_=>by simp only[getPs,Option.some.injEq] at h;subst h;trivial
 | p ::r,l,h,hg=>by
  simp only[getPs] at h
  split at h
  ·rename_i s l' hs hl
   injection h with h
   subst h
   exact ⟨rfl,hg p (by simp) s hs,getPs_rel hl fun q hq=>hg q (by simp[hq])⟩
  ·cases h
def buildStC (P:Program) (get:Operand->Option SV) (t:TypeId) (ps:Array (Nat×Operand)):Option Core:=match placesOf P t,zeroT P t,getPs get ps.toList with
 | some place,some cs,some l=>match fillS place (cs.map .v) l with
  | some out=>some ⟨.c true out,.none,[]⟩
  | none=>none
 | _,_,_=>none
theorem zeroT_info {t:TypeId} {cs:List Value} (h:zeroT P t=some cs):∃i z,P.info? t=some i/\i.zero=some z/\z.cells.toList=cs/\cs.all Value.oneCell'=true:=by
 unfold zeroT at h
 split at h
 ·rename_i i hi
  split at h
  ·rename_i z hz
   split at h
   ·rename_i hall
    injection h with h
    subst h
    exact ⟨i,z,hi,hz,rfl,hall⟩
   ·cases h
  ·cases h
 ·cases h
theorem buildStC_ok {get:Operand->Option SV} {t:TypeId} {ps:Array (Nat×Operand)} {r:Core} (ho:o.op=.build t ps) (h:buildStC P get t ps=some r) (hg:Gets E a get o) (hm:Mod N E a g):CoreOk P N g E a o r:=by
 unfold buildStC at h
 split at h
 ·rename_i place cs l hpl hz hl
  split at h
  ·rename_i out hout
   injection h with h
   subst h
   obtain ⟨i,z,hi,hzz,hcs,_⟩:=zeroT_info hz
   have hrel:=getPs_rel hl fun p hp s hs=>hg p.2 s (by rw[ho];simp only[Op.operands];simpa using ⟨p.1,Array.mem_toList_iff.1 hp⟩) hs
   obtain ⟨us,hu1,hu2⟩:=fillS_run hout (relL_v cs) hrel
   refine CoreOk.value (E':=E) (v:=.agg us.toArray) ?_ rfl (Keep.refl E) hm ⟨us,rfl,hu2,fun h=>(by cases h)⟩
   have hb:P.built t (ps.map fun x=>(x.1,a.eval x.2)).toList=some us.toArray:=by
    have hc:z.cells=cs.toArray:=by rw[<-hcs]
    unfold Program.built
    unfold placesOf at hpl
    split at hpl
    ·rename_i n e hu
     split at hpl
     ·rename_i ie hie
      injection hpl with hpl
      subst hpl
      simp only[hi,hu,hzz,hie]
      rw[hc,Array.toList_map]
      exact hu1
     ·cases hpl
    ·rename_i fields hu
     split at hpl
     ·rename_i places hpp
      injection hpl with hpl
      subst hpl
      simp only[hi,hu,hzz,hpp]
      rw[hc,Array.toList_map]
      exact hu1
     ·cases hpl
    ·cases hpl
   have hrun:=run_build E.w t (ps.map fun x=>(x.1,a.eval x.2)) us.toArray hb
   simp only[execOp,ho,Sem.run_bind]
   erw [hrun]
   rfl
  ·cases h
 ·cases h
def sub64Entry:Array Value->Sem Value:=fun args=>do
 let (x, y, b) ← Extern.MathBitsCarry.three "Sub64" args
 pure (Extern.MathBitsCarry.pair ((x+Extern.MathBitsCarry.m64 - y - b) % Extern.MathBitsCarry.m64) (if x<y+b then 1 else 0))
def carryOf (P:Program) (f:FuncId):Option Bool:=match P.funcs[f]? with
 | some fn => match fn.body.isNone, fn.name == "runtime.NumGoroutine", fn.origin == "" with
  | true, false, true => match fn.name == "math/bits.Add64", fn.name == "math/bits.Sub64" with
   | true,_=>some true
   | false,true=>some false
   | _,_=>none
  | _,_,_=>none
 | none=>none
def addO (x y c:Int):Int:=Int.ofNat ((x.toNat+y.toNat+c.toNat) % 18446744073709551616)
def addC (x y c:Int):Int:=Int.ofNat ((x.toNat+y.toNat+c.toNat) / 18446744073709551616)
def subO (x y b:Int):Int:=Int.ofNat ((18446744073709551616+x.toNat - y.toNat - b.toNat) % 18446744073709551616)
def subC (x y b:Int):Int:=Int.ofNat (bif Nat.blt x.toNat (y.toNat+b.toNat) then 1 else 0)
def carryC (P:Program) (get:Operand->Option SV) (f:FuncId) (xs:Array Operand):Option Core:=match carryOf P f,xs.toList with
 | some ad,[x,y,c]=>match getV get x,getV get y,getV get c with
  | some (.int _ i),some (.int _ j),some (.int _ k)=>some ⟨.tup [(false,[.v (.int .u64 (bif ad then addO i j k else subO i j k))]),(false,[.v (.int .u64 (bif ad then addC i j k else subC i j k))])],.none,[decide (0<=k),decide (k<=1)]⟩
  | _,_,_=>none
 | _,_=>none
theorem carryC_ok {get:Operand->Option SV} {f:Operand} {id:FuncId} {xs:Array Operand} {ts:Array TypeId} {r:Core} (ho:o.op=.call { callee:=.value f,args:=xs,argTypes:=ts }) (hf:a.eval f=.func (.func id) #[] #[])
  (h:carryC P get id xs=some r) (hp:allB r.p=true) (hg:Gets E a get o) (hm:Mod N E a g):CoreOk P N g E a o r:=by
 unfold carryC at h
 split at h
 ·rename_i ad x y c had hxs
  have hxs:xs=#[x,y,c]:=by rw[<-Array.toArray_toList (xs:=xs),hxs]
  subst hxs
  split at h
  ·rename_i k1 i k2 j k3 k hx hy hc
   injection h with h
   subst h
   have e1:=getV_eval hg (by simp[ho,Op.operands,Call.operands]) hx
   have e2:=getV_eval hg (by simp[ho,Op.operands,Call.operands]) hy
   have e3:=getV_eval hg (by simp[ho,Op.operands,Call.operands]) hc
   have hk:k=0\/k=1:=by
    obtain ⟨h1,h2⟩:=allB_cons hp
    have h1:0<=k:=of_decide_eq_true h1
    have h2:k<=1:=of_decide_eq_true h2
    omega
   unfold carryOf at had
   split at had
   ·rename_i fn hfn
    split at had
    ·rename_i hb hng hnx
     have hor : fn.origin = "" := by simpa using hnx
     refine CoreOk.value (E':=E) (v:=.tuple #[.int .u64 (bif ad then addO i j k else subO i j k),.int .u64 (bif ad then addC i j k else subC i j k)]) ?_ rfl (Keep.refl E) hm ⟨[_,_],rfl,⟨⟨[_],rfl,⟨rfl,trivial⟩,fun _=>rfl⟩,⟨[_],rfl,⟨rfl,trivial⟩,fun _=>rfl⟩,trivial⟩⟩
     have key:(callFunc id #[a.eval x,a.eval y,a.eval c]).run P E.w=.ok (.value (.tuple #[.int .u64 (bif ad then addO i j k else subO i j k),.int .u64 (bif ad then addC i j k else subC i j k)])) E.w:=by
      rw[e1,e2,e3]
      split at had
      ·rename_i hn
       injection had with had
       subst had
       have hn : fn.name = "math/bits.Add64" := by simpa using hn
       have hn1:Extern.findNext fn=none:=by unfold Extern.findNext;rw[hn,hor];rfl
       have hn2:Extern.find fn=some add64Entry:=by unfold Extern.find;rw[hn];rfl
       rw[run_callFunc_extern hfn hng hb hn1 hn2]
       rcases hk with rfl | rfl<;>rfl
      ·rename_i hn hn'
       injection had with had
       subst had
       have hn : fn.name = "math/bits.Sub64" := by simpa using hn'
       have hn1:Extern.findNext fn=none:=by unfold Extern.findNext;rw[hn,hor];rfl
       have hn2:Extern.find fn=some sub64Entry:=by unfold Extern.find;rw[hn];rfl
       rw[run_callFunc_extern hfn hng hb hn1 hn2]
       have hcond:∀m n:Nat,(if m<n then 1 else 0:Nat)=(bif Nat.blt m n then 1 else 0):=fun m n=>by
        by_cases h:m<n
        ·rw[if_pos h,Nat.blt_eq.mpr h];rfl
        ·rw[if_neg h,show Nat.blt m n=false by rw[Bool.eq_false_iff];intro hh;exact h (Nat.blt_eq.mp hh)];rfl
       simp only[subO,subC,cond_false,<-hcond,Nat.add_comm 18446744073709551616]
       rcases hk with rfl | rfl<;>rfl
      ·cases had
     simp only[execOp,ho,resolve,hf,Deferred.ofValue,pure_bind,invoke,Array.empty_append]
     simpa using key
    ·cases had
   ·cases had
  ·cases h
 ·cases h
theorem madeCells_rel {w:World} {Z:Nat->Prop} {e:Sh} {z:e.T} {zs:List Value} (hz:Dat w Z e z zs):∀n:Nat,RowRel w Z e (List.replicate n z) (madeCells zs.toArray (n*e.size)).toList:=by
 have hl:=hz.len
 have hpos:=Sh.size_pos' e
 have key:∀n:Nat,(madeCells zs.toArray (n*e.size)).toList=(List.replicate n zs).flatten:=by
  intro n
  apply List.ext_getElem?
  intro k
  have hlen:((List.replicate n zs).flatten).length=n*e.size:=by simp[hl]
  by_cases hk:k<n*e.size
  ·have hq:k / e.size<n:=by rw[Nat.div_lt_iff_lt_mul hpos];exact hk
   have hm:k % e.size<e.size:=Nat.mod_lt _ hpos
   have e1:(List.replicate n zs).flatten[k]?=some (zs[k % e.size]'(by omega)):=by
    have:=flatten_at (n:=e.size) (css:=List.replicate n zs) (k:=k / e.size) (c:=zs) (j:=k % e.size) (v:=zs[k % e.size]'(by omega)) (fun x hx=>by rw[List.eq_of_mem_replicate hx];exact hl) (by rw[List.getElem?_replicate,if_pos hq]) (List.getElem?_eq_getElem _)
    rwa [show k / e.size*e.size+k % e.size=k by rw[Nat.mul_comm];exact Nat.div_add_mod k e.size] at this
   rw[e1]
   simp only[madeCells,Array.toList_map,Array.toList_range,List.getElem?_map,List.getElem?_range hk,Option.map_some,List.size_toArray,hl]
   congr 1
   exact getElem!_pos zs.toArray (k % e.size) (by simp;omega)
  ·rw[List.getElem?_eq_none (by simp[madeCells];omega),List.getElem?_eq_none (by omega)]
 intro n
 rw[key n]
 clear key
 induction n with
 | zero=>exact rfl
 | succ n ih=>exact ⟨zs,_,by simp[List.replicate_succ],hz,ih⟩
def zerosOf (e:Sh) (cs:List Value):Option e.T:=match e.take (cs.map .v) with
 | some (z,[])=>some z
 | _=>none
theorem zerosOf_dat {e:Sh} {cs:List Value} {z:e.T} (h:zerosOf e cs=some z):Dat E.w E.Z e z cs:=by
 unfold zerosOf at h
 split at h
 ·rename_i y hy
  injection h with h
  subst h
  obtain ⟨c1,c2,rfl,hd,h2⟩:=take_rel hy (relL_v (E:=E) cs)
  match c2,h2 with
  | [],_=>rw[List.append_nil];exact hd
 ·cases h
def sameOpd:Operand->Operand->Bool
 | .tmp i,.tmp j=>Nat.beq i j
 | .const (.int _ m),.const (.int _ n)=>decide (m=n)
 | _,_=>false
theorem sameOpd_eval {x y:Operand} {k:IntKind} {i:Int} (h:sameOpd x y=true) (hx:a.eval x=.int k i):∃k',a.eval y=.int k' i:=by
 unfold sameOpd at h
 split at h
 ·rename_i p q
  have h:p=q:=by simpa using h
  subst h
  exact ⟨k,hx⟩
 ·rename_i k1 m k2 n
  have h:m=n:=of_decide_eq_true h
  subst h
  simp only[Act.eval] at hx ⊢
  injection hx with h1 h2
  exact ⟨k2,by rw[h2]⟩
 ·cases h
def makeC (C_sh:TypeId->Option Sh) (P:Program) (get:Operand->Option SV) (rk:Rk) (b:Nat) (t:TypeId) (l c:Operand):Option Core:=match elemT P t,getV get l,sameOpd l c,rk b with
 | some et,some (.int _ n),true,none=>match C_sh et,P.info? et,zeroT P et with
  | some e,some i,some cs=>match zerosOf e cs,Nat.beq i.size e.size&&Nat.ble 1 i.bytes with
   | some z,true=>some ⟨.c false [.row b],.row b ⟨et,e,n.toNat,List.replicate n.toNat z⟩ none,[decide (0<=n),fitB n.toNat i.bytes]⟩
   | _,_=>none
  | _,_,_=>none
 | _,_,_,_=>none
theorem makeC_ok {sh:TypeId->Option Sh} {get:Operand->Option SV} {rk:Rk} {b:Nat} {t:TypeId} {l c:Operand} {r:Core} (ho:o.op=.makeSlice t l c) (h:makeC sh P get rk b t l c=some r) (hp:allB r.p=true) (hg:Gets E a get o) (hm:Mod N E a g) (hb:rk b=none->g.r b=none):CoreOk P N g E a o r:=by
 unfold makeC at h
 split at h
 ·rename_i et k n hu hl hsame hbn
  split at h
  ·rename_i e i cs he hi hz
   split at h
   ·rename_i z hzo hsz
    injection h with h
    subst h
    simp only[Bool.and_eq_true,Nat.beq_eq,Nat.ble_eq] at hsz
    obtain ⟨hp0,hp1⟩:=allB_cons hp
    have h0:0<=n:=of_decide_eq_true hp0
    have hfit:n.toNat*i.bytes<=140737488355328:=fitB_iff.1 hp1
    have e1:=getV_eval hg (by simp[ho,Op.operands]) hl
    obtain ⟨k',e2⟩:=sameOpd_eval hsame e1
    obtain ⟨i',zv,hi',hzv,hcs,hone⟩:=zeroT_info hz
    rw[hi] at hi'
    injection hi' with hi'
    subst hi'
    have hn:n=((n.toNat:Nat):Int):=by omega
    have h63:n.toNat<=maxLen:=by
     have:n.toNat<=n.toNat*i.bytes:=Nat.le_mul_of_pos_right _ hsz.2
     simp only[maxLen]
     omega
    obtain ⟨w',r1,r2,r3⟩:=run_make_full (P:=P) E.w E.w.heap.size t et i zv e.size (elemT_eq hu) hi hzv hsz.1 k k' n.toNat (by rw[Nat.mul_comm];omega) h63 (Nat.le_refl _)
    have hbel:Below E.w.heap.size E.w w':=⟨r3.os,r3.tape,r3.output,r3.size,fun q hq=>r3.block q hq fun e=>by cases e⟩
    have hdat:=zerosOf_dat (E:=E) hzo
    have hc:zv.cells=cs.toArray:=by rw[<-hcs]
    have hrow:RowRel w' E.Z e (List.replicate n.toNat z) (madeCells zv.cells (n.toNat*e.size)).toList:=by
     rw[hc]
     exact RowRel.mono (fun _ h=>h) (fun q hq=>hbel.block q (hm.glob.zlt q hq)) (madeCells_rel hdat n.toNat)
    have hmod:=newRow_mod (v':=.slice (some ⟨E.w.heap.size,0,none⟩) n.toNat n.toNat) (ri:=⟨et,e,n.toNat,List.replicate n.toNat z⟩) (Z2:=E.Z) hm (hb hbn) hbel (fun _ h=>h) (fun _ h=>.inl h) (fun q hq hz=>by
     simp only[Value.ownBlock,Option.some.injEq] at hq
     have:=hm.glob.zlt q hz
     omega) ⟨_,by simpa using r2,hrow,by simp⟩
    refine CoreOk.value (E':=E.made b (.slice (some ⟨E.w.heap.size,0,none⟩) n.toNat n.toNat) w' E.Z) (v:=.slice (some ⟨E.w.heap.size,0,none⟩) n.toNat n.toNat) ?_ rfl hmod.2 hmod.1 ⟨[_],rfl,⟨⟨?_,.inr rfl,rfl⟩,trivial⟩,fun _=>rfl⟩
    ·have e1':a.eval l=.int k ((n.toNat:Nat):Int):=by rw[e1];congr 1
     have e2':a.eval c=.int k' ((n.toNat:Nat):Int):=by rw[e2];congr 1
     simp only[execOp,ho,e1',e2',Sem.run_bind,r1,Result.andThen_ok,Sem.run_pure]
     rfl
    ·show _=if b=b then _ else _
     rw[if_pos rfl]
   ·cases h
  ·cases h
 ·cases h
theorem rowRel_flatten {w:World} {Z:Nat->Prop} {e:Sh}:∀{l:List e.T} {css:List (List Value)},css.length=l.length->(∀(k:Nat) (x:e.T),l[k]?=some x->∃c,css[k]?=some c/\Dat w Z e x c)->RowRel w Z e l css.flatten
 | [],[],_,_=>rfl
 | x ::l,c ::css,hl,h=>by
  obtain ⟨c',h1,h2⟩:=h 0 x rfl
  simp only[List.getElem?_cons_zero,Option.some.injEq] at h1
  subst h1
  exact ⟨c,css.flatten,by simp,h2,rowRel_flatten (by simpa using hl) fun k y hy=>by simpa using h (k+1) y (by simpa using hy)⟩
 | [],_ ::_,hl,_=>by simp at hl
 | _ ::_,[],hl,_=>by simp at hl
theorem buildRow_ok {t et n b:Nat} {ps:Array (Nat×Operand)} {e:Sh} {l:List e.T} {get:Operand->Option SV} (ho:o.op=.buildSlice t n ps) (hgt:Gets E a get o)
  (ht:elemT P t=some et) (hz:sizeT P et=some e.size) (hw:wholes e get 0 ps.toList=some l) (hn:ps.size=n) {z:List Value} (hz0:zeroT P et=some z) (hsm:n*e.size<=2 ^ 24) (hm:Mod N E a g) (hb0:g.r b=none) {p:List Bool} :
  CoreOk P N g E a o ⟨.c false [.row b],.row b ⟨et,e,l.length,l⟩ none,p⟩:=by
 obtain ⟨h1,css,h2,h3,h4⟩:=wholes_run hw (fun p hp s hs=>hgt p.2 s (by rw[ho];simp only[Op.operands];simpa using ⟨p.1,Array.mem_toList_iff.1 hp⟩) hs)
 have hll:=wholes_length hw
 have hln:l.length=n:=by rw[hll,<-hn];simp
 have hlen:∀c ∈ css,c.length=e.size:=by
  intro c hc
  obtain ⟨k,hk,rfl⟩:=List.getElem_of_mem hc
  have hkl:k<l.length:=by omega
  obtain ⟨c',e1,e2⟩:=h4 k l[k] (List.getElem?_eq_getElem hkl)
  rw[List.getElem?_eq_getElem hk] at e1
  injection e1 with e1
  rw[e1]
  exact e2.len
 have hcs:∀v ∈ ps.toList.map (fun p=>a.eval p.2),v.cells.size=e.size:=by
  intro v hv
  obtain ⟨p,hp,rfl⟩:=List.mem_map.1 hv
  have:(a.eval p.2).cells.toList ∈ css:=by rw[<-h3];exact List.mem_map.2 ⟨p,hp,rfl⟩
  have:=hlen _ this
  simpa using this
 have hflat:(ps.toList.map fun p=>a.eval p.2).flatMap (fun v=>v.cells.toList)=css.flatten:=by
  rw[<-h3,List.flatMap,List.map_map]
  rfl
 have hu:=elemT_eq ht
 obtain ⟨ti,zv,hi,hzv,_,_⟩:=zeroT_info hz0
 have hfill:∀c0:Array Value,c0.size=n*e.size->Instr.fill (fun i=>some (i*e.size,e.size)) c0 (ps.map fun p=>(p.1,a.eval p.2)).toList=some css.flatten.toArray:=by
  intro c0 hc0
  rw[Array.toList_map,h1,fill_seq e.size _ 0 c0 hcs (by simp[hn,hc0]),hflat]
  simp[hn,hc0]
 have hb:Below E.w.heap.size E.w (E.w.alloc (.cells css.flatten.toArray et)):=(Below.refl _ _).alloc (Nat.le_refl _) _
 have hrow:RowRel (E.w.alloc (.cells css.flatten.toArray et)) E.Z e l css.flatten:=RowRel.mono (fun _ h=>h) (fun k hk=>hb.block k (hm.glob.zlt k hk)) (rowRel_flatten h2 h4)
 have hfl:css.flatten.length=n*e.size:=by rw[rowRel_len hrow,hln]
 have hmax:n<=maxLen:=by
  have:=Nat.le_mul_of_pos_right n (Sh.size_pos' e)
  simp only[maxLen]
  omega
 have hmod:=newRow_mod (v':=.slice (some ⟨E.w.heap.size,0,none⟩) n n) (ri:=⟨et,e,l.length,l⟩) (Z2:=E.Z) hm hb0 hb (fun _ h=>h) (fun _ h=>.inl h) (fun q hq hz=>by
  simp only[Value.ownBlock,Option.some.injEq] at hq
  have:=hm.glob.zlt q hz
  omega) ⟨css.flatten,⟨by rw[hfl,hln],.inr ⟨E.w.heap.size,n,css.flatten.toArray,by rw[hln],Nat.le_refl _,heap_new E.w _,by rw[hln];exact Nat.le_refl _,hmax,by simpa using hfl,(by rw[hln,<-hfl];exact List.take_length)⟩⟩,hrow,rfl⟩
 refine CoreOk.value (E':=E.made b (.slice (some ⟨E.w.heap.size,0,none⟩) n n) (E.w.alloc (.cells css.flatten.toArray et)) E.Z) (v:=.slice (some ⟨E.w.heap.size,0,none⟩) n n) ?_ rfl hmod.2 hmod.1 ⟨[_],rfl,⟨⟨?_,.inr rfl,rfl⟩,trivial⟩,fun _=>rfl⟩
 ·simp only[execOp,ho,Instr.buildSlice,Sem.run_bind,run_underlying hu,Result.andThen_ok,run_sizeOf hz]
  rw[if_neg (by omega)]
  by_cases h0:n*e.size=0
  ·rw[if_pos h0]
   simp only[pure_bind]
   rw[hfill _ (by simp)]
   rfl
  ·rw[if_neg h0]
   simp only[Sem.run_bind,zeroValue,typeInfo]
   simp only[run_program,Result.andThen_ok,hi,hzv,Sem.run_pure]
   rw[hfill _ (by simp)]
   rfl
 ·show _=if b=b then _ else _
  rw[if_pos rfl]
theorem CoreOk.thaw {u:List Nat} {sv:SV} {p:List Bool} (hm:Mod N E a g) (h:Mod N (E.zone g u) a (g.app (.rkill u))->CoreOk P N (g.app (.rkill u)) (E.zone g u) a o ⟨sv,.none,p⟩):CoreOk P N g E a o ⟨sv,.rkill u,p⟩:=by
 obtain ⟨m1,m2⟩:=zone_mod hm u
 intro K Q hK
 refine h m1 K Q fun E' v' h0 hk hm' hv=>?_
 exact hK E' v' (Same.trans (E':=E.zone g u) rfl h0) (m2.trans hk) hm' hv
theorem CoreOk.thaw2 {u:List Nat} {sv:SV} {p p':List Bool} {e1 e2:Eff} (hm:Mod N E a g) (he:(g.app (.rkill u)).app e1=g.app e2) (h:Mod N (E.zone g u) a (g.app (.rkill u))->CoreOk P N (g.app (.rkill u)) (E.zone g u) a o ⟨sv,e1,p⟩):CoreOk P N g E a o ⟨sv,e2,p'⟩:=by
 obtain ⟨m1,m2⟩:=zone_mod hm u
 intro K Q hK
 refine h m1 K Q fun E' v' h0 hk hm' hv=>?_
 simp only[he] at hm'
 exact hK E' v' (Same.trans (E':=E.zone g u) rfl h0) (m2.trans hk) hm' hv
end
end Dn
end Go.Proofs.YtlfdhaiigdllcaaGreatDoor
