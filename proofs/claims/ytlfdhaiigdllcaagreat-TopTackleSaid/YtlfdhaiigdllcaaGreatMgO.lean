/- top: slices.Delete at [][]int: what it does to a row of the call's own. top: the contracts that are given by hand: the iterators', and that of slices.Delete (Idtop). top: what its functions answer (printed by a program), and that they do. top: what its functions answer (printed by a program), and that they do; part 2. top: what its functions answer (printed by a program), and that they do; part 3. top: what its functions answer (printed by a program), and that they do; part 4. -/
import Derived.Shelf.RegionOpenPlain
import Derived.WalkKit
import Derived.Deep.LoopGhost
import Derived.Deep.RegionLaw
import Derived.Lib.Walk
import Derived.Sort.WalkB12
import Derived.Lib.SliceRun
import Derived.Lib.SlicesDelete
import Derived.Test.YtlfdhaiigdllcaaGreatMgN
open Array renaming getElem?_eq_getElem→k_
open ByteArray renaming toList→rO
open Go.IntKind renaming wrap→aQ
open Int renaming ofNat→mK,toNat→aS
open List renaming append_assoc→la,getD→aT,getElem?_eq_getElem→dg,getElem?_take→pL,length→aq,length_append→cL,length_cons→j_,replicate→bx,set→iF,size_toArray→i_,take→n_
open Nat renaming beq→g_,ble→cl,succ→bT,zero_add→d_
open Option.some renaming injEq→a_
open PUnit renaming unit→aC

namespace Go.Proofs.YtlfdhaiigdllcaaGreat
noncomputable section
open Tryz Dn Dn.Sh Go.Shelf Go.RowKit Go.Lib Go.Sort
abbrev NR:Value:=.slice none 0 0
abbrev rV:Value->Value:=fun v=>v
theorem W9:∃i0,prog.info? 29=some i0/\i0.size=1:=by
 have h:(prog.info? 29).map (·.size)=some 1:=by kernel_rfl
 cases hx:prog.info? 29 with
 | none=>rw[hx] at h;cases h
 | some i=>rw[hx] at h;injection h with h;exact ⟨i,rfl,h⟩
set_option maxHeartbeats 4000000 in
set_option maxRecDepth 1000000 in
theorem Wj (blk off cap i j:Nat) (d:Array Value) (w:World) (hH:Holds rV w blk off d) (h1c:∀v ∈ d.toList,v.oneCell'=true) (hcap:d.size<=cap) (hm:cap<=9223372036854775807) (hij:i<=j) (hj:j<=d.size) :
  Calls prog 139 #[.slice (some ⟨blk,off,none⟩) d.size cap,.int .i64 i,.int .i64 j] w fun e w'=>e=.returned (.slice (some ⟨blk,off,none⟩) (d.size - (j - i)) cap)/\∃q,w'=putRow rV (Sort.ahead w q) blk off (d.toList.take i++d.toList.drop j++bx (j - i) NR).toArray:=by
 have mixed:prog.follows .mixedOrders=true:=by kernel_rfl
 have t22:prog.underlying 109=some (.slice 29):=by kernel_rfl
 by_cases heq:i=j
 ·subst heq
  have h0:Calls prog 139 #[.slice (some ⟨blk,off,none⟩) d.size cap,.int .i64 i,.int .i64 i] w fun e w'=>e=.returned (.slice (some ⟨blk,off,none⟩) d.size cap)/\w'=w:=by
   clear hH
   go_enter Tryz.func139,Tryz.ntmps139
   go_wp2
   all_goals (go_ret;exact ⟨rfl,rfl⟩)
  refine h0.mono ?_
  rintro e w' ⟨rfl,rfl⟩
  have e:(d.toList.take i++d.toList.drop i++bx (i - i) NR).toArray=d:=by simp
  refine ⟨by rw[Nat.sub_self,Nat.sub_zero],0,?_⟩
  rw[e]
  exact (putRow_self rV (Sort.ahead w' 0) blk off d hH).symm
 ·have hlt:i<j:=by omega
  obtain ⟨news,hnews⟩:∃news,news=(d.toList.drop j).map rV:=⟨_,rfl⟩
  have hlen:news.length=d.size - j:=by rw[hnews];simp
  have hget:∀t,t<d.size - j->news[t]?=some (rV d[j+t]!):=by
   intro t ht
   rw[hnews,List.getElem?_map,List.getElem?_drop,Array.getElem?_toList,getElem!_pos d (j+t) (by omega),k_ (by omega)]
   rfl
  obtain ⟨A,hA,hsrc⟩:∃A:Addr,(if cap=j then some (⟨blk,off,none⟩:Addr) else some ⟨blk,off+j,none⟩)=some A/\Hid (∀t u,news[t]?=some u->w.drew.cell? (A.add t)=some u):=by
   by_cases h:cap=j
   ·refine ⟨⟨blk,off,none⟩,by simp[h],fun t u hu=>?_⟩
    have h0:news.length=0:=by rw[hlen];omega
    rw[List.length_eq_zero_iff.1 h0] at hu
    simp at hu
   ·refine ⟨⟨blk,off+j,none⟩,by simp[h],fun t u hu=>?_⟩
    have ht:t<d.size - j:=by
     have:=(List.getElem?_eq_some_iff.1 hu).1
     rwa [hlen] at this
    rw[hget t ht] at hu
    rw[Addr.add_lit,show off+j+t=off+(j+t) by omega]
    exact (hH (j+t) (by omega)).1.trans hu
  have s1:Hid (news.length=(d.size - j)*1):=by rw[Nat.mul_one];exact hlen
  have s2:Hid (∀u ∈ news,u.oneCell'=true):=by
   intro u hu
   rw[hnews] at hu
   obtain ⟨x,hx,rfl⟩:=List.mem_map.1 hu
   exact h1c x (List.mem_of_mem_drop hx)
  have s3:Hid (∀t,t<news.length->(w.drew.cell? ⟨blk,off+i*1+t,none⟩).isSome=true/\w.drew.frozen? ⟨blk,off+i*1+t,none⟩=false):=by
   intro t ht
   rw[hlen] at ht
   rw[Nat.mul_one,Nat.add_assoc]
   exact ⟨by show (w.cell? _).isSome=true;rw[(hH (i+t) (by omega)).1];rfl,(hH (i+t) (by omega)).2⟩
  obtain ⟨W1,hW1⟩:∃W1,W1=w.drew.setCells blk (off+i*1) news:=⟨_,rfl⟩
  have hW1':W1=putRow rV (Sort.ahead w 1) blk off (lay d i (d.toList.drop j)):=by
   rw[hW1,hnews,Nat.mul_one,<-putRow_setCells rV (Sort.ahead w 1) blk off _ d i (by simp;omega),putRow_self rV (Sort.ahead w 1) blk off d (holds_ahead rV w 1 blk off d hH)]
   rfl
  have hH1:Holds rV W1 blk off (lay d i (d.toList.drop j)):=by rw[hW1'];exact holds_putRow rV _ blk off d _ (holds_ahead rV w 1 blk off d hH) (lay_size _ _ _)
  have v3:∀w:World,(zeroValue 29).run prog w=.ok NR w:=zW (by kernel_rfl)
  have hcl:∀ty,(Builtin.clear_ #[109] ty #[.slice (some ⟨blk,off+(i+(d.size - j)),none⟩) (d.size - (i+(d.size - j))) (cap - (i+(d.size - j)))]).run prog W1=.ok (.tuple #[]) (W1.setCells blk (off+(i+(d.size - j))) (bx (d.size - (i+(d.size - j))) (rV NR))) :=
   fun ty=>Lib.run_clear_slice W1 _ _ ty _ t22 v3 rfl rfl blk (off+(i+(d.size - j))) _ _ (by omega) (fun t ht=>by rw[show off+(i+(d.size - j))+t=off+(i+(d.size - j)+t) by omega,(hH1 _ (by rw[lay_size];omega)).1];rfl) (fun t ht=>by rw[show off+(i+(d.size - j))+t=off+(i+(d.size - j)+t) by omega];exact (hH1 _ (by rw[lay_size];omega)).2)
  have X:Aside (W1=putRow rV (Sort.ahead w 1) blk off (lay d i (d.toList.drop j))):=hW1'
  have hW:Hid (W1=w.drew.setCells blk (off+i*1) news):=hW1
  have hic:i<=cap:=by omega
  have hjc:j<=cap:=by omega
  obtain ⟨i0,hi0,hz0⟩:=W9
  clear hW1 hW1' hH1 hH hget hnews hlen
  go_enter Tryz.func139,Tryz.ntmps139
  go_wp2_with fail
  go_region_law_o (refine step_append_room rfl (.tmp 22) (.tmp 25) 109 rfl 29 i0 1 t22 hi0 hz0 blk off i cap (by simp[Act.eval,Act.put]) A (d.size - j) (cap - j) news (by simp[Act.eval,Act.put]) s1.out hsrc.out s2.out (by omega) s3.out ?_;rw[<-hW.out])
  go_wp2
  go_ret
  refine ⟨by rw[show d.size - (j - i)=i+(d.size - j) by omega];rfl,1,?_⟩
  rw[<-delete_arr d i j NR hij hj,<-putRow_setCells rV _ blk off _ _ (i+(d.size - j)) (by rw[lay_size];simp;omega),<-X.out,List.map_replicate,show d.size - (i+(d.size - j))=j - i by omega]
theorem OD {w:World} {Z:Nat->Prop} {e:Sh}:∀{l:List (List e.T)} {xs:List Value},aM w Z (.sl e) l xs->xs.length=l.length
 | [],xs,h=>by simp only[aM] at h;rw[h];rfl
 | x ::l,xs,h=>by
  obtain ⟨c,r,rfl,h1,h2⟩:=h
  simp only[Dat] at h1
  obtain ⟨A,cc,rfl,_⟩:=h1
  rw[cL,OD h2,j_,j_,List.length_nil]
  omega
theorem PF {w:World} {Z:Nat->Prop} {e:Sh}:∀{l:List (List e.T)} {xs:List Value},aM w Z (.sl e) l xs->∀v ∈ xs,v.oneCell'=true
 | [],xs,h=>by simp only[aM] at h;rw[h];intro v hv;cases hv
 | x ::l,xs,h=>by
  obtain ⟨c,r,rfl,h1,h2⟩:=h
  intro v hv
  rcases List.mem_append.1 hv with hv | hv
  ·exact h1.one v hv
  ·exact PF h2 v hv
theorem Pq {w:World} {Z:Nat->Prop} {e:Sh}:∀{l m:List e.T} {xs ys:List Value},aM w Z e l xs->aM w Z e m ys->aM w Z e (l++m) (xs++ys)
 | [],m,xs,ys,h,h2=>by simp only[aM] at h;rw[h];exact h2
 | x ::l,m,xs,ys,h,h2=>by
  obtain ⟨c,r,rfl,h1,h3⟩:=h
  exact ⟨c,r++ys,by rw[la],h1,Pq h3 h2⟩
theorem Lh {w:World} {Z:Nat->Prop} {e:Sh}:∀{l:List (List e.T)} {xs:List Value} {i:Nat},aM w Z (.sl e) l xs->aM w Z (.sl e) (l.take i) (xs.take i)
 | l,xs,0,_=>by simp only[List.take_zero,aM]
 | [],xs,i+1,h=>by simp only[aM] at h;rw[h];simp only[List.take_nil,aM]
 | x ::l,xs,i+1,h=>by
  obtain ⟨c,r,rfl,h1,h2⟩:=h
  have h1':=h1
  simp only[Dat] at h1
  obtain ⟨A,cc,rfl,_⟩:=h1
  exact ⟨_,r.take i,rfl,h1',Lh h2⟩
theorem Lz {w:World} {Z:Nat->Prop} {e:Sh}:∀{l:List (List e.T)} {xs:List Value} {i:Nat},aM w Z (.sl e) l xs->aM w Z (.sl e) (l.drop i) (xs.drop i)
 | l,xs,0,h=>h
 | [],xs,i+1,h=>by simp only[aM] at h;rw[h];simp only[List.drop_nil,aM]
 | x ::l,xs,i+1,h=>by
  obtain ⟨c,r,rfl,h1,h2⟩:=h
  simp only[Dat] at h1
  obtain ⟨A,cc,rfl,_⟩:=h1
  exact Lz (i:=i) h2
theorem SQ {D cur:Array Value} (h:D.size<=cur.size):(putCells rV 0 D cur).toList.take D.size=D.toList:=by
 have hsz:(putCells rV 0 D cur).size=cur.size:=by unfold putCells;simp
 refine List.ext_getElem? fun t=>?_
 rw[pL]
 by_cases ht:t<D.size
 ·rw[if_pos ht,Array.getElem?_toList,Array.getElem?_toList,k_ ht]
  unfold putCells
  rw[Array.getElem?_mapIdx,k_ (show t<cur.size by omega),Option.map_some,if_pos ⟨Nat.zero_le _,by omega⟩,Nat.sub_zero,getElem!_pos D t ht]
 ·rw[if_neg ht,Array.getElem?_toList,Array.getElem?_eq_none (by omega)]
def dJ (x0:List (List Int)) (x1 x2:Int):Option (List (List Int)) :=
 bif decide (0<=x1)&&(decide (x1<=x2)&&decide (x2<=(x0.length:Int)))&&cl 1 x0.length then some (x0.take x1.toNat++x0.drop x2.toNat) else none
def agz:ACtr:=⟨[i64,i64],29,(.sl i64),fun l x=>dJ l x.1 x.2.1⟩
theorem Uh {l z:List (List Int)} {i j:Int} (hz':dJ l i j=some z) (w:World) (Z:Nat->Prop) (base:Nat) (v:Value) (xs:List Value) (hb:base<=w.heap.size) (ho:w.ownsRow base 29 1 v l.length xs) (hr:aM w Z (.sl i64) l xs) (hown:∀b,v.ownBlock=some b->¬ Z b) :
  Calls prog 139 #[v,.int .i64 i,.int .i64 j] w fun e w'=>∃(v':Value) (ys:List Value),e=.returned v'/\w.grownBy w' v.ownBlock/\w'.ownsRow base 29 1 v' z.length ys/\aM w' Z (.sl i64) z ys/\(∀b,v'.ownBlock=some b->v.ownBlock=some b\/w.heap.size<=b):=by
 unfold dJ at hz'
 cases hc:decide (0<=i)&&(decide (i<=j)&&decide (j<=(l.length:Int)))&&cl 1 l.length with
 | false=>rw[hc] at hz';cases hz'
 | true =>
  rw[hc] at hz'
  simp only[cond_true,a_] at hz'
  simp only[z10,decide_eq_true_eq,Nat.ble_eq] at hc
  obtain ⟨⟨hi0,hij,hjn⟩,hn⟩:=hc
  obtain ⟨i',rfl⟩:∃i':Nat,i=i':=⟨i.toNat,by omega⟩
  obtain ⟨j',rfl⟩:∃j':Nat,j=j':=⟨j.toNat,by omega⟩
  simp only[z9] at hz'
  obtain ⟨hxl,hv⟩:=ho
  rcases hv with ⟨_,h0⟩ | ⟨g,cap,cur,rfl,hbg,hg,hnc,hcm,hcs,htk⟩
  ·omega
  have hxl2:xs.length=l.length:=OD hr
  have hcs2:cur.size=cap:=by omega
  have htk2:cur.toList.take l.length=xs:=by rw[Nat.mul_one] at htk;exact htk
  have hml:maxLen<=9223372036854775807:=by decide
  have hH:Holds rV w g 0 xs.toArray:=by
   intro k hk
   simp only[i_] at hk
   have hcu:cur[k]?=some xs[k]:=by
    have hx:(cur.toList.take l.length)[k]?=xs[k]?:=by rw[htk2]
    rw[pL,if_pos (by omega),Array.getElem?_toList,dg hk] at hx
    exact hx
   refine ⟨?_,?_⟩
   ·rw[d_]
    show w.cell? ⟨g,k,none⟩=some xs.toArray[k]!
    rw[getElem!_pos xs.toArray k (by simpa using hk)]
    simp only[World.cell?,hg]
    simpa using hcu
   ·simp[World.frozen?,hg]
  have h:=Wj g 0 cap i' j' xs.toArray w hH (fun v hv=>PF hr v (by simpa using hv)) (by simp only[i_];omega) (by omega) (by omega) (by simp only[i_];omega)
  simp only[i_,hxl2] at h
  refine h.mono ?_
  rintro e w' ⟨rfl,q,hw'⟩
  obtain ⟨D,hD⟩:∃D,D=(xs.take i'++xs.drop j'++bx (j' - i') NR).toArray:=⟨_,rfl⟩
  rw[<-hD] at hw'
  have hDs:D.size=l.length:=by rw[hD];simp;omega
  have hy:D.toList.take (i'+(l.length - j'))=xs.take i'++xs.drop j':=by rw[hD];exact List.take_left' (by simp;omega)
  have hzl:z.length=i'+(l.length - j'):=by rw[<-hz'];simp;omega
  have hhp:w'.heap=w.heap.modify g (onCells (putCells rV 0 D)):=by rw[hw'];rfl
  have hgg:w'.heap[g]?=some (.cells (putCells rV 0 D cur) 29 (0,0)):=by rw[hhp,Array.getElem?_modify,if_pos rfl,hg];rfl
  have hoth:∀k,k≠g->w'.heap[k]?=w.heap[k]?:=fun k hk=>by rw[hhp,Array.getElem?_modify,if_neg (fun e=>hk e.symm)]
  have hpt:=SQ (D:=D) (cur:=cur) (by omega)
  refine ⟨_,xs.take i'++xs.drop j',rfl,⟨by rw[hw'];rfl,by rw[hw'];rfl,by rw[hw'];rfl,by rw[hhp];simp,fun k _ hne=>hoth k fun e=>hne (by rw[e];rfl)⟩,⟨by rw[hzl];simp;omega,.inr ⟨g,cap,putCells rV 0 D cur,by rw[hzl,show l.length - (j' - i')=i'+(l.length - j') by omega],hbg,hgg,by omega,hcm,by unfold putCells;simp;omega,?_⟩⟩,?_,fun b hb=>.inl hb⟩
  ·rw[hzl,Nat.mul_one,<-hy,<-hpt,List.take_take,Nat.min_eq_left (by omega)]
  ·rw[<-hz']
   exact aM.mono (fun _ h=>h) (fun b hb=>hoth b fun e=>hown g rfl (e ▸ hb)) (Pq (Lh hr) (Lz hr))
theorem adV:agz.ok prog 139:=by
 unfold ACtr.ok
 rintro l ⟨i,j,⟨⟩⟩ z hz w Z base v xs vals hZ hb ho hr hown hvals
 obtain ⟨v1,vs1,rfl,⟨c1,g1,g2,_⟩,v2,vs2,rfl,⟨c2,g3,g4,_⟩,rfl⟩:=hvals
 simp only[Dat] at g1 g3
 subst g1;subst g3
 have e1:v1=.int .i64 i:=g2
 have e2:v2=.int .i64 j:=g4
 subst e1;subst e2
 exact Uh hz w Z base v xs hb ho hr hown
end
end Go.Proofs.YtlfdhaiigdllcaaGreat

namespace Go.Proofs.YtlfdhaiigdllcaaGreat
open Tryz Dn Dn.Sh
def its:List (Nat×ICtr):=[(223,Oh),(266,O9)]
theorem abk:G3 Tryz.prog its:=Cy (by kernel_rfl) MC (Cy (by kernel_rfl) NS NG)
end Go.Proofs.YtlfdhaiigdllcaaGreat

namespace Go.Proofs.YtlfdhaiigdllcaaGreat
noncomputable section
open Tryz Dn Dn.Sh
set_option maxRecDepth 100000
theorem eK:prog.follows .mixedOrders=true:=by kernel_rfl
theorem XQ:GQ prog tp=true:=by kernel_rfl
theorem q0:(ko prog shs tp its [] []).ok:=Mr XQ abk
abbrev ty0:=(List (ByteArray×Int))×List (ByteArray×(List (ByteArray×Int×Int×Int))×Bool)
abbrev ty1:=ByteArray×Int×Int×Int×Int×(List Int)×Int×Int×Int×Int×Int×(List (ByteArray×Int×Int×Int×Int×Int×Int))×List (ByteArray×Int×Int)
abbrev ty2:=ByteArray×Int×(List Int)×(List (Int×Int))×Int
abbrev ty3:=(Bool×List Int)×Bool×List Int
abbrev ty4:=List (ByteArray×Int×Int×Int)
abbrev ty5:=ByteArray×(List (ByteArray×Int×Int×Int))×Bool
abbrev ty6:=(List Int)×List ((List Int)×Int×Int)
abbrev ty7:=List (ByteArray×Int×Int)
abbrev ty8:=ByteArray×Int×Int×Int×Int×Int×Int
abbrev ty9:=List (ByteArray×Int×Int×Int×Int×Int×Int)
abbrev De:=(List (List Int))×Int×(List Int)×(List Int)×(List Int)×Int×Int
abbrev cx (l) (r):=Dk FJ Fg (ko prog shs tp its l r)
def iO (_:Lp) (_:Jn) (x0:List Int):Option (List Int) :=
 cond (dS (0+aq x0) 8) (some x0) none
abbrev yI:=(List Int)->Option (List Int)
def aj:yI:=iO lpK jnK
def J4 (aj:yI):RCtr:=⟨[(.sl i64)],3,i64,fun x=>aj x.1⟩
def jU:RCtr:=J4 aj
theorem afX (lp:Lp) (jn:Jn):∀x:TsS jU.as,iO lp jn x.1=AL lp jn (cx [] []) dI 4 109 f109 jU.t jU.e (yc jU.as x true):=fun x=>by kernel_rfl
theorem Xu:jU.ok prog 109:=RCtr.of_den_nil (c:=jU) (fq (q0)) eK (hl:=dI) (d:=4) rfl func109 rfl (by decide) (afX lpK jnK) fun x h=>by
 obtain ⟨l,u⟩:=x
 simp only at h
 subst h
 kernel_rfl
theorem abC:(ko prog shs tp its [] [(109,jU)]).ok:=nv q0 (by kernel_rfl) Xu
def qc (_:Lp) (_:Jn) (x0:ty9):Option (List (ByteArray×Int×Int×Int×Int×Int×Int)) :=
 cond (dS (0+aq x0) 64) (some x0) none
abbrev ZA:=ty9->Option (List (ByteArray×Int×Int×Int×Int×Int×Int))
def fU:ZA:=qc lpK jnK
def jA:RCtr:=⟨[(.sl mc)],142,mc,fun x=>fU x.1⟩
theorem aeQ (lp:Lp) (jn:Jn):∀x:TsS jA.as,qc lp jn x.1=AL lp jn (cx [] [(109,jU)]) dI 4 240 f240 jA.t jA.e (yc jA.as x true):=fun x=>by kernel_rfl
theorem Zs:jA.ok prog 240:=RCtr.of_den_nil (c:=jA) (fq (abC)) eK (hl:=dI) (d:=4) rfl func240 rfl (by decide) (aeQ lpK jnK) fun x h=>by
 obtain ⟨l,u⟩:=x
 simp only at h
 subst h
 kernel_rfl
theorem ZQ:(ko prog shs tp its [] [(240,jA),(109,jU)]).ok:=nv abC (by kernel_rfl) Zs
def qn (_:Lp) (_:Jn) (x0:ty7):Option (List (ByteArray×Int×Int)) :=
 cond (dS (0+aq x0) 32) (some x0) none
abbrev XX:=ty7->Option (List (ByteArray×Int×Int))
def fZ:XX:=qn lpK jnK
def jK:RCtr:=⟨[(.sl T92)],92,T92,fun x=>fZ x.1⟩
theorem ag1 (lp:Lp) (jn:Jn):∀x:TsS jK.as,qn lp jn x.1=AL lp jn (cx [] [(240,jA),(109,jU)]) dI 4 241 f241 jK.t jK.e (yc jK.as x true):=fun x=>by kernel_rfl
theorem Xd:jK.ok prog 241:=RCtr.of_den_nil (c:=jK) (fq (ZQ)) eK (hl:=dI) (d:=4) rfl func241 rfl (by decide) (ag1 lpK jnK) fun x h=>by
 obtain ⟨l,u⟩:=x
 simp only at h
 subst h
 kernel_rfl
theorem Pd:(ko prog shs tp its [] [(241,jK),(240,jA),(109,jU)]).ok:=nv ZQ (by kernel_rfl) Xd
def tC (_:Lp) (_:Jn) (x0:Int) (x1:Int):Option (Int×Int×Unit) :=
 
 let v4:Int:=2 ^ 32;
 let v5:Int:=Int.fdiv x0 v4;
 let v6:Int:=Int.fdiv x1 v4;
 let v7:=decide ((0:Int)<=32);
 let v8:=aQ .u64 (↑(Nat.land (aS (x1 % mK 18446744073709551616)) (aS (4294967295 % mK 18446744073709551616))) :
  Int);
 let v9:=aQ .u64 (↑(Nat.land (aS (x0 % mK 18446744073709551616)) (aS (4294967295 % mK 18446744073709551616))) :
  Int);
 let v10:=aQ .u64 (aQ .u64 (v5*v8)+Int.fdiv (aQ .u64 (v9*v8)) v4);cond v7 (cond v7 (cond v7 (cond v7 (cond v7 (some (aQ .u64 (aQ .u64 (aQ .u64 (v5*v6)+Int.fdiv v10 v4)+Int.fdiv (aQ .u64 (aQ .u64
  (↑(Nat.land (aS (v10 % mK 18446744073709551616)) (aS (4294967295 % mK 18446744073709551616))):Int)+aQ .u64 (v9 *
  v6))) v4),aQ .u64 (x0*x1),aC)) none) none) none) none) none
abbrev Dj:=(Int)->(Int)->Option (Int×Int×Unit)
def bF:Dj:=tC lpK jnK
def Oy (bF:Dj):Ctr:=⟨[(.int .u64),(.int .u64)],[],[],.tup [(.int .u64),(.int .u64)],fun x _ _=>bF x.1 x.2.1⟩
def RA:Ctr:=Oy bF
theorem ae6 (lp:Lp) (jn:Jn):∀(x:TsS RA.as) (F:TsF RA.fs) (y:TsS RA.cs),tC lp jn x.1 x.2.1=wE lp jn (cx [] [(241,jK),(240,jA),(109,jU)]) dI 4 164 f164 RA x F y:=fun x F y=>by kernel_rfl
theorem Lb:RA.ok prog 164:=Ctr.of_den (fq (Pd)) eK (hl:=dI) (d:=4) func164 rfl (by decide) (ae6 lpK jnK)
def yl (_:Lp) (_:Jn) (x0:Int) (x1:Int):Option (Int×Int×Unit) :=
 
 let v4:=aQ .u64 (aQ .u64 x0*aQ .u64 x1);cond (decide ((0:Int)<=32)) (some (aQ IntKind.u32 (Int.fdiv v4
  (2 ^ 32)),aQ IntKind.u32 v4,aC)) none
def kU (x0:Int) (x1:Int):Option (Int×Int×Unit):=yl lpK jnK x0 x1
def aca (kU:(Int)->(Int)->Option (Int×Int×Unit)):Ctr:=⟨[(.int .u32),(.int .u32)],[],[],.tup [(.int .u32),(.int .u32)],fun x _ _=>kU x.1 x.2.1⟩
def Sc:Ctr:=aca kU
theorem agu (lp:Lp) (jn:Jn):∀(x:TsS Sc.as) (F:TsF Sc.fs) (y:TsS Sc.cs),yl lp jn x.1 x.2.1=wE lp jn (cx [] [(241,jK),(240,jA),(109,jU)]) dI 4 228 f228 Sc x F y:=fun x F y=>by kernel_rfl
theorem abF:Sc.ok prog 228:=Ctr.of_den (fq (Pd)) eK (hl:=dI) (d:=4) func228 rfl (by decide) (agu lpK jnK)
def tV (_:Lp) (_:Jn) (bF:Dj) (_:(Int)->(Int)->Option (Int×Int×Unit)) (x0:Int) (x1:Int):Option (Int×Int×Unit) :=
 ah (bF x0 x1) fun (t:Int×Int×PUnit)=>some (t.1,t.2.1,aC)
abbrev MN:=(Int)->(Int)->Option (Int×Int×Unit)
def fA:MN:=tV lpK jnK bF kU
def YO (fA:MN):Ctr:=⟨[(.int .u64),(.int .u64)],[],[],.tup [(.int .u64),(.int .u64)],fun x _ _=>fA x.1 x.2.1⟩
def QV:Ctr:=YO fA
theorem agt (lp:Lp) (jn:Jn) (bF:Dj) (kU:(Int)->(Int)->Option (Int×Int×Unit)):∀(x:TsS QV.as) (F:TsF QV.fs) (y:TsS QV.cs),tV lp jn bF kU x.1 x.2.1=wE lp jn (cx [(228,aca kU),(164,Oy bF)] [(241,jK),(240,jA),(109,jU)]) dI 4 182 f182 QV x F y:=fun x F y=>by kernel_rfl
theorem WL:QV.ok prog 182:=Ctr.of_den (fq (aa (aa (Pd) (by kernel_rfl) Lb) (by kernel_rfl) abF)) eK (hl:=dI) (d:=4) func182 rfl (by decide) (agt lpK jnK bF kU)
def lm (lp:Lp) (jn:Jn) (fA:MN) (x0:List (Int×Int)) (x1:Int):Option (List (Int×Int)) :=
 jn PUnit (List (Int×Int)) (fun (_:PUnit)=>ah (fA (aQ .u64 (↑(aq x0):Int)) (aQ .u64 x1)) fun (t:Int×Int×PUnit) =>
 let v6:List (Int×Int):=n_ (aS (aQ .i64 t.2.1)) x0;
 let v7:=decide (t.1>0);
 let v8:=!v7;
 let v9:List (Int×Int):=bx (aS (aQ .i64 t.2.1)) (0,0);cond (!v8||v8) (cond (v7||v8) (jn PUnit (List (Int×Int)) (fun
  (_:PUnit)=>cond (decide (0<=aQ .i64 t.2.1)&&dS (aS (aQ .i64 t.2.1)) 16) (lp (Int×List (Int×Int)×PUnit)
  (List (Int×Int)) (fun again x =>
 let v13:List (Int×Int):=n_ (aS x.1) x.2.1;
 let v14:List (Int×Int):=n_ (aS (↑(aq x.2.1):Int) - aS x.1) (List.drop 0 v13);cond (decide (x.1<(↑(aq x.2.1):Int))) (cond (slB x.1 (↑(aq x.2.1):Int) (aq x.2.1)) (cond (slB 0 x.1 (aq x.2.1)) (cond (cl (aS x.1) (aS
  (↑(aq x.2.1):Int))&&(cl (aS (↑(aq x.2.1):Int)) (aq x.2.1)&&cl (aS x.1) (aq x.2.1))) (again
  (aQ .i64 (x.1+(↑(aq v14):Int)),v13++v14++List.drop (aS x.1+aq v14) x.2.1,aC)) none) none) none) (
  some x.2.1)) ((↑(aq v6):Int),n_ 0 v9++v6++List.drop (0+aq v6) v9,aC)) none) fun j=>cond (cond v7 true (decide (t.2.1>9223372036854775807))) none (j aC)) none) none) fun j=>cond (decide
  (x1<0)) none (j aC)
abbrev Md:=(List (Int×Int))->(Int)->Option (List (Int×Int))
def bB:Md:=lm lpK jnK fA
def XL (bB:Md):RCtr:=⟨[(.sl T38),i64],38,T38,fun x=>bB x.1 x.2.1⟩
def kS:RCtr:=XL bB
theorem ahh (lp:Lp) (jn:Jn) (fA:MN):∀x:TsS kS.as,lm lp jn fA x.1 x.2.1=AL lp jn (cx [(182,YO fA)] [(241,jK),(240,jA),(109,jU)]) dI 4 137 f137 kS.t kS.e (nU kS.as x 0):=fun x=>by kernel_rfl
theorem Xg:kS.ok prog 137:=RCtr.of_den (c:=kS) (fq (aa (Pd) (by kernel_rfl) WL)) eK (hl:=dI) (d:=4) func137 rfl (by decide) (ahh lpK jnK fA)
theorem ad5:(ko prog shs tp its [] [(137,kS),(241,jK),(240,jA),(109,jU)]).ok:=nv Pd (by kernel_rfl) Xg
def lq (lp:Lp) (jn:Jn) (fA:MN) (x0:List Int) (x1:Int):Option (List Int) :=
 jn PUnit (List Int) (fun (_:PUnit)=>ah (fA (aQ .u64 (↑(aq x0):Int)) (aQ .u64 x1)) fun (t:Int×Int×PUnit) =>
 let v6:List Int:=n_ (aS (aQ .i64 t.2.1)) x0;
 let v7:List Int:=bx (aS (aQ .i64 t.2.1)) 0;
 let v8:=decide (t.1>0);
 let v9:=!v8;cond (!v9||v9) (cond (v8||v9) (jn PUnit (List Int) (fun (_:PUnit)=>cond (decide (0<=aQ .i64 t.2.1)&&dS (aS
  (aQ .i64 t.2.1)) 8) (lp (Int×List Int×PUnit) (List Int) (fun again x =>
 let v13:List Int:=n_ (aS x.1) x.2.1;
 let v14:List Int:=n_ (aS (↑(aq x.2.1):Int) - aS x.1) (List.drop 0 v13);cond (decide (x.1<(↑(aq x.2.1):Int))) (cond (
  slB x.1 (↑(aq x.2.1):Int) (aq x.2.1)) (cond (slB 0 x.1 (aq x.2.1)) (cond (cl (aS x.1) (aS (↑(aq
  x.2.1):Int))&&(cl (aS (↑(aq x.2.1):Int)) (aq x.2.1)&&cl (aS x.1) (aq x.2.1))) (again (aQ
  IntKind.i64 (x.1+(↑(aq v14):Int)),v13++v14++List.drop (aS x.1+aq v14) x.2.1,aC)) none) none) none) (some x.2.1))
  ((↑(aq v6):Int),n_ 0 v7++v6++List.drop (0+aq v6) v7,aC)) none) fun j=>cond (cond v8 true (decide (t.2.1>9223372036854775807))) none (j aC)) none) none) fun j=>cond (decide (x1<0)) none (
  j aC)
abbrev X6:=(List Int)->(Int)->Option (List Int)
def eo:X6:=lq lpK jnK fA
def lc:RCtr:=⟨[(.sl i64),i64],3,i64,fun x=>eo x.1 x.2.1⟩
theorem agd (lp:Lp) (jn:Jn) (fA:MN):∀x:TsS lc.as,lq lp jn fA x.1 x.2.1=AL lp jn (cx [(182,YO fA)] [(137,kS),(241,jK),(240,jA),(109,jU)]) dI 4 113 f113 lc.t lc.e (nU lc.as x 0):=fun x=>by kernel_rfl
theorem Yq:lc.ok prog 113:=RCtr.of_den (c:=lc) (fq (aa (ad5) (by kernel_rfl) WL)) eK (hl:=dI) (d:=4) func113 rfl (by decide) (agd lpK jnK fA)
theorem aei:(ko prog shs tp its [] [(113,lc),(137,kS),(241,jK),(240,jA),(109,jU)]).ok:=nv ad5 (by kernel_rfl) Yq
def lU (_:Lp) (_:Jn) (x0:List (ByteArray×Int)):Option (List (ByteArray×Int)) :=
 cond (dS (0+aq x0) 24) (some x0) none
abbrev XS:=(List (ByteArray×Int))->Option (List (ByteArray×Int))
def ff:XS:=lU lpK jnK
def lu:RCtr:=⟨[(.sl T79)],79,T79,fun x=>ff x.1⟩
theorem ahd (lp:Lp) (jn:Jn):∀x:TsS lu.as,lU lp jn x.1=AL lp jn (cx [] [(113,lc),(137,kS),(241,jK),(240,jA),(109,jU)]) dI 4 128 f128 lu.t lu.e (yc lu.as x true):=fun x=>by kernel_rfl
theorem XT:lu.ok prog 128:=RCtr.of_den_nil (c:=lu) (fq (aei)) eK (hl:=dI) (d:=4) rfl func128 rfl (by decide) (ahd lpK jnK) fun x h=>by
 obtain ⟨l,u⟩:=x
 simp only at h
 subst h
 kernel_rfl
theorem ZU:(ko prog shs tp its [] [(128,lu),(113,lc),(137,kS),(241,jK),(240,jA),(109,jU)]).ok:=nv aei (by kernel_rfl) XT
def lR (_:Lp) (_:Jn) (x0:List (List Int)):Option (List (List Int)) :=
 cond (dS (0+aq x0) 24) (some x0) none
abbrev YL:=(List (List Int))->Option (List (List Int))
def fk:YL:=lR lpK jnK
def ma:RCtr:=⟨[(.sl (.sl i64))],29,(.sl i64),fun x=>fk x.1⟩
theorem aeO (lp:Lp) (jn:Jn):∀x:TsS ma.as,lR lp jn x.1=AL lp jn (cx [] [(128,lu),(113,lc),(137,kS),(241,jK),(240,jA),(109,jU)]) dI 4 140 f140 ma.t ma.e (yc ma.as x true):=fun x=>by kernel_rfl
theorem YU:ma.ok prog 140:=RCtr.of_den_nil (c:=ma) (fq (ZU)) eK (hl:=dI) (d:=4) rfl func140 rfl (by decide) (aeO lpK jnK) fun x h=>by
 obtain ⟨l,u⟩:=x
 simp only at h
 subst h
 kernel_rfl
theorem aV:(ko prog shs tp its [] [(140,ma),(128,lu),(113,lc),(137,kS),(241,jK),(240,jA),(109,jU)]).ok:=nv ZU (by kernel_rfl) YU
abbrev rz:List (FuncId×RCtr):=[(140,ma),(128,lu),(113,lc),(137,kS),(241,jK),(240,jA),(109,jU)]
abbrev rC (lp:Lp) (jn:Jn) (l):=wE lp jn (cx l rz) dI 4
theorem od {l} (hC:(ko prog shs tp its l rz).ok) {f:FuncId} {fn:Func} {code:Code} {c:Ctr} (hf:prog.funcs[f]?=some fn) (h:∀x F y,c.m x F y=rC lpK jnK l f fn c x F y) (hb:fn.body=some code:=by rfl) (hn:c.as.length+c.fs.length+c.cs.length<=fn.ntmps:=by decide):c.ok prog f:=Ctr.of_den (fq hC) eK (hl:=dI) (d:=4) hf hb hn h
def oE (_:Lp) (_:Jn) (x0:Int):Option (Int×Int) :=
 some (x0,1)
abbrev t12:=(Int)->Option (Int×Int)
def bL:t12:=oE lpK jnK
def k12 (bL:t12):Ctr:=⟨[i64],[],[],.one T38,fun x _ _=>bL x.1⟩
def c12:Ctr:=k12 bL
theorem e12 (lp:Lp) (jn:Jn):∀x F y,oE lp jn x.1=rC lp jn [] 12 f12 c12 x F y:=fun x F y=>by kernel_rfl
theorem ab3:c12.ok prog 12:=od (aV) func12 (e12 lpK jnK)
def my (lp:Lp) (_:Jn) (x0:List (Int×Int)) (x1:List (Int×Int)):Option Bool :=
 cond (!decide ((↑(aq x0):Int)=(↑(aq x1):Int))) (some false) (lp (Int×PUnit) Bool (fun again x=>cond (decide
  (x.1<(↑(aq x0):Int))) (cond (inB x.1 (aq x0)) (cond (inB x.1 (aq x1)) (cond (!(decide ((aT x0 (aS x.1) (0,(0 :
  Int))).1=(aT x1 (aS x.1) (0,0)).1)&&(decide ((aT x0 (aS x.1) (0,0)).2=(aT x1 (aS x.1) ((0 :
  Int),0)).2)&&true))) (some false) (again (aQ .i64 (x.1+1),aC))) none) none) (some true)) (0,aC))
abbrev t20:=(List (Int×Int))->(List (Int×Int))->Option (Bool)
def bz:t20:=my lpK jnK
def k20 (bz:t20):Ctr:=⟨[(.sl T38),(.sl T38)],[],[],.one .bool,fun x _ _=>bz x.1 x.2.1⟩
def c20:Ctr:=k20 bz
theorem e20 (lp:Lp) (jn:Jn):∀x F y,my lp jn x.1 x.2.1=rC lp jn [] 20 f20 c20 x F y:=fun x F y=>by kernel_rfl
theorem aak:c20.ok prog 20:=od (aV) func20 (e20 lpK jnK)
def iU (lp:Lp) (_:Jn) (x0:List (ByteArray×(List (ByteArray×Int×Int×Int))×Bool)) (f0:(((ByteArray×(List (ByteArray×Int×Int×Int))×Bool)×Unit)->Option Bool)):Option Int :=
 lp (Int×PUnit) Int (fun again x=>cond (decide (x.1<(↑(aq x0):Int))) (cond (inB x.1 (aq x0)) (ah (f0
  (aT x0 (aS x.1) ({ data:={ toList:=[] } },[],false),aC)) fun t=>cond t (some x.1) (again (aQ .i64 (x.1+1),
  aC))) none) (some (-1))) (0,aC)
abbrev t68:=(List (ByteArray×(List (ByteArray×Int×Int×Int))×Bool))->((((ByteArray×(List (ByteArray×Int×Int×Int))×Bool)×Unit)->Option Bool))->Option (Int)
def ap:t68:=iU lpK jnK
def k68 (ap:t68):Ctr:=⟨[(.sl T63)],[([T63],.bool)],[],.one i64,fun x F _=>ap x.1 F.1⟩
def c68:Ctr:=k68 ap
theorem e68 (lp:Lp) (jn:Jn):∀x F y,iU lp jn x.1 F.1=rC lp jn [] 68 f68 c68 x F y:=fun x F y=>by kernel_rfl
theorem V9:c68.ok prog 68:=od (aV) func68 (e68 lpK jnK)
def nD (_:Lp) (_:Jn) (x0:Int) (x1:Int) (x2:Int):Option Bool :=
 
 let v5:=decide (x0>=x1);
 let v6:=!v5||v5;cond (v6&&v6) (cond v6 (some (cond v5 (decide (x0<=x2)) false)) none) none
abbrev Me:=(Int)->(Int)->(Int)->Option (Bool)
def bS:Me:=nD lpK jnK
def Zf (bS:Me):Ctr:=⟨[i64,i64,i64],[],[],.one .bool,fun x _ _=>bS x.1 x.2.1 x.2.2.1⟩
def adY:Ctr:=Zf bS
theorem ag5 (lp:Lp) (jn:Jn):∀x F y,nD lp jn x.1 x.2.1 x.2.2.1=rC lp jn [] 173 f173 adY x F y:=fun x F y=>by kernel_rfl
theorem WI:adY.ok prog 173:=od (aV) func173 (ag5 lpK jnK)
def nG (_:Lp) (_:Jn) (x0:Int):Option Bool :=
 
 let v3:=decide (x0>=97);
 let v4:=decide (x0>=65);
 let v5:=!v3||v3;
 let v6:=cond v3 (decide (x0<=122)) false;
 let v7:=!v6;
 let v8:=!v7;
 let v9:Bool:=v7&&v4;
 let v10:Bool:=v8||v7;cond v5 (cond v5 (cond v10 (cond v10 (cond (!v9||v9) (cond ((v8||v10)&&(v8||(!v4||(v8||v9)))) (cond (v6||v7) (some (cond v6 true (cond v4 (decide (x0<=90)) false))) none) none) none) none) none) none) none
abbrev t78:=(Int)->Option (Bool)
def cd:t78:=nG lpK jnK
def k78 (cd:t78):Ctr:=⟨[(.int .u8)],[],[],.one .bool,fun x _ _=>cd x.1⟩
def c78:Ctr:=k78 cd
theorem e78 (lp:Lp) (jn:Jn):∀x F y,nG lp jn x.1=rC lp jn [] 78 f78 c78 x F y:=fun x F y=>by kernel_rfl
theorem aaZ:c78.ok prog 78:=od (aV) func78 (e78 lpK jnK)
def oC (_:Lp) (_:Jn) (x0:Int):Option Bool :=
 
 let v3:=decide (x0>=48);
 let v4:=!v3||v3;cond v4 (cond v4 (some (cond v3 (decide (x0<=57)) false)) none) none
abbrev YN:=(Int)->Option (Bool)
def gj:YN:=oC lpK jnK
def acq:Ctr:=⟨[(.int .u8)],[],[],.one .bool,fun x _ _=>gj x.1⟩
theorem afI (lp:Lp) (jn:Jn):∀x F y,oC lp jn x.1=rC lp jn [] 145 f145 acq x F y:=fun x F y=>by kernel_rfl
theorem abZ:acq.ok prog 145:=od (aV) func145 (afI lpK jnK)
def qd (lp:Lp) (_:Jn) (cd:t78) (gj:YN) (x0:ByteArray):Option Int :=
 lp (Int×PUnit) Int (fun again x =>
 let v5:=inB x.1 (ByteArray.size x0);
 let v6:Int:=iZ x0 (aS x.1);
 let v7:=decide (x.1<(↑(ByteArray.size x0):Int));
 let v8:=!v7;
 let v9:Bool:=v8||v7;
 let v10:Bool:=v8||v9;cond (v9&&(v9&&(v8||v5))) (cond v9 (ah (cond v7 (cd v6) (some false)) fun t =>
 let v12:Bool:=v7&&!t;
 let v13:=!v12;
 let v14:Bool:=v13||v12;cond v9 (cond (v14&&(v14&&(v13||v5))) (cond v14 (ah (cond v12 (gj v6) (some false)) fun t_1 =>
 let v16:=cond t true t_1;
 let v17:Bool:=v7&&!v16;
 let v18:=!v17;
 let v19:Bool:=v18||v17;cond (v10&&(v8||(t||(v8||v12)))) (cond v9 (cond (v19&&(v19&&(v18||v5))) (cond v19 (cond (v10&&(v8||(v16||(v8||v17)))) (cond v9 (cond (cond v7 (cond v16 true (decide (v6=95))) false) (again (aQ .i64 (x.1+1),aC)) (some x.1)) none) none) none) none) none) none) none) none) none) none) none) (0,aC)
abbrev t79:=(ByteArray)->Option (Int)
def gw:t79:=qd lpK jnK cd gj
def c79:Ctr:=⟨[.str],[],[],.one i64,fun x _ _=>gw x.1⟩
theorem e79 (lp:Lp) (jn:Jn) (cd:t78) (gj:YN):∀x F y,qd lp jn cd gj x.1=rC lp jn [(145,⟨[(.int .u8)],[],[],.one .bool,fun x _ _=>gj x.1⟩),(78,k78 cd)] 79 f79 c79 x F y:=fun x F y=>by kernel_rfl
theorem af6:c79.ok prog 79:=od (aa (aa (aV) rfl aaZ) rfl abZ) func79 (e79 lpK jnK cd gj)
def nM (_:Lp) (_:Jn) (cd:t78) (gw:t79) (x0:ByteArray):Option Bool :=
 
 let v3:=!List.beq (rO x0) (rO { data:=#[] });
 let v4:=!v3||v3;
 let v5:=cond v3 (decide ((↑(ByteArray.size x0):Int)<=20)) false;
 let v6:=!v5;
 let v7:Bool:=v6||v5;cond v4 (cond v4 (cond v4 (cond (v7&&(v6||inB 0 (ByteArray.size x0))) (cond v7 (ah (cond v5 (cd (iZ x0 0)) (some false)) fun t =>
 let v9:=cond v5 t false;
 let v10:=!v9||v9;cond v7 (cond v10 (ah (cond v9 (gw x0) (some 0)) fun t=>cond v10 (cond (v10&&v10) (cond v10 (some (cond v9 (decide (t=(↑(ByteArray.size x0):Int))) false)) none) none) none) none) none) none) none) none) none) none
abbrev t40:=(ByteArray)->Option (Bool)
def aF:t40:=nM lpK jnK cd gw
def k40 (aF:t40):Ctr:=⟨[.str],[],[],.one .bool,fun x _ _=>aF x.1⟩
def c40:Ctr:=k40 aF
theorem e40 (lp:Lp) (jn:Jn) (cd:t78) (gw:t79):∀x F y,nM lp jn cd gw x.1=rC lp jn [(79,⟨[.str],[],[],.one i64,fun x _ _=>gw x.1⟩),(78,k78 cd)] 40 f40 c40 x F y:=fun x F y=>by kernel_rfl
theorem P0:c40.ok prog 40:=od (aa (aa (aV) rfl aaZ) rfl af6) func40 (e40 lpK jnK cd gw)
def iq (lp:Lp) (_:Jn) (x0:List (ByteArray×Int)) (f0:(((ByteArray×Int)×Unit)->Option Bool)):Option Int :=
 lp (Int×PUnit) Int (fun again x=>cond (decide (x.1<(↑(aq x0):Int))) (cond (inB x.1 (aq x0)) (ah (f0
  (aT x0 (aS x.1) ({ data:={ toList:=[] } },0),aC)) fun t=>cond t (some x.1) (again (aQ .i64 (x.1+1),
  aC))) none) (some (-1))) (0,aC)
abbrev Mn:=(List (ByteArray×Int))->((((ByteArray×Int)×Unit)->Option Bool))->Option (Int)
def ba:Mn:=iq lpK jnK
def Zg (ba:Mn):Ctr:=⟨[(.sl T79)],[([T79],.bool)],[],.one i64,fun x F _=>ba x.1 F.1⟩
def acc:Ctr:=Zg ba
theorem aeE (lp:Lp) (jn:Jn):∀x F y,iq lp jn x.1 F.1=rC lp jn [] 131 f131 acc x F y:=fun x F y=>by kernel_rfl
theorem WT:acc.ok prog 131:=od (aV) func131 (aeE lpK jnK)
def mY (_:Lp) (_:Jn) (x0:ByteArray×Int) (y0:ByteArray):Option Bool :=
 some (List.beq (rO x0.1) (rO y0))
abbrev YR:=(ByteArray×Int)->(ByteArray)->Option (Bool)
def gv:YR:=mY lpK jnK
def aco:Ctr:=⟨[T79],[],[.str],.one .bool,fun x _ y=>gv x.1 y.1⟩
theorem ahu (lp:Lp) (jn:Jn):∀x F y,mY lp jn x.1 y.1=rC lp jn [] 176 f176 aco x F y:=fun x F y=>by kernel_rfl
theorem adx:aco.ok prog 176:=od (aV) func176 (ahu lpK jnK)
def qa (_:Lp) (_:Jn) (ba:Mn) (gv:YR) (x0:ty0) (x1:ByteArray):Option Int :=
 ah (ba x0.1 fun x=>gv x.1 x1) fun t=>some t
abbrev No:=ty0->(ByteArray)->Option (Int)
def cW:No:=qa lpK jnK ba gv
def YC (cW:No):Ctr:=⟨[T50,.str],[],[],.one i64,fun x _ _=>cW x.1 x.2.1⟩
def acO:Ctr:=YC cW
theorem afA (lp:Lp) (jn:Jn) (ba:Mn) (gv:YR):∀x F y,qa lp jn ba gv x.1 x.2.1=rC lp jn [(176,⟨[T79],[],[.str],.one .bool,fun x _ y=>gv x.1 y.1⟩),(131,Zg ba)] 106 f106 acO x F y:=fun x F y=>by kernel_rfl
theorem WH:acO.ok prog 106:=od (aa (aa (aV) rfl WT) rfl adx) func106 (afA lpK jnK ba gv)
def uY (lp:Lp) (_:Jn) (x0:Int) (x1:Int):Option Int :=
 lp (Int×Int×PUnit) Int (fun again x=>cond (!decide (x.2.1=0)) (cond (nzB x.2.1) (again (x.2.1,
  Int.tmod x.1 x.2.1,aC)) none) (some x.1)) (x0,x1,aC)
abbrev t96:=(Int)->(Int)->Option (Int)
def bZ:t96:=uY lpK jnK
def k96 (bZ:t96):Ctr:=⟨[(.int .u64),(.int .u64)],[],[],.one (.int .u64),fun x _ _=>bZ x.1 x.2.1⟩
def c96:Ctr:=k96 bZ
theorem e96 (lp:Lp) (jn:Jn):∀x F y,uY lp jn x.1 x.2.1=rC lp jn [] 96 f96 c96 x F y:=fun x F y=>by kernel_rfl
theorem Wa:c96.ok prog 96:=od (aV) func96 (e96 lpK jnK)
def tK (_:Lp) (_:Jn) (x0:Int):Option Int :=
 
 let v3:=aQ .u64 x0;cond (decide (x0<0)) (some (aQ .u64 (0 - v3))) (some v3)
abbrev t97:=(Int)->Option (Int)
def bf:t97:=tK lpK jnK
def k97 (bf:t97):Ctr:=⟨[i64],[],[],.one (.int .u64),fun x _ _=>bf x.1⟩
def c97:Ctr:=k97 bf
theorem e97 (lp:Lp) (jn:Jn):∀x F y,tK lp jn x.1=rC lp jn [] 97 f97 c97 x F y:=fun x F y=>by kernel_rfl
theorem Rm:c97.ok prog 97:=od (aV) func97 (e97 lpK jnK)
def rX (_:Lp) (_:Jn) (bZ:t96) (bf:t97) (x0:Int×Int):Option Bool :=
 
 let v3:=decide (x0.2>=1);
 let v4:=!v3||v3;
 let v5:=cond v3 (decide (x0.2<=1152921504606846976)) false;
 let v6:=cond v5 (decide (x0.1>=(-1152921504606846976))) false;
 let v7:=!v5||v5;
 let v8:=cond v6 (decide (x0.1<=1152921504606846976)) false;
 let v9:=!v6||v6;
 let v10:=!v8||v8;cond v4 (cond v4 (cond v4 (cond v7 (cond v7 (cond v7 (cond v9 (cond v9 (cond v9 (cond v10 (cond v10 (ah (cond v8 (
  bf x0.1) (some 0)) fun t=>cond v10 (cond v10 (cond (v10&&v10) (ah (cond v8 (bZ t (aQ .u64 x0.2)) (some (0 :
  Int))) fun t=>cond v10 (cond v10 (some (cond v8 (decide (t=1)) false)) none) none) none) none) none) none) none) none) none) none) none) none) none) none) none) none
abbrev t94:=(Int×Int)->Option (Bool)
def aE:t94:=rX lpK jnK bZ bf
def k94 (aE:t94):Ctr:=⟨[T38],[],[],.one .bool,fun x _ _=>aE x.1⟩
def c94:Ctr:=k94 aE
theorem e94 (lp:Lp) (jn:Jn) (bZ:t96) (bf:t97):∀x F y,rX lp jn bZ bf x.1=rC lp jn [(97,k97 bf),(96,k96 bZ)] 94 f94 c94 x F y:=fun x F y=>by kernel_rfl
theorem Jf:c94.ok prog 94:=od (aa (aa (aV) rfl Wa) rfl Rm) func94 (e94 lpK jnK bZ bf)
def oB (_:Lp) (_:Jn) (aE:t94) (x0:Int×Int):Option Bool :=
 ah (aE x0) fun t =>
 let v4:=!t||t;
 let v5:=cond t (decide (x0.1>=x0.2)) false;
 let v6:=!v5||v5;cond v4 (cond v4 (cond (v4&&v4) (cond v4 (cond v6 (cond v6 (cond v6 (some (cond v5 (decide (x0.1<=100)) false)) none) none) none) none) none) none) none
abbrev Yg:=(Int×Int)->Option (Bool)
def gi:Yg:=oB lpK jnK aE
def abJ:Ctr:=⟨[T38],[],[],.one .bool,fun x _ _=>gi x.1⟩
theorem afc (lp:Lp) (jn:Jn) (aE:t94):∀x F y,oB lp jn aE x.1=rC lp jn [(94,k94 aE)] 257 f257 abJ x F y:=fun x F y=>by kernel_rfl
theorem abB:abJ.ok prog 257:=od (aa (aV) rfl Jf) func257 (afc lpK jnK aE)
def pN (_:Lp) (_:Jn) (cW:No) (gi:Yg) (x0:ty0) (x1:ByteArray×Int×Int×Int) (x2:Bool):Option Bool :=
 
 let v5:=!x2;
 let v6:Bool:=v5||x2;
 let v7:=decide (x1.2.1=0);
 let v8:=decide (x1.2.1=1);
 let v9:=decide (x1.2.1=2);
 let v10:=!v8;
 let v11:=!v9;
 let v12:=cond v9 true v7;
 let v13:=!v10||v10;
 let v14:=!v11||v11;
 let v15:=!v12;
 let v16:=cond x2 (!(decide (x1.2.2.1=1)&&(decide (x1.2.2.2=1)&&true))) false;
 let v17:=!v16;
 let v18:=!v17;
 let v19:Bool:=v17&&v5;
 let v20:=!v15||v15;
 let v21:Bool:=v18||v17;
 let v22:=!v19||v19;cond v6 (cond (v6&&v6) (cond v6 (cond v21 (cond v21 (cond v22 (cond v22 (ah (cond v19 (gi x1.2.2) (some false))
  fun t=>cond v22 (cond ((v18||v21)&&(v18||(!v5||(v18||v19)))) (cond (v16||v17) (cond (cond v16 true (cond v5 (!t) false)) (some false) (cond (
  List.beq (rO x1.1) (rO { data:=#[] })) (some v7) (ah (cW x0 x1.1) fun t=>cond (decide (t<0)) (some false) (
  cond x2 (cond v13 (cond v13 (cond (v8||v10) (some (cond v8 true (decide (x1.2.1=(-1))))) none) none) none) (cond v14 (cond v14 (cond (
  v9||v11) (cond v20 (cond v20 (cond (v12||v15) (some (cond v12 true (decide (x1.2.1=(-2))))) none) none) none) none) none) none))))) none) none) none) none) none) none) none) none) none) none
abbrev Vd:=ty0->(ByteArray×Int×Int×Int)->(Bool)->Option (Bool)
def fS:Vd:=pN lpK jnK cW gi
def aeg (fS:Vd):Ctr:=⟨[T50,T66,.bool],[],[],.one .bool,fun x _ _=>fS x.1 x.2.1 x.2.2.1⟩
def acX:Ctr:=aeg fS
theorem agL (lp:Lp) (jn:Jn) (cW:No) (gi:Yg):∀x F y,pN lp jn cW gi x.1 x.2.1 x.2.2.1=rC lp jn [(257,⟨[T38],[],[],.one .bool,fun x _ _=>gi x.1⟩),(106,YC cW)] 224 f224 acX x F y:=fun x F y=>by kernel_rfl
theorem aby:acX.ok prog 224:=od (aa (aa (aV) rfl WH) rfl abB) func224 (agL lpK jnK cW gi)
def pK (lp:Lp) (_:Jn) (bS:Me) (fS:Vd) (x0:ty0) (x1:ty5):Option Bool :=
 
 let v4:=!x1.2.2;
 let v5:=!v4;
 let v6:=!v5;
 let v7:=aQ .i64 ((↑(aq x1.2.1):Int) - 1);
 let v8:Bool:=v6||v5;ah (bS (↑(aq x1.2.1):Int) 2 10) fun t=>cond (!t) (some false) (lp (Int×PUnit) Bool (fun again x =>
 let v12:=decide (x.1=0);
 let v13:=!v12;
 let v14:=!v13||v13;cond (decide (x.1<(↑(aq x1.2.1):Int))) (cond (inB x.1 (aq x1.2.1)) (cond v14 (cond (v14&&v14) (cond (v12||v13) (
  ah (fS x0 (aT x1.2.1 (aS x.1) ({ data:={ toList:=[] } },0,0,0)) (cond v12 true (decide (x.1=v7)))) fun t=>cond (!t) (some false) (again (aQ .i64 (x.1+1),aC))) none) none) none) none) (cond v8 (cond v8 (cond (v8&&(v8
  && (v6||inB v7 (aq x1.2.1)))) (cond v8 (cond v8 (cond v8 (cond (v4||v5) (some (cond v4 true (List.beq (rO (aT x1.2.1
  (aS v7) ({ data:={ toList:=[] } },0,0,0)).1) (rO { data:=#[] })))) none) none) none) none) none) none) none)) (0,aC))
abbrev Yl:=ty0->ty5->Option (Bool)
def gN:Yl:=pK lpK jnK bS fS
def adr:Ctr:=⟨[T50,T63],[],[],.one .bool,fun x _ _=>gN x.1 x.2.1⟩
theorem agS (lp:Lp) (jn:Jn) (bS:Me) (fS:Vd):∀x F y,pK lp jn bS fS x.1 x.2.1=rC lp jn [(224,aeg fS),(173,Zf bS)] 175 f175 adr x F y:=fun x F y=>by kernel_rfl
theorem acC:adr.ok prog 175:=od (aa (aa (aV) rfl WI) rfl aby) func175 (agS lpK jnK bS fS)
def ot (lp:Lp) (_:Jn) (bS:Me) (aF:t40) (gN:Yl) (x0:ty0):Option Bool :=
 ah (bS (↑(aq x0.1):Int) 1 6) fun t =>
 let v4:=!t;
 let v5:=!v4;
 let v6:=!v5||v5;cond v6 (cond v6 (cond v6 (ah (cond v5 (bS (↑(aq x0.2):Int) 1 6) (some false)) fun t=>cond v6 (cond (v4||v5) (cond (cond v4 true (!t)) (some false) (lp (Int×List (ByteArray×Bool)×PUnit) Bool (fun again x =>
 let v10:=aT x0.1 (aS x.1) ({ data:={ toList:=[] } },0);cond (decide (x.1<(↑(aq x0.1):Int))) (cond (inB x.1
  (aq x0.1)) (ah (aF v10.1) fun t =>
 let v12:=!t||t;cond (v12&&v12) (cond v12 (cond v12 (cond ((!!!cond t (!lf str Sh.bool v10.1 false x.2.1) false)||!!cond t (!lf str Sh.bool v10.1
  false x.2.1) false) (cond ((!!!cond t (!lf str Sh.bool v10.1 false x.2.1) false)||!!cond t (!lf str Sh.bool v10.1 false x.2.1) false) (ah
  (cond (!!cond t (!lf str Sh.bool v10.1 false x.2.1) false) (bS v10.2 0 16777216) (some false)) fun t_1=>cond ((!!!cond t (
  !lf str Sh.bool v10.1 false x.2.1) false)||!!cond t (!lf str Sh.bool v10.1 false x.2.1) false) (cond ((!cond t (!lf str Sh.bool v10.1 false
  x.2.1) false)||!!cond t (!lf str Sh.bool v10.1 false x.2.1) false) (cond (cond (!cond t (!lf str Sh.bool v10.1 false x.2.1) false) true (
  !t_1)) (some false) (again (aQ .i64 (x.1+1),uA str Sh.bool v10.1 true x.2.1,aC))) none) none) none) none) none) none) none) none) (lp (Int×Int×List (ByteArray×Bool)×PUnit) Bool (fun again x =>
 let v13:=aT x0.2 (aS x.2.1) ({ data:={ toList:=[] } },[],false);cond (decide (x.2.1<(↑(aq
  x0.2):Int))) (cond (inB x.2.1 (aq x0.2)) (ah (aF v13.1) fun t =>
 let v15:=!t||t;cond (v15&&v15) (cond v15 (cond v15 (cond (((!!!cond t (!lf str Sh.bool v13.1 false x.2.2.1) false)||!!cond t (!lf str Sh.bool
  v13.1 false x.2.2.1) false)&&((!!!cond t (!lf str Sh.bool v13.1 false x.2.2.1) false)||!!cond t (!lf str Sh.bool v13.1 false x.2.2.1) false)) (ah (cond (!!cond t (!lf str Sh.bool v13.1 false x.2.2.1) false) (gN x0 v13) (some false)) fun t_1=>cond ((!!!cond t (!lf str
  Sh.bool v13.1 false x.2.2.1) false)||!!cond t (!lf str Sh.bool v13.1 false x.2.2.1) false) (cond ((!cond t (!lf str Sh.bool v13.1 false
  x.2.2.1) false)||!!cond t (!lf str Sh.bool v13.1 false x.2.2.1) false) (cond (cond (!cond t (!lf str Sh.bool v13.1 false x.2.2.1) false) true (!t_1)) (some false) (cond v13.2.2 (again (aQ .i64 (x.1+1),aQ .i64 (x.2.1+1),uA str Sh.bool v13.1
  true x.2.2.1,aC)) (again (x.1,aQ .i64 (x.2.1+1),uA str Sh.bool v13.1 true x.2.2.1,aC)))) none) none) none) none) none) none) none) (some (decide (x.1<=1)))) (0,0,x.2.1,aC))) (0,[],aC))) none) none) none) none) none
abbrev AN:=ty0->Option (Bool)
def aK:AN:=ot lpK jnK bS aF gN
def MQ (aK:AN):Ctr:=⟨[T50],[],[],.one .bool,fun x _ _=>aK x.1⟩
def adJ:Ctr:=MQ aK
theorem ae1 (lp:Lp) (jn:Jn) (bS:Me) (aF:t40) (gN:Yl):∀x F y,ot lp jn bS aF gN x.1=rC lp jn [(175,⟨[T50,T63],[],[],.one .bool,fun x _ _=>gN x.1 x.2.1⟩),(40,k40 aF),(173,Zf bS)] 105 f105 adJ x F y:=fun x F y=>by kernel_rfl
theorem Ht:adJ.ok prog 105:=od (aa (aa (aa (aV) rfl WI) rfl P0) rfl acC) func105 (ae1 lpK jnK bS aF gN)
def oo (_:Lp) (_:Jn) (bF:Dj) (x0:Int) (x1:Int):Option (Int×Int) :=
 ah (bF x0 x1) fun (t:Int×Int×PUnit)=>some (t.1,t.2.1)
abbrev t98:=(Int)->(Int)->Option (Int×Int)
def bn:t98:=oo lpK jnK bF
def k98 (bn:t98):Ctr:=⟨[(.int .u64),(.int .u64)],[],[],.one rP,fun x _ _=>bn x.1 x.2.1⟩
def c98:Ctr:=k98 bn
theorem e98 (lp:Lp) (jn:Jn) (bF:Dj):∀x F y,oo lp jn bF x.1 x.2.1=rC lp jn [(164,Oy bF)] 98 f98 c98 x F y:=fun x F y=>by kernel_rfl
theorem Zx:c98.ok prog 98:=od (aa (aV) rfl Lb) func98 (e98 lpK jnK bF)
def pX (_:Lp) (_:Jn) (x0:Bool) (x1:Int) (x2:Int):Option ((Int×Int)×Int×Unit) :=
 
 let v5:=aQ .i64 x1;
 let v6:=aQ .i64 x2;
 let v7:=decide (x1>1152921504606846976);
 let v8:=!v7;cond (!v8||v8) (cond (v7||v8) (cond (cond v7 true (decide (x2>1152921504606846976))) (some ((0,0),5,aC)) (cond x0 (some ((aQ .i64 (0 - v5),v6),0,aC)) (some ((v5,v6),0,aC)))) none) none
abbrev t99:=(Bool)->(Int)->(Int)->Option ((Int×Int)×Int×Unit)
def bH:t99:=pX lpK jnK
def k99 (bH:t99):Ctr:=⟨[.bool,(.int .u64),(.int .u64)],[],[],.tup [T38,i64],fun x _ _=>bH x.1 x.2.1 x.2.2.1⟩
def c99:Ctr:=k99 bH
theorem e99 (lp:Lp) (jn:Jn):∀x F y,pX lp jn x.1 x.2.1 x.2.2.1=rC lp jn [] 99 f99 c99 x F y:=fun x F y=>by kernel_rfl
theorem X1:c99.ok prog 99:=od (aV) func99 (e99 lpK jnK)
def uC (_:Lp) (_:Jn) (bZ:t96) (bf:t97) (aE:t94) (bn:t98) (bH:t99) (x0:Int×Int) (x1:Int×Int):Option ((Int×Int)×Int×Unit) :=
 
 let v4:=aQ .u64 x1.2;
 let v5:=aQ .u64 x0.2;ah (aE x0) fun t =>
 let v7:=!t;
 let v8:=!v7;
 let v9:=!v8||v8;cond v9 (ah (cond v8 (aE x1) (some false)) fun t=>cond v9 (cond (v7||v8) (cond (cond v7 true (!t)) (some (((0 :
  Int),0),1,aC)) (ah (bf x0.1) fun t=>ah (bZ t v4) fun t =>
 let v13:Bool:=nzB t;ah (bf x1.1) fun t_1=>ah (bZ t_1 v5) fun t_2 =>
 let v16:Bool:=nzB t_2;ah (bf x0.1) fun t_3=>cond v13 (ah (bf x1.1) fun t_4=>cond v16 (ah (bn (aQ
  IntKind.u64 (Int.tdiv t_3 t)) (aQ .u64 (Int.tdiv t_4 t_2))) fun t_5 =>
 let v20:=decide (t_5.1>0);
 let v21:=decide (t_5.2>0);
 let v22:=!v20;
 let v23:=!v21||v21;
 let v24:=!v22||v22;cond v16 (cond v13 (ah (bn (aQ .u64 (Int.tdiv v5 t_2)) (aQ .u64 (Int.tdiv v4 t))) fun t=>cond v24 (cond v24 (cond (v20||v22) (cond (cond v20 true (decide (t.1>0))) (some ((0,0),5,aC)) (cond v23 (cond v23 (cond v23 (cond v23 (cond (v23&&v23) (cond v23 (ah (bH (cond v21 (!decide (decide (x0.1<0)=decide (x1.1<0))) false)
  t_5.2 t.2) fun (t:(Int×Int)×Int×PUnit)=>some (t.1,t.2.1,aC)) none) none) none) none) none) none)) none) none) none) none) none) none) none)) none) none) none
abbrev t47:=(Int×Int)->(Int×Int)->Option ((Int×Int)×Int×Unit)
def aO:t47:=uC lpK jnK bZ bf aE bn bH
def k47 (aO:t47):Ctr:=⟨[T38,T38],[],[],.tup [T38,i64],fun x _ _=>aO x.1 x.2.1⟩
def c47:Ctr:=k47 aO
theorem e47 (lp:Lp) (jn:Jn) (bZ:t96) (bf:t97) (aE:t94) (bn:t98) (bH:t99):∀x F y,uC lp jn bZ bf aE bn bH x.1 x.2.1=rC lp jn [(99,k99 bH),(98,k98 bn),(94,k94 aE),(97,k97 bf),(96,k96 bZ)] 47 f47 c47 x F y:=fun x F y=>by kernel_rfl
theorem Kc:c47.ok prog 47:=od (aa (aa (aa (aa (aa (aV) rfl Wa) rfl Rm) rfl Jf) rfl Zx) rfl X1) func47 (e47 lpK jnK bZ bf aE bn bH)
def vu (_:Lp) (_:Jn) (aE:t94) (aO:t47) (x0:Int×Int) (x1:Int×Int):Option ((Int×Int)×Int×Unit) :=
 ah (aE x0) fun t =>
 let v5:=!t;
 let v6:=!v5;
 let v7:=!v6||v6;cond v7 (ah (cond v6 (aE x1) (some false)) fun t=>cond v7 (cond (v5||v6) (cond (cond v5 true (!t)) (some (((0 :
  Int),0),1,aC)) (cond (decide (x1.1=0)) (some ((0,0),16,aC)) (cond (decide (x1.1<0)) (ah
  (aO x0 (aQ .i64 (0 - x1.2),aQ .i64 (0 - x1.1))) fun (t:(Int×Int)×Int×PUnit)=>some (t.1,t.2.1,aC)) (ah (aO x0 (x1.2,x1.1)) fun (t:(Int×Int)×Int×PUnit)=>some (t.1,t.2.1,aC))))) none) none) none
abbrev Df:=(Int×Int)->(Int×Int)->Option ((Int×Int)×Int×Unit)
def bR:Df:=vu lpK jnK aE aO
def RQ (bR:Df):Ctr:=⟨[T38,T38],[],[],.tup [T38,i64],fun x _ _=>bR x.1 x.2.1⟩
def aep:Ctr:=RQ bR
theorem afy (lp:Lp) (jn:Jn) (aE:t94) (aO:t47):∀x F y,vu lp jn aE aO x.1 x.2.1=rC lp jn [(47,k47 aO),(94,k94 aE)] 129 f129 aep x F y:=fun x F y=>by kernel_rfl
theorem K5:aep.ok prog 129:=od (aa (aa (aV) rfl Jf) rfl Kc) func129 (afy lpK jnK aE aO)
def mh (_:Lp) (_:Jn) (x0:ByteArray×Int) (y0:ByteArray):Option Bool :=
 some (List.beq (rO x0.1) (rO y0))
abbrev YX:=(ByteArray×Int)->(ByteArray)->Option (Bool)
def fa:YX:=mh lpK jnK
def adB:Ctr:=⟨[T79],[],[.str],.one .bool,fun x _ y=>fa x.1 y.1⟩
theorem agO (lp:Lp) (jn:Jn):∀x F y,mh lp jn x.1 y.1=rC lp jn [] 132 f132 adB x F y:=fun x F y=>by kernel_rfl
theorem aaM:adB.ok prog 132:=od (aV) func132 (agO lpK jnK)
def mJ (_:Lp) (_:Jn) (x0:ty5):Option Bool :=
 some x0.2.2
abbrev Yn:=ty5->Option (Bool)
def fc:Yn:=mJ lpK jnK
def acV:Ctr:=⟨[T63],[],[],.one .bool,fun x _ _=>fc x.1⟩
theorem afH (lp:Lp) (jn:Jn):∀x F y,mJ lp jn x.1=rC lp jn [] 133 f133 acV x F y:=fun x F y=>by kernel_rfl
theorem adt:acV.ok prog 133:=od (aV) func133 (afH lpK jnK)
def kl (lp:Lp) (_:Jn) (x0:List (List Int)) (f0:(((List Int)×Unit)->Option Bool)):Option Int :=
 lp (Int×PUnit) Int (fun again x=>cond (decide (x.1<(↑(aq x0):Int))) (cond (inB x.1 (aq x0)) (ah (f0
  (aT x0 (aS x.1) [],aC)) fun t=>cond t (some x.1) (again (aQ .i64 (x.1+1),aC))) none) (some (-1 :
  Int))) (0,aC)
abbrev TT:=(List (List Int))->((((List Int)×Unit)->Option Bool))->Option (Int)
def ct:TT:=kl lpK jnK
def aaW (ct:TT):Ctr:=⟨[(.sl (.sl i64))],[([(.sl i64)],.bool)],[],.one i64,fun x F _=>ct x.1 F.1⟩
def ad8:Ctr:=aaW ct
theorem aeV (lp:Lp) (jn:Jn):∀x F y,kl lp jn x.1 F.1=rC lp jn [] 225 f225 ad8 x F y:=fun x F y=>by kernel_rfl
theorem ZD:ad8.ok prog 225:=od (aV) func225 (aeV lpK jnK)
def jc (_:Lp) (_:Jn) (ct:TT) (x0:List (List Int)) (f0:(((List Int)×Unit)->Option Bool)):Option Bool :=
 ah (ct x0 f0) fun t=>some (decide (t>=0))
abbrev TU:=(List (List Int))->((((List Int)×Unit)->Option Bool))->Option (Bool)
def bM:TU:=jc lpK jnK ct
def aab (bM:TU):Ctr:=⟨[(.sl (.sl i64))],[([(.sl i64)],.bool)],[],.one .bool,fun x F _=>bM x.1 F.1⟩
def aej:Ctr:=aab bM
theorem afM (lp:Lp) (jn:Jn) (ct:TT):∀x F y,jc lp jn ct x.1 F.1=rC lp jn [(225,aaW ct)] 177 f177 aej x F y:=fun x F y=>by kernel_rfl
theorem acM:aej.ok prog 177:=od (aa (aV) rfl ZD) func177 (afM lpK jnK ct)
def kj (lp:Lp) (_:Jn) (x0:List Int) (f0:((Int×Unit)->Option Bool)):Option Int :=
 lp (Int×PUnit) Int (fun again x=>cond (decide (x.1<(↑(aq x0):Int))) (cond (inB x.1 (aq x0)) (ah (f0
  (aT x0 (aS x.1) 0,aC)) fun t=>cond t (some x.1) (again (aQ .i64 (x.1+1),aC))) none) (some
  (-1))) (0,aC)
abbrev UA:=(List Int)->(((Int×Unit)->Option Bool))->Option (Int)
def cu:UA:=kj lpK jnK
def acN (cu:UA):Ctr:=⟨[(.sl i64)],[([i64],.bool)],[],.one i64,fun x F _=>cu x.1 F.1⟩
def ado:Ctr:=acN cu
theorem ahe (lp:Lp) (jn:Jn):∀x F y,kj lp jn x.1 F.1=rC lp jn [] 226 f226 ado x F y:=fun x F y=>by kernel_rfl
theorem abD:ado.ok prog 226:=od (aV) func226 (ahe lpK jnK)
def iY (_:Lp) (_:Jn) (cu:UA) (x0:List Int) (f0:((Int×Unit)->Option Bool)):Option Bool :=
 ah (cu x0 f0) fun t=>some (decide (t>=0))
abbrev L9:=(List Int)->(((Int×Unit)->Option Bool))->Option (Bool)
def aL:L9:=iY lpK jnK cu
def X3 (aL:L9):Ctr:=⟨[(.sl i64)],[([i64],.bool)],[],.one .bool,fun x F _=>aL x.1 F.1⟩
def abK:Ctr:=X3 aL
theorem afK (lp:Lp) (jn:Jn) (cu:UA):∀x F y,iY lp jn cu x.1 F.1=rC lp jn [(226,acN cu)] 179 f179 abK x F y:=fun x F y=>by kernel_rfl
theorem W0:abK.ok prog 179:=od (aa (aV) rfl abD) func179 (afK lpK jnK cu)
def mr (_:Lp) (_:Jn) (x0:Int) (y0:Int):Option Bool :=
 
 let v4:=decide (x0<aQ .i64 (0 - y0));
 let v5:=!v4;
 let v6:=!v5||v5;cond (v6&&v6) (cond (v4||v5) (some (cond v4 true (decide (x0>y0)))) none) none
abbrev Zy:=(Int)->(Int)->Option (Bool)
def fO:Zy:=mr lpK jnK
def ada:Ctr:=⟨[i64],[],[i64],.one .bool,fun x _ y=>fO x.1 y.1⟩
theorem aeI (lp:Lp) (jn:Jn):∀x F y,mr lp jn x.1 y.1=rC lp jn [] 180 f180 ada x F y:=fun x F y=>by kernel_rfl
theorem ZY:ada.ok prog 180:=od (aV) func180 (aeI lpK jnK)
def oq (_:Lp) (_:Jn) (aL:L9) (fO:Zy) (x0:List Int) (x1:Int):Option Bool :=
 ah (aL x0 fun x=>fO x.1 x1) fun t=>some !t
abbrev LU:=(List Int)->(Int)->Option (Bool)
def cM:LU:=oq lpK jnK aL fO
def Xx (cM:LU):Ctr:=⟨[(.sl i64),i64],[],[],.one .bool,fun x _ _=>cM x.1 x.2.1⟩
def aae:Ctr:=Xx cM
theorem aeX (lp:Lp) (jn:Jn) (aL:L9) (fO:Zy):∀x F y,oq lp jn aL fO x.1 x.2.1=rC lp jn [(180,⟨[i64],[],[i64],.one .bool,fun x _ y=>fO x.1 y.1⟩),(179,X3 aL)] 108 f108 aae x F y:=fun x F y=>by kernel_rfl
theorem WV:aae.ok prog 108:=od (aa (aa (aV) rfl W0) rfl ZY) func108 (aeX lpK jnK aL fO)
def ng (_:Lp) (_:Jn) (cM:LU) (x0:List Int) (y0:Int):Option Bool :=
 
 let v4:=!decide ((↑(aq x0):Int)=y0);
 let v5:=!v4;
 let v6:=!v5||v5;cond v6 (ah (cond v5 (cM x0 32) (some false)) fun t=>cond v6 (cond (v4||v5) (some (cond v4 true (!t))) none) none) none
abbrev XM:=(List Int)->(Int)->Option (Bool)
def eF:XM:=ng lpK jnK cM
def acj:Ctr:=⟨[(.sl i64)],[],[i64],.one .bool,fun x _ y=>eF x.1 y.1⟩
theorem agV (lp:Lp) (jn:Jn) (cM:LU):∀x F y,ng lp jn cM x.1 y.1=rC lp jn [(108,Xx cM)] 178 f178 acj x F y:=fun x F y=>by kernel_rfl
theorem abb:acj.ok prog 178:=od (aa (aV) rfl WV) func178 (agV lpK jnK cM)
def qi (_:Lp) (_:Jn) (bM:TU) (eF:XM) (x0:List (List Int)):Option Bool :=
 
 let v3:=decide ((↑(aq x0):Int)<1);
 let v4:=!v3;
 let v5:=decide ((↑(aq (aT x0 0 [])):Int)>=1);
 let v6:=!v4||v4;
 let v7:=!v5||v5;
 let v8:=cond v5 (decide ((↑(aq (aT x0 0 [])):Int)<=12)) false;
 let v9:=!v8||v8;cond v6 (cond v6 (cond (v3||v4) (cond (cond v3 true (decide ((↑(aq x0):Int)>6))) (some false) (cond (inB 0
  (aq x0)) (cond v7 (cond v7 (cond (v9&&v9) (ah (cond v8 (bM x0 fun x=>eF x.1 (↑(aq
  (aT x0 0 [])):Int)) (some false)) fun t=>cond v9 (cond v9 (some (cond v8 (!t) false)) none) none) none) none) none) none)) none) none) none
abbrev Hg:=(List (List Int))->Option (Bool)
def bQ:Hg:=qi lpK jnK bM eF
def Uf (bQ:Hg):Ctr:=⟨[(.sl (.sl i64))],[],[],.one .bool,fun x _ _=>bQ x.1⟩
def adl:Ctr:=Uf bQ
theorem af0 (lp:Lp) (jn:Jn) (bM:TU) (eF:XM):∀x F y,qi lp jn bM eF x.1=rC lp jn [(178,⟨[(.sl i64)],[],[i64],.one .bool,fun x _ y=>eF x.1 y.1⟩),(177,aab bM)] 107 f107 adl x F y:=fun x F y=>by kernel_rfl
theorem RV:adl.ok prog 107:=od (aa (aa (aV) rfl acM) rfl abb) func107 (af0 lpK jnK bM eF)
def zf (_:Lp) (jn:Jn) (x0:Int):Option Int :=
 jn (Int×Int×PUnit) Int (fun x=>jn (Int×Int×PUnit) Int (fun x =>
 let v5:=aQ IntKind.u8 x.1;
 let v6:=aQ IntKind.u8 (Int.fdiv x.1 (2 ^ 8));cond (decide (x.1>=256)) (cond (decide ((0:Int)<=8)) (cond (inB v6 256) (
  some (aQ .i64 (aQ .i64 (x.2.1+8)+aQ .i64 (iZ { data:=List.toArray (List.append (List.append [(0:UInt8),1,2,2,3,3,3,3,4,4,4,4,4,4,4,4,5,5,5,5,5,5,5,5,5,5,5,5,5,5,5,5,6,6,6,6,6,6,6,6,6,6,6,6,6,6,6,6,6,6,6,6,6,6,6,6,6,6,6,6,6,6,6,6] [(7:UInt8),7,7,7,7,7,7,7,7,7,7,7,7,7,7,7,7,7,7,7,7,7,7,7,7,7,7,7,7,7,7,7,7,7,7,7,7,7,7,7,7,7,7,7,7,7,7,7,7,7,7,7,7,7,7,7,7,7,7,7,7,7,7,7]) (List.append [(8:UInt8),8,8,8,8,8,8,8,8,8,8,8,8,8,8,8,8,8,8,8,8,8,8,8,8,8,8,8,8,8,8,8,8,8,8,8,8,8,8,8,8,8,8,8,8,8,8,8,8,8,8,8,8,8,8,8,8,8,8,8,8,8,8,8] [(8:UInt8),8,8,8,8,8,8,8,8,8,8,8,8,8,8,8,8,8,8,8,8,8,8,8,8,8,8,8,8,8,8,8,8,8,8,8,8,8,8,8,8,8,8,8,8,8,8,8,8,8,8,8,8,8,8,8,8,8,8,8,8,8,8,8])) } (aS v6))))) none) none) (cond (inB v5 256) (some (aQ .i64 (x.2.1+aQ
  IntKind.i64 (iZ { data:=List.toArray (List.append (List.append [(0:UInt8),1,2,2,3,3,3,3,4,4,4,4,4,4,4,4,5,5,5,5,5,5,5,5,5,5,5,5,5,5,5,5,6,6,6,6,6,6,6,6,6,6,6,6,6,6,6,6,6,6,6,6,6,6,6,6,6,6,6,6,6,6,6,6] [(7 :
  UInt8),7,7,7,7,7,7,7,7,7,7,7,7,7,7,7,7,7,7,7,7,7,7,7,7,7,7,7,7,7,7,7,7,7,7,7,7,7,7,7,7,7,7,7,7,7,7,7,7,7,7,7,7,7,7,7,7,7,7,7,7,7,7,7]) (List.append [(8:UInt8),8,8,8,8,8,8,8,8,8,8,8,8,8,8,8,8,8,8,8,8,8,8,8,8,8,8,8,8,8,8,8,8,8,8,8,8,8,8,8,8,8,8,8,8,8,8,8,8,8,8,8,8,8,8,8,8,8,8,8,8,8,8,8] [(8:UInt8),8,8,8,8,8,8,8,8,8,8,8,8,8,8,8,8,8,8,8,8,8,8,8,8,8,8,8,8,8,8,8,8,8,8,8,8,8,8,8,8,8,8,8,8,8,8,8,8,8,8,8,8,8,8,8,8,8,8,8,8,8,8,8])) } (aS v5))))) none)) fun j=>cond (decide (x.1>=65536)) (cond (decide ((0:Int)<=16)) (j (Int.fdiv x.1 (2 ^ 16),aQ .i64
  (x.2.1+16),aC)) none) (j (x.1,x.2.1,aC))) fun j=>cond (decide (x0>=4294967296)) (cond (decide
  (0<=32)) (j (Int.fdiv x0 (2 ^ 32),32,aC)) none) (j (x0,0,aC))
abbrev YM:=(Int)->Option (Int)
def jt:YM:=zf lpK jnK
def aaQ:Ctr:=⟨[(.int .u64)],[],[],.one i64,fun x _ _=>jt x.1⟩
theorem ahq (lp:Lp) (jn:Jn):∀x F y,zf lp jn x.1=rC lp jn [] 267 f267 aaQ x F y:=fun x F y=>by kernel_rfl
theorem aa2:aaQ.ok prog 267:=od (aV) func267 (ahq lpK jnK)
def kw (_:Lp) (_:Jn) (jt:YM) (x0:Int):Option Int :=
 ah (jt x0) fun t=>some (aQ .i64 (64 - t))
abbrev Xp:=(Int)->Option (Int)
def dU:Xp:=kw lpK jnK jt
def ZH:Ctr:=⟨[(.int .u64)],[],[],.one i64,fun x _ _=>dU x.1⟩
theorem agQ (lp:Lp) (jn:Jn) (jt:YM):∀x F y,kw lp jn jt x.1=rC lp jn [(267,⟨[(.int .u64)],[],[],.one i64,fun x _ _=>jt x.1⟩)] 256 f256 ZH x F y:=fun x F y=>by kernel_rfl
theorem abG:ZH.ok prog 256:=od (aa (aV) rfl aa2) func256 (agQ lpK jnK jt)
def tR (lp:Lp) (jn:Jn) (dU:Xp) (x0:Int) (x1:Int) (x2:Int):Option (Int×Int×Unit) :=
 
 let v5:Bool:=nzB x2;
 let v6:Int:=2 ^ 32;
 let v7:=decide ((0:Int)<=32);jn PUnit (Int×Int×PUnit) (fun (_:PUnit)=>jn PUnit (Int×Int×PUnit) (fun (_:PUnit)=>cond (decide (x0=0)) (cond v5 (cond v5 (some (aQ .u64 (Int.tdiv x1 x2),Int.tmod x1 x2,aC)) none) none) (ah (dU x2) fun t =>
 let v11:=aQ .u64 t;
 let v12:=decide (0<=v11);
 let v13:Int:=2 ^ min (aS v11) 64;
 let v14:=aQ .u64 (x2*v13);
 let v15:=aQ .u64 (x1*v13);
 let v16:Int:=Int.fdiv v14 v6;
 let v17:Int:=Int.fdiv v15 v6;
 let v18:Bool:=nzB v16;
 let v19:=aQ .u64 (↑(Nat.land (aS (v15 % mK 18446744073709551616)) (aS (4294967295 % mK 18446744073709551616)))
  : Int);
 let v20:=aQ .u64 (↑(Nat.land (aS (v14 % mK 18446744073709551616)) (aS (4294967295 % mK 18446744073709551616)))
  : Int);
 let v21:=aQ .u64 (↑(Nat.lor (aS (aQ .u64 (x0*v13) % mK 18446744073709551616)) (aS (Int.fdiv x1 (2 ^ min
  (aS (aQ .u64 (64 - v11))) 64) % mK 18446744073709551616))):Int);
 let v22:=aQ .u64 (Int.tdiv v21 v16);cond v12 (cond v7 (cond v12 (cond (decide (0<=aQ .u64 (64 - v11))) (cond v12 (
  cond v7 (cond v18 (jn (Int×PUnit) (Int×Int×PUnit) (fun x =>
 let v24:=aQ .u64 (aQ .u64 (aQ .u64 (v21*4294967296)+v17) - aQ .u64 (x.1*v14));
 let v25:=aQ .u64 (Int.tdiv v24 v16);cond v18 (jn (Int×PUnit) (Int×Int×PUnit) (fun x_1=>cond v12 (some (aQ .u64
  (aQ .u64 (x.1*4294967296)+x_1.1),Int.fdiv (aQ .u64 (aQ .u64 (aQ .u64 (v24*4294967296) +
  v19) - aQ .u64 (x_1.1*v14))) v13,aC)) none) fun j=>lp (Int×Int×PUnit) (Int×Int×PUnit) (fun
  again x =>
 let v29:Int×PUnit:=(aQ .u64 (x.2.1 - 1),aC);
 let v30:=decide (x.2.1>=4294967296);
 let v31:=!v30;
 let v32:=!v31||v31;
 let v33:Bool:=v32&&v32;cond v33 (cond v32 (cond v33 (cond v33 (cond (v30||v31) (cond (cond v30 true (decide (aQ .u64 (x.2.1*v20) >
  aQ .u64 (aQ .u64 (4294967296*x.1)+v19)))) (cond (decide (aQ .u64 (x.1+v16)>=4294967296)) (j v29) (
  again (aQ .u64 (x.1+v16),v29))) (j (x.2.1,aC))) none) none) none) none) none) (aQ .u64 (v24 - aQ
  IntKind.u64 (v25*v16)),v25,aC)) none) fun j=>lp (Int×Int×PUnit) (Int×Int×PUnit) (fun again x =>
 let v26:=aQ .u64 (x.1 - 1);
 let v27:=decide (x.1>=4294967296);
 let v28:=!v27;
 let v29:=!v28||v28;
 let v30:Bool:=v29&&v29;cond v30 (cond v29 (cond v30 (cond v30 (cond (v27||v28) (cond (cond v27 true (decide (aQ .u64 (x.1*v20) >
  aQ .u64 (aQ .u64 (4294967296*x.2.1)+v17)))) (cond (decide (aQ .u64 (x.2.1+v16)>=4294967296)) (j
  (v26,aC)) (again (v26,aQ .u64 (x.2.1+v16),aC))) (j (x.1,aC))) none) none) none) none) none) (v22,
  aQ .u64 (v21 - aQ .u64 (v22*v16)),aC)) none) none) none) none) none) none) none)) fun j=>cond (decide (x2<=x0)) none (j aC)) fun j=>cond (decide (x2=0)) none (j aC)
abbrev IA:=(Int)->(Int)->(Int)->Option (Int×Int×Unit)
def cH:IA:=tR lpK jnK dU
def Ul (cH:IA):Ctr:=⟨[(.int .u64),(.int .u64),(.int .u64)],[],[],.tup [(.int .u64),(.int .u64)],fun x _ _=>cH x.1 x.2.1 x.2.2.1⟩
def abL:Ctr:=Ul cH
theorem agi (lp:Lp) (jn:Jn) (dU:Xp):∀x F y,tR lp jn dU x.1 x.2.1 x.2.2.1=rC lp jn [(256,⟨[(.int .u64)],[],[],.one i64,fun x _ _=>dU x.1⟩)] 220 f220 abL x F y:=fun x F y=>by kernel_rfl
theorem OC:abL.ok prog 220:=od (aa (aV) rfl abG) func220 (agi lpK jnK dU)
def oG (_:Lp) (_:Jn) (x0:Int):Option Int :=
 some (aQ .u64 (if aQ .i64 (0 - x0)>x0 then aQ .i64 (0 - x0) else x0))
abbrev Yb:=(Int)->Option (Int)
def dR:Yb:=oG lpK jnK
def abc:Ctr:=⟨[i64],[],[],.one (.int .u64),fun x _ _=>dR x.1⟩
theorem ahg (lp:Lp) (jn:Jn):∀x F y,oG lp jn x.1=rC lp jn [] 227 f227 abc x F y:=fun x F y=>by kernel_rfl
theorem adu:abc.ok prog 227:=od (aV) func227 (ahg lpK jnK)
def rK (_:Lp) (jn:Jn) (bF:Dj) (cH:IA) (dR:Yb) (x0:Int) (x1:Int) (x2:Int) (x3:Int) (x4:Int):Option Int :=
 
 let v7:=decide (x4<0);
 let v8:=decide ((0:Int)<=0)&&decide ((0:Int)<=1);
 let v9:=!decide (decide (x0<0)=decide (x1<0));
 let v10:Bool×PUnit:=(v9,aC);ah (dR x0) fun t=>ah (dR x1) fun t_1=>ah (bF t t_1) fun (t:Int×Int×PUnit) =>
  ah (dR x2) fun t_2=>ah (dR x3) fun t_3=>ah (bF t_2 t_3) fun (t_4:Int×Int×PUnit) =>
 let v17:=decide (t.1=t_4.1);
 let v18:=decide (t.1<t_4.1);
 let v19:=!v18;
 let v20:=!v19;
 let v21:Bool:=v19&&v17;
 let v22:Bool:=v20||v19;
 let v23:=!v21||v21;jn (Int×Int×Bool×PUnit) Int (fun x=>ah (dR x4) fun t=>ah (cH x.1 x.2.1 t) fun
  (t:Int×Int×PUnit) =>
 let v27:=aQ .i64 t.1;cond (!decide (x.2.2.1=v7)) (some (aQ .i64 (0 - v27))) (some v27)) fun j=>cond (decide (v9=!decide (decide (x2<0)=decide (x3<0)))) (cond (v22&&v22) (cond v22 (cond (v23&&v23) (cond ((v20||v22)&&(v20||(!v17
  || (v20||v21)))) (cond (v18||v19) (jn (Int×Int×Int×Int×Bool×PUnit) Int (fun x=>cond v8 (cond (decide (0<=qt
  x.2.1 x.2.2.2.1 0)&&decide (qt x.2.1 x.2.2.2.1 0<=1)) (j (xA x.1 x.2.2.1 (qt x.2.1 x.2.2.2.1 0),
  xA x.2.1 x.2.2.2.1 0,x.2.2.2.2.1,aC)) none) none) fun j=>cond (cond v18 true (cond v17 (decide (t.2.1<t_4.2.1)) false)) (j (t_4.1,t_4.2.1,t.1,t.2.1,!v9,aC)) (j (t.1,t.2.1,t_4.1,t_4.2.1,v10))) none) none) none) none) none) (cond v8 (cond (decide (0<=rU t.2.1 t_4.2.1 0)&&decide (rU t.2.1 t_4.2.1 0<=1)) (j (AP t.1 t_4.1 (rU t.2.1 t_4.2.1 0),AP t.2.1 t_4.2.1 0,v10)) none) none)
abbrev VN:=(Int)->(Int)->(Int)->(Int)->(Int)->Option (Int)
def gz:VN:=rK lpK jnK bF cH dR
def aey (gz:VN):Ctr:=⟨[i64,i64,i64,i64,i64],[],[],.one i64,fun x _ _=>gz x.1 x.2.1 x.2.2.1 x.2.2.2.1 x.2.2.2.2.1⟩
def acW:Ctr:=aey gz
theorem afa (lp:Lp) (jn:Jn) (bF:Dj) (cH:IA) (dR:Yb):∀x F y,rK lp jn bF cH dR x.1 x.2.1 x.2.2.1 x.2.2.2.1 x.2.2.2.2.1=rC lp jn [(227,⟨[i64],[],[],.one (.int .u64),fun x _ _=>dR x.1⟩),(220,Ul cH),(164,Oy bF)] 181 f181 acW x F y:=fun x F y=>by kernel_rfl
theorem aax:acW.ok prog 181:=od (aa (aa (aa (aV) rfl Lb) rfl OC) rfl adu) func181 (afa lpK jnK bF cH dR)
def lN (lp:Lp) (_:Jn) (gz:VN) (aj:yI) (x0:List (List Int)) (x1:Int):Option ((List (List Int))×Int×(List Int)×(List Int)×Bool) :=
 lp (Int×(List Nat×List (Option (List Int)))×Int×List Int×List Int×Bool×PUnit) (List (List Int)×Int×List Int×List Int×Bool) (fun again x =>
 let v6:Bool×PUnit:=(x.2.2.2.2.2.1,aC);cond (decide (x.1<(↑(aq x0):Int))) (cond (inB x.1 (aq x0)) (ah (aj
  (aT x0 (aS x.1) [])) fun t=>cond (dS (aq x.2.1.1+1) 24) (cond (dS (aq x.2.2.2.2.1+1) (8 :
  Nat)) (again (aQ .i64 (x.1+1),(x.2.1.1++[aq x.2.1.2+0],x.2.1.2++[some t]),x.2.2.1,x.2.2.2.1,
  x.2.2.2.2.1++[x.1],v6)) none) none) none) (lp (Int×(List Nat×List (Option (List Int)))×Int×List Int×List Int×Bool×PUnit) (List (List Int) ×
  Int×List Int×List Int×Bool) (fun again x =>
 let v9:=aQ .i64 (x.1+1);
 let v10:(List Nat×List (Option (List Int)))×Int×List Int×List Int×Bool×PUnit:=(x.2.1,x.2.2.1,x.2.2.2.1,x.2.2.2.2.1,
  x.2.2.2.2.2.1,aC);cond (decide (x.1<x1)) (lp (Int×Int×PUnit) (List (List Int)×Int×List Int×List Int×Bool) (fun again_1 x_1 =>
 let v13:=decide (x_1.1<0);
 let v14:Int×PUnit:=(aQ .i64 (x_1.2.1+1),aC);
 let v15:=decide (x_1.2.1<(↑(aq x.2.1.1):Int));
 let v16:=!v15||v15;cond v16 (cond v16 (cond (cond v15 v13 false) (cond (inB x_1.2.1 (aq x.2.1.1)) (cond (cl (bT (aS
  x_1.2.1)) (aq x.2.1.1)) (cond (inB x.1 (aq (bD x.2.1.2 (aT x.2.1.1 (aS x_1.2.1) 0)))) (cond (cl (bT
  (aS x.1)) (aq (bD x.2.1.2 (aT x.2.1.1 (aS x_1.2.1) 0)))) (cond (!decide (aT (bD x.2.1.2 (aT
  x.2.1.1 (aS x_1.2.1) 0)) (aS x.1) 0=0)) (again_1 (x_1.2.1,v14)) (again_1 (x_1.1,v14))) none) none) none) none) (cond v13 (again (v9,v10)) (lp (Int×(List Nat×List (Option (List Int)))×Int×List Int×List Int×Bool×PUnit) (List (List Int)×Int×List Int×List Int ×
  Bool) (fun again_2 x_2 =>
 let v19:=aQ .i64 (x_2.1 - 1);
 let v20:=inB x_2.1 (aq x_2.2.1.1);
 let v21:=cl (bT (aS x_2.1)) (aq x_2.2.1.1);
 let v22:=inB x_2.1 (aq x_2.2.2.2.2.1);
 let v23:=cl (bT (aS x_2.1)) (aq x_2.2.2.2.2.1);
 let v24:=inB v19 (aq x_2.2.2.2.2.1);
 let v25:=cl (bT (aS v19)) (aq x_2.2.2.2.2.1);
 let v26:List Nat:=iF x_2.2.1.1 (aS x_2.1) (aT x_2.2.1.1 (aS v19) 0);cond (decide (x_2.1>(↑(aq x.2.2.2.1):Int))) (cond (inB v19 (aq x_2.2.1.1)) (cond (cl (bT (aS v19)) (aq x_2.2.1.1)) (cond v20 (cond v21 (cond v20 (cond v21 (cond (inB
  v19 (aq v26)) (cond (cl (bT (aS v19)) (aq v26)) (cond v24 (cond v25 (cond v22 (cond v23 (cond v22 (cond v23 (cond v24 (cond v25 (again_2 (v19,(iF v26 (aS v19) (aT x_2.2.1.1 (aS x_2.1) 0),x_2.2.1.2++[]++[]),x_2.2.2.1,x_2.2.2.2.1,
  iF (iF x_2.2.2.2.2.1 (aS x_2.1) (aT x_2.2.2.2.2.1 (aS v19) 0)) (aS v19) (aT x_2.2.2.2.2.1
  (aS x_2.1) 0),!x_2.2.2.2.2.2.1,aC)) none) none) none) none) none) none) none) none) none) none) none) none) none) none) none) none) (cond (inB (↑(aq x.2.2.2.1):Int) (aq x_2.2.1.1)) (cond (cl (bT (aS
  (↑(aq x.2.2.2.1):Int))) (aq x_2.2.1.1)) (cond (inB x.1 (aq (bD x_2.2.1.2 (aT x_2.2.1.1 (aS (↑(aq
  x.2.2.2.1):Int)) 0)))) (cond (cl (bT (aS x.1)) (aq (bD x_2.2.1.2 (aT x_2.2.1.1 (aS (↑(aq
  x.2.2.2.1):Int)) 0)))) (lp (Int×(List Nat×List (Option (List Int)))×PUnit) (List (List Int)×Int×List Int×List Int×Bool) (fun again_3 x_3 =>
 let v29:=aQ .i64 (x_3.1+1);
 let v30:(List Nat×List (Option (List Int)))×PUnit:=(x_3.2.1,aC);cond (decide (x_3.1<(↑(aq x_2.2.1.1):Int))) (cond (inB x_3.1 (aq
  x_3.2.1.1)) (cond (cl (bT (aS x_3.1)) (aq x_3.2.1.1)) (cond (decide (x_3.1=(↑(aq x.2.2.2.1):Int))) (again_3 (v29,
  v30)) (cond (inB x.1 (aq (bD x_3.2.1.2 (aT x_3.2.1.1 (aS x_3.1) 0)))) (cond (cl (bT (aS x.1)) (aq (bD
  x_3.2.1.2 (aT x_3.2.1.1 (aS x_3.1) 0)))) (cond (fK x_3.2.1.2 (aT x_3.2.1.1 (aS x_3.1) 0)) (lp (Int×(List
  Nat×List (Option (List Int)))×PUnit) (List (List Int)×Int×List Int×List Int×Bool) (fun again x_4=>cond (decide (x_4.1<(↑(aq (bD x_3.2.1.2 (aT x_3.2.1.1
  (aS x_3.1) 0))):Int))) (cond (inB x_4.1 (aq (bD x_4.2.1.2 (aT x_3.2.1.1 (aS x_3.1) 0)))) (cond (cl (bT
  (aS x_4.1)) (aq (bD x_4.2.1.2 (aT x_3.2.1.1 (aS x_3.1) 0)))) (cond (inB (↑(aq x.2.2.2.1):Int) (aq
  x_4.2.1.1)) (cond (cl (bT (aS (↑(aq x.2.2.2.1):Int))) (aq x_4.2.1.1)) (cond (inB x_4.1 (aq (bD x_4.2.1.2
  (aT x_4.2.1.1 (aS (↑(aq x.2.2.2.1):Int)) 0)))) (cond (cl (bT (aS x_4.1)) (aq (bD x_4.2.1.2
  (aT x_4.2.1.1 (aS (↑(aq x.2.2.2.1):Int)) 0)))) (ah (gz (aT (bD x_4.2.1.2 (aT x_3.2.1.1
  (aS x_3.1) 0)) (aS x_4.1) 0) (aT (bD x_2.2.1.2 (aT x_2.2.1.1 (aS (↑(aq x.2.2.2.1):Int)) (0 :
  Nat))) (aS x.1) 0) (aT (bD x_3.2.1.2 (aT x_3.2.1.1 (aS x_3.1) 0)) (aS x.1) 0) (aT (bD
  x_4.2.1.2 (aT x_4.2.1.1 (aS (↑(aq x.2.2.2.1):Int)) 0)) (aS x_4.1) 0) x_2.2.2.1) fun t=>cond (inB
  x_4.1 (aq (bD x_4.2.1.2 (aT x_3.2.1.1 (aS x_3.1) 0)))) (cond (cl (bT (aS x_4.1)) (aq (bD x_4.2.1.2
  (aT x_3.2.1.1 (aS x_3.1) 0)))) (again (aQ .i64 (x_4.1+1),(x_4.2.1.1,iF x_4.2.1.2 (aT
  x_3.2.1.1 (aS x_3.1) 0) (some (iF (bD x_4.2.1.2 (aT x_3.2.1.1 (aS x_3.1) 0)) (aS x_4.1) t))),aC)) none) none) none) none) none) none) none) none) (again_3 (v29,x_4.2.1,aC))) (0,v30)) none) none) none)) none) none) (cond (dS (aq x_2.2.2.2.1+1) 8) (again (v9,x_3.2.1,aT (bD x_2.2.1.2 (aT x_2.2.1.1 (aS
  (↑(aq x.2.2.2.1):Int)) 0)) (aS x.1) 0,x_2.2.2.2.1++[x.1],x_2.2.2.2.2.1,x_2.2.2.2.2.2.1,aC)) none)) (0,x_2.2.1,aC)) none) none) none) none)) (x_1.1,v10)))) none) none) ((-1),(↑(aq x.2.2.2.1):Int),
  aC)) (cond (List.all x.2.1.1 fun x_1=>fK x.2.1.2 x_1) (some (List.map (fun x_1=>bD x.2.1.2 x_1) x.2.1.1,x.2.2.1,
  x.2.2.2.1,x.2.2.2.2.1,x.2.2.2.2.2.1)) none)) (0,x.2.1,x.2.2.1,x.2.2.2.1,x.2.2.2.2.1,v6))) (0,([],
  []),1,[],[],false,aC)
abbrev HY:=(List (List Int))->(Int)->Option ((List (List Int))×Int×(List Int)×(List Int)×Bool)
def be:HY:=lN lpK jnK gz aj
def UH (be:HY):Ctr:=⟨[(.sl (.sl i64)),i64],[],[],.one af5,fun x _ _=>be x.1 x.2.1⟩
def Tv:Ctr:=UH be
theorem agf (lp:Lp) (jn:Jn) (gz:VN) (aj:yI):∀(x:TsS Tv.as) (F:TsF Tv.fs) (y:TsS Tv.cs),lN lp jn gz aj x.1 x.2.1=wE lp jn (cx [(181,aey gz)] [(140,ma),(128,lu),(113,lc),(137,kS),(241,jK),(240,jA),(109,J4 aj)]) dI 4 110 f110 Tv x F y:=fun x F y=>by kernel_rfl
theorem Pj:Tv.ok prog 110:=od (aa (aV) rfl aax) func110 (agf lpK jnK gz aj)
def uc (_:Lp) (_:Jn) (bZ:t96) (bf:t97) (bH:t99) (x0:Int) (x1:Int):Option ((Int×Int)×Int×Unit) :=
 
 let v4:=!decide (x0=0);
 let v5:=!v4||v4;cond (decide (x1=0)) (some ((0,0),16,aC)) (ah (bf x0) fun t=>ah (bf x1) fun
  t_1=>ah (bZ t t_1) fun t_2 =>
 let v9:Bool:=nzB t_2;cond v5 (cond v5 (cond (v5&&v5) (cond v5 (cond v9 (cond v9 (ah (bH (cond v4 (!decide (decide (x0<0)=decide (x1<(0
  : Int)))) false) (aQ .u64 (Int.tdiv t t_2)) (aQ .u64 (Int.tdiv t_1 t_2))) fun (t:(Int×Int)×Int×PUnit)=>some (t.1,t.2.1,
  aC)) none) none) none) none) none) none)
abbrev Gs:=(Int)->(Int)->Option ((Int×Int)×Int×Unit)
def cR:Gs:=uc lpK jnK bZ bf bH
def U0 (cR:Gs):Ctr:=⟨[i64,i64],[],[],.tup [T38,i64],fun x _ _=>cR x.1 x.2.1⟩
def aen:Ctr:=U0 cR
theorem ae2 (lp:Lp) (jn:Jn) (bZ:t96) (bf:t97) (bH:t99):∀x F y,uc lp jn bZ bf bH x.1 x.2.1=rC lp jn [(99,k99 bH),(97,k97 bf),(96,k96 bZ)] 111 f111 aen x F y:=fun x F y=>by kernel_rfl
theorem Pw:aen.ok prog 111:=od (aa (aa (aa (aV) rfl Wa) rfl Rm) rfl X1) func111 (ae2 lpK jnK bZ bf bH)
def qu (lp:Lp) (_:Jn) (cM:LU) (bQ:Hg) (be:HY) (cR:Gs) (aj:yI) (x0:List (List Int)) (x1:List Int):Option ((List (Int×Int))×Int×Unit) :=
 ah (bQ x0) fun t=>cond (!t) (some ([],1,aC)) (cond (!decide ((↑(aq x1):Int)=(↑(aq x0):Int))) (some ([],3,
  aC)) (ah (cM x1 67108864) fun t=>cond (!t) (some ([],2,aC)) (cond (inB 0 (aq x0)) (lp ((List Nat ×
  List (Option (List Int)))×Int×PUnit) (List (Int×Int)×Int×PUnit) (fun again x=>cond (decide (x.2.1<(↑(aq x0):Int))) (cond (inB x.2.1 (aq x0)) (ah (aj
  (aT x0 (aS x.2.1) [])) fun t=>cond (inB x.2.1 (aq x1)) (cond (dS (aq t+1) 8) (cond (dS (aq
  x.1.1+1) 24) (again ((x.1.1++[aq x.1.2+0],x.1.2++[some (t++[aT x1 (aS x.2.1) 0])]),aQ
  IntKind.i64 (x.2.1+1),aC)) none) none) none) none) (ah (cond (List.all x.1.1 fun x_1=>fK x.1.2 x_1) (be
  (List.map (fun x_1=>bD x.1.2 x_1) x.1.1) (↑(aq (aT x0 0 [])):Int)) none) fun t =>
 let v9:List (List Int):=List.drop (aS (↑(aq t.2.2.1):Int)) (n_ (aS (↑(aq t.1):Int)) t.1);cond (slB (↑(aq t.2.2.1) :
  Int) (↑(aq t.1):Int) (aq t.1)) (lp (Int×PUnit) (List (Int×Int)×Int×PUnit) (fun again x=>cond (decide (x.1<(↑(aq v9):Int))) (cond (inB x.1 (aq v9)) (cond (inB (↑(aq (aT x0 0 [])):Int) (aq
  (aT v9 (aS x.1) []))) (cond (!decide (aT (aT v9 (aS x.1) []) (aS (↑(aq (aT x0 0 [])):Int)) 0=(0 :
  Int))) (some ([],22,aC)) (again (aQ .i64 (x.1+1),aC))) none) none) (cond (decide ((↑(aq t.2.2.1) :
  Int)<(↑(aq (aT x0 0 [])):Int))) (some ([],21,aC)) (lp (List (Int×Int)×Int×PUnit) (List (Int×Int)×Int×PUnit) (fun again x =>
 let v14:=aT t.1 (aS x.2.1) [];cond (decide (x.2.1<(↑(aq (aT x0 0 [])):Int))) (cond (inB x.2.1 (aq t.1)) (
  cond (inB (↑(aq (aT x0 0 [])):Int) (aq v14)) (ah (cR (aT v14 (aS (↑(aq (aT x0 0 [])):Int)) (0 :
  Int)) t.2.1) fun (t:(Int×Int)×Int×PUnit)=>cond (!decide (t.2.1=0)) (some ([],t.2.1,aC)) (cond (dS (aq x.1+1) (16 :
  Nat)) (again (x.1++[t.1],aQ .i64 (x.2.1+1),aC)) none)) none) none) (some (x.1,0,aC))) ([],0,
  aC)))) (0,aC)) none)) (([],[]),0,aC)) none)))
abbrev t59:=(List (List Int))->(List Int)->Option ((List (Int×Int))×Int×Unit)
def cm:t59:=qu lpK jnK cM bQ be cR aj
def k59 (cm:t59):Ctr:=⟨[(.sl (.sl i64)),(.sl i64)],[],[],.tup [(.sl T38),i64],fun x _ _=>cm x.1 x.2.1⟩
def c59:Ctr:=k59 cm
theorem e59 (lp:Lp) (jn:Jn) (cM:LU) (bQ:Hg) (be:HY) (cR:Gs) (aj:yI):∀(x:TsS c59.as) (F:TsF c59.fs) (y:TsS c59.cs),qu lp jn cM bQ be cR aj x.1 x.2.1=wE lp jn (cx [(111,U0 cR),(110,UH be),(107,Uf bQ),(108,Xx cM)] [(140,ma),(128,lu),(113,lc),(137,kS),(241,jK),(240,jA),(109,J4 aj)]) dI 4 59 f59 c59 x F y:=fun x F y=>by kernel_rfl
theorem ade:c59.ok prog 59:=od (aa (aa (aa (aa (aV) rfl WV) rfl RV) rfl Pj) rfl Pw) func59 (e59 lpK jnK cM bQ be cR aj)
def tf (lp:Lp) (_:Jn) (cW:No) (aK:AN) (x0:ty0):Option ((List (List Int))×Int×Unit) :=
 ah (aK x0) fun t=>cond (!t) (some ([],1,aC)) (cond (decide (0<=(↑(aq x0.1):Int))&&dS (aS (↑(aq x0.1)
  : Int)) 24) (lp (Int×(List Nat×List (Option (List Int)))×PUnit) (List (List Int)×Int×PUnit) (fun again x=>cond (decide (x.1<(↑(aq (Nat.brecOn (motive:=fun x=>Nat->List Nat) (aS (↑(aq x0.1):Int)) (fun x (f:Nat.below (motive:=fun x=>Nat->List (T ref)) x) x_1=>(match (motive:=(x:Nat)->Nat->Nat.below (motive:=fun x=>Nat->List (T ref)) x->List Nat) x,x_1 with | 0,x=>fun (_:PUnit)=>[] | bT n,k=>fun x=>(k+0) ::x.1 (k+1)) f) 0)):Int))) (cond (decide (0 <=
  (↑(aq x0.2):Int))&&dS (aS (↑(aq x0.2):Int)) 8) (cond (inB x.1 (aq x.2.1.1)) (cond (cl (bT (aS x.1))
  (aq x.2.1.1)) (again (aQ .i64 (x.1+1),(iF x.2.1.1 (aS x.1) (aq x.2.1.2),x.2.1.2++[some
  (bx (aS (↑(aq x0.2):Int)) 0)]),aC)) none) none) none) (lp (Int×(List Nat×List (Option (List Int)))×PUnit) (List
  (List Int)×Int×PUnit) (fun again x=>cond (decide (x.1<(↑(aq x0.2):Int))) (cond (inB x.1 (aq x0.2)) (lp (Int×(List Nat×List (Option (List Int)))×PUnit) (List (List Int)×Int
  × PUnit) (fun again_1 x_1 =>
 let v10:=aQ .i64 (x_1.1+1);
 let v11:(List Nat×List (Option (List Int)))×PUnit:=(x_1.2.1,aC);
 let v12:=aT (aT x0.2 (aS x.1) ({ data:={ toList:=[] } },[],false)).2.1 (aS x_1.1) ({ data:={ toList:=[] }
  },0,0,0);cond (decide (x_1.1<(↑(aq (aT x0.2 (aS x.1) ({ data:={ toList:=[] } },[],false)).2.1):Int))) (cond (inB
  x_1.1 (aq (aT x0.2 (aS x.1) ({ data:={ toList:=[] } },[],false)).2.1)) (ah (cW x0 v12.1) fun t=>cond (decide (t>=(0 :
  Int))) (cond (inB t (aq x_1.2.1.1)) (cond (cl (bT (aS t)) (aq x_1.2.1.1)) (cond (inB x.1 (aq (bD x_1.2.1.2
  (aT x_1.2.1.1 (aS t) 0)))) (cond (cl (bT (aS x.1)) (aq (bD x_1.2.1.2 (aT x_1.2.1.1 (aS t) (0 :
  Nat))))) (cond (inB x.1 (aq (bD x_1.2.1.2 (aT x_1.2.1.1 (aS t) 0)))) (cond (cl (bT (aS x.1)) (aq (bD
  x_1.2.1.2 (aT x_1.2.1.1 (aS t) 0)))) (again_1 (v10,(x_1.2.1.1,iF x_1.2.1.2 (aT x_1.2.1.1 (aS t) 0)
  (some (iF (bD x_1.2.1.2 (aT x_1.2.1.1 (aS t) 0)) (aS x.1) (aQ .i64 (aT (bD x_1.2.1.2 (aT
  x_1.2.1.1 (aS t) 0)) (aS x.1) 0+v12.2.1))))),aC)) none) none) none) none) none) none) (again_1 (v10,v11))) none) (again (aQ .i64 (x.1+1),v11))) (0,x.2.1,aC)) none) (cond (List.all x.2.1.1 fun x_1=>fK
  x.2.1.2 x_1) (some (List.map (fun x_1=>bD x.2.1.2 x_1) x.2.1.1,0,aC)) none)) (0,x.2.1,aC))) (0,
  (Nat.brecOn (motive:=fun x=>Nat->List Nat) (aS (↑(aq x0.1):Int)) (fun x (f:Nat.below (motive:=fun x=>Nat->List (T ref)) x) x_1=>(match (motive:=(x:Nat)->Nat->Nat.below (motive:=fun x=>Nat->List (T ref)) x->List Nat) x,x_1 with | 0,x=>fun (_:PUnit)=>[] | bT n,k=>fun x=>(k+0) ::x.1 (k+1)) f) 0,bx (aS (↑(aq x0.1):Int)) (some [])),aC)) none)
abbrev t57:=ty0->Option ((List (List Int))×Int×Unit)
def aB:t57:=tf lpK jnK cW aK
def k57 (aB:t57):Ctr:=⟨[T50],[],[],.tup [(.sl (.sl i64)),i64],fun x _ _=>aB x.1⟩
def c57:Ctr:=k57 aB
theorem e57 (lp:Lp) (jn:Jn) (cW:No) (aK:AN):∀x F y,tf lp jn cW aK x.1=rC lp jn [(105,MQ aK),(106,YC cW)] 57 f57 c57 x F y:=fun x F y=>by kernel_rfl
theorem Od:c57.ok prog 57:=od (aa (aa (aV) rfl WH) rfl Ht) func57 (e57 lpK jnK cW aK)
def wQ (lp:Lp) (_:Jn) (aB:t57) (x0:ty0):Option ((List (List Int))×Int×Unit) :=
 ah (aB x0) fun (t:List (List Int)×Int×PUnit)=>cond (!decide (t.2.1=0)) (some ([],t.2.1,aC)) (cond (decide (0<=(↑(aq
  x0.2):Int))&&dS (aS (↑(aq x0.2):Int)) 24) (lp (Int×(List Nat×List (Option (List Int)))×PUnit) (List (List Int)×Int×PUnit) (fun again x=>cond (decide (x.1 <
  (↑(aq (Nat.brecOn (motive:=fun x=>Nat->List Nat) (aS (↑(aq x0.2):Int)) (fun x (f:Nat.below (motive:=fun x=>Nat->List (T ref)) x) x_1=>(match (motive:=(x:Nat)->Nat->Nat.below (motive:=fun x=>Nat->List (T ref)) x->List Nat) x,x_1 with | 0,x=>fun (_:PUnit)=>[] | bT n,k=>fun x=>(k+0) ::x.1 (k+1)) f) 0)):Int))) (lp (Int×(List Nat×List (Option (List Int)))×PUnit) (List (List Int)×Int×PUnit) (fun again_1 x_1 =>
 let v8:=aT t.1 (aS x_1.1) [];
 let v9:=inB x.1 (aq x_1.2.1.1);
 let v10:=cl (bT (aS x.1)) (aq x_1.2.1.1);cond (decide (x_1.1<(↑(aq t.1):Int))) (cond (inB x_1.1 (aq t.1)) (cond v9 (cond v10 (cond (inB x.1 (aq v8)) (cond (fK x_1.2.1.2 (aT x_1.2.1.1 (aS x.1) 0)&&dS (aq (bD x_1.2.1.2
  (aT x_1.2.1.1 (aS x.1) 0))+1) 8) (cond v9 (cond v10 (again_1 (aQ .i64 (x_1.1+1),(iF
  x_1.2.1.1 (aS x.1) (aq x_1.2.1.2),iF x_1.2.1.2 (aT x_1.2.1.1 (aS x.1) 0) none++[some (bD x_1.2.1.2
  (aT x_1.2.1.1 (aS x.1) 0)++[aT v8 (aS x.1) 0])]++[]),aC)) none) none) none) none) none) none) none) (again (aQ .i64 (x.1+1),x_1.2.1,aC))) (0,x.2.1,aC)) (cond (List.all x.2.1.1 fun x_1=>fK
  x.2.1.2 x_1) (some (List.map (fun x_1=>bD x.2.1.2 x_1) x.2.1.1,0,aC)) none)) (0,(Nat.brecOn (motive:=fun x=>Nat->List Nat) (aS (↑(aq x0.2):Int)) (fun x (f:Nat.below (motive:=fun x=>Nat->List (T ref)) x) x_1=>(match (motive:=(x:Nat)->Nat->Nat.below (motive:=fun x=>Nat->List (T ref)) x->List Nat) x,x_1 with | 0,x=>fun (_:PUnit)=>[] | bT n,k=>fun x=>(k+0) ::x.1 (k+1)) f) 0,bx (aS (↑(aq x0.2):Int)) (some [])),aC)) none)
abbrev t72:=ty0->Option ((List (List Int))×Int×Unit)
def dL:t72:=wQ lpK jnK aB
def k72 (dL:t72):Ctr:=⟨[T50],[],[],.tup [(.sl (.sl i64)),i64],fun x _ _=>dL x.1⟩
def c72:Ctr:=k72 dL
theorem e72 (lp:Lp) (jn:Jn) (aB:t57):∀x F y,wQ lp jn aB x.1=rC lp jn [(57,k57 aB)] 72 f72 c72 x F y:=fun x F y=>by kernel_rfl
theorem aah:c72.ok prog 72:=od (aa (aV) rfl Od) func72 (e72 lpK jnK aB)
def oA (lp:Lp) (_:Jn) (x0:ty0) (x1:List Int):Option Bool :=
 lp (Int×PUnit) Bool (fun again x =>
 let v6:=!decide (aT x1 (aS x.1) 0=0);
 let v7:=decide (aT x1 (aS x.1) 0<(-67108864));
 let v8:=!v7;
 let v9:=cond v7 true (decide (aT x1 (aS x.1) 0>67108864));
 let v10:=!v9;
 let v11:=!v10;
 let v12:Bool:=v10&&v6;
 let v13:=!v12;
 let v14:Bool:=v11||v10;
 let v15:Bool:=v13||v12;cond (decide (x.1<(↑(aq x1):Int))) (cond (inB x.1 (aq x1)) (cond (!v8||v8) (cond (v7||v8) (cond v14 (cond v14 (cond v15 (cond (v15&&(v15&&(v13||inB x.1 (aq x0.2)))) (cond v15 (cond v15 (cond v15 (cond ((v11||v14)&&(v11||(!v6||(v11||v12)))) (cond (v9||v10) (cond (cond v9 true (cond v6 (!(aT x0.2 (aS x.1) ({ data:={ toList:=[] } },[],false)).2.2) false)) (some false) (again (aQ
  IntKind.i64 (x.1+1),aC))) none) none) none) none) none) none) none) none) none) none) none) none) (some true)) ((0
  : Int),aC)
abbrev XU:=ty0->(List Int)->Option (Bool)
def gg:XU:=oA lpK jnK
def ac2:Ctr:=⟨[T50,(.sl i64)],[],[],.one .bool,fun x _ _=>gg x.1 x.2.1⟩
theorem agq (lp:Lp) (jn:Jn):∀x F y,oA lp jn x.1 x.2.1=rC lp jn [] 196 f196 ac2 x F y:=fun x F y=>by kernel_rfl
theorem abX:ac2.ok prog 196:=od (aV) func196 (agq lpK jnK)
def ox (_:Lp) (_:Jn) (cm:t59) (dL:t72) (gg:XU) (x0:ty0) (x1:List Int):Option ((List (Int×Int))×Int×Unit) :=
 ah (dL x0) fun (t:List (List Int)×Int×PUnit)=>cond (!decide (t.2.1=0)) (some ([],t.2.1,aC)) (cond (!decide ((↑(aq x1):Int) =
  (↑(aq x0.2):Int))) (some ([],3,aC)) (ah (gg x0 x1) fun t_1=>cond (!t_1) (some ([],2,aC)) (ah
  (cm t.1 x1) fun (t:List (Int×Int)×Int×PUnit)=>some (t.1,t.2.1,aC))))
abbrev VC:=ty0->(List Int)->Option ((List (Int×Int))×Int×Unit)
def eJ:VC:=ox lpK jnK cm dL gg
def abf (eJ:VC):Ctr:=⟨[T50,(.sl i64)],[],[],.tup [(.sl T38),i64],fun x _ _=>eJ x.1 x.2.1⟩
def abw:Ctr:=abf eJ
theorem agT (lp:Lp) (jn:Jn) (cm:t59) (dL:t72) (gg:XU):∀x F y,ox lp jn cm dL gg x.1 x.2.1=rC lp jn [(196,⟨[T50,(.sl i64)],[],[],.one .bool,fun x _ _=>gg x.1 x.2.1⟩),(72,k72 dL),(59,k59 cm)] 134 f134 abw x F y:=fun x F y=>by kernel_rfl
theorem adM:abw.ok prog 134:=od (aa (aa (aa (aV) rfl ade) rfl aah) rfl abX) func134 (agT lpK jnK cm dL gg)
def ow (_:Lp) (_:Jn) (ap:t68) (ba:Mn) (aK:AN) (bR:Df) (fa:YX) (fc:Yn) (eJ:VC) (x0:ty0) (x1:ByteArray):Option ((Int×Int)×Int×Unit) :=
 ah (aK x0) fun t=>cond (!t) (some ((0,0),1,aC)) (ah (ba x0.1 fun x =>
  fa x.1 x1) fun t=>cond (decide (t<0)) (some ((0,0),9,aC)) (ah (ap x0.2 fun x=>fc x.1) fun t_1=>cond (decide (t_1<0)) (some ((0,0),11,
  aC)) (cond (decide (0<=(↑(aq x0.2):Int))&&dS (aS (↑(aq x0.2):Int)) 8) (cond (inB t_1 (aS (↑(aq x0.2) :
  Int))) (cond (cl (bT (aS t_1)) (aS (↑(aq x0.2):Int))) (ah (eJ x0 (iF (bx (aS (↑(aq x0.2) :
  Int)) 0) (aS t_1) 1)) fun (t_2:List (Int×Int)×Int×PUnit)=>cond (!decide (t_2.2.1=0)) (some ((0,0),t_2.2.1,
  aC)) (cond (inB t (aq t_2.1)) (ah (bR (1,1) (aT t_2.1 (aS t) (0,0))) fun (t:(Int×Int)×Int ×
  PUnit)=>some (t.1,t.2.1,aC)) none)) none) none) none)))
abbrev t67:=ty0->(ByteArray)->Option ((Int×Int)×Int×Unit)
def gM:t67:=ow lpK jnK ap ba aK bR fa fc eJ
def c67:Ctr:=⟨[T50,.str],[],[],.tup [T38,i64],fun x _ _=>gM x.1 x.2.1⟩
theorem e67 (lp:Lp) (jn:Jn) (ap:t68) (ba:Mn) (aK:AN) (bR:Df) (fa:YX) (fc:Yn) (eJ:VC):∀x F y,ow lp jn ap ba aK bR fa fc eJ x.1 x.2.1=rC lp jn [(134,abf eJ),(133,⟨[T63],[],[],.one .bool,fun x _ _=>fc x.1⟩),(132,⟨[T79],[],[.str],.one .bool,fun x _ y=>fa x.1 y.1⟩),(129,RQ bR),(105,MQ aK),(131,Zg ba),(68,k68 ap)] 67 f67 c67 x F y:=fun x F y=>by kernel_rfl
theorem agh:c67.ok prog 67:=od (aa (aa (aa (aa (aa (aa (aa (aV) rfl V9) rfl WT) rfl Ht) rfl K5) rfl aaM) rfl adt) rfl adM) func67 (e67 lpK jnK ap ba aK bR fa fc eJ)
def lr (_:Lp) (_:Jn) (gM:t67) (x0:ty0) (x1:ByteArray):Option ((Int×Int)×Int×Unit) :=
 ah (gM x0 x1) fun (t:(Int×Int)×Int×PUnit)=>some (t.1,t.2.1,aC)
abbrev t24:=ty0->(ByteArray)->Option ((Int×Int)×Int×Unit)
def bw:t24:=lr lpK jnK gM
def k24 (bw:t24):Ctr:=⟨[T50,.str],[],[],.tup [T38,i64],fun x _ _=>bw x.1 x.2.1⟩
def c24:Ctr:=k24 bw
theorem e24 (lp:Lp) (jn:Jn) (gM:t67):∀x F y,lr lp jn gM x.1 x.2.1=rC lp jn [(67,⟨[T50,.str],[],[],.tup [T38,i64],fun x _ _=>gM x.1 x.2.1⟩)] 24 f24 c24 x F y:=fun x F y=>by kernel_rfl
theorem adO:c24.ok prog 24:=od (aa (aV) rfl agh) func24 (e24 lpK jnK gM)
def mB (lp:Lp) (_:Jn) (aK:AN) (x0:ty0):Option ((List Int)×Int×Unit) :=
 ah (aK x0) fun t=>cond (!t) (some ([],1,aC)) (lp (List Int×Int×PUnit) (List Int×Int×PUnit) (fun again x=>cond (decide (x.2.1<(↑(aq x0.1):Int))) (cond (inB x.2.1 (aq x0.1)) (cond (dS
  (aq x.1+1) 8) (again (x.1++[(aT x0.1 (aS x.2.1) ({ data:={ toList:=[] } },0)).2],aQ .i64
  (x.2.1+1),aC)) none) none) (some (x.1,0,aC))) ([],0,aC))
abbrev t58:=ty0->Option ((List Int)×Int×Unit)
def bW:t58:=mB lpK jnK aK
def k58 (bW:t58):Ctr:=⟨[T50],[],[],.tup [(.sl i64),i64],fun x _ _=>bW x.1⟩
def c58:Ctr:=k58 bW
theorem e58 (lp:Lp) (jn:Jn) (aK:AN):∀x F y,mB lp jn aK x.1=rC lp jn [(105,MQ aK)] 58 f58 c58 x F y:=fun x F y=>by kernel_rfl
theorem aee:c58.ok prog 58:=od (aa (aV) rfl Ht) func58 (e58 lpK jnK aK)
def ka (_:Lp) (_:Jn) (cm:t59) (aB:t57) (bW:t58) (x0:ty0):Option ((List (Int×Int))×Int×Unit) :=
 ah (aB x0) fun (t:List (List Int)×Int×PUnit)=>cond (!decide (t.2.1=0)) (some ([],t.2.1,aC)) (ah (bW x0) fun (t_1 :
  List Int×Int×PUnit)=>cond (!decide (t_1.2.1=0)) (some ([],t_1.2.1,aC)) (ah (cm t.1 t_1.1) fun (t:List (Int×Int)×Int×PUnit)=>some (t.1,t.2.1,aC)))
abbrev t16:=ty0->Option ((List (Int×Int))×Int×Unit)
def bh:t16:=ka lpK jnK cm aB bW
def k16 (bh:t16):Ctr:=⟨[T50],[],[],.tup [(.sl T38),i64],fun x _ _=>bh x.1⟩
def c16:Ctr:=k16 bh
theorem e16 (lp:Lp) (jn:Jn) (cm:t59) (aB:t57) (bW:t58):∀x F y,ka lp jn cm aB bW x.1=rC lp jn [(58,k58 bW),(57,k57 aB),(59,k59 cm)] 16 f16 c16 x F y:=fun x F y=>by kernel_rfl
theorem adL:c16.ok prog 16:=od (aa (aa (aa (aV) rfl ade) rfl Od) rfl aee) func16 (e16 lpK jnK cm aB bW)
set_option maxRecDepth 100000
def sy (_:Lp) (_:Jn) (x0:ty5):Option Bool :=
 some x0.2.2
abbrev t70:=ty5->Option (Bool)
def gt:t70:=sy lpK jnK
def c70:Ctr:=⟨[T63],[],[],.one .bool,fun x _ _=>gt x.1⟩
theorem e70 (lp:Lp) (jn:Jn):∀x F y,sy lp jn x.1=rC lp jn [] 70 f70 c70 x F y:=fun x F y=>by kernel_rfl
theorem agB:c70.ok prog 70:=od (aV) func70 (e70 lpK jnK)
def qI (_:Lp) (_:Jn) (ap:t68) (bh:t16) (gt:t70) (x0:ty0):Option ((Int×Int)×Int×Unit) :=
 ah (bh x0) fun (t:List (Int×Int)×Int×PUnit)=>cond (!decide (t.2.1=0)) (some ((0,0),t.2.1,aC)) (ah
  (ap x0.2 fun x=>gt x.1) fun t_1=>cond (decide (t_1<0)) (some
  ((0,0),12,aC)) (cond (inB t_1 (aq t.1)) (some (aT t.1 (aS t_1) (0,0),0,aC)) none))
abbrev t29:=ty0->Option ((Int×Int)×Int×Unit)
def bP:t29:=qI lpK jnK ap bh gt
def k29 (bP:t29):Ctr:=⟨[T50],[],[],.tup [T38,i64],fun x _ _=>bP x.1⟩
def c29:Ctr:=k29 bP
theorem e29 (lp:Lp) (jn:Jn) (ap:t68) (bh:t16) (gt:t70):∀x F y,qI lp jn ap bh gt x.1=rC lp jn [(70,⟨[T63],[],[],.one .bool,fun x _ _=>gt x.1⟩),(16,k16 bh),(68,k68 ap)] 29 f29 c29 x F y:=fun x F y=>by kernel_rfl
theorem Xi:c29.ok prog 29:=od (aa (aa (aa (aV) rfl V9) rfl adL) rfl agB) func29 (e29 lpK jnK ap bh gt)
def tg (_:Lp) (_:Jn) (x0:Int) (x1:Int) (x2:Int):Option Bool :=
 
 let v5:=decide (x0>=x1);
 let v6:=!v5||v5;cond (v6&&v6) (cond v6 (some (cond v5 (decide (x0<=x2)) false)) none) none
abbrev t84:=(Int)->(Int)->(Int)->Option (Bool)
def aw:t84:=tg lpK jnK
def k84 (aw:t84):Ctr:=⟨[i64,i64,i64],[],[],.one .bool,fun x _ _=>aw x.1 x.2.1 x.2.2.1⟩
def c84:Ctr:=k84 aw
theorem e84 (lp:Lp) (jn:Jn):∀x F y,tg lp jn x.1 x.2.1 x.2.2.1=rC lp jn [] 84 f84 c84 x F y:=fun x F y=>by kernel_rfl
theorem Ou:c84.ok prog 84:=od (aV) func84 (e84 lpK jnK)
def vl (lp:Lp) (_:Jn) (aw:t84) (x0:List Int) (x1:Int):Option Bool :=
 ah (aw (↑(aq x0):Int) 2 10) fun t =>
 let v5:=!t;
 let v6:=!v5;
 let v7:=!v6;
 let v8:Bool:=v7||v6;
 let v9:=cond v5 true (decide (aT x0 0 0<0));
 let v10:=!v9;
 let v11:=!v10;
 let v12:Bool:=v11||v10;cond (v8&&(v7||inB 0 (aq x0))) (cond v8 (cond v8 (cond (v5||v6) (cond v12 (cond v12 (cond (v12&&(v12&&(v11||inB
  (aQ .i64 ((↑(aq x0):Int) - 1)) (aq x0)))) (cond v12 (cond (v12&&v12) (cond (v9||v10) (cond (cond v9 true (decide
  (aT x0 (aS (aQ .i64 ((↑(aq x0):Int) - 1))) 0>x1))) (some false) (lp (Int×PUnit) Bool (fun again x=>cond (decide (x.1<(↑(aq x0):Int))) (cond (inB x.1 (aq x0)) (cond (inB (aQ .i64 (x.1 - 1))
  (aq x0)) (cond (decide (aT x0 (aS x.1) 0<=aT x0 (aS (aQ .i64 (x.1 - 1))) 0)) (some false) (
  again (aQ .i64 (x.1+1),aC))) none) none) (some true)) (1,aC))) none) none) none) none) none) none) none) none) none) none
abbrev t85:=(List Int)->(Int)->Option (Bool)
def ji:t85:=vl lpK jnK aw
def c85:Ctr:=⟨[(.sl i64),i64],[],[],.one .bool,fun x _ _=>ji x.1 x.2.1⟩
theorem e85 (lp:Lp) (jn:Jn) (aw:t84):∀x F y,vl lp jn aw x.1 x.2.1=rC lp jn [(84,k84 aw)] 85 f85 c85 x F y:=fun x F y=>by kernel_rfl
theorem agC:c85.ok prog 85:=od (aa (aV) rfl Ou) func85 (e85 lpK jnK aw)
def qD (lp:Lp) (_:Jn) (x0:ty9) (f0:(((ByteArray×Int×Int×Int×Int×Int×Int)×Unit)->Option ByteArray)):Option Bool :=
 lp (Int×List ByteArray×PUnit) Bool (fun again x=>cond (decide (x.1<(↑(aq x0):Int))) (
  cond (inB x.1 (aq x0)) (ah (f0 (aT x0 (aS x.1) ({ data:={ toList:=[] } },0,0,0,0,0,0),
  aC)) fun t=>again (aQ .i64 (x.1+1),Hs str t x.2.1,aC)) none) (some (decide ((↑(aq x.2.1):Int)
  < (↑(aq x0):Int))))) (0,[],aC)
abbrev VK:=ty9->((((ByteArray×Int×Int×Int×Int×Int×Int)×Unit)->Option ByteArray))->Option (Bool)
def eH:VK:=qD lpK jnK
def aeb (eH:VK):Ctr:=⟨[(.sl mc)],[([mc],.str)],[],.one .bool,fun x F _=>eH x.1 F.1⟩
def ady:Ctr:=aeb eH
theorem afs (lp:Lp) (jn:Jn):∀x F y,qD lp jn x.1 F.1=rC lp jn [] 147 f147 ady x F y:=fun x F y=>by kernel_rfl
theorem acQ:ady.ok prog 147:=od (aV) func147 (afs lpK jnK)
def sD (_:Lp) (_:Jn) (x0:ty8):Option ByteArray :=
 some x0.1
abbrev X2:=ty8->Option (ByteArray)
def gV:X2:=sD lpK jnK
def aaA:Ctr:=⟨[mc],[],[],.one .str,fun x _ _=>gV x.1⟩
theorem agp (lp:Lp) (jn:Jn):∀x F y,sD lp jn x.1=rC lp jn [] 148 f148 aaA x F y:=fun x F y=>by kernel_rfl
theorem aaN:aaA.ok prog 148:=od (aV) func148 (agp lpK jnK)
def ve (_:Lp) (_:Jn) (aF:t40) (aw:t84) (x0:ty8):Option Bool :=
 ah (aF x0.1) fun t =>
 let v4:=!t||t;cond v4 (cond v4 (ah (cond t (aw x0.2.2.2.1 0 1048576) (some false)) fun t_1 =>
 let v6:=cond t t_1 false;
 let v7:=!v6||v6;cond v4 (cond v7 (cond v7 (ah (cond v6 (aw x0.2.2.2.2.1 0 1048576) (some false)) fun t =>
 let v9:=cond v6 t false;
 let v10:=!v9||v9;cond v7 (cond v10 (cond v10 (ah (cond v9 (aw x0.2.2.2.2.2.1 0 1048576) (some false)) fun t =>
 let v12:=cond v9 t false;
 let v13:=!v12||v12;cond v10 (cond v13 (cond v13 (ah (cond v12 (aw x0.2.2.2.2.2.2 0 1048576) (some false)) fun t=>cond v13 (some (cond v12 t false)) none) none) none) none) none) none) none) none) none) none) none) none
abbrev Yp:=ty8->Option (Bool)
def jm:Yp:=ve lpK jnK aF aw
def ab1:Ctr:=⟨[mc],[],[],.one .bool,fun x _ _=>jm x.1⟩
theorem afu (lp:Lp) (jn:Jn) (aF:t40) (aw:t84):∀x F y,ve lp jn aF aw x.1=rC lp jn [(84,k84 aw),(40,k40 aF)] 149 f149 ab1 x F y:=fun x F y=>by kernel_rfl
theorem abY:ab1.ok prog 149:=od (aa (aa (aV) rfl P0) rfl Ou) func149 (afu lpK jnK aF aw)
def ug (_:Lp) (_:Jn) (aw:t84) (x0:ty8) (x1:Int):Option Bool :=
 
 let v4:=decide (x0.2.1>=0);
 let v5:=!v4||v4;cond v5 (cond v5 (ah (cond v4 (aw x0.2.2.1 1 1048576) (some false)) fun t =>
 let v7:=cond v4 t false;
 let v8:=!v7||v7;
 let v9:Bool:=v8&&v8;cond v5 (cond v8 (cond v8 (cond v9 (cond v9 (cond v8 (some (cond v7 (decide (x0.2.1<=aQ .i64 (x1 - x0.2.2.1))) false)) none) none) none) none) none) none) none) none
abbrev Y2:=ty8->(Int)->Option (Bool)
def iB:Y2:=ug lpK jnK aw
def aea:Ctr:=⟨[mc,i64],[],[],.one .bool,fun x _ _=>iB x.1 x.2.1⟩
theorem af4 (lp:Lp) (jn:Jn) (aw:t84):∀x F y,ug lp jn aw x.1 x.2.1=rC lp jn [(84,k84 aw)] 150 f150 aea x F y:=fun x F y=>by kernel_rfl
theorem abv:aea.ok prog 150:=od (aa (aV) rfl Ou) func150 (af4 lpK jnK aw)
def mz (lp:Lp) (_:Jn) (x0:ty9) (f0:(((ByteArray×Int×Int×Int×Int×Int×Int)×Unit)->Option Bool)):Option Int :=
 lp (Int×PUnit) Int (fun again x=>cond (decide (x.1<(↑(aq x0):Int))) (cond (inB x.1 (aq x0)) (ah (f0
  (aT x0 (aS x.1) ({ data:={ toList:=[] } },0,0,0,0,0,0),aC)) fun t=>cond t (some x.1) (again (aQ .i64 (x.1+1),aC))) none) (some (-1))) (0,aC)
abbrev Uj:=ty9->((((ByteArray×Int×Int×Int×Int×Int×Int)×Unit)->Option Bool))->Option (Int)
def dx:Uj:=mz lpK jnK
def ac9 (dx:Uj):Ctr:=⟨[(.sl mc)],[([mc],.bool)],[],.one i64,fun x F _=>dx x.1 F.1⟩
def adc:Ctr:=ac9 dx
theorem aho (lp:Lp) (jn:Jn):∀x F y,mz lp jn x.1 F.1=rC lp jn [] 207 f207 adc x F y:=fun x F y=>by kernel_rfl
theorem acP:adc.ok prog 207:=od (aV) func207 (aho lpK jnK)
def lj (_:Lp) (_:Jn) (dx:Uj) (x0:ty9) (f0:(((ByteArray×Int×Int×Int×Int×Int×Int)×Unit)->Option Bool)):Option Bool :=
 ah (dx x0 f0) fun t=>some (decide (t>=0))
abbrev TP:=ty9->((((ByteArray×Int×Int×Int×Int×Int×Int)×Unit)->Option Bool))->Option (Bool)
def cB:TP:=lj lpK jnK dx
def aan (cB:TP):Ctr:=⟨[(.sl mc)],[([mc],.bool)],[],.one .bool,fun x F _=>cB x.1 F.1⟩
def abu:Ctr:=aan cB
theorem afo (lp:Lp) (jn:Jn) (dx:Uj):∀x F y,lj lp jn dx x.1 F.1=rC lp jn [(207,ac9 dx)] 151 f151 abu x F y:=fun x F y=>by kernel_rfl
theorem adb:abu.ok prog 151:=od (aa (aV) rfl acP) func151 (afo lpK jnK dx)
def vQ (_:Lp) (_:Jn) (x0:ty8) (x1:ty8):Option Bool :=
 
 let v4:=decide (aQ .i64 (x0.2.1+x0.2.2.1)<=x1.2.1);
 let v5:=!v4;
 let v6:=!v5||v5;
 let v7:Bool:=v6&&v6;cond v6 (cond v6 (cond v7 (cond v6 (cond v7 (cond (v4||v5) (some (cond v4 true (decide (aQ .i64 (x1.2.1 +
  x1.2.2.1)<=x0.2.1)))) none) none) none) none) none) none
abbrev YV:=ty8->ty8->Option (Bool)
def js:YV:=vQ lpK jnK
def ZM:Ctr:=⟨[mc,mc],[],[],.one .bool,fun x _ _=>js x.1 x.2.1⟩
theorem agk (lp:Lp) (jn:Jn):∀x F y,vQ lp jn x.1 x.2.1=rC lp jn [] 153 f153 ZM x F y:=fun x F y=>by kernel_rfl
theorem acg:ZM.ok prog 153:=od (aV) func153 (agk lpK jnK)
def te (_:Lp) (_:Jn) (js:YV) (x0:ty8) (y0:ByteArray×Int×Int×Int×Int×Int×Int):Option Bool :=
 ah (js y0 x0) fun t=>some !t
abbrev YS:=ty8->ty8->Option (Bool)
def gY:YS:=te lpK jnK js
def ZV:Ctr:=⟨[mc],[],[mc],.one .bool,fun x _ y=>gY x.1 y.1⟩
theorem aeN (lp:Lp) (jn:Jn) (js:YV):∀x F y,te lp jn js x.1 y.1=rC lp jn [(153,⟨[mc,mc],[],[],.one .bool,fun x _ _=>js x.1 x.2.1⟩)] 152 f152 ZV x F y:=fun x F y=>by kernel_rfl
theorem aaJ:ZV.ok prog 152:=od (aa (aV) rfl acg) func152 (aeN lpK jnK js)
def vD (lp:Lp) (_:Jn) (eH:VK) (gV:X2) (jm:Yp) (iB:Y2) (cB:TP) (gY:YS) (x0:ty9) (x1:Int):Option Bool :=
 
 let v4:=decide ((↑(aq x0):Int)>40);
 let v5:=!v4;cond (!v5||v5) (ah (cond v5 (eH x0 fun x=>gV x.1) (some false))
  fun t=>cond (v4||v5) (cond (cond v4 true t) (some false) (lp (Int×PUnit) Bool (fun again x =>
 let v9:=aT x0 (aS x.1) ({ data:={ toList:=[] } },0,0,0,0,0,0);
  cond (decide (x.1<(↑(aq x0):Int))) (cond (inB x.1 (aq x0)) (ah (jm v9) fun t =>
 let v11:=!t;
 let v12:=!v11;
 let v13:=!v12||v12;cond (v13&&v13) (ah (cond v12 (iB v9 x1) (some false)) fun t =>
 let v15:=cond v11 true (!t);
 let v16:=!v15;
 let v17:=!v16;
 let v18:Bool:=v17||v16;cond v13 (cond (v11||v12) (cond (v18&&(v18&&(v17||slB 0 x.1 (aq x0)))) (cond (v18&&v18) (ah (cond v16 (
  cB (List.drop 0 (n_ (aS x.1) x0)) fun x=>gY x.1 v9) (some
  false)) fun t=>cond (v15||v16) (cond (cond v15 true t) (some false) (again (aQ .i64 (x.1+1),aC))) none) none) none) none) none) none) none) (some true)) (0,aC))) none) none
abbrev t86:=ty9->(Int)->Option (Bool)
def jj:t86:=vD lpK jnK eH gV jm iB cB gY
def c86:Ctr:=⟨[(.sl mc),i64],[],[],.one .bool,fun x _ _=>jj x.1 x.2.1⟩
theorem e86 (lp:Lp) (jn:Jn) (eH:VK) (gV:X2) (jm:Yp) (iB:Y2) (cB:TP) (gY:YS):∀x F y,vD lp jn eH gV jm iB cB gY x.1 x.2.1=rC lp jn [(152,⟨[mc],[],[mc],.one .bool,fun x _ y=>gY x.1 y.1⟩),(151,aan cB),(150,⟨[mc,i64],[],[],.one .bool,fun x _ _=>iB x.1 x.2.1⟩),(149,⟨[mc],[],[],.one .bool,fun x _ _=>jm x.1⟩),(148,⟨[mc],[],[],.one .str,fun x _ _=>gV x.1⟩),(147,aeb eH)] 86 f86 c86 x F y:=fun x F y=>by kernel_rfl
theorem afl:c86.ok prog 86:=od (aa (aa (aa (aa (aa (aa (aV) rfl acQ) rfl aaN) rfl abY) rfl abv) rfl adb) rfl aaJ) func86 (e86 lpK jnK eH gV jm iB cB gY)
def qK (lp:Lp) (_:Jn) (x0:ty7) (f0:(((ByteArray×Int×Int)×Unit)->Option ByteArray)):Option Bool :=
 lp (Int×List ByteArray×PUnit) Bool (fun again x=>cond (decide (x.1<(↑(aq x0):Int))) (
  cond (inB x.1 (aq x0)) (ah (f0 (aT x0 (aS x.1) ({ data:={ toList:=[] } },0,0),aC)) fun t=>again
  (aQ .i64 (x.1+1),Hs str t x.2.1,aC)) none) (some (decide ((↑(aq x.2.1):Int)<(↑(aq x0):Int))))) (0,
  [],aC)
abbrev UZ:=ty7->((((ByteArray×Int×Int)×Unit)->Option ByteArray))->Option (Bool)
def eI:UZ:=qK lpK jnK
def ZG (eI:UZ):Ctr:=⟨[(.sl T92)],[([T92],.str)],[],.one .bool,fun x F _=>eI x.1 F.1⟩
def acm:Ctr:=ZG eI
theorem aeT (lp:Lp) (jn:Jn):∀x F y,qK lp jn x.1 F.1=rC lp jn [] 154 f154 acm x F y:=fun x F y=>by kernel_rfl
theorem aaj:acm.ok prog 154:=od (aV) func154 (aeT lpK jnK)
def rp (_:Lp) (_:Jn) (x0:ByteArray×Int×Int):Option ByteArray :=
 some x0.1
abbrev Zo:=(ByteArray×Int×Int)->Option (ByteArray)
def gy:Zo:=rp lpK jnK
def aaa:Ctr:=⟨[T92],[],[],.one .str,fun x _ _=>gy x.1⟩
theorem agW (lp:Lp) (jn:Jn):∀x F y,rp lp jn x.1=rC lp jn [] 155 f155 aaa x F y:=fun x F y=>by kernel_rfl
theorem aba:aaa.ok prog 155:=od (aV) func155 (agW lpK jnK)
def uu (lp:Lp) (_:Jn) (aF:t40) (aw:t84) (eI:UZ) (gy:Zo) (x0:ty7):Option Bool :=
 
 let v3:=decide ((↑(aq x0):Int)>8);
 let v4:=!v3;cond (!v4||v4) (ah (cond v4 (eI x0 fun x=>gy x.1) (some false)) fun t=>cond (
  v3||v4) (cond (cond v3 true t) (some false) (lp (Int×Int×PUnit) Bool (fun again x =>
 let v8:=aT x0 (aS x.2.1) ({ data:={ toList:=[] } },0,0);cond (decide (x.2.1<(↑(aq x0):Int))) (cond (inB
  x.2.1 (aq x0)) (ah (aF v8.1) fun t =>
 let v10:=!t;
 let v11:=!v10;
 let v12:=!v11||v11;cond v12 (cond v12 (ah (cond v11 (aw v8.2.1 1 1048576) (some false)) fun t =>
 let v14:=cond v10 true (!t);
 let v15:=!v14;
 let v16:=!v15||v15;cond v12 (cond (v10||v11) (cond v16 (cond v16 (ah (cond v15 (aw v8.2.2 0 60) (some false)) fun t=>cond v16 (cond (v14||v15) (cond (cond v14 true (!t)) (some false) (again (aQ .i64 (x.1+v8.2.2),aQ .i64 (x.2.1 +
  1),aC))) none) none) none) none) none) none) none) none) none) (some (decide (x.1<=60)))) (0,0,
  aC))) none) none
abbrev t87:=ty7->Option (Bool)
def iy:t87:=uu lpK jnK aF aw eI gy
def c87:Ctr:=⟨[(.sl T92)],[],[],.one .bool,fun x _ _=>iy x.1⟩
theorem e87 (lp:Lp) (jn:Jn) (aF:t40) (aw:t84) (eI:UZ) (gy:Zo):∀x F y,uu lp jn aF aw eI gy x.1=rC lp jn [(155,⟨[T92],[],[],.one .str,fun x _ _=>gy x.1⟩),(154,ZG eI),(84,k84 aw),(40,k40 aF)] 87 f87 c87 x F y:=fun x F y=>by kernel_rfl
theorem agN:c87.ok prog 87:=od (aa (aa (aa (aa (aV) rfl P0) rfl Ou) rfl aaj) rfl aba) func87 (e87 lpK jnK aF aw eI gy)
def vA (_:Lp) (_:Jn) (aF:t40) (aw:t84) (ji:t85) (jj:t86) (iy:t87) (x0:ty1):Option Bool :=
 
 let v3:=decide (0<=x0.2.2.1);
 let v4:=decide (x0.2.2.2.1<=1048576);
 let v5:=decide (Int.tmod x0.2.2.2.2.1 1000=0);
 let v6:=decide (x0.2.2.1<=x0.2.2.2.1);ah (aF x0.1) fun t =>
 let v8:=!t||t;cond v8 (cond v8 (ah (cond t (aw x0.2.1 0 1048576) (some false)) fun t_1 =>
 let v10:=cond t t_1 false;
 let v11:=cond v10 v3 false;
 let v12:=!v10||v10;
 let v13:=cond v11 v6 false;
 let v14:=cond v13 v4 false;
 let v15:=!v11||v11;
 let v16:=!v13||v13;
 let v17:=!v14||v14;cond v8 (cond v12 (cond v12 (cond v12 (cond v15 (cond v15 (cond (v15&&v15) (cond v15 (cond v16 (cond v16 (cond v16 (cond v17 (cond v17 (ah (cond v14 (aw x0.2.2.2.2.1 1000 1048576) (some false)) fun t =>
 let v19:=cond v14 t false;
 let v20:=!v19;
 let v21:=cond v19 v5 false;
 let v22:Bool:=v20||v19;
 let v23:=!v21||v21;cond v17 (cond v22 (cond (v22&&(v20||true)) (cond v22 (cond v22 (cond v23 (cond v23 (cond (v23&&v23) (ah (cond v21 (
  ji x0.2.2.2.2.2.1 x0.2.2.2.2.1) (some false)) fun t =>
 let v25:=cond v21 t false;
 let v26:=!v25||v25;cond v23 (cond v26 (cond v26 (ah (cond v25 (aw x0.2.2.2.2.2.2.1 0 1048576) (some false)) fun t =>
 let v28:=cond v25 t false;
 let v29:=!v28||v28;cond v26 (cond v29 (cond v29 (ah (cond v28 (aw x0.2.2.2.2.2.2.2.1 0 1048576) (some false)) fun
  t =>
 let v31:=cond v28 t false;
 let v32:=!v31||v31;cond v29 (cond v32 (cond v32 (ah (cond v31 (aw x0.2.2.2.2.2.2.2.2.1 1 2) (some false)) fun t =>
 let v34:=cond v31 t false;
 let v35:=!v34||v34;cond v32 (cond v35 (cond v35 (ah (cond v34 (aw x0.2.2.2.2.2.2.2.2.2.1 1 67108864) (some
  false)) fun t =>
 let v37:=cond v34 t false;
 let v38:=!v37||v37;cond v35 (cond v38 (cond v38 (ah (cond v37 (aw x0.2.2.2.2.2.2.2.2.2.2.1 0 67108864) (
  some false)) fun t =>
 let v40:=cond v37 t false;
 let v41:=!v40||v40;cond v38 (cond v41 (cond v41 (cond (v41&&v41) (ah (cond v40 (jj x0.2.2.2.2.2.2.2.2.2.2.2.1
  x0.2.2.2.2.1) (some false)) fun t =>
 let v43:=cond v40 t false;
 let v44:=!v43||v43;cond v41 (cond v44 (cond v44 (ah (cond v43 (iy x0.2.2.2.2.2.2.2.2.2.2.2.2) (some false)) fun t=>cond v44 (some (cond v43 t false)) none) none) none) none) none) none) none) none) none) none) none) none) none) none) none) none) none) none) none) none) none) none) none) none) none) none) none) none) none) none) none) none) none) none) none) none) none) none) none) none) none) none) none) none) none) none
abbrev t42:=ty1->Option (Bool)
def dN:t42:=vA lpK jnK aF aw ji jj iy
def k42 (dN:t42):Ctr:=⟨[T33],[],[],.one .bool,fun x _ _=>dN x.1⟩
def c42:Ctr:=k42 dN
theorem e42 (lp:Lp) (jn:Jn) (aF:t40) (aw:t84) (ji:t85) (jj:t86) (iy:t87):∀x F y,vA lp jn aF aw ji jj iy x.1=rC lp jn [(87,⟨[(.sl T92)],[],[],.one .bool,fun x _ _=>iy x.1⟩),(86,⟨[(.sl mc),i64],[],[],.one .bool,fun x _ _=>jj x.1 x.2.1⟩),(85,⟨[(.sl i64),i64],[],[],.one .bool,fun x _ _=>ji x.1 x.2.1⟩),(84,k84 aw),(40,k40 aF)] 42 f42 c42 x F y:=fun x F y=>by kernel_rfl
theorem ZZ:c42.ok prog 42:=od (aa (aa (aa (aa (aa (aV) rfl P0) rfl Ou) rfl agC) rfl afl) rfl agN) func42 (e42 lpK jnK aF aw ji jj iy)
def mM (lp:Lp) (_:Jn) (x0:List (Int×Int)) (f0:(((Int×Int)×Unit)->Option Bool)):Option Int :=
 lp (Int×PUnit) Int (fun again x=>cond (decide (x.1<(↑(aq x0):Int))) (cond (inB x.1 (aq x0)) (ah (f0
  (aT x0 (aS x.1) (0,0),aC)) fun t=>cond t (some x.1) (again (aQ .i64 (x.1+1),aC))) none) (some (-1))) (0,aC)
abbrev TS:=(List (Int×Int))->((((Int×Int)×Unit)->Option Bool))->Option (Int)
def dw:TS:=mM lpK jnK
def adf (dw:TS):Ctr:=⟨[(.sl T98)],[([T98],.bool)],[],.one i64,fun x F _=>dw x.1 F.1⟩
def adT:Ctr:=adf dw
theorem ago (lp:Lp) (jn:Jn):∀x F y,mM lp jn x.1 F.1=rC lp jn [] 222 f222 adT x F y:=fun x F y=>by kernel_rfl
theorem ZW:adT.ok prog 222:=od (aV) func222 (ago lpK jnK)
def li (_:Lp) (_:Jn) (dw:TS) (x0:List (Int×Int)) (f0:(((Int×Int)×Unit)->Option Bool)):Option Bool :=
 ah (dw x0 f0) fun t=>some (decide (t>=0))
abbrev Uo:=(List (Int×Int))->((((Int×Int)×Unit)->Option Bool))->Option (Bool)
def cA:Uo:=li lpK jnK dw
def abQ (cA:Uo):Ctr:=⟨[(.sl T98)],[([T98],.bool)],[],.one .bool,fun x F _=>cA x.1 F.1⟩
def ZB:Ctr:=abQ cA
theorem agP (lp:Lp) (jn:Jn) (dw:TS):∀x F y,li lp jn dw x.1 F.1=rC lp jn [(222,adf dw)] 167 f167 ZB x F y:=fun x F y=>by kernel_rfl
theorem abT:ZB.ok prog 167:=od (aa (aV) rfl ZW) func167 (agP lpK jnK dw)
def vN (_:Lp) (_:Jn) (x0:Int×Int) (y0:ByteArray×Int×(List Int)×(List (Int×Int))×Int):Option Bool :=
 
 let v4:=decide (x0.1<0);
 let v5:=!v4;
 let v6:=!v5||v5;
 let v7:=cond v4 true (decide (x0.1>y0.2.1));
 let v8:=!v7;
 let v9:=cond v7 true (decide (x0.2<0));
 let v10:=!v9;
 let v11:=!v8||v8;
 let v12:=!v10||v10;cond v6 (cond v6 (cond (v6&&v6) (cond (v4||v5) (cond v11 (cond v11 (cond (v7||v8) (cond v12 (cond v12 (cond (v9||v10) (some
  (cond v9 true (decide (x0.2>67108864)))) none) none) none) none) none) none) none) none) none) none
abbrev Ze:=(Int×Int)->ty2->Option (Bool)
def jg:Ze:=vN lpK jnK
def adm:Ctr:=⟨[T98],[],[se],.one .bool,fun x _ y=>jg x.1 y.1⟩
theorem agm (lp:Lp) (jn:Jn):∀x F y,vN lp jn x.1 y.1=rC lp jn [] 244 f244 adm x F y:=fun x F y=>by kernel_rfl
theorem abg:adm.ok prog 244:=od (aV) func244 (agm lpK jnK)
def yP (lp:Lp) (_:Jn) (aF:t40) (cA:Uo) (jg:Ze) (x0:ty2):Option Bool :=
 ah (aF x0.1) fun t =>
 let v4:=!t;
 let v5:=!v4;
 let v6:=!v5||v5;
 let v7:=cond v4 true (decide (x0.2.1<1));
 let v8:=!v7;
 let v9:=cond v7 true (decide (x0.2.1>1048576));
 let v10:=!v9;
 let v11:=!v8||v8;
 let v12:=cond v9 true (decide (x0.2.2.2.2<0));
 let v13:=!v12;
 let v14:=!v10||v10;
 let v15:=cond v12 true (decide (x0.2.2.2.2>1048576));
 let v16:=!v15;
 let v17:=cond v15 true (decide ((↑(aq x0.2.2.1):Int)<1));
 let v18:=!v17;
 let v19:=!v13||v13;
 let v20:=cond v17 true (decide ((↑(aq x0.2.2.1):Int)>10));
 let v21:=!v20;
 let v22:=!v16||v16;
 let v23:=!v18||v18;
 let v24:=!v21||v21;cond v6 (cond v6 (cond (v4||v5) (cond v11 (cond v11 (cond (v7||v8) (cond v14 (cond v14 (cond (v9||v10) (cond v19 (cond v19 (
  cond (v12||v13) (cond v22 (cond v22 (cond v22 (cond (v15||v16) (cond v23 (cond v23 (cond v23 (cond (v17||v18) (cond v24 (cond v24 (cond v24 (cond (v20
  || v21) (cond (cond v20 true (decide ((↑(aq x0.2.2.2.1):Int)>40))) (some false) (lp (Int×PUnit) Bool (fun again x =>
 let v27:=decide (x.1>0);
 let v28:=decide (aT x0.2.2.1 (aS x.1) 0<0);
 let v29:=!v28;
 let v30:=!v29||v29;
 let v31:=cond v28 true (decide (aT x0.2.2.1 (aS x.1) 0>x0.2.1));
 let v32:=!v31;
 let v33:=!v32;
 let v34:Bool:=v32&&v27;
 let v35:=!v34;
 let v36:Bool:=v33||v32;
 let v37:Bool:=v35||v34;cond (decide (x.1<(↑(aq x0.2.2.1):Int))) (cond (inB x.1 (aq x0.2.2.1)) (cond v30 (cond (v30&&v30) (cond (v28 ||
  v29) (cond v36 (cond v36 (cond v37 (cond v37 (cond (v37&&(v37&&(v35||inB (aQ .i64 (x.1 - 1)) (aq x0.2.2.1)))) (cond v37 (cond (v37&&v37) (cond ((v33||v36)&&(v33||(!v27||(v33||v34)))) (cond (v31||v32) (cond (cond v31 true (cond v27 (decide (aT x0.2.2.1 (aS
  x.1) 0<=aT x0.2.2.1 (aS (aQ .i64 (x.1 - 1))) 0)) false)) (some false) (again (aQ .i64 (x.1
  + 1),aC))) none) none) none) none) none) none) none) none) none) none) none) none) none) (ah
  (cA x0.2.2.2.1 fun x=>jg x.1 x0) fun t=>some !t)) (0,aC))) none) none) none) none) none) none) none) none) none) none) none) none) none) none) none) none) none) none) none) none) none) none) none) none
abbrev Y3:=ty2->Option (Bool)
def kO:Y3:=yP lpK jnK aF cA jg
def ab7:Ctr:=⟨[se],[],[],.one .bool,fun x _ _=>kO x.1⟩
theorem ag9 (lp:Lp) (jn:Jn) (aF:t40) (cA:Uo) (jg:Ze):∀x F y,yP lp jn aF cA jg x.1=rC lp jn [(244,⟨[T98],[],[se],.one .bool,fun x _ y=>jg x.1 y.1⟩),(167,abQ cA),(40,k40 aF)] 208 f208 ab7 x F y:=fun x F y=>by kernel_rfl
theorem abm:ab7.ok prog 208:=od (aa (aa (aa (aV) rfl P0) rfl abT) rfl abg) func208 (ag9 lpK jnK aF cA jg)
def vt (lp:Lp) (_:Jn) (x0:List Int):Option (List Int) :=
 lp (List Int×PUnit) (List Int) (fun again x =>
 let v5:=aQ .i64 ((↑(aq x.1):Int) - 1);
 let v6:=decide ((↑(aq x.1):Int)>0);
 let v7:=!v6;
 let v8:Bool:=v7||v6;cond v8 (cond v8 (cond (v8&&(v8&&(v7||inB v5 (aq x.1)))) (cond v8 (cond v8 (cond v8 (cond (cond v6 (decide (aT x.1
  (aS v5) 0=0)) false) (cond (slB 0 v5 (aq x.1)) (again (List.drop 0 (n_ (aS v5) x.1),aC)) none) (some x.1)) none) none) none) none) none) none) (x0,aC)
abbrev ye:=(List Int)->Option (List Int)
def aJ:ye:=vt lpK jnK
def IY (aJ:ye):Ctr:=⟨[(.sl (.int .u32))],[],[],.one (.sl (.int .u32)),fun x _ _=>aJ x.1⟩
def ac1:Ctr:=IY aJ
theorem aff (lp:Lp) (jn:Jn):∀x F y,vt lp jn x.1=rC lp jn [] 260 f260 ac1 x F y:=fun x F y=>by kernel_rfl
theorem DU:ac1.ok prog 260:=od (aV) func260 (aff lpK jnK)
def uF (_:Lp) (_:Jn) (aJ:ye) (x0:Int):Option (Bool×List Int) :=
 
 let v3:=aQ .u64 x0;
 let v4:=decide (x0<0);
 let v5:=aQ .u64 (0 - v3);
 let v6:Int:=2 ^ 32;
 let v7:=decide ((0:Int)<=32);cond v4 (cond v7 (ah (aJ [aQ IntKind.u32 v5,aQ IntKind.u32 (Int.fdiv v5 v6)]) fun t=>some (v4,t)) none) (cond v7 (ah (aJ [aQ IntKind.u32 v3,aQ IntKind.u32 (Int.fdiv v3 v6)]) fun t=>some (v4,t)) none)
abbrev NI:=(Int)->Option (Bool×List Int)
def cV:NI:=uF lpK jnK aJ
def XK (cV:NI):Ctr:=⟨[i64],[],[],.one rR,fun x _ _=>cV x.1⟩
def abh:Ctr:=XK cV
theorem agc (lp:Lp) (jn:Jn) (aJ:ye):∀x F y,uF lp jn aJ x.1=rC lp jn [(260,IY aJ)] 249 f249 abh x F y:=fun x F y=>by kernel_rfl
theorem Ws:abh.ok prog 249:=od (aa (aV) rfl DU) func249 (agc lpK jnK aJ)
def yG (_:Lp) (_:Jn) (cV:NI) (x0:Int):Option ((Bool×List Int)×Bool×List Int) :=
 ah (cV x0) fun t=>ah (cV 1) fun t_1=>some (t,t_1)
abbrev AJ:=(Int)->Option ((Bool×List Int)×Bool×List Int)
def bg:AJ:=yG lpK jnK cV
def MX (bg:AJ):Ctr:=⟨[i64],[],[],.one iL,fun x _ _=>bg x.1⟩
def ZN:Ctr:=MX bg
theorem age (lp:Lp) (jn:Jn) (cV:NI):∀x F y,yG lp jn cV x.1=rC lp jn [(249,XK cV)] 211 f211 ZN x F y:=fun x F y=>by kernel_rfl
theorem Gu:ZN.ok prog 211:=od (aa (aV) rfl Ws) func211 (age lpK jnK cV)
def qC (_:Lp) (_:Jn) (x0:Bool×List Int):Option Int :=
 cond (decide ((↑(aq x0.2):Int)=0)) (some 0) (cond x0.1 (some (-1)) (some 1))
abbrev Mu:=(Bool×List Int)->Option (Int)
def cb:Mu:=qC lpK jnK
def Y4 (cb:Mu):Ctr:=⟨[rR],[],[],.one i64,fun x _ _=>cb x.1⟩
def adR:Ctr:=Y4 cb
theorem agj (lp:Lp) (jn:Jn):∀x F y,qC lp jn x.1=rC lp jn [] 246 f246 adR x F y:=fun x F y=>by kernel_rfl
theorem WA:adR.ok prog 246:=od (aV) func246 (agj lpK jnK)
def mu (_:Lp) (_:Jn) (x0:Bool×List Int):Option (Bool×List Int) :=
 some (!x0.1,x0.2)
abbrev NJ:=(Bool×List Int)->Option (Bool×List Int)
def br:NJ:=mu lpK jnK
def Yo (br:NJ):Ctr:=⟨[rR],[],[],.one rR,fun x _ _=>br x.1⟩
def ZP:Ctr:=Yo br
theorem ahi (lp:Lp) (jn:Jn):∀x F y,mu lp jn x.1=rC lp jn [] 254 f254 ZP x F y:=fun x F y=>by kernel_rfl
theorem WM:ZP.ok prog 254:=od (aV) func254 (ahi lpK jnK)
def xZ (lp:Lp) (jn:Jn) (aJ:ye) (x0:List Int) (x1:List Int):Option (List Int) :=
 jn (List Int×List Int×PUnit) (List Int) (fun x=>cond (decide (0<=aQ .i64 ((↑(aq x.1):Int)+1))&&dS
  (aS (aQ .i64 ((↑(aq x.1):Int)+1))) 4) (lp (Int×Int×List Int×PUnit) (List Int) (fun again x_1=>cond (decide (x_1.2.1<(↑(aS (aQ .i64 ((↑(aq x.1):Int)+1))):Int))) (
  jn (Int×PUnit) (List Int) (fun x_2=>jn (Int×PUnit) (List Int) (fun x=>cond (inB x_1.2.1 (aq x_1.2.2.1)) (cond (cl
  (bT (aS x_1.2.1)) (aq x_1.2.2.1)) (cond (decide ((0:Int)<=32)) (again (Int.fdiv x.1 (2 ^ 32),aQ .i64
  (x_1.2.1+1),iF x_1.2.2.1 (aS x_1.2.1) (aQ IntKind.u32 x.1),aC)) none) none) none) fun j=>cond (decide (x_1.2.1<(↑(aq x.2.1):Int))) (cond (inB x_1.2.1 (aq x.2.1)) (j (aQ .u64 (x_2.1+aQ
  IntKind.u64 (aT x.2.1 (aS x_1.2.1) 0)),aC)) none) (j (x_2.1,aC))) fun j=>cond (decide
  (x_1.2.1<(↑(aq x.1):Int))) (cond (inB x_1.2.1 (aq x.1)) (j (aQ .u64 (x_1.1+aQ .u64 (aT x.1
  (aS x_1.2.1) 0)),aC)) none) (j (x_1.1,aC))) (ah (aJ x_1.2.2.1) fun t=>some t)) (0,0,
  bx (aS (aQ .i64 ((↑(aq x.1):Int)+1))) 0,aC)) none) fun j=>cond (decide ((↑(aq x0):Int)<(↑(aq x1):Int))) (j (x1,x0,aC)) (j (x0,x1,aC))
abbrev H5:=(List Int)->(List Int)->Option (List Int)
def di:H5:=xZ lpK jnK aJ
def VJ (di:H5):Ctr:=⟨[(.sl (.int .u32)),(.sl (.int .u32))],[],[],.one (.sl (.int .u32)),fun x _ _=>di x.1 x.2.1⟩
def acr:Ctr:=VJ di
theorem agD (lp:Lp) (jn:Jn) (aJ:ye):∀x F y,xZ lp jn aJ x.1 x.2.1=rC lp jn [(260,IY aJ)] 263 f263 acr x F y:=fun x F y=>by kernel_rfl
theorem QC:acr.ok prog 263:=od (aa (aV) rfl DU) func263 (agD lpK jnK aJ)
def ut (lp:Lp) (_:Jn) (x0:List Int) (x1:List Int):Option Int :=
 cond (!decide ((↑(aq x0):Int)=(↑(aq x1):Int))) (some (aQ .i64 ((↑(aq x0):Int) - (↑(aq x1):Int)))) (lp (Int×PUnit) Int
  (fun again x =>
 let v6:=inB x.1 (aq x0);
 let v7:=inB x.1 (aq x1);cond (decide (x.1>=0)) (cond v6 (cond v7 (cond (!decide (aT x0 (aS x.1) 0=aT x1 (aS
  x.1) 0)) (cond v6 (cond v7 (cond (decide (aT x0 (aS x.1) 0<aT x1 (aS x.1) 0)) (some (-1)) (some 1)) none) none) (again (aQ .i64 (x.1 - 1),aC))) none) none) (some 0)) (aQ .i64 ((↑(aq x0):Int) -
  1),aC))
abbrev Iz:=(List Int)->(List Int)->Option (Int)
def bK:Iz:=ut lpK jnK
def Us (bK:Iz):Ctr:=⟨[(.sl (.int .u32)),(.sl (.int .u32))],[],[],.one i64,fun x _ _=>bK x.1 x.2.1⟩
def acf:Ctr:=Us bK
theorem ae4 (lp:Lp) (jn:Jn):∀x F y,ut lp jn x.1 x.2.1=rC lp jn [] 264 f264 acf x F y:=fun x F y=>by kernel_rfl
theorem RB:acf.ok prog 264:=od (aV) func264 (ae4 lpK jnK)
def yi (lp:Lp) (jn:Jn) (aJ:ye) (x0:List Int) (x1:List Int):Option (List Int) :=
 cond (decide (0<=(↑(aq x0):Int))&&dS (aS (↑(aq x0):Int)) 4) (lp (Int×Int×List Int×PUnit) (List Int) (fun again x =>
 let v6:=aQ .i64 (x.2.1+1);
 let v7:=inB x.2.1 (aq x.2.2.1);
 let v8:=cl (bT (aS x.2.1)) (aq x.2.2.1);
 let v9:=aQ .i64 (aQ .i64 (aT x0 (aS x.2.1) 0) - x.1);cond (decide (x.2.1<(↑(aq x0):Int))) (cond (inB
  x.2.1 (aq x0)) (jn (Int×PUnit) (List Int) (fun x_1=>cond (decide (x_1.1<0)) (cond v7 (cond v8 (again (1,v6,iF
  x.2.2.1 (aS x.2.1) (aQ IntKind.u32 (aQ .i64 (x_1.1+4294967296))),aC)) none) none) (cond v7 (cond v8 (
  again (0,v6,iF x.2.2.1 (aS x.2.1) (aQ IntKind.u32 x_1.1),aC)) none) none)) fun j=>cond (
  decide (x.2.1<(↑(aq x1):Int))) (cond (inB x.2.1 (aq x1)) (j (aQ .i64 (v9 - aQ .i64 (aT x1 (aS
  x.2.1) 0)),aC)) none) (j (v9,aC))) none) (ah (aJ x.2.2.1) fun t=>some t)) (0,0,
  bx (aS (↑(aq x0):Int)) 0,aC)) none
abbrev Gz:=(List Int)->(List Int)->Option (List Int)
def cS:Gz:=yi lpK jnK aJ
def VG (cS:Gz):Ctr:=⟨[(.sl (.int .u32)),(.sl (.int .u32))],[],[],.one (.sl (.int .u32)),fun x _ _=>cS x.1 x.2.1⟩
def adQ:Ctr:=VG cS
theorem aeU (lp:Lp) (jn:Jn) (aJ:ye):∀x F y,yi lp jn aJ x.1 x.2.1=rC lp jn [(260,IY aJ)] 265 f265 adQ x F y:=fun x F y=>by kernel_rfl
theorem RY:adQ.ok prog 265:=od (aa (aV) rfl DU) func265 (aeU lpK jnK aJ)
def xh (lp:Lp) (_:Jn) (aJ:ye) (x0:List Int):Option (List Int) :=
 cond (decide (0<=(↑(aq x0):Int))&&dS (aS (↑(aq x0):Int)) 4) (lp (Int×List Int×PUnit) (List Int) (fun again x =>
 let v5:=inB x.1 (aq x.2.1);
 let v6:=aQ .i64 (x.1+1);
 let v7:=cl (bT (aS x.1)) (aq x.2.1);
 let v8:List Int:=iF x.2.1 (aS x.1) (Int.fdiv (aT x0 (aS x.1) 0) (2 ^ 1));cond (decide (x.1<(↑(aq x0):Int))) (cond (inB x.1 (aq x0)) (cond (decide ((0:Int)<=1)) (cond v5 (cond v7 (cond (decide (v6<(↑(aq x0):Int))) (cond v5 (cond v7 (cond (inB
  v6 (aq x0)) (cond (decide ((0:Int)<=31)) (cond v5 (cond v7 (again (v6,iF v8 (aS x.1) (aQ IntKind.u32 (↑(Nat.lor (aS
  (aT v8 (aS x.1) 0 % mK 4294967296)) (aS (aQ IntKind.u32 (aT x0 (aS v6) 0*2 ^ 31) %
  mK 4294967296))):Int)),aC)) none) none) none) none) none) none) (again (v6,v8,aC))) none) none) none) none) (ah (aJ x.2.1) fun t=>some t)) (0,bx (aS (↑(aq x0):Int)) 0,aC)) none
abbrev Vw:=(List Int)->Option (List Int)
def fW:Vw:=xh lpK jnK aJ
def abl (fW:Vw):Ctr:=⟨[(.sl (.int .u32))],[],[],.one (.sl (.int .u32)),fun x _ _=>fW x.1⟩
def adp:Ctr:=abl fW
theorem afO (lp:Lp) (jn:Jn) (aJ:ye):∀x F y,xh lp jn aJ x.1=rC lp jn [(260,IY aJ)] 269 f269 adp x F y:=fun x F y=>by kernel_rfl
theorem Z8:adp.ok prog 269:=od (aa (aV) rfl DU) func269 (afO lpK jnK aJ)
def wW (lp:Lp) (_:Jn) (di:H5) (bK:Iz) (cS:Gz) (fW:Vw) (x0:List Int) (x1:List Int):Option (List Int) :=
 lp (List Int×List Int×Int×PUnit) (List Int) (fun again x =>
 let v6:=decide (aQ IntKind.u32 (↑(Nat.land (aS (aT x.1 0 0 % mK 4294967296)) (aS (1 % mK
  4294967296))):Int)=0);
 let v7:=!v6;
 let v8:Bool:=v7||v6;cond (inB 0 (aq x.1)) (cond (v8&&(v7||inB 0 (aq x.2.1))) (cond v8 (cond v8 (cond v8 (cond v8 (cond (cond v6 (decide (aQ IntKind.u32 (↑(Nat.land (aS (aT x.2.1 0 0 % mK 4294967296)) (aS (1 % mK (4294967296 :
  Nat)))):Int)=0)) false) (ah (fW x.1) fun t=>ah (fW x.2.1) fun t_1=>again (t,t_1,aQ .i64
  (x.2.2.1+1),aC)) (lp (List Int×List Int×PUnit) (List Int) (fun again x_1=>cond (decide ((↑(aq x_1.1):Int)>0)) (lp (List Int×PUnit) (List Int) (fun again_1 x =>
  cond (inB 0 (aq x.1)) (cond (decide (aQ IntKind.u32 (↑(Nat.land (aS (aT x.1 0 0 % mK 4294967296)) (aS
  (1 % mK 4294967296))):Int)=0)) (ah (fW x.1) fun t=>again_1 (t,aC)) (lp (List Int×PUnit) (List Int) (fun
  again_2 x_2=>cond (inB 0 (aq x_2.1)) (cond (decide (aQ IntKind.u32 (↑(Nat.land (aS
  (aT x_2.1 0 0 % mK 4294967296)) (aS (1 % mK 4294967296))):Int)=0)) (ah (fW x_2.1) fun
  t=>again_2 (t,aC)) (ah (bK x.1 x_2.1) fun t=>cond (decide (t<0)) (ah (cS x_2.1 x.1) fun t=>again (t,x.1,aC)) (ah (cS x.1 x_2.1) fun t=>again (t,x_2.1,aC)))) none) (x_1.2.1,aC))) none) (x_1.1,
  aC)) (lp (List Int×Int×PUnit) (List Int) (fun again x_2=>cond (decide (x_2.2.1 <
  x.2.2.1)) (ah (di x_2.1 x_2.1) fun t=>again (t,aQ .i64 (x_2.2.1+1),aC)) (some x_2.1)) (x_1.2.1,
  0,aC))) (x.1,x.2.1,aC))) none) none) none) none) none) none) (x0,x1,0,aC)
abbrev VE:=(List Int)->(List Int)->Option (List Int)
def iA:VE:=wW lpK jnK di bK cS fW
def ad4 (iA:VE):Ctr:=⟨[(.sl (.int .u32)),(.sl (.int .u32))],[],[],.one (.sl (.int .u32)),fun x _ _=>iA x.1 x.2.1⟩
def ZF:Ctr:=ad4 iA
theorem afk (lp:Lp) (jn:Jn) (di:H5) (bK:Iz) (cS:Gz) (fW:Vw):∀x F y,wW lp jn di bK cS fW x.1 x.2.1=rC lp jn [(269,abl fW),(265,VG cS),(264,Us bK),(263,VJ di)] 261 f261 ZF x F y:=fun x F y=>by kernel_rfl
theorem aam:ZF.ok prog 261:=od (aa (aa (aa (aa (aV) rfl QC) rfl RB) rfl RY) rfl Z8) func261 (afk lpK jnK di bK cS fW)
def uE (lp:Lp) (jn:Jn) (aJ:ye) (di:H5) (bK:Iz) (cS:Gz) (x0:List Int) (x1:List Int):Option (List Int) :=
 cond (decide (0<=(↑(aq x0):Int))&&dS (aS (↑(aq x0):Int)) 4) (lp (List Int×Int×List Int×PUnit) (List Int) (fun again x =>
 let v6:=aQ .i64 (Int.tdiv x.2.1 32);
 let v7:=aQ .i64 (x.2.1 - 1);
 let v8:=inB v6 (aq x.2.2.1);
 let v9:=cl (bT (aS v6)) (aq x.2.2.1);
 let v10:=decide (0<=Int.tmod x.2.1 32);cond (decide (x.2.1>=0)) (ah (di x.1 x.1) fun t=>cond (inB v6 (aq
  x0)) (cond v10 (jn (List Int×PUnit) (List Int) (fun x_1=>ah (bK x_1.1 x1) fun t=>cond (decide (t>=0)) (ah
  (cS x_1.1 x1) fun t=>cond v8 (cond v9 (cond v10 (cond v8 (cond v9 (again (t,v7,iF x.2.2.1 (aS v6) (aQ IntKind.u32
  (↑(Nat.lor (aS (aT x.2.2.1 (aS v6) 0 % mK 4294967296)) (aS (aQ IntKind.u32 (1*2 ^ min (aS
  (Int.tmod x.2.1 32)) 32) % mK 4294967296))):Int)),aC)) none) none) none) none) none) (again (x_1.1,v7,
  x.2.2.1,aC))) fun j=>cond (decide (aQ IntKind.u32 (↑(Nat.land (aS (Int.fdiv (aT x0 (aS v6) (0 :
  Int)) (2 ^ min (aS (Int.tmod x.2.1 32)) 32) % mK 4294967296)) (aS (1 % mK 4294967296))):Int)=(1 :
  Int))) (ah (di t [1]) fun t=>j (t,aC)) (j (t,aC))) none) none) (ah (aJ x.2.2.1) fun t=>some t)) ([],aQ .i64 (aQ .i64 (32*(↑(aq x0):Int)) - 1),bx (aS (↑(aq x0):Int)) 0,
  aC)) none
abbrev Vx:=(List Int)->(List Int)->Option (List Int)
def gn:Vx:=uE lpK jnK aJ di bK cS
def Z7 (gn:Vx):Ctr:=⟨[(.sl (.int .u32)),(.sl (.int .u32))],[],[],.one (.sl (.int .u32)),fun x _ _=>gn x.1 x.2.1⟩
def aaz:Ctr:=Z7 gn
theorem afP (lp:Lp) (jn:Jn) (aJ:ye) (di:H5) (bK:Iz) (cS:Gz):∀x F y,uE lp jn aJ di bK cS x.1 x.2.1=rC lp jn [(265,VG cS),(264,Us bK),(263,VJ di),(260,IY aJ)] 262 f262 aaz x F y:=fun x F y=>by kernel_rfl
theorem acF:aaz.ok prog 262:=od (aa (aa (aa (aa (aV) rfl DU) rfl QC) rfl RB) rfl RY) func262 (afP lpK jnK aJ di bK cS)
def wM (_:Lp) (jn:Jn) (bg:AJ) (cb:Mu) (br:NJ) (iA:VE) (gn:Vx) (x0:Bool×List Int) (x1:Bool×List Int):Option ((Bool×List Int)×Bool×List Int) :=
 ah (cb x0) fun t=>cond (decide (t=0)) (ah (bg 0) fun t=>some t) (jn ((Bool×List Int)
  × (Bool×List Int)×PUnit) ((Bool×List Int)×Bool×List Int) (fun x=>ah (iA x.1.2 x.2.1.2) fun t=>ah (gn x.1.2 t) fun t_1=>ah (gn x.2.1.2 t) fun t=>some ((x.1.1,t_1),false,t)) fun j=>cond x1.1 (ah (br x0) fun t=>ah (br
  x1) fun t_1=>j (t,t_1,aC)) (j (x0,x1,aC)))
abbrev C8:=(Bool×List Int)->(Bool×List Int)->Option ((Bool×List Int)×Bool×List Int)
def bG:C8:=wM lpK jnK bg cb br iA gn
def OB (bG:C8):Ctr:=⟨[rR,rR],[],[],.one iL,fun x _ _=>bG x.1 x.2.1⟩
def ab0:Ctr:=OB bG
theorem ag0 (lp:Lp) (jn:Jn) (bg:AJ) (cb:Mu) (br:NJ) (iA:VE) (gn:Vx):∀x F y,wM lp jn bg cb br iA gn x.1 x.2.1=rC lp jn [(262,Z7 gn),(261,ad4 iA),(254,Yo br),(246,Y4 cb),(211,MX bg)] 250 f250 ab0 x F y:=fun x F y=>by kernel_rfl
theorem Ku:ab0.ok prog 250:=od (aa (aa (aa (aa (aa (aV) rfl Gu) rfl WA) rfl WM) rfl aam) rfl acF) func250 (ag0 lpK jnK bg cb br iA gn)
def oP (lp:Lp) (_:Jn) (aJ:ye) (x0:Bool×List Int) (x1:Bool×List Int):Option (Bool×List Int) :=
 cond (decide (0<=aQ .i64 ((↑(aq x0.2):Int)+(↑(aq x1.2):Int)))&&dS (aS (aQ .i64 ((↑(aq x0.2):Int)
  + (↑(aq x1.2):Int)))) 4) (lp (Int×List Int×PUnit) (Bool×List Int) (fun again x =>
 let v6:=aQ .i64 (x.1+(↑(aq x1.2):Int));cond (decide (x.1<(↑(aq x0.2):Int))) (cond (inB x.1 (aq x0.2)) (lp (Int ×
  Int×List Int×PUnit) (Bool×List Int) (fun again_1 x_1 =>
 let v9:=aQ .i64 (x.1+x_1.2.1);
 let v10:=inB v9 (aq x_1.2.2.1);
 let v11:=cl (bT (aS v9)) (aq x_1.2.2.1);
 let v12:=aQ .u64 (x_1.1+aQ .u64 (aQ .u64 (aQ .u64 (aT x0.2 (aS x.1) 0) *
  aQ .u64 (aT x1.2 (aS x_1.2.1) 0))+aQ .u64 (aT x_1.2.2.1 (aS v9) 0)));cond (decide (x_1.2.1
  < (↑(aq x1.2):Int))) (cond (inB x_1.2.1 (aq x1.2)) (cond v10 (cond v11 (cond v10 (cond v11 (cond (decide ((0:Int)<=32)) (again_1
  (Int.fdiv v12 (2 ^ 32),aQ .i64 (x_1.2.1+1),iF x_1.2.2.1 (aS v9) (aQ IntKind.u32 v12),aC)) none) none) none) none) none) none) (cond (inB v6 (aq x_1.2.2.1)) (cond (cl (bT (aS v6)) (aq x_1.2.2.1)) (again
  (aQ .i64 (x.1+1),iF x_1.2.2.1 (aS v6) (aQ IntKind.u32 x_1.1),aC)) none) none)) (0,0,
  x.2.1,aC)) none) (ah (aJ x.2.1) fun t=>some (!decide (x0.1=x1.1),t))) (0,bx (aS (aQ
  IntKind.i64 ((↑(aq x0.2):Int)+(↑(aq x1.2):Int)))) 0,aC)) none
abbrev C6:=(Bool×List Int)->(Bool×List Int)->Option (Bool×List Int)
def aA:C6:=oP lpK jnK aJ
def QU (aA:C6):Ctr:=⟨[rR,rR],[],[],.one rR,fun x _ _=>aA x.1 x.2.1⟩
def adE:Ctr:=QU aA
theorem ahp (lp:Lp) (jn:Jn) (aJ:ye):∀x F y,oP lp jn aJ x.1 x.2.1=rC lp jn [(260,IY aJ)] 251 f251 adE x F y:=fun x F y=>by kernel_rfl
theorem LB:adE.ok prog 251:=od (aa (aV) rfl DU) func251 (ahp lpK jnK aJ)
def qz (_:Lp) (_:Jn) (di:H5) (bK:Iz) (cS:Gz) (x0:Bool×List Int) (x1:Bool×List Int):Option (Bool×List Int) :=
 cond (decide (x0.1=x1.1)) (ah (di x0.2 x1.2) fun t=>some (x0.1,t)) (ah (bK x0.2 x1.2) fun t=>cond (decide (t<(0 :
  Int))) (ah (cS x1.2 x0.2) fun t=>some (x1.1,t)) (ah (cS x0.2 x1.2) fun t=>some (x0.1,t)))
abbrev XZ:=(Bool×List Int)->(Bool×List Int)->Option (Bool×List Int)
def ga:XZ:=qz lpK jnK di bK cS
def Z4:Ctr:=⟨[rR,rR],[],[],.one rR,fun x _ _=>ga x.1 x.2.1⟩
theorem agy (lp:Lp) (jn:Jn) (di:H5) (bK:Iz) (cS:Gz):∀x F y,qz lp jn di bK cS x.1 x.2.1=rC lp jn [(265,VG cS),(264,Us bK),(263,VJ di)] 252 f252 Z4 x F y:=fun x F y=>by kernel_rfl
theorem abe:Z4.ok prog 252:=od (aa (aa (aa (aV) rfl QC) rfl RB) rfl RY) func252 (agy lpK jnK di bK cS)
def qQ (_:Lp) (_:Jn) (bG:C8) (aA:C6) (ga:XZ) (x0:ty3) (x1:ty3):Option ((Bool×List Int)×Bool×List Int) :=
 ah (aA x0.1 x1.2) fun t=>ah (aA x1.1 x0.2) fun t_1=>ah (ga t t_1) fun t=>ah (aA x0.2 x1.2) fun t_2=>ah (bG t t_2) fun t=>some t
abbrev yW:=ty3->ty3->Option ((Bool×List Int)×Bool×List Int)
def ao:yW:=qQ lpK jnK bG aA ga
def JD (ao:yW):Ctr:=⟨[iL,iL],[],[],.one iL,fun x _ _=>ao x.1 x.2.1⟩
def acU:Ctr:=JD ao
theorem ae7 (lp:Lp) (jn:Jn) (bG:C8) (aA:C6) (ga:XZ):∀x F y,qQ lp jn bG aA ga x.1 x.2.1=rC lp jn [(252,⟨[rR,rR],[],[],.one rR,fun x _ _=>ga x.1 x.2.1⟩),(251,QU aA),(250,OB bG)] 212 f212 acU x F y:=fun x F y=>by kernel_rfl
theorem Dr:acU.ok prog 212:=od (aa (aa (aa (aV) rfl Ku) rfl LB) rfl abe) func212 (ae7 lpK jnK bG aA ga)
def rx (_:Lp) (_:Jn) (br:NJ) (ao:yW) (x0:ty3) (x1:ty3):Option ((Bool×List Int)×Bool×List Int) :=
 ah (br x1.1) fun t=>ah (ao x0 (t,x1.2)) fun t=>some t
abbrev It:=ty3->ty3->Option ((Bool×List Int)×Bool×List Int)
def aR:It:=rx lpK jnK br ao
def Vu (aR:It):Ctr:=⟨[iL,iL],[],[],.one iL,fun x _ _=>aR x.1 x.2.1⟩
def aaP:Ctr:=Vu aR
theorem afZ (lp:Lp) (jn:Jn) (br:NJ) (ao:yW):∀x F y,rx lp jn br ao x.1 x.2.1=rC lp jn [(212,JD ao),(254,Yo br)] 214 f214 aaP x F y:=fun x F y=>by kernel_rfl
theorem SO:aaP.ok prog 214:=od (aa (aa (aV) rfl WM) rfl Dr) func214 (afZ lpK jnK br ao)
def uk (_:Lp) (_:Jn) (bG:C8) (aA:C6) (x0:ty3) (x1:ty3):Option ((Bool×List Int)×Bool×List Int) :=
 ah (aA x0.1 x1.2) fun t=>ah (aA x0.2 x1.1) fun t_1=>ah (bG t t_1) fun t=>some t
abbrev NP:=ty3->ty3->Option ((Bool×List Int)×Bool×List Int)
def cN:NP:=uk lpK jnK bG aA
def Xv (cN:NP):Ctr:=⟨[iL,iL],[],[],.one iL,fun x _ _=>cN x.1 x.2.1⟩
def ac6:Ctr:=Xv cN
theorem agX (lp:Lp) (jn:Jn) (bG:C8) (aA:C6):∀x F y,uk lp jn bG aA x.1 x.2.1=rC lp jn [(251,QU aA),(250,OB bG)] 215 f215 ac6 x F y:=fun x F y=>by kernel_rfl
theorem Wl:ac6.ok prog 215:=od (aa (aa (aV) rfl Ku) rfl LB) func215 (agX lpK jnK bG aA)
def xa (lp:Lp) (_:Jn) (x0:ty2):Option (ByteArray×Int×(List Int)×(List (Int×Int))×Int) :=
 
 let v3:List (Int×Int×Unit):=CM x0.2.2.1 (aq x0.2.2.1);cond (cl (aq x0.2.2.1) 4398046511104) (lp (Nat×ByteArray×Int×List
  Int×List (Int×Int)×Int×PUnit) (ByteArray×Int×List Int×List (Int×Int)×Int) (fun again p =>
 let v6:List (Int×Int)×Int×PUnit:=(p.2.2.2.2.1,p.2.2.2.2.2.1,aC);cond (cl (bT p.1) (aq v3)) (cond (dS (aq
  p.2.2.2.1+1) 8) (again (bT p.1,p.2.1,p.2.2.1,p.2.2.2.1++[aQ .i64 (x0.2.1 - (aT v3 p.1 ((0 :
  Int),0,aC)).2.1)],v6)) none) (lp (Int×ByteArray×Int×List Int×List (Int×Int)×Int×PUnit) (ByteArray×Int×List Int×List (Int×Int)×Int)
  (fun again x =>
 let v9:=aT x0.2.2.2.1 (aS x.1) (0,0);cond (decide (x.1<(↑(aq x0.2.2.2.1):Int))) (cond (inB x.1 (aq
  x0.2.2.2.1)) (cond (dS (aq x.2.2.2.2.1+1) 16) (again (aQ .i64 (x.1+1),x.2.1,x.2.2.1,
  x.2.2.2.1,x.2.2.2.2.1++[(aQ .i64 (x0.2.1 - v9.1),v9.2)],x.2.2.2.2.2.1,aC)) none) none) (some (x.2.1,
  x.2.2.1,x.2.2.2.1,x.2.2.2.2.1,x.2.2.2.2.2.1))) (0,p.2.1,p.2.2.1,p.2.2.2.1,v6))) (0,x0.1,x0.2.1,[],
  [],x0.2.2.2.2,aC)) none
abbrev Mm:=ty2->Option (ByteArray×Int×(List Int)×(List (Int×Int))×Int)
def eB:Mm:=xa lpK jnK
def XF (eB:Mm):Ctr:=⟨[se],[],[],.one se,fun x _ _=>eB x.1⟩
def abx:Ctr:=XF eB
theorem agF (lp:Lp) (jn:Jn):∀x F y,xa lp jn x.1=rC lp jn [] 217 f217 abx x F y:=fun x F y=>by kernel_rfl
theorem WS:abx.ok prog 217:=od (aV) func217 (agF lpK jnK)
def uQ (lp:Lp) (_:Jn) (cV:NI) (bG:C8) (aA:C6) (x0:Int) (x1:List Int):Option ((Bool×List Int)×Bool×List Int) :=
 ah (cV 1) fun t=>lp (Int×(Bool×List Int)×PUnit) ((Bool×List Int)×Bool×List Int) (fun again x=>cond (decide (x.1<(↑(aq x1):Int))) (cond (inB x.1 (aq x1)) (ah
  (cV (aT x1 (aS x.1) 0)) fun t=>ah (aA x.2.1 t) fun t=>again (aQ .i64
  (x.1+1),t,aC)) none) (ah (cV x0) fun t=>ah (bG x.2.1 t) fun t =>
  some t)) (0,t,aC)
abbrev C9:=(Int)->(List Int)->Option ((Bool×List Int)×Bool×List Int)
def bq:C9:=uQ lpK jnK cV bG aA
def Pz (bq:C9):Ctr:=⟨[i64,(.sl i64)],[],[],.one iL,fun x _ _=>bq x.1 x.2.1⟩
def adh:Ctr:=Pz bq
theorem agl (lp:Lp) (jn:Jn) (cV:NI) (bG:C8) (aA:C6):∀x F y,uQ lp jn cV bG aA x.1 x.2.1=rC lp jn [(251,QU aA),(250,OB bG),(249,XK cV)] 253 f253 adh x F y:=fun x F y=>by kernel_rfl
theorem KN:adh.ok prog 253:=od (aa (aa (aa (aV) rfl Ws) rfl Ku) rfl LB) func253 (agl lpK jnK cV bG aA)
def uy (lp:Lp) (_:Jn) (bg:AJ) (ao:yW) (aR:It) (bq:C9) (x0:ty2):Option ((Bool×List Int)×Bool×List Int) :=
 
 let v3:=aT x0.2.2.1 0 0;cond (inB 0 (aq x0.2.2.1)) (ah (bq 2000 [x0.2.2.2.2,v3,v3]) fun t=>lp (Int×((Bool×List Int)×Bool×List Int)×PUnit) ((Bool×List Int)×Bool×List Int) (fun again x =>
 let v7:=aQ .i64 (x.1+1);
 let v8:=aT x0.2.2.2.1 (aS x.1) (0,0);cond (decide (x.1<(↑(aq x0.2.2.2.1):Int))) (cond (inB x.1 (aq
  x0.2.2.2.1)) (cond (decide (v8.1<v3)) (ah (bq 1 [v8.2,aQ .i64 (v3 - v8.1)]) fun t =>
  ah (ao x.2.1 t) fun t=>again (v7,t,aC)) (again (v7,x.2.1,aC))) none) (ah (bg (0
  : Int)) fun t=>ah (aR t x.2.1) fun t=>some t)) (0,t,aC)) none
abbrev Xj:=ty2->Option ((Bool×List Int)×Bool×List Int)
def gT:Xj:=uy lpK jnK bg ao aR bq
def abp:Ctr:=⟨[se],[],[],.one iL,fun x _ _=>gT x.1⟩
theorem ag3 (lp:Lp) (jn:Jn) (bg:AJ) (ao:yW) (aR:It) (bq:C9):∀x F y,uy lp jn bg ao aR bq x.1=rC lp jn [(253,Pz bq),(214,Vu aR),(212,JD ao),(211,MX bg)] 245 f245 abp x F y:=fun x F y=>by kernel_rfl
theorem acH:abp.ok prog 245:=od (aa (aa (aa (aa (aV) rfl Gu) rfl Dr) rfl SO) rfl KN) func245 (ag3 lpK jnK bg ao aR bq)
def zZ (lp:Lp) (jn:Jn) (ao:yW) (bq:C9) (x0:ty2) (x1:Int) (x2:Int) (x3:Bool):Option ((Bool×List Int)×Bool×List Int) :=
 
 let v6:=aQ .i64 (x2 - x1);ah (bq 4000 [x0.2.2.2.2,v6,v6,v6]) fun t=>lp (Int×((Bool ×
  List Int)×Bool×List Int)×PUnit) ((Bool×List Int)×Bool×List Int) (fun again x =>
 let v10:=aQ .i64 (x.1+1);
 let v11:=aT x0.2.2.2.1 (aS x.1) (0,0);
 let v12:=decide (v11.1<=x1);
 let v13:=!v12;
 let v14:=!v13||v13;cond (decide (x.1<(↑(aq x0.2.2.2.1):Int))) (cond (inB x.1 (aq x0.2.2.2.1)) (cond v14 (cond (v14&&v14) (cond (
  v12||v13) (cond (cond v12 true (decide (v11.1>=x2))) (again (v10,x.2.1,aC)) (jn (Int×PUnit) ((Bool×List Int)×Bool×List Int) (fun x_1=>ah (bq v6 [v11.2,x_1.1,aQ .i64 (aQ .i64 (v6*v6) - aQ .i64 (x_1.1*x_1.1))]) fun t=>ah (ao x.2.1 t) fun t=>again (v10,t,aC)) fun j=>cond (!x3) (j (aQ .i64 (x2 - v11.1),aC)) (j (aQ .i64 (v11.1 - x1),aC)))) none) none) none) none) (some x.2.1)) (0,t,aC)
abbrev V3:=ty2->(Int)->(Int)->(Bool)->Option ((Bool×List Int)×Bool×List Int)
def jN:V3:=zZ lpK jnK ao bq
def aaw (jN:V3):Ctr:=⟨[se,i64,i64,.bool],[],[],.one iL,fun x _ _=>jN x.1 x.2.1 x.2.2.1 x.2.2.2.1⟩
def acz:Ctr:=aaw jN
theorem ahr (lp:Lp) (jn:Jn) (ao:yW) (bq:C9):∀x F y,zZ lp jn ao bq x.1 x.2.1 x.2.2.1 x.2.2.2.1=rC lp jn [(253,Pz bq),(212,JD ao)] 247 f247 acz x F y:=fun x F y=>by kernel_rfl
theorem aac:acz.ok prog 247:=od (aa (aa (aV) rfl Dr) rfl KN) func247 (ahr lpK jnK ao bq)
def qH (_:Lp) (_:Jn) (bG:C8) (aA:C6) (x0:ty3) (x1:ty3):Option ((Bool×List Int)×Bool×List Int) :=
 ah (aA x0.1 x1.1) fun t=>ah (aA x0.2 x1.2) fun t_1=>ah (bG t t_1) fun t=>some t
abbrev Zm:=ty3->ty3->Option ((Bool×List Int)×Bool×List Int)
def dY:Zm:=qH lpK jnK bG aA
def aaB:Ctr:=⟨[iL,iL],[],[],.one iL,fun x _ _=>dY x.1 x.2.1⟩
theorem ag8 (lp:Lp) (jn:Jn) (bG:C8) (aA:C6):∀x F y,qH lp jn bG aA x.1 x.2.1=rC lp jn [(251,QU aA),(250,OB bG)] 248 f248 aaB x F y:=fun x F y=>by kernel_rfl
theorem aer:aaB.ok prog 248:=od (aa (aa (aV) rfl Ku) rfl LB) func248 (ag8 lpK jnK bG aA)
def uW (lp:Lp) (_:Jn) (bg:AJ) (cb:Mu) (aR:It) (cN:NP) (eB:Mm) (gT:Xj) (jN:V3) (dY:Zm) (x0:ty2):Option ((List ((Bool×List Int)×Bool×List Int))×Bool×Unit) :=
 
 let v3:=aQ .i64 ((↑(aq x0.2.2.1):Int) - 1);
 let v4:List ((Bool×List Int)×Bool×List Int):=bx (aS (↑(aq x0.2.2.1):Int)) ((false,[]),false,[]);
 let v5:=decide (0<=(↑(aq x0.2.2.1):Int))&&dS (aS (↑(aq x0.2.2.1):Int)) 64;ah (gT x0) fun t=>ah (eB x0) fun t_1=>ah (gT t_1) fun t_2=>cond (decide ((↑(aq x0.2.2.1):Int)=1)) (ah (aR t t_2) fun t_3=>ah (cb
  t_3.1) fun t_4=>some ([t],decide (t_4=0),aC)) (cond v5 (cond (inB 0 (aS (↑(aq x0.2.2.1):Int))) (cond (cl (1 :
  Nat) (aS (↑(aq x0.2.2.1):Int))) (cond (inB v3 (aS (↑(aq x0.2.2.1):Int))) (cond (cl (bT (aS v3)) (aS
  (↑(aq x0.2.2.1):Int))) (cond v5 (cond v5 (lp (Int×List ((Bool×List Int)×Bool×List Int)×List ((Bool×List Int)×Bool×List Int)×PUnit) (List
  ((Bool×List Int)×Bool×List Int)×Bool×PUnit) (fun again x =>
 let v11:=aQ .i64 (x.1 - 1);
 let v12:=aQ .i64 (x.1+1);
 let v13:=inB x.1 (aq x0.2.2.1);
 let v14:=aT x0.2.2.1 (aS x.1) 0;
 let v15:=inB v11 (aq x0.2.2.1);
 let v16:=inB v12 (aq x0.2.2.1);
 let v17:=aT x0.2.2.1 (aS v11) 0;
 let v18:=aT x0.2.2.1 (aS v12) 0;
 let v19:=inB x.1 (aq x.2.1);
 let v20:=cl (bT (aS x.1)) (aq x.2.1);
 let v21:=inB x.1 (aq x.2.2.1);
 let v22:=cl (bT (aS x.1)) (aq x.2.2.1);
 let v23:=aQ .i64 (v14 - v17);cond (decide (x.1<v3)) (cond v13 (cond v15 (cond v16 (cond v13 (ah (bg (aQ .i64 ((2 :
  Int)*aQ .i64 (v23+aQ .i64 (v18 - v14))))) fun t_3 =>
 let v25:List ((Bool×List Int)×Bool×List Int):=iF x.2.1 (aS x.1) t_3;cond v19 (cond v20 (ah (bg 0) fun t_4=>cond v15 (cond v13 (ah (jN x0 v17 v14 true) fun t_5=>ah (aR t_4 t_5) fun t_6=>cond v13 (cond v16 (ah (jN x0 v14 v18 false) fun t_7=>ah (aR t_6 t_7) fun t_8 =>
 let v31:List ((Bool×List Int)×Bool×List Int):=iF x.2.2.1 (aS x.1) t_8;cond v21 (cond v22 (cond (decide (x.1=1)) (cond v21 (cond v22 (ah (bg v23) fun t_9=>ah (dY t t_9) fun t=>ah (aR
  (aT v31 (aS x.1) ((false,[]),false,[])) t) fun t=>cond v21 (cond v22 (again (v12,v25,iF v31 (aS x.1)
  t,aC)) none) none) none) none) (ah (bg v23) fun t=>cond (inB v11 (aq x.2.1)) (cond (cl
  (bT (aS v11)) (aq x.2.1)) (ah (cN t (aT v25 (aS v11) ((false,[]),false,[]))) fun t =>
  cond v19 (cond v20 (ah (bg v23) fun t_9=>ah (dY t t_9) fun t_10 =>
  ah (aR (aT v25 (aS x.1) ((false,[]),false,[])) t_10) fun t_11=>cond v19 (cond v20 (cond v21 (cond v22 (cond (inB v11 (aq x.2.2.1)) (cond (cl (bT (aS v11)) (aq x.2.2.1)) (ah (dY t (aT v31 (aS v11)
  ((false,[]),false,[]))) fun t=>ah (aR (aT v31 (aS x.1) ((false,[]),false,[])) t) fun t=>cond v21 (cond v22 (again (v12,iF v25 (aS x.1) t_11,iF v31 (aS x.1) t,aC)) none) none) none) none) none) none) none) none) none) none) none) none)) none) none) none) none) none) none) none) none) none) none) none) none) (lp (Int×List ((Bool×List Int)×Bool×List Int)×PUnit) (List ((Bool×List Int)×Bool×List Int)×Bool×PUnit) (fun again x_1 =>
 let v26:=aQ .i64 (x_1.1+1);cond (decide (x_1.1>0)) (cond (inB v26 (aq x0.2.2.1)) (cond (inB x_1.1 (aq
  x0.2.2.1)) (cond (inB x_1.1 (aq x.2.2.1)) (cond (cl (bT (aS x_1.1)) (aq x.2.2.1)) (cond (inB v26 (aq x_1.2.1)) (cond (cl (bT (aS v26)) (aq x_1.2.1)) (ah (bg (aQ .i64 (aT x0.2.2.1 (aS v26) 0 - aT
  x0.2.2.1 (aS x_1.1) 0))) fun t=>ah (dY (aT x_1.2.1 (aS v26) ((false,[]),false,[]))
  t) fun t=>ah (aR (aT x.2.2.1 (aS x_1.1) ((false,[]),false,[])) t) fun t=>cond (inB x_1.1 (aq x.2.1)) (cond (cl (bT (aS x_1.1)) (aq x.2.1)) (ah (cN t (aT x.2.1 (aS
  x_1.1) ((false,[]),false,[]))) fun t=>cond (inB x_1.1 (aq x_1.2.1)) (cond (cl (bT (aS x_1.1))
  (aq x_1.2.1)) (again (aQ .i64 (x_1.1 - 1),iF x_1.2.1 (aS x_1.1) t,aC)) none) none) none) none) none) none) none) none) none) none) (some (x_1.2.1,true,aC))) (aQ .i64 ((↑(aq x0.2.2.1):Int) - 2),
  iF (iF v4 0 t) (aS v3) t_2,aC))) (1,v4,v4,aC)) none) none) none) none) none) none) none)
abbrev Zi:=ty2->Option ((List ((Bool×List Int)×Bool×List Int))×Bool×Unit)
def jq:Zi:=uW lpK jnK bg cb aR cN eB gT jN dY
def aa4:Ctr:=⟨[se],[],[],.tup [(.sl iL),.bool],fun x _ _=>jq x.1⟩
theorem ahB (lp:Lp) (jn:Jn) (bg:AJ) (cb:Mu) (aR:It) (cN:NP) (eB:Mm) (gT:Xj) (jN:V3) (dY:Zm):∀x F y,uW lp jn bg cb aR cN eB gT jN dY x.1=rC lp jn [(248,⟨[iL,iL],[],[],.one iL,fun x _ _=>dY x.1 x.2.1⟩),(247,aaw jN),(245,⟨[se],[],[],.one iL,fun x _ _=>gT x.1⟩),(217,XF eB),(215,Xv cN),(214,Vu aR),(246,Y4 cb),(211,MX bg)] 209 f209 aa4 x F y:=fun x F y=>by kernel_rfl
theorem aa5:aa4.ok prog 209:=od (aa (aa (aa (aa (aa (aa (aa (aa (aV) rfl Gu) rfl WA) rfl SO) rfl Wl) rfl WS) rfl acH) rfl aac) rfl aer) func209 (ahB lpK jnK bg cb aR cN eB gT jN dY)
def yM (_:Lp) (_:Jn) (kO:Y3) (jq:Zi) (x0:ty2):Option ((List ((Bool×List Int)×Bool×List Int))×Int×Unit) :=
 
 let v3:List ((Bool×List Int)×Bool×List Int):=[];ah (kO x0) fun t=>cond (!t) (some (v3,1,aC)) (ah (jq x0) fun (t:List
  ((Bool×List Int)×Bool×List Int)×Bool×PUnit)=>cond (!t.2.1) (some (v3,22,aC)) (some (t.1,0,aC)))
abbrev Y0:=ty2->Option ((List ((Bool×List Int)×Bool×List Int))×Int×Unit)
def kL:Y0:=yM lpK jnK kO jq
def aag:Ctr:=⟨[se],[],[],.tup [(.sl iL),i64],fun x _ _=>kL x.1⟩
theorem agA (lp:Lp) (jn:Jn) (kO:Y3) (jq:Zi):∀x F y,yM lp jn kO jq x.1=rC lp jn [(209,⟨[se],[],[],.tup [(.sl iL),.bool],fun x _ _=>jq x.1⟩),(208,⟨[se],[],[],.one .bool,fun x _ _=>kO x.1⟩)] 156 f156 aag x F y:=fun x F y=>by kernel_rfl
theorem aci:aag.ok prog 156:=od (aa (aa (aV) rfl abm) rfl aa5) func156 (agA lpK jnK kO jq)
def mR (lp:Lp) (_:Jn) (x0:ty3):Option ((Int×Int)×Int×Unit) :=
 
 let v3:List (Bool×List Int):=[x0.1,x0.2];lp (Int×(Int×Int)×(Int×Int)×PUnit) ((Int×Int)×Int×PUnit) (fun again x =>
 let v6:=inB x.1 2;
 let v7:=cl (bT (aS x.1)) 2;
 let v8:=aQ .i64 x.2.2.1.1;
 let v9:=aQ .i64 x.2.2.1.2;cond (decide (x.1<2)) (cond v6 (cond (decide ((↑(aq (aT v3 (aS x.1) (false,[])).2) :
  Int)>2)) (some ((0,0),5,aC)) (lp (Int×(Int×Int)×PUnit) ((Int×Int)×Int×PUnit) (fun again_1 x_1 =>
 let v12:=aQ .u64 (↑(Nat.lor (aS (aT [x_1.2.1.1,x_1.2.1.2] (aS x.1) 0 % mK 18446744073709551616))
  (aS (aQ .u64 (aQ .u64 (aT (aT v3 (aS x.1) (false,[])).2 (aS x_1.1) 0)*2 ^ min (aS
  (aQ .i64 (32*x_1.1))) 64) % mK 18446744073709551616))):Int);cond (decide (x_1.1<(↑(aq (aT v3 (aS x.1)
  (false,[])).2):Int))) (cond (inB x_1.1 (aq (aT v3 (aS x.1) (false,[])).2)) (cond v6 (cond v7 (cond (decide (0<=aQ
  IntKind.i64 (32*x_1.1))) (cond v6 (cond v7 (again_1 (aQ .i64 (x_1.1+1),(cond (g_ (aS x.1) 0) v12 x_1.2.1.1,cond (g_ (aS x.1) 1) v12 x_1.2.1.2),aC)) none) none) none) none) none) none) (cond v6 (cond v7 (cond (decide (aT [x_1.2.1.1,x_1.2.1.2] (aS x.1) 0>1152921504606846976)) (some ((0,0),5,aC)) (
  again (aQ .i64 (x.1+1),x.2.1,x_1.2.1,aC))) none) none)) (0,x.2.2.1,aC))) none) (cond x0.1.1 (
  some ((aQ .i64 (0 - v8),v9),0,aC)) (some ((v8,v9),0,aC)))) (0,(0,0),(0,0),
  aC)
abbrev Yz:=ty3->Option ((Int×Int)×Int×Unit)
def eL:Yz:=mR lpK jnK
def adv:Ctr:=⟨[iL],[],[],.tup [T38,i64],fun x _ _=>eL x.1⟩
theorem aeJ (lp:Lp) (jn:Jn):∀x F y,mR lp jn x.1=rC lp jn [] 210 f210 adv x F y:=fun x F y=>by kernel_rfl
theorem ZC:adv.ok prog 210:=od (aV) func210 (aeJ lpK jnK)
def sL (lp:Lp) (_:Jn) (eL:Yz) (x0:List ((Bool×List Int)×Bool×List Int)):Option ((List (Int×Int))×Int×Unit) :=
 lp (List (Int×Int)×Int×PUnit) (List (Int×Int)×Int×PUnit) (fun again x=>cond (decide (x.2.1<(↑(aq x0):Int))) (cond (inB x.2.1 (aq x0)) (ah (eL (aT x0 (aS x.2.1) ((false,[]),
  false,[]))) fun (t:(Int×Int)×Int×PUnit)=>cond (!decide (t.2.1=0)) (some ([],t.2.1,aC)) (cond (dS (aq x.1+1) 16) (again (x.1++[t.1],aQ .i64 (x.2.1+1),aC)) none)) none) (some (x.1,0,aC))) ([],0,aC)
abbrev X5:=(List ((Bool×List Int)×Bool×List Int))->Option ((List (Int×Int))×Int×Unit)
def gX:X5:=sL lpK jnK eL
def Z3:Ctr:=⟨[(.sl iL)],[],[],.tup [(.sl T38),i64],fun x _ _=>gX x.1⟩
theorem aha (lp:Lp) (jn:Jn) (eL:Yz):∀x F y,sL lp jn eL x.1=rC lp jn [(210,⟨[iL],[],[],.tup [T38,i64],fun x _ _=>eL x.1⟩)] 157 f157 Z3 x F y:=fun x F y=>by kernel_rfl
theorem ZR:Z3.ok prog 157:=od (aa (aV) rfl ZC) func157 (aha lpK jnK eL)
def yN (lp:Lp) (jn:Jn) (ao:yW) (bq:C9) (x0:ty2) (x1:Int) (x2:Int) (x3:Bool):Option ((Bool×List Int)×Bool×List Int) :=
 
 let v6:=aQ .i64 (x2 - x1);ah (bq 2000 [x0.2.2.2.2,v6]) fun t=>lp (Int×((Bool×List
  Int)×Bool×List Int)×PUnit) ((Bool×List Int)×Bool×List Int) (fun again x =>
 let v10:=aQ .i64 (x.1+1);
 let v11:=aT x0.2.2.2.1 (aS x.1) (0,0);
 let v12:=decide (v11.1<=x1);
 let v13:=!v12;
 let v14:=!v13||v13;cond (decide (x.1<(↑(aq x0.2.2.2.1):Int))) (cond (inB x.1 (aq x0.2.2.2.1)) (cond v14 (cond (v14&&v14) (cond (
  v12||v13) (cond (cond v12 true (decide (v11.1>=x2))) (again (v10,x.2.1,aC)) (jn (Int×PUnit) ((Bool×List Int)×Bool×List Int) (fun x_1=>ah (bq v6 [v11.2,x_1.1]) fun t=>ah (ao x.2.1 t) fun t=>again (v10,t,aC)) fun j=>cond (!x3) (j (aQ .i64 (v11.1 - x1),aC)) (j
  (aQ .i64 (x2 - v11.1),aC)))) none) none) none) none) (some x.2.1)) (0,t,aC)
abbrev Vv:=ty2->(Int)->(Int)->(Bool)->Option ((Bool×List Int)×Bool×List Int)
def iM:Vv:=yN lpK jnK ao bq
def aaU (iM:Vv):Ctr:=⟨[se,i64,i64,.bool],[],[],.one iL,fun x _ _=>iM x.1 x.2.1 x.2.2.1 x.2.2.2.1⟩
def acG:Ctr:=aaU iM
theorem agx (lp:Lp) (jn:Jn) (ao:yW) (bq:C9):∀x F y,yN lp jn ao bq x.1 x.2.1 x.2.2.1 x.2.2.2.1=rC lp jn [(253,Pz bq),(212,JD ao)] 213 f213 acG x F y:=fun x F y=>by kernel_rfl
theorem ad6:acG.ok prog 213:=od (aa (aa (aV) rfl Dr) rfl KN) func213 (agx lpK jnK ao bq)
def xd (lp:Lp) (_:Jn) (bg:AJ) (ao:yW) (bq:C9) (x0:ty2) (x1:Int):Option ((Bool×List Int)×Bool×List Int) :=
 ah (bq 1000 [x0.2.2.2.2,x1]) fun t=>lp (Int×((Bool×List Int)×Bool×List Int)×PUnit) ((Bool×List Int) ×
  Bool×List Int) (fun again x =>
 let v7:=aQ .i64 (x.1+1);cond (decide (x.1<(↑(aq x0.2.2.2.1):Int))) (cond (inB x.1 (aq x0.2.2.2.1)) (cond (
  decide ((aT x0.2.2.2.1 (aS x.1) (0,0)).1<x1)) (ah (bg (aT x0.2.2.2.1 (aS x.1) (0,(0 :
  Int))).2) fun t=>ah (ao x.2.1 t) fun t=>again (v7,t,aC)) (again
  (v7,x.2.1,aC))) none) (some x.2.1)) (0,t,aC)
abbrev Zp:=ty2->(Int)->Option ((Bool×List Int)×Bool×List Int)
def jr:Zp:=xd lpK jnK bg ao bq
def ZT:Ctr:=⟨[se,i64],[],[],.one iL,fun x _ _=>jr x.1 x.2.1⟩
theorem afT (lp:Lp) (jn:Jn) (bg:AJ) (ao:yW) (bq:C9):∀x F y,xd lp jn bg ao bq x.1 x.2.1=rC lp jn [(253,Pz bq),(212,JD ao),(211,MX bg)] 216 f216 ZT x F y:=fun x F y=>by kernel_rfl
theorem acl:ZT.ok prog 216:=od (aa (aa (aa (aV) rfl Gu) rfl Dr) rfl KN) func216 (afT lpK jnK bg ao bq)
def sC (lp:Lp) (jn:Jn) (bg:AJ) (ao:yW) (aR:It) (cN:NP) (eB:Mm) (iM:Vv) (jr:Zp) (x0:ty2) (x1:List ((Bool×List Int)×Bool×List Int)):Option (List ((Bool×List Int)×Bool×List Int)) :=
 
 let v4:=aQ .i64 ((↑(aq x0.2.2.1):Int) - 1);cond (decide (0<=(↑(aq x0.2.2.1):Int))&&dS (aS
  (↑(aq x0.2.2.1):Int)) 64) (lp (Int×List ((Bool×List Int)×Bool×List Int)×PUnit) (List ((Bool×List Int)×Bool×List Int)) (fun again x =>
 let v7:=inB x.1 (aq x1);
 let v8:=aQ .i64 (x.1+1);
 let v9:=aQ .i64 (x.1 - 1);
 let v10:=aT x1 (aS x.1) ((false,[]),false,[]);
 let v11:=aT x0.2.2.1 (aS x.1) 0;
 let v12:=aT x0.2.2.1 (aS v8) 0;
 let v13:=aT x0.2.2.1 (aS v9) 0;cond (decide (x.1<(↑(aq x0.2.2.1):Int))) (cond (inB x.1 (aq x0.2.2.1)) (ah
  (bg 0) fun t=>cond (inB x.1 (aq x.2.1)) (cond (cl (bT (aS x.1)) (aq x.2.1)) (
  lp (Int×List ((Bool×List Int)×Bool×List Int)×PUnit) (List ((Bool×List Int)×Bool×List Int)) (fun again_1 x_1 =>
 let v17:=aQ .i64 (x_1.1+1);
 let v18:List ((Bool×List Int)×Bool×List Int)×PUnit:=(x_1.2.1,aC);
 let v19:=inB x.1 (aq x_1.2.1);
 let v20:=cl (bT (aS x.1)) (aq x_1.2.1);cond (decide (x_1.1<(↑(aq x0.2.2.2.1):Int))) (cond (inB x_1.1 (aq
  x0.2.2.2.1)) (cond (decide ((aT x0.2.2.2.1 (aS x_1.1) (0,0)).1=v11)) (cond v19 (cond v20 (ah (bg (aT
  x0.2.2.2.1 (aS x_1.1) (0,0)).2) fun t=>ah (ao (aT x_1.2.1 (aS x.1)
  ((false,[]),false,[])) t) fun t=>cond v19 (cond v20 (again_1 (v17,iF x_1.2.1 (aS x.1) t,aC)) none) none) none) none) (again_1 (v17,v18))) none) (jn (List ((Bool×List Int)×Bool×List Int)×PUnit) (List ((Bool×List Int)×Bool×List Int)) (fun x_2 =>
 let v22:=inB x.1 (aq x_2.1);
 let v23:=cl (bT (aS x.1)) (aq x_2.1);jn (List ((Bool×List Int)×Bool×List Int)×PUnit) (List ((Bool×List Int)×Bool×List Int)) (fun
  x_3 =>
 let v25:=inB x.1 (aq x_3.1);
 let v26:=cl (bT (aS x.1)) (aq x_3.1);jn (List ((Bool×List Int)×Bool×List Int)×PUnit) (List ((Bool×List Int)×Bool×List Int)) (fun
  x_4 =>
 let v28:=inB x.1 (aq x_4.1);
 let v29:=cl (bT (aS x.1)) (aq x_4.1);cond (decide (x.1=v4)) (cond v28 (cond v29 (ah (eB x0) fun t=>ah (jr t (aQ .i64 (x0.2.1 - v11))) fun t=>ah (ao (aT
  x_4.1 (aS x.1) ((false,[]),false,[])) t) fun t=>cond v28 (cond v29 (again (v8,iF x_4.1 (aS x.1) t,
  aC)) none) none) none) none) (again (v8,x_4.1,aC))) fun j=>cond (decide (x.1=0)) (cond v25 (cond v26 (ah (jr x0 v11) fun t=>ah (ao
  (aT x_3.1 (aS x.1) ((false,[]),false,[])) t) fun t=>cond v25 (cond v26 (j (iF x_3.1 (aS x.1) t,
  aC)) none) none) none) none) (j (x_3.1,aC))) fun j=>cond (decide (v8<(↑(aq x0.2.2.1):Int))) (cond (inB v8 (aq x0.2.2.1)) (cond v22 (cond v23 (ah (iM x0 v11 v12 true) fun
  t=>ah (ao (aT x_2.1 (aS x.1) ((false,[]),false,[])) t) fun t =>
  cond (inB v8 (aq x1)) (cond v7 (ah (aR (aT x1 (aS v8) ((false,[]),false,[])) v10) fun t_1=>ah
  (bg (aQ .i64 (v12 - v11))) fun t_2=>ah (cN t_1 t_2) fun t_3 =>
  ah (ao t t_3) fun t=>cond v22 (cond v23 (j (iF x_2.1 (aS x.1) t,aC)) none) none) none) none) none) none) none) (j (x_2.1,aC))) fun j=>cond (decide (x.1>0)) (cond (inB v9 (aq x0.2.2.1)) (cond v19 (cond v20 (ah (iM x0 v13 v11 false) fun t=>ah (ao (aT x_1.2.1 (aS x.1) ((false,[]),false,[])) t) fun t=>cond (inB v9 (aq
  x1)) (cond v7 (ah (aR (aT x1 (aS v9) ((false,[]),false,[])) v10) fun t_1=>ah (bg
  (aQ .i64 (v11 - v13))) fun t_2=>ah (cN t_1 t_2) fun t_3=>ah
  (ao t t_3) fun t=>cond v19 (cond v20 (j (iF x_1.2.1 (aS x.1) t,aC)) none) none) none) none) none) none) none) (j v18))) (0,iF x.2.1 (aS x.1) t,aC)) none) none) none) (some x.2.1)) (0,
  bx (aS (↑(aq x0.2.2.1):Int)) ((false,[]),false,[]),aC)) none
abbrev Ub:=ty2->(List ((Bool×List Int)×Bool×List Int))->Option (List ((Bool×List Int)×Bool×List Int))
def fF:Ub:=sC lpK jnK bg ao aR cN eB iM jr
def adg (fF:Ub):Ctr:=⟨[se,(.sl iL)],[],[],.one (.sl iL),fun x _ _=>fF x.1 x.2.1⟩
def abM:Ctr:=adg fF
theorem ae9 (lp:Lp) (jn:Jn) (bg:AJ) (ao:yW) (aR:It) (cN:NP) (eB:Mm) (iM:Vv) (jr:Zp):∀x F y,sC lp jn bg ao aR cN eB iM jr x.1 x.2.1=rC lp jn [(216,⟨[se,i64],[],[],.one iL,fun x _ _=>jr x.1 x.2.1⟩),(213,aaU iM),(217,XF eB),(215,Xv cN),(214,Vu aR),(212,JD ao),(211,MX bg)] 158 f158 abM x F y:=fun x F y=>by kernel_rfl
theorem adw:abM.ok prog 158:=od (aa (aa (aa (aa (aa (aa (aa (aV) rfl Gu) rfl Dr) rfl SO) rfl Wl) rfl WS) rfl ad6) rfl acl) func158 (ae9 lpK jnK bg ao aR cN eB iM jr)
def sB (_:Lp) (_:Jn) (kL:Y0) (gX:X5) (fF:Ub) (x0:ty2):Option ((List (Int×Int))×Int×Unit) :=
 ah (kL x0) fun (t:List ((Bool×List Int)×Bool×List Int)×Int×PUnit)=>cond (!decide (t.2.1=0)) (some ([],t.2.1,aC)) (ah
  (fF x0 t.1) fun t=>ah (gX t) fun (t:List (Int×Int)×Int×PUnit)=>some (t.1,t.2.1,aC))
abbrev t91:=ty2->Option ((List (Int×Int))×Int×Unit)
def ib:t91:=sB lpK jnK kL gX fF
def c91:Ctr:=⟨[se],[],[],.tup [(.sl T38),i64],fun x _ _=>ib x.1⟩
theorem e91 (lp:Lp) (jn:Jn) (kL:Y0) (gX:X5) (fF:Ub):∀x F y,sB lp jn kL gX fF x.1=rC lp jn [(158,adg fF),(157,⟨[(.sl iL)],[],[],.tup [(.sl T38),i64],fun x _ _=>gX x.1⟩),(156,⟨[se],[],[],.tup [(.sl iL),i64],fun x _ _=>kL x.1⟩)] 91 f91 c91 x F y:=fun x F y=>by kernel_rfl
theorem af3:c91.ok prog 91:=od (aa (aa (aa (aV) rfl aci) rfl ZR) rfl adw) func91 (e91 lpK jnK kL gX fF)
set_option maxRecDepth 100000
def uo (_:Lp) (_:Jn) (x0:ty8):Option Int :=
 some (aQ .i64 (x0.2.1+aQ .i64 (Int.tdiv x0.2.2.1 2)))
abbrev YQ:=ty8->Option (Int)
def iC:YQ:=uo lpK jnK
def ab4:Ctr:=⟨[mc],[],[],.one i64,fun x _ _=>iC x.1⟩
theorem ahv (lp:Lp) (jn:Jn):∀x F y,uo lp jn x.1=rC lp jn [] 159 f159 ab4 x F y:=fun x F y=>by kernel_rfl
theorem aai:ab4.ok prog 159:=od (aV) func159 (ahv lpK jnK)
def uh (lp:Lp) (_:Jn) (iC:YQ) (aj:yI) (x0:ty1):Option (ByteArray×Int×(List Int)×(List (Int×Int))×Int) :=
 ah (aj x0.2.2.2.2.2.1) fun t=>lp (Int×ByteArray×Int×List Int×List (Int×Int)×Int×PUnit) (ByteArray×Int×List Int×List (Int ×
  Int)×Int) (fun again x =>
 let v6:=aT x0.2.2.2.2.2.2.2.2.2.2.2.1 (aS x.1) ({ data:={ toList:=[] } },0,(0 :
  Int),0,0,0,0);cond (decide (x.1<(↑(aq x0.2.2.2.2.2.2.2.2.2.2.2.1):Int))) (cond (inB x.1 (aq
  x0.2.2.2.2.2.2.2.2.2.2.2.1)) (ah (iC v6) fun t=>cond (dS (aq x.2.2.2.2.1+1) 16) (again
  (aQ .i64 (x.1+1),x.2.1,x.2.2.1,x.2.2.2.1,x.2.2.2.2.1++[(t,v6.2.2.2.1)],x.2.2.2.2.2.1,aC)) none) none) (some (x.2.1,x.2.2.1,x.2.2.2.1,x.2.2.2.2.1,x.2.2.2.2.2.1))) (0,x0.1,x0.2.2.2.2.1,t,[],
  x0.2.2.2.2.2.2.1,aC)
abbrev t92:=ty1->Option (ByteArray×Int×(List Int)×(List (Int×Int))×Int)
def iE:t92:=uh lpK jnK iC aj
def c92:Ctr:=⟨[T33],[],[],.one se,fun x _ _=>iE x.1⟩
theorem e92 (lp:Lp) (jn:Jn) (iC:YQ) (aj:yI):∀(x:TsS c92.as) (F:TsF c92.fs) (y:TsS c92.cs),uh lp jn iC aj x.1=wE lp jn (cx [(159,⟨[mc],[],[],.one i64,fun x _ _=>iC x.1⟩)] [(140,ma),(128,lu),(113,lc),(137,kS),(241,jK),(240,jA),(109,J4 aj)]) dI 4 92 f92 c92 x F y:=fun x F y=>by kernel_rfl
theorem afB:c92.ok prog 92:=od (aa (aV) rfl aai) func92 (e92 lpK jnK iC aj)
def vz (_:Lp) (_:Jn) (dN:t42) (ib:t91) (iE:t92) (x0:ty1):Option ((List (Int×Int))×Int×Unit) :=
 ah (dN x0) fun t=>cond (!t) (some ([],1,aC)) (ah (iE x0) fun t=>ah
  (ib t) fun (t:List (Int×Int)×Int×PUnit)=>some (t.1,t.2.1,aC))
abbrev t45:=ty1->Option ((List (Int×Int))×Int×Unit)
def dM:t45:=vz lpK jnK dN ib iE
def k45 (dM:t45):Ctr:=⟨[T33],[],[],.tup [(.sl T38),i64],fun x _ _=>dM x.1⟩
def c45:Ctr:=k45 dM
theorem e45 (lp:Lp) (jn:Jn) (dN:t42) (ib:t91) (iE:t92):∀x F y,vz lp jn dN ib iE x.1=rC lp jn [(92,⟨[T33],[],[],.one se,fun x _ _=>iE x.1⟩),(91,⟨[se],[],[],.tup [(.sl T38),i64],fun x _ _=>ib x.1⟩),(42,k42 dN)] 45 f45 c45 x F y:=fun x F y=>by kernel_rfl
theorem aav:c45.ok prog 45:=od (aa (aa (aa (aV) rfl ZZ) rfl af3) rfl afB) func45 (e45 lpK jnK dN ib iE)
def sA (_:Lp) (_:Jn) (dM:t45) (x0:ty1):Option ((List (Int×Int))×Int×Unit) :=
 ah (dM x0) fun (t:List (Int×Int)×Int×PUnit)=>some (t.1,t.2.1,aC)
abbrev t37:=ty1->Option ((List (Int×Int))×Int×Unit)
def hO:t37:=sA lpK jnK dM
def c37:Ctr:=⟨[T33],[],[],.tup [(.sl T38),i64],fun x _ _=>hO x.1⟩
theorem e37 (lp:Lp) (jn:Jn) (dM:t45):∀x F y,sA lp jn dM x.1=rC lp jn [(45,k45 dM)] 37 f37 c37 x F y:=fun x F y=>by kernel_rfl
theorem ahw:c37.ok prog 37:=od (aa (aV) rfl aav) func37 (e37 lpK jnK dM)
def gG (lp:Lp) (_:Jn) (x0:List (Int×Int)) (f0:(((Int×Int)×Unit)->Option Bool)):Option Int :=
 lp (Int×PUnit) Int (fun again x=>cond (decide (x.1<(↑(aq x0):Int))) (cond (inB x.1 (aq x0)) (ah (f0
  (aT x0 (aS x.1) (0,0),aC)) fun t=>cond t (some x.1) (again (aQ .i64 (x.1+1),aC))) none) (some (-1))) (0,aC)
abbrev t62:=(List (Int×Int))->((((Int×Int)×Unit)->Option Bool))->Option (Int)
def aU:t62:=gG lpK jnK
def k62 (aU:t62):Ctr:=⟨[(.sl T38)],[([T38],.bool)],[],.one i64,fun x F _=>aU x.1 F.1⟩
def c62:Ctr:=k62 aU
theorem e62 (lp:Lp) (jn:Jn):∀x F y,gG lp jn x.1 F.1=rC lp jn [] 62 f62 c62 x F y:=fun x F y=>by kernel_rfl
theorem aad:c62.ok prog 62:=od (aV) func62 (e62 lpK jnK)
def gQ (_:Lp) (_:Jn) (aU:t62) (x0:List (Int×Int)) (f0:(((Int×Int)×Unit)->Option Bool)):Option Bool :=
 ah (aU x0 f0) fun t=>some (decide (t>=0))
abbrev t18:=(List (Int×Int))->((((Int×Int)×Unit)->Option Bool))->Option (Bool)
def au:t18:=gQ lpK jnK aU
def k18 (au:t18):Ctr:=⟨[(.sl T38)],[([T38],.bool)],[],.one .bool,fun x F _=>au x.1 F.1⟩
def c18:Ctr:=k18 au
theorem e18 (lp:Lp) (jn:Jn) (aU:t62):∀x F y,gQ lp jn aU x.1 F.1=rC lp jn [(62,k62 aU)] 18 f18 c18 x F y:=fun x F y=>by kernel_rfl
theorem Ya:c18.ok prog 18:=od (aa (aV) rfl aad) func18 (e18 lpK jnK aU)
def ul (_:Lp) (_:Jn) (dN:t42) (x0:ty1) (x1:Int):Option Int :=
 
 let v4:=decide (x1<0);
 let v5:=!v4;
 let v6:=!v5||v5;ah (dN x0) fun t=>cond (!t) (some 1) (cond v6 (cond v6 (cond (v6&&v6) (cond (v4||v5) (cond (cond v4 true (
  decide (x1>=(↑(aq x0.2.2.2.2.2.1):Int)))) (some 2) (cond (decide ((↑(aq x0.2.2.2.2.2.1):Int)=2)) (some 14) (some 0))) none) none) none) none)
abbrev Yw:=ty1->(Int)->Option (Int)
def iG:Yw:=ul lpK jnK dN
def adI:Ctr:=⟨[T33,i64],[],[],.one i64,fun x _ _=>iG x.1 x.2.1⟩
theorem afx (lp:Lp) (jn:Jn) (dN:t42):∀x F y,ul lp jn dN x.1 x.2.1=rC lp jn [(42,k42 dN)] 141 f141 adI x F y:=fun x F y=>by kernel_rfl
theorem aeA:adI.ok prog 141:=od (aa (aV) rfl ZZ) func141 (afx lpK jnK dN)
def oQ (_:Lp) (_:Jn) (_:List Int) (_:Int) (_:Int):Option (List Int) :=
 none
abbrev U1:=(List Int)->(Int)->(Int)->Option (List Int)
def eg:U1:=oQ lpK jnK
def ad3 (eg:U1):Ctr:=⟨[(.sl i64),i64,i64],[],[],.one (.sl i64),fun x _ _=>eg x.1 x.2.1 x.2.2.1⟩
def ZX:Ctr:=ad3 eg
theorem afQ (lp:Lp) (jn:Jn):∀x F y,oQ lp jn x.1 x.2.1 x.2.2.1=rC lp jn [] 239 f239 ZX x F y:=fun x F y=>by kernel_rfl
theorem aeC:ZX.ok prog 239:=od (aV) func239 (afQ lpK jnK)
def wV (_:Lp) (_:Jn) (eg:U1) (aj:yI) (fU:ZA) (fZ:XX) (x0:ty1) (x1:Int):Option (ByteArray×Int×Int×Int×Int×(List Int)×Int×Int×Int×Int×Int×(List (ByteArray×Int×Int×Int×Int×Int×Int))×List (ByteArray×Int×Int)) :=
 ah (aj x0.2.2.2.2.2.1) fun t=>ah (eg t x1 (aQ .i64 (x1+1))) fun t=>ah
  (fU x0.2.2.2.2.2.2.2.2.2.2.2.1) fun t_1=>ah (fZ
  x0.2.2.2.2.2.2.2.2.2.2.2.2) fun t_2=>some (x0.1,x0.2.1,x0.2.2.1,x0.2.2.2.1,x0.2.2.2.2.1,t,
  x0.2.2.2.2.2.2.1,x0.2.2.2.2.2.2.2.1,x0.2.2.2.2.2.2.2.2.1,x0.2.2.2.2.2.2.2.2.2.1,
  x0.2.2.2.2.2.2.2.2.2.2.1,t_1,t_2)
abbrev YD:=ty1->(Int)->Option (ByteArray×Int×Int×Int×Int×(List Int)×Int×Int×Int×Int×Int×(List (ByteArray×Int×Int×Int×Int×Int×Int))×List (ByteArray×Int×Int))
def jX:YD:=wV lpK jnK eg aj fU fZ
def RJ:Ctr:=⟨[T33,i64],[],[],.one T33,fun x _ _=>jX x.1 x.2.1⟩
theorem afj (lp:Lp) (jn:Jn) (eg:U1) (aj:yI) (fU:ZA) (fZ:XX):∀(x:TsS RJ.as) (F:TsF RJ.fs) (y:TsS RJ.cs),wV lp jn eg aj fU fZ x.1 x.2.1=wE lp jn (cx [(239,ad3 eg)] [(140,ma),(128,lu),(113,lc),(137,kS),(241,⟨[(.sl T92)],92,T92,fun x=>fZ x.1⟩),(240,⟨[(.sl mc)],142,mc,fun x=>fU x.1⟩),(109,J4 aj)]) dI 4 205 f205 RJ x F y:=fun x F y=>by kernel_rfl
theorem acb:RJ.ok prog 205:=od (aa (aV) rfl aeC) func205 (afj lpK jnK eg aj fU fZ)
def sw (_:Lp) (_:Jn) (dM:t45) (jX:YD) (x0:ty1) (x1:Int):Option ((List (Int×Int))×Int×Unit) :=
 ah (jX x0 x1) fun t=>ah (dM t) fun (t:List (Int×Int)×Int×PUnit)=>cond (!decide (t.2.1=0)) (some ([],t.2.1,aC)) (cond (slB x1 (↑(aq
  t.1):Int) (aq t.1)) (cond (decide ((↑1:Int)=0)) (some (t.1,0,aC)) (cond (decide (x1=(↑(aq t.1):Int))) none none)) none)
abbrev UF:=ty1->(Int)->Option ((List (Int×Int))×Int×Unit)
def fB:UF:=sw lpK jnK dM jX
def aem (fB:UF):Ctr:=⟨[T33,i64],[],[],.tup [(.sl T38),i64],fun x _ _=>fB x.1 x.2.1⟩
def ac8:Ctr:=aem fB
theorem aeG (lp:Lp) (jn:Jn) (dM:t45) (jX:YD):∀x F y,sw lp jn dM jX x.1 x.2.1=rC lp jn [(205,⟨[T33,i64],[],[],.one T33,fun x _ _=>jX x.1 x.2.1⟩),(45,k45 dM)] 142 f142 ac8 x F y:=fun x F y=>by kernel_rfl
theorem aez:ac8.ok prog 142:=od (aa (aa (aV) rfl aav) rfl acb) func142 (aeG lpK jnK dM jX)
def tJ (_:Lp) (_:Jn) (x0:Int×Int) (x1:Int×Int):Option Bool :=
 
 let v4:=decide (x0.1=x1.1);
 let v5:=decide (x0.1<x1.1);
 let v6:=!v5;
 let v7:=!v6;
 let v8:Bool:=v6&&v4;
 let v9:Bool:=v7||v6;
 let v10:=!v8||v8;cond v9 (cond v9 (cond (v9&&v9) (cond v9 (cond v10 (cond v10 (cond (v10&&v10) (cond ((v7||v9)&&(v7||(!v4||(v7||v8)))) (cond (v5
  || v6) (some (cond v5 true (cond v4 (decide (x0.2<x1.2)) false))) none) none) none) none) none) none) none) none) none
abbrev Ms:=(Int×Int)->(Int×Int)->Option (Bool)
def dX:Ms:=tJ lpK jnK
def Y1 (dX:Ms):Ctr:=⟨[rP,rP],[],[],.one .bool,fun x _ _=>dX x.1 x.2.1⟩
def aa0:Ctr:=Y1 dX
theorem ag4 (lp:Lp) (jn:Jn):∀x F y,tJ lp jn x.1 x.2.1=rC lp jn [] 161 f161 aa0 x F y:=fun x F y=>by kernel_rfl
theorem WO:aa0.ok prog 161:=od (aV) func161 (ag4 lpK jnK)
def vg (_:Lp) (jn:Jn) (bf:t97) (aE:t94) (bn:t98) (dX:Ms) (x0:Int×Int) (x1:Int×Int):Option (Int×Int×Unit) :=
 
 let v4:=decide (x0.1<0);ah (aE x0) fun t =>
 let v6:=!t;
 let v7:=!v6;
 let v8:=!v7||v7;cond v8 (ah (cond v7 (aE x1) (some false)) fun t=>cond v8 (cond (v6||v7) (cond (cond v6 true (!t)) (some ((0 :
  Int),1,aC)) (ah (bf x0.1) fun t=>ah (bn t (aQ .u64 x1.2)) fun t=>ah (bf x1.1)
  fun t_1=>ah (bn t_1 (aQ .u64 x0.2)) fun t_2=>cond (!decide (v4=decide (x1.1<0))) (cond v4 (some ((-1),
  0,aC)) (some (1,0,aC))) (jn ((Int×Int)×(Int×Int)×PUnit) (Int×Int×PUnit) (fun x=>ah
  (dX x.1 x.2.1) fun t=>cond t (some ((-1),0,aC)) (ah (dX x.2.1 x.1) fun t=>cond t (some (1,
  0,aC)) (some (0,0,aC)))) fun j=>cond v4 (j (t_2,t,aC)) (
  j (t,t_2,aC))))) none) none) none
abbrev Mq:=(Int×Int)->(Int×Int)->Option (Int×Int×Unit)
def fg:Mq:=vg lpK jnK bf aE bn dX
def Xa (fg:Mq):Ctr:=⟨[T38,T38],[],[],.tup [i64,i64],fun x _ _=>fg x.1 x.2.1⟩
def aaC:Ctr:=Xa fg
theorem afw (lp:Lp) (jn:Jn) (bf:t97) (aE:t94) (bn:t98) (dX:Ms):∀x F y,vg lp jn bf aE bn dX x.1 x.2.1=rC lp jn [(161,Y1 dX),(98,k98 bn),(94,k94 aE),(97,k97 bf)] 144 f144 aaC x F y:=fun x F y=>by kernel_rfl
theorem Wn:aaC.ok prog 144:=od (aa (aa (aa (aa (aV) rfl Rm) rfl Jf) rfl Zx) rfl WO) func144 (afw lpK jnK bf aE bn dX)
def nT (_:Lp) (_:Jn) (fg:Mq) (x0:Int×Int) (y0:Int×Int):Option Bool :=
 
 let v4:=decide (x0.1<0);
 let v5:=!v4;ah (fg x0 y0) fun (t:Int×Int×PUnit)=>cond (!v5||v5) (cond (v4||v5) (some (cond v4 true (decide (t.1>0)))) none) none
abbrev Yy:=(Int×Int)->(Int×Int)->Option (Bool)
def eQ:Yy:=nT lpK jnK fg
def aaG:Ctr:=⟨[T38],[],[T38],.one .bool,fun x _ y=>eQ x.1 y.1⟩
theorem ahD (lp:Lp) (jn:Jn) (fg:Mq):∀x F y,nT lp jn fg x.1 y.1=rC lp jn [(144,Xa fg)] 143 f143 aaG x F y:=fun x F y=>by kernel_rfl
theorem acu:aaG.ok prog 143:=od (aa (aV) rfl Wn) func143 (ahD lpK jnK fg)
def qB (lp:Lp) (_:Jn) (au:t18) (iG:Yw) (fB:UF) (eQ:Yy) (x0:ty1):Option ((List Int)×Int×Unit) :=
 ah (iG x0 0) fun t=>cond (decide (t=0)) (lp (List Int×Int×PUnit) (List Int×Int×PUnit) (fun again x =>
 let v6:Int×PUnit:=(aQ .i64 (x.2.1+1),aC);cond (decide (x.2.1<(↑(aq x0.2.2.2.2.2.1):Int))) (ah
  (fB x0 x.2.1) fun (t:List (Int×Int)×Int×PUnit)=>cond (!decide (t.2.1=0)) (some ([],t.2.1,aC)) (ah (au
  t.1 fun x=>eQ x.1 (x0.2.2.2.2.2.2.2.2.2.1,1)) fun t=>cond t (cond (dS (aq x.1+(1 :
  Nat)) 8) (again (x.1++[x.2.1],v6)) none) (again (x.1,v6)))) (some (x.1,0,aC))) ([],0,aC)) (cond (decide (t=(14 :
  Int))) (some ([0,1],0,aC)) (some ([],t,aC)))
abbrev t77:=ty1->Option ((List Int)×Int×Unit)
def fY:t77:=qB lpK jnK au iG fB eQ
def c77:Ctr:=⟨[T33],[],[],.tup [(.sl i64),i64],fun x _ _=>fY x.1⟩
theorem e77 (lp:Lp) (jn:Jn) (au:t18) (iG:Yw) (fB:UF) (eQ:Yy):∀x F y,qB lp jn au iG fB eQ x.1=rC lp jn [(143,⟨[T38],[],[T38],.one .bool,fun x _ y=>eQ x.1 y.1⟩),(142,aem fB),(141,⟨[T33,i64],[],[],.one i64,fun x _ _=>iG x.1 x.2.1⟩),(18,k18 au)] 77 f77 c77 x F y:=fun x F y=>by kernel_rfl
theorem aft:c77.ok prog 77:=od (aa (aa (aa (aa (aV) rfl Ya) rfl aeA) rfl aez) rfl acu) func77 (e77 lpK jnK au iG fB eQ)
def pT (_:Lp) (_:Jn) (fY:t77) (x0:ty1):Option (Bool×Int×Int×Unit) :=
 ah (fY x0) fun (t:List Int×Int×PUnit)=>cond (!decide (t.2.1=0)) (some (false,0,t.2.1,aC)) (cond (decide ((↑(aq
  t.1):Int)=0)) (some (true,(-1),0,aC)) (cond (inB 0 (aq t.1)) (some (false,aT t.1 0 0,(0 :
  Int),aC)) none))
abbrev t38:=ty1->Option (Bool×Int×Int×Unit)
def gb:t38:=pT lpK jnK fY
def c38:Ctr:=⟨[T33],[],[],.tup [.bool,i64,i64],fun x _ _=>gb x.1⟩
theorem e38 (lp:Lp) (jn:Jn) (fY:t77):∀x F y,pT lp jn fY x.1=rC lp jn [(77,⟨[T33],[],[],.tup [(.sl i64),i64],fun x _ _=>fY x.1⟩)] 38 f38 c38 x F y:=fun x F y=>by kernel_rfl
theorem afm:c38.ok prog 38:=od (aa (aV) rfl aft) func38 (e38 lpK jnK fY)
def tc (_:Lp) (_:Jn) (bL:t12) (bz:t20) (bw:t24) (bP:t29) (hO:t37) (gb:t38):Option Bool :=
 
 let v2:List (ByteArray×List (ByteArray×Int×Int×Int)×Bool):=[];ah (bL 1) fun t =>
 let v4:ByteArray×Int×Int×Int:=({ data:=#[] },0,t);ah (bL 1) fun t =>
 let v6:ByteArray×Int×Int×Int:=({ data:=#[(98:UInt8)] },2,t);ah (bL 1) fun t =>
 let v8:List (ByteArray×Int)×List (ByteArray×List (ByteArray×Int×Int×Int)×Bool):=([({ data:=#[(98:UInt8)] },10)],({ data:=#[(114:UInt8)] },[v4,v6,({
  data:=#[] },0,t)],true) ::v2);ah (bP v8) fun (t:(Int×Int)×Int×PUnit) =>
 let v10:=decide (t.2.1=0);
 let v11:=!v10||v10;ah (bw v8 { data:={ toList:=[{ toBitVec:={ toFin:=⟨98,Nat.mod_lt 98 (BitVec.ofNat._proof_1 8)⟩ } }] } })
  fun (t_1:(Int×Int)×Int×PUnit) =>
 let v13:=decide (t_1.2.1=0);ah (hO ({ data:=#[(97:UInt8)] },0,0,9000,4000,[0,4000],(500 :
  Int),2000,1,1000,0,[],[])) fun (t_2:List (Int×Int)×Int×PUnit) =>
 let v15:=decide (t_2.2.1=0);ah (gb ({ data:=#[(97:UInt8)] },0,0,9000,4000,[0,4000],(500
  : Int),2000,1,1000,0,[],[])) fun (t_3:Bool×Int×Int×PUnit)=>ah (cond v10 (bL 5) (some (0,0)))
  fun t_4 =>
 let v18:=cond v10 (decide (t.1.1=t_4.1)&&(decide (t.1.2=t_4.2)&&true)) false;
 let v19:=cond v18 v13 false;
 let v20:=!v18||v18;
 let v21:=!v19||v19;cond (v11&&v11) (cond v11 (cond v20 (cond v20 (ah (cond v19 (bL 2) (some (0,0))) fun t =>
 let v23:=cond v19 (decide (t_1.1.1=t.1)&&(decide (t_1.1.2=t.2)&&true)) false;
 let v24:=cond v23 v15 false;
 let v25:=!v23||v23;
 let v26:=!v24||v24;
 let v27:Bool:=v26&&v26;cond (v21&&v21) (cond v21 (cond v25 (cond v25 (ah (cond v24 (bL 1000) (some (0,0))) fun t=>ah (cond v24 (bL 1000) (some (0,0))) fun t_5=>cond v27 (cond v27 (ah (cond v24 (bz t_2.1
  [t,t_5]) (some false)) fun t =>
 let v31:=cond v24 t false;
 let v32:=!v31||v31;
 let v33:=cond v31 (decide (t_3.2.2.1=0)) false;
 let v34:=!v33||v33;cond v26 (cond v32 (cond v32 (cond v34 (cond v34 (some (cond v33 (!t_3.1) false)) none) none) none) none) none) none) none) none) none) none) none) none) none) none) none
abbrev t5:=Option (Bool)
def eV:t5:=tc lpK jnK bL bz bw bP hO gb
def k5 (eV:t5):Ctr:=⟨[],[],[],.one .bool,fun _ _ _=>eV⟩
def c5:Ctr:=k5 eV
theorem e5 (lp:Lp) (jn:Jn) (bL:t12) (bz:t20) (bw:t24) (bP:t29) (hO:t37) (gb:t38):∀x F y,tc lp jn bL bz bw bP hO gb=rC lp jn [(38,⟨[T33],[],[],.tup [.bool,i64,i64],fun x _ _=>gb x.1⟩),(37,⟨[T33],[],[],.tup [(.sl T38),i64],fun x _ _=>hO x.1⟩),(29,k29 bP),(24,k24 bw),(20,k20 bz),(12,k12 bL)] 5 f5 c5 x F y:=fun x F y=>by kernel_rfl
theorem ok5:c5.ok prog 5:=od (aa (aa (aa (aa (aa (aa (aV) rfl ab3) rfl aak) rfl adO) rfl Xi) rfl ahw) rfl afm) func5 (e5 lpK jnK bL bz bw bP hO gb)
def oZ (_:Lp) (_:Jn) (x0:Int×Int) (x1:Int×Int):Option (Int×Int) :=
 cond (decide ((0:Int)<=0)&&decide ((0:Int)<=1)) (cond (decide (0<=rU x0.2 x1.2 0)&&decide (rU x0.2 x1.2 0<=1)) (
  some (AP x0.1 x1.1 (rU x0.2 x1.2 0),AP x0.2 x1.2 0)) none) none
abbrev Y5:=(Int×Int)->(Int×Int)->Option (Int×Int)
def iP:Y5:=oZ lpK jnK
def acs:Ctr:=⟨[rP,rP],[],[],.one rP,fun x _ _=>iP x.1 x.2.1⟩
theorem aeZ (lp:Lp) (jn:Jn):∀x F y,oZ lp jn x.1 x.2.1=rC lp jn [] 160 f160 acs x F y:=fun x F y=>by kernel_rfl
theorem ZS:acs.ok prog 160:=od (aV) func160 (aeZ lpK jnK)
def nO (_:Lp) (_:Jn) (x0:Int×Int) (x1:Int×Int):Option (Int×Int) :=
 cond (decide ((0:Int)<=0)&&decide ((0:Int)<=1)) (cond (decide (0<=qt x0.2 x1.2 0)&&decide (qt x0.2 x1.2 0<=1)) (
  some (xA x0.1 x1.1 (qt x0.2 x1.2 0),xA x0.2 x1.2 0)) none) none
abbrev Y7:=(Int×Int)->(Int×Int)->Option (Int×Int)
def gB:Y7:=nO lpK jnK
def acA:Ctr:=⟨[rP,rP],[],[],.one rP,fun x _ _=>gB x.1 x.2.1⟩
theorem ahf (lp:Lp) (jn:Jn):∀x F y,nO lp jn x.1 x.2.1=rC lp jn [] 162 f162 acA x F y:=fun x F y=>by kernel_rfl
theorem aaF:acA.ok prog 162:=od (aV) func162 (ahf lpK jnK)
def tT (_:Lp) (_:Jn) (cH:IA) (x0:Int×Int) (x1:Int):Option ((Int×Int)×Int×Unit) :=
 
 let v4:Bool:=nzB x1;cond v4 (ah (cH (Int.tmod x0.1 x1) x0.2 x1) fun (t:Int×Int×PUnit)=>cond v4 (some ((aQ .u64 (Int.tdiv x0.1 x1),
  t.1),t.2.1,aC)) none) none
abbrev VX:=(Int×Int)->(Int)->Option ((Int×Int)×Int×Unit)
def fT:VX:=tT lpK jnK cH
def adH (fT:VX):Ctr:=⟨[rP,(.int .u64)],[],[],.tup [rP,(.int .u64)],fun x _ _=>fT x.1 x.2.1⟩
def acE:Ctr:=adH fT
theorem ag7 (lp:Lp) (jn:Jn) (cH:IA):∀x F y,tT lp jn cH x.1 x.2.1=rC lp jn [(220,Ul cH)] 163 f163 acE x F y:=fun x F y=>by kernel_rfl
theorem acD:acE.ok prog 163:=od (aa (aV) rfl OC) func163 (ag7 lpK jnK cH)
def vr (_:Lp) (jn:Jn) (bZ:t96) (bf:t97) (aE:t94) (bn:t98) (bH:t99) (dX:Ms) (iP:Y5) (gB:Y7) (fT:VX) (x0:Int×Int) (x1:Int×Int):Option ((Int×Int)×Int×Unit) :=
 
 let v4:=aQ .u64 x0.2;
 let v5:=aQ .u64 x1.2;
 let v6:=decide (x0.1<0);ah (aE x0) fun t =>
 let v8:=!t;
 let v9:=!v8;
 let v10:=!v9||v9;cond v10 (ah (cond v9 (aE x1) (some false)) fun t=>cond v10 (cond (v8||v9) (cond (cond v8 true (!t)) (some (((0 :
  Int),0),1,aC)) (ah (bZ v4 v5) fun t =>
 let v13:Bool:=nzB t;
 let v14:=aQ .u64 (Int.tdiv v4 t);ah (bf x0.1) fun t_1=>cond v13 (ah (bn t_1 (aQ .u64 (Int.tdiv v5 t)))
  fun t_2=>ah (bf x1.1) fun t_3=>cond v13 (ah (bn t_3 v14) fun t_4=>jn (Bool×(Int×Int)×PUnit) ((Int×Int) ×
  Int×PUnit) (fun x=>cond (decide (x.2.1.1=0)&&(decide (x.2.1.2=0)&&true)) (some ((0,1),(0 :
  Int),aC)) (ah (fT x.2.1 t) fun (t_5:(Int×Int)×Int×PUnit)=>ah (bZ t t_5.2.1) fun t=>ah (fT x.2.1 t) fun (t_6 :
  (Int×Int)×Int×PUnit) =>
 let v23:=decide (t_6.1.1>0);
 let v24:=!v23;
 let v25:=!v24||v24;cond v13 (cond (nzB t) (ah (bn v14 (aQ .u64 (Int.tdiv v5 t))) fun t=>cond v25 (cond v25 (cond (v23 ||
  v24) (cond (cond v23 true (decide (t.1>0))) (some ((0,0),5,aC)) (ah (bH x.1 t_6.1.2 t.2) fun (t:(Int
  × Int)×Int×PUnit)=>some (t.1,t.2.1,aC))) none) none) none) none) none)) fun j=>cond (decide (v6=decide (x1.1<0))) (ah (iP t_2 t_4) fun t=>j (v6,t,aC)) (ah (dX t_2 t_4) fun t=>jn (Bool
  × (Int×Int)×PUnit) ((Int×Int)×Int×PUnit) (fun x=>j (x.1,x.2.1,aC)) fun j=>cond t (ah (gB t_4 t_2) fun t=>j (!v6,t,aC)) (ah (gB t_2 t_4) fun t=>j (v6,t,aC)))) none) none)) none) none) none
abbrev t95:=(Int×Int)->(Int×Int)->Option ((Int×Int)×Int×Unit)
def cQ:t95:=vr lpK jnK bZ bf aE bn bH dX iP gB fT
def k95 (cQ:t95):Ctr:=⟨[T38,T38],[],[],.tup [T38,i64],fun x _ _=>cQ x.1 x.2.1⟩
def c95:Ctr:=k95 cQ
theorem e95 (lp:Lp) (jn:Jn) (bZ:t96) (bf:t97) (aE:t94) (bn:t98) (bH:t99) (dX:Ms) (iP:Y5) (gB:Y7) (fT:VX):∀x F y,vr lp jn bZ bf aE bn bH dX iP gB fT x.1 x.2.1=rC lp jn [(163,adH fT),(162,⟨[rP,rP],[],[],.one rP,fun x _ _=>gB x.1 x.2.1⟩),(160,⟨[rP,rP],[],[],.one rP,fun x _ _=>iP x.1 x.2.1⟩),(161,Y1 dX),(99,k99 bH),(98,k98 bn),(94,k94 aE),(97,k97 bf),(96,k96 bZ)] 95 f95 c95 x F y:=fun x F y=>by kernel_rfl
theorem Zd:c95.ok prog 95:=od (aa (aa (aa (aa (aa (aa (aa (aa (aa (aV) rfl Wa) rfl Rm) rfl Jf) rfl Zx) rfl X1) rfl WO) rfl ZS) rfl aaF) rfl acD) func95 (e95 lpK jnK bZ bf aE bn bH dX iP gB fT)
set_option maxRecDepth 100000
def rA (lp:Lp) (_:Jn) (x0:ty0):Option Bool :=
 
 let v3:=decide ((↑(aq x0.1):Int)>9);
 let v4:=!v3;
 let v5:=!v4||v4;cond v5 (cond v5 (cond v5 (cond (v3||v4) (cond (cond v3 true (decide ((↑(aq x0.2):Int)>9))) (some false) (lp (Int
  × PUnit) Bool (fun again x=>cond (decide (x.1<(↑(aq x0.1):Int))) (cond (inB x.1 (aq x0.1)) (cond (decide
  ((↑(ByteArray.size (aT x0.1 (aS x.1) ({ data:={ toList:=[] } },0)).1):Int)>60)) (some false) (again (aQ .i64 (x.1 +
  1),aC))) none) (lp (Int×PUnit) Bool (fun again x =>
 let v10:=inB x.1 (aq x0.2);
 let v11:=decide ((↑(ByteArray.size (aT x0.2 (aS x.1) ({ data:={ toList:=[] } },[],false)).1):Int)>60);
 let v12:=!v11;
 let v13:=!v12;
 let v14:Bool:=v13||v12;cond (decide (x.1<(↑(aq x0.2):Int))) (cond v10 (cond v14 (cond (v14&&(v14&&(v13||v10))) (cond v14 (cond v14 (cond v14 (cond v14 (cond (v11||v12) (cond (cond v11 true (decide ((↑(aq (aT x0.2 (aS x.1) ({ data:={ toList:=[] } },[],false)).2.1):Int) >
  13))) (some false) (lp (Int×PUnit) Bool (fun again_1 x_1=>cond v10 (cond (decide (x_1.1<(↑(aq (aT
  x0.2 (aS x.1) ({ data:={ toList:=[] } },[],false)).2.1):Int))) (cond v10 (cond (inB x_1.1 (aq (aT x0.2 (aS x.1) ({ data:={
  toList:=[] } },[],false)).2.1)) (cond (decide ((↑(ByteArray.size (aT (aT x0.2 (aS x.1) ({ data:={ toList:=[] } },[],false)).2.1 (aS
  x_1.1) ({ data:={ toList:=[] } },0,0,0)).1):Int)>60)) (some false) (again_1 (aQ .i64 (x_1.1+1),
  aC))) none) none) (again (aQ .i64 (x.1+1),aC))) none) (0,aC))) none) none) none) none) none) none) none) none) (some true)) (0,aC))) (0,aC))) none) none) none) none
abbrev t15:=ty0->Option (Bool)
def iH:t15:=rA lpK jnK
def c15:Ctr:=⟨[T50],[],[],.one .bool,fun x _ _=>iH x.1⟩
theorem e15 (lp:Lp) (jn:Jn):∀x F y,rA lp jn x.1=rC lp jn [] 15 f15 c15 x F y:=fun x F y=>by kernel_rfl
theorem afC:c15.ok prog 15:=od (aV) func15 (e15 lpK jnK)
def oV (lp:Lp) (_:Jn) (aB:t57) (bW:t58) (x0:ty0) (x1:List Int):Option (((List Int)×List ((List Int)×Int×Int))×Int×Unit) :=
 ah (aB x0) fun (t:List (List Int)×Int×PUnit)=>cond (!decide (t.2.1=0)) (some (([],[]),t.2.1,aC)) (ah (bW x0) fun (t_1
  : List Int×Int×PUnit)=>cond (!decide (t_1.2.1=0)) (some (([],[]),t_1.2.1,aC)) (lp (Int×List Int×List (List Int×Int×Int)×PUnit) ((List
  Int×List (List Int×Int×Int))×Int×PUnit) (fun again x=>cond (decide (x.1<(↑(aq t.1):Int))) (cond (inB x.1 (aq t.1)) (cond (inB x.1 (aq
  t_1.1)) (cond (dS (aq x.2.2.1+1) 40) (again (aQ .i64 (x.1+1),x.2.1,x.2.2.1++[(aT t.1
  (aS x.1) [],3,aT t_1.1 (aS x.1) 0)],aC)) none) none) none) (some ((x.2.1,x.2.2.1),0,
  aC))) (0,x1,[],aC)))
abbrev TV:=ty0->(List Int)->Option (((List Int)×List ((List Int)×Int×Int))×Int×Unit)
def gm:TV:=oV lpK jnK aB bW
def ab9 (gm:TV):Ctr:=⟨[T50,(.sl i64)],[],[],.tup [xx,i64],fun x _ _=>gm x.1 x.2.1⟩
def abj:Ctr:=ab9 gm
theorem agw (lp:Lp) (jn:Jn) (aB:t57) (bW:t58):∀x F y,oV lp jn aB bW x.1 x.2.1=rC lp jn [(58,k58 bW),(57,k57 aB)] 112 f112 abj x F y:=fun x F y=>by kernel_rfl
theorem aaY:abj.ok prog 112:=od (aa (aa (aV) rfl Od) rfl aee) func112 (agw lpK jnK aB bW)
def lH (_:Lp) (_:Jn) (gm:TV) (eo:X6) (x0:ty0):Option (((List Int)×List ((List Int)×Int×Int))×Int×Unit) :=
 ah (eo [1] (↑(aq x0.2):Int)) fun t=>ah (gm x0 t) fun (t:(List Int×List (List Int×Int×Int))×Int×PUnit)=>some
  (t.1,t.2.1,aC)
abbrev t60:=ty0->Option (((List Int)×List ((List Int)×Int×Int))×Int×Unit)
def bv:t60:=lH lpK jnK gm eo
def k60 (bv:t60):Ctr:=⟨[T50],[],[],.tup [xx,i64],fun x _ _=>bv x.1⟩
def c60:Ctr:=k60 bv
theorem e60 (lp:Lp) (jn:Jn) (gm:TV) (eo:X6):∀(x:TsS c60.as) (F:TsF c60.fs) (y:TsS c60.cs),lH lp jn gm eo x.1=wE lp jn (cx [(112,ab9 gm)] [(140,ma),(128,lu),(113,⟨[(.sl i64),i64],3,i64,fun x=>eo x.1 x.2.1⟩),(137,kS),(241,jK),(240,jA),(109,jU)]) dI 4 60 f60 c60 x F y:=fun x F y=>by kernel_rfl
theorem X7:c60.ok prog 60:=od (aa (aV) rfl aaY) func60 (e60 lpK jnK gm eo)
def ln (_:Lp) (_:Jn) (x0:Int) (y0:Int):Option Bool :=
 
 let v4:=decide (x0<aQ .i64 (0 - y0));
 let v5:=!v4;
 let v6:=!v5||v5;cond (v6&&v6) (cond (v4||v5) (some (cond v4 true (decide (x0>y0)))) none) none
abbrev XY:=(Int)->(Int)->Option (Bool)
def cX:XY:=ln lpK jnK
def acx:Ctr:=⟨[i64],[],[i64],.one .bool,fun x _ y=>cX x.1 y.1⟩
theorem af2 (lp:Lp) (jn:Jn):∀x F y,ln lp jn x.1 y.1=rC lp jn [] 184 f184 acx x F y:=fun x F y=>by kernel_rfl
theorem ZJ:acx.ok prog 184:=od (aV) func184 (af2 lpK jnK)
def mD (_:Lp) (_:Jn) (cX:XY) (x0:Int):Option ((Int×Unit)->Option Bool) :=
 some fun x=>cX x.1 x0
abbrev W6:=(Int)->Option ((Int×Unit)->Option Bool)
def eD:W6:=mD lpK jnK cX
def Yv:FCtr:=⟨[i64],[i64],.bool,fun x=>eD x.1⟩
theorem ahj (lp:Lp) (jn:Jn) (cX:XY):∀x:TsS Yv.as,mD lp jn cX x.1=XO lp jn (cx [(184,⟨[i64],[],[i64],.one .bool,fun x _ y=>cX x.1 y.1⟩)] [(140,ma),(128,lu),(113,lc),(137,kS),(241,jK),(240,jA),(109,jU)]) dI 4 183 f183 Yv x:=fun x=>by kernel_rfl
theorem YG:Yv.ok prog 183:=FCtr.of_den (fq (aa (aV) (by kernel_rfl) ZJ)) eK (hl:=dI) (d:=4) func183 rfl (by decide) (ahj lpK jnK cX)
def mG (lp:Lp) (_:Jn) (x0:List ((List Int)×Int×Int)) (f0:((((List Int)×Int×Int)×Unit)->Option Bool)):Option Int :=
 lp (Int×PUnit) Int (fun again x=>cond (decide (x.1<(↑(aq x0):Int))) (cond (inB x.1 (aq x0)) (ah (f0
  (aT x0 (aS x.1) ([],0,0),aC)) fun t=>cond t (some x.1) (again (aQ .i64 (x.1+1),aC))) none) (some (-1))) (0,aC)
abbrev US:=(List ((List Int)×Int×Int))->(((((List Int)×Int×Int)×Unit)->Option Bool))->Option (Int)
def du:US:=mG lpK jnK
def ac5 (du:US):Ctr:=⟨[(.sl JL)],[([JL],.bool)],[],.one i64,fun x F _=>du x.1 F.1⟩
def ZO:Ctr:=ac5 du
theorem afD (lp:Lp) (jn:Jn):∀x F y,mG lp jn x.1 F.1=rC lp jn [] 229 f229 ZO x F y:=fun x F y=>by kernel_rfl
theorem ab8:ZO.ok prog 229:=od (aV) func229 (afD lpK jnK)
def lh (_:Lp) (_:Jn) (du:US) (x0:List ((List Int)×Int×Int)) (f0:((((List Int)×Int×Int)×Unit)->Option Bool)):Option Bool :=
 ah (du x0 f0) fun t=>some (decide (t>=0))
def dF (x0:List ((List Int)×Int×Int)) (f0:((((List Int)×Int×Int)×Unit)->Option Bool)):Option Bool:=lh lpK jnK du x0 f0
def aaI (dF:(List ((List Int)×Int×Int))->(((((List Int)×Int×Int)×Unit)->Option Bool))->Option (Bool)):Ctr:=⟨[(.sl JL)],[([JL],.bool)],[],.one .bool,fun x F _=>dF x.1 F.1⟩
def abI:Ctr:=aaI dF
theorem afL (lp:Lp) (jn:Jn) (du:US):∀x F y,lh lp jn du x.1 F.1=rC lp jn [(229,ac5 du)] 185 f185 abI x F y:=fun x F y=>by kernel_rfl
theorem abA:abI.ok prog 185:=od (aa (aV) rfl ab8) func185 (afL lpK jnK du)
def ov (lp:Lp) (_:Jn) (aL:L9) (_:(List ((List Int)×Int×Int))->(((((List Int)×Int×Int)×Unit)->Option Bool))->Option (Bool)) (eD:W6) (x0:ty6):Option Bool :=
 
 let v3:=decide ((↑(aq x0.1):Int)<1);
 let v4:=!v3;
 let v5:=cond v3 true (decide ((↑(aq x0.1):Int)>12));
 let v6:=!v4||v4;
 let v7:=!v5;
 let v8:=cond v5 true (decide ((↑(aq x0.2):Int)>6));
 let v9:=!v8;
 let v10:=!v7||v7;
 let v11:=!v9||v9;cond v6 (cond v6 (cond v6 (cond (v3||v4) (cond v10 (cond v10 (cond v10 (cond (v5||v7) (cond v11 (cond v11 (ah (cond v9 (
  eD 1048576) (some fun (_:Int×PUnit)=>none)) fun (t:Int×PUnit->Option Bool)=>cond (v11&&v11) (ah (cond v9 (aL x0.1 t) (some false)) fun t=>cond (v8||v9) (cond (cond v8 true t) (some false) (lp (Int×PUnit) Bool (fun again x =>
 let v16:=aT x0.2 (aS x.1) ([],0,0);
 let v17:=decide (v16.2.1<1);
 let v18:=decide (v16.2.1>3);
 let v19:=!decide ((↑(aq v16.1):Int)=(↑(aq x0.1):Int));
 let v20:=!v19;
 let v21:=!v20||v20;cond (decide (x.1<(↑(aq x0.2):Int))) (cond (inB x.1 (aq x0.2)) (cond v21 (cond v21 (ah (cond v20 (
  eD 1048576) (some fun (_:Int×PUnit)=>none)) fun (t:Int×PUnit->Option Bool)=>cond (v21&&v21) (ah (cond v20 (aL v16.1 t) (some false)) fun t =>
 let v24:=cond v19 true t;
 let v25:=!v24;
 let v26:=cond v24 true v17;
 let v27:=!v26;
 let v28:=cond v26 true v18;
 let v29:=!v25||v25;
 let v30:=!v28;
 let v31:=!v27||v27;
 let v32:=!v30||v30;cond (v19||v20) (cond v29 (cond v29 (cond (v24||v25) (cond v31 (cond v31 (cond (v26||v27) (cond v32 (ah (cond v30 (
  eD 1073741824) (some fun (_:Int×PUnit)=>none)) fun (t:Int×PUnit->Option Bool)=>cond v32 (cond (v32&&v32) (ah (cond v30 (t (v16.2.2,
  aC)) (some false)) fun t=>cond (v28||v30) (cond (cond v28 true t) (some !decide (x.1>=0)) (again (aQ .i64 (x.1+(1 :
  Int)),aC))) none) none) none) none) none) none) none) none) none) none) none) none) none) none) none) (some
  !decide ((-1:Int)>=0))) (0,aC))) none) none) none) none) none) none) none) none) none) none) none) none
abbrev GE:=ty6->Option (Bool)
def bE:GE:=ov lpK jnK aL dF eD
def VD (bE:GE):Ctr:=⟨[xx],[],[],.one .bool,fun x _ _=>bE x.1⟩
def Sp:Ctr:=VD bE
theorem afq (lp:Lp) (jn:Jn) (aL:L9) (dF:(List ((List Int)×Int×Int))->(((((List Int)×Int×Int)×Unit)->Option Bool))->Option (Bool)) (eD:W6):∀(x:TsS Sp.as) (F:TsF Sp.fs) (y:TsS Sp.cs),ov lp jn aL dF eD x.1=wE lp jn (Dk FJ Fg (aao [(183,⟨[i64],[i64],.bool,fun x=>eD x.1⟩)] (ko prog shs tp its [(185,aaI dF),(179,X3 aL)] [(140,ma),(128,lu),(113,lc),(137,kS),(241,jK),(240,jA),(109,jU)]))) dI 4 114 f114 Sp x F y:=fun x F y=>by kernel_rfl
theorem Rr:Sp.ok prog 114:=Ctr.of_den (fq (VI (aa (aa (aV) (by kernel_rfl) W0) (by kernel_rfl) abA) (M8 (by kernel_rfl) YG (RN)))) eK (hl:=dI) (d:=4) func114 rfl (by decide) (afq lpK jnK aL dF eD)
def vo (_:Lp) (_:Jn) (x0:Int):Option Int :=
 
 let v3:=aQ .u64 x0;cond (decide (x0<0)) (some (aQ .u64 (0 - v3))) (some v3)
abbrev MI:=(Int)->Option (Int)
def cY:MI:=vo lpK jnK
def Xz (cY:MI):Ctr:=⟨[i64],[],[],.one (.int .u64),fun x _ _=>cY x.1⟩
def acB:Ctr:=Xz cY
theorem ae8 (lp:Lp) (jn:Jn):∀x F y,vo lp jn x.1=rC lp jn [] 188 f188 acB x F y:=fun x F y=>by kernel_rfl
theorem Wy:acB.ok prog 188:=od (aV) func188 (ae8 lpK jnK)
def mZ (lp:Lp) (_:Jn) (cY:MI) (x0:List Int) (x1:Int):Option Int :=
 ah (cY x1) fun t=>lp (Int×Int×PUnit) Int (fun again x=>cond (decide (x.2.1<(↑(aq x0) :
  Int))) (cond (inB x.2.1 (aq x0)) (ah (cY (aT x0 (aS x.2.1) 0)) fun t=>again (aQ .i64 (x.1 +
  aQ .i64 t),aQ .i64 (x.2.1+1),aC)) none) (some x.1)) (aQ .i64 (1+aQ .i64 t),
  0,aC)
abbrev XV:=(List Int)->(Int)->Option (Int)
def eU:XV:=mZ lpK jnK cY
def aet:Ctr:=⟨[(.sl i64),i64],[],[],.one i64,fun x _ _=>eU x.1 x.2.1⟩
theorem ahx (lp:Lp) (jn:Jn) (cY:MI):∀x F y,mZ lp jn cY x.1 x.2.1=rC lp jn [(188,Xz cY)] 187 f187 aet x F y:=fun x F y=>by kernel_rfl
theorem adj:aet.ok prog 187:=od (aa (aV) rfl Wy) func187 (ahx lpK jnK cY)
def nq (lp:Lp) (jn:Jn) (x0:List Int):Option Int :=
 jn PUnit Int (fun (_:PUnit)=>cond (inB 0 (aq x0)) (lp (Int×Int×PUnit) Int (fun again x=>cond (decide
  (x.2.1<(↑(aq x0):Int))) (cond (inB x.2.1 (aq x0)) (again (if aT x0 (aS x.2.1) 0>x.1 then aT x0 (aS
  x.2.1) 0 else x.1,aQ .i64 (x.2.1+1),aC)) none) (some x.1)) (aT x0 0 0,1,aC)) none) fun j=>cond (decide ((↑(aq x0):Int)<1)) none (j aC)
abbrev Xr:=(List Int)->Option (Int)
def fC:Xr:=nq lpK jnK
def adS:Ctr:=⟨[(.sl i64)],[],[],.one i64,fun x _ _=>fC x.1⟩
theorem afG (lp:Lp) (jn:Jn):∀x F y,nq lp jn x.1=rC lp jn [] 189 f189 adS x F y:=fun x F y=>by kernel_rfl
theorem abd:adS.ok prog 189:=od (aV) func189 (afG lpK jnK)
def pS (lp:Lp) (_:Jn) (eU:XV) (fC:Xr) (x0:ty6):Option Bool :=
 ah (eU x0.1 0) fun t=>lp (List Int×Int×PUnit) Bool (fun again x =>
 let v6:=aT x0.2 (aS x.2.1) ([],0,0);cond (decide (x.2.1<(↑(aq x0.2):Int))) (cond (inB x.2.1
  (aq x0.2)) (ah (eU v6.1 v6.2.2) fun t=>cond (dS (aq x.1+1) 8) (again (x.1++[t],aQ .i64
  (x.2.1+1),aC)) none) none) (lp (Int×Int×PUnit) Bool (fun again x_1 =>
 let v9:=aT x.1 (aS x_1.2.1) 0;cond (decide (x_1.2.1<(↑(aq x.1):Int))) (cond (inB x_1.2.1 (aq x.1)) (cond (cl
  (bT (aS x_1.2.1)) (aq x.1)) (cond (nzB v9) (cond (decide (x_1.1>aQ .i64 (Int.tdiv 17592186044416 v9))) (some false) (
  again (aQ .i64 (x_1.1*v9),aQ .i64 (x_1.2.1+1),aC))) none) none) none) (ah (fC x.1) fun t=>cond (nzB t) (some (decide (x_1.1<=aQ .i64 (Int.tdiv 144115188075855872 t)))) none)) (1,0,aC))) ([t],0,
  aC)
abbrev LZ:=ty6->Option (Bool)
def dn:LZ:=pS lpK jnK eU fC
def XJ (dn:LZ):Ctr:=⟨[xx],[],[],.one .bool,fun x _ _=>dn x.1⟩
def adA:Ctr:=XJ dn
theorem ahk (lp:Lp) (jn:Jn) (eU:XV) (fC:Xr):∀x F y,pS lp jn eU fC x.1=rC lp jn [(189,⟨[(.sl i64)],[],[],.one i64,fun x _ _=>fC x.1⟩),(187,⟨[(.sl i64),i64],[],[],.one i64,fun x _ _=>eU x.1 x.2.1⟩)] 115 f115 adA x F y:=fun x F y=>by kernel_rfl
theorem Wv:adA.ok prog 115:=od (aa (aa (aV) rfl adj) rfl abd) func115 (ahk lpK jnK eU fC)
def iK (lp:Lp) (_:Jn) (x0:De) (x1:Int):Option Int :=
 lp (Int×Int×PUnit) Int (fun again x =>
 let v6:Int×PUnit:=(aQ .i64 (x.2.1+1),aC);
 let v7:=aT x0.1 (aS x.2.1) [];cond (decide (x.2.1<(↑(aq x0.1):Int))) (cond (inB x.2.1 (aq x0.1)) (cond (inB x.2.1
  (aq x0.2.2.1)) (cond (decide (aT x0.2.2.1 (aS x.2.1) 0>=x0.2.2.2.2.2.1)) (cond (inB x1 (aq v7)) (again
  (aQ .i64 (x.1+aT v7 (aS x1) 0),v6)) none) (again (x.1,v6))) none) none) (some x.1)) (0,0,aC)
abbrev Mw:=De->(Int)->Option (Int)
def aG:Mw:=iK lpK jnK
def Xb (aG:Mw):PCtr:=⟨M0,[i64],.one i64,fun x y=>aG x y.1⟩
def VR:PCtr:=Xb aG
theorem afi (lp:Lp) (jn:Jn):∀(x:VR.s.T) (y:TsS VR.as),iK lp jn x y.1=Jb lp jn (cx [] [(140,ma),(128,lu),(113,lc),(137,kS),(241,jK),(240,jA),(109,jU)]) dI 4 121 f121 VR x y:=fun x y=>by kernel_rfl
theorem WY:VR.ok prog 121:=PCtr.of_den (fq (aV)) eK (hl:=dI) (d:=4) func121 rfl (by decide) (afi lpK jnK)
def ou (_:Lp) (_:Jn) (bF:Dj) (cY:MI) (x0:Int) (x1:Int):Option (Bool×Int×Int) :=
 
 let v4:=!decide (decide (x0<0)=decide (x1<0));
 let v5:=!v4;
 let v6:Bool:=v5||v4;ah (cY x0) fun t=>ah (cY x1) fun t_1=>ah (bF t t_1) fun (t:Int×Int×PUnit) =>
 let v10:=!decide (t.1=0);
 let v11:Bool:=v4&&!v10;cond v6 (cond v6 (cond (!v11||v11) (cond ((v5||v6)&&(v5||(v10||(v5||v11)))) (cond v6 (some (cond v4 (cond v10 true (!decide
  (t.2.1=0))) false,t.1,t.2.1)) none) none) none) none) none
abbrev My:=(Int)->(Int)->Option (Bool×Int×Int)
def cg:My:=ou lpK jnK bF cY
def YJ (cg:My):Ctr:=⟨[i64,i64],[],[],.one yA,fun x _ _=>cg x.1 x.2.1⟩
def adZ:Ctr:=YJ cg
theorem agb (lp:Lp) (jn:Jn) (bF:Dj) (cY:MI):∀x F y,ou lp jn bF cY x.1 x.2.1=rC lp jn [(188,Xz cY),(164,Oy bF)] 230 f230 adZ x F y:=fun x F y=>by kernel_rfl
theorem WU:adZ.ok prog 230:=od (aa (aa (aV) rfl Lb) rfl Wy) func230 (agb lpK jnK bF cY)
def jb (_:Lp) (_:Jn) (x0:Bool×Int×Int) (x1:Bool×Int×Int):Option Int :=
 
 let v4:=decide (x0.2.1=x1.2.1);
 let v5:=!v4;
 let v6:Bool:=v5||v4;
 let v7:=!v5||v5;
 let v8:=cond v5 (decide (x0.2.1<x1.2.1)) false;
 let v9:=!v8;
 let v10:=!v9;
 let v11:Bool:=v9&&v4;
 let v12:Bool:=v10||v9;
 let v13:=!v11||v11;cond v7 (cond v7 (cond (v7&&v7) (cond v7 (cond v12 (cond v12 (cond (v12&&v12) (cond v12 (cond v13 (cond v13 (cond (v13&&v13) (cond ((v10||v12)&&(v10||(v5||(v10||v11)))) (cond (v8||v9) (cond (cond v8 true (cond v4 (decide (x0.2.2<x1.2.2)) false)) (some (-1)) (
  cond v6 (cond v6 (cond (v6&&v6) (cond v6 (cond (cond v4 (decide (x0.2.2=x1.2.2)) false) (some 0) (some 1)) none) none) none) none)) none) none) none) none) none) none) none) none) none) none) none) none) none
abbrev MJ:=(Bool×Int×Int)->(Bool×Int×Int)->Option (Int)
def aN:MJ:=jb lpK jnK
def Xs (aN:MJ):Ctr:=⟨[yA,yA],[],[],.one i64,fun x _ _=>aN x.1 x.2.1⟩
def aeo:Ctr:=Xs aN
theorem ahc (lp:Lp) (jn:Jn):∀x F y,jb lp jn x.1 x.2.1=rC lp jn [] 258 f258 aeo x F y:=fun x F y=>by kernel_rfl
theorem Wx:aeo.ok prog 258:=od (aV) func258 (ahc lpK jnK)
def jO (_:Lp) (jn:Jn) (aN:MJ) (x0:Bool×Int×Int) (x1:Bool×Int×Int):Option (Bool×Int×Int) :=
 
 let v4:=!x0.1;
 let v5:=!x1.1;
 let v6:=!v4;
 let v7:Bool:=v4&&v5;
 let v8:Bool:=v6||v4;
 let v9:=!v7;
 let v10:Bool:=v9||v7;
 let v11:=!decide (x1.2.1=0);
 let v12:Bool:=v7&&!v11;
 let v13:=decide ((0:Int)<=0)&&decide ((0:Int)<=1);
 let v14:=!v12||v12;cond (!decide (x0.1=x1.1)) (cond v13 (cond (decide (0<=rU x0.2.2 x1.2.2 0)&&decide (rU x0.2.2 x1.2.2 (0 :
  Int)<=1)) (cond v8 (cond v8 (cond v8 (cond v10 (cond v10 (cond v10 (cond v14 (cond v14 (cond ((v9||v10)&&(v9||(v11||(v9||v12)))) (cond ((v6
  || v8)&&(v6||(!v5||(v6||v7)))) (cond (x0.1||v4) (some (cond x0.1 true (cond v5 (cond v11 true (!decide (x1.2.2=0))) false),AP
  x0.2.1 x1.2.1 (rU x0.2.2 x1.2.2 0),AP x0.2.2 x1.2.2 0)) none) none) none) none) none) none) none) none) none) none) none) none) none) (ah (aN x0 x1) fun t=>jn (Bool×(Bool×Int×Int)×(Bool×Int×Int)×PUnit) (Bool×Int×Int)
  (fun x =>
 let v17:=!x.1;
 let v18:Bool:=v17||x.1;
 let v19:=!decide (xA x.2.1.2.1 x.2.2.1.2.1 (qt x.2.1.2.2 x.2.2.1.2.2 0)=0);
 let v20:Bool:=x.1&&!v19;cond v13 (cond (decide (0<=qt x.2.1.2.2 x.2.2.1.2.2 0)&&decide (qt x.2.1.2.2 x.2.2.1.2.2 (0 :
  Int)<=1)) (cond v18 (cond v18 (cond (!v20||v20) (cond ((v17||v18)&&(v17||(v19||(v17||v20)))) (cond v18 (some (cond x.1 (cond v19 true (
  !decide (xA x.2.1.2.2 x.2.2.1.2.2 0=0))) false,xA x.2.1.2.1 x.2.2.1.2.1 (qt x.2.1.2.2 x.2.2.1.2.2 (0 :
  Int)),xA x.2.1.2.2 x.2.2.1.2.2 0)) none) none) none) none) none) none) none) fun j=>cond (decide (t<0)) (j (v4,x1,x0,aC)) (j (x0.1,x0,x1,aC)))
abbrev TK:=(Bool×Int×Int)->(Bool×Int×Int)->Option (Bool×Int×Int)
def ce:TK:=jO lpK jnK aN
def adF (ce:TK):Ctr:=⟨[yA,yA],[],[],.one yA,fun x _ _=>ce x.1 x.2.1⟩
def ac7:Ctr:=adF ce
theorem ae0 (lp:Lp) (jn:Jn) (aN:MJ):∀x F y,jO lp jn aN x.1 x.2.1=rC lp jn [(258,Xs aN)] 231 f231 ac7 x F y:=fun x F y=>by kernel_rfl
theorem aeB:ac7.ok prog 231:=od (aa (aV) rfl Wx) func231 (ae0 lpK jnK aN)
def jZ (_:Lp) (_:Jn) (cH:IA) (x0:Bool×Int×Int) (x1:Int):Option Int :=
 ah (cH x0.2.1 x0.2.2 (aQ .u64 x1)) fun (t:Int×Int×PUnit) =>
 let v5:=aQ .i64 t.1;cond x0.1 (some (aQ .i64 (0 - v5))) (some v5)
abbrev YT:=(Bool×Int×Int)->(Int)->Option (Int)
def cU:YT:=jZ lpK jnK cH
def adX:Ctr:=⟨[yA,i64],[],[],.one i64,fun x _ _=>cU x.1 x.2.1⟩
theorem afE (lp:Lp) (jn:Jn) (cH:IA):∀x F y,jZ lp jn cH x.1 x.2.1=rC lp jn [(220,Ul cH)] 232 f232 adX x F y:=fun x F y=>by kernel_rfl
theorem aew:adX.ok prog 232:=od (aa (aV) rfl OC) func232 (afE lpK jnK cH)
def ky (lp:Lp) (_:Jn) (cg:My) (ce:TK) (cU:YT) (x0:List Nat×List (Option (List Int))) (x1:Int) (x2:List Int) (x3:List Int) (x4:List Int) (x5:Int) (x6:Int) (x7:Int) (x8:Int):Option ((List Nat×List (Option (List Int)))×Int×(List Int)×(List Int)×(List Int)×Int×Int×Unit) :=
 
 let v11:List Int×List Int×List Int×Int×Int×PUnit:=(iF x2 (aS x7) x8,x3,x4,x5,x6,aC);cond (inB x7 (aq x0.1)) (cond (cl (bT
  (aS x7)) (aq x0.1)) (cond (inB x8 (aq (bD x0.2 (aT x0.1 (aS x7) 0)))) (cond (cl (bT (aS x8)) (aq
  (bD x0.2 (aT x0.1 (aS x7) 0)))) (lp (Int×(List Nat×List (Option (List Int)))×PUnit) ((List Nat×List (Option (List Int)))×Int×List Int×List
  Int×List Int×Int×Int×PUnit) (fun again x =>
 let v14:=aQ .i64 (x.1+1);
 let v15:(List Nat×List (Option (List Int)))×PUnit:=(x.2.1,aC);
 let v16:Int×(List Nat×List (Option (List Int)))×PUnit:=(0,v15);cond (decide (x.1<(↑(aq x0.1):Int))) (cond (inB x.1 (aq x.2.1.1)) (
  cond (cl (bT (aS x.1)) (aq x.2.1.1)) (cond (decide (x.1=x7)) (again (v14,v15)) (cond (inB x8 (aq (bD x.2.1.2 (aT
  x.2.1.1 (aS x.1) 0)))) (cond (cl (bT (aS x8)) (aq (bD x.2.1.2 (aT x.2.1.1 (aS x.1) 0)))) (cond (
  fK x.2.1.2 (aT x.2.1.1 (aS x.1) 0)) (lp (Int×(List Nat×List (Option (List Int)))×PUnit) ((List Nat×List (Option (List Int)))×Int ×
  List Int×List Int×List Int×Int×Int×PUnit) (fun again_1 x_1=>cond (decide (x_1.1<(↑(aq (bD x.2.1.2 (aT
  x.2.1.1 (aS x.1) 0))):Int))) (cond (inB x_1.1 (aq (bD x_1.2.1.2 (aT x.2.1.1 (aS x.1) 0)))) (cond (cl
  (bT (aS x_1.1)) (aq (bD x_1.2.1.2 (aT x.2.1.1 (aS x.1) 0)))) (ah (cg (aT (bD x_1.2.1.2
  (aT x.2.1.1 (aS x.1) 0)) (aS x_1.1) 0) (aT (bD x0.2 (aT x0.1 (aS x7) 0)) (aS x8) 0)) fun
  t=>cond (inB x7 (aq x_1.2.1.1)) (cond (cl (bT (aS x7)) (aq x_1.2.1.1)) (cond (inB x_1.1 (aq (bD
  x_1.2.1.2 (aT x_1.2.1.1 (aS x7) 0)))) (cond (cl (bT (aS x_1.1)) (aq (bD x_1.2.1.2 (aT x_1.2.1.1
  (aS x7) 0)))) (ah (cg (aT (bD x.2.1.2 (aT x.2.1.1 (aS x.1) 0)) (aS x8) 0) (aT (bD
  x_1.2.1.2 (aT x_1.2.1.1 (aS x7) 0)) (aS x_1.1) 0)) fun t_1=>ah (ce t t_1) fun t=>ah (cU t x1) fun t=>cond (inB x_1.1 (aq (bD x_1.2.1.2 (aT x.2.1.1 (aS x.1) 0)))) (cond (
  cl (bT (aS x_1.1)) (aq (bD x_1.2.1.2 (aT x.2.1.1 (aS x.1) 0)))) (again_1 (aQ .i64 (x_1.1+(1 :
  Int)),(x_1.2.1.1,iF x_1.2.1.2 (aT x.2.1.1 (aS x.1) 0) (some (iF (bD x_1.2.1.2 (aT x.2.1.1 (aS x.1)
  0)) (aS x_1.1) t))),aC)) none) none) none) none) none) none) none) none) (again (v14,x_1.2.1,aC))) v16) none) none) none)) none) none) (cond (inB x7 (aq x2)) (cond (cl (bT (aS x7)) (aq x2)) (cond (decide (aT (bD x0.2
  (aT x0.1 (aS x7) 0)) (aS x8) 0<0)) (lp (Int×(List Nat×List (Option (List Int)))×PUnit) ((List Nat×List (Option (List Int))) ×
  Int×List Int×List Int×List Int×Int×Int×PUnit) (fun again x_1=>cond (decide (x_1.1<(↑(aq x.2.1.1):Int))) (cond (inB
  x_1.1 (aq x_1.2.1.1)) (cond (cl (bT (aS x_1.1)) (aq x_1.2.1.1)) (cond (fK x_1.2.1.2 (aT x_1.2.1.1 (aS
  x_1.1) 0)) (lp (Int×(List Nat×List (Option (List Int)))×PUnit) ((List Nat×List (Option (List Int)))×Int×List Int×List Int×List Int×Int×Int×PUnit) (fun
  again_1 x=>cond (decide (x.1<(↑(aq (bD x_1.2.1.2 (aT x_1.2.1.1 (aS x_1.1) 0))):Int))) (cond (
  inB x.1 (aq (bD x.2.1.2 (aT x_1.2.1.1 (aS x_1.1) 0)))) (cond (cl (bT (aS x.1)) (aq (bD x.2.1.2
  (aT x_1.2.1.1 (aS x_1.1) 0)))) (cond (inB x.1 (aq (bD x.2.1.2 (aT x_1.2.1.1 (aS x_1.1) 0)))) (cond (
  cl (bT (aS x.1)) (aq (bD x.2.1.2 (aT x_1.2.1.1 (aS x_1.1) 0)))) (again_1 (aQ .i64 (x.1+(1 :
  Int)),(x.2.1.1,iF x.2.1.2 (aT x_1.2.1.1 (aS x_1.1) 0) (some (iF (bD x.2.1.2 (aT x_1.2.1.1 (aS
  x_1.1) 0)) (aS x.1) (aQ .i64 (0 - aT (bD x.2.1.2 (aT x_1.2.1.1 (aS x_1.1) 0)) (aS x.1)
  0))))),aC)) none) none) none) none) (again (aQ .i64 (x_1.1+1),x.2.1,aC))) (0,x_1.2.1,
  aC)) none) none) none) (some (x_1.2.1,aQ .i64 (0 - aT (bD x0.2 (aT x0.1 (aS x7) 0)) (aS
  x8) 0),v11))) v16) (some (x.2.1,aT (bD x0.2 (aT x0.1 (aS x7) 0)) (aS x8) 0,v11))) none) none)) (0,x0,
  aC)) none) none) none) none
abbrev L6:=(List Nat×List (Option (List Int)))->(Int)->(List Int)->(List Int)->(List Int)->(Int)->(Int)->(Int)->(Int)->Option ((List Nat×List (Option (List Int)))×Int×(List Int)×(List Int)×(List Int)×Int×Int×Unit)
def bi:L6:=ky lpK jnK cg ce cU
def XH (bi:L6):SCtr:=⟨[.b [.x (.tab 29 .ref 3 i64),.d i64,.row 3 i64,.row 3 i64,.row 3 i64,.d i64,.d i64],.d i64,.d i64],[],fun x=>bi x.1 x.2.1 x.2.2.1 x.2.2.2.1 x.2.2.2.2.1 x.2.2.2.2.2.1 x.2.2.2.2.2.2.1 x.2.2.2.2.2.2.2.1 x.2.2.2.2.2.2.2.2.1⟩
def Y8:SCtr:=XH bi
theorem aeL (lp:Lp) (jn:Jn) (cg:My) (ce:TK) (cU:YT):∀x:TsR (rhI 0 Y8.ks),ky lp jn cg ce cU x.1 x.2.1 x.2.2.1 x.2.2.2.1 x.2.2.2.2.1 x.2.2.2.2.2.1 x.2.2.2.2.2.2.1 x.2.2.2.2.2.2.2.1 x.2.2.2.2.2.2.2.2.1=QE lp jn (Dn.look []) (cx [(232,⟨[yA,i64],[],[],.one i64,fun x _ _=>cU x.1 x.2.1⟩),(231,adF ce),(230,YJ cg)] [(140,ma),(128,lu),(113,lc),(137,kS),(241,jK),(240,jA),(109,jU)]) dI 4 190 f190 Y8 x:=fun x=>by kernel_rfl
theorem WJ:Y8.ok prog 190:=SCtr.of_den (fq (aa (aa (aa (aV) (by kernel_rfl) WU) (by kernel_rfl) aeB) (by kernel_rfl) aew)) eK (uX) (hl:=dI) (d:=4) func190 rfl (by decide) (aeL lpK jnK cg ce cU)
def kD (_:Lp) (_:Jn) (aN:MJ) (x0:Bool×Int×Int) (x1:Bool×Int×Int):Option Int :=
 
 let v4:=!decide (x0.1=x1.1);
 let v5:=!v4||v4;cond v5 (cond v5 (cond (cond v4 x0.1 false) (some (-1)) (cond v4 (some 1) (cond x0.1 (ah
  (aN x1 x0) fun t=>some t) (ah (aN x0 x1) fun t=>some t)))) none) none
abbrev Yu:=(Bool×Int×Int)->(Bool×Int×Int)->Option (Int)
def dH:Yu:=kD lpK jnK aN
def ZL:Ctr:=⟨[yA,yA],[],[],.one i64,fun x _ _=>dH x.1 x.2.1⟩
theorem ahs (lp:Lp) (jn:Jn) (aN:MJ):∀x F y,kD lp jn aN x.1 x.2.1=rC lp jn [(258,Xs aN)] 233 f233 ZL x F y:=fun x F y=>by kernel_rfl
theorem aes:ZL.ok prog 233:=od (aa (aV) rfl Wx) func233 (ahs lpK jnK aN)
def jP (lp:Lp) (_:Jn) (cg:My) (dH:Yu) (x0:De) (x1:Int):Option Int :=
 lp (Int×Int×PUnit) Int (fun again x =>
 let v6:Int×PUnit:=(aQ .i64 (x.2.1+1),aC);
 let v7:=inB x.1 (aq x0.1);
 let v8:=aT x0.1 (aS x.1) [];
 let v9:=aT x0.1 (aS x.2.1) [];
 let v10:=inB x1 (aq v9);cond (decide (x.2.1<(↑(aq x0.1):Int))) (cond (inB x.2.1 (aq x0.1)) (cond v10 (cond (decide (aT v9
  (aS x1) 0<=0)) (again (x.1,v6)) (cond (decide (x.1<0)) (again (x.2.1,v6)) (cond (inB x0.2.2.2.2.2.2 (aq v9)) (
  cond v7 (cond (inB x1 (aq v8)) (ah (cg (aT v9 (aS x0.2.2.2.2.2.2) 0) (aT v8 (aS x1) 0)) fun t=>cond v7 (cond (inB x0.2.2.2.2.2.2 (aq v8)) (cond v10 (ah (cg (aT v8 (aS x0.2.2.2.2.2.2) 0)
  (aT v9 (aS x1) 0)) fun t_1=>ah (dH t t_1) fun t =>
 let v14:=decide (t=0);
 let v15:=decide (t<0);
 let v16:=!v15;
 let v17:=!v16;
 let v18:Bool:=v16&&v14;
 let v19:=!v18;
 let v20:Bool:=v17||v16;
 let v21:Bool:=v19||v18;cond v20 (cond v20 (cond v21 (cond v21 (cond v21 (cond (v21&&(v21&&(v19||inB x.2.1 (aq x0.2.2.1)))) (cond v21 (
  cond v21 (cond v21 (cond v21 (cond (v21&&(v21&&(v19||inB x.1 (aq x0.2.2.1)))) (cond v21 (cond (v21&&v21) (cond ((v17||v20)&&(v17||(!v14 ||
  (v17||v18)))) (cond (v15||v16) (cond (cond v15 true (cond v14 (decide (aT x0.2.2.1 (aS x.2.1) 0<aT x0.2.2.1 (aS
  x.1) 0)) false)) (again (x.2.1,v6)) (again (x.1,v6))) none) none) none) none) none) none) none) none) none) none) none) none) none) none) none) none) none) none) none) none) none))) none) none) (some x.1)) ((-1),0,aC)
abbrev MU:=De->(Int)->Option (Int)
def aY:MU:=jP lpK jnK cg dH
def YI (aY:MU):PCtr:=⟨M0,[i64],.one i64,fun x y=>aY x y.1⟩
def UB:PCtr:=YI aY
theorem afz (lp:Lp) (jn:Jn) (cg:My) (dH:Yu):∀(x:UB.s.T) (y:TsS UB.as),jP lp jn cg dH x y.1=Jb lp jn (cx [(233,⟨[yA,yA],[],[],.one i64,fun x _ _=>dH x.1 x.2.1⟩),(230,YJ cg)] [(140,ma),(128,lu),(113,lc),(137,kS),(241,jK),(240,jA),(109,jU)]) dI 4 191 f191 UB x y:=fun x y=>by kernel_rfl
theorem WE:UB.ok prog 191:=PCtr.of_den (fq (aa (aa (aV) (by kernel_rfl) WU) (by kernel_rfl) aes)) eK (hl:=dI) (d:=4) func191 rfl (by decide) (afz lpK jnK cg dH)
def kC (lp:Lp) (_:Jn) (bi:L6) (aG:Mw) (aY:MU) (x0:List Nat×List (Option (List Int))) (x1:Int) (x2:List Int) (x3:List Int) (x4:List Int) (x5:Int) (x6:Int):Option ((List Nat×List (Option (List Int)))×Int×(List Int)×(List Int)×(List Int)×Int×Int×Bool×Unit) :=
 lp ((List Nat×List (Option (List Int)))×Int×List Int×List Int×List Int×Int×Int×PUnit) ((List Nat×List (Option (List Int)))×Int×List Int×List Int×List Int×Int ×
  Int×Bool×PUnit) (fun again x=>lp (Int×Int ×
  PUnit) ((List Nat×List (Option (List Int)))×Int×List Int×List Int×List Int×Int×Int×Bool×PUnit) (fun again_1 x_1 =>
 let v13:=decide (x_1.1<0);
 let v14:Int×PUnit:=(aQ .i64 (x_1.2.1+1),aC);
 let v15:=decide (x_1.2.1<x.2.2.2.2.2.1);
 let v16:=!v15||v15;cond v16 (cond v16 (cond (cond v15 v13 false) (ah (cond (List.all x.1.1 fun x_2=>fK x.1.2 x_2) (
  aG (List.map (fun x_2=>bD x.1.2 x_2) x.1.1,x.2.1,x.2.2.1,x.2.2.2.1,x.2.2.2.2.1,x.2.2.2.2.2.1,
  x.2.2.2.2.2.2.1) x_1.2.1) none) fun t=>cond (decide (t>0)) (again_1 (x_1.2.1,v14)) (again_1 (x_1.1,v14))) (cond v13 (ah
  (cond (List.all x.1.1 fun x_2=>fK x.1.2 x_2) (aG (List.map (fun x_2=>bD x.1.2 x_2) x.1.1,x.2.1,x.2.2.1,
  x.2.2.2.1,x.2.2.2.2.1,x.2.2.2.2.2.1,x.2.2.2.2.2.2.1) x.2.2.2.2.2.2.1) none) fun t=>cond (decide (t>0)) (some (x.1,x.2.1,x.2.2.1,x.2.2.2.1,x.2.2.2.2.1,x.2.2.2.2.2.1,x.2.2.2.2.2.2.1,false,aC)) (lp (Int×(List
  Nat×List (Option (List Int)))×Int×List Int×List Int×List Int×Int×Int×PUnit) ((List Nat×List (Option (List Int)))×Int×List Int×List Int×List Int×Int×Int ×
  Bool×PUnit) (fun again x_2=>cond (
  decide (x_2.1<(↑(aq x.1.1):Int))) (lp (Int×(List Nat×List (Option (List Int)))×Int×List Int×List Int×List Int×Int×Int×PUnit) ((List Nat×List
  (Option (List Int)))×Int×List Int×List Int×List Int×Int×Int×Bool×PUnit) (fun again_2 x =>
 let v22:=aQ .i64 (x.1+1);
 let v23:=decide (x.1<x.2.2.2.2.2.2.1);
 let v24:=!v23;
 let v25:Bool:=v24||v23;
 let v26:(List Nat×List (Option (List Int)))×Int×List Int×List Int×List Int×Int×Int×PUnit:=(x.2.1,x.2.2.1,x.2.2.2.1,x.2.2.2.2.1,
  x.2.2.2.2.2.1,x.2.2.2.2.2.2.1,x.2.2.2.2.2.2.2.1,aC);cond v25 (cond v25 (cond v25 (cond (v25&&(v25&&(v24||inB x_2.1
  (aq x.2.2.2.1)))) (cond (v25&&(v24||cl (bT (aS x_2.1)) (aq x.2.2.2.1))) (cond v25 (cond v25 (cond v25 (cond (v25 &&
  v25) (cond v25 (cond (cond v23 (decide (aT x.2.2.2.1 (aS x_2.1) 0>=x.2.2.2.2.2.2.1)) false) (cond (inB x_2.1 (aq
  x.2.1.1)) (cond (cl (bT (aS x_2.1)) (aq x.2.1.1)) (cond (inB x.1 (aq (bD x.2.1.2 (aT x.2.1.1 (aS
  x_2.1) 0)))) (cond (cl (bT (aS x.1)) (aq (bD x.2.1.2 (aT x.2.1.1 (aS x_2.1) 0)))) (cond (!decide
  (aT (bD x.2.1.2 (aT x.2.1.1 (aS x_2.1) 0)) (aS x.1) 0=0)) (ah (bi x.2.1 x.2.2.1
  x.2.2.2.1 x.2.2.2.2.1 x.2.2.2.2.2.1 x.2.2.2.2.2.2.1 x.2.2.2.2.2.2.2.1 x_2.1 x.1) fun (y:(List Nat×List (Option (List
  Int)))×Int×List Int×List Int×List Int×Int×Int×PUnit)=>again_2 (v22,y.1,y.2.1,y.2.2.1,y.2.2.2.1,y.2.2.2.2.1,y.2.2.2.2.2.1,
  y.2.2.2.2.2.2.1,aC)) (again_2 (v22,v26))) none) none) none) none) (again (aQ .i64 (x_2.1+1),v26))) none) none) none) none) none) none) none) none) none) none) (0,x_2.2.1,x_2.2.2.1,x_2.2.2.2.1,x_2.2.2.2.2.1,
  x_2.2.2.2.2.2.1,x_2.2.2.2.2.2.2.1,x_2.2.2.2.2.2.2.2.1,aC)) (some (x_2.2.1,x_2.2.2.1,x_2.2.2.2.1,
  x_2.2.2.2.2.1,x_2.2.2.2.2.2.1,x_2.2.2.2.2.2.2.1,x_2.2.2.2.2.2.2.2.1,true,aC))) (0,x.1,x.2.1,
  x.2.2.1,x.2.2.2.1,x.2.2.2.2.1,x.2.2.2.2.2.1,x.2.2.2.2.2.2.1,aC))) (ah (cond (List.all x.1.1 fun x_2 =>
  fK x.1.2 x_2) (aY (List.map (fun x_2=>bD x.1.2 x_2) x.1.1,x.2.1,x.2.2.1,x.2.2.2.1,x.2.2.2.2.1,
  x.2.2.2.2.2.1,x.2.2.2.2.2.2.1) x_1.1) none) fun t=>ah (bi x.1 x.2.1 x.2.2.1 x.2.2.2.1
  x.2.2.2.2.1 x.2.2.2.2.2.1 x.2.2.2.2.2.2.1 t x_1.1) fun (y:(List Nat×List (Option (List Int)))×Int×List Int×List Int×List Int×Int ×
  Int×PUnit)=>again (y.1,y.2.1,y.2.2.1,y.2.2.2.1,y.2.2.2.2.1,y.2.2.2.2.2.1,y.2.2.2.2.2.2.1,aC)))) none) none) ((-1),0,aC)) (x0,x1,x2,x3,x4,x5,x6,aC)
abbrev NX:=(List Nat×List (Option (List Int)))->(Int)->(List Int)->(List Int)->(List Int)->(Int)->(Int)->Option ((List Nat×List (Option (List Int)))×Int×(List Int)×(List Int)×(List Int)×Int×Int×Bool×Unit)
def bu:NX:=kC lpK jnK bi aG aY
def Zl (bu:NX):SCtr:=⟨[.b [.x (.tab 29 .ref 3 i64),.d i64,.row 3 i64,.row 3 i64,.row 3 i64,.d i64,.d i64]],[(false,[.d .bool])],fun x=>bu x.1 x.2.1 x.2.2.1 x.2.2.2.1 x.2.2.2.2.1 x.2.2.2.2.2.1 x.2.2.2.2.2.2.1⟩
def Yk:SCtr:=Zl bu
theorem ahy (lp:Lp) (jn:Jn) (bi:L6) (aG:Mw) (aY:MU):∀x:TsR (rhI 0 Yk.ks),kC lp jn bi aG aY x.1 x.2.1 x.2.2.1 x.2.2.2.1 x.2.2.2.2.1 x.2.2.2.2.2.1 x.2.2.2.2.2.2.1=QE lp jn (Dn.look [(190,XH bi)]) (Dk FJ Fg (IG [(191,YI aY),(121,Xb aG)] [] (ko prog shs tp its [] [(140,ma),(128,lu),(113,lc),(137,kS),(241,jK),(240,jA),(109,jU)]))) dI 4 117 f117 Yk x:=fun x=>by kernel_rfl
theorem Wm:Yk.ok prog 117:=SCtr.of_den (fq (vV (aV) (kY (by kernel_rfl) WE (kY (by kernel_rfl) WY (sf))) (sS))) eK (sV WJ (uX)) (hl:=dI) (d:=4) func117 rfl (by decide) (ahy lpK jnK bi aG aY)
def kV (_:Lp) (_:Jn) (x0:De) (x1:Int):Option Int :=
 cond (decide (x1<(↑(aq x0.2.2.2.2.1):Int))) (cond (inB x1 (aq x0.2.2.2.2.1)) (some (aT x0.2.2.2.2.1 (aS x1) 0)) none) (some 0)
abbrev LW:=De->(Int)->Option (Int)
def bm:LW:=kV lpK jnK
def Yc (bm:LW):PCtr:=⟨M0,[i64],.one i64,fun x y=>bm x y.1⟩
def Um:PCtr:=Yc bm
theorem afe (lp:Lp) (jn:Jn):∀(x:Um.s.T) (y:TsS Um.as),kV lp jn x y.1=Jb lp jn (cx [] [(140,ma),(128,lu),(113,lc),(137,kS),(241,jK),(240,jA),(109,jU)]) dI 4 119 f119 Um x y:=fun x y=>by kernel_rfl
theorem WB:Um.ok prog 119:=PCtr.of_den (fq (aV)) eK (hl:=dI) (d:=4) func119 rfl (by decide) (afe lpK jnK)
def jM (lp:Lp) (_:Jn) (bm:LW) (x0:De) (x1:Int):Option Int :=
 ah (bm x0 x1) fun t=>lp (Int×Int×PUnit) Int (fun again x =>
 let v7:=aT x0.1 (aS x.2.1) [];cond (decide (x.2.1<(↑(aq x0.1):Int))) (cond (inB x.2.1 (aq x0.1)) (cond (inB x.2.1
  (aq x0.2.2.1)) (ah (bm x0 (aT x0.2.2.1 (aS x.2.1) 0)) fun t=>cond (inB x1 (aq v7)) (again
  (aQ .i64 (x.1 - aQ .i64 (t*aT v7 (aS x1) 0)),aQ .i64 (x.2.1+1),aC)) none) none) none) (some x.1)) (aQ .i64 (t*x0.2.1),0,aC)
abbrev Zz:=De->(Int)->Option (Int)
def cD:Zz:=jM lpK jnK bm
def VO:PCtr:=⟨M0,[i64],.one i64,fun x y=>cD x y.1⟩
theorem afg (lp:Lp) (jn:Jn) (bm:LW):∀(x:VO.s.T) (y:TsS VO.as),jM lp jn bm x y.1=Jb lp jn (Dk FJ Fg (IG [(119,Yc bm)] [] (ko prog shs tp its [] [(140,ma),(128,lu),(113,lc),(137,kS),(241,jK),(240,jA),(109,jU)]))) dI 4 192 f192 VO x y:=fun x y=>by kernel_rfl
theorem aaH:VO.ok prog 192:=PCtr.of_den (fq (vV (aV) (kY (by kernel_rfl) WB (sf)) (sS))) eK (hl:=dI) (d:=4) func192 rfl (by decide) (afg lpK jnK bm)
def jQ (lp:Lp) (_:Jn) (bi:L6) (aY:MU) (cD:Zz) (x0:List Nat×List (Option (List Int))) (x1:Int) (x2:List Int) (x3:List Int) (x4:List Int) (x5:Int) (x6:Int):Option ((List Nat×List (Option (List Int)))×Int×(List Int)×(List Int)×(List Int)×Int×Int×Bool×Unit) :=
 lp ((List Nat×List (Option (List Int)))×Int×List Int×List Int×List Int×Int×Int×PUnit) ((List Nat×List (Option (List Int)))×Int×List Int×List Int×List Int×Int ×
  Int×Bool×PUnit) (fun again x=>lp (Int×Int ×
  PUnit) ((List Nat×List (Option (List Int)))×Int×List Int×List Int×List Int×Int×Int×Bool×PUnit) (fun again_1 x_1 =>
 let v13:=decide (x_1.1<0);
 let v14:Int×PUnit:=(aQ .i64 (x_1.2.1+1),aC);
 let v15:=decide (x_1.2.1<x.2.2.2.2.2.1);
 let v16:=!v15||v15;cond v16 (cond v16 (cond (cond v15 v13 false) (ah (cond (List.all x.1.1 fun x_2=>fK x.1.2 x_2) (
  cD (List.map (fun x_2=>bD x.1.2 x_2) x.1.1,x.2.1,x.2.2.1,x.2.2.2.1,x.2.2.2.2.1,x.2.2.2.2.2.1,
  x.2.2.2.2.2.2.1) x_1.2.1) none) fun t=>cond (decide (t<0)) (again_1 (x_1.2.1,v14)) (again_1 (x_1.1,v14))) (cond v13 (some
  (x.1,x.2.1,x.2.2.1,x.2.2.2.1,x.2.2.2.2.1,x.2.2.2.2.2.1,x.2.2.2.2.2.2.1,true,aC)) (ah (cond (List.all
  x.1.1 fun x_2=>fK x.1.2 x_2) (aY (List.map (fun x_2=>bD x.1.2 x_2) x.1.1,x.2.1,x.2.2.1,x.2.2.2.1,
  x.2.2.2.2.1,x.2.2.2.2.2.1,x.2.2.2.2.2.2.1) x_1.1) none) fun t=>cond (decide (t<0)) (some (x.1,x.2.1,
  x.2.2.1,x.2.2.2.1,x.2.2.2.2.1,x.2.2.2.2.2.1,x.2.2.2.2.2.2.1,false,aC)) (ah (bi x.1 x.2.1
  x.2.2.1 x.2.2.2.1 x.2.2.2.2.1 x.2.2.2.2.2.1 x.2.2.2.2.2.2.1 t x_1.1) fun (y:(List Nat×List (Option (List Int)))×Int×List Int
  × List Int×List Int×Int×Int×PUnit)=>again (y.1,y.2.1,y.2.2.1,y.2.2.2.1,y.2.2.2.2.1,y.2.2.2.2.2.1,y.2.2.2.2.2.2.1,
  aC))))) none) none) ((-1),0,aC)) (x0,x1,x2,x3,x4,x5,x6,aC)
abbrev Ui:=(List Nat×List (Option (List Int)))->(Int)->(List Int)->(List Int)->(List Int)->(Int)->(Int)->Option ((List Nat×List (Option (List Int)))×Int×(List Int)×(List Int)×(List Int)×Int×Int×Bool×Unit)
def cf:Ui:=jQ lpK jnK bi aY cD
def aa8 (cf:Ui):SCtr:=⟨[.b [.x (.tab 29 .ref 3 i64),.d i64,.row 3 i64,.row 3 i64,.row 3 i64,.d i64,.d i64]],[(false,[.d .bool])],fun x=>cf x.1 x.2.1 x.2.2.1 x.2.2.2.1 x.2.2.2.2.1 x.2.2.2.2.2.1 x.2.2.2.2.2.2.1⟩
def YZ:SCtr:=aa8 cf
theorem aeM (lp:Lp) (jn:Jn) (bi:L6) (aY:MU) (cD:Zz):∀x:TsR (rhI 0 YZ.ks),jQ lp jn bi aY cD x.1 x.2.1 x.2.2.1 x.2.2.2.1 x.2.2.2.2.1 x.2.2.2.2.2.1 x.2.2.2.2.2.2.1=QE lp jn (Dn.look [(190,XH bi)]) (Dk FJ Fg (IG [(192,⟨M0,[i64],.one i64,fun x y=>cD x y.1⟩),(191,YI aY)] [] (ko prog shs tp its [] [(140,ma),(128,lu),(113,lc),(137,kS),(241,jK),(240,jA),(109,jU)]))) dI 4 118 f118 YZ x:=fun x=>by kernel_rfl
theorem abH:YZ.ok prog 118:=SCtr.of_den (fq (vV (aV) (kY (by kernel_rfl) aaH (kY (by kernel_rfl) WE (sf))) (sS))) eK (sV WJ (uX)) (hl:=dI) (d:=4) func118 rfl (by decide) (aeM lpK jnK bi aY cD)
def kH (_:Lp) (_:Jn) (cR:Gs) (x0:De) (x1:Int):Option (Int×Int) :=
 ah (cR x1 x0.2.1) fun (t:(Int×Int)×Int×PUnit)=>some t.1
abbrev L5:=De->(Int)->Option (Int×Int)
def bj:L5:=kH lpK jnK cR
def YE (bj:L5):PCtr:=⟨M0,[i64],.one T38,fun x y=>bj x y.1⟩
def Vb:PCtr:=YE bj
theorem ags (lp:Lp) (jn:Jn) (cR:Gs):∀(x:Vb.s.T) (y:TsS Vb.as),kH lp jn cR x y.1=Jb lp jn (cx [(111,U0 cR)] [(140,ma),(128,lu),(113,lc),(137,kS),(241,jK),(240,jA),(109,jU)]) dI 4 120 f120 Vb x y:=fun x y=>by kernel_rfl
theorem WX:Vb.ok prog 120:=PCtr.of_den (fq (aa (aV) (by kernel_rfl) Pw)) eK (hl:=dI) (d:=4) func120 rfl (by decide) (ags lpK jnK cR)
def lJ (lp:Lp) (jn:Jn) (bE:GE) (dn:LZ) (aj:yI) (bu:NX) (cf:Ui) (bm:LW) (bj:L5) (x0:ty6):Option (((Int×Int)×(List (Int×Int))×List (Int×Int))×Int×Unit) :=
 ah (bE x0) fun t=>cond (!t) (some (((0,0),[],[]),1,aC)) (ah (dn x0) fun t=>cond (!t) (some ((((0 :
  Int),0),[],[]),5,aC)) (lp (Int×Int×PUnit) (((Int×Int)×List (Int×Int)×List (Int×Int))×Int×PUnit) (fun again x =>
 let v7:Int×PUnit:=(aQ .i64 (x.2.1+1),aC);
 let v8:=aQ .i64 ((↑(aq x0.1):Int)+x.1);cond (decide (x.2.1<(↑(aq x0.2):Int))) (cond (inB x.2.1 (aq x0.2)) (
  cond (!decide ((aT x0.2 (aS x.2.1) ([],0,0)).2.1=3)) (again (aQ .i64 (x.1+1),v7)) (again (x.1,
  v7))) none) (ah (aj x0.1) fun t=>lp (Int×Int×(List Nat×List (Option (List Int)))×Int×List Int×List Int×List Int×Int×Int ×
  PUnit) (((Int×Int)×List (Int×Int)×List (Int×Int))×Int×PUnit) (fun again x =>
 let v12:=aQ .i64 (x.1+1);
 let v13:=aT x0.2 (aS x.2.1) ([],0,0);
 let v14:List Int:=bx (aS (aQ .i64 (x.2.2.2.2.2.2.2.2.1+1))) 0;
 let v15:=inB x.1 (aS (aQ .i64 (x.2.2.2.2.2.2.2.2.1+1)));
 let v16:=cl (bT (aS x.1)) (aS (aQ .i64 (x.2.2.2.2.2.2.2.2.1+1)));
 let v17:=aQ .i64 (x.2.2.2.2.2.2.2.1+x.2.1);
 let v18:List Int:=n_ (aS (aQ .i64 (x.2.2.2.2.2.2.2.2.1+1))) v13.1;
 let v19:List Int:=iF (n_ 0 v14++v18++List.drop (0+aq v18) v14) (aS x.2.2.2.2.2.2.2.2.1) v13.2.2;cond (decide
  (x.2.1<(↑(aq x0.2):Int))) (cond (inB x.2.1 (aq x0.2)) (cond (decide (0<=aQ .i64 (x.2.2.2.2.2.2.2.2.1+(1
  : Int)))&&dS (aS (aQ .i64 (x.2.2.2.2.2.2.2.2.1+1))) 8) (cond (inB x.2.2.2.2.2.2.2.2.1 (aS
  (aQ .i64 (x.2.2.2.2.2.2.2.2.1+1)))) (cond (cl (bT (aS x.2.2.2.2.2.2.2.2.1)) (aS (aQ
  IntKind.i64 (x.2.2.2.2.2.2.2.2.1+1)))) (jn (Int×List Int×PUnit) (((Int×Int)×List (Int×Int)×List (Int×Int))×Int×PUnit) (fun x_1 =>
 let v21:List Int×PUnit:=(x_1.2.1,aC);jn (Int×List Int×PUnit) (((Int×Int)×List (Int×Int)×List (Int×Int))×Int×PUnit) (fun x_2=>cond (inB v17 (aq x_2.2.1)) (cond (cl (bT (aS v17)) (aq x_2.2.1)) (cond (dS (aq x.2.2.1.1+1) (24 :
  Nat)) (cond (dS (aq x.2.2.2.2.2.1+1) 8) (cond (dS (aq x.2.2.2.2.1+1) 8) (again (x_1.1,
  aQ .i64 (x.2.1+1),(x.2.2.1.1++[aq x.2.2.1.2+0],x.2.2.1.2++[some (iF x_2.2.1 (aS v17) (1
  : Int))]),x.2.2.2.1,x.2.2.2.2.1++[v17],x.2.2.2.2.2.1++[x_2.1],x.2.2.2.2.2.2.1,x.2.2.2.2.2.2.2.1,
  x.2.2.2.2.2.2.2.2.1,aC)) none) none) none) none) none) fun j=>cond (decide (v13.2.2<0)) (lp (Int×List Int×PUnit) (((Int×Int)×List (Int×Int)×List (Int×Int))×Int×PUnit) (fun again x =>
 let v25:=inB x.1 (aq x.2.1);
 let v26:=cl (bT (aS x.1)) (aq x.2.1);cond (decide (x.1<(↑(aq x_1.2.1):Int))) (cond v25 (cond v26 (cond v25 (cond v26 (again (aQ .i64 (x.1+1),iF x.2.1 (aS x.1) (aQ .i64 (0 - aT x.2.1 (aS x.1) 0)),
  aC)) none) none) none) none) (j ((-1),x.2.1,aC))) (0,v21)) (j (1,v21))) fun j=>cond (decide (v13.2.1=1)) (cond v15 (cond v16 (j (v12,iF v19 (aS x.1) 1,
  aC)) none) none) (jn (Int×List Int×PUnit) (((Int×Int)×List (Int×Int)×List (Int×Int))×Int×PUnit) (fun x=>j (x.1,
  x.2.1,aC)) fun j=>cond (decide (v13.2.1=2)) (cond v15 (cond v16 (j (v12,iF v19 (aS x.1) (-1),aC)) none) none) (j (x.1,v19,aC)))) none) none) none) none) (
  ah (bu x.2.2.1 x.2.2.2.1 x.2.2.2.2.1 x.2.2.2.2.2.1 x.2.2.2.2.2.2.1 x.2.2.2.2.2.2.2.1
  x.2.2.2.2.2.2.2.2.1) fun (y:(List Nat×List (Option (List Int)))×Int×List Int×List Int×List Int×Int×Int×Bool×PUnit)=>cond (
  !y.2.2.2.2.2.2.2.1) (some (((0,0),[],[]),22,aC)) (ah (cf y.1 y.2.1 y.2.2.1 y.2.2.2.1
  y.2.2.2.2.1 y.2.2.2.2.2.1 y.2.2.2.2.2.2.1) fun (y:(List Nat×List (Option (List Int)))×Int×List Int×List Int×List Int×Int×Int×Bool ×
  PUnit)=>cond (!y.2.2.2.2.2.2.2.1) (some (((0,0),[],[]),21,aC)) (cond (decide (0<=(↑(aq x0.1):Int))&&dS
  (aS (↑(aq x0.1):Int)) 8) (lp (Int×Int×List Int×PUnit) (((Int×Int)×List (Int×Int)×List (Int×Int))×Int×PUnit) (fun again x =>
 let v24:=aQ .i64 (x.2.1+1);
 let v25:=inB x.2.1 (aq y.1.1);
 let v26:=cl (bT (aS x.2.1)) (aq y.1.1);
 let v27:=aT y.2.2.1 (aS x.2.1) 0;cond (decide (x.2.1<(↑(aq y.2.2.1):Int))) (cond (inB x.2.1 (aq y.2.2.1)) (cond (cl (bT (aS x.2.1)) (aq y.2.2.1)) (ah (cond (List.all y.1.1 fun x=>fK y.1.2 x) (bm (List.map
  (fun x=>bD y.1.2 x) y.1.1,y.2.1,y.2.2.1,y.2.2.2.1,y.2.2.2.2.1,y.2.2.2.2.2.1,y.2.2.2.2.2.2.1) v27) none) fun t=>cond v25 (cond v26 (cond (inB y.2.2.2.2.2.2.1 (aq (bD y.1.2 (aT y.1.1 (aS x.2.1) 0)))) (cond (
  cl (bT (aS y.2.2.2.2.2.2.1)) (aq (bD y.1.2 (aT y.1.1 (aS x.2.1) 0)))) (cond (decide (v27<(↑(aq
  x.2.2.1):Int))) (cond v25 (cond v26 (cond (inB y.2.2.2.2.2.2.1 (aq (bD y.1.2 (aT y.1.1 (aS x.2.1) 0)))) (cond (
  cl (bT (aS y.2.2.2.2.2.2.1)) (aq (bD y.1.2 (aT y.1.1 (aS x.2.1) 0)))) (cond (inB v27 (aq
  x.2.2.1)) (cond (cl (bT (aS v27)) (aq x.2.2.1)) (again (aQ .i64 (x.1+aQ .i64 (t*aT (bD
  y.1.2 (aT y.1.1 (aS x.2.1) 0)) (aS y.2.2.2.2.2.2.1) 0)),v24,iF x.2.2.1 (aS v27) (aT (bD
  y.1.2 (aT y.1.1 (aS x.2.1) 0)) (aS y.2.2.2.2.2.2.1) 0),aC)) none) none) none) none) none) none) (again (aQ .i64 (x.1+aQ .i64 (t*aT (bD y.1.2 (aT y.1.1 (aS x.2.1) 0)) (aS
  y.2.2.2.2.2.2.1) 0)),v24,x.2.2.1,aC))) none) none) none) none) none) none) (ah (cond (List.all y.1.1 fun x=>fK y.1.2 x) (bj (List.map (fun x=>bD y.1.2 x) y.1.1,y.2.1,y.2.2.1,y.2.2.2.1,y.2.2.2.2.1,
  y.2.2.2.2.2.1,y.2.2.2.2.2.2.1) x.1) none) fun t=>lp (Int×(Int×Int)×List (Int×Int)×List (Int×Int)×PUnit) (((Int×Int) ×
  List (Int×Int)×List (Int×Int))×Int×PUnit) (fun again x_1 =>
 let v31:List (Int×Int)×PUnit:=(x_1.2.2.2.1,aC);cond (decide (x_1.1<(↑(aq x.2.2.1):Int))) (cond (inB x_1.1 (aq x.2.2.1)) (
  cond (cl (bT (aS x_1.1)) (aq x.2.2.1)) (ah (cond (List.all y.1.1 fun x=>fK y.1.2 x) (bj (List.map (fun x=>bD y.1.2 x) y.1.1,y.2.1,y.2.2.1,y.2.2.2.1,y.2.2.2.2.1,y.2.2.2.2.2.1,y.2.2.2.2.2.2.1) (aT
  x.2.2.1 (aS x_1.1) 0)) none) fun t=>cond (dS (aq x_1.2.2.1+1) 16) (again (aQ .i64
  (x_1.1+1),x_1.2.1,x_1.2.2.1++[t],v31)) none) none) none) (lp (Int×(Int×Int)×List (Int×Int)×List (Int×Int)×PUnit) (((Int×Int) ×
  List (Int×Int)×List (Int×Int))×Int×PUnit) (fun again x =>
 let v34:=aQ .i64 (y.2.2.2.2.2.1+x.1);cond (decide (x.1<(↑(aq x0.2):Int))) (lp (Int×Int×PUnit) (((Int×Int)×List (Int ×
  Int)×List (Int×Int))×Int×PUnit) (fun again_1 x_2=>cond (
  decide (x_2.2.1<(↑(aq y.2.2.1):Int))) (cond (inB x_2.2.1 (aq y.2.2.1)) (cond (cl (bT (aS x_2.2.1)) (aq
  y.2.2.1)) (ah (cond (List.all y.1.1 fun x=>fK y.1.2 x) (bm (List.map (fun x=>bD y.1.2 x) y.1.1,y.2.1,
  y.2.2.1,y.2.2.2.1,y.2.2.2.2.1,y.2.2.2.2.2.1,y.2.2.2.2.2.2.1) (aT y.2.2.1 (aS x_2.2.1) 0)) none)
  fun t=>cond (inB x_2.2.1 (aq y.1.1)) (cond (cl (bT (aS x_2.2.1)) (aq y.1.1)) (cond (inB v34 (aq (bD y.1.2
  (aT y.1.1 (aS x_2.2.1) 0)))) (cond (cl (bT (aS v34)) (aq (bD y.1.2 (aT y.1.1 (aS x_2.2.1) (0 :
  Nat))))) (again_1 (aQ .i64 (x_2.1+aQ .i64 (t*aT (bD y.1.2 (aT y.1.1 (aS x_2.2.1) 0)) (aS
  v34) 0)),aQ .i64 (x_2.2.1+1),aC)) none) none) none) none) none) none) (cond (inB x.1 (aq
  y.2.2.2.1)) (cond (cl (bT (aS x.1)) (aq y.2.2.2.1)) (ah (cond (List.all y.1.1 fun x=>fK y.1.2 x) (
  bj (List.map (fun x=>bD y.1.2 x) y.1.1,y.2.1,y.2.2.1,y.2.2.2.1,y.2.2.2.2.1,y.2.2.2.2.2.1,
  y.2.2.2.2.2.2.1) (aQ .i64 (aT y.2.2.2.1 (aS x.1) 0*x_2.1))) none) fun t=>cond (dS (aq
  x.2.2.2.1+1) 16) (again (aQ .i64 (x.1+1),x.2.1,x.2.2.1,x.2.2.2.1++[t],aC)) none) none) none)) (0,0,aC)) (some ((x.2.1,x.2.2.1,x.2.2.2.1),0,aC))) (0,x_1.2.1,x_1.2.2.1,v31))) ((0 :
  Int),t,[],[],aC))) (0,0,bx (aS (↑(aq x0.1):Int)) 0,aC)) none)))) ((↑(aq x0.1):Int),(0 :
  Int),([],[]),1,[],[],t,v8,aQ .i64 (v8+(↑(aq x0.2):Int)),aC))) (0,0,aC)))
abbrev t61:=ty6->Option (((Int×Int)×(List (Int×Int))×List (Int×Int))×Int×Unit)
def ep:t61:=lJ lpK jnK bE dn aj bu cf bm bj
def c61:Ctr:=⟨[xx],[],[],.tup [acw,i64],fun x _ _=>ep x.1⟩
theorem e61 (lp:Lp) (jn:Jn) (bE:GE) (dn:LZ) (aj:yI) (bu:NX) (cf:Ui) (bm:LW) (bj:L5):∀(x:TsS c61.as) (F:TsF c61.fs) (y:TsS c61.cs),lJ lp jn bE dn aj bu cf bm bj x.1=SU lp jn (Dn.look [(118,aa8 cf),(117,Zl bu)]) (Dk FJ Fg (IG [(120,YE bj),(119,Yc bm)] [] (ko prog shs tp its [(115,XJ dn),(114,VD bE)] [(140,ma),(128,lu),(113,lc),(137,kS),(241,jK),(240,jA),(109,J4 aj)]))) dI 4 61 f61 c61 x F y:=fun x F y=>by kernel_rfl
theorem agK:c61.ok prog 61:=Ctr.of_denS (fq (vV (aa (aa (aV) (by kernel_rfl) Rr) (by kernel_rfl) Wv) (kY (by kernel_rfl) WX (kY (by kernel_rfl) WB (sf))) (sS))) eK (sV abH (sV Wm (uX))) (hl:=dI) (d:=4) func61 rfl (by decide) (e61 lpK jnK bE dn aj bu cf bm bj)
def oT (_:Lp) (_:Jn) (bv:t60) (ep:t61) (x0:ty0):Option ((List (Int×Int))×Int×Unit) :=
 ah (bv x0) fun (t:(List Int×List (List Int×Int×Int))×Int×PUnit)=>cond (!decide (t.2.1=0)) (some ([],t.2.1,aC)) (ah
  (ep t.1) fun (t:((Int×Int)×List (Int×Int)×List (Int×Int))×Int×PUnit)=>cond (!decide (t.2.1=0)) (some ([],t.2.1,aC)) (some
  (t.1.2.1,0,aC)))
abbrev t17:=ty0->Option ((List (Int×Int))×Int×Unit)
def gH:t17:=oT lpK jnK bv ep
def c17:Ctr:=⟨[T50],[],[],.tup [(.sl T38),i64],fun x _ _=>gH x.1⟩
theorem e17 (lp:Lp) (jn:Jn) (bv:t60) (ep:t61):∀x F y,oT lp jn bv ep x.1=rC lp jn [(61,⟨[xx],[],[],.tup [acw,i64],fun x _ _=>ep x.1⟩),(60,k60 bv)] 17 f17 c17 x F y:=fun x F y=>by kernel_rfl
theorem afv:c17.ok prog 17:=od (aa (aa (aV) rfl X7) rfl agK) func17 (e17 lpK jnK bv ep)
def mn (_:Lp) (_:Jn) (x0:Int×Int):Option Bool :=
 some (decide (x0.1<0))
abbrev t19:=(Int×Int)->Option (Bool)
def eE:t19:=mn lpK jnK
def c19:Ctr:=⟨[T38],[],[],.one .bool,fun x _ _=>eE x.1⟩
theorem e19 (lp:Lp) (jn:Jn):∀x F y,mn lp jn x.1=rC lp jn [] 19 f19 c19 x F y:=fun x F y=>by kernel_rfl
theorem ahz:c19.ok prog 19:=od (aV) func19 (e19 lpK jnK)
def jL (lp:Lp) (jn:Jn) (bE:GE) (dn:LZ) (aj:yI) (bu:NX) (aG:Mw) (bj:L5) (x0:ty6):Option ((List (Int×Int))×Int×Unit) :=
 ah (bE x0) fun t=>cond (!t) (some ([],1,aC)) (ah (dn x0) fun t=>cond (!t) (some ([],5,aC)) (lp
  (Int×Int×PUnit) (List (Int×Int)×Int×PUnit) (fun again x =>
 let v7:Int×PUnit:=(aQ .i64 (x.2.1+1),aC);
 let v8:=aQ .i64 ((↑(aq x0.1):Int)+x.1);cond (decide (x.2.1<(↑(aq x0.2):Int))) (cond (inB x.2.1 (aq x0.2)) (
  cond (!decide ((aT x0.2 (aS x.2.1) ([],0,0)).2.1=3)) (again (aQ .i64 (x.1+1),v7)) (again (x.1,
  v7))) none) (ah (aj x0.1) fun t=>lp (Int×Int×(List Nat×List (Option (List Int)))×Int×List Int×List Int×List Int×Int×Int ×
  PUnit) (List (Int×Int)×Int×PUnit) (fun again x =>
 let v12:=aQ .i64 (x.1+1);
 let v13:=aT x0.2 (aS x.2.1) ([],0,0);
 let v14:List Int:=bx (aS (aQ .i64 (x.2.2.2.2.2.2.2.2.1+1))) 0;
 let v15:=inB x.1 (aS (aQ .i64 (x.2.2.2.2.2.2.2.2.1+1)));
 let v16:=cl (bT (aS x.1)) (aS (aQ .i64 (x.2.2.2.2.2.2.2.2.1+1)));
 let v17:=aQ .i64 (x.2.2.2.2.2.2.2.1+x.2.1);
 let v18:List Int:=n_ (aS (aQ .i64 (x.2.2.2.2.2.2.2.2.1+1))) v13.1;
 let v19:List Int:=iF (n_ 0 v14++v18++List.drop (0+aq v18) v14) (aS x.2.2.2.2.2.2.2.2.1) v13.2.2;cond (decide
  (x.2.1<(↑(aq x0.2):Int))) (cond (inB x.2.1 (aq x0.2)) (cond (decide (0<=aQ .i64 (x.2.2.2.2.2.2.2.2.1+(1
  : Int)))&&dS (aS (aQ .i64 (x.2.2.2.2.2.2.2.2.1+1))) 8) (cond (inB x.2.2.2.2.2.2.2.2.1 (aS
  (aQ .i64 (x.2.2.2.2.2.2.2.2.1+1)))) (cond (cl (bT (aS x.2.2.2.2.2.2.2.2.1)) (aS (aQ
  IntKind.i64 (x.2.2.2.2.2.2.2.2.1+1)))) (jn (Int×List Int×PUnit) (List (Int×Int)×Int×PUnit) (fun x_1 =>
 let v21:List Int×PUnit:=(x_1.2.1,aC);jn (Int×List Int×PUnit) (List (Int×Int)×Int×PUnit) (fun x_2=>cond (inB v17 (aq
  x_2.2.1)) (cond (cl (bT (aS v17)) (aq x_2.2.1)) (cond (dS (aq x.2.2.1.1+1) 24) (cond (dS (aq
  x.2.2.2.2.2.1+1) 8) (cond (dS (aq x.2.2.2.2.1+1) 8) (again (x_1.1,aQ .i64 (x.2.1+(1 :
  Int)),(x.2.2.1.1++[aq x.2.2.1.2+0],x.2.2.1.2++[some (iF x_2.2.1 (aS v17) 1)]),x.2.2.2.1,
  x.2.2.2.2.1++[v17],x.2.2.2.2.2.1++[x_2.1],x.2.2.2.2.2.2.1,x.2.2.2.2.2.2.2.1,x.2.2.2.2.2.2.2.2.1,
  aC)) none) none) none) none) none) fun j=>cond (decide (v13.2.2<0)) (lp
  (Int×List Int×PUnit) (List (Int×Int)×Int×PUnit) (fun again x =>
 let v25:=inB x.1 (aq x.2.1);
 let v26:=cl (bT (aS x.1)) (aq x.2.1);cond (decide (x.1<(↑(aq x_1.2.1):Int))) (cond v25 (cond v26 (cond v25 (cond v26 (again (aQ .i64 (x.1+1),iF x.2.1 (aS x.1) (aQ .i64 (0 - aT x.2.1 (aS x.1) 0)),
  aC)) none) none) none) none) (j ((-1),x.2.1,aC))) (0,v21)) (j (1,v21))) fun j=>cond (decide (v13.2.1=1)) (cond v15 (cond v16 (j (v12,iF v19 (aS x.1) 1,aC)) none) none) (
  jn (Int×List Int×PUnit) (List (Int×Int)×Int×PUnit) (fun x=>j (x.1,x.2.1,aC)) fun j=>cond (decide (v13.2.1=2)) (cond v15 (cond v16 (j (v12,iF v19 (aS x.1) (-1),aC)) none) none) (j
  (x.1,v19,aC)))) none) none) none) none) (ah (bu x.2.2.1 x.2.2.2.1 x.2.2.2.2.1 x.2.2.2.2.2.1
  x.2.2.2.2.2.2.1 x.2.2.2.2.2.2.2.1 x.2.2.2.2.2.2.2.2.1) fun (y:(List Nat×List (Option (List Int)))×Int×List Int×List Int×List
  Int×Int×Int×Bool×PUnit)=>cond y.2.2.2.2.2.2.2.1 (some ([],12,aC)) (lp (List (Int×Int)×Int×PUnit) (List (Int×Int)×Int×PUnit)
  (fun again x=>cond (decide (x.2.1<(↑(aq x0.2):Int))) (cond (inB x.2.1 (aq y.2.2.2.1)) (cond (cl (bT (aS x.2.1)) (aq y.2.2.2.1)) (ah (cond (List.all y.1.1 fun x=>fK y.1.2 x) (aG (List.map (fun x=>bD y.1.2 x) y.1.1,y.2.1,y.2.2.1,y.2.2.2.1,y.2.2.2.2.1,
  y.2.2.2.2.2.1,y.2.2.2.2.2.2.1) (aQ .i64 (y.2.2.2.2.2.1+x.2.1))) none) fun t=>ah (cond (List.all y.1.1
  fun x=>fK y.1.2 x) (bj (List.map (fun x=>bD y.1.2 x) y.1.1,y.2.1,y.2.2.1,y.2.2.2.1,y.2.2.2.2.1,
  y.2.2.2.2.2.1,y.2.2.2.2.2.2.1) (aQ .i64 (aT y.2.2.2.1 (aS x.2.1) 0*t))) none) fun t =>
  cond (dS (aq x.1+1) 16) (again (x.1++[t],aQ .i64 (x.2.1+1),aC)) none) none) none) (some
  (x.1,0,aC))) ([],0,aC)))) ((↑(aq x0.1):Int),0,([],[]),1,[],[],t,v8,aQ .i64 (v8+(↑(aq
  x0.2):Int)),aC))) (0,0,aC)))
abbrev t63:=ty6->Option ((List (Int×Int))×Int×Unit)
def dl:t63:=jL lpK jnK bE dn aj bu aG bj
def c63:Ctr:=⟨[xx],[],[],.tup [(.sl T38),i64],fun x _ _=>dl x.1⟩
theorem e63 (lp:Lp) (jn:Jn) (bE:GE) (dn:LZ) (aj:yI) (bu:NX) (aG:Mw) (bj:L5):∀(x:TsS c63.as) (F:TsF c63.fs) (y:TsS c63.cs),jL lp jn bE dn aj bu aG bj x.1=SU lp jn (Dn.look [(117,Zl bu)]) (Dk FJ Fg (IG [(120,YE bj),(121,Xb aG)] [] (ko prog shs tp its [(115,XJ dn),(114,VD bE)] [(140,ma),(128,lu),(113,lc),(137,kS),(241,jK),(240,jA),(109,J4 aj)]))) dI 4 63 f63 c63 x F y:=fun x F y=>by kernel_rfl
theorem ae3:c63.ok prog 63:=Ctr.of_denS (fq (vV (aa (aa (aV) (by kernel_rfl) Rr) (by kernel_rfl) Wv) (kY (by kernel_rfl) WX (kY (by kernel_rfl) WY (sf))) (sS))) eK (sV Wm (uX)) (hl:=dI) (d:=4) func63 rfl (by decide) (e63 lpK jnK bE dn aj bu aG bj)
def qo (_:Lp) (_:Jn) (bv:t60) (dl:t63) (x0:ty0):Option ((List (Int×Int))×Int×Unit) :=
 ah (bv x0) fun (t:(List Int×List (List Int×Int×Int))×Int×PUnit)=>cond (!decide (t.2.1=0)) (some ([],t.2.1,aC)) (ah
  (dl t.1) fun (t:List (Int×Int)×Int×PUnit)=>some (t.1,t.2.1,aC))
abbrev t21:=ty0->Option ((List (Int×Int))×Int×Unit)
def gu:t21:=qo lpK jnK bv dl
def c21:Ctr:=⟨[T50],[],[],.tup [(.sl T38),i64],fun x _ _=>gu x.1⟩
theorem e21 (lp:Lp) (jn:Jn) (bv:t60) (dl:t63):∀x F y,qo lp jn bv dl x.1=rC lp jn [(63,⟨[xx],[],[],.tup [(.sl T38),i64],fun x _ _=>dl x.1⟩),(60,k60 bv)] 21 f21 c21 x F y:=fun x F y=>by kernel_rfl
theorem aeW:c21.ok prog 21:=od (aa (aa (aV) rfl X7) rfl ae3) func21 (e21 lpK jnK bv dl)
def mf (_:Lp) (_:Jn) (aE:t94) (x0:Int×Int):Option Bool :=
 ah (aE x0) fun t=>some !t
abbrev Yt:=(Int×Int)->Option (Bool)
def fb:Yt:=mf lpK jnK aE
def aas:Ctr:=⟨[T38],[],[],.one .bool,fun x _ _=>fb x.1⟩
theorem afr (lp:Lp) (jn:Jn) (aE:t94):∀x F y,mf lp jn aE x.1=rC lp jn [(94,k94 aE)] 193 f193 aas x F y:=fun x F y=>by kernel_rfl
theorem acI:aas.ok prog 193:=od (aa (aV) rfl Jf) func193 (afr lpK jnK aE)
def oz (_:Lp) (_:Jn) (au:t18) (fb:Yt) (x0:List (Int×Int)):Option Bool :=
 ah (au x0 fun x=>fb x.1) fun t=>some !t
abbrev Zk:=(List (Int×Int))->Option (Bool)
def gk:Zk:=oz lpK jnK au fb
def aaX:Ctr:=⟨[(.sl T38)],[],[],.one .bool,fun x _ _=>gk x.1⟩
theorem agv (lp:Lp) (jn:Jn) (au:t18) (fb:Yt):∀x F y,oz lp jn au fb x.1=rC lp jn [(193,⟨[T38],[],[],.one .bool,fun x _ _=>fb x.1⟩),(18,k18 au)] 122 f122 aaX x F y:=fun x F y=>by kernel_rfl
theorem acJ:aaX.ok prog 122:=od (aa (aa (aV) rfl Ya) rfl acI) func122 (agv lpK jnK au fb)
def mw (lp:Lp) (jn:Jn) (aO:t47) (cQ:t95) (x0:Int) (x1:List Int) (x2:List (Int×Int)):Option (Int×(Int×Int)) :=
 lp (Int×Int×(Int×Int)×(Int×Int)×PUnit) (Int×Int×Int) (fun again x=>cond (decide (x.1<(↑(aq x1):Int))) (cond (inB x.1 (aq x1)) (cond (inB x.1 (aq x2)) (ah (aO (aT x1
  (aS x.1) 0,1) (aT x2 (aS x.1) (0,0))) fun (t:(Int×Int)×Int×PUnit)=>jn (Int×(Int×Int)×PUnit) (Int×Int×Int)
  (fun x_1=>cond (!decide (x_1.1=0)) (some (x_1.1,0,1)) (again (aQ .i64 (x.1+1),
  x.2.1,x.2.2.1,x_1.2.1,aC))) fun j=>cond (decide (t.2.1=0)) (ah (cQ
  x.2.2.2.1 t.1) fun (t:(Int×Int)×Int×PUnit)=>j (t.2.1,t.1,aC)) (j (t.2.1,t.1,aC))) none) none) (some (x.2.1,
  x.2.2.2.1))) (0,x0,(0,0),(0,1),aC)
abbrev VU:=(Int)->(List Int)->(List (Int×Int))->Option (Int×(Int×Int))
def dj:VU:=mw lpK jnK aO cQ
def aaS (dj:VU):MCtr:=⟨Xl,[(.sl i64),(.sl T38)],.one T38,fun x y=>dj x y.1 y.2.1⟩
def Wi:MCtr:=aaS dj
theorem afV (lp:Lp) (jn:Jn) (aO:t47) (cQ:t95):∀(x:Wi.s.T) (y:TsS Wi.as),mw lp jn aO cQ x y.1 y.2.1=Y6 lp jn (cx [(95,k95 cQ),(47,k47 aO)] [(140,ma),(128,lu),(113,lc),(137,kS),(241,jK),(240,jA),(109,jU)]) dI 4 125 f125 Wi x y:=fun x y=>by kernel_rfl
theorem aa6:Wi.ok prog 125:=MCtr.of_den (fq (aa (aa (aV) (by kernel_rfl) Kc) (by kernel_rfl) Zd)) eK (hl:=dI) (d:=4) func125 rfl (by decide) rfl (afV lpK jnK aO cQ)
def rQ (_:Lp) (_:Jn) (fg:Mq) (x0:Int×Int) (x1:Int):Option Int :=
 ah (fg x0 (x1,1)) fun (t:Int×Int×PUnit)=>some t.1
abbrev Xh:=(Int×Int)->(Int)->Option (Int)
def iw:Xh:=rQ lpK jnK fg
def aed:Ctr:=⟨[T38,i64],[],[],.one i64,fun x _ _=>iw x.1 x.2.1⟩
theorem agI (lp:Lp) (jn:Jn) (fg:Mq):∀x F y,rQ lp jn fg x.1 x.2.1=rC lp jn [(144,Xa fg)] 194 f194 aed x F y:=fun x F y=>by kernel_rfl
theorem acn:aed.ok prog 194:=od (aa (aV) rfl Wn) func194 (agI lpK jnK fg)
def nB (lp:Lp) (_:Jn) (x0:ty6) (x1:Int):Option (List Int) :=
 lp (List Int×Int×PUnit) (List Int) (fun again x=>cond (decide (x.2.1<(↑(aq x0.2):Int))) (
  cond (inB x.2.1 (aq x0.2)) (cond (inB x1 (aq (aT x0.2 (aS x.2.1) ([],0,0)).1)) (cond (dS (aq x.1+(1 :
  Nat)) 8) (again (x.1++[aT (aT x0.2 (aS x.2.1) ([],0,0)).1 (aS x1) 0],aQ .i64 (x.2.1 +
  1),aC)) none) none) none) (some x.1)) ([],0,aC)
abbrev Yh:=ty6->(Int)->Option (List Int)
def fw:Yh:=nB lpK jnK
def Z6:Ctr:=⟨[xx,i64],[],[],.one (.sl i64),fun x _ _=>fw x.1 x.2.1⟩
theorem afb (lp:Lp) (jn:Jn):∀x F y,nB lp jn x.1 x.2.1=rC lp jn [] 195 f195 Z6 x F y:=fun x F y=>by kernel_rfl
theorem ach:Z6.ok prog 195:=od (aV) func195 (afb lpK jnK)
def ls (_:Lp) (_:Jn) (_:Int):Option Int :=
 some 0
abbrev XE:=(Int)->Option (Int)
def eP:XE:=ls lpK jnK
def abz:Ctr:=⟨[i64],[],[],.one i64,fun x _ _=>eP x.1⟩
theorem agU (lp:Lp) (jn:Jn):∀x F y,ls lp jn x.1=rC lp jn [] 124 f124 abz x F y:=fun x F y=>by kernel_rfl
theorem abN:abz.ok prog 124:=od (aV) func124 (agU lpK jnK)
def mX (lp:Lp) (_:Jn) (x0:ty6):Option (List Int) :=
 lp (List Int×Int×PUnit) (List Int) (fun again x=>cond (decide (x.2.1<(↑(aq x0.2):Int))) (
  cond (inB x.2.1 (aq x0.2)) (cond (dS (aq x.1+1) 8) (again (x.1++[(aT x0.2 (aS x.2.1) ([],0,(0 :
  Int))).2.2],aQ .i64 (x.2.1+1),aC)) none) none) (some x.1)) ([],0,aC)
abbrev Zc:=ty6->Option (List Int)
def fz:Zc:=mX lpK jnK
def abR:Ctr:=⟨[xx],[],[],.one (.sl i64),fun x _ _=>fz x.1⟩
theorem afR (lp:Lp) (jn:Jn):∀x F y,mX lp jn x.1=rC lp jn [] 126 f126 abR x F y:=fun x F y=>by kernel_rfl
theorem acS:abR.ok prog 126:=od (aV) func126 (afR lpK jnK)
def ni (lp:Lp) (_:Jn) (x0:ty6) (x1:List (Int×Int)):Option Bool :=
 lp (Int×PUnit) Bool (fun again x =>
 let v6:=inB x.1 (aq x1);
 let v7:=decide ((aT x0.2 (aS x.1) ([],0,0)).2.1=1);
 let v8:=decide ((aT x0.2 (aS x.1) ([],0,0)).2.1=2);
 let v9:=!v7;
 let v10:=cond v7 (decide ((aT x1 (aS x.1) (0,0)).1>0)) false;
 let v11:=!v10;
 let v12:=!v11;
 let v13:Bool:=v9||v7;
 let v14:Bool:=v11&&v8;
 let v15:=!v14;
 let v16:Bool:=v12||v11;
 let v17:Bool:=v15||v14;cond (decide (x.1<(↑(aq x0.2):Int))) (cond (inB x.1 (aq x0.2)) (cond (v13&&(v13&&(v9||v6))) (cond v13 (cond v13 (
  cond v13 (cond v13 (cond v16 (cond v16 (cond v16 (cond (v17&&(v17&&(v15||v6))) (cond v17 (cond v17 (cond v17 (cond ((v12||v16)&&(v12||(!v8||(v12 ||
  v14)))) (cond (v10||v11) (cond (cond v10 true (cond v8 (decide ((aT x1 (aS x.1) (0,0)).1<0)) false)) (some false) (
  again (aQ .i64 (x.1+1),aC))) none) none) none) none) none) none) none) none) none) none) none) none) none) none) none) (some true)) (0,aC)
abbrev XG:=ty6->(List (Int×Int))->Option (Bool)
def fy:XG:=ni lpK jnK
def adN:Ctr:=⟨[xx,(.sl T38)],[],[],.one .bool,fun x _ _=>fy x.1 x.2.1⟩
theorem agY (lp:Lp) (jn:Jn):∀x F y,ni lp jn x.1 x.2.1=rC lp jn [] 127 f127 adN x F y:=fun x F y=>by kernel_rfl
theorem aeu:adN.ok prog 127:=od (aV) func127 (agY lpK jnK)
def mi (lp:Lp) (_:Jn) (bE:GE) (gk:Zk) (iw:Xh) (fw:Yh) (eP:XE) (fz:Zc) (fy:XG) (dj:VU) (x0:ty6) (x1:List (Int×Int)):Option (Bool×Int×Unit) :=
 ah (bE x0) fun t =>
 let v5:=!t;
 let v6:=!v5;
 let v7:=!v6||v6;cond v7 (ah (cond v6 (gk x1) (some false)) fun t=>cond v7 (cond (v5||v6) (cond (cond v5 true (!t)) (some (false,
  1,aC)) (cond (!decide ((↑(aq x1):Int)=(↑(aq x0.2):Int))) (some (false,3,aC)) (lp (Bool×Int×Int×PUnit) (Bool ×
  Int×PUnit) (fun again x=>cond (decide (x.2.1<(↑(aq x0.1):Int))) (ah
  (fw x0 x.2.1) fun t=>ah (dj x.2.2.1 t x1) fun t=>ah (eP x.2.1) fun t_1=>ah
  (iw t.2 t_1) fun t_2 =>
 let v15:=decide (t_2<=0);cond (!v15||v15) (again (cond v15 x.1 false,aQ .i64 (x.2.1+1),t.1,aC)) none) (
  ah (fz x0) fun t=>ah (dj x.2.2.1 t x1) fun t =>
 let v13:=decide (t.2.1>0);
 let v14:=!v13||v13;cond (v14&&v14) (ah (cond v13 (fy x0 x1) (some false)) fun t_1 =>
 let v16:=cond v13 t_1 false;
 let v17:=cond v16 x.1 false;
 let v18:=!v17||v17;cond v14 (cond (!v16||v16) (cond v18 (cond v18 (cond v18 (some (cond v17 (decide (t.1=0)) false,t.1,aC)) none) none) none) none) none) none)) (true,0,0,aC)))) none) none) none
abbrev t64:=ty6->(List (Int×Int))->Option (Bool×Int×Unit)
def df:t64:=mi lpK jnK bE gk iw fw eP fz fy dj
def k64 (df:t64):Ctr:=⟨[xx,(.sl T38)],[],[],.tup [.bool,i64],fun x _ _=>df x.1 x.2.1⟩
def c64:Ctr:=k64 df
theorem e64 (lp:Lp) (jn:Jn) (bE:GE) (gk:Zk) (iw:Xh) (fw:Yh) (eP:XE) (fz:Zc) (fy:XG) (dj:VU):∀(x:TsS c64.as) (F:TsF c64.fs) (y:TsS c64.cs),mi lp jn bE gk iw fw eP fz fy dj x.1 x.2.1=wE lp jn (Dk FJ Fg (IG [] [(125,aaS dj)] (ko prog shs tp its [(127,⟨[xx,(.sl T38)],[],[],.one .bool,fun x _ _=>fy x.1 x.2.1⟩),(126,⟨[xx],[],[],.one (.sl i64),fun x _ _=>fz x.1⟩),(124,⟨[i64],[],[],.one i64,fun x _ _=>eP x.1⟩),(195,⟨[xx,i64],[],[],.one (.sl i64),fun x _ _=>fw x.1 x.2.1⟩),(194,⟨[T38,i64],[],[],.one i64,fun x _ _=>iw x.1 x.2.1⟩),(122,⟨[(.sl T38)],[],[],.one .bool,fun x _ _=>gk x.1⟩),(114,VD bE)] [(140,ma),(128,lu),(113,lc),(137,kS),(241,jK),(240,jA),(109,jU)]))) dI 4 64 f64 c64 x F y:=fun x F y=>by kernel_rfl
theorem agJ:c64.ok prog 64:=Ctr.of_den (fq (vV (aa (aa (aa (aa (aa (aa (aa (aV) (by kernel_rfl) Rr) (by kernel_rfl) acJ) (by kernel_rfl) acn) (by kernel_rfl) ach) (by kernel_rfl) abN) (by kernel_rfl) acS) (by kernel_rfl) aeu) (sf) (Na (by kernel_rfl) aa6 (sS)))) eK (hl:=dI) (d:=4) func64 rfl (by decide) (e64 lpK jnK bE gk iw fw eP fz fy dj)
def qA (_:Lp) (_:Jn) (bv:t60) (df:t64) (x0:ty0) (x1:List (Int×Int)):Option (Bool×Int×Unit) :=
 ah (bv x0) fun (t:(List Int×List (List Int×Int×Int))×Int×PUnit)=>cond (!decide (t.2.1=0)) (some (false,t.2.1,aC)) (ah
  (df t.1 x1) fun (t:Bool×Int×PUnit)=>some (t.1,t.2.1,aC))
abbrev t22:=ty0->(List (Int×Int))->Option (Bool×Int×Unit)
def fj:t22:=qA lpK jnK bv df
def k22 (fj:t22):Ctr:=⟨[T50,(.sl T38)],[],[],.tup [.bool,i64],fun x _ _=>fj x.1 x.2.1⟩
def c22:Ctr:=k22 fj
theorem e22 (lp:Lp) (jn:Jn) (bv:t60) (df:t64):∀x F y,qA lp jn bv df x.1 x.2.1=rC lp jn [(64,k64 df),(60,k60 bv)] 22 f22 c22 x F y:=fun x F y=>by kernel_rfl
theorem ahA:c22.ok prog 22:=od (aa (aa (aV) rfl X7) rfl agJ) func22 (e22 lpK jnK bv df)
end
end Go.Proofs.YtlfdhaiigdllcaaGreat
