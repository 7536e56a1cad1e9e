/- Systems: the matrix of both programs. Programs: sums of numbers times fractions. Programs: which points are feasible, as the program tells it. Systems: their programs, as both programs make them. Programs: feasible points and values, in both programs. The law ProgramForms. Programs: columns and right sides. Programs: the signs of multipliers. Programs: sums of columns below numbers; refutations. Programs: refutations, as the program tells them. Programs: refutations, as they are specified. Programs: refutations are the same in both programs. Systems: the law SlackPrograms. Programs: products of two numbers, their differences and quotients. Programs: a step of the table. Programs: the row that leaves, the sums of artificial rows, and the reduced costs. Programs: the sums of artificial rows, and the reduced costs. Programs: improving a table to the least value. Programs: finding a feasible basis. Programs: the first table. Programs: which programs fit. Programs: what Solve answers. Programs: what Farkas answers. Programs: answers that are proved, in both programs. Programs: points, multipliers and refutations are those of the theory. Programs: the sums of what the solver returns fit, so that its answers are accepted. Programs: what the solver says of a program; the law ProgramBeats. Programs, as they are specified: the layout of the table, and a step of it. Programs, as they are specified: steps until the last row has no negative number. Programs, as they are specified: artificial variables leave the basis. Programs, as they are specified: the first table. Programs, as they are specified: the least value. Programs: the law ProgramSolves. Systems: what the solver says of their programs. Systems: equilibria, as the program checks them. Systems: the law SlackHolds. Systems: the law SlackBounds. Systems: the law SlackLeast. Claims about tensions: their parts, and what Check of both programs answers. -/
import Derived.KernelRfl
import Derived.Test.YtegbncajloeepaaGreatMgN

namespace Go.Proofs.YtegbncajloeepaaGreat
noncomputable section
open Tryz Dn Dn.Sh
def bnS (s:Sy) (i:Nat):ByteArray:=(s.1.getD i bk0).1
def bwS (s:Sy) (i:Nat):Int:=(s.1.getD i bk0).2
def rnS (s:Sy) (k:Nat):ByteArray:=(s.2.getD k rp0).1
def hsS (s:Sy) (k:Nat):List Hd:=(s.2.getD k rp0).2.1
structure ValidS (s:Sy):Prop where
 bl:1<=s.1.length/\s.1.length<=6
 rl:1<=s.2.length/\s.2.length<=6
 inj:∀i j,i<s.1.length->j<s.1.length->bnS s i=bnS s j->i=j
 rinj:∀i j,i<s.2.length->j<s.2.length->rnS s i=rnS s j->i=j
 wt:∀i,i<s.1.length->0<=bwS s i/\bwS s i<=16777216
 hl:∀k,k<s.2.length->(hsS s k).length<=10
 pl:∀k h,k<s.2.length->h<(hsS s k).length-> -2<=((hsS s k).getD h hd0).2.1/\((hsS s k).getD h hd0).2.1<=2
theorem kn {n i:Nat} (h:i<n):i ∈ List.range' 0 n:=List.mem_range'.2 ⟨i,h,by omega⟩
theorem B8 {s:Sy} {h:Hd} {e:Bool} (hh:mZ s h e=true): -2<=h.2.1/\h.2.1<=2:=by
 unfold mZ at hh
 rw[z10] at hh
 have h2:=hh.2
 cases he:pa h.1 with
 | true=>rw[he,cT,decide_eq_true_iff] at h2;omega
 | false =>
  rw[he,cF,z10] at h2
  have h3:=h2.2
  cases e with
  | true=>rw[cT,Bool.or_eq_true,decide_eq_true_iff,decide_eq_true_iff] at h3;omega
  | false=>rw[cF,Bool.or_eq_true,Bool.or_eq_true,decide_eq_true_iff,decide_eq_true_iff,decide_eq_true_iff] at h3;omega
theorem lM {l:List ByteArray} {i j:Nat} {d:ByteArray} (h1:i<j) (h2:j<=l.length):l.getD i d ∈ l.take j:=by
 rw[cm (by omega)]
 exact List.mem_take_iff_getElem.2 ⟨i,by omega,rfl⟩
theorem gy {s:Sy} (h:gk s=true):ValidS s:=by
 unfold gk at h
 rw[z10,z10,z10,decide_eq_true_iff,List.all_eq_true,List.all_eq_true] at h
 obtain ⟨⟨h1,h2,h3,h4⟩,hb,hr,_⟩:=h
 have hb':∀i,i<s.1.length->bnS s i ∉ (s.1.map (·.fst)).take i/\0<=bwS s i/\bwS s i<=16777216:=fun i hi=>by
  have:=hb i (kn hi)
  unfold pY pS at this
  rw[z10,z10,z10,Bool.not_eq_true',ut,decide_eq_true_iff,decide_eq_true_iff] at this
  exact this.2
 have hr':∀i,i<s.2.length->rnS s i ∉ (s.2.map (·.fst)).take i/\tz s (s.2.getD i rp0)=true:=fun i hi=>by
  have:=hr i (kn hi)
  unfold iU at this
  rw[z10,z10,Bool.not_eq_true',ut,List.mem_append] at this
  exact ⟨fun hm=>this.2.1 (.inr hm),this.2.2⟩
 have hro:∀k,k<s.2.length->(2<=(hsS s k).length/\(hsS s k).length<=10)/\∀i,i<(hsS s k).length->∃e,mZ s ((hsS s k).getD i hd0) e=true:=fun k hk=>by
  have:=(hr' k hk).2
  unfold tz at this
  rw[z10,z10,decide_eq_true_iff,List.all_eq_true] at this
  exact ⟨this.1,fun i hi=>⟨_,this.2.1 i (kn hi)⟩⟩
 refine ⟨⟨h1,h2⟩,⟨h3,h4⟩,fun i j hi hj he=>?_,fun i j hi hj he=>?_,fun i hi=>(hb' i hi).2,fun k hk=>(hro k hk).1.2,fun k h hk hh=>?_⟩
 ·have e1:∀k,k<s.1.length->(s.1.map (·.fst)).getD k bk0.1=bnS s k:=fun k hk=>rQ (f:=fun b:Bk=>b.1) (d:=bk0) hk bk0.1
  rcases Nat.lt_trichotomy i j with h | h | h
  ·exfalso
   apply (hb' j hj).1
   rw[<-he,<-e1 i hi]
   exact lM h (by rw[List.length_map];omega)
  ·exact h
  ·exfalso
   apply (hb' i hi).1
   rw[he,<-e1 j hj]
   exact lM h (by rw[List.length_map];omega)
 ·have e1:∀k,k<s.2.length->(s.2.map (·.fst)).getD k rp0.1=rnS s k:=fun k hk=>rQ (f:=fun b:Rp=>b.1) (d:=rp0) hk rp0.1
  rcases Nat.lt_trichotomy i j with h | h | h
  ·exfalso
   apply (hr' j hj).1
   rw[<-he,<-e1 i hi]
   exact lM h (by rw[List.length_map];omega)
  ·exact h
  ·exfalso
   apply (hr' i hi).1
   rw[he,<-e1 j hj]
   exact lM h (by rw[List.length_map];omega)
 ·obtain ⟨e,he⟩:=(hro k hk).2 h hh
  exact B8 he
theorem GU (s:Sy) (n:ByteArray):(fbI s n<0/\∀i,i<s.1.length->bnS s i≠n)\/∃i:Nat,i<s.1.length/\fbI s n=(i:Int)/\bnS s i=n:=by
 by_cases h:fbI s n<0
 ·refine .inl ⟨h,fun i hi he=>?_⟩
  have:=(xL (p:=fun b:Bk=>decide (b.1=n)) (l:=s.1) (i:=0) (by omega)).1 h (s.1.getD i bk0) (by rw[cm hi];exact List.getElem_mem _)
  exact of_decide_eq_false this he
 ·obtain ⟨_,h2,h3⟩:=FI (p:=fun b:Bk=>decide (b.1=n)) (d:=bk0) (l:=s.1) (i:=0) (by omega) (Int.not_lt.1 h)
  refine .inr ⟨(fbI s n).toNat,?_,?_,?_⟩
  ·unfold fbI;omega
  ·unfold fbI at h ⊢;omega
  ·have:=z12 h3
   rw[Int.sub_zero] at this
   exact this
def kP (hs:List Hd) (n:ByteArray) (h:Nat):Int:=sz h fun t=>if (hs.getD t hd0).1=n then (hs.getD t hd0).2.1 else 0
def Mx (s:Sy) (i k:Nat):Int:=kP (hsS s k) (bnS s i) (hsS s k).length
theorem mW {hs:List Hd} {n:ByteArray} (hp:∀t,t<hs.length-> -2<=(hs.getD t hd0).2.1/\(hs.getD t hd0).2.1<=2):∀h,h<=hs.length-> -(2*(h:Int))<=kP hs n h/\kP hs n h<=2*(h:Int)
 | 0,_=>by simp[kP,sz]
 | h+1,hh=>by
  have:=mW (n:=n) hp h (by omega)
  have h2:=hp h (by omega)
  unfold kP at *
  simp only[sz]
  split<;>omega
theorem wQ {s:Sy} (hv:ValidS s) (i:Nat) {k:Nat} (hk:k<s.2.length): -20<=Mx s i k/\Mx s i k<=20:=by
 have h1:=mW (n:=bnS s i) (hs:=hsS s k) (fun t ht=>hv.pl k t hk ht) _ (Nat.le_refl _)
 have h2:=hv.hl k hk
 unfold Mx
 omega
theorem cV {i:Nat} (h:i<=1000000):IntKind.wrap .i64 ((i:Int)+1)=((i+1:Nat):Int):=by rw[bm (by omega) (by omega)];rfl
theorem IM {s:Sy} (hv:ValidS s) (i:Nat) {k:Nat} (hk:k<s.2.length):fK (s.2.getD k rp0) (bnS s i)=some (Mx s i k):=by
 have hp:=fun t ht=>hv.pl k t hk ht
 have hl:=hv.hl k hk
 have hb:=mW (n:=bnS s i) (hs:=hsS s k) hp
 unfold Mx
 unfold hsS at hp hl hb ⊢
 generalize s.2.getD k rp0=r at hp hl hb ⊢
 obtain ⟨nm,hs,ha⟩:=r
 simp only at hp hl hb ⊢
 simp only[fK,oz,lK]
 refine iq hs.length (by omega) (fun t=>(kP hs (bnS s i) t,(t:Int),PUnit.unit)) _ rfl (fun again t ht=>?_) (fun again=>?_)
 ·have h1:=hb t (by omega)
  have h2:=hb (t+1) (by omega)
  have e:kP hs (bnS s i) (t+1)=kP hs (bnS s i) t+if (hs.getD t hd0).1=bnS s i then (hs.getD t hd0).2.1 else 0:=rfl
  simp only[bV,z7 ht,z7 (show (t:Int)<hs.length by omega),cT,z9,cV (show t<=1000000 by omega),show List.getD hs t ({ data:={ toList:=[] } },(0:Int),(0:Int),(0:Int))=hs.getD t hd0 from rfl]
  rw[e] at h2 ⊢
  by_cases c:(hs.getD t hd0).1=bnS s i
  ·rw[if_pos c] at h2 ⊢
   rw[z7 c,cT,bm (by omega) (by omega)]
  ·rw[if_neg c,z8 c,cF,Int.add_zero]
 ·simp only[z8 (show ¬ (hs.length:Int)<hs.length by omega),cF]
def zP (s:Sy):List (List Int):=yg s.1.length s.2.length (Mx s)
theorem kz {α:Type} {w:Nat} {f:Nat->α}:cW w f++[f w]=cW (w+1) f:=by
 unfold cW
 rw[List.range_succ,List.map_append]
 rfl
theorem vI {m w:Nat} {T:Nat->Nat->Int}:gM m w T++[some (cW w (T m))]=gM (m+1) w T:=by
 unfold gM
 rw[List.range_succ,List.map_append]
 rfl
theorem CE {s:Sy} (hv:ValidS s):bQ s=some (zP s):=by
 have hb:=hv.bl
 have hr:=hv.rl
 simp only[bQ,mn]
 refine iq s.1.length (by omega) (fun i=>(Aj i s.2.length (Mx s),(i:Int),PUnit.unit)) _ rfl (fun again i hi=>?_) (fun again=>?_)
 ·simp only[bV,z7 hi,z7 (show (i:Int)<s.1.length by omega),cT,z9]
  refine iq s.2.length (by omega) (fun k=>(cW k (Mx s i),(k:Int),PUnit.unit)) _ rfl (fun again1 k hk=>?_) (fun again1=>?_)
  ·have hp:fK (s.2.getD k ({ data:={ toList:=[] } },[],false)) (s.1.getD i ({ data:={ toList:=[] } },(0:Int))).1=some (Mx s i k):=IM hv i hk
   simp only[bV,z7 hk,z7 (show (k:Int)<s.2.length by omega),cT,z9,hp,af,dH,fZ (show (k+1)*8<=140737488355328 by omega),cV (show k<=1000000 by omega),kz]
  ·simp only[z8 (show ¬ (s.2.length:Int)<s.2.length by omega),cF,LM,fZ (show (i+1)*24<=140737488355328 by omega),cT,cV (show i<=1000000 by omega)]
   unfold Aj
   rw[oc,Nat.add_zero,<-List.range_succ,vI]
 ·simp only[z8 (show ¬ (s.1.length:Int)<s.1.length by omega),cF]
  rw[NU,OO,cT]
  rfl
def RS (T:List Nat) (x0:Sy):Option (List (List Int)×Int×Unit) :=
 ah (aN x0) fun (t:Bool)=>bif !t then some ([],(1:Int),PUnit.unit) else bif decide ((0:Int)<=(↑(List.length x0.1):Int))&&eQ (Int.toNat (↑(List.length x0.1):Int)) (24:Nat) then lpK (Int×(List Nat×List (Option (List Int)))×PUnit) (List (List Int)×Int×PUnit) (fun (again:Int×(List Nat×List (Option (List Int)))×PUnit->Option (List (List Int)×Int×PUnit)) (x:Int×(List Nat×List (Option (List Int)))×PUnit)=>bif decide (x.1<(↑(List.length T):Int)) then bif decide ((0:Int)<=(↑(List.length x0.2):Int))&&eQ (Int.toNat (↑(List.length x0.2):Int)) (8:Nat) then bif inB x.1 (List.length x.2.1.1) then bif Nat.ble (Nat.succ (Int.toNat x.1)) (List.length x.2.1.1) then again (IntKind.wrap .i64 (x.1+(1:Int)),(List.set x.2.1.1 (Int.toNat x.1) (List.length x.2.1.2),x.2.1.2++[some (List.replicate (Int.toNat (↑(List.length x0.2):Int)) (0:Int))]),PUnit.unit) else none else none else none else lpK (Int×(List Nat×List (Option (List Int)))×PUnit) (List (List Int)×Int×PUnit) (fun (again:Int×(List Nat×List (Option (List Int)))×PUnit->Option (List (List Int)×Int×PUnit)) (x:Int×(List Nat×List (Option (List Int)))×PUnit)=>bif decide (x.1<(↑(List.length x0.2):Int)) then bif inB x.1 (List.length x0.2) then lpK (Int×(List Nat×List (Option (List Int)))×PUnit) (List (List Int)×Int×PUnit) (fun (again_1:Int×(List Nat×List (Option (List Int)))×PUnit->Option (List (List Int)×Int×PUnit)) (x_1:Int×(List Nat×List (Option (List Int)))×PUnit)=>let v10:Int:=IntKind.wrap .i64 (x_1.1+(1:Int));let v11:(List Nat×List (Option (List Int)))×PUnit:=(x_1.2.1,PUnit.unit);let v12:ByteArray×Int×Int×Int:=List.getD (List.getD x0.2 (Int.toNat x.1) ({ data:={ toList:=[] } },[],false)).2.1 (Int.toNat x_1.1) ({ data:={ toList:=[] } },(0:Int),(0:Int),(0:Int));bif decide (x_1.1<(↑(List.length (List.getD x0.2 (Int.toNat x.1) ({ data:={ toList:=[] } },[],false)).2.1):Int)) then bif inB x_1.1 (List.length (List.getD x0.2 (Int.toNat x.1) ({ data:={ toList:=[] } },[],false)).2.1) then ah (bH x0 v12.1) fun (t:Int)=>bif decide (t>=(0:Int)) then bif inB t (List.length x_1.2.1.1) then bif Nat.ble (Nat.succ (Int.toNat t)) (List.length x_1.2.1.1) then bif inB x.1 (List.length (bw x_1.2.1.2 (List.getD x_1.2.1.1 (Int.toNat t) (0:Nat)))) then bif Nat.ble (Nat.succ (Int.toNat x.1)) (List.length (bw x_1.2.1.2 (List.getD x_1.2.1.1 (Int.toNat t) (0:Nat)))) then bif inB x.1 (List.length (bw x_1.2.1.2 (List.getD x_1.2.1.1 (Int.toNat t) (0:Nat)))) then bif Nat.ble (Nat.succ (Int.toNat x.1)) (List.length (bw x_1.2.1.2 (List.getD x_1.2.1.1 (Int.toNat t) (0:Nat)))) then again_1 (v10,(x_1.2.1.1,List.set x_1.2.1.2 (List.getD x_1.2.1.1 (Int.toNat t) (0:Nat)) (some (List.set (bw x_1.2.1.2 (List.getD x_1.2.1.1 (Int.toNat t) (0:Nat))) (Int.toNat x.1) (IntKind.wrap .i64 (List.getD (bw x_1.2.1.2 (List.getD x_1.2.1.1 (Int.toNat t) (0:Nat))) (Int.toNat x.1) (0:Int)+v12.2.1))))),PUnit.unit) else none else none else none else none else none else none else again_1 (v10,v11) else none else again (IntKind.wrap .i64 (x.1+(1:Int)),v11)) ((0:Int),x.2.1,PUnit.unit) else none else bif List.all x.2.1.1 fun (x_1:Nat)=>gu x.2.1.2 x_1 then some (List.map (fun (x_1:Nat)=>bw x.2.1.2 x_1) x.2.1.1,(0:Int),PUnit.unit) else none) ((0:Int),x.2.1,PUnit.unit)) ((0:Int),(T,List.replicate (Int.toNat (↑(List.length x0.1):Int)) (some [])),PUnit.unit) else none
theorem MW (s:Sy):bq s=RS (yo Sh.ref (0:Nat) (Int.toNat (↑(List.length s.1):Int)) 0) s:=by kernel_rfl
theorem xn:∀(n k:Nat),yo Sh.ref (0:Nat) n k=(List.range n).map fun i=>k+i
 | 0,_=>rfl
 | n+1,k=>by
  rw[List.range_succ_eq_map,List.map_cons,List.map_map]
  unfold yo
  rw[xn n (k+1)]
  have e:shS k Sh.ref (0:Nat)=k+0:=rfl
  rw[e]
  congr 1
  refine List.map_congr_left fun i _=>?_
  simp only[Function.comp]
  omega
def vS (m w:Nat) (T:Nat->Nat->Int):List Nat×List (Option (List Int)):=(cW m fun k=>m+k,List.replicate m (some [])++gM m w T)
theorem Kj {n:Nat}:List.replicate n (0:Int)=cW n fun _=>0:=by
 unfold cW
 rw[List.map_const',List.length_range]
section
variable {m w:Nat} {T:Nat->Nat->Int}
theorem Bg {i:Nat}:(List.replicate m (some ([]:List Int))++gM m w T).getD (m+i) none=(gM m w T).getD i none:=by
 rw[List.getD_eq_getElem?_getD,List.getD_eq_getElem?_getD,List.getElem?_append_right (by rw[List.length_replicate];omega),List.length_replicate,Nat.add_sub_cancel_left]
theorem Ck {i:Nat} (h:i<m):bw (List.replicate m (some ([]:List Int))++gM m w T) (m+i)=cW w (T i):=by
 unfold bw
 rw[Bg,rH h]
 rfl
theorem Gv {i:Nat} (h:i<m):gu (List.replicate m (some ([]:List Int))++gM m w T) (m+i)=true:=by
 unfold gu
 rw[Bg,rH h]
 rfl
theorem Lc {i j:Nat} {x:Int} (hi:i<m) (hj:j<w):(List.replicate m (some ([]:List Int))++gM m w T).set (m+i) (some ((cW w (T i)).set j x))=List.replicate m (some [])++gM m w fun k l=>if k=i/\l=j then x else T k l:=by
 rw[List.set_append_right _ _ (by rw[List.length_replicate];omega),List.length_replicate,Nat.add_sub_cancel_left,LS hi hj]
end
theorem E4 {s:Sy} (h:gk s=true):bq s=some (zP s,0,()):=by
 have hv:=gy h
 have hb:=hv.bl
 have hr:=hv.rl
 have hf:=fun n=>Bv s n (show s.1.length<=1000000 by omega)
 rw[MW,xn]
 simp only[RS,Bd,h,af,Bool.not_true,cF,z9,List.length_map,List.length_range,z7 (show (0:Int)<=(s.1.length:Nat) by omega),z7 (show (0:Int)<=(s.2.length:Nat) by omega),
  fZ (show s.1.length*24<=140737488355328 by omega),fZ (show s.2.length*8<=140737488355328 by omega),Bool.and_self,cT]
 obtain ⟨m,hm⟩:∃m,m=s.1.length:=⟨_,rfl⟩
 obtain ⟨w,hw⟩:∃w,w=s.2.length:=⟨_,rfl⟩
 rw[<-hm] at hb ⊢
 rw[<-hw] at hr ⊢
 refine iq m (by omega) (fun i=>((i:Int),(cW m (fun k=>if k<i then m+k else k),List.replicate m (some [])++gM i w fun _ _=>0),PUnit.unit)) _ ?_ (fun again i hi=>?_) (fun again=>?_)
 ·have e:(List.range m).map (fun i=>0+i)=cW m (fun k=>if k<0 then m+k else k):=iY (f:=fun i=>0+i) fun k _=>by rw[if_neg (by omega),Nat.zero_add]
  rw[e]
  show _=((0:Int),(_,List.replicate m (some ([]:List Int))++[]),PUnit.unit)
  rw[List.append_nil]
 ·simp only[bV,dH,z7 hi,z7 (show (i:Int)<m by omega),cT,z9,wJ (show i.succ<=m by omega),cV (show i<=1000000 by omega)]
  refine congrArg again ?_
  refine congrArg (fun p=>(((i+1:Nat):Int),p,PUnit.unit)) ?_
  rw[Cb hi,List.length_append,List.length_replicate,oc,Kj,List.append_assoc,vI]
  refine congrArg (fun l=>(l,_)) ?_
  refine iY fun k _=>?_
  by_cases c:k=i
  ·rw[if_pos c,if_pos (by omega)];omega
  ·rw[if_neg c]
   by_cases c2:k<i
   ·rw[if_pos c2,if_pos (by omega)]
   ·rw[if_neg c2,if_neg (by omega)]
 ·simp only[z8 (show ¬ (m:Int)<m by omega),cF]
  refine iq w (by omega) (fun k=>((k:Int),vS m w (fun i j=>if j<k then Mx s i j else 0),PUnit.unit)) _ ?_ (fun again k hk=>?_) (fun again=>?_)
  ·refine congrArg (fun p=>((0:Int),p,PUnit.unit)) ?_
   unfold vS
   refine Prod.ext (iY fun k hk=>by rw[if_pos hk]) ?_
   simp only
   rw[kI fun i j _ _=>(if_neg (show ¬ j<0 by omega)).symm]
  ·have hwk:k<s.2.length:=by omega
   have hpl:=fun t ht=>hv.pl k t hwk ht
   have hhl:=hv.hl k hwk
   have hpb:=fun n=>mW (n:=n) (hs:=hsS s k) hpl
   simp only[bV,z7 hk,z7 (show (k:Int)<w by omega),cT,z9,cV (show k<=1000000 by omega),show (List.getD s.2 k ({ data:={ toList:=[] } },[],false)).2.1=hsS s k from rfl]
   refine iq (hsS s k).length (by omega) (fun t=>((t:Int),vS m w (fun i j=>if j<k then Mx s i j else if j=k then kP (hsS s k) (bnS s i) t else 0),PUnit.unit)) _ ?_ (fun again1 t ht=>?_) (fun again1=>?_)
   ·refine congrArg (fun p=>((0:Int),p,PUnit.unit)) ?_
    unfold vS
    refine congrArg (fun c=>(_,List.replicate m (some ([]:List Int))++c)) (kI fun i j _ _=>?_)
    by_cases c1:j<k
    ·rw[if_pos c1,if_pos c1]
    ·rw[if_neg c1,if_neg c1]
     split<;>rfl
   ·obtain ⟨hd,hhd⟩:∃hd,hd=(hsS s k).getD t hd0:=⟨_,rfl⟩
    have hpt:=hpl t ht
    simp only[bV,z7 ht,z7 (show (t:Int)<(hsS s k).length by omega),cT,z9,cV (show t<=1000000 by omega),show List.getD (hsS s k) t ({ data:={ toList:=[] } },(0:Int),(0:Int),(0:Int))=(hsS s k).getD t hd0 from rfl,hf,af]
    rw[<-hhd] at hpt ⊢
    have estep:∀n,kP (hsS s k) n (t+1)=kP (hsS s k) n t+if hd.1=n then hd.2.1 else 0:=fun n=>by rw[hhd];rfl
    rcases GU s hd.1 with ⟨h1,h2⟩ | ⟨i0,h1,h2,h3⟩
    ·rw[z8 (show ¬ fbI s hd.1>=0 by omega),cF]
     refine congrArg again1 ?_
     refine congrArg (fun p=>(((t+1:Nat):Int),p,PUnit.unit)) ?_
     unfold vS
     refine congrArg (fun c=>(_,List.replicate m (some ([]:List Int))++c)) (kI fun i j hi _=>?_)
     have e:kP (hsS s k) (bnS s i) (t+1)=kP (hsS s k) (bnS s i) t:=by
      rw[estep,if_neg fun e=>h2 i (by omega) e.symm,Int.add_zero]
     rw[e]
    ·have hi0:i0<m:=by omega
     have hTl:(cW m fun k=>m+k).getD i0 0=m+i0:=tK hi0
     have hrow:=Ck (w:=w) (T:=fun i j=>if j<k then Mx s i j else if j=k then kP (hsS s k) (bnS s i) t else 0) hi0
     have hget:(cW w fun j=>if j<k then Mx s i0 j else if j=k then kP (hsS s k) (bnS s i0) t else 0).getD k 0=kP (hsS s k) (bnS s i0) t:=by
      rw[tK hk,if_neg (by omega),if_pos rfl]
     have hb1:=hpb (bnS s i0) t (by omega)
     simp only[h2,z7 (show (i0:Int)>=0 by omega),cT,z9]
     unfold vS
     simp only[bV,dH,z7 hi0,cT,hTl,hrow,z7 hk,wJ (show k.succ<=w by omega),wJ (show i0.succ<=m by omega),hget]
     rw[bm (by omega) (by omega),Lc (T:=fun i j=>if j<k then Mx s i j else if j=k then kP (hsS s k) (bnS s i) t else 0) hi0 hk]
     refine congrArg again1 ?_
     refine congrArg (fun c=>(((t+1:Nat):Int),(_,List.replicate m (some ([]:List Int))++c),PUnit.unit)) (kI fun i j hi _=>?_)
     by_cases c1:j=k
     ·subst c1
      by_cases c2:i=i0
      ·subst c2
       rw[if_pos ⟨rfl,rfl⟩,if_neg (by omega),if_pos rfl,estep,if_pos h3.symm]
      ·rw[if_neg fun e=>c2 e.1,if_neg (by omega),if_pos rfl,if_neg (by omega),if_pos rfl,estep,if_neg,Int.add_zero]
       intro e
       exact c2 (hv.inj i i0 (by omega) h1 (by rw[h3,e]))
     ·rw[if_neg fun e=>c1 e.2,if_neg c1,if_neg c1]
   ·simp only[z8 (show ¬ ((hsS s k).length:Int)<(hsS s k).length by omega),cF]
    refine congrArg again ?_
    refine congrArg (fun p=>(((k+1:Nat):Int),p,PUnit.unit)) ?_
    unfold vS
    refine congrArg (fun c=>(_,List.replicate m (some ([]:List Int))++c)) (kI fun i j _ _=>?_)
    by_cases c1:j<k
    ·rw[if_pos c1,if_pos (by omega)]
    ·rw[if_neg c1]
     by_cases c2:j=k
     ·subst c2
      rw[if_pos rfl,if_pos (by omega)]
      rfl
     ·rw[if_neg c2,if_neg (by omega)]
  ·simp only[z8 (show ¬ (w:Int)<w by omega),cF]
   have hall:((vS m w fun i j=>if j<w then Mx s i j else 0).1.all fun x=>gu (vS m w fun i j=>if j<w then Mx s i j else 0).2 x)=true:=by
    rw[List.all_eq_true]
    intro x hx
    obtain ⟨i,hi,rfl⟩:=List.mem_map.1 hx
    exact Gv (List.mem_range.1 hi)
   have hmap:(vS m w fun i j=>if j<w then Mx s i j else 0).1.map (fun x=>bw (vS m w fun i j=>if j<w then Mx s i j else 0).2 x)=zP s:=by
    unfold zP yg
    rw[<-hm,<-hw]
    unfold vS cW
    rw[List.map_map]
    refine List.map_congr_left fun i hi=>?_
    have:=Ck (w:=w) (T:=fun i j=>if j<w then Mx s i j else 0) (List.mem_range.1 hi)
    exact this.trans (iY fun j hj=>if_pos hj)
   rw[hall,hmap,cT]
def gN:List Int->List Fq->Rat->Option Rat
 | n ::l,a ::x,s=>if dU ((n:Rat)*qv a)/\dU (s+(n:Rat)*qv a) then gN l x (s+(n:Rat)*qv a) else none
 | _,_,s=>some s
def G5 {R:Type} (o:Option Rat) (bad:Option R) (good:Rat->Option R):Option R:=match o with
 | some q=>good q
 | none=>bad
theorem wH {σ R:Type} {l:List Int} {x:List Fq} (hl:l.length<=x.length) {b:Nat->σ->(σ->Option R)->Option R} {f:σ->Option R} {cur:σ->Rat} {bad:Option R} {good:Rat->Option R}
  (nx:∀i s,dU (cur s+((l.getD i 0:Int):Rat)*qv (x.getD i (0,0)))->σ) (hnx:∀i s h,cur (nx i s h)=cur s+((l.getD i 0:Int):Rat)*qv (x.getD i (0,0)))
  (hb:∀i s k,i<l.length->b i s k=if h:dU (((l.getD i 0:Int):Rat)*qv (x.getD i (0,0)))/\dU (cur s+((l.getD i 0:Int):Rat)*qv (x.getD i (0,0))) then k (nx i s h.2) else bad)
  (hf:∀s,f s=good (cur s)):∀(k i:Nat) (s:σ),i+k=l.length->upF b f k i s=G5 (gN (l.drop i) (x.drop i) (cur s)) bad good
 | 0,i,s,h=>by
  rw[List.drop_eq_nil_of_le (by omega)]
  exact hf s
 | k+1,i,s,h=>by
  have h1:i<l.length:=by omega
  have h2:i<x.length:=by omega
  have e1:l.getD i 0=l[i]:=cm h1
  have e2:x.getD i (0,0)=x[i]:=cm h2
  simp only[upF]
  rw[hb i s _ h1,List.drop_eq_getElem_cons h1,List.drop_eq_getElem_cons h2,gN,<-e1,<-e2]
  split
  ·rw[wH hl nx hnx hb hf k (i+1) _ (by omega),hnx]
  ·rfl
theorem obN {T R:Type} {t:T} {k:T->Option R}:ah (some t) k=k t:=id rfl
theorem qu (n:Int):ap n=some (n,1):=id rfl
theorem O3 {l:List Int} {x:List Fq} {e:Int} (hl:l.length<=x.length) (h0:l.length<=1000000) (hc:∀n ∈ l,-1152921504606846976<=n/\n<=1152921504606846976) (hx:∀a ∈ x,okF a) :
  bL e l x=G5 (gN l x 0) (some (5,(0,1))) fun q=>some (e,prQ q):=by
 simp only[bL,jo]
 refine (gF (α:=Int×Int×Fq×Fq×PUnit) l.length (by omega) (fun i (s:Fq×{q:Rat // dU q})=>((i:Int),e,s.1,prQ s.2.1,PUnit.unit))
  (fun i s k=>if h:dU (((l.getD i 0:Int):Rat)*qv (x.getD i (0,0)))/\dU (s.2.1+((l.getD i 0:Int):Rat)*qv (x.getD i (0,0))) then k (s.1,⟨_,h.2⟩) else some (5,(0,1))) (fun s=>some (e,prQ s.2.1)) ?_ ?_ ((0,0),⟨0,by decide⟩)).trans ?_
 ·intro again i s hi
  have hw:IntKind.wrap .i64 ((i:Int)+1)=((i+1:Nat):Int):=by rw[bm (by omega) (by omega)];rfl
  obtain ⟨w,q,hq⟩:=s
  have hn:l.getD i 0 ∈ l:=by rw[cm hi];exact List.getElem_mem _
  have ha:okF (x.getD i (0,0)):=by rw[cm (show i<x.length by omega)];exact hx _ (List.getElem_mem _)
  have hm:=Lf (kC (hc _ hn).1 (hc _ hn).2) ha
  rw[oY] at hm
  simp only[bV,z7 hi,z7 (show i<x.length by omega),z7 (show (i:Int)<l.length by omega),cT,z9,hw,Az,hm,af]
  generalize l.getD i 0=n at *
  generalize x.getD i (0,0)=a at *
  rcases gm ((n:Rat)*qv a) with ⟨f1,e1⟩ | ⟨f1,e1⟩
  ·have hA:=Eo (gZ hq) (gZ f1)
   rw[jb,jb] at hA
   simp only[e1,decide_true,cT,hA,af]
   rcases gm (q+(n:Rat)*qv a) with ⟨f2,e2⟩ | ⟨f2,e2⟩
   ·rw[dif_pos ⟨f1,f2⟩]
    simp only[e2,decide_true,Bool.not_true,cF]
   ·rw[dif_neg fun h=>f2 h.2]
    simp only[e2]
    rfl
  ·rw[dif_neg fun h=>f1 h.1]
   simp only[e1]
   rfl
 ·intro again s
  simp only[z8 (show ¬ (l.length:Int)<l.length by omega),cF]
 ·exact wH (cur:=fun s:Fq×{q:Rat // dU q}=>s.2.1) (bad:=some (5,(0,1))) (good:=fun q=>some (e,prQ q)) hl (fun i s h=>(s.1,⟨_,h⟩)) (fun _ _ _=>rfl) (fun _ _ _ _=>rfl) (fun _=>rfl) l.length 0 ((0,0),⟨0,by decide⟩) (by omega)
theorem Fz {l:List Int} {x:List Fq} (hl:l.length<=x.length) (h0:l.length<=1000000) (hc:∀n ∈ l,-1152921504606846976<=n/\n<=1152921504606846976) (hx:∀a ∈ x,okF a) :
  dD l x=G5 (gN l x 0) (some ((0,0),5,())) fun q=>some (prQ q,0,()):=by
 unfold dD qy
 rw[qu,obN]
 refine (gF (α:=Int×Fq×Fq×PUnit) l.length (by omega) (fun i (s:{q:Rat // dU q})=>((i:Int),(0,0),prQ s.1,PUnit.unit))
  (fun i s k=>if h:dU (((l.getD i 0:Int):Rat)*qv (x.getD i (0,0)))/\dU (s.1+((l.getD i 0:Int):Rat)*qv (x.getD i (0,0))) then k ⟨_,h.2⟩ else some ((0,0),5,())) (fun s=>some (prQ s.1,0,())) ?_ ?_ ⟨0,by decide⟩).trans ?_
 ·intro again i s hi
  have hw:IntKind.wrap .i64 ((i:Int)+1)=((i+1:Nat):Int):=by rw[bm (by omega) (by omega)];rfl
  obtain ⟨q,hq⟩:=s
  have hn:l.getD i 0 ∈ l:=by rw[cm hi];exact List.getElem_mem _
  have ha:okF (x.getD i (0,0)):=by rw[cm (show i<x.length by omega)];exact hx _ (List.getElem_mem _)
  have hm:=yE (kC (hc _ hn).1 (hc _ hn).2) ha
  rw[oY] at hm
  simp only[bV,z7 hi,z7 (show i<x.length by omega),z7 (show (i:Int)<l.length by omega),cT,z9,hw,qu,hm,af]
  generalize l.getD i 0=n at *
  generalize x.getD i (0,0)=a at *
  rcases gm ((n:Rat)*qv a) with ⟨f1,e1⟩ | ⟨f1,e1⟩
  ·have hA:=AO (gZ hq) (gZ f1)
   rw[jb,jb] at hA
   simp only[e1,decide_true,Bool.not_true,cF,hA,af]
   rcases gm (q+(n:Rat)*qv a) with ⟨f2,e2⟩ | ⟨f2,e2⟩
   ·rw[dif_pos ⟨f1,f2⟩]
    simp only[e2,decide_true,Bool.not_true,cF]
   ·rw[dif_neg fun h=>f2 h.2]
    simp only[e2]
    rfl
  ·rw[dif_neg fun h=>f1 h.1]
   simp only[e1]
   rfl
 ·intro again s
  simp only[z8 (show ¬ (l.length:Int)<l.length by omega),cF]
 ·exact wH (cur:=fun s:{q:Rat // dU q}=>s.1) (bad:=some ((0,0),5,())) (good:=fun q=>some (prQ q,0,())) hl (fun i s h=>⟨_,h⟩) (fun _ _ _=>rfl) (fun _ _ _ _=>rfl) (fun _=>rfl) l.length 0 ⟨0,by decide⟩ (by omega)
theorem ry:∀{l:List Int} {x:List Fq} {s q:Rat},dU s->gN l x s=some q->dU q
 | [],_,s,q,hs,h=>by
  unfold gN at h
  injection h with h
  rw[<-h];exact hs
 | _ ::_,[],s,q,hs,h=>by
  unfold gN at h
  injection h with h
  rw[<-h];exact hs
 | n ::l,a ::x,s,q,hs,h=>by
  unfold gN at h
  split at h
  ·rename_i hh
   exact ry hh.2 h
  ·cases h
end
end Go.Proofs.YtegbncajloeepaaGreat

namespace Go.Proofs.YtegbncajloeepaaGreat
open Tryz Dn Dn.Sh
theorem wi {n:Int} (h:inC n=true): -1152921504606846976<=n/\n<=1152921504606846976:=by
 have:=z12 h
 omega
theorem FW {n:Int} (h:inR n=true): -1152921504606846976<=n/\n<=1152921504606846976:=by
 have:=z12 h
 omega
structure ValidP (p:Pg):Prop where
 cost:1<=p.1.length/\p.1.length<=12
 rows:p.2.length<=6
 cs:∀n ∈ p.1,inC n=true
 len:∀r ∈ p.2,r.1.length=p.1.length
 kind:∀r ∈ p.2,1<=r.2.1/\r.2.1<=3
 right:∀r ∈ p.2,inR r.2.2=true
 coefs:∀r ∈ p.2,∀n ∈ r.1,inC n=true
theorem xA {p:Pg}:uJ p=true↔ValidP p:=by
 unfold uJ Kr
 rw[z10,z10,decide_eq_true_iff,List.all_eq_true,List.all_eq_true]
 constructor
 ·rintro ⟨⟨h1,h2,h3⟩,h4,h5⟩
  have h6:∀r ∈ p.2,r.1.length=p.1.length/\(1<=r.2.1/\r.2.1<=3)/\inR r.2.2=true/\∀n ∈ r.1,inC n=true:=fun r hr=>by
   have:=h5 r hr
   unfold vG at this
   rw[z10,z10,z10,decide_eq_true_iff,decide_eq_true_iff,List.all_eq_true] at this
   exact this
  exact ⟨⟨h1,h2⟩,h3,h4,fun r hr=>(h6 r hr).1,fun r hr=>(h6 r hr).2.1,fun r hr=>(h6 r hr).2.2.1,fun r hr=>(h6 r hr).2.2.2⟩
 ·rintro ⟨h1,h2,h3,h4,h5,h6,h7⟩
  refine ⟨⟨h1.1,h1.2,h2⟩,h3,fun r hr=>?_⟩
  unfold vG
  rw[z10,z10,z10,decide_eq_true_iff,decide_eq_true_iff,List.all_eq_true]
  exact ⟨h4 r hr,h5 r hr,h6 r hr,h7 r hr⟩
theorem M0 {a:Fq} {n:Int} (ha:okF a) (hn: -1152921504606846976<=n/\n<=1152921504606846976):fC a n=some (rX (qv a) (n:Rat)):=by
 have h:=QI ha (kC hn.1 hn.2)
 rw[oY] at h
 simp only[fC,nD,h,af]
theorem EM {l:List Int} {x:List Fq}:dU ((gN l x 0).getD 0):=by
 cases h:gN l x 0 with
 | none=>decide
 | some q=>exact ry (by decide) h
theorem QQ {l:List Int} {x:List Fq} {e:Int} (hl:l.length<=x.length) (h0:l.length<=1000000) (hc:∀n ∈ l,inC n=true) (hx:∀a ∈ x,okF a) :
  bL e l x=some (bif (gN l x 0).isSome then e else 5,prQ ((gN l x 0).getD 0)):=by
 rw[O3 hl h0 (fun n hn=>wi (hc n hn)) hx]
 cases gN l x 0<;>rfl
def Tv (s:Sy):List Int:=cW s.1.length (bwS s)
theorem MS {s:Sy} (h:gk s=true):cG s=some (Tv s,0,()):=by
 have hv:=gy h
 have hb:=hv.bl
 simp only[cG,jl,Bd,h,af,Bool.not_true,cF]
 refine iq s.1.length (by omega) (fun i=>(cW i (bwS s),(i:Int),PUnit.unit)) _ rfl (fun again i hi=>?_) (fun again=>?_)
 ·simp only[bV,z7 hi,z7 (show (i:Int)<s.1.length by omega),cT,z9,dH,fZ (show (i+1)*8<=140737488355328 by omega),cV (show i<=1000000 by omega),show (List.getD s.1 i ({ data:={ toList:=[] } },(0:Int))).2=bwS s i from rfl,kz]
 ·simp only[z8 (show ¬ (s.1.length:Int)<s.1.length by omega),cF]
  rfl
def yV (s:Sy) (i:Nat):Rw:=(cW s.2.length (Mx s i),(3:Int),bwS s i)
def nj (s:Sy) (c:List Int):Pg:=(c,cW s.1.length (yV s))
theorem Ks {s:Sy} (h:gk s=true) (c:List Int):gp s c=some (nj s c,0,()):=by
 have hv:=gy h
 have hb:=hv.bl
 unfold gp oB
 rw[E4 h,af,MS h,af]
 refine (cF _ _).trans ((cF _ _).trans ?_)
 unfold zP Tv
 refine iq s.1.length (by omega) (fun i=>((i:Int),c,cW i (yV s),PUnit.unit)) _ rfl (fun again i hi=>?_) (fun again=>?_)
 ·simp only[bV,nQ,dH,z7 hi,z7 (show (i:Int)<s.1.length by omega),cT,z9,fZ (show (i+1)*40<=140737488355328 by omega),cV (show i<=1000000 by omega),uk hi,tK hi]
  rw[show (cW s.2.length (Mx s i),(3:Int),bwS s i)=yV s i from rfl,kz]
 ·simp only[nQ,z8 (show ¬ (s.1.length:Int)<s.1.length by omega),cF]
  rfl
theorem GW {s:Sy} (h:gk s=true) (c:List Int):cu s c=some (nj s c):=by
 have hv:=gy h
 have hb:=hv.bl
 simp only[cu,lh,CE hv,af]
 unfold zP
 refine iq s.1.length (by omega) (fun i=>((i:Int),c,cW i (yV s),PUnit.unit)) _ rfl (fun again i hi=>?_) (fun again=>?_)
 ·simp only[bV,nQ,z7 hi,z7 (show (i:Int)<s.1.length by omega),cT,z9,dH,fZ (show (i+1)*40<=140737488355328 by omega),cV (show i<=1000000 by omega),uk hi]
  rw[show (cW s.2.length (Mx s i),(3:Int),(List.getD s.1 i ({ data:={ toList:=[] } },(0:Int))).2)=yV s i from rfl,kz]
 ·simp only[z8 (show ¬ (s.1.length:Int)<s.1.length by omega),cF]
  rfl
def nh (s:Sy):List Int:=List.replicate s.2.length 1
theorem KI (s:Sy) (hl:s.2.length<=1000000):ep s=some (nh s):=by
 simp only[ep,pB]
 refine iq s.2.length (by omega) (fun i=>(List.replicate i 1,(i:Int),PUnit.unit)) _ rfl (fun again i hi=>?_) (fun again=>?_)
 ·simp only[z7 (show (i:Int)<s.2.length by omega),cT,List.length_replicate,fZ (show (i+1)*8<=140737488355328 by omega),cV (show i<=1000000 by omega)]
  rw[List.replicate_succ']
 ·simp only[z8 (show ¬ (s.2.length:Int)<s.2.length by omega),cF]
  rfl
theorem NS (z:Int) {n:Nat} (hn:n<=1000000):cf [z] (n:Int)=some (List.replicate n z):=by
 have hm:gL (IntKind.wrap .u64 ((List.length [z]:Nat):Int)) (IntKind.wrap .u64 (n:Int))=some (0,(n:Int),()):=by
  simp only[gL,sN]
  rw[aU (by simp) (by simp),aU (by omega) (by omega),S5 (by simp) (by simp) (by omega) (by omega),af]
  simp only[List.length_singleton]
  congr 1
  refine Prod.ext ?_ (Prod.ext ?_ rfl)
  ·show ((1:Nat):Int)*n / 18446744073709551616=0
   omega
  ·show ((1:Nat):Int)*n % 18446744073709551616=n
   omega
 have hw:IntKind.wrap .i64 (n:Int)=(n:Int):=bm (by omega) (by omega)
 simp only[cf,iX,jnT]
 rw[z8 (show ¬ (n:Int)<0 by omega),cF,hm,af]
 have h63:decide ((n:Int)>9223372036854775807)=false:=z8 (by omega)
 have hz0:decide ((0:Int)>0)=false:=rfl
 have hz1:decide ((0:Int)<=(n:Int))=true:=z7 (by omega)
 have hfb:eQ n 8=true:=fZ (by omega)
 simp only[hw,hz0,h63,hz1,z9,hfb,Bool.not_false,Bool.not_true,Bool.or_true,Bool.and_self,cT,cF,List.drop_zero,List.take_zero,List.nil_append]
 refine iL (g:=fun _=>some (List.replicate n z)) (I:=fun (x:Int×List Int×PUnit)=>∃c:Nat,x.1=c/\c<=n/\(0<n->0<c)/\x.2.1.length=n/\x.2.1.take c=List.replicate c z) (μ:=fun (x:Int×List Int×PUnit)=>n - x.1.toNat) ?_ ?_ (by simp only;omega)
 ·rintro ⟨i,row,_⟩ rec ⟨c,h1,h2,h3,h4,h5⟩ hrec
  simp only at h1 h4 h5 hrec ⊢
  subst h1
  simp only[z9,h4]
  by_cases hc:c<n
  ·have hl:(List.take (n - c) (List.take c row)).length=min (n - c) c:=by rw[List.length_take,List.length_take,h4];omega
   rw[z7 (show (c:Int)<n by omega),cT,DI (by omega) (by omega) (by omega),DI (by omega) (by omega) (by omega),wJ (by omega),wJ (Nat.le_refl n)]
   simp only[Bool.and_self,cT]
   rw[bm (by omega) (by omega)]
   refine hrec _ ⟨c+min (n - c) c,?_,by omega,by omega,?_,?_⟩ ?_
   ·simp only;rw[hl];omega
   ·simp only[List.length_append,List.length_drop,hl,h4,List.length_take];omega
   ·simp only
    rw[List.take_append_of_le_length (by rw[List.length_append,hl,List.length_take,h4];omega),h5,List.take_replicate,List.replicate_append_replicate,List.take_replicate]
    congr 1
    omega
   ·simp only;rw[hl];omega
  ·have:c=n:=by omega
   subst this
   rw[z8 (show ¬ (c:Int)<c by omega),cF]
   rw[<-h5,List.take_of_length_le (by omega)]
 ·refine ⟨(List.take n [z]).length,rfl,by rw[List.length_take];omega,fun h=>by rw[List.length_take];simp;omega,?_,?_⟩
  ·simp only[List.length_append,List.length_drop,List.length_replicate,List.length_take,List.length_singleton];omega
  ·simp only
   rcases Nat.eq_zero_or_pos n with h | h
   ·subst h;rfl
   ·obtain ⟨m,rfl⟩:∃m,n=m+1:=⟨n - 1,by omega⟩
    simp
theorem JX {s:Sy} (h:gk s=true):aV s=some (nj s (nh s),0,()):=by
 have hr:=(gy h).rl
 simp only[aV,ll,NS 1 (show s.2.length<=1000000 by omega),af]
 rw[show List.replicate s.2.length (1:Int)=nh s from rfl,Ks h]
 rfl
theorem mB {α:Type} {n:Nat} {f:Nat->α} {a:α}:a ∈ cW n f↔∃i,i<n/\f i=a:=by
 unfold cW
 rw[List.mem_map]
 exact ⟨fun ⟨i,h1,h2⟩=>⟨i,List.mem_range.1 h1,h2⟩,fun ⟨i,h1,h2⟩=>⟨i,List.mem_range.2 h1,h2⟩⟩
theorem KP {s:Sy} (hv:ValidS s) {c:List Int} (hl:c.length=s.2.length) (hc:∀n ∈ c,inC n=true):ValidP (nj s c):=by
 have hb:=hv.bl
 have hr:=hv.rl
 refine ⟨⟨by show 1<=c.length;omega,by show c.length<=12;omega⟩,?_,hc,fun r h=>?_,fun r h=>?_,fun r h=>?_,fun r h n hn=>?_⟩
 ·show (cW s.1.length (yV s)).length<=6
  rw[dH];omega
 all_goals
  obtain ⟨i,hi,rfl⟩:=mB.1 h
 ·show (cW s.2.length (Mx s i)).length=c.length
  rw[dH,hl]
 ·exact ⟨by show (1:Int)<=3;omega,by show (3:Int)<=3;omega⟩
 ·have:=hv.wt i hi
  exact z7 (by show -1073741824<=bwS s i/\bwS s i<=1073741824;omega)
 ·obtain ⟨k,hk,rfl⟩:=mB.1 hn
  have:=wQ hv i hk
  exact z7 (by omega)
theorem CK {s:Sy} (hv:ValidS s):ValidP (nj s (nh s)):=KP hv (by unfold nh;rw[List.length_replicate]) fun n hn=>by
 rw[(List.mem_replicate.1 hn).2];rfl
def kj (s:ByteArray):Bool:=!decide ((s.size:Int)>60)
def tD (s:Sy):Bool:=decide (s.1.length<=9/\s.2.length<=9)&&(s.1.all (fun b=>kj b.1)&&s.2.all (fun r=>kj r.1&&(!decide ((r.2.1.length:Int)>13)&&r.2.1.all fun h=>kj h.1)))
theorem Gl (s:Sy):ba s=some (tD s):=by
 obtain ⟨bs,rs⟩:=s
 simp only[ba,nv,tD]
 by_cases h0:bs.length<=9/\rs.length<=9
 ·rw[z7 h0,z8 (show ¬ (bs.length:Int)>9 by omega),z8 (show ¬ (rs.length:Int)>9 by omega)]
  simp only[Bool.not_false,Bool.not_true,Bool.or_true,cT,cF,Bool.true_and]
  refine (rB (p:=fun b:Bk=>kj b.1) (d:=bk0) (l:=bs) (no:=some false) (yes:=some (rs.all (fun r=>kj r.1&&(!decide ((r.2.1.length:Int)>13)&&r.2.1.all fun h=>kj h.1)))) (by omega) ?_ ?_).trans ?_
  ·intro again i hi
   simp only[bV,z7 hi,z7 (show (i:Int)<bs.length by omega),cT,z9,cV (show i<=1000000 by omega),kj]
   generalize decide ((((bs.getD i bk0).1.size:Nat):Int)>60)=g
   cases g<;>rfl
  ·intro again
   simp only[z8 (show ¬ (bs.length:Int)<bs.length by omega),cF]
   refine (rB (p:=fun r:Rp=>kj r.1&&(!decide ((r.2.1.length:Int)>13)&&r.2.1.all fun h=>kj h.1)) (d:=rp0) (l:=rs) (no:=some false) (yes:=some true) (by omega) ?_ ?_).trans ?_
   ·intro again i hi
    simp only[bV,z7 hi,z7 (show (i:Int)<rs.length by omega),cT,z9,cV (show i<=1000000 by omega)]
    simp only[kj]
    generalize decide ((((rs.getD i rp0).1.size:Nat):Int)>60)=g1
    by_cases g:((rs.getD i rp0).2.1.length:Int)>13
    ·rw[z7 g]
     cases g1<;>rfl
    ·rw[z8 g]
     cases g1 with
     | true=>rfl
     | false =>
      simp only[Bool.not_true,Bool.not_false,Bool.or_true,Bool.and_self,Bool.true_and,cT,cF]
      refine rB (p:=fun h:Hd=>!decide (((h.1.size:Nat):Int)>60)) (d:=hd0) (l:=(rs.getD i rp0).2.1) (by omega) ?_ ?_
      ·intro again1 t ht
       simp only[bV,z7 ht,z7 (show (t:Int)<(rs.getD i rp0).2.1.length by omega),cT,z9,cV (show t<=1000000 by omega)]
       generalize decide (((((rs.getD i rp0).2.1.getD t hd0).1.size:Nat):Int)>60)=g
       cases g<;>rfl
      ·intro again1
       simp only[z8 (show ¬ ((rs.getD i rp0).2.1.length:Int)<(rs.getD i rp0).2.1.length by omega),cF]
   ·intro again
    simp only[z8 (show ¬ (rs.length:Int)<rs.length by omega),cF]
   ·cases rs.all (fun r=>kj r.1&&(!decide ((r.2.1.length:Int)>13)&&r.2.1.all fun h=>kj h.1))<;>rfl
  ·cases bs.all (fun b=>kj b.1)<;>rfl
 ·rw[z8 h0]
  by_cases g:(bs.length:Int)>9
  ·rw[z7 g];rfl
  ·rw[z8 g,z7 (show (rs.length:Int)>9 by omega)];rfl
theorem DK {s:Sy} (h:tD s=true):s.1.length<=9/\s.2.length<=9:=by
 unfold tD at h
 rw[z10,decide_eq_true_iff] at h
 exact h.1
end Go.Proofs.YtegbncajloeepaaGreat

namespace Go.Proofs.YtegbncajloeepaaGreat
noncomputable section
open Tryz Dn Dn.Sh
def okL (x:List Fq):Bool:=x.all fun a=>decide (okF a)
theorem Jc {x:List Fq} (h:x.length<=1000000):eB x=some (okL x):=by
 have hc:ai x (fun x=>du x.1)=some (!okL x):=by
  unfold okL
  rw[<-wv]
  refine Ge (p:=fun a:Fq=>!decide (okF a)) h fun a _=>?_
  simp only[du,jr,kL,af]
 simp only[eB,lg,hc,af,Bool.not_not]
theorem mM {x:List Fq}:okL x=true↔∀a ∈ x,okF a:=by
 unfold okL
 rw[List.all_eq_true]
 exact ⟨fun h a ha=>z12 (h a ha),fun h a ha=>z7 (h a ha)⟩
theorem CP {a:Fq} (ha:okF a):cJ a=some (rX (qv a) 0):=by
 have h:=FSs ha (kC (n:=0) (by omega) (by omega))
 rw[oY] at h
 simp only[cJ,pE,qu,af,h]
 rfl
end
end Go.Proofs.YtegbncajloeepaaGreat

namespace Go.Proofs.YtegbncajloeepaaGreat
open Tryz Dn Dn.Sh
def lJ (p:Pg) (j:Nat):List Int:=p.2.map fun r=>r.1.getD j 0
def mj (p:Pg):List Int:=p.2.map fun r=>r.2.2
theorem BR {g:Rw->Int} {rs:List Rw} {F:(List Int×Int×PUnit->Option (List Int))->List Int×Int×PUnit->Option (List Int)} (h:rs.length<=1000000)
  (hF:∀again (i:Nat),i<rs.length->F again ((rs.take i).map g,(i:Int),PUnit.unit)=again ((rs.take i).map g++[g (rs.getD i rw0)],((i+1:Nat):Int),PUnit.unit))
  (hf:∀again,F again (rs.map g,(rs.length:Int),PUnit.unit)=some (rs.map g)):lpK (List Int×Int×PUnit) (List Int) F ([],(0:Int),PUnit.unit)=some (rs.map g):=by
 refine (gF (α:=List Int×Int×PUnit) (σ:=Unit) rs.length (by omega) (fun i _=>((rs.take i).map g,(i:Int),PUnit.unit)) (fun i s k=>bif true then k s else none) (fun _=>some (rs.map g)) ?_ ?_ ()).trans ?_
 ·intro again i _ hi
  rw[hF again i hi,cT]
  congr 2
  rw[cm hi,List.take_succ_eq_append_getElem hi,List.map_append]
  rfl
 ·intro again _
  rw[List.take_length]
  exact hf again
 ·refine (jz (p:=fun _=>true) (r:=none) rs.length (fun _ _ _=>rfl) rs.length 0 (by omega)).trans ?_
  rw[show ((List.range' 0 rs.length).all fun _=>true)=true from List.all_eq_true.2 fun _ _=>rfl]
  rfl
theorem ul {g:Rw->Int} {rs:List Rw} {i:Nat}:((rs.take i).map g).length<=rs.length:=by
 rw[List.length_map,List.length_take];omega
theorem yN {p:Pg} {j:Nat} (hv:ValidP p) (hj:j<p.1.length):dM p (j:Int)=some (lJ p j):=by
 obtain ⟨c,rs⟩:=p
 unfold dM kp lJ
 have h6:=hv.rows
 simp only at h6 hj
 refine BR (rs:=rs) (g:=fun r=>r.1.getD j 0) (by omega) (fun again i hi=>?_) (fun again=>by simp)
 have hw:IntKind.wrap .i64 ((i:Int)+1)=((i+1:Nat):Int):=by rw[bm (by omega) (by omega)];rfl
 have hr:rs.getD i rw0 ∈ rs:=by rw[cm hi];exact List.getElem_mem _
 have hL:=hv.len _ hr
 have hT:=ul (g:=fun r=>r.1.getD j 0) (rs:=rs) (i:=i)
 simp only at hL
 simp only[bV,z7 hi,z7 (show (i:Int)<rs.length by omega),cT,z9,hw,z7 (show j<(rs.getD i rw0).1.length by omega),fZ (show (((rs.take i).map fun r=>r.1.getD j 0).length+1)*8<=140737488355328 by omega)]
theorem D2 {p:Pg} {j:Nat} (hv:ValidP p) (hj:j<p.1.length):fz p (j:Int)=some (lJ p j):=yN hv hj
theorem zG {p:Pg} (hv:ValidP p):dP p=some (mj p):=by
 obtain ⟨c,rs⟩:=p
 unfold dP kq mj
 have h6:=hv.rows
 simp only at h6
 refine BR (rs:=rs) (g:=fun r=>r.2.2) (by omega) (fun again i hi=>?_) (fun again=>by simp)
 have hw:IntKind.wrap .i64 ((i:Int)+1)=((i+1:Nat):Int):=by rw[bm (by omega) (by omega)];rfl
 have hT:=ul (g:=fun r=>r.2.2) (rs:=rs) (i:=i)
 simp only[bV,z7 hi,z7 (show (i:Int)<rs.length by omega),cT,z9,hw,fZ (show (((rs.take i).map fun r=>r.2.2).length+1)*8<=140737488355328 by omega)]
theorem DC {p:Pg} (hv:ValidP p):fA p=some (mj p):=zG hv
def uu (k n:Int):Bool:=(decide (k≠1)||decide (n<=0))&&(decide (k≠2)||decide (0<=n))
def iV (p:Pg) (y:List Fq):Bool:=(List.range' 0 p.2.length).all fun i=>uu (p.2.getD i rw0).2.1 (y.getD i (0,0)).1
theorem EJ {p:Pg} {y:List Fq} (hv:ValidP p) (hl:y.length=p.2.length):dL p y=some (iV p y):=by
 obtain ⟨c,rs⟩:=p
 unfold dL ki iV
 have h6:=hv.rows
 simp only at h6 hl ⊢
 refine (gF (α:=Int×PUnit) (σ:=Unit) rs.length (by omega) (fun i _=>((i:Int),PUnit.unit)) (fun i s k=>bif uu (rs.getD i rw0).2.1 (y.getD i (0,0)).1 then k s else some false) (fun _=>some true) ?_ ?_ ()).trans ?_
 ·intro again i _ hi
  have hw:IntKind.wrap .i64 ((i:Int)+1)=((i+1:Nat):Int):=by rw[bm (by omega) (by omega)];rfl
  simp only[bV,z7 hi,z7 (show (i:Int)<rs.length by omega),z7 (show i<y.length by omega),cT,z9,hw]
  obtain ⟨n,hn⟩:∃n,(y.getD i (0,0)).1=n:=⟨_,rfl⟩
  obtain ⟨kd,hkd⟩:∃kd,(rs.getD i rw0).2.1=kd:=⟨_,rfl⟩
  simp only[hn,hkd,uu]
  by_cases k1:kd=1<;>by_cases k2:kd=2<;>by_cases c1:n<=0<;>by_cases c2:0<=n<;>by_cases c3:n>0<;>by_cases c4:n<0<;>first | (exfalso;omega) | simp[k1,k2,c1,c2,c3,c4]
 ·intro again s
  simp only[z8 (show ¬ (rs.length:Int)<rs.length by omega),cF]
 ·refine (jz (p:=fun i=>uu (rs.getD i rw0).2.1 (y.getD i (0,0)).1) (r:=some false) rs.length (fun _ _ _=>rfl) rs.length 0 (by omega)).trans ?_
  cases (List.range' 0 rs.length).all fun i=>uu (rs.getD i rw0).2.1 (y.getD i (0,0)).1<;>rfl
theorem EQ {a:Fq} (ha:okF a):rX (qv a) 0=if a.1<0 then -1 else if a.1=0 then 0 else 1:=by
 unfold rX
 simp only[M2 ha,HG ha]
theorem De {p:Pg} {y:List Fq} (hv:ValidP p) (hy:∀a ∈ y,okF a) (hl:y.length=p.2.length):eW p y=some (iV p y):=by
 obtain ⟨c,rs⟩:=p
 unfold eW mF iV
 have h6:=hv.rows
 simp only at h6 hl ⊢
 refine (gF (α:=Int×PUnit) (σ:=Unit) rs.length (by omega) (fun i _=>((i:Int),PUnit.unit)) (fun i s k=>bif uu (rs.getD i rw0).2.1 (y.getD i (0,0)).1 then k s else some false) (fun _=>some true) ?_ ?_ ()).trans ?_
 ·intro again i _ hi
  have hw:IntKind.wrap .i64 ((i:Int)+1)=((i+1:Nat):Int):=by rw[bm (by omega) (by omega)];rfl
  have ha:okF (y.getD i (0,0)):=by rw[cm (show i<y.length by omega)];exact hy _ (List.getElem_mem _)
  have hcn:=EQ ha
  simp only[bV,z7 hi,z7 (show (i:Int)<y.length by omega),z7 (show i<y.length by omega),cT,z9,hw,CP ha]
  obtain ⟨cq,hcq⟩:∃cq,rX (qv (y.getD i (0,0))) 0=cq:=⟨_,rfl⟩
  obtain ⟨n,hn⟩:∃n,(y.getD i (0,0)).1=n:=⟨_,rfl⟩
  obtain ⟨kd,hkd⟩:∃kd,(rs.getD i rw0).2.1=kd:=⟨_,rfl⟩
  rw[hcq,hn] at hcn
  simp only[hcq,hn,hkd,uu]
  have hneg:cq<0↔n<0:=by rw[hcn];split<;>(try split)<;>omega
  have hpos:cq>0↔0<n:=by rw[hcn];split<;>(try split)<;>omega
  by_cases k1:kd=1<;>by_cases k2:kd=2<;>by_cases c1:n<=0<;>by_cases c2:0<=n<;>by_cases c3:0<cq<;>by_cases c4:cq<0<;>first | (exfalso;omega) | simp[k1,k2,c1,c2,c3,c4,af]
 ·intro again s
  simp only[hl,z8 (show ¬ (rs.length:Int)<rs.length by omega),cF]
 ·refine (jz (p:=fun i=>uu (rs.getD i rw0).2.1 (y.getD i (0,0)).1) (r:=some false) rs.length (fun _ _ _=>rfl) rs.length 0 (by omega)).trans ?_
  cases (List.range' 0 rs.length).all fun i=>uu (rs.getD i rw0).2.1 (y.getD i (0,0)).1<;>rfl
end Go.Proofs.YtegbncajloeepaaGreat

namespace Go.Proofs.YtegbncajloeepaaGreat
noncomputable section
open Tryz Dn Dn.Sh
def vk (p:Pg) (y:List Fq):Bool:=(List.range' 0 p.1.length).all fun j=>(gN (lJ p j) y 0).isSome
def sK (p:Pg) (y:List Fq) (f:Nat->Int):Bool:=(List.range' 0 p.1.length).all fun j=>decide (rX ((gN (lJ p j) y 0).getD 0) (f j:Rat)<=0)
theorem FA {p:Pg} {j:Nat} (hv:ValidP p) (hj:j<p.1.length):∀n ∈ lJ p j,inC n=true:=fun n hn=>by
 obtain ⟨r,hr,rfl⟩:=List.mem_map.1 hn
 rw[cm (by rw[hv.len r hr];exact hj)]
 exact hv.coefs r hr _ (List.getElem_mem _)
theorem wa {p:Pg} {j:Nat}:(lJ p j).length=p.2.length:=by unfold lJ;rw[List.length_map]
theorem rN {p:Pg}:(mj p).length=p.2.length:=by unfold mj;rw[List.length_map]
theorem yT {p:Pg} (hv:ValidP p):∀n ∈ mj p,inR n=true:=fun n hn=>by
 obtain ⟨r,hr,rfl⟩:=List.mem_map.1 hn
 exact hv.right r hr
theorem EO {R:Type} {n:Nat} {g h:Nat->Bool} {f:Bool×Int->Option R} {b:Nat->Bool×Int->(Bool×Int->Option R)->Option R}
  (hb:∀i s k,i<n->b i s k=k (s.1&&h i,bif g i then s.2 else 5)):∀(k i:Nat) (s:Bool×Int),i+k<=n ->
  upF b f k i s=f (s.1&&(List.range' i k).all h,bif (List.range' i k).all g then s.2 else 5)
 | 0,i,s,_=>by simp[upF]
 | k+1,i,s,hi=>by
  simp only[upF,hb i s _ (by omega)]
  rw[EO hb k (i+1) _ (by omega)]
  simp only[List.range'_succ,List.all_cons,Bool.and_assoc]
  congr 2
  cases g i<;>cases (List.range' (i+1) k).all g<;>rfl
theorem QV {l:List Int} {x:List Fq} {e:Int} (hl:l.length<=x.length) (h0:l.length<=1000000) (hc:∀n ∈ l,inR n=true) (hx:∀a ∈ x,okF a) :
  bL e l x=some (bif (gN l x 0).isSome then e else 5,prQ ((gN l x 0).getD 0)):=by
 rw[O3 hl h0 (fun n hn=>FW (hc n hn)) hx]
 cases gN l x 0<;>rfl
def yl (p:Pg) (y:List Fq):Option Rat:=gN (mj p) y 0
def Ij (p:Pg) (y:List Fq):Bool:=decide (0<(prQ ((yl p y).getD 0)).1)
def Ha (p:Pg) (y:List Fq):Bool:=Ij p y&&(iV p y&&sK p y fun _=>0)
theorem B0 {p:Pg} {y:List Fq} (h:y.length<=1000000):cd p y=some (bif uJ p&&okL y then bif decide (y.length=p.2.length) then bif vk p y&&(yl p y).isSome then (Ha p y,0,()) else (false,5,()) else (false,3,()) else (false,1,())):=by
 unfold cd jt
 rw[Gh,obN]
 simp only[Jc h,bv,eu,cT]
 cases hv:uJ p with
 | false=>rfl
 | true =>
  simp only[Bool.not_true,Bool.not_false,cT]
  rw[obN]
  cases hx:okL y with
  | false=>rfl
  | true =>
   have hV:=xA.1 hv
   have hX:=mM.1 hx
   have h6:=hV.rows
   have h7:=hV.cost.2
   simp only[Bool.not_true,cF,Bool.and_self,cT]
   by_cases hl:y.length=p.2.length
   ·simp only[z7 hl,z7 (show (y.length:Int)=p.2.length by omega),Bool.not_true,cT,cF]
    refine (gF (α:=Bool×Int×Int×PUnit) p.1.length (by omega) (fun i (s:Bool×Int)=>(s.1,(i:Int),s.2,PUnit.unit)) (fun j s k=>k (s.1&&decide (rX ((gN (lJ p j) y 0).getD 0) ((0:Int):Rat)<=0),bif (gN (lJ p j) y 0).isSome then s.2 else 5))
     (fun s=>some ((Ij p y&&(iV p y&&s.1))&&decide ((bif (yl p y).isSome then s.2 else 5)=0),bif (yl p y).isSome then s.2 else 5,())) ?_ ?_ (true,0)).trans ?_
    ·intro again i s hi
     have hw:IntKind.wrap .i64 ((i:Int)+1)=((i+1:Nat):Int):=by rw[bm (by omega) (by omega)];rfl
     have h1:=QQ (l:=lJ p i) (x:=y) (e:=s.2) (by rw[wa];omega) (by rw[wa];omega) (FA hV hi) hX
     have h2:=M0 (n:=0) (gZ (EM (l:=lJ p i) (x:=y))) (by omega)
     rw[jb] at h2
     simp only[z7 (show (i:Int)<p.1.length by omega),cT,yN hV hi,h1,cX,iH,h2,af,hw]
     cases decide (rX ((gN (lJ p i) y 0).getD 0) ((0:Int):Rat)<=0)<;>cases s.1<;>rfl
    ·intro again s
     have h1:=QV (l:=mj p) (x:=y) (e:=s.2) (by rw[rN];omega) (by rw[rN];omega) (yT hV) hX
     simp only[z8 (show ¬ (p.1.length:Int)<p.1.length by omega),cF,zG hV,h1,af,EJ hV hl]
     obtain ⟨n,hn⟩:∃n,(prQ ((gN (mj p) y 0).getD 0)).1=n:=⟨_,rfl⟩
     simp only[Ij,yl,hn]
     by_cases c1:n>0
     ·simp only[z7 c1]
      cases iV p y<;>cases s.1<;>rfl
     ·simp only[z8 c1]
      cases iV p y<;>cases s.1<;>rfl
    ·rw[EO (n:=p.1.length) (g:=fun j=>(gN (lJ p j) y 0).isSome) (h:=fun j=>decide (rX ((gN (lJ p j) y 0).getD 0) ((0:Int):Rat)<=0)) (fun _ _ _ _=>rfl) p.1.length 0 _ (by omega)]
     rw[show ((List.range' 0 p.1.length).all fun j=>(gN (lJ p j) y 0).isSome)=vk p y from rfl,show ((List.range' 0 p.1.length).all fun j=>decide (rX ((gN (lJ p j) y 0).getD 0) ((0:Int):Rat)<=0))=sK p y (fun _=>0) from rfl]
     unfold Ha
     cases vk p y<;>cases (yl p y).isSome<;>cases Ij p y<;>cases iV p y<;>cases sK p y (fun _=>0)<;>rfl
   ·simp only[z8 hl,z8 (show ¬ (y.length:Int)=p.2.length by omega),Bool.not_false,cT,cF]
end
end Go.Proofs.YtegbncajloeepaaGreat

namespace Go.Proofs.YtegbncajloeepaaGreat
open Tryz Dn Dn.Sh
theorem B6 {R:Type} {n:Nat} {g h:Nat->Bool} {f:Bool->Option R} {bad:Option R} {b:Nat->Bool->(Bool->Option R)->Option R}
  (hb:∀i s k,i<n->b i s k=bif g i then k (s&&h i) else bad):∀(k i:Nat) (s:Bool),i+k<=n ->
  upF b f k i s=bif (List.range' i k).all g then f (s&&(List.range' i k).all h) else bad
 | 0,i,s,_=>by simp[upF]
 | k+1,i,s,hi=>by
  simp only[upF,hb i s _ (by omega)]
  simp only[List.range'_succ,List.all_cons,<-Bool.and_assoc]
  cases g i with
  | false=>rfl
  | true =>
   rw[cT,B6 hb k (i+1) _ (by omega),Bool.true_and]
theorem Hp {p:Pg} {y:List Fq} {most:List Int} (hv:ValidP p) (hy:∀a ∈ y,okF a) (hl:y.length=p.2.length) (hm:most.length=p.1.length) (hmb:∀n ∈ most,inC n=true) :
  eP p y most=bif vk p y then some (sK p y (fun j=>most.getD j 0),0,()) else some (false,5,()):=by
 unfold eP ny
 have h6:=hv.rows
 have h7:=hv.cost.2
 refine (gF (α:=Bool×Int×PUnit) p.1.length (by omega) (fun i (s:Bool)=>(s,(i:Int),PUnit.unit)) (fun j s k=>bif (gN (lJ p j) y 0).isSome then k (s&&decide (rX ((gN (lJ p j) y 0).getD 0) ((most.getD j 0:Int):Rat)<=0)) else some (false,5,()))
  (fun s=>some (s,0,())) ?_ ?_ true).trans ?_
 ·intro again i s hi
  have hw:IntKind.wrap .i64 ((i:Int)+1)=((i+1:Nat):Int):=by rw[bm (by omega) (by omega)];rfl
  have h1:=Fz (l:=lJ p i) (x:=y) (by rw[wa];omega) (by rw[wa];omega) (fun n hn=>wi (FA hv hi n hn)) hy
  have hn:most.getD i 0 ∈ most:=by rw[cm (by omega)];exact List.getElem_mem _
  have h2:=FSs (gZ (EM (l:=lJ p i) (x:=y))) (kC (wi (hmb _ hn)).1 (wi (hmb _ hn)).2)
  rw[jb,oY] at h2
  simp only[bV,z7 (show (i:Int)<most.length by omega),z7 (show i<most.length by omega),cT,D2 hv hi,h1,af,hw,z9,qu]
  cases hs:gN (lJ p i) y 0 with
  | none=>rfl
  | some q =>
   rw[hs] at h2
   simp only[Option.getD_some] at h2
   cases s with
   | false=>rfl
   | true =>
    simp only[G5,af,cT,h2]
    rfl
 ·intro again s
  simp only[hm,z8 (show ¬ (p.1.length:Int)<p.1.length by omega),cF]
 ·rw[B6 (n:=p.1.length) (g:=fun j=>(gN (lJ p j) y 0).isSome) (h:=fun j=>decide (rX ((gN (lJ p j) y 0).getD 0) ((most.getD j 0:Int):Rat)<=0)) (fun _ _ _ _=>rfl) p.1.length 0 _ (by omega)]
  rfl
theorem DN {n j:Nat}:(List.replicate n (0:Int)).getD j 0=0:=by
 rw[List.getD_eq_getElem?_getD,List.getElem?_replicate]
 split<;>rfl
theorem CX {p:Pg} {y:List Fq} (hV:ValidP p) (hX:∀a ∈ y,okF a) (hl:y.length=p.2.length):dw p y=some (bif vk p y&&(yl p y).isSome then (Ha p y,0,()) else (false,5,())):=by
 have h6:=hV.rows
 have h7:=hV.cost.2
 have hb:=Hp (most:=List.replicate p.1.length 0) hV hX hl (by simp) (fun n hn=>by rw[List.eq_of_mem_replicate hn];decide)
 have hf:(fun j=>(List.replicate p.1.length (0:Int)).getD j 0)=fun _=>0:=funext fun _=>DN
 rw[hf] at hb
 have hs:=Fz (l:=mj p) (x:=y) (by rw[rN];omega) (by rw[rN];omega) (fun n hn=>FW (yT hV n hn)) hX
 simp only[dw,lj,z9,fZ (show p.1.length*8<=140737488355328 by omega),z7 (show (0:Int)<=(p.1.length:Nat) by omega),Bool.and_self,cT,hb]
 cases vk p y with
 | false=>rfl
 | true =>
  simp only[cT,af,decide_true,Bool.not_true,cF,DC hV,hs,Bool.true_and]
  unfold Ha Ij yl
  cases hq:gN (mj p) y 0 with
  | none=>rfl
  | some q =>
   have hq':=ry (by decide) hq
   have hg:=EQ (gZ hq')
   rw[jb] at hg
   simp only[G5,af,decide_true,Bool.not_true,cF,CP (gZ hq'),jb,hg,De hV hX hl,Option.getD_some]
   obtain ⟨n,hn⟩:∃n,(prQ q).1=n:=⟨_,rfl⟩
   simp only[hn]
   by_cases c1:n<0
   ·rw[if_pos c1,z8 (show ¬ 0<n by omega)]
    cases sK p y (fun _=>0)<;>cases iV p y<;>rfl
   ·by_cases c2:n=0
    ·rw[if_neg c1,if_pos c2,z8 (show ¬ 0<n by omega)]
     cases sK p y (fun _=>0)<;>cases iV p y<;>rfl
    ·rw[if_neg c1,if_neg c2,z7 (show 0<n by omega)]
     cases sK p y (fun _=>0)<;>cases iV p y<;>rfl
theorem EL {s:Sy} (h:gk s=true) (y:List Fq):dF s y=ah (cd (nj s (nh s)) y) fun t=>some (t.1,t.2.1,()):=by
 unfold dF ms
 rw[JX h,af]
 rfl
structure PivOk (m w:Nat) (T:Nat->Nat->Int) (d:Int) (r c:Nat):Prop where
 hm:m<=1000
 hw:w<=1000
 hr:r<m
 hc:c<w
 hd:0<d/\d<4611686018427387904
 b:∀i j,i<m->j<w->(T i j).natAbs<4611686018427387904
 q:∀i j,i<m->i≠r->j<w->d*piv T d r c i j=T r c*T i j - T i c*T r j
 qb:∀i j,i<m->i≠r->j<w->(piv T d r c i j).natAbs<4611686018427387904
structure Bnd (L:Lin) (Y:Lay):Prop where
 ok:Y.ok L
 m:L.m<=12
 w:Y.w L<=64
 P:L.F0*L.P<=17592186044416
theorem Dj {x:Int}:ab x=x.natAbs:=rfl
section
variable {L:Lin} {Y:Lay}
theorem Bnd.P' (h:Bnd L Y):L.P<=17592186044416:=by
 have h1:=L.F0_pos
 have h2:=L.P_pos
 have h3:1*L.P<=L.F0*L.P:=z11 h1 (by omega)
 have:=h.P
 omega
theorem Bnd.tab (h:Bnd L Y) {T:Nat->Nat->Int} {d:Int} {β:Nat->Nat} (ht:Tb L.m (Y.w L) (Y.M L) T d β):(0<d/\d<=17592186044416)/\∀i j,i<L.m->j<Y.w L->(T i j).natAbs<=17592186044416:=by
 obtain ⟨h1,h2⟩:=vC h.ok ht
 have h3:=h.P'
 refine ⟨⟨ht.dpos,by omega⟩,fun i j hi hj=>?_⟩
 have:=h2 i j hi hj
 rw[Dj] at this
 omega
theorem It (j:Nat):(vr L j).natAbs<=L.F0 - 1:=by
 unfold vr Lin.F0
 have h0:0<=sz L.n fun j=>ab (L.c j):=lZ fun j _=>fo _
 split
 ·rename_i hj
  have h1:(sz L.n fun i=>if i=j then ab (L.c j) else 0)<=sz L.n fun j=>ab (L.c j):=yy fun i _=>by
   by_cases e:i=j
   ·rw[if_pos e,e];exact Int.le_refl _
   ·rw[if_neg e];exact fo _
  rw[iJ hj fun i _ hne=>if_neg hne,if_pos rfl,Dj] at h1
  omega
 ·simp only[Int.natAbs_zero]
  omega
theorem Bnd.cost (h:Bnd L Y) {x:Int} (hx:(x.natAbs:Int)<=L.P) (j:Nat): -17592186044416<=vr L j*x/\vr L j*x<=17592186044416:=by
 have h1:=It (L:=L) j
 have h2:((vr L j*x).natAbs:Int)<=L.F0*L.P:=by
  rw[Int.natAbs_mul,Int.natCast_mul]
  refine Int.le_trans (Int.mul_le_mul (show ((vr L j).natAbs:Int)<=L.F0 by omega) hx (by omega) (by omega)) (Int.le_refl _)
 have:=h.P
 omega
theorem Qq (x:Int) (y:Int):(sg x*y).natAbs=y.natAbs:=by unfold sg;split<;>omega
theorem Bnd.piv (h:Bnd L Y) {T:Nat->Nat->Int} {d:Int} {β:Nat->Nat} (ht:Tb L.m (Y.w L) (Y.M L) T d β) {r c:Nat} (hr:r<L.m) (hc:c<Y.w L) (he:T r c≠0):PivOk L.m (Y.w L) T d r c:=by
 obtain ⟨h1,h2⟩:=h.tab ht
 obtain ⟨h3,h4⟩:=h.tab (ht.step hr hc he)
 have:=h.m
 have:=h.w
 refine ⟨by omega,by omega,hr,hc,by omega,fun i j hi hj=>by have:=h2 i j hi hj;omega,fun i j hi hne hj=>kw ht hr hi (Ne.symm hne) hc hj,fun i j hi hne hj=>?_⟩
 have h5:=h4 i j hi hj
 unfold uI at h5
 rw[if_neg hne,Qq] at h5
 omega
def AZ (L:Lin) (Y:Lay) (S:Sx):Prop:=∀i,i<L.m->Y.N<=S.β i->(∀j,j<Y.N->S.T i j=0)/\S.T i (Y.R L)=0
theorem AZ.art (S:Sx) (h:AZ L Y S):Pa L.m Y.N S (Y.R L):=fun i hi hN=>(h i hi hN).2
theorem AZ.col (S:Sx) (h:AZ L Y S) {q:Nat} (hq:q<Y.N):Pa L.m Y.N S q:=fun i hi hN=>(h i hi hN).1 q hq
def vm (S:Sx) (r c:Nat):Sx:=⟨uI S.T S.d r c,sg (S.T r c)*S.T r c,upd S.β r c⟩
theorem AZ.step {S:Sx} (h:AZ L Y S) {r c:Nat} (hc:c<Y.N):AZ L Y (vm S r c):=fun i hi hN=>by
 have hb:(vm S r c).β i=upd S.β r c i:=rfl
 rw[hb] at hN
 unfold upd at hN
 by_cases e:i=r
 ·rw[if_pos e] at hN;omega
 ·rw[if_neg e] at hN
  obtain ⟨h1,h2⟩:=h i hi hN
  have hT:∀j,(vm S r c).T i j=sg (S.T r c)*Dn.piv S.T S.d r c i j:=fun j=>by
   show uI S.T S.d r c i j=_
   unfold uI
   rw[if_neg e]
  have hz:∀j,S.T i j=0->Dn.piv S.T S.d r c i j=0:=fun j hj=>by
   unfold Dn.piv
   rw[hj,h1 c hc,Int.mul_zero,Int.zero_mul,Int.sub_zero,Int.zero_ediv]
  exact ⟨fun j hj=>by rw[hT,hz j (h1 j hj),Int.mul_zero],by rw[hT,hz _ h2,Int.mul_zero]⟩
end
section
variable {L:Lin} {Y:Lay}
theorem Val.flat {S:Sx} (hv:Y.Val L S) {r c:Nat} (hr:r<L.m) (hc:c<Y.N) (he:S.T r c≠0) (h0:S.T r (Y.R L)=0):Y.Val L (vm S r c):=by
 have hcw:c<Y.w L:=by unfold Lay.w;omega
 have hRw:Y.R L<Y.w L:=by unfold Lay.R Lay.w;omega
 have hd:=hv.tb.dpos
 refine ⟨hv.tb.step hr hcw he,fun i hi=>?_,fun i hi=>?_⟩
 ·show 0<=uI S.T S.d r c i (Y.R L)
  unfold uI
  by_cases e:i=r
  ·rw[if_pos e,h0,Int.mul_zero];exact Int.le_refl _
  ·rw[if_neg e]
   have h1:=kw hv.tb hr hi (Ne.symm e) hcw hRw
   rw[h0,Int.mul_zero,Int.sub_zero] at h1
   have h2:0<=sg (S.T r c)*S.T r c*S.T i (Y.R L):=Int.mul_nonneg (Int.le_of_lt (HN he)) (hv.feas i hi)
   rw[Int.mul_assoc,<-h1] at h2
   have h3:sg (S.T r c)*(S.d*Dn.piv S.T S.d r c i (Y.R L))=S.d*(sg (S.T r c)*Dn.piv S.T S.d r c i (Y.R L)):=by grind
   rw[h3] at h2
   exact Int.nonneg_of_mul_nonneg_right h2 hd
 ·show upd S.β r c i≠_
  unfold upd
  split
  ·unfold Lay.R;omega
  ·exact hv.ne i hi
theorem Cm {T:Nat->Nat->Int} {d:Int} {r c i j:Nat} (h1:T i j=0) (h2:T i c=0\/T r j=0):Dn.piv T d r c i j=0:=by
 unfold Dn.piv
 rw[h1,Int.mul_zero]
 rcases h2 with h | h
 ·rw[h,Int.zero_mul,Int.sub_zero,Int.zero_ediv]
 ·rw[h,Int.mul_zero,Int.sub_zero,Int.zero_ediv]
structure Swp (L:Lin) (Y:Lay) (i:Nat) (S:Sx):Prop where
 val:Y.Val L S
 right:∀k,k<L.m->Y.N<=S.β k->S.T k (Y.R L)=0
 rows:∀k,k<L.m->k<i->Y.N<=S.β k->∀j,j<Y.N->S.T k j=0
theorem Swp.step {i:Nat} {S:Sx} (h:Swp L Y i S) {j:Nat} (hi:i<L.m) (hj:j<Y.N) (hN:Y.N<=S.β i) (he:S.T i j≠0):Swp L Y i (vm S i j):=by
 have h0:=h.right i hi hN
 have up:∀k,k≠i->(vm S i j).β k=S.β k:=fun k hk=>by
  show upd S.β i j k=_
  unfold upd
  rw[if_neg hk]
 have ui:(vm S i j).β i=j:=by
  show upd S.β i j i=_
  unfold upd
  rw[if_pos rfl]
 have hT:∀k l,k≠i->(vm S i j).T k l=sg (S.T i j)*Dn.piv S.T S.d i j k l:=fun k l hk=>by
  show uI S.T S.d i j k l=_
  unfold uI
  rw[if_neg hk]
 refine ⟨Val.flat h.val hi hj he h0,fun k hk hb=>?_,fun k hk hlt hb l hl=>?_⟩
 ·have e:k≠i:=fun e=>by rw[e,ui] at hb;omega
  rw[up k e] at hb
  rw[hT k _ e,Cm (h.right k hk hb) (.inr h0),Int.mul_zero]
 ·have e:k≠i:=by omega
  rw[up k e] at hb
  rw[hT k _ e,Cm (h.rows k hk hlt hb l hl) (.inl (h.rows k hk hlt hb j hj)),Int.mul_zero]
end
def uZ (p:Pg):Lin:=⟨p.1.length,p.2.length,fun k j=>(p.2.getD k rw0).1.getD j 0,fun k=>(p.2.getD k rw0).2.2,fun j=>p.1.getD j 0,fun k=>(p.2.getD k rw0).2.1⟩
def P1 (p:Pg):Nat->Nat
 | 0=>0
 | k+1=>P1 p k+if (p.2.getD k rw0).2.1=3 then 0 else 1
def wB (p:Pg):Lay:=⟨p.1.length+P1 p p.2.length,fun k=>p.1.length+P1 p k,fun k=>if (p.2.getD k rw0).2.2<0 then -1 else 1⟩
abbrev St:=Int×Int×(List Nat×List (Option (List Int)))×Int×List Int×List Int×List Int×Int×Int×PUnit
def fac (L:Lin):Nat->Int
 | 0=>L.F0
 | k+1=>L.F k
def pp (f:Nat->Int):Nat->Int
 | 0=>1
 | n+1=>pp f n*f n
def mx (f:Nat->Int):Nat->Int
 | 0=>f 0
 | n+1=>max (mx f n) (f (n+1))
def OU (L:Lin):Prop:=pp (fac L) (L.m+1)<=17592186044416/\pp (fac L) (L.m+1)*mx (fac L) L.m<=144115188075855872
instance (L:Lin):Decidable (OU L):=by unfold OU;infer_instance
structure Infeas (p:Pg) (S:Sx):Prop where
 val:(wB p).Val (uZ p) S
 zr:∀j,j<(wB p).N->0<=zr (uZ p).m (S7 (wB p).N) S j
 pos:0<sz (uZ p).m fun i=>S7 (wB p).N (S.β i)*S.T i ((wB p).R (uZ p))
structure gV (p:Pg) (S:Sx) (q:Nat):Prop where
 val:(wB p).Val (uZ p) S
 az:AZ (uZ p) (wB p) S
 lt:q<(wB p).N
 neg:zr (uZ p).m (vr (uZ p)) S q<0
 no:∀i,i<(uZ p).m->S.T i q<=0
structure Opt (p:Pg) (S:Sx):Prop where
 val:(wB p).Val (uZ p) S
 az:AZ (uZ p) (wB p) S
 zr:∀j,j<(wB p).N->0<=zr (uZ p).m (vr (uZ p)) S j
section
variable {p:Pg} {S:Sx}
theorem Dn.Lin.Feas.congr {L:Lin} {x x':Nat->Rat} (h:∀j,j<L.n->x j=x' j) (hx:L.Feas x):L.Feas x':=by
 have hr:∀k,L.row x' k=L.row x k:=fun k=>nY fun j hj=>by rw[h j hj]
 exact ⟨fun j hj=>by rw[<-h j hj];exact hx.pos j hj,fun k hk h2=>by rw[hr];exact hx.most k hk h2,fun k hk h2=>by rw[hr];exact hx.least k hk h2⟩
theorem Dn.Lin.Sgn.congr {L:Lin} {y y':Nat->Rat} (h:∀k,k<L.m->y k=y' k) (hy:L.Sgn y):L.Sgn y' :=
 ⟨fun k hk e=>by rw[<-h k hk];exact hy.most k hk e,fun k hk e=>by rw[<-h k hk];exact hy.least k hk e⟩
end
structure BndR (L:Lin) (Y:Lay):Prop where
 ok:Y.ok L
 m:L.m<=6
 w:Y.w L<=25
 P:L.F0*L.P<=536870912
section
variable {L:Lin} {Y:Lay}
theorem BndR.P' (h:BndR L Y):L.P<=536870912:=by
 have h1:=L.F0_pos
 have h2:=L.P_pos
 have h3:1*L.P<=L.F0*L.P:=z11 h1 (by omega)
 have:=h.P
 omega
theorem BndR.tab (h:BndR L Y) {T:Nat->Nat->Int} {d:Int} {β:Nat->Nat} (ht:Tb L.m (Y.w L) (Y.M L) T d β):(0<d/\d<=536870912)/\∀i j,i<L.m->j<Y.w L->(T i j).natAbs<=536870912/\((T i j).natAbs:Int)<=L.P:=by
 obtain ⟨h1,h2⟩:=vC h.ok ht
 have h3:=h.P'
 refine ⟨⟨ht.dpos,by omega⟩,fun i j hi hj=>?_⟩
 have:=h2 i j hi hj
 rw[Dj] at this
 omega
structure Wc (L:Lin) (Y:Lay) (wc:Nat->Int):Prop where
 small:∀j x,(x.natAbs:Int)<=L.P-> -536870912<=wc j*x/\wc j*x<=536870912
end
section
variable {L:Lin} {Y:Lay}
theorem Swp.next {i:Nat} {S:Sx} (h:Swp L Y i S) (hr:Y.N<=S.β i->∀j,j<Y.N->S.T i j=0):Swp L Y (i+1) S :=
 ⟨h.val,h.right,fun k hk hlt hb j hj=>by
  by_cases e:k=i
  ·subst e;exact hr hb j hj
  ·exact h.rows k hk (by omega) hb j hj⟩
end
section
variable {p:Pg}
end
section
variable {L:Lin} {Y:Lay}
end
theorem EU {f:(Fq×Unit)->Option Bool} {p:Fq->Bool} {l:List Fq} (hl:l.length<=1000000) (h:∀a,a ∈ l->f (a,())=some (p a)):ai l f=some (l.any p):=by
 simp only[ai,fb]
 have e:bj l f=some (ji p l 0):=by
  unfold bj fL
  exact mI (f:=f) (d:=(0,0)) hl h
 rw[e,af,vZ]
end Go.Proofs.YtegbncajloeepaaGreat

namespace Go.Proofs.YtegbncajloeepaaGreat
noncomputable section
open Tryz Dn Dn.Sh
theorem Mr {a:Fq} (ha:okF a):okF (-a.1,a.2)/\qv (-a.1,a.2)= - qv a:=by
 obtain ⟨⟨a1,a2⟩,⟨a3,a4⟩,a5⟩:=ha
 refine ⟨⟨⟨a1,a2⟩,⟨by simp only;omega,by simp only;omega⟩,by simpa using a5⟩,?_⟩
 simp only[qv]
 rw[Rat.neg_mkRat]
theorem NG {a b:Fq} (ha:okF a) (hb:okF b):gS a b=some (tI (qv a - qv b)):=by
 obtain ⟨h2,h3⟩:=Mr hb
 have hb':=hb
 obtain ⟨_,⟨b1,b2⟩,_⟩:=hb'
 have hw:IntKind.wrap .i64 (0 - b.1)= -b.1:=by rw[bm (by omega) (by omega)];omega
 simp only[gS,qt,kL,z7 ha,z7 hb,af,Bool.not_true,Bool.not_false,Bool.or_true,cT,cF]
 rw[hw,Eo ha h2,af,h3,<-Rat.sub_eq_add_neg]
theorem Qn (n:Int):ct n=some (n,1):=id rfl
theorem Mh {q:Rat} {n:Int} {a:Fq} (hq:dU q) (hn: -1152921504606846976<=n/\n<=1152921504606846976) (ha:okF a) :
  dW (prQ q) n a=some (if dU ((n:Rat)*qv a)/\dU (q+(n:Rat)*qv a) then (prQ (q+(n:Rat)*qv a),0,()) else ((0,0),5,())):=by
 have hm:=Lf (kC hn.1 hn.2) ha
 rw[oY] at hm
 simp only[dW,mz,Qn,af,hm]
 rcases gm ((n:Rat)*qv a) with ⟨f1,e1⟩ | ⟨f1,e1⟩
 ·have hA:=Eo (gZ hq) (gZ f1)
  rw[jb,jb] at hA
  simp only[e1,decide_true,Bool.not_true,cF,hA,af]
  rcases gm (q+(n:Rat)*qv a) with ⟨f2,e2⟩ | ⟨f2,e2⟩
  ·rw[if_pos ⟨f1,f2⟩,e2]
  ·rw[if_neg fun h=>f2 h.2,e2]
 ·rw[if_neg fun h=>f1 h.1]
  simp only[e1]
  rfl
theorem BH {α R:Type} {F:(α->Option R)->α->Option R} {x:α} (n:Nat) (hn:n<=1180591620717411303423) (st:Nat->α) (p:Nat->Bool) {bad good:Option R} (hx:x=st 0) (hb:∀again i,i<n->F again (st i)=bif p i then again (st (i+1)) else bad) (hf:∀again,F again (st n)=good) :
  lpK α R F x=bif (List.range' 0 n).all p then good else bad:=by
 rw[hx]
 rcases HO n (fun i=>!p i) with h | ⟨q,h1,h2,h3⟩
 ·have e:(List.range' 0 n).all p=true:=List.all_eq_true.2 fun i hi=>by
   obtain ⟨k,hk,rfl⟩:=List.mem_range'.1 hi
   have:=h (0+1*k) (by omega)
   simpa using this
  rw[e,cT]
  refine AH n hn st _ (fun again i hi=>?_) hf
  have:=h i hi
  rw[hb again i hi,show p i=true by simpa using this,cT]
 ·have e:(List.range' 0 n).all p=false:=by
   rw[Bool.eq_false_iff]
   intro hh
   rw[List.all_eq_true] at hh
   have:=hh q (kn h1)
   rw[this] at h2
   cases h2
  rw[e,cF]
  refine AH q (by omega) st _ (fun again i hi=>?_) (fun again=>?_)
  ·have:=h3 i hi
   rw[hb again i (by omega),show p i=true by simpa using this,cT]
  ·rw[hb again q h1,show p q=false by simpa using h2,cF]
def DX (s:Sy) (l:List Fq) (i:Nat):Option Rat:=gN (cW s.2.length (Mx s i)) l 0
def kM (s:Sy) (l:List Fq) (i:Nat):Rat:=((bwS s i:Int):Rat) - (DX s l i).getD 0
def vT (s:Sy) (l:List Fq) (i:Nat):Bool:=(DX s l i).isSome&&decide (dU (kM s l i))
theorem uv {s:Sy} (h:gk s=true) {l:List Fq} (hl:l.length<=1000000):dn s l=some (bif okL l then bif decide (l.length=s.2.length) then (zP s,0,()) else ([],3,()) else ([],1,())):=by
 have hc:ai l (fun x=>dl x.1)=some (!okL l):=by
  rw[EU (p:=fun a=>!decide (okF a)) hl (fun a _=>by simp only[dl,js,kL,af])]
  congr 1
  unfold okL
  rw[Bool.eq_iff_iff,Bool.not_eq_true',List.any_eq_true]
  constructor
  ·rintro ⟨a,ha,h1⟩
   rw[Bool.eq_false_iff]
   intro hh
   rw[List.all_eq_true] at hh
   rw[hh a ha] at h1
   cases h1
  ·intro hh
   rw[Bool.eq_false_iff] at hh
   apply Classical.byContradiction
   intro hn
   apply hh
   rw[List.all_eq_true]
   intro a ha
   cases hd:decide (okF a) with
   | true=>rfl
   | false=>exact (hn ⟨a,ha,by rw[hd];rfl⟩).elim
 unfold dn lr
 rw[E4 h,af,hc,af]
 rw[show decide ((l.length:Int)=s.2.length)=decide (l.length=s.2.length) from decide_eq_decide.2 (by omega)]
 cases okL l with
 | false=>rfl
 | true=>cases decide (l.length=s.2.length)<;>rfl
theorem MR {s:Sy} (h:gk s=true) {l:List Fq} (ho:∀a ∈ l,okF a) (hlen:l.length=s.2.length) :
  bn s l=bif (List.range' 0 s.1.length).all (vT s l) then some (cW s.1.length fun i=>prQ (kM s l i),0,()) else some ([],5,()):=by
 have hV:=gy h
 have hb:=hV.bl
 have hr:=hV.rl
 have hz:ct 0=some (prQ 0):=rfl
 unfold bn fy
 rw[uv h (by omega),af,mM.2 ho,z7 hlen]
 simp only[cT,decide_true,Bool.not_true,cF]
 unfold zP
 refine BH s.1.length (by omega) (fun i=>(cW i (fun i=>prQ (kM s l i)),(0:Int),(i:Int),PUnit.unit)) (vT s l) rfl (fun again i hi=>?_) (fun again=>?_)
 ·obtain ⟨out,hout⟩:∃out,out=cW i (fun i=>prQ (kM s l i)):=⟨_,rfl⟩
  have hol:out.length=i:=by rw[hout,dH]
  have hnx:cW (i+1) (fun i=>prQ (kM s l i))=out++[prQ (kM s l i)]:=by rw[hout,kz]
  simp only[hnx,<-hout]
  have hM:(yg s.1.length s.2.length (Mx s)).getD i []=cW s.2.length (Mx s i):=uk hi
  have hwt:=hV.wt i hi
  have hlr:(cW s.2.length (Mx s i)).length=s.2.length:=dH
  simp only[nQ,bV,z7 hi,z7 (show (i:Int)<s.1.length by omega),cT,z9,hM,hz,af]
  refine (gF (α:=Int×Fq×PUnit) (cW s.2.length (Mx s i)).length (by omega) (fun k (q:{q:Rat // dU q})=>((k:Int),prQ q.1,PUnit.unit))
   (fun k q K=>if h:dU ((((cW s.2.length (Mx s i)).getD k 0:Int):Rat)*qv (l.getD k (0,0)))/\dU (q.1+(((cW s.2.length (Mx s i)).getD k 0:Int):Rat)*qv (l.getD k (0,0))) then K ⟨_,h.2⟩ else some ([],5,()))
   (fun q=>bif decide (dU (((bwS s i:Int):Rat) - q.1)) then again (out++[prQ (((bwS s i:Int):Rat) - q.1)],0,((i+1:Nat):Int),PUnit.unit) else some ([],5,())) ?_ ?_ ⟨0,by decide⟩).trans ?_
  ·intro again1 k q hk
   rw[hlr] at hk
   obtain ⟨q,hq⟩:=q
   have hkl:k<l.length:=by omega
   have ha:okF (l.getD k (0,0)):=by rw[cm hkl];exact ho _ (List.getElem_mem _)
   have hg:(cW s.2.length (Mx s i)).getD k 0=Mx s i k:=tK hk
   have hbd:=wQ hV i hk
   have hp:=Mh (n:=Mx s i k) hq (by omega) ha
   simp only[bV,dH,z7 hk,z7 hkl,z7 (show (k:Int)<l.length by omega),cT,z9,hg,hp,af,cV (show k<=1000000 by omega)]
   by_cases c:dU ((Mx s i k:Rat)*qv (l.getD k (0,0)))/\dU (q+(Mx s i k:Rat)*qv (l.getD k (0,0)))
   ·rw[dif_pos c,if_pos c]
    simp only[decide_true,Bool.not_true,cF]
   ·rw[dif_neg c,if_neg c]
    rfl
  ·intro again1 q
   obtain ⟨q,hq⟩:=q
   have hS:=NG (kC (n:=bwS s i) (by omega) (by omega)) (gZ hq)
   rw[oY,jb] at hS
   have hwS:ct (List.getD s.1 i ({ data:={ toList:=[] } },(0:Int))).2=some (bwS s i,1):=rfl
   simp only[hlr,hlen,z8 (show ¬ (s.2.length:Int)<s.2.length by omega),cF,hwS,af,hS]
   rcases gm (((bwS s i:Int):Rat) - q) with ⟨f2,e2⟩ | ⟨f2,e2⟩
   ·rw[z7 f2]
    simp only[e2,decide_true,Bool.not_true,cF,cT,cV (show i<=1000000 by omega),fZ (show (out.length+1)*16<=140737488355328 by omega)]
   ·rw[z8 f2]
    simp only[e2]
    rfl
  ·rw[wH (cur:=fun q:{q:Rat // dU q}=>q.1) (bad:=some ([],5,())) (good:=fun q=>bif decide (dU (((bwS s i:Int):Rat) - q)) then again (out++[prQ (((bwS s i:Int):Rat) - q)],0,((i+1:Nat):Int),PUnit.unit) else some ([],5,())) (l:=cW s.2.length (Mx s i)) (x:=l) (by omega) (fun k q h=>⟨_,h⟩) (fun _ _ _=>rfl) (fun _ _ _ _=>rfl) (fun _=>rfl) (cW s.2.length (Mx s i)).length 0 ⟨0,by decide⟩ (by omega)]
   simp only[List.drop_zero]
   rw[show gN (cW s.2.length (Mx s i)) l 0=DX s l i from rfl]
   unfold vT kM
   cases hq:DX s l i with
   | none=>rfl
   | some q=>rfl
 ·simp only[nQ,z8 (show ¬ (s.1.length:Int)<s.1.length by omega),cF,decide_true,Bool.not_true]
def eqB (s:Sy) (l:List Fq):Bool:=(List.range' 0 s.1.length).all fun i=>decide (kM s l i=0)
def qF (s:Sy) (l:List Fq):Bool:=(List.range' 0 s.1.length).all (vT s l)
theorem FT {q:Rat}:(prQ q).1=0↔q=0:=Rat.num_eq_zero
theorem Gd {s:Sy} (h:gk s=true) {l:List Fq} (hl:l.length<=1000000):dq s l=some (bif okL l then bif decide (l.length=s.2.length) then bif qF s l then (eqB s l,0,()) else (false,5,()) else (false,3,()) else (false,1,())):=by
 unfold dq lu
 cases ho:okL l with
 | false =>
  have hr:bn s l=some ([],1,()):=by
   unfold bn fy
   rw[uv h hl,af,ho]
   rfl
  rw[hr]
  rfl
 | true =>
  by_cases hn:l.length=s.2.length
  ·have hb:=(gy h).bl
   rw[MR h (mM.1 ho) hn,z7 hn]
   rw[show ((List.range' 0 s.1.length).all (vT s l))=qF s l from rfl]
   cases hr:qF s l with
   | false=>rfl
   | true =>
    have hc:ai (cW s.1.length fun i=>prQ (kM s l i)) (fun x=>dt x.1)=some (!eqB s l):=by
     rw[EU (p:=fun a=>!decide (a.1=0)) (by rw[dH];omega) (fun a _=>by simp only[dt,jN])]
     congr 1
     unfold eqB
     rw[Bool.eq_iff_iff,List.any_eq_true,Bool.not_eq_true',Bool.eq_false_iff,Ne,List.all_eq_true]
     constructor
     ·rintro ⟨a,ha,h1⟩ hh
      obtain ⟨i,hi,rfl⟩:=mB.1 ha
      have:=z12 (hh i (kn hi))
      rw[z7 (FT.2 this)] at h1
      cases h1
     ·intro hh
      apply Classical.byContradiction
      intro hn
      apply hh
      intro i hi
      obtain ⟨k,hk,rfl⟩:=List.mem_range'.1 hi
      refine z7 (Classical.byContradiction fun h0=>hn ⟨prQ (kM s l (0+1*k)),mB.2 ⟨_,by omega,rfl⟩,?_⟩)
      rw[z8 fun e=>h0 (FT.1 e)]
      rfl
    simp only[cT,af,decide_true,Bool.not_true,cF,hc,Bool.not_not]
  ·have hr:bn s l=some ([],3,()):=by
    unfold bn fy
    rw[uv h hl,af,ho,z8 hn]
    rfl
   rw[hr,z8 hn]
   rfl
end
end Go.Proofs.YtegbncajloeepaaGreat

namespace Go.Proofs.YtegbncajloeepaaGreat
open Tryz Dn Dn.Sh
theorem N0 (a b:Fq):(decide (a.1=b.1)&&(decide (a.2=b.2)&&true))=decide (a=b):=by
 rw[Bool.eq_iff_iff,z10,Bool.and_true,decide_eq_true_iff,decide_eq_true_iff,decide_eq_true_iff]
 exact ⟨fun h=>Prod.ext h.1 h.2,fun h=>by rw[h];exact ⟨rfl,rfl⟩⟩
end Go.Proofs.YtegbncajloeepaaGreat

namespace Go.Proofs.YtegbncajloeepaaGreat
noncomputable section
open Tryz Dn Dn.Sh
abbrev Cl:=List Fq×Bool×List Fq
theorem F9:aH=some true:=by kernel_rfl
def Cf (c:Cl):Bool:=decide (c.1.length>30)||decide (c.2.2.length>30)
theorem IV (c:Cl):aR c=some (Cf c):=by
 simp only[aR,pk]
 unfold Cf
 rw[show decide ((c.1.length:Int)>30)=decide (c.1.length>30) from decide_eq_decide.2 (by omega),show decide ((c.2.2.length:Int)>30)=decide (c.2.2.length>30) from decide_eq_decide.2 (by omega)]
 cases decide (c.1.length>30)<;>rfl
theorem GQ {c:Cl} (h:Cf c=false):c.1.length<=30/\c.2.2.length<=30:=by
 unfold Cf at h
 rw[Bool.or_eq_false_iff,decide_eq_false_iff_not,decide_eq_false_iff_not] at h
 omega
def eK (c:Cl):List Fq:=bif c.2.1 then c.2.2 else c.1
def kh (c:Cl):List Fq:=bif c.2.1 then c.1 else c.2.2
theorem Gb (c:Cl):bA c=some (eK c,kh c,()):=by
 obtain ⟨a,r,b⟩:=c
 simp only[bA,kZ]
 cases r<;>rfl
theorem Iu (c:Cl):eh c=some (eK c):=by
 obtain ⟨a,r,b⟩:=c
 simp only[eh,ow]
 cases r<;>rfl
theorem GM (c:Cl):fG c=some (kh c):=by
 obtain ⟨a,r,b⟩:=c
 simp only[fG,nk]
 cases r<;>rfl
theorem Eg {a b:List Fq} (ha:a.length<=1000000) (hb:b.length<=1000000):cS [a,b]=some (a++b):=by
 have two:lpK (List Fq×Int×PUnit) (List Fq) (fun (again:List Fq×Int×PUnit->Option (List Fq)) (x:List Fq×Int×PUnit)=>bif decide (x.2.1<(([a,b].length:Nat):Int)) then bif inB x.2.1 [a,b].length then
   bif eQ (x.1.length+([a,b].getD x.2.1.toNat []).length) 16 then again (x.1++[a,b].getD x.2.1.toNat [],IntKind.wrap .i64 (x.2.1+1),PUnit.unit) else none else none else some x.1) ([],(0:Int),PUnit.unit)=some (a++b):=by
  refine (EZ [a,b] ([]:List Fq) (by simp) (fun i (s:List Fq)=>(s,((i:Nat):Int),PUnit.unit)) (fun (x:List Fq) (s:List Fq) k=>bif eQ (s.length+x.length) 16 then k (s++x) else none) (fun s=>some s) (fun again i s hi=>?_) (fun again s=>?_) ([]:List Fq)).trans ?_
  ·have hi':i<2:=hi
   have hwr:IntKind.wrap .i64 ((i:Int)+1)=((i+1:Nat):Int):=by rw[bm (by omega) (by omega)];rfl
   simp only[bV,z7 hi,z7 (show (i:Int)<(([a,b].length:Nat):Int) by omega),cT,z9,hwr]
  ·simp only[z8 (show ¬ (([a,b].length:Nat):Int)<(([a,b].length:Nat):Int) by omega),cF]
  ·simp only[ze,List.length_nil,Nat.zero_add,List.nil_append]
   rw[fZ (by omega),cT,fZ (by omega),cT]
 simp only[cS,iZ,jnT]
 refine' (EZ [a,b] ([]:List Fq) (by simp) (fun i (s:Int)=>(s,((i:Nat):Int),PUnit.unit)) (fun (x:List Fq) (s:Int) k=>bif decide (IntKind.wrap .i64 (s+((x.length:Nat):Int))<0) then none else k (IntKind.wrap .i64 (s+((x.length:Nat):Int)))) _ ?_ ?_ (0:Int)).trans ?_
 rotate_left
 ·intro again i s hi
  have hi':i<2:=hi
  have hwr:IntKind.wrap .i64 ((i:Int)+1)=((i+1:Nat):Int):=by rw[bm (by omega) (by omega)];rfl
  simp only[bV,z7 hi,z7 (show (i:Int)<(([a,b].length:Nat):Int) by omega),cT,z9,hwr]
 ·intro again s
  simp only[z8 (show ¬ (([a,b].length:Nat):Int)<(([a,b].length:Nat):Int) by omega),cF]
  rfl
 ·simp only[ze]
  rw[bm (x:=0+((a.length:Nat):Int)) (by omega) (by omega),z8 (show ¬ 0+((a.length:Nat):Int)<0 by omega),cF,bm (x:=0+((a.length:Nat):Int)+((b.length:Nat):Int)) (by omega) (by omega)]
  simp only[z8 (show ¬ 0+((a.length:Nat):Int)+((b.length:Nat):Int)<0 by omega),cF]
  have e0:IntKind.wrap .i64 ((0:Int) - 0)=0:=rfl
  rw[e0,bm (x:=0+((a.length:Nat):Int)+((b.length:Nat):Int) - 0) (by omega) (by omega)]
  simp only[Int.sub_zero]
  by_cases h:0+((a.length:Nat):Int)+((b.length:Nat):Int)>0
  ·rw[z7 h,cT,show slB (0:Int) (0:Int) 0=true from rfl,cT,fZ (by omega),DI (by omega) (by omega) (by omega),z7 (show 0<(0+((a.length:Nat):Int)+((b.length:Nat):Int)).toNat by omega)]
   simp only[Bool.and_self,cT]
   exact two
  ·rw[z8 h,cF]
   exact two
theorem GI {c:Cl} (h1:c.1.length<=1000) (h2:c.2.2.length<=1000):bC c=some (okL c.1&&okL c.2.2):=by
 simp only[bC,lc,Eg (show c.1.length<=1000000 by omega) (show c.2.2.length<=1000000 by omega),af]
 rw[EU (p:=fun a=>!decide (okF a)) (by rw[List.length_append];omega) (fun a _=>by simp only[eg,jE,kL,af]),af,wv,Bool.not_not,List.all_append]
 rfl
def jL (c:Cl):Int:=bif okL c.1&&okL c.2.2 then bif decide (0<(kh c).length) then 19 else 0 else 1
theorem Hm {c:Cl} (h1:c.1.length<=1000) (h2:c.2.2.length<=1000):dh c=some (jL c):=by
 simp only[dh,nF,AD (show c.1.length<=1000000 by omega),AD (show c.2.2.length<=1000000 by omega),GM,af]
 unfold jL
 rw[show (c.1.all fun a=>decide (okF a))=okL c.1 from rfl,show (c.2.2.all fun a=>decide (okF a))=okL c.2.2 from rfl,show decide (((kh c).length:Int)>0)=decide (0<(kh c).length) from decide_eq_decide.2 (by omega)]
 cases okL c.1<;>cases okL c.2.2<;>cases decide (0<(kh c).length)<;>rfl
theorem Hr {l:List Int} {x:List Fq} (hl:l.length=x.length) (h0:l.length<=1000000) (hc:∀n ∈ l,-1152921504606846976<=n/\n<=1152921504606846976) (hx:∀a ∈ x,okF a) :
  fT l x=G5 (gN l x 0) (some ((0,0),5,())) fun q=>some (prQ q,0,()):=by
 unfold fT qI
 rw[qu,obN]
 refine (gF (α:=Int×Fq×Fq×PUnit) l.length (by omega) (fun i (s:{q:Rat // dU q})=>((i:Int),(0,0),prQ s.1,PUnit.unit))
  (fun i s k=>if h:dU (((l.getD i 0:Int):Rat)*qv (x.getD i (0,0)))/\dU (s.1+((l.getD i 0:Int):Rat)*qv (x.getD i (0,0))) then k ⟨_,h.2⟩ else some ((0,0),5,())) (fun s=>some (prQ s.1,0,())) ?_ ?_ ⟨0,by decide⟩).trans ?_
 ·intro again i s hi
  have hw:IntKind.wrap .i64 ((i:Int)+1)=((i+1:Nat):Int):=by rw[bm (by omega) (by omega)];rfl
  obtain ⟨q,hq⟩:=s
  have hn:l.getD i 0 ∈ l:=by rw[cm hi];exact List.getElem_mem _
  have ha:okF (x.getD i (0,0)):=by rw[cm (show i<x.length by omega)];exact hx _ (List.getElem_mem _)
  have hm:=yE (kC (hc _ hn).1 (hc _ hn).2) ha
  rw[oY] at hm
  simp only[bV,z7 hi,z7 (show i<x.length by omega),z7 (show (i:Int)<x.length by omega),cT,z9,hw,qu,hm,af]
  generalize l.getD i 0=n at *
  generalize x.getD i (0,0)=a at *
  rcases gm ((n:Rat)*qv a) with ⟨f1,e1⟩ | ⟨f1,e1⟩
  ·have hA:=AO (gZ hq) (gZ f1)
   rw[jb,jb] at hA
   simp only[e1,decide_true,Bool.not_true,cF,hA,af]
   rcases gm (q+(n:Rat)*qv a) with ⟨f2,e2⟩ | ⟨f2,e2⟩
   ·rw[dif_pos ⟨f1,f2⟩]
    simp only[e2,decide_true,Bool.not_true,cF]
   ·rw[dif_neg fun h=>f2 h.2]
    simp only[e2]
    rfl
  ·rw[dif_neg fun h=>f1 h.1]
   simp only[e1]
   rfl
 ·intro again s
  simp only[z8 (show ¬ (l.length:Int)<x.length by omega),cF]
 ·exact wH (cur:=fun s:{q:Rat // dU q}=>s.1) (bad:=some ((0,0),5,())) (good:=fun q=>some (prQ q,0,())) (by omega) (fun i s h=>⟨_,h⟩) (fun _ _ _=>rfl) (fun _ _ _ _=>rfl) (fun _=>rfl) l.length 0 ⟨0,by decide⟩ (by omega)
theorem Ca {s:Sy} (h:gk s=true) {l:List Fq} (hl:l.length<=1000000):fF s l=some (bif okL l then bif decide (l.length=s.2.length) then 0 else 3 else 1):=by
 simp only[fF,nI,B9,h,af,AD hl]
 rw[show (l.all fun a=>decide (okF a))=okL l from rfl,show decide ((l.length:Int)=s.2.length)=decide (l.length=s.2.length) from decide_eq_decide.2 (by omega)]
 cases okL l with
 | false=>rfl
 | true=>cases decide (l.length=s.2.length)<;>rfl
theorem Hn {s:Sy} (h:gk s=true) {l:List Fq} (ho:∀a ∈ l,okF a) (hlen:l.length=s.2.length) :
  cE s l=bif (List.range' 0 s.1.length).all (vT s l) then some (cW s.1.length fun i=>prQ (kM s l i),0,()) else some ([],5,()):=by
 have hV:=gy h
 have hb:=hV.bl
 have hr:=hV.rl
 unfold cE jG
 rw[Ca h (by omega),af,mM.2 ho,z7 hlen]
 simp only[cT,decide_true,Bool.not_true,cF,CE hV,af]
 unfold zP
 refine BH s.1.length (by omega) (fun i=>(cW i (fun i=>prQ (kM s l i)),(i:Int),PUnit.unit)) (vT s l) rfl (fun again i hi=>?_) (fun again=>?_)
 ·obtain ⟨out,hout⟩:∃out,out=cW i (fun i=>prQ (kM s l i)):=⟨_,rfl⟩
  have hol:out.length=i:=by rw[hout,dH]
  have hnx:cW (i+1) (fun i=>prQ (kM s l i))=out++[prQ (kM s l i)]:=by rw[hout,kz]
  simp only[hnx,<-hout]
  have hM:(yg s.1.length s.2.length (Mx s)).getD i []=cW s.2.length (Mx s i):=uk hi
  have hwt:=hV.wt i hi
  have hS:=Hr (l:=cW s.2.length (Mx s i)) (x:=l) (by rw[dH];omega) (by rw[dH];omega) (fun n hn=>by
   obtain ⟨k,hk,rfl⟩:=mB.1 hn
   have:=wQ hV i hk
   omega) ho
  rw[show gN (cW s.2.length (Mx s i)) l 0=DX s l i from rfl] at hS
  simp only[nQ,bV,z7 hi,z7 (show (i:Int)<s.1.length by omega),cT,z9,hM,hS,show List.getD s.1 i ({ data:={ toList:=[] } },(0:Int))=s.1.getD i bk0 from rfl,cV (show i<=1000000 by omega),hol,
   fZ (show (i+1)*16<=140737488355328 by omega)]
  have hfit:∀q,DX s l i=some q->dU q:=fun q hq=>ry (by decide) hq
  cases hq:DX s l i with
  | none =>
   have hB:vT s l i=false:=by unfold vT;rw[hq];rfl
   rw[hB]
   rfl
  | some q =>
   have hf:=hfit q hq
   have hw: -1152921504606846976<=bwS s i/\bwS s i<=1152921504606846976:=by omega
   have hsub:=My (kC hw.1 hw.2) (gZ hf)
   rw[oY,jb] at hsub
   have hQ:kM s l i=((bwS s i:Int):Rat) - q:=by unfold kM;rw[hq];rfl
   rw[<-hQ] at hsub
   have hB:vT s l i=decide (dU (kM s l i)):=by unfold vT;rw[hq];rfl
   rw[hB]
   show (ah (some (prQ q,0,())) _)=_
   rw[af]
   simp only[decide_true,Bool.not_true,cF,qu,af]
   rw[show gx ((s.1.getD i bk0).2,1) (prQ q)=some (tI (kM s l i)) from hsub,af]
   rcases gm (kM s l i) with ⟨f1,e1⟩ | ⟨f1,e1⟩
   ·rw[z7 f1,e1]
    rfl
   ·rw[z8 f1,e1]
    rfl
 ·simp only[z8 (show ¬ (s.1.length:Int)<s.1.length by omega),cF]
theorem Pw {q:Rat}:prQ q=(0,1)↔q=0:=by
 constructor
 ·intro h
  have h1:=congrArg qv h
  rw[jb] at h1
  rw[h1]
  rfl
 ·intro h
  rw[h]
  rfl
theorem B4 {s:Sy} (h:gk s=true) {l:List Fq} (ho:∀a ∈ l,okF a) (hlen:l.length=s.2.length):eL s l=some (bif qF s l then (eqB s l,0,()) else (false,5,())):=by
 have hV:=gy h
 have hb:=hV.bl
 unfold eL nz
 rw[Hn h ho hlen]
 unfold qF
 cases hr:(List.range' 0 s.1.length).all (vT s l) with
 | false=>rfl
 | true =>
  rw[cT,obN]
  simp only[decide_true,Bool.not_true,cF]
  refine (rB (p:=fun a:Fq=>decide (a=(0,1))) (d:=(0,0)) (l:=cW s.1.length fun i=>prQ (kM s l i)) (no:=some (false,0,())) (yes:=some (true,0,())) (by rw[dH];omega) ?_ ?_).trans ?_
  ·intro again i hi
   simp only[bV,z7 hi,z7 (show (i:Int)<(cW s.1.length fun i=>prQ (kM s l i)).length by omega),cT,z9,qu,af,cV (show i<=1000000 by rw[dH] at hi;omega),N0]
   cases decide ((cW s.1.length fun i=>prQ (kM s l i)).getD i (0,0)=(0,1))<;>rfl
  ·intro again
   simp only[z8 (show ¬ ((cW s.1.length fun i=>prQ (kM s l i)).length:Int)<(cW s.1.length fun i=>prQ (kM s l i)).length by omega),cF]
  ·have e:((cW s.1.length fun i=>prQ (kM s l i)).all fun a=>decide (a=(0,1)))=eqB s l:=by
    unfold eqB
    rw[Bool.eq_iff_iff,List.all_eq_true,List.all_eq_true]
    constructor
    ·intro hh i hi
     obtain ⟨k,hk,rfl⟩:=List.mem_range'.1 hi
     exact z7 (Pw.1 (z12 (hh _ (mB.2 ⟨_,(by omega:0+1*k<s.1.length),rfl⟩))))
    ·intro hh a ha
     obtain ⟨i,hi,rfl⟩:=mB.1 ha
     exact z7 (Pw.2 (z12 (hh i (kn hi))))
   rw[e]
   cases eqB s l<;>rfl
def MO (s:Sy) (c:Cl):Bool×Int×Unit :=
 bif gk s then bif decide (jL c=0) then bif decide ((eK c).length=bif c.2.1 then s.1.length else s.2.length) then
  bif c.2.1 then bif vk (nj s (nh s)) (eK c)&&(yl (nj s (nh s)) (eK c)).isSome then (Ha (nj s (nh s)) (eK c),0,()) else (false,5,())
  else bif qF s (eK c) then (eqB s (eK c)&&(eK c).all fun a=>!decide (a.1<0),0,()) else (false,5,())
  else (false,3,()) else (false,jL c,()) else (false,1,())
theorem ye {c:Cl} (h:jL c=0):(∀a ∈ eK c,okF a)/\(kh c).length=0:=by
 unfold jL at h
 cases hb:okL c.1&&okL c.2.2 with
 | false=>rw[hb,cF] at h;omega
 | true =>
  rw[hb,cT] at h
  rw[z10] at hb
  refine ⟨?_,?_⟩
  ·unfold eK
   cases c.2.1
   ·exact mM.1 hb.1
   ·exact mM.1 hb.2
  ·by_cases h0:0<(kh c).length
   ·rw[z7 h0,cT] at h;omega
   ·omega
theorem MM {l:List Fq}:(!l.any fun a=>decide (a.1<0))=l.all fun a=>!decide (a.1<0):=by
 rw[<-Bool.not_not (l.all _),<-wv]
 simp only[Bool.not_not]
theorem F7 (s:Sy) {c:Cl} (h1:c.1.length<=1000) (h2:c.2.2.length<=1000):aA s c=some (MO s c):=by
 simp only[aA,lq,Gb,Bd,GI h1 h2,af,Az]
 have hll:(eK c).length<=1000:=by unfold eK;cases c.2.1<;>assumption
 unfold MO
 cases hv:gk s with
 | false=>cases c.2.1<;>rfl
 | true =>
  have hV:=gy hv
  have hp:=CK hV
  have hpl:(nj s (nh s)).2.length=s.1.length:=dH
  have hg:(okL c.1&&okL c.2.2)=false\/(okL c.1&&okL c.2.2)=true/\decide (0<(kh c).length)=true\/jL c=0:=by
   unfold jL
   cases okL c.1&&okL c.2.2 with
   | false=>exact .inl rfl
   | true=>cases decide (0<(kh c).length) with
    | true=>exact .inr (.inl ⟨rfl,rfl⟩)
    | false=>exact .inr (.inr rfl)
  have ho:decide (((kh c).length:Int)>0)=decide (0<(kh c).length):=decide_eq_decide.2 (by omega)
  rcases hg with hg | ⟨hg,hg2⟩ | hg
  ·have e:jL c=1:=by unfold jL;rw[hg];rfl
   rw[e,hg]
   cases c.2.1<;>rfl
  ·have e:jL c=19:=by unfold jL;rw[hg,hg2];rfl
   rw[e,hg,ho,hg2]
   cases c.2.1<;>rfl
  ·obtain ⟨hok,hot⟩:=ye hg
   have hgB:(okL c.1&&okL c.2.2)=true:=by
    unfold jL at hg
    cases hb:okL c.1&&okL c.2.2 with
    | false=>rw[hb,cF] at hg;omega
    | true=>rfl
   rw[hg,hgB,ho,z8 (show ¬ 0<(kh c).length by omega)]
   simp only[decide_true,Bool.not_true,Bool.not_false,Bool.or_true,cT,cF,af]
   have hpv:dF s (eK c)=some (bif decide ((eK c).length=s.1.length) then bif vk (nj s (nh s)) (eK c)&&(yl (nj s (nh s)) (eK c)).isSome then (Ha (nj s (nh s)) (eK c),0,()) else (false,5,()) else (false,3,())):=by
    rw[EL hv,B0 (show (eK c).length<=1000000 by omega),xA.2 hp,mM.2 hok,hpl,af]
    rfl
   have hcc:=Gd hv (l:=eK c) (by omega)
   rw[mM.2 hok,cT] at hcc
   cases hc:c.2.1 with
   | true =>
    simp only[cT]
    by_cases hn:(eK c).length=s.1.length
    ·rw[z7 hn,z7 (show ((eK c).length:Int)=s.1.length by omega)]
     simp only[Bool.not_true,cF,cT,hpv,z7 hn,af]
    ·rw[z8 hn,z8 (show ¬ ((eK c).length:Int)=s.1.length by omega)]
     rfl
   | false =>
    simp only[cF]
    by_cases hn:(eK c).length=s.2.length
    ·rw[z7 hn,z7 (show ((eK c).length:Int)=s.2.length by omega)]
     rw[z7 hn,cT] at hcc
     simp only[Bool.not_true,cF,cT,hcc,af]
     cases qF s (eK c) with
     | false=>rfl
     | true =>
      simp only[cT,decide_true,Bool.not_true,Bool.or_true]
      cases eqB s (eK c) with
      | false=>rfl
      | true =>
       simp only[cT,Bool.not_true,Bool.or_true,Bool.true_and]
       rw[EU (p:=fun a=>decide (a.1<0)) (by omega) (fun a _=>by simp only[dY,jI]),af,MM]
    ·rw[z8 hn,z8 (show ¬ ((eK c).length:Int)=s.2.length by omega)]
     rfl
theorem Bf (s:Sy) {c:Cl} (h1:c.1.length<=1000) (h2:c.2.2.length<=1000) (hsl:s.2.length<=1000000):cA s c=some (MO s c):=by
 simp only[cA,nu,Iu,B9,Hm h1 h2,af,Az]
 have hll:(eK c).length<=1000:=by unfold eK;cases c.2.1<;>assumption
 unfold MO
 cases hv:gk s with
 | false=>rfl
 | true =>
  have hV:=gy hv
  have hp:=CK hV
  have hpl:(nj s (nh s)).2.length=s.1.length:=dH
  simp only[Bool.not_true,cF,cT]
  by_cases hg:jL c=0
  ·obtain ⟨hok,hot⟩:=ye hg
   rw[z7 hg]
   simp only[Bool.not_true,cF,cT]
   cases hc:c.2.1 with
   | true =>
    simp only[cT]
    by_cases hn:(eK c).length=s.1.length
    ·rw[z7 hn,z7 (show ((eK c).length:Int)=s.1.length by omega)]
     simp only[Bool.not_true,cF,cT,KI s hsl,GW hv,af,CX hp hok (by rw[hpl];exact hn)]
    ·rw[z8 hn,z8 (show ¬ ((eK c).length:Int)=s.1.length by omega)]
     rfl
   | false =>
    simp only[cF]
    by_cases hn:(eK c).length=s.2.length
    ·rw[z7 hn,z7 (show ((eK c).length:Int)=s.2.length by omega)]
     simp only[Bool.not_true,cF,cT,B4 hv hok hn,af]
     cases qF s (eK c) with
     | false=>rfl
     | true =>
      simp only[cT,decide_true,Bool.not_true,cF]
      generalize eK c=l at hll ⊢
      refine (iq l.length (by omega) (fun i=>(eqB s l&&(l.take i).all (fun a=>!decide (a.1<0)),(i:Int),PUnit.unit)) (some (eqB s l&&(l.take l.length).all (fun a=>!decide (a.1<0)),0,())) (by rw[List.take_zero];simp) (fun again i hi=>?_) (fun again=>?_)).trans ?_
      ·have hx:(l.take (i+1)).all (fun a=>!decide (a.1<0))=((l.take i).all (fun a=>!decide (a.1<0))&&decide ((l.getD i (0,0)).1>=0)):=by
        rw[<-uW (0,0) hi,List.all_append]
        simp only[List.all_cons,List.all_nil,Bool.and_true]
        congr 1
        by_cases g:(l.getD i (0,0)).1<0
        ·rw[z7 g,z8 (by omega)];rfl
        ·rw[z8 g,z7 (by omega)];rfl
       rw[hx,<-Bool.and_assoc (eqB s l)]
       generalize (eqB s l&&(l.take i).all (fun a=>!decide (a.1<0)))=b
       simp only[bV,z7 hi,z7 (show (i:Int)<l.length by omega),cT,z9,cV (show i<=1000000 by omega)]
       cases b<;>rfl
      ·simp only[z8 (show ¬ (l.length:Int)<l.length by omega),cF]
      ·rw[List.take_length]
    ·rw[z8 hn,z8 (show ¬ ((eK c).length:Int)=s.2.length by omega)]
     rfl
  ·rw[z8 hg]
   rfl
theorem CH (s:Sy) (c:Cl):iK s c=some true:=by
 simp only[iK,gY,F9,Gl,IV,af,Bool.not_true,cF]
 cases hs:tD s with
 | false=>rfl
 | true =>
  have hl:=DK hs
  cases hg:Cf c with
  | true=>rfl
  | false =>
   have hc:=GQ hg
   simp only[Bool.not_true,Bool.not_false,Bool.or_true,cT,cF,af,F7 s (show c.1.length<=1000 by omega) (show c.2.2.length<=1000 by omega),Bf s (show c.1.length<=1000 by omega) (show c.2.2.length<=1000 by omega) (show s.2.length<=1000000 by omega),decide_true]
   rfl
end
end Go.Proofs.YtegbncajloeepaaGreat
