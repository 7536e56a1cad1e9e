/- Programs: which points are feasible, as the program tells it. Systems: their programs, as both programs make them. Programs: feasible points and values, in both programs. The law ProgramForms. Programs: columns and right sides. Programs: the signs of multipliers. Programs: sums of columns below numbers; refutations. Programs: refutations, as the program tells them. Programs: refutations, as they are specified. Programs: refutations are the same in both programs. Systems: the law SlackPrograms. Programs: products of two numbers, their differences and quotients. Programs: a step of the table. Programs: the row that leaves, the sums of artificial rows, and the reduced costs. Programs: the sums of artificial rows, and the reduced costs. Programs: improving a table to the least value. Programs: finding a feasible basis. Programs: the first table. Programs: which programs fit. Programs: what Solve answers. Programs: what Farkas answers. Programs: answers that are proved, in both programs. Programs: points, multipliers and refutations are those of the theory. Programs: the sums of what the solver returns fit, so that its answers are accepted. Programs: what the solver says of a program; the law ProgramBeats. Programs, as they are specified: the layout of the table, and a step of it. Programs, as they are specified: steps until the last row has no negative number. Programs, as they are specified: artificial variables leave the basis. Programs, as they are specified: the first table. Programs, as they are specified: the least value. Programs: the law ProgramSolves. Systems: what the solver says of their programs. Systems: equilibria, as the program checks them. Systems: the law SlackHolds. Systems: the law SlackBounds. Systems: the law SlackLeast. Claims about tensions: their parts, and what Check of both programs answers. Elimination: a step of two products and a quotient, and tables of rows that change places. Elimination: the theory; a matrix beside a unit matrix, and its table. Elimination: what the program's function answers. Elimination: how great the numbers are, and what a finished table proves. Elimination: what linear.Solve answers. Systems: the law SlackOnly. Claims about tensions: Claim is right; it decides. -/
import Derived.KernelRfl
import Derived.Test.YtegbncajloeepaaGreatMgN

namespace Go.Proofs.YtegbncajloeepaaGreat
noncomputable section
open Tryz Dn Dn.Sh
theorem P7 {n:Int} (h:inC n=true): -1152921504606846976<=n/\n<=1152921504606846976:=by
 have:=z12 h
 omega
theorem OQ {n:Int} (h:inR n=true): -1152921504606846976<=n/\n<=1152921504606846976:=by
 have:=z12 h
 omega
structure ValidP (p:Pg):Prop where
 cost:1<=p.1.length/\p.1.length<=12
 rows:p.2.length<=6
 cs:∀n ∈ p.1,inC n=true
 len:∀r ∈ p.2,r.1.length=p.1.length
 kind:∀r ∈ p.2,1<=r.2.1/\r.2.1<=3
 right:∀r ∈ p.2,inR r.2.2=true
 coefs:∀r ∈ p.2,∀n ∈ r.1,inC n=true
theorem gk {p:Pg}:pC p=true↔ValidP p:=by
 unfold pC Ni
 rw[z10,z10,decide_eq_true_iff,List.all_eq_true,List.all_eq_true]
 constructor
 ·rintro ⟨⟨h1,h2,h3⟩,h4,h5⟩
  have h6:∀r ∈ p.2,r.1.length=p.1.length/\(1<=r.2.1/\r.2.1<=3)/\inR r.2.2=true/\∀n ∈ r.1,inC n=true:=fun r hr=>by
   have:=h5 r hr
   unfold wJ at this
   rw[z10,z10,z10,decide_eq_true_iff,decide_eq_true_iff,List.all_eq_true] at this
   exact this
  exact ⟨⟨h1,h2⟩,h3,h4,fun r hr=>(h6 r hr).1,fun r hr=>(h6 r hr).2.1,fun r hr=>(h6 r hr).2.2.1,fun r hr=>(h6 r hr).2.2.2⟩
 ·rintro ⟨h1,h2,h3,h4,h5,h6,h7⟩
  refine ⟨⟨h1.1,h1.2,h2⟩,h3,fun r hr=>?_⟩
  unfold wJ
  rw[z10,z10,z10,decide_eq_true_iff,decide_eq_true_iff,List.all_eq_true]
  exact ⟨h4 r hr,h5 r hr,h6 r hr,h7 r hr⟩
theorem PS {a:Fq} {n:Int} (ha:okF a) (hn: -1152921504606846976<=n/\n<=1152921504606846976):fI a n=some (zl (qv a) (n:Rat)):=by
 have h:=RP ha (uZ hn.1 hn.2)
 rw[Bp] at h
 simp only[fI,ou,h,aa]
theorem BU {l:List Int} {x:List Fq}:eF ((fC l x 0).getD 0):=by
 cases h:fC l x 0 with
 | none=>decide
 | some q=>exact Ad (by decide) h
theorem SB {l:List Int} {x:List Fq} {e:Int} (hl:l.length<=x.length) (h0:l.length<=1000000) (hc:∀n ∈ l,inC n=true) (hx:∀a ∈ x,okF a) :
  ce e l x=some (bif (fC l x 0).isSome then e else 5,prQ ((fC l x 0).getD 0)):=by
 rw[Rq hl h0 (fun n hn=>P7 (hc n hn)) hx]
 cases fC l x 0<;>rfl
def AN (p:Pg) (x:List Fq):Bool:=p.2.all fun r=>(fC r.1 x 0).isSome
end
end Go.Proofs.YtegbncajloeepaaGreat

namespace Go.Proofs.YtegbncajloeepaaGreat
open Tryz Dn Dn.Sh
def Ua (s:Sy):List Int:=bE s.1.length (bwS s)
theorem O2 {s:Sy} (h:fN s=true):cK s=some (Ua s,0,()):=by
 have hv:=hO h
 have hb:=hv.bl
 simp only[cK,jG,Ci,h,aa,Bool.not_true,cF]
 refine di s.1.length (by omega) (fun i=>(bE i (bwS s),(i:Int),PUnit.unit)) _ rfl (fun again i hi=>?_) (fun again=>?_)
 ·simp only[ba,z7 hi,z7 (show (i:Int)<s.1.length by omega),cT,z9,aK,fp (show (i+1)*8<=140737488355328 by omega),gp (show i<=1000000 by omega),show (List.getD s.1 i ({ data:={ toList:=[] } },(0:Int))).2=bwS s i from rfl,tE]
 ·simp only[z8 (show ¬ (s.1.length:Int)<s.1.length by omega),cF]
  rfl
def lY (s:Sy) (i:Nat):Rw:=(bE s.2.length (Mx s i),(3:Int),bwS s i)
def ep (s:Sy) (c:List Int):Pg:=(c,bE s.1.length (lY s))
theorem Ko {s:Sy} (h:fN s=true) (c:List Int):gq s c=some (ep s c,0,()):=by
 have hv:=hO h
 have hb:=hv.bl
 unfold gq pE
 rw[HM h,aa,O2 h,aa]
 refine (cF _ _).trans ((cF _ _).trans ?_)
 unfold I5 Ua
 refine di s.1.length (by omega) (fun i=>((i:Int),c,bE i (lY s),PUnit.unit)) _ rfl (fun again i hi=>?_) (fun again=>?_)
 ·simp only[ba,gb,aK,z7 hi,z7 (show (i:Int)<s.1.length by omega),cT,z9,fp (show (i+1)*40<=140737488355328 by omega),gp (show i<=1000000 by omega),mZ hi,bJ hi]
  rw[show (bE s.2.length (Mx s i),(3:Int),bwS s i)=lY s i from rfl,tE]
 ·simp only[gb,z8 (show ¬ (s.1.length:Int)<s.1.length by omega),cF]
  rfl
def dK (s:Sy):List Int:=List.replicate s.2.length 1
theorem QV (z:Int) {n:Nat} (hn:n<=1000000):cC [z] (n:Int)=some (List.replicate n z):=by
 have hm:gY (IntKind.wrap .u64 ((List.length [z]:Nat):Int)) (IntKind.wrap .u64 (n:Int))=some (0,(n:Int),()):=by
  simp only[gY,tx]
  rw[bu (by simp) (by simp),bu (by omega) (by omega),Tr (by simp) (by simp) (by omega) (by omega),aa]
  simp only[List.length_singleton]
  congr 1
  refine Prod.ext ?_ (Prod.ext ?_ rfl)
  ·show ((1:Nat):Int)*n / 18446744073709551616=0
   omega
  ·show ((1:Nat):Int)*n % 18446744073709551616=n
   omega
 have hw:IntKind.wrap .i64 (n:Int)=(n:Int):=aG (by omega) (by omega)
 simp only[cC,jm,jnT]
 rw[z8 (show ¬ (n:Int)<0 by omega),cF,hm,aa]
 have h63:decide ((n:Int)>9223372036854775807)=false:=z8 (by omega)
 have hz0:decide ((0:Int)>0)=false:=rfl
 have hz1:decide ((0:Int)<=(n:Int))=true:=z7 (by omega)
 have hfb:dQ n 8=true:=fp (by omega)
 simp only[hw,hz0,h63,hz1,z9,hfb,Bool.not_false,Bool.not_true,Bool.or_true,Bool.and_self,cT,cF,List.drop_zero,List.take_zero,List.nil_append]
 refine jW (g:=fun _=>some (List.replicate n z)) (I:=fun (x:Int×List Int×PUnit)=>∃c:Nat,x.1=c/\c<=n/\(0<n->0<c)/\x.2.1.length=n/\x.2.1.take c=List.replicate c z) (μ:=fun (x:Int×List Int×PUnit)=>n - x.1.toNat) ?_ ?_ (by simp only;omega)
 ·rintro ⟨i,row,_⟩ rec ⟨c,h1,h2,h3,h4,h5⟩ hrec
  simp only at h1 h4 h5 hrec ⊢
  subst h1
  simp only[z9,h4]
  by_cases hc:c<n
  ·have hl:(List.take (n - c) (List.take c row)).length=min (n - c) c:=by rw[List.length_take,List.length_take,h4];omega
   rw[z7 (show (c:Int)<n by omega),cT,Fs (by omega) (by omega) (by omega),Fs (by omega) (by omega) (by omega),dD (by omega),dD (Nat.le_refl n)]
   simp only[Bool.and_self,cT]
   rw[aG (by omega) (by omega)]
   refine hrec _ ⟨c+min (n - c) c,?_,by omega,by omega,?_,?_⟩ ?_
   ·simp only;rw[hl];omega
   ·simp only[List.length_append,List.length_drop,hl,h4,List.length_take];omega
   ·simp only
    rw[List.take_append_of_le_length (by rw[List.length_append,hl,List.length_take,h4];omega),h5,List.take_replicate,List.replicate_append_replicate,List.take_replicate]
    congr 1
    omega
   ·simp only;rw[hl];omega
  ·have:c=n:=by omega
   subst this
   rw[z8 (show ¬ (c:Int)<c by omega),cF]
   rw[<-h5,List.take_of_length_le (by omega)]
 ·refine ⟨(List.take n [z]).length,rfl,by rw[List.length_take];omega,fun h=>by rw[List.length_take];simp;omega,?_,?_⟩
  ·simp only[List.length_append,List.length_drop,List.length_replicate,List.length_take,List.length_singleton];omega
  ·simp only
   rcases Nat.eq_zero_or_pos n with h | h
   ·subst h;rfl
   ·obtain ⟨m,rfl⟩:∃m,n=m+1:=⟨n - 1,by omega⟩
    simp
theorem yl {s:Sy} (h:fN s=true):aW s=some (ep s (dK s),0,()):=by
 have hr:=(hO h).rl
 simp only[aW,lR,QV 1 (show s.2.length<=1000000 by omega),aa]
 rw[show List.replicate s.2.length (1:Int)=dK s from rfl,Ko h]
 rfl
theorem rI {α:Type} {n:Nat} {f:Nat->α} {a:α}:a ∈ bE n f↔∃i,i<n/\f i=a:=by
 unfold bE
 rw[List.mem_map]
 exact ⟨fun ⟨i,h1,h2⟩=>⟨i,List.mem_range.1 h1,h2⟩,fun ⟨i,h1,h2⟩=>⟨i,List.mem_range.2 h1,h2⟩⟩
theorem NP {s:Sy} (hv:ValidS s) {c:List Int} (hl:c.length=s.2.length) (hc:∀n ∈ c,inC n=true):ValidP (ep s c):=by
 have hb:=hv.bl
 have hr:=hv.rl
 refine ⟨⟨by show 1<=c.length;omega,by show c.length<=12;omega⟩,?_,hc,fun r h=>?_,fun r h=>?_,fun r h=>?_,fun r h n hn=>?_⟩
 ·show (bE s.1.length (lY s)).length<=6
  rw[aK];omega
 all_goals
  obtain ⟨i,hi,rfl⟩:=rI.1 h
 ·show (bE s.2.length (Mx s i)).length=c.length
  rw[aK,hl]
 ·exact ⟨by show (1:Int)<=3;omega,by show (3:Int)<=3;omega⟩
 ·have:=hv.wt i hi
  exact z7 (by show -1073741824<=bwS s i/\bwS s i<=1073741824;omega)
 ·obtain ⟨k,hk,rfl⟩:=rI.1 hn
  have:=EV hv i hk
  exact z7 (by omega)
theorem yN {s:Sy} (hv:ValidS s):ValidP (ep s (dK s)):=NP hv (by unfold dK;rw[List.length_replicate]) fun n hn=>by
 rw[(List.mem_replicate.1 hn).2];rfl
def kz (s:ByteArray):Bool:=!decide ((s.size:Int)>60)
def uv (s:Sy):Bool:=decide (s.1.length<=9/\s.2.length<=9)&&(s.1.all (fun b=>kz b.1)&&s.2.all (fun r=>kz r.1&&(!decide ((r.2.1.length:Int)>13)&&r.2.1.all fun h=>kz h.1)))
theorem Iz (s:Sy):bi s=some (uv s):=by
 obtain ⟨bs,rs⟩:=s
 simp only[bi,oi,uv]
 by_cases h0:bs.length<=9/\rs.length<=9
 ·rw[z7 h0,z8 (show ¬ (bs.length:Int)>9 by omega),z8 (show ¬ (rs.length:Int)>9 by omega)]
  simp only[Bool.not_false,Bool.not_true,Bool.or_true,cT,cF,Bool.true_and]
  refine (vO (p:=fun b:Bk=>kz b.1) (d:=bk0) (l:=bs) (no:=some false) (yes:=some (rs.all (fun r=>kz r.1&&(!decide ((r.2.1.length:Int)>13)&&r.2.1.all fun h=>kz h.1)))) (by omega) ?_ ?_).trans ?_
  ·intro again i hi
   simp only[ba,z7 hi,z7 (show (i:Int)<bs.length by omega),cT,z9,gp (show i<=1000000 by omega),kz]
   generalize decide ((((bs.getD i bk0).1.size:Nat):Int)>60)=g
   cases g<;>rfl
  ·intro again
   simp only[z8 (show ¬ (bs.length:Int)<bs.length by omega),cF]
   refine (vO (p:=fun r:Rp=>kz r.1&&(!decide ((r.2.1.length:Int)>13)&&r.2.1.all fun h=>kz h.1)) (d:=rp0) (l:=rs) (no:=some false) (yes:=some true) (by omega) ?_ ?_).trans ?_
   ·intro again i hi
    simp only[ba,z7 hi,z7 (show (i:Int)<rs.length by omega),cT,z9,gp (show i<=1000000 by omega)]
    simp only[kz]
    generalize decide ((((rs.getD i rp0).1.size:Nat):Int)>60)=g1
    by_cases g:((rs.getD i rp0).2.1.length:Int)>13
    ·rw[z7 g]
     cases g1<;>rfl
    ·rw[z8 g]
     cases g1 with
     | true=>rfl
     | false =>
      simp only[Bool.not_true,Bool.not_false,Bool.or_true,Bool.and_self,Bool.true_and,cT,cF]
      refine vO (p:=fun h:Hd=>!decide (((h.1.size:Nat):Int)>60)) (d:=hd0) (l:=(rs.getD i rp0).2.1) (by omega) ?_ ?_
      ·intro again1 t ht
       simp only[ba,z7 ht,z7 (show (t:Int)<(rs.getD i rp0).2.1.length by omega),cT,z9,gp (show t<=1000000 by omega)]
       generalize decide (((((rs.getD i rp0).2.1.getD t hd0).1.size:Nat):Int)>60)=g
       cases g<;>rfl
      ·intro again1
       simp only[z8 (show ¬ ((rs.getD i rp0).2.1.length:Int)<(rs.getD i rp0).2.1.length by omega),cF]
   ·intro again
    simp only[z8 (show ¬ (rs.length:Int)<rs.length by omega),cF]
   ·cases rs.all (fun r=>kz r.1&&(!decide ((r.2.1.length:Int)>13)&&r.2.1.all fun h=>kz h.1))<;>rfl
  ·cases bs.all (fun b=>kz b.1)<;>rfl
 ·rw[z8 h0]
  by_cases g:(bs.length:Int)>9
  ·rw[z7 g];rfl
  ·rw[z8 g,z7 (show (rs.length:Int)>9 by omega)];rfl
theorem GH {s:Sy} (h:uv s=true):s.1.length<=9/\s.2.length<=9:=by
 unfold uv at h
 rw[z10,decide_eq_true_iff] at h
 exact h.1
end Go.Proofs.YtegbncajloeepaaGreat

namespace Go.Proofs.YtegbncajloeepaaGreat
noncomputable section
open Tryz Dn Dn.Sh
def okL (x:List Fq):Bool:=x.all fun a=>decide (okF a)
theorem M0 {x:List Fq} (h:x.length<=1000000):eH x=some (okL x):=by
 have hc:ai x (fun x=>dq x.1)=some (!okL x):=by
  unfold okL
  rw[<-xy]
  refine Ii (p:=fun a:Fq=>!decide (okF a)) h fun a _=>?_
  simp only[dq,kf,ll,aa]
 simp only[eH,lM,hc,aa,Bool.not_not]
theorem jV {x:List Fq}:okL x=true↔∀a ∈ x,okF a:=by
 unfold okL
 rw[List.all_eq_true]
 exact ⟨fun h a ha=>z12 (h a ha),fun h a ha=>z7 (h a ha)⟩
end
end Go.Proofs.YtegbncajloeepaaGreat

namespace Go.Proofs.YtegbncajloeepaaGreat
open Tryz Dn Dn.Sh
def nF (p:Pg) (j:Nat):List Int:=p.2.map fun r=>r.1.getD j 0
def nB (p:Pg):List Int:=p.2.map fun r=>r.2.2
theorem CZ {g:Rw->Int} {rs:List Rw} {F:(List Int×Int×PUnit->Option (List Int))->List Int×Int×PUnit->Option (List Int)} (h:rs.length<=1000000)
  (hF:∀again (i:Nat),i<rs.length->F again ((rs.take i).map g,(i:Int),PUnit.unit)=again ((rs.take i).map g++[g (rs.getD i rw0)],((i+1:Nat):Int),PUnit.unit))
  (hf:∀again,F again (rs.map g,(rs.length:Int),PUnit.unit)=some (rs.map g)):lpK (List Int×Int×PUnit) (List Int) F ([],(0:Int),PUnit.unit)=some (rs.map g):=by
 refine (kg (α:=List Int×Int×PUnit) (σ:=Unit) rs.length (by omega) (fun i _=>((rs.take i).map g,(i:Int),PUnit.unit)) (fun i s k=>bif true then k s else none) (fun _=>some (rs.map g)) ?_ ?_ ()).trans ?_
 ·intro again i _ hi
  rw[hF again i hi,cT]
  congr 2
  rw[be hi,List.take_succ_eq_append_getElem hi,List.map_append]
  rfl
 ·intro again _
  rw[List.take_length]
  exact hf again
 ·refine (mj (p:=fun _=>true) (r:=none) rs.length (fun _ _ _=>rfl) rs.length 0 (by omega)).trans ?_
  rw[show ((List.range' 0 rs.length).all fun _=>true)=true from List.all_eq_true.2 fun _ _=>rfl]
  rfl
theorem vd {g:Rw->Int} {rs:List Rw} {i:Nat}:((rs.take i).map g).length<=rs.length:=by
 rw[List.length_map,List.length_take];omega
theorem Ic {p:Pg} {j:Nat} (hv:ValidP p) (hj:j<p.1.length):dN p (j:Int)=some (nF p j):=by
 obtain ⟨c,rs⟩:=p
 unfold dN kE nF
 have h6:=hv.rows
 simp only at h6 hj
 refine CZ (rs:=rs) (g:=fun r=>r.1.getD j 0) (by omega) (fun again i hi=>?_) (fun again=>by simp)
 have hw:IntKind.wrap .i64 ((i:Int)+1)=((i+1:Nat):Int):=by rw[aG (by omega) (by omega)];rfl
 have hr:rs.getD i rw0 ∈ rs:=by rw[be hi];exact List.getElem_mem _
 have hL:=hv.len _ hr
 have hT:=vd (g:=fun r=>r.1.getD j 0) (rs:=rs) (i:=i)
 simp only at hL
 simp only[ba,z7 hi,z7 (show (i:Int)<rs.length by omega),cT,z9,hw,z7 (show j<(rs.getD i rw0).1.length by omega),fp (show (((rs.take i).map fun r=>r.1.getD j 0).length+1)*8<=140737488355328 by omega)]
theorem Jv {p:Pg} (hv:ValidP p):dR p=some (nB p):=by
 obtain ⟨c,rs⟩:=p
 unfold dR kM nB
 have h6:=hv.rows
 simp only at h6
 refine CZ (rs:=rs) (g:=fun r=>r.2.2) (by omega) (fun again i hi=>?_) (fun again=>by simp)
 have hw:IntKind.wrap .i64 ((i:Int)+1)=((i+1:Nat):Int):=by rw[aG (by omega) (by omega)];rfl
 have hT:=vd (g:=fun r=>r.2.2) (rs:=rs) (i:=i)
 simp only[ba,z7 hi,z7 (show (i:Int)<rs.length by omega),cT,z9,hw,fp (show (((rs.take i).map fun r=>r.2.2).length+1)*8<=140737488355328 by omega)]
def yZ (k n:Int):Bool:=(decide (k≠1)||decide (n<=0))&&(decide (k≠2)||decide (0<=n))
def mu (p:Pg) (y:List Fq):Bool:=(List.range' 0 p.2.length).all fun i=>yZ (p.2.getD i rw0).2.1 (y.getD i (0,0)).1
theorem GB {p:Pg} {y:List Fq} (hv:ValidP p) (hl:y.length=p.2.length):dJ p y=some (mu p y):=by
 obtain ⟨c,rs⟩:=p
 unfold dJ kD mu
 have h6:=hv.rows
 simp only at h6 hl ⊢
 refine (kg (α:=Int×PUnit) (σ:=Unit) rs.length (by omega) (fun i _=>((i:Int),PUnit.unit)) (fun i s k=>bif yZ (rs.getD i rw0).2.1 (y.getD i (0,0)).1 then k s else some false) (fun _=>some true) ?_ ?_ ()).trans ?_
 ·intro again i _ hi
  have hw:IntKind.wrap .i64 ((i:Int)+1)=((i+1:Nat):Int):=by rw[aG (by omega) (by omega)];rfl
  simp only[ba,z7 hi,z7 (show (i:Int)<rs.length by omega),z7 (show i<y.length by omega),cT,z9,hw]
  obtain ⟨n,hn⟩:∃n,(y.getD i (0,0)).1=n:=⟨_,rfl⟩
  obtain ⟨kd,hkd⟩:∃kd,(rs.getD i rw0).2.1=kd:=⟨_,rfl⟩
  simp only[hn,hkd,yZ]
  by_cases k1:kd=1<;>by_cases k2:kd=2<;>by_cases c1:n<=0<;>by_cases c2:0<=n<;>by_cases c3:n>0<;>by_cases c4:n<0<;>first | (exfalso;omega) | simp[k1,k2,c1,c2,c3,c4]
 ·intro again s
  simp only[z8 (show ¬ (rs.length:Int)<rs.length by omega),cF]
 ·refine (mj (p:=fun i=>yZ (rs.getD i rw0).2.1 (y.getD i (0,0)).1) (r:=some false) rs.length (fun _ _ _=>rfl) rs.length 0 (by omega)).trans ?_
  cases (List.range' 0 rs.length).all fun i=>yZ (rs.getD i rw0).2.1 (y.getD i (0,0)).1<;>rfl
end Go.Proofs.YtegbncajloeepaaGreat

namespace Go.Proofs.YtegbncajloeepaaGreat
noncomputable section
open Tryz Dn Dn.Sh
def qp (p:Pg) (y:List Fq):Bool:=(List.range' 0 p.1.length).all fun j=>(fC (nF p j) y 0).isSome
def zB (p:Pg) (y:List Fq) (f:Nat->Int):Bool:=(List.range' 0 p.1.length).all fun j=>decide (zl ((fC (nF p j) y 0).getD 0) (f j:Rat)<=0)
theorem QZ {p:Pg} {j:Nat} (hv:ValidP p) (hj:j<p.1.length):∀n ∈ nF p j,inC n=true:=fun n hn=>by
 obtain ⟨r,hr,rfl⟩:=List.mem_map.1 hn
 rw[be (by rw[hv.len r hr];exact hj)]
 exact hv.coefs r hr _ (List.getElem_mem _)
theorem ul {p:Pg} {j:Nat}:(nF p j).length=p.2.length:=by unfold nF;rw[List.length_map]
theorem oY {p:Pg}:(nB p).length=p.2.length:=by unfold nB;rw[List.length_map]
theorem Jr {p:Pg} (hv:ValidP p):∀n ∈ nB p,inR n=true:=fun n hn=>by
 obtain ⟨r,hr,rfl⟩:=List.mem_map.1 hn
 exact hv.right r hr
theorem HP {R:Type} {n:Nat} {g h:Nat->Bool} {f:Bool×Int->Option R} {b:Nat->Bool×Int->(Bool×Int->Option R)->Option R}
  (hb:∀i s k,i<n->b i s k=k (s.1&&h i,bif g i then s.2 else 5)):∀(k i:Nat) (s:Bool×Int),i+k<=n ->
  upF b f k i s=f (s.1&&(List.range' i k).all h,bif (List.range' i k).all g then s.2 else 5)
 | 0,i,s,_=>by simp[upF]
 | k+1,i,s,hi=>by
  simp only[upF,hb i s _ (by omega)]
  rw[HP hb k (i+1) _ (by omega)]
  simp only[List.range'_succ,List.all_cons,Bool.and_assoc]
  congr 2
  cases g i<;>cases (List.range' (i+1) k).all g<;>rfl
theorem S2 {l:List Int} {x:List Fq} {e:Int} (hl:l.length<=x.length) (h0:l.length<=1000000) (hc:∀n ∈ l,inR n=true) (hx:∀a ∈ x,okF a) :
  ce e l x=some (bif (fC l x 0).isSome then e else 5,prQ ((fC l x 0).getD 0)):=by
 rw[Rq hl h0 (fun n hn=>OQ (hc n hn)) hx]
 cases fC l x 0<;>rfl
def pr (p:Pg) (y:List Fq):Option Rat:=fC (nB p) y 0
def Jf (p:Pg) (y:List Fq):Bool:=decide (0<(prQ ((pr p y).getD 0)).1)
def EU (p:Pg) (y:List Fq):Bool:=Jf p y&&(mu p y&&zB p y fun _=>0)
theorem qY {p:Pg} {y:List Fq} (h:y.length<=1000000):bO p y=some (bif pC p&&okL y then bif decide (y.length=p.2.length) then bif qp p y&&(pr p y).isSome then (EU p y,0,()) else (false,5,()) else (false,3,()) else (false,1,())):=by
 unfold bO jH
 rw[mL,obN]
 simp only[M0 h,aM,eV,cT]
 cases hv:pC p with
 | false=>rfl
 | true =>
  simp only[Bool.not_true,Bool.not_false,cT]
  rw[obN]
  cases hx:okL y with
  | false=>rfl
  | true =>
   have hV:=gk.1 hv
   have hX:=jV.1 hx
   have h6:=hV.rows
   have h7:=hV.cost.2
   simp only[Bool.not_true,cF,Bool.and_self,cT]
   by_cases hl:y.length=p.2.length
   ·simp only[z7 hl,z7 (show (y.length:Int)=p.2.length by omega),Bool.not_true,cT,cF]
    refine (kg (α:=Bool×Int×Int×PUnit) p.1.length (by omega) (fun i (s:Bool×Int)=>(s.1,(i:Int),s.2,PUnit.unit)) (fun j s k=>k (s.1&&decide (zl ((fC (nF p j) y 0).getD 0) ((0:Int):Rat)<=0),bif (fC (nF p j) y 0).isSome then s.2 else 5))
     (fun s=>some ((Jf p y&&(mu p y&&s.1))&&decide ((bif (pr p y).isSome then s.2 else 5)=0),bif (pr p y).isSome then s.2 else 5,())) ?_ ?_ (true,0)).trans ?_
    ·intro again i s hi
     have hw:IntKind.wrap .i64 ((i:Int)+1)=((i+1:Nat):Int):=by rw[aG (by omega) (by omega)];rfl
     have h1:=SB (l:=nF p i) (x:=y) (e:=s.2) (by rw[ul];omega) (by rw[ul];omega) (QZ hV hi) hX
     have h2:=PS (n:=0) (mi (BU (l:=nF p i) (x:=y))) (by omega)
     rw[qi] at h2
     simp only[z7 (show (i:Int)<p.1.length by omega),cT,Ic hV hi,h1,cZ,iW,h2,aa,hw]
     cases decide (zl ((fC (nF p i) y 0).getD 0) ((0:Int):Rat)<=0)<;>cases s.1<;>rfl
    ·intro again s
     have h1:=S2 (l:=nB p) (x:=y) (e:=s.2) (by rw[oY];omega) (by rw[oY];omega) (Jr hV) hX
     simp only[z8 (show ¬ (p.1.length:Int)<p.1.length by omega),cF,Jv hV,h1,aa,GB hV hl]
     obtain ⟨n,hn⟩:∃n,(prQ ((fC (nB p) y 0).getD 0)).1=n:=⟨_,rfl⟩
     simp only[Jf,pr,hn]
     by_cases c1:n>0
     ·simp only[z7 c1]
      cases mu p y<;>cases s.1<;>rfl
     ·simp only[z8 c1]
      cases mu p y<;>cases s.1<;>rfl
    ·rw[HP (n:=p.1.length) (g:=fun j=>(fC (nF p j) y 0).isSome) (h:=fun j=>decide (zl ((fC (nF p j) y 0).getD 0) ((0:Int):Rat)<=0)) (fun _ _ _ _=>rfl) p.1.length 0 _ (by omega)]
     rw[show ((List.range' 0 p.1.length).all fun j=>(fC (nF p j) y 0).isSome)=qp p y from rfl,show ((List.range' 0 p.1.length).all fun j=>decide (zl ((fC (nF p j) y 0).getD 0) ((0:Int):Rat)<=0))=zB p y (fun _=>0) from rfl]
     unfold EU
     cases qp p y<;>cases (pr p y).isSome<;>cases Jf p y<;>cases mu p y<;>cases zB p y (fun _=>0)<;>rfl
   ·simp only[z8 hl,z8 (show ¬ (y.length:Int)=p.2.length by omega),Bool.not_false,cT,cF]
end
end Go.Proofs.YtegbncajloeepaaGreat

namespace Go.Proofs.YtegbncajloeepaaGreat
open Tryz Dn Dn.Sh
theorem FQ {s:Sy} (h:fN s=true) (y:List Fq):dy s y=ah (bO (ep s (dK s)) y) fun t=>some (t.1,t.2.1,()):=by
 unfold dy nt
 rw[yl h,aa]
 rfl
def qt (x:Int):Bool×Int×Int:=(decide (x<0),hl x.natAbs)
theorem uU {x:Int} (h1: -9223372036854775808<=x) (h2:x<9223372036854775808):cb x=some (x.natAbs:Int):=kZ h1 h2
theorem Hl {n:Nat}:(bif !decide ((hl n).1=0) then true else !decide ((hl n).2=0))=decide (n≠0):=by
 unfold hl
 simp only
 by_cases h:n=0
 ·subst h;rfl
 ·rw[z7 h]
  by_cases c1:((n / 18446744073709551616:Nat):Int)=0
  ·rw[z7 c1,z8 (show ¬ ((n % 18446744073709551616:Nat):Int)=0 by omega)];rfl
  ·rw[z8 c1];rfl
theorem Lr {a b:Int}:(bif !decide (decide (a<0)=decide (b<0)) then decide ((a.natAbs*b.natAbs)≠0) else false)=decide (a*b<0):=by
 by_cases ha:a<0
 ·by_cases hb:b<0
  ·have:=Int.mul_pos_of_neg_of_neg ha hb
   rw[z8 (show ¬ a*b<0 by omega)]
   simp[ha,hb]
  ·by_cases hb0:b=0
   ·subst hb0;simp
   ·have:=Int.mul_neg_of_neg_of_pos ha (show 0<b by omega)
    rw[z7 this,z7 (show a.natAbs*b.natAbs≠0 by rw[<-Int.natAbs_mul];omega)]
    simp[ha,hb]
 ·by_cases ha0:a=0
  ·subst ha0;simp
  ·by_cases hb:b<0
   ·have:=Int.mul_neg_of_pos_of_neg (show 0<a by omega) hb
    rw[z7 this,z7 (show a.natAbs*b.natAbs≠0 by rw[<-Int.natAbs_mul];omega)]
    simp[ha,hb]
   ·have:=Int.mul_nonneg (show 0<=a by omega) (show 0<=b by omega)
    rw[z8 (show ¬ a*b<0 by omega)]
    simp[ha,hb]
theorem sD {a b:Int} (ha: -9223372036854775808<=a/\a<9223372036854775808) (hb: -9223372036854775808<=b/\b<9223372036854775808):bD a b=some (qt (a*b)):=by
 have e:(((a.natAbs:Nat):Int)*(b.natAbs:Int) / 18446744073709551616,((a.natAbs:Nat):Int)*(b.natAbs:Int) % 18446744073709551616,PUnit.unit)=((hl (a.natAbs*b.natAbs)).1,(hl (a.natAbs*b.natAbs)).2,PUnit.unit):=by
  rw[<-Int.natCast_mul];rfl
 simp only[bD,lL,uU ha.1 ha.2,uU hb.1 hb.2,aa]
 rw[Tr (by omega) (by omega) (by omega) (by omega),aa,e]
 have h1:=Hl (n:=a.natAbs*b.natAbs)
 have h2:=Lr (a:=a) (b:=b)
 rw[<-h1] at h2
 unfold qt
 rw[Int.natAbs_mul,<-h2]
 generalize hl (a.natAbs*b.natAbs)=p
 obtain ⟨c,hc⟩:∃c,(decide (decide (a<0)=decide (b<0)))=c:=⟨_,rfl⟩
 obtain ⟨c1,hc1⟩:∃c,decide (p.1=0)=c:=⟨_,rfl⟩
 simp only[hc,hc1]
 cases c<;>cases c1<;>rfl
theorem xV {s t:Bool} {m n:Nat}:aw (s,hl m) (t,hl n)=some (if m<n then -1 else if m=n then 0 else 1):=by
 simp only[aw,fX]
 have e1:(hl m).1=(hl n).1↔m / 18446744073709551616=n / 18446744073709551616:=by unfold hl;simp only;omega
 have e2:(hl m).1<(hl n).1↔m / 18446744073709551616<n / 18446744073709551616:=by unfold hl;simp only;omega
 have e3:(hl m).2=(hl n).2↔m % 18446744073709551616=n % 18446744073709551616:=by unfold hl;simp only;omega
 have e4:(hl m).2<(hl n).2↔m % 18446744073709551616<n % 18446744073709551616:=by unfold hl;simp only;omega
 rw[decide_eq_decide.2 e1,decide_eq_decide.2 e2,decide_eq_decide.2 e3,decide_eq_decide.2 e4]
 generalize q1:decide (m / 18446744073709551616=n / 18446744073709551616)=c1
 generalize q2:decide (m / 18446744073709551616<n / 18446744073709551616)=c2
 generalize q3:decide (m % 18446744073709551616=n % 18446744073709551616)=c3
 generalize q4:decide (m % 18446744073709551616<n % 18446744073709551616)=c4
 cases c1<;>cases c2<;>cases c3<;>cases c4<;>simp only[decide_eq_true_iff,decide_eq_false_iff_not] at q1 q2 q3 q4 <;>
  first
  | (exfalso;omega)
  | (rw[if_pos (show m<n by omega)];rfl)
  | (rw[if_neg (show ¬ m<n by omega),if_pos (show m=n by omega)];rfl)
  | (rw[if_neg (show ¬ m<n by omega),if_neg (show ¬ m=n by omega)];rfl)
theorem Kv {x y:Int}:cB (qt x) (qt y)=some (if x<y then -1 else if x=y then 0 else 1):=by
 have key:∀{a b:Nat} (h1:a<b↔x<y) (h2:a=b↔x=y),(if a<b then (-1:Int) else if a=b then 0 else 1)=if x<y then -1 else if x=y then 0 else 1:=fun h1 h2=>by simp only[h1,h2]
 unfold qt
 simp only[cB,io,xV,aa]
 by_cases hx:x<0
 ·by_cases hy:y<0
  ·rw[z7 hx,z7 hy,key (by omega) (by omega)]
   rfl
  ·rw[if_pos (show x<y by omega),z7 hx,z8 hy]
   rfl
 ·by_cases hy:y<0
  ·rw[if_neg (show ¬ x<y by omega),if_neg (show ¬ x=y by omega),z8 hx,z7 hy]
   rfl
  ·rw[z8 hx,z8 hy,key (a:=x.natAbs) (b:=y.natAbs) (by omega) (by omega)]
   rfl
theorem OC {m n:Nat} (h:m+n<340282366920938463463374607431768211456):(zI (hl m).1 (hl n).1 (qz (hl m).2 (hl n).2 0),zI (hl m).2 (hl n).2 0)=hl (m+n):=by
 have h1:=Dq h
 have c1:(0:Int)<=qz (hl m).2 (hl n).2 0:=by rw[uS];omega
 have c2:qz (hl m).2 (hl n).2 0<=1:=by rw[uS];omega
 simp only[fM,mq,z7 c1,z7 c2] at h1
 exact Option.some.inj h1
theorem Ht {m n:Nat} (h:n<=m) (hm:m<340282366920938463463374607431768211456):(vH (hl m).1 (hl n).1 (oZ (hl m).2 (hl n).2 0),vH (hl m).2 (hl n).2 0)=hl (m - n):=by
 have h1:=vU h hm
 have c1:(0:Int)<=oZ (hl m).2 (hl n).2 0:=by rw[uo];omega
 have c2:oZ (hl m).2 (hl n).2 0<=1:=by rw[uo];split<;>omega
 simp only[eW,kX,z7 c1,z7 c2] at h1
 exact Option.some.inj h1
theorem GF {m n:Nat}:(decide ((0:Int)<=oZ (hl m).2 (hl n).2 0)&&decide (oZ (hl m).2 (hl n).2 0<=(1:Int)))=true:=by
 rw[z7 (show (0:Int)<=oZ (hl m).2 (hl n).2 0 by rw[uo];omega),z7 (show oZ (hl m).2 (hl n).2 0<=1 by rw[uo];split<;>omega)]
 rfl
theorem FP {m n:Nat}:(decide ((0:Int)<=qz (hl m).2 (hl n).2 0)&&decide (qz (hl m).2 (hl n).2 0<=(1:Int)))=true:=by
 rw[z7 (show (0:Int)<=qz (hl m).2 (hl n).2 0 by rw[uS];omega),z7 (show qz (hl m).2 (hl n).2 0<=1 by rw[uS];omega)]
 rfl
theorem Jl {x y:Int} (hx:x.natAbs<85070591730234615865843651857942052864) (hy:y.natAbs<85070591730234615865843651857942052864):bC (qt x) (qt y)=some (qt (x - y)):=by
 unfold qt
 simp only[bC,gA,xV,aa,rY,GF,FP]
 by_cases hs:decide (x<0)=decide (y<0)
 ·
  rw[z7 hs]
  simp only[Bool.not_true,cF]
  by_cases hlt:x.natAbs<y.natAbs
  ·have h1:=Ht (m:=y.natAbs) (n:=x.natAbs) (by omega) (by omega)
   have h2:=congrArg Prod.fst h1
   have h3:=congrArg Prod.snd h1
   simp only at h2 h3
   rw[if_pos hlt]
   simp only[show decide ((-1:Int)<0)=true from rfl,cT,h2,h3]
   have h4:=Hl (n:=y.natAbs - x.natAbs)
   have e1:decide (x - y<0)=(bif !decide (x<0) then decide (y.natAbs - x.natAbs≠0) else false):=by
    rw[z7 (show y.natAbs - x.natAbs≠0 by omega)]
    by_cases c:x<0
    ·have c':y<0:=by rw[z7 c] at hs;exact z12 hs.symm
     rw[z7 c,z8 (show ¬ x - y<0 by omega)];rfl
    ·have c':¬ y<0:=by rw[z8 c] at hs;exact of_decide_eq_false hs.symm
     rw[z8 c,z7 (show x - y<0 by omega)];rfl
   have e2:(x - y).natAbs=y.natAbs - x.natAbs:=by
    by_cases c:x<0
    ·have c':y<0:=by rw[z7 c] at hs;exact z12 hs.symm
     omega
    ·have c':¬ y<0:=by rw[z8 c] at hs;exact of_decide_eq_false hs.symm
     omega
   rw[e1,e2,<-h4]
   generalize hl (y.natAbs - x.natAbs)=p
   obtain ⟨c,hc⟩:∃c,decide (p.1=0)=c:=⟨_,rfl⟩
   simp only[hc]
   cases decide (x<0)<;>cases c<;>rfl
  ·have h1:=Ht (m:=x.natAbs) (n:=y.natAbs) (by omega) (by omega)
   have h2:=congrArg Prod.fst h1
   have h3:=congrArg Prod.snd h1
   simp only at h2 h3
   have h0:¬ (if x.natAbs<y.natAbs then (-1:Int) else if x.natAbs=y.natAbs then 0 else 1)<0:=by
    rw[if_neg hlt]
    split<;>simp
   rw[z8 h0]
   simp only[cF,h2,h3]
   have h4:=Hl (n:=x.natAbs - y.natAbs)
   have e1:decide (x - y<0)=(bif decide (x<0) then decide (x.natAbs - y.natAbs≠0) else false):=by
    by_cases c:x<0
    ·have c':y<0:=by rw[z7 c] at hs;exact z12 hs.symm
     rw[z7 c,cond_true]
     exact decide_eq_decide.2 (by omega)
    ·have c':¬ y<0:=by rw[z8 c] at hs;exact of_decide_eq_false hs.symm
     rw[z8 c,z8 (show ¬ x - y<0 by omega)];rfl
   have e2:(x - y).natAbs=x.natAbs - y.natAbs:=by
    by_cases c:x<0
    ·have c':y<0:=by rw[z7 c] at hs;exact z12 hs.symm
     omega
    ·have c':¬ y<0:=by rw[z8 c] at hs;exact of_decide_eq_false hs.symm
     omega
   rw[e1,e2,<-h4]
   generalize hl (x.natAbs - y.natAbs)=p
   obtain ⟨c,hc⟩:∃c,decide (p.1=0)=c:=⟨_,rfl⟩
   simp only[hc]
   cases decide (x<0)<;>cases c<;>rfl
 ·rw[z8 hs]
  have h1:=OC (m:=x.natAbs) (n:=y.natAbs) (by omega)
  have h2:=congrArg Prod.fst h1
  have h3:=congrArg Prod.snd h1
  simp only at h2 h3
  simp only[Bool.not_false,cT,h2,h3]
  have h4:=Hl (n:=y.natAbs)
  by_cases c:x<0
  ·have c':¬ y<0:=fun c'=>hs (by rw[z7 c,z7 c'])
   rw[z7 c,z8 c',z7 (show x - y<0 by omega),show (x - y).natAbs=x.natAbs+y.natAbs by omega]
   generalize hl y.natAbs=p
   obtain ⟨d,hd⟩:∃d,decide (p.1=0)=d:=⟨_,rfl⟩
   simp only[hd]
   cases d<;>rfl
  ·have c':y<0:=by
    apply Classical.byContradiction
    intro c'
    exact hs (by rw[z8 c,z8 c'])
   rw[z8 c,z7 c',z8 (show ¬ x - y<0 by omega),show (x - y).natAbs=x.natAbs+y.natAbs by omega]
   generalize hl y.natAbs=p
   obtain ⟨d,hd⟩:∃d,decide (p.1=0)=d:=⟨_,rfl⟩
   simp only[hd]
   cases d<;>rfl
theorem L4 {d q:Int} (hd:0<d) (hd2:d<9223372036854775808) (hq:q.natAbs<9223372036854775808):bW (qt (d*q)) d=some q:=by
 unfold qt
 simp only[bW,gK]
 have e:(d*q).natAbs=d.natAbs*q.natAbs:=Int.natAbs_mul _ _
 have hdn:(d.natAbs:Int)=d:=by omega
 have h1:(d*q).natAbs / 18446744073709551616<d.natAbs:=by
  rw[e]
  refine (Nat.div_lt_iff_lt_mul (by omega)).2 ?_
  exact Nat.mul_lt_mul_of_pos_left (by omega) (by omega)
 have h2:=Ee (h:=(d*q).natAbs / 18446744073709551616) (l:=(d*q).natAbs % 18446744073709551616) (y:=d.natAbs) h1 (by omega) (by omega)
 have h3:(d*q).natAbs / 18446744073709551616*18446744073709551616+(d*q).natAbs % 18446744073709551616=(d*q).natAbs:=by omega
 rw[h3,e,Nat.mul_div_cancel_left _ (by omega)] at h2
 have h4:IntKind.wrap .u64 d=(d.natAbs:Int):=by rw[bu (by omega) (by omega)];omega
 rw[h4]
 unfold hl
 simp only
 rw[e,h2,aa]
 simp only
 rw[aG (x:=(q.natAbs:Int)) (by omega) (by omega)]
 by_cases c:q<0
 ·rw[z7 (show d*q<0 from Int.mul_neg_of_pos_of_neg hd c),cond_true,aG (by omega) (by omega)]
  congr 1
  omega
 ·rw[z8 (show ¬ d*q<0 by have:=Int.mul_nonneg (show 0<=d by omega) (show 0<=q by omega);omega),cond_false]
  congr 1
  omega
theorem bg {i:Nat} (h:i<=1000000):IntKind.wrap .i64 ((i:Int)+1)=((i+1:Nat):Int):=by rw[aG (by omega) (by omega)];rfl
def mid (T:Nat->Nat->Int) (d:Int) (r c i j:Nat):Nat->Nat->Int:=fun k l=>if k≠r/\(k<i\/(k=i/\l<j)) then piv T d r c k l else T k l
theorem Pb {T:Nat->Nat->Int} {d:Int} {r c i j l:Nat}:mid T d r c i j r l=T r l:=if_neg fun h=>h.1 rfl
theorem DJ {T:Nat->Nat->Int} {d:Int} {r c i j l:Nat} (h:j<=l):mid T d r c i j i l=T i l:=by
 unfold mid
 rw[if_neg fun h=>by omega]
theorem Nx {T:Nat->Nat->Int} {d:Int} {r c k l:Nat}:T k l=mid T d r c 0 0 k l:=by
 unfold mid
 rw[if_neg fun h=>by omega]
def CE (T:Nat->Nat->Int) (i j:Nat):Nat->Nat->Int:=fun k l=>if k<i\/(k=i/\l<j) then - T k l else T k l
theorem JF {T:Nat->Nat->Int} {i j l:Nat} (h:j<=l):CE T i j i l=T i l:=by
 unfold CE
 rw[if_neg fun h=>by omega]
theorem Iu {T:Nat->Nat->Int} {k l:Nat}:T k l=CE T 0 0 k l:=by
 unfold CE
 rw[if_neg fun h=>by omega]
theorem jU {m w:Nat} {T:Nat->Nat->Int}:(iY m w T).2=dU m w T:=rfl
theorem HE {m w:Nat} {T T':Nat->Nat->Int} {i j:Nat} {x:Int} (hi:i<m) (hj:j<w) (h:∀k l,k<m->l<w->(if k=i/\l=j then x else T k l)=T' k l) :
  ((iY m w T).1,(dU m w T).set i (some ((bE w (T i)).set j x)))=iY m w T':=by
 rw[Eo hi hj,iy h]
 rfl
structure PivOk (m w:Nat) (T:Nat->Nat->Int) (d:Int) (r c:Nat):Prop where
 hm:m<=1000
 hw:w<=1000
 hr:r<m
 hc:c<w
 hd:0<d/\d<4611686018427387904
 b:∀i j,i<m->j<w->(T i j).natAbs<4611686018427387904
 q:∀i j,i<m->i≠r->j<w->d*piv T d r c i j=T r c*T i j - T i c*T r j
 qb:∀i j,i<m->i≠r->j<w->(piv T d r c i j).natAbs<4611686018427387904
theorem jC {x:Int} (h:x.natAbs<4611686018427387904): -9223372036854775808<=x/\x<9223372036854775808:=by omega
theorem EQ {x y:Int} (hx:x.natAbs<4611686018427387904) (hy:y.natAbs<4611686018427387904):(x*y).natAbs<85070591730234615865843651857942052864:=by
 rw[Int.natAbs_mul]
 exact Nat.lt_of_le_of_lt (Nat.mul_le_mul (Nat.le_of_lt_succ (n:=4611686018427387903) hx) (Nat.le_of_lt_succ (n:=4611686018427387903) hy)) (by decide)
theorem zm {m w:Nat} {T:Nat->Nat->Int} {d:Int} {β:Nat->Nat} {r c:Nat} {x3 x4:List Int} {x5 x6:Int} (h:PivOk m w T d r c) :
  aF (iY m w T) d (ji m β) x3 x4 x5 x6 (r:Int) (c:Int)=some (iY m w (oo T d r c),sg (T r c)*T r c,ji m (upd β r c),x3,x4,x5,x6,()):=by
 obtain ⟨hm,hw,hr,hc,hd,hb,hq,hqb⟩:=h
 unfold aF ii
 simp only[gX,lw hr,jU,gB hr,aK,bJ hc,ba,z9,z7 hr,z7 hc,dD (show Nat.succ r<=m from hr),dD (show Nat.succ c<=w from hc),cT,MO hr,jc]
 refine di m (by omega) (fun i=>((i:Int),iY m w (mid T d r c i 0),PUnit.unit)) _ (by rw[jq fun k l _ _=>Nx];rfl) (fun again i hi=>?_) (fun again=>?_)
 ·simp only[gX,lw hi,jU,gB hi,aK,bJ hc,ba,z9,z7 hi,z7 hc,z7 (show (i:Int)<m by omega),dD (show Nat.succ i<=m from hi),dD (show Nat.succ c<=w from hc),cT,vZ hi,bg (show i<=1000000 by omega)]
  by_cases e:i=r
  ·rw[z7 (show (i:Int)=r by omega),cond_true]
   congr 3
   refine jq fun k l _ _=>?_
   unfold mid
   by_cases c1:k≠r/\(k<i\/(k=i/\l<0))
   ·rw[if_pos c1,if_pos (by omega)]
   ·rw[if_neg c1,if_neg (by omega)]
  ·rw[z8 (show ¬ (i:Int)=r by omega),cond_false]
   refine pX w (by omega) (fun j=>((j:Int),iY m w (mid T d r c i j),PUnit.unit)) _ (fun again2 j hj=>?_) (fun again2=>?_)
   ·have t1:=sD (jC (hb i j hi hj)) (jC (hb r c hr hc))
    have t2:=sD (jC (hb i c hi hc)) (jC (hb r j hr hj))
    have t3:=Jl (EQ (hb i j hi hj) (hb r c hr hc)) (EQ (hb i c hi hc) (hb r j hr hj))
    have t4:bW (qt (T i j*T r c - T i c*T r j)) d=some (piv T d r c i j):=by
     rw[Int.mul_comm (T i j),<-hq i j hi e hj]
     exact L4 hd.1 (by omega) (by have:=hqb i j hi e hj;omega)
    simp only[gX,lw hr,jU,gB hi,gB hr,aK,bJ hj,ba,z9,z7 hj,z7 hr,z7 (show (j:Int)<w by omega),
     dD (show Nat.succ j<=w from hj),dD (show Nat.succ r<=m from hr),cT,Pb,DJ (Nat.le_refl j),DJ (Nat.zero_le c),t1,t2,t3,t4,aa,bg (show j<=1000000 by omega)]
    congr 3
    refine HE hi hj fun k l hk hl=>?_
    unfold mid
    by_cases c0:k=i/\l=j
    ·rw[if_pos c0,if_pos (by omega),c0.1,c0.2]
    ·rw[if_neg c0]
     by_cases c1:k≠r/\(k<i\/(k=i/\l<j))
     ·rw[if_pos c1,if_pos (by omega)]
     ·rw[if_neg c1,if_neg (by omega)]
   ·simp only[jU,gB hi,aK,z8 (show ¬ (w:Int)<w by omega),cF]
    congr 3
    refine jq fun k l hk hl=>?_
    unfold mid
    by_cases c1:k≠r/\(k<i\/(k=i/\l<w))
    ·rw[if_pos c1,if_pos (by omega)]
    ·rw[if_neg c1,if_neg (by omega)]
 ·simp only[gX,z8 (show ¬ (m:Int)<m by omega),cF]
  by_cases hneg:T r c<0
  ·rw[z7 hneg,cond_true]
   refine di m (by omega) (fun i=>((i:Int),iY m w (CE (mid T d r c m 0) i 0),PUnit.unit)) _ (by rw[jq fun k l _ _=>Iu];rfl) (fun again i hi=>?_) (fun again=>?_)
   ·simp only[gX,lw hi,jU,gB hi,aK,ba,z9,z7 hi,z7 (show (i:Int)<m by omega),dD (show Nat.succ i<=m from hi),cT,vZ hi,bg (show i<=1000000 by omega)]
    refine pX w (by omega) (fun j=>((j:Int),iY m w (CE (mid T d r c m 0) i j),PUnit.unit)) _ (fun again2 j hj=>?_) (fun again2=>?_)
    ·have hbb:(mid T d r c m 0 i j).natAbs<4611686018427387904:=by
      unfold mid
      split
      ·rename_i hh;exact hqb i j hi hh.1 hj
      ·exact hb i j hi hj
     simp only[jU,gB hi,aK,bJ hj,ba,z9,z7 hj,z7 (show (j:Int)<w by omega),
      dD (show Nat.succ j<=w from hj),cT,JF (Nat.le_refl j),bg (show j<=1000000 by omega),aG (show -9223372036854775808<=0 - mid T d r c m 0 i j by omega) (by omega)]
     congr 3
     refine HE hi hj fun k l hk hl=>?_
     unfold CE
     by_cases c0:k=i/\l=j
     ·rw[if_pos c0,if_pos (by omega),c0.1,c0.2]
      omega
     ·rw[if_neg c0]
      by_cases c1:k<i\/(k=i/\l<j)
      ·rw[if_pos c1,if_pos (by omega)]
      ·rw[if_neg c1,if_neg (by omega)]
    ·simp only[jU,gB hi,aK,z8 (show ¬ (w:Int)<w by omega),cF]
     congr 3
     refine jq fun k l hk hl=>?_
     unfold CE
     by_cases c1:k<i\/(k=i/\l<w)
     ·rw[if_pos c1,if_pos (by omega)]
     ·rw[if_neg c1,if_neg (by omega)]
   ·have hrc:=hb r c hr hc
    simp only[gX,z8 (show ¬ (m:Int)<m by omega),cF,aG (show -9223372036854775808<=0 - T r c by omega) (by omega)]
    have e1:sg (T r c)= -1:=by unfold sg;rw[if_pos hneg]
    congr 2
    ·refine jq fun k l hk hl=>?_
     unfold CE mid oo
     rw[if_pos (by omega),e1]
     by_cases c0:k=r
     ·rw[if_neg (by omega),if_pos c0,c0];omega
     ·rw[if_pos (by omega),if_neg c0];omega
    ·rw[e1]
     congr 1
     omega
  ·rw[z8 hneg,cond_false]
   have e1:sg (T r c)=1:=by unfold sg;rw[if_neg hneg]
   congr 2
   ·refine jq fun k l hk hl=>?_
    unfold mid oo
    rw[e1,Int.one_mul]
    by_cases c0:k=r
    ·rw[if_neg (by omega),if_pos c0,c0]
    ·rw[if_pos (by omega),if_neg c0]
   ·rw[e1,Int.one_mul]
theorem ub {x y z p q r:Int} (hp:0<p) (hq:0<q) (hr:0<r) (h1:x*q<=y*p) (h2:y*r<=z*q):x*r<=z*p:=by
 refine A6 hq ?_
 have a1:=z11 h1 (Int.le_of_lt hr)
 have a2:=z11 h2 (Int.le_of_lt hp)
 calc q*(x*r)=x*q*r:=by grind
  _<=y*p*r:=a1
  _=y*r*p:=by grind
  _<=z*q*p:=a2
  _=q*(z*p):=by grind
theorem M1 {x y z p q r:Int} (hp:0<p) (hq:0<q) (hr:0<r) (h1:x*q<=y*p) (h2:y*r<=z*q) (h:x*r=z*p):x*q=y*p/\y*r=z*q:=by
 have h3:=ub hq hr hp h2 (by rw[h];exact Int.le_refl _)
 have h4:=ub (x:=z) (y:=x) (z:=y) (p:=r) (q:=p) (r:=q) hr hp hq (by rw[h];exact Int.le_refl _) h1
 exact ⟨Int.le_antisymm h1 h3,Int.le_antisymm h2 h4⟩
theorem xM {m w:Nat} {T:Nat->Nat->Int} {d:Int} {β:Nat->Nat} {c R:Nat} {x1:Int} {x3 x4:List Int} {x5:Int} (hm:m<=1000) (hc:c<w) (hR:R<w) (hb:∀i j,i<m->j<w->(T i j).natAbs<4611686018427387904) :
  ∃b,ay (sN m w T,x1,ji m β,x3,x4,x5,(R:Int)) (c:Int)=some b/\((b= -1/\∀i,i<m->T i c<=0)\/∃r:Nat,b=r/\Dn.Leaves m R ⟨T,d,β⟩ c r):=by
 unfold ay gz
 refine SD (fun (x:Int×Int×PUnit)=>∃i:Nat,i<=m/\x.2.1=i/\((x.1= -1/\∀k,k<i->T k c<=0)\/∃r:Nat,x.1=r/\Dn.Leaves i R ⟨T,d,β⟩ c r)) _ (fun x=>((m:Int) - x.2.1).toNat) ?_ ⟨0,by omega,rfl,.inl ⟨rfl,fun k hk=>by omega⟩⟩ (by simp only;omega)
 rintro ⟨b,_,_⟩ ⟨i,hi,rfl,hI⟩
 simp only at hI
 by_cases hlt:i<m
 ·have gR:=mZ (w:=w) (T:=T) hlt
  have ext:∀r,Dn.Leaves i R ⟨T,d,β⟩ c r->(0<T i c->T r R*T i c<=T i R*T r c/\(T r R*T i c=T i R*T r c->β r<=β i))->Dn.Leaves (i+1) R ⟨T,d,β⟩ c r:=fun r h hn=>by
   refine ⟨by have:=h.lt;omega,h.pos,fun k hk hp=>?_,fun k hk hp he=>?_⟩
   ·by_cases e:k=i
    ·subst e;exact (hn hp).1
    ·exact h.le k (by omega) hp
   ·by_cases e:k=i
    ·subst e;exact (hn hp).2 he
    ·exact h.tie k (by omega) hp he
  right
  by_cases hpos:T i c<=0
  ·refine ⟨(b,((i+1:Nat):Int),PUnit.unit),⟨i+1,by omega,rfl,?_⟩,by simp only;omega,fun rec=>?_⟩
   ·rcases hI with ⟨h1,h2⟩ | ⟨r,h1,h2⟩
    ·exact .inl ⟨h1,fun k hk=>by
      by_cases e:k=i
      ·rw[e];exact hpos
      ·exact h2 k (by omega)⟩
    ·exact .inr ⟨r,h1,ext r h2 fun h=>by omega⟩
   ·simp only[gb,ba,z9,z7 hlt,z7 (show (i:Int)<m by omega),gR,aK,bJ hc,z7 hc,z7 hpos,cT,bg (show i<=1000000 by omega)]
  ·rcases hI with ⟨h1,h2⟩ | ⟨r,h1,h2⟩
   ·refine ⟨((i:Int),((i+1:Nat):Int),PUnit.unit),⟨i+1,by omega,rfl,.inr ⟨i,rfl,⟨by omega,show 0<T i c by omega,fun k hk hp=>?_,fun k hk hp _=>?_⟩⟩⟩,by simp only;omega,fun rec=>?_⟩
    ·by_cases e:k=i
     ·subst e;exact Int.le_refl _
     ·have h3:=h2 k (by omega)
      have hp:0<T k c:=hp
      omega
    ·by_cases e:k=i
     ·subst e;exact Nat.le_refl _
     ·have h3:=h2 k (by omega)
      have hp:0<T k c:=hp
      omega
    ·simp only[gb,ba,z9,z7 hlt,z7 (show (i:Int)<m by omega),gR,aK,bJ hc,z7 hc,z8 hpos,z7 (show b<0 by omega),cT,cF,bg (show i<=1000000 by omega)]
   ·subst h1
    have hr:r<m:=by have:=h2.lt;omega
    have gr:=mZ (w:=w) (T:=T) hr
    have t1:=sD (jC (hb i R hlt hR)) (jC (hb r c hr hc))
    have t2:=sD (jC (hb r R hr hR)) (jC (hb i c hlt hc))
    have hpr:0<T r c:=h2.pos
    refine ⟨(if T i R*T r c<T r R*T i c\/(T i R*T r c=T r R*T i c/\β i<β r) then (i:Int) else (r:Int),((i+1:Nat):Int),PUnit.unit),⟨i+1,by omega,rfl,.inr ?_⟩,by simp only;omega,fun rec=>?_⟩
    ·simp only
     by_cases hq:T i R*T r c<T r R*T i c\/(T i R*T r c=T r R*T i c/\β i<β r)
     ·rw[if_pos hq]
      have hle:T i R*T r c<=T r R*T i c:=by rcases hq with h | h<;>omega
      have hpi:0<T i c:=by omega
      refine ⟨i,rfl,⟨by omega,hpi,fun k hk hp=>?_,fun k hk hp he=>?_⟩⟩
      ·have hp:0<T k c:=hp
       by_cases e:k=i
       ·subst e;exact Int.le_refl _
       ·exact ub hpi hpr hp hle (h2.le k (by omega) hp)
      ·have hp:0<T k c:=hp
       have he:T i R*T k c=T k R*T i c:=he
       by_cases e:k=i
       ·subst e;exact Nat.le_refl _
       ·obtain ⟨e1,e2⟩:=M1 hpi hpr hp hle (h2.le k (by omega) hp) he
        have h3:β r<=β k:=h2.tie k (by omega) hp e2
        show β i<=β k
        rcases hq with h | h<;>omega
     ·rw[if_neg hq]
      have h3:=fun h=>hq (.inl h)
      refine ⟨r,rfl,ext r h2 fun hp=>⟨by omega,fun he=>?_⟩⟩
      have h4:=fun h=>hq (.inr ⟨he.symm,h⟩)
      omega
    ·simp only[gb,ba,z9,z7 hlt,z7 hr,z7 (show (i:Int)<m by omega),gR,gr,aK,bJ hc,bJ hR,z7 hc,z7 hR,z8 hpos,z8 (show ¬ (r:Int)<0 by omega),cT,cF,bg (show i<=1000000 by omega),
      t1,t2,aa,Kv,jc,jN hlt,jN hr]
     by_cases c1:T i R*T r c<T r R*T i c
     ·rw[if_pos c1,if_pos (.inl c1)]
      generalize decide ((β i:Int)<β r)=bb
      cases bb<;>rfl
     ·by_cases c2:T i R*T r c=T r R*T i c
      ·rw[if_neg c1,if_pos c2]
       by_cases c3:β i<β r
       ·rw[if_pos (.inr ⟨c2,c3⟩),z7 (show (β i:Int)<β r by omega)]
        rfl
       ·rw[if_neg (by rintro (h | h)<;>omega),z8 (show ¬ (β i:Int)<β r by omega)]
        rfl
      ·rw[if_neg c1,if_neg c2,if_neg (by rintro (h | h)<;>omega)]
       generalize decide ((β i:Int)<β r)=bb
       cases bb<;>rfl
 ·left
  have e:i=m:=by omega
  subst e
  refine ⟨b,hI,fun rec=>?_⟩
  simp only[gb,z8 (show ¬ (i:Int)<i by omega),cF]
theorem je {n:Nat} {f:Nat->Int} {B:Int} (h:∀i,i<n-> -B<=f i/\f i<=B): -(n*B)<=sz n f/\sz n f<=n*B:=by
 induction n with
 | zero=>simp[sz]
 | succ n ih =>
  have h1:=ih fun i hi=>h i (by omega)
  have h2:=h n (by omega)
  simp only[sz]
  rw[show ((n+1:Nat):Int)*B=n*B+B by rw[show ((n+1:Nat):Int)=(n:Int)+1 by omega,Int.add_mul,Int.one_mul]]
  omega
theorem tc {m w:Nat} {T:Nat->Nat->Int} {β:Nat->Nat} {N j:Nat} {x1 x6:Int} {x3 x4:List Int} (hm:m<=1000) (hj:j<w) (hb:∀i,i<m-> -1125899906842624<=T i j/\T i j<=1125899906842624) :
  av (sN m w T,x1,ji m β,x3,x4,(N:Int),x6) (j:Int)=some (sz m fun i=>eD N (β i)*T i j):=by
 unfold av fP
 have hterm:∀i,i<m-> -1125899906842624<=eD N (β i)*T i j/\eD N (β i)*T i j<=1125899906842624:=fun i hi=>by
  have:=hb i hi
  unfold eD
  split<;>omega
 refine pX m (by omega) (fun i=>(sz i (fun k=>eD N (β k)*T k j),(i:Int),PUnit.unit)) _ (fun again i hi=>?_) (fun again=>?_)
 ·have h1:=je (n:=i) (f:=fun k=>eD N (β k)*T k j) (B:=1125899906842624) fun k hk=>hterm k (by omega)
  have h2:=hterm i hi
  have hi2:(i:Int)<=1000:=by omega
  have h3:(i:Int)*1125899906842624<=1000*1125899906842624:=z11 hi2 (by omega)
  simp only[gb,jc,ba,z9,z7 hi,z7 (show (i:Int)<m by omega),mZ hi,jN hi,aK,bJ hj,z7 hj,cT,bg (show i<=1000000 by omega)]
  have hT:=hb i hi
  by_cases e:N<=β i
  ·have e1:eD N (β i)*T i j=T i j:=by unfold eD;rw[if_pos e];omega
   rw[z7 (show (β i:Int)>=N by omega),cond_true,aG (by omega) (by omega)]
   simp only[sz,e1]
  ·have e1:eD N (β i)*T i j=0:=by unfold eD;rw[if_neg e];omega
   rw[z8 (show ¬ (β i:Int)>=N by omega),cond_false]
   simp only[sz,e1,Int.add_zero]
 ·simp only[gb,z8 (show ¬ (m:Int)<m by omega),cF]
def jp (cs:List Int) (j:Nat):Int:=cs.getD j 0
theorem xx {M:List (List Int)} {x1:Int} {x2 x3 cs:List Int} {x5 x6:Int} {j:Nat}:aH (M,x1,x2,x3,cs,x5,x6) (j:Int)=some (jp cs j):=by
 unfold jp
 simp only[aH,iC,ba,z9]
 by_cases h:j<cs.length
 ·rw[z7 h,z7 (show (j:Int)<cs.length by omega)];rfl
 ·rw[z8 (show ¬ (j:Int)<cs.length by omega),cond_false,List.getD_eq_getElem?_getD,List.getElem?_eq_none (by omega)];rfl
theorem FC {m w:Nat} {T:Nat->Nat->Int} {d:Int} {β:Nat->Nat} {j:Nat} {x3 cs:List Int} {x5 x6:Int} (hm:m<=1000) (hj:j<w) (hd: -1125899906842624<=jp cs j*d/\jp cs j*d<=1125899906842624)
  (hb:∀i,i<m-> -1125899906842624<=jp cs (β i)*T i j/\jp cs (β i)*T i j<=1125899906842624) :
  bK (sN m w T,d,ji m β,x3,cs,x5,x6) (j:Int)=some (zr m (jp cs) ⟨T,d,β⟩ j):=by
 unfold bK gD
 rw[xx,obN]
 refine di m (by omega) (fun i=>(jp cs j*d - sz i (fun k=>jp cs (β k)*T k j),(i:Int),PUnit.unit)) _ ?_ (fun again i hi=>?_) (fun again=>?_)
 ·simp only[sz,Int.sub_zero]
  rw[aG (by omega) (by omega)]
  rfl
 ·have h1:=je (n:=i) (f:=fun k=>jp cs (β k)*T k j) (B:=1125899906842624) fun k hk=>hb k (by omega)
  have h2:=hb i hi
  have hi2:(i:Int)<=1000:=by omega
  have h3:(i:Int)*1125899906842624<=1000*1125899906842624:=z11 hi2 (by omega)
  simp only[gb,jc,ba,z9,z7 hi,z7 (show (i:Int)<m by omega),mZ hi,jN hi,aK,bJ hj,z7 hj,cT,bg (show i<=1000000 by omega),xx,aa]
  rw[aG (x:=jp cs (β i)*T i j) (by omega) (by omega),aG (by omega) (by omega)]
  simp only[sz]
  congr 2
  omega
 ·simp only[gb,z8 (show ¬ (m:Int)<m by omega),cF]
  rfl
structure Bnd (L:Lin) (Y:Lay):Prop where
 ok:Y.ok L
 m:L.m<=12
 w:Y.w L<=64
 P:L.F0*L.P<=17592186044416
theorem rK {x:Int}:ab x=x.natAbs:=rfl
section
variable {L:Lin} {Y:Lay}
theorem Bnd.P' (h:Bnd L Y):L.P<=17592186044416:=by
 have h1:=L.F0_pos
 have h2:=L.P_pos
 have h3:1*L.P<=L.F0*L.P:=z11 h1 (by omega)
 have:=h.P
 omega
theorem Bnd.tab (h:Bnd L Y) {T:Nat->Nat->Int} {d:Int} {β:Nat->Nat} (ht:Tb L.m (Y.w L) (Y.M L) T d β):(0<d/\d<=17592186044416)/\∀i j,i<L.m->j<Y.w L->(T i j).natAbs<=17592186044416:=by
 obtain ⟨h1,h2⟩:=rc h.ok ht
 have h3:=h.P'
 refine ⟨⟨ht.dpos,by omega⟩,fun i j hi hj=>?_⟩
 have:=h2 i j hi hj
 rw[rK] at this
 omega
theorem Lo (j:Nat):(cg L j).natAbs<=L.F0 - 1:=by
 unfold cg Lin.F0
 have h0:0<=sz L.n fun j=>ab (L.c j):=ig fun j _=>bN _
 split
 ·rename_i hj
  have h1:(sz L.n fun i=>if i=j then ab (L.c j) else 0)<=sz L.n fun j=>ab (L.c j):=oD fun i _=>by
   by_cases e:i=j
   ·rw[if_pos e,e];exact Int.le_refl _
   ·rw[if_neg e];exact bN _
  rw[fj hj fun i _ hne=>if_neg hne,if_pos rfl,rK] at h1
  omega
 ·simp only[Int.natAbs_zero]
  omega
theorem Bnd.cost (h:Bnd L Y) {x:Int} (hx:(x.natAbs:Int)<=L.P) (j:Nat): -17592186044416<=cg L j*x/\cg L j*x<=17592186044416:=by
 have h1:=Lo (L:=L) j
 have h2:((cg L j*x).natAbs:Int)<=L.F0*L.P:=by
  rw[Int.natAbs_mul,Int.natCast_mul]
  refine Int.le_trans (Int.mul_le_mul (show ((cg L j).natAbs:Int)<=L.F0 by omega) hx (by omega) (by omega)) (Int.le_refl _)
 have:=h.P
 omega
theorem Bnd.tabP (h:Bnd L Y) {T:Nat->Nat->Int} {d:Int} {β:Nat->Nat} (ht:Tb L.m (Y.w L) (Y.M L) T d β):(d.natAbs:Int)<=L.P/\∀i j,i<L.m->j<Y.w L->((T i j).natAbs:Int)<=L.P:=by
 obtain ⟨h1,h2⟩:=rc h.ok ht
 have:=ht.dpos
 exact ⟨by omega,fun i j hi hj=>h2 i j hi hj⟩
theorem S6 (x:Int) (y:Int):(sg x*y).natAbs=y.natAbs:=by unfold sg;split<;>omega
theorem Bnd.piv (h:Bnd L Y) {T:Nat->Nat->Int} {d:Int} {β:Nat->Nat} (ht:Tb L.m (Y.w L) (Y.M L) T d β) {r c:Nat} (hr:r<L.m) (hc:c<Y.w L) (he:T r c≠0):PivOk L.m (Y.w L) T d r c:=by
 obtain ⟨h1,h2⟩:=h.tab ht
 obtain ⟨h3,h4⟩:=h.tab (ht.step hr hc he)
 have:=h.m
 have:=h.w
 refine ⟨by omega,by omega,hr,hc,by omega,fun i j hi hj=>by have:=h2 i j hi hj;omega,fun i j hi hne hj=>jy ht hr hi (Ne.symm hne) hc hj,fun i j hi hne hj=>?_⟩
 have h5:=h4 i j hi hj
 unfold oo at h5
 rw[if_neg hne,S6] at h5
 omega
def AZ (L:Lin) (Y:Lay) (S:Sx):Prop:=∀i,i<L.m->Y.N<=S.β i->(∀j,j<Y.N->S.T i j=0)/\S.T i (Y.R L)=0
theorem AZ.art (S:Sx) (h:AZ L Y S):D6 L.m Y.N S (Y.R L):=fun i hi hN=>(h i hi hN).2
theorem AZ.col (S:Sx) (h:AZ L Y S) {q:Nat} (hq:q<Y.N):D6 L.m Y.N S q:=fun i hi hN=>(h i hi hN).1 q hq
def lW (S:Sx) (r c:Nat):Sx:=⟨oo S.T S.d r c,sg (S.T r c)*S.T r c,upd S.β r c⟩
theorem CU {m w:Nat} {S:Sx} {r c:Nat} (hp:0<S.T r c):StepAt m w S (lW S r c) r c:=by
 have e:sg (S.T r c)=1:=by unfold sg;rw[if_neg (by omega)]
 refine ⟨fun i j _ _=>?_,?_,fun i _=>rfl⟩
 ·show oo S.T S.d r c i j=_
  unfold oo
  rw[e,Int.one_mul]
 ·show sg (S.T r c)*S.T r c=_
  rw[e,Int.one_mul]
theorem AZ.step {S:Sx} (h:AZ L Y S) {r c:Nat} (hc:c<Y.N):AZ L Y (lW S r c):=fun i hi hN=>by
 have hb:(lW S r c).β i=upd S.β r c i:=rfl
 rw[hb] at hN
 unfold upd at hN
 by_cases e:i=r
 ·rw[if_pos e] at hN;omega
 ·rw[if_neg e] at hN
  obtain ⟨h1,h2⟩:=h i hi hN
  have hT:∀j,(lW S r c).T i j=sg (S.T r c)*Dn.piv S.T S.d r c i j:=fun j=>by
   show oo S.T S.d r c i j=_
   unfold oo
   rw[if_neg e]
  have hz:∀j,S.T i j=0->Dn.piv S.T S.d r c i j=0:=fun j hj=>by
   unfold Dn.piv
   rw[hj,h1 c hc,Int.mul_zero,Int.zero_mul,Int.sub_zero,Int.zero_ediv]
  exact ⟨fun j hj=>by rw[hT,hz j (h1 j hj),Int.mul_zero],by rw[hT,hz _ h2,Int.mul_zero]⟩
abbrev oh (L:Lin) (Y:Lay) (x3 cs:List Int) (S:Sx):(List Nat×List (Option (List Int)))×Int×List Int×List Int×List Int×Int×Int×PUnit:=(iY L.m (Y.w L) S.T,S.d,ji L.m S.β,x3,cs,(Y.N:Int),((Y.R L:Nat):Int),PUnit.unit)
theorem GM (h:Bnd L Y) (hp:(Y.w L) ^ L.m<=1180591620717411303424) {x3 cs:List Int} (hcs:∀j,jp cs j=cg L j) {S:Sx} (hv:Y.Val L S) (ha:AZ L Y S) :
  ∃S' ok,bB (iY L.m (Y.w L) S.T) S.d (ji L.m S.β) x3 cs (Y.N:Int) ((Y.R L:Nat):Int)=some (iY L.m (Y.w L) S'.T,S'.d,ji L.m S'.β,x3,cs,(Y.N:Int),((Y.R L:Nat):Int),ok,())/\Y.Val L S'/\AZ L Y S' /\
   (ok=true->∀j,j<Y.N->0<=zr L.m (cg L) S' j)/\(ok=false->∃q,q<Y.N/\zr L.m (cg L) S' q<0/\∀i,i<L.m->S'.T i q<=0):=by
 have hcs':jp cs=cg L:=funext hcs
 have hm:=h.m
 have hw:=h.w
 have hN:Y.N<=Y.R L:=by unfold Lay.R;omega
 have hRw:Y.R L<Y.w L:=by unfold Lay.R Lay.w;omega
 unfold bB gE
 have fin:∀{x:Option ((List Nat×List (Option (List Int)))×Int×List Int×List Int×List Int×Int×Int×Bool×Unit)},(∃r,x=some r/\∃S' ok,r=(iY L.m (Y.w L) S'.T,S'.d,ji L.m S'.β,x3,cs,(Y.N:Int),((Y.R L:Nat):Int),ok,PUnit.unit)/\Y.Val L S'/\AZ L Y S' /\
   (ok=true->∀j,j<Y.N->0<=zr L.m (cg L) S' j)/\(ok=false->∃q,q<Y.N/\zr L.m (cg L) S' q<0/\∀i,i<L.m->S'.T i q<=0))->∃S' ok,x=some (iY L.m (Y.w L) S'.T,S'.d,ji L.m S'.β,x3,cs,(Y.N:Int),((Y.R L:Nat):Int),ok,())/\Y.Val L S'/\AZ L Y S' /\
   (ok=true->∀j,j<Y.N->0<=zr L.m (cg L) S' j)/\(ok=false->∃q,q<Y.N/\zr L.m (cg L) S' q<0/\∀i,i<L.m->S'.T i q<=0):=by
  rintro x ⟨r,h1,S',ok,rfl,h3⟩
  exact ⟨S',ok,h1,h3⟩
 refine fin (PE (γ:=Sx) (I:=fun (S:Sx) x=>x=oh L Y x3 cs S/\Y.Val L S/\AZ L Y S)
  (Q:=fun r=>∃S' ok,r=(iY L.m (Y.w L) S'.T,S'.d,ji L.m S'.β,x3,cs,(Y.N:Int),((Y.R L:Nat):Int),ok,PUnit.unit)/\Y.Val L S'/\AZ L Y S' /\
   (ok=true->∀j,j<Y.N->0<=zr L.m (cg L) S' j)/\(ok=false->∃q,q<Y.N/\zr L.m (cg L) S' q<0/\∀i,i<L.m->S'.T i q<=0))
  (μ:=fun S=>left L.m (Y.w L) Y.N (Y.R L) (Y.M L) (cg L) S) ?_ (s:=S) ⟨rfl,hv,ha⟩ (Nat.lt_of_lt_of_le (Hu (by unfold Lay.w;omega) S) hp))
 rintro S _ ⟨rfl,hv,ha⟩
 obtain ⟨hd,hb⟩:=h.tabP hv.tb
 have hred:∀j,j<Y.N->bK (sN L.m (Y.w L) S.T,S.d,ji L.m S.β,x3,cs,(Y.N:Int),((Y.R L:Nat):Int)) (j:Int)=some (zr L.m (cg L) S j):=fun j hj=>by
  have hjw:j<Y.w L:=by omega
  have:=FC (m:=L.m) (w:=Y.w L) (T:=S.T) (d:=S.d) (β:=S.β) (j:=j) (x3:=x3) (cs:=cs) (x5:=(Y.N:Int)) (x6:=((Y.R L:Nat):Int)) (by omega) hjw
   (by rw[hcs'];have:=h.cost hd j;omega) (fun i hi=>by rw[hcs'];have:=h.cost (hb i j hi hjw) (S.β i);omega)
  rw[this,hcs']
 rcases uA Y.N (fun j=>decide (zr L.m (cg L) S j<0)) with hnone | ⟨q,hq,hneg,hleast⟩
 ·left
  refine ⟨_,⟨S,true,rfl,hv,ha,fun _ j hj=>by have:=of_decide_eq_false (hnone j hj);omega,fun e=>by cases e⟩,fun rec=>?_⟩
  refine pX Y.N (by omega) (fun j=>((-1:Int),(j:Int),PUnit.unit)) _ (fun again j hj=>?_) (fun again=>?_)
  ·simp only[aM,cT,z7 (show (j:Int)<Y.N by omega),show decide ((-1:Int)<0)=true from rfl,gV,gS,hred j hj,aa,hnone j hj,cF,bg (show j<=1000000 by omega)]
  ·simp only[aM,cT,cF,z8 (show ¬ (Y.N:Int)<Y.N by omega),show decide ((-1:Int)<0)=true from rfl]
 ·have hneg:=z12 hneg
  have hqw:q<Y.w L:=by omega
  have hent:Enters L.m Y.N (cg L) S q:=⟨hq,hneg,fun j hj=>by have:=of_decide_eq_false (hleast j hj);omega⟩
  have hbb:∀i j,i<L.m->j<Y.w L->(S.T i j).natAbs<4611686018427387904:=fun i j hi hj=>by have:=(h.tab hv.tb).2 i j hi hj;omega
  obtain ⟨b,hl1,hl2⟩:=xM (m:=L.m) (w:=Y.w L) (T:=S.T) (d:=S.d) (β:=S.β) (c:=q) (R:=Y.R L) (x1:=S.d) (x3:=x3) (x4:=cs) (x5:=(Y.N:Int)) (by omega) hqw hRw hbb
  have search:∀{R:Type} {F:(Int×Int×PUnit->Option R)->Int×Int×PUnit->Option R} {res:Option R},(∀again j,j<q->F again ((-1:Int),(j:Int),PUnit.unit)=again ((-1:Int),((j+1:Nat):Int),PUnit.unit)) ->
    (∀again,F again ((-1:Int),(q:Int),PUnit.unit)=again ((q:Int),((q+1:Nat):Int),PUnit.unit))->(∀again,F again ((q:Int),((q+1:Nat):Int),PUnit.unit)=res)->lpK (Int×Int×PUnit) R F ((-1:Int),(0:Int),PUnit.unit)=res:=fun h1 h2 h3=>by
   refine di (q+1) (by omega) (fun j=>if j<=q then ((-1:Int),(j:Int),PUnit.unit) else ((q:Int),(j:Int),PUnit.unit)) _ (by rw[if_pos (by omega)];rfl) (fun again j hj=>?_) (fun again=>?_)
   ·by_cases e:j=q
    ·subst e
     rw[if_pos (by omega),if_neg (by omega)]
     exact h2 again
    ·rw[if_pos (by omega),if_pos (by omega)]
     exact h1 again j (by omega)
   ·rw[if_neg (by omega)]
    exact h3 again
  rcases hl2 with ⟨e,hno⟩ | ⟨r,e,hlv⟩
  ·subst e
   left
   refine ⟨_,⟨S,false,rfl,hv,ha,fun e=>(by cases e),fun _=>⟨q,hq,hneg,hno⟩⟩,fun rec=>?_⟩
   refine search (fun again j hj=>?_) (fun again=>?_) (fun again=>?_)
   ·simp only[aM,cT,z7 (show (j:Int)<Y.N by omega),show decide ((-1:Int)<0)=true from rfl,gV,gS,hred j (by omega),aa,hleast j hj,cF,bg (show j<=1000000 by omega)]
   ·simp only[aM,cT,z7 (show (q:Int)<Y.N by omega),show decide ((-1:Int)<0)=true from rfl,gV,gS,hred q hq,aa,z7 hneg,bg (show q<=1000000 by omega)]
   ·simp only[aM,cT,z8 (show ¬ (q:Int)<0 by omega),jl,Bool.and_false,cF,gV,gS,hl1,aa,show decide ((-1:Int)<0)=true from rfl]
  ·subst e
   right
   have hpr:0<S.T r q:=hlv.pos
   have hr:=hlv.lt
   have hs:=CU (m:=L.m) (w:=Y.w L) hpr
   refine ⟨lW S r q,oh L Y x3 cs (lW S r q),⟨rfl,hv.stepAt hRw hqw (by omega) hlv hs,ha.step hq⟩,Az (Lay.art h.ok).1 (Lay.art h.ok).2 hN hRw hv ⟨hent,hlv,hs⟩,fun rec=>?_⟩
   refine search (fun again j hj=>?_) (fun again=>?_) (fun again=>?_)
   ·simp only[aM,cT,z7 (show (j:Int)<Y.N by omega),show decide ((-1:Int)<0)=true from rfl,gV,gS,hred j (by omega),aa,hleast j hj,cF,bg (show j<=1000000 by omega)]
   ·simp only[aM,cT,z7 (show (q:Int)<Y.N by omega),show decide ((-1:Int)<0)=true from rfl,gV,gS,hred q hq,aa,z7 hneg,bg (show q<=1000000 by omega)]
   ·simp only[aM,cT,z8 (show ¬ (q:Int)<0 by omega),jl,Bool.and_false,cF,gV,gS,hl1,aa,z8 (show ¬ (r:Int)<0 by omega),zm (h.piv hv.tb hr hqw (show S.T r q≠0 by omega))]
    rfl
end
section
variable {L:Lin} {Y:Lay}
theorem Val.flat {S:Sx} (hv:Y.Val L S) {r c:Nat} (hr:r<L.m) (hc:c<Y.N) (he:S.T r c≠0) (h0:S.T r (Y.R L)=0):Y.Val L (lW S r c):=by
 have hcw:c<Y.w L:=by unfold Lay.w;omega
 have hRw:Y.R L<Y.w L:=by unfold Lay.R Lay.w;omega
 have hd:=hv.tb.dpos
 refine ⟨hv.tb.step hr hcw he,fun i hi=>?_,fun i hi=>?_⟩
 ·show 0<=oo S.T S.d r c i (Y.R L)
  unfold oo
  by_cases e:i=r
  ·rw[if_pos e,h0,Int.mul_zero];exact Int.le_refl _
  ·rw[if_neg e]
   have h1:=jy hv.tb hr hi (Ne.symm e) hcw hRw
   rw[h0,Int.mul_zero,Int.sub_zero] at h1
   have h2:0<=sg (S.T r c)*S.T r c*S.T i (Y.R L):=Int.mul_nonneg (Int.le_of_lt (Kx he)) (hv.feas i hi)
   rw[Int.mul_assoc,<-h1] at h2
   have h3:sg (S.T r c)*(S.d*Dn.piv S.T S.d r c i (Y.R L))=S.d*(sg (S.T r c)*Dn.piv S.T S.d r c i (Y.R L)):=by grind
   rw[h3] at h2
   exact Int.nonneg_of_mul_nonneg_right h2 hd
 ·show upd S.β r c i≠_
  unfold upd
  split
  ·unfold Lay.R;omega
  ·exact hv.ne i hi
theorem Em {T:Nat->Nat->Int} {d:Int} {r c i j:Nat} (h1:T i j=0) (h2:T i c=0\/T r j=0):Dn.piv T d r c i j=0:=by
 unfold Dn.piv
 rw[h1,Int.mul_zero]
 rcases h2 with h | h
 ·rw[h,Int.zero_mul,Int.sub_zero,Int.zero_ediv]
 ·rw[h,Int.mul_zero,Int.sub_zero,Int.zero_ediv]
structure Swp (L:Lin) (Y:Lay) (i:Nat) (S:Sx):Prop where
 val:Y.Val L S
 right:∀k,k<L.m->Y.N<=S.β k->S.T k (Y.R L)=0
 rows:∀k,k<L.m->k<i->Y.N<=S.β k->∀j,j<Y.N->S.T k j=0
theorem Swp.step {i:Nat} {S:Sx} (h:Swp L Y i S) {j:Nat} (hi:i<L.m) (hj:j<Y.N) (hN:Y.N<=S.β i) (he:S.T i j≠0):Swp L Y i (lW S i j):=by
 have h0:=h.right i hi hN
 have up:∀k,k≠i->(lW S i j).β k=S.β k:=fun k hk=>by
  show upd S.β i j k=_
  unfold upd
  rw[if_neg hk]
 have ui:(lW S i j).β i=j:=by
  show upd S.β i j i=_
  unfold upd
  rw[if_pos rfl]
 have hT:∀k l,k≠i->(lW S i j).T k l=sg (S.T i j)*Dn.piv S.T S.d i j k l:=fun k l hk=>by
  show oo S.T S.d i j k l=_
  unfold oo
  rw[if_neg hk]
 refine ⟨Val.flat h.val hi hj he h0,fun k hk hb=>?_,fun k hk hlt hb l hl=>?_⟩
 ·have e:k≠i:=fun e=>by rw[e,ui] at hb;omega
  rw[up k e] at hb
  rw[hT k _ e,Em (h.right k hk hb) (.inr h0),Int.mul_zero]
 ·have e:k≠i:=by omega
  rw[up k e] at hb
  rw[hT k _ e,Em (h.rows k hk hlt hb l hl) (.inl (h.rows k hk hlt hb j hj)),Int.mul_zero]
def CC (L:Lin) (Y:Lay) (x3 cs:List Int) (o:Option ((List Nat×List (Option (List Int)))×Int×List Int×List Int×List Int×Int×Int×Bool×Unit)):Prop :=
 ∃S' ok,o=some (iY L.m (Y.w L) S'.T,S'.d,ji L.m S'.β,x3,cs,(Y.N:Int),((Y.R L:Nat):Int),ok,PUnit.unit)/\Y.Val L S' /\
   (ok=true->AZ L Y S')/\(ok=false->(∀j,j<Y.N->0<=zr L.m (eD Y.N) S' j)/\0<sz L.m fun i=>eD Y.N (S'.β i)*S'.T i (Y.R L))
theorem EM (h:Bnd L Y) (hp:(Y.w L) ^ L.m<=1180591620717411303424) {x3 cs:List Int} {S:Sx} (hv:Y.Val L S) :
  CC L Y x3 cs (aL (iY L.m (Y.w L) S.T) S.d (ji L.m S.β) x3 cs (Y.N:Int) ((Y.R L:Nat):Int)):=by
 have hm:=h.m
 have hw:=h.w
 have hN:Y.N<=Y.R L:=by unfold Lay.R;omega
 have hRw:Y.R L<Y.w L:=by unfold Lay.R Lay.w;omega
 unfold aL im
 refine xw (γ:=Sx) (I:=fun (S:Sx) x=>x=oh L Y x3 cs S/\Y.Val L S)
  (Q:=CC L Y x3 cs)
  (μ:=fun S=>left L.m (Y.w L) Y.N (Y.R L) (Y.M L) (eD Y.N) S) ?_ (s:=S) ⟨rfl,hv⟩ (Nat.lt_of_lt_of_le (Hu (by unfold Lay.w;omega) S) hp)
 rintro rec S _ ⟨rfl,hv⟩
 obtain ⟨hd,hb⟩:=h.tab hv.tb
 have hbb:∀i j,i<L.m->j<Y.w L->(S.T i j).natAbs<4611686018427387904:=fun i j hi hj=>by have:=hb i j hi hj;omega
 have hart:∀j,j<Y.w L->av (sN L.m (Y.w L) S.T,S.d,ji L.m S.β,x3,cs,(Y.N:Int),((Y.R L:Nat):Int)) (j:Int)=some (sz L.m fun i=>eD Y.N (S.β i)*S.T i j):=fun j hj =>
  tc (by omega) hj fun i hi=>by have:=hb i j hi hj;omega
 have hz:∀j,j<Y.N->zr L.m (eD Y.N) S j= - sz L.m fun i=>eD Y.N (S.β i)*S.T i j:=fun j hj=>by
  unfold zr
  rw[show eD Y.N j=0 from if_neg (by omega),Int.zero_mul,Int.zero_sub]
 rcases uA Y.N (fun j=>decide ((sz L.m fun i=>eD Y.N (S.β i)*S.T i j)>0)) with hnone | ⟨q,hq,hneg,hleast⟩
 ·left
  have search:∀{R:Type} {F:(Int×Int×PUnit->Option R)->Int×Int×PUnit->Option R} {Q:Option R->Prop},(∀again j,j<Y.N->F again ((-1:Int),(j:Int),PUnit.unit)=again ((-1:Int),((j+1:Nat):Int),PUnit.unit)) ->
    (∃res,Q res/\∀again,F again ((-1:Int),(Y.N:Int),PUnit.unit)=res)->Q (lpK (Int×Int×PUnit) R F ((-1:Int),(0:Int),PUnit.unit)):=fun {R} {F} {Q} h1 h3=>by
   obtain ⟨res,h4,h5⟩:=h3
   have e:lpK (Int×Int×PUnit) R F ((-1:Int),(0:Int),PUnit.unit)=res:=di Y.N (by omega) (fun j=>((-1:Int),(j:Int),PUnit.unit)) res rfl h1 h5
   rw[e]
   exact h4
  refine search (Q:=CC L Y x3 cs) (fun again j hj=>?_) ?_
  ·simp only[aM,cT,z7 (show (j:Int)<Y.N by omega),show decide ((-1:Int)<0)=true from rfl,gV,gS,hart j (by omega),aa,hnone j hj,cF,bg (show j<=1000000 by omega)]
  ·simp only[aM,cT,cF,z8 (show ¬ (Y.N:Int)<Y.N by omega),show decide ((-1:Int)<0)=true from rfl,gV,gS,hart _ hRw,aa]
   have hzr:∀j,j<Y.N->0<=zr L.m (eD Y.N) S j:=fun j hj=>by
    rw[hz j hj]
    have:=of_decide_eq_false (hnone j hj)
    omega
   by_cases hpos:(sz L.m fun i=>eD Y.N (S.β i)*S.T i (Y.R L))>0
   ·rw[z7 hpos]
    simp only[cT]
    exact ⟨_,⟨S,false,rfl,hv,fun e=>(by cases e),fun _=>⟨hzr,hpos⟩⟩,fun _=>rfl⟩
   ·rw[z8 hpos]
    simp only[cF]
    refine ⟨_,?_,fun _=>rfl⟩
    have hnn:∀i,i<L.m->0<=eD Y.N (S.β i)*S.T i (Y.R L):=fun i hi=>Int.mul_nonneg (by unfold eD;split<;>omega) (hv.feas i hi)
    have hS:Swp L Y 0 S:=by
     refine ⟨hv,fun k hk hNk=>?_,fun k _ h0=>by omega⟩
     have h1:(sz L.m fun i=>if i=k then eD Y.N (S.β k)*S.T k (Y.R L) else 0)<=sz L.m fun i=>eD Y.N (S.β i)*S.T i (Y.R L):=oD fun i hi=>by
      by_cases e:i=k
      ·rw[if_pos e,e];exact Int.le_refl _
      ·rw[if_neg e];exact hnn i hi
     rw[fj hk fun i _ hne=>if_neg hne,if_pos rfl] at h1
     have h2:=hnn k hk
     have h3:eD Y.N (S.β k)=1:=if_pos hNk
     rw[h3,Int.one_mul] at h1 h2
     omega
    refine xw (γ:=Nat×Sx) (I:=fun g x=>x=((g.1:Int),oh L Y x3 cs g.2)/\g.1<=L.m/\Swp L Y g.1 g.2)
     (Q:=CC L Y x3 cs)
     (μ:=fun g=>L.m - g.1) ?_ (s:=(0,S)) ⟨rfl,by omega,hS⟩ (by simp only;omega)
    rintro rec2 ⟨i,S⟩ _ ⟨rfl,hi,hS⟩
    simp only at hi hS
    by_cases hlt:i<L.m
    ·right
     simp only[gX,z7 (show (i:Int)<L.m by omega),cT]
     have inner:∀{R:Type} {F:(Int×(List Nat×List (Option (List Int)))×Int×List Int×List Int×List Int×Int×Int×PUnit->Option R)->Int×(List Nat×List (Option (List Int)))×Int×List Int×List Int×List Int×Int×Int×PUnit->Option R} {k:(Int×(List Nat×List (Option (List Int)))×Int×List Int×List Int×List Int×Int×Int×PUnit->Option R)},
       (∀again (j:Nat) S,Swp L Y i S->j<=Y.N->(j<Y.N->Y.N<=S.β i->S.T i j=0->F again ((j:Int),oh L Y x3 cs S)=again (((j+1:Nat):Int),oh L Y x3 cs S))/\(j<Y.N->Y.N<=S.β i->S.T i j≠0->F again ((j:Int),oh L Y x3 cs S)=again (((j+1:Nat):Int),oh L Y x3 cs (lW S i j))) /\
        (¬ (j<Y.N/\Y.N<=S.β i)->F again ((j:Int),oh L Y x3 cs S)=k (((i+1:Nat):Int),oh L Y x3 cs S))) ->
       ∃S',Swp L Y (i+1) S'/\lpK _ R F ((0:Int),oh L Y x3 cs S)=k (((i+1:Nat):Int),oh L Y x3 cs S'):=fun {R} {F} {k} hF=>by
      refine xw (γ:=Nat×Sx) (I:=fun g x=>x=((g.1:Int),oh L Y x3 cs g.2)/\g.1<=Y.N/\Swp L Y i g.2/\(Y.N<=g.2.β i->∀l,l<g.1->g.2.T i l=0))
       (Q:=fun o=>∃S',Swp L Y (i+1) S'/\o=k (((i+1:Nat):Int),oh L Y x3 cs S')) (μ:=fun g=>Y.N - g.1) ?_ (s:=(0,S)) ⟨rfl,by omega,hS,fun _ l hl=>by omega⟩ (by simp only;omega)
      rintro rec3 ⟨j,S⟩ _ ⟨rfl,hj,hS,hz⟩
      simp only at hj hS hz
      obtain ⟨f1,f2,f3⟩:=hF rec3 j S hS hj
      by_cases hc:j<Y.N/\Y.N<=S.β i
      ·right
       by_cases h0:S.T i j=0
       ·refine ⟨(j+1,S),_,⟨rfl,by simp only;omega,hS,fun hN l hl=>?_⟩,by simp only;omega,f1 hc.1 hc.2 h0⟩
        simp only at hl
        by_cases e:l=j
        ·rw[e];exact h0
        ·exact hz hN l (by omega)
       ·refine ⟨(j+1,lW S i j),_,⟨rfl,by simp only;omega,hS.step hlt hc.1 hc.2 h0,fun hN=>?_⟩,by simp only;omega,f2 hc.1 hc.2 h0⟩
        have e:(lW S i j).β i=j:=by
         show upd S.β i j i=_
         unfold upd
         rw[if_pos rfl]
        rw[e] at hN
        omega
      ·left
       refine ⟨S,⟨hS.val,hS.right,fun k hk hlt' hN l hl=>?_⟩,f3 hc⟩
       by_cases e:k=i
       ·subst e
        exact hz hN l (by omega)
       ·exact hS.rows k hk (by omega) hN l hl
     have fin:∀{o},(∃S',Swp L Y (i+1) S'/\o=rec2 (((i+1:Nat):Int),oh L Y x3 cs S'))->∃(g:Nat×Sx) (y:_),(y=((g.1:Int),oh L Y x3 cs g.2)/\g.1<=L.m/\Swp L Y g.1 g.2)/\L.m - g.1<L.m - i/\o=rec2 y:=by
      rintro o ⟨S',h1,h2⟩
      exact ⟨(i+1,S'),_,⟨rfl,by simp only;omega,h1⟩,by simp only;omega,h2⟩
     refine fin (inner (fun again j S hS hj=>⟨fun c1 c2 c3=>?_,fun c1 c2 c3=>?_,fun c1=>?_⟩))
     ·have hjw:j<Y.w L:=by omega
      simp only[oh,z7 (show (j:Int)<Y.N by omega),jc,ba,z9,z7 hlt,dD (show Nat.succ i<=L.m from hlt),jN hlt,z7 (show (S.β i:Int)>=Y.N by omega),Bool.not_true,Bool.or_true,Bool.and_self,cT,gX,lw hlt,jU,gB hlt,aK,bJ hjw,z7 hjw,dD (show Nat.succ j<=Y.w L from hjw),z7 c3,cF,bg (show j<=1000000 by omega)]
     ·have hjw:j<Y.w L:=by omega
      simp only[oh,z7 (show (j:Int)<Y.N by omega),jc,ba,z9,z7 hlt,dD (show Nat.succ i<=L.m from hlt),jN hlt,z7 (show (S.β i:Int)>=Y.N by omega),Bool.not_true,Bool.not_false,Bool.or_true,Bool.and_self,cT,gX,lw hlt,jU,gB hlt,aK,bJ hjw,z7 hjw,dD (show Nat.succ j<=Y.w L from hjw),z8 c3,bg (show j<=1000000 by omega),
       zm (h.piv hS.val.tb hlt hjw c3),aa]
      rfl
     ·by_cases c2:j<Y.N
      ·simp only[oh,z7 (show (j:Int)<Y.N by omega),jc,ba,z9,z7 hlt,dD (show Nat.succ i<=L.m from hlt),jN hlt,z8 (show ¬ (S.β i:Int)>=Y.N by omega),Bool.not_true,Bool.or_true,Bool.and_self,cT,cF,bg (show i<=1000000 by omega)]
      ·simp only[oh,z8 (show ¬ (j:Int)<Y.N by omega),Bool.not_false,Bool.true_or,Bool.and_self,cT,cF,bg (show i<=1000000 by omega)]
    ·left
     have e:i=L.m:=by omega
     subst e
     simp only[gX,z8 (show ¬ (L.m:Int)<L.m by omega),cF]
     exact ⟨S,true,rfl,hS.val,fun _ k hk hN=>⟨hS.rows k hk hk hN,hS.right k hk hN⟩,fun e=>by cases e⟩
 ·have hneg:=z12 hneg
  have hqw:q<Y.w L:=by omega
  have hent:Enters L.m Y.N (eD Y.N) S q:=⟨hq,by rw[hz q hq];omega,fun j hj=>by rw[hz j (by omega)];have:=of_decide_eq_false (hleast j hj);omega⟩
  obtain ⟨b,hl1,hl2⟩:=xM (m:=L.m) (w:=Y.w L) (T:=S.T) (d:=S.d) (β:=S.β) (c:=q) (R:=Y.R L) (x1:=S.d) (x3:=x3) (x4:=cs) (x5:=(Y.N:Int)) (by omega) hqw hRw hbb
  rcases hl2 with ⟨e,hno⟩ | ⟨r,e,hlv⟩
  ·exfalso
   have h1:(sz L.m fun i=>eD Y.N (S.β i)*S.T i q)<=sz L.m fun _=>0:=oD fun i hi=>by
    have:=hno i hi
    unfold eD
    split<;>omega
   rw[gy (f:=fun _=>0) fun _ _=>rfl] at h1
   omega
  ·subst e
   right
   have hpr:0<S.T r q:=hlv.pos
   have hr:=hlv.lt
   have hs:=CU (m:=L.m) (w:=Y.w L) hpr
   refine ⟨lW S r q,oh L Y x3 cs (lW S r q),⟨rfl,hv.stepAt hRw hqw (by omega) hlv hs⟩,Az (Lay.art h.ok).1 (Lay.art h.ok).2 hN hRw hv ⟨hent,hlv,hs⟩,?_⟩
   refine di (q+1) (by omega) (fun j=>if j<=q then ((-1:Int),(j:Int),PUnit.unit) else ((q:Int),(j:Int),PUnit.unit)) _ (by rw[if_pos (by omega)];rfl) (fun again j hj=>?_) (fun again=>?_)
   ·by_cases e:j=q
    ·subst e
     rw[if_pos (by omega),if_neg (by omega)]
     simp only[aM,cT,z7 (show (j:Int)<Y.N by omega),show decide ((-1:Int)<0)=true from rfl,gV,gS,hart j hqw,aa,z7 hneg,bg (show j<=1000000 by omega)]
    ·rw[if_pos (by omega),if_pos (by omega)]
     simp only[aM,cT,z7 (show (j:Int)<Y.N by omega),show decide ((-1:Int)<0)=true from rfl,gV,gS,hart j (by omega),aa,hleast j (by omega),cF,bg (show j<=1000000 by omega)]
   ·rw[if_neg (by omega)]
    simp only[aM,cT,z8 (show ¬ (q:Int)<0 by omega),jl,Bool.and_false,cF,gV,gS,hl1,aa,zm (h.piv hv.tb hr hqw (show S.T r q≠0 by omega))]
    rfl
open Tryz Dn Dn.Sh
def al (p:Pg):Lin:=⟨p.1.length,p.2.length,fun k j=>(p.2.getD k rw0).1.getD j 0,fun k=>(p.2.getD k rw0).2.2,fun j=>p.1.getD j 0,fun k=>(p.2.getD k rw0).2.1⟩
def fO (p:Pg):Nat->Nat
 | 0=>0
 | k+1=>fO p k+if (p.2.getD k rw0).2.1=3 then 0 else 1
def au (p:Pg):Lay:=⟨p.1.length+fO p p.2.length,fun k=>p.1.length+fO p k,fun k=>if (p.2.getD k rw0).2.2<0 then -1 else 1⟩
theorem se {p:Pg}:∀k,fO p k<=k
 | 0=>Nat.le_refl _
 | k+1=>by
  have:=se (p:=p) k
  simp only[fO]
  split<;>omega
theorem xq {p:Pg} {k:Nat}:∀{l:Nat},k<l->(p.2.getD k rw0).2.1≠3->fO p k<fO p l
 | 0,h,_=>by omega
 | l+1,h,h3=>by
  simp only[fO]
  by_cases e:k=l
  ·subst e
   rw[if_neg h3];omega
  ·have:=xq (l:=l) (by omega) h3
   split<;>omega
theorem mo {p:Pg} (hv:ValidP p):(au p).ok (al p):=by
 have row:∀k,k<p.2.length->p.2.getD k rw0 ∈ p.2:=fun k hk=>by rw[be hk];exact List.getElem_mem _
 refine ⟨Nat.le_add_right _ _,fun k hk=>?_,fun k hk h3=>⟨Nat.le_add_right _ _,?_⟩,fun k l hk hl h3 h4 e=>?_,fun k _=>?_,fun k _=>?_⟩
 ·have:=hv.kind _ (row k hk)
  show (p.2.getD k rw0).2.1=1\/(p.2.getD k rw0).2.1=2\/(p.2.getD k rw0).2.1=3
  omega
 ·have:=xq (p:=p) (k:=k) (l:=p.2.length) hk h3
  show p.1.length+fO p k<p.1.length+fO p p.2.length
  omega
 ·have e:p.1.length+fO p k=p.1.length+fO p l:=e
  rcases Nat.lt_trichotomy k l with h | h | h
  ·have:=xq (p:=p) h h3;omega
  ·exact h
  ·have:=xq (p:=p) h h4;omega
 ·show (if (p.2.getD k rw0).2.2<0 then (-1:Int) else 1)=1\/(if (p.2.getD k rw0).2.2<0 then (-1:Int) else 1)= -1
  split<;>omega
 ·show 0<=(if (p.2.getD k rw0).2.2<0 then (-1:Int) else 1)*(p.2.getD k rw0).2.2
  split<;>omega
theorem xH {p:Pg} (hv:ValidP p):(au p).w (al p)<=25/\(al p).m<=6:=by
 have h1:=se (p:=p) p.2.length
 have h2:=hv.rows
 have h3:=hv.cost.2
 refine ⟨?_,h2⟩
 show p.1.length+fO p p.2.length+p.2.length+1<=25
 omega
theorem mH {α:Type} {w:Nat} {f:Nat->α}:bE w f++[f w]=bE (w+1) f:=by
 unfold bE
 rw[List.range_succ,List.map_append]
 rfl
theorem FL {m w:Nat} {T:Nat->Nat->Int}:dU m w T++[some (bE w (T m))]=dU (m+1) w T:=by
 unfold dU
 rw[List.range_succ,List.map_append]
 rfl
theorem Kd {l:List Int} {w:Nat} (h:l.length<=w):List.take 0 (List.replicate w (0:Int))++List.take w l++List.drop (0+(List.take w l).length) (List.replicate w 0)=bE w fun j=>l.getD j 0:=by
 rw[List.take_of_length_le h]
 refine List.ext_getElem (by rw[aK];simp;omega) fun i h1 h2=>?_
 rw[xd]
 have hi:i<w:=by rw[aK] at h2;exact h2
 by_cases e:i<l.length
 ·rw[be e,List.getElem_append_left (by simp;exact e)]
  simp
 ·rw[List.getElem_append_right (by simp;omega),List.getD_eq_getElem?_getD,List.getElem?_eq_none (by omega)]
  simp
abbrev St:=Int×Int×(List Nat×List (Option (List Int)))×Int×List Int×List Int×List Int×Int×Int×PUnit
def QI {R:Type} (p:Pg) (again:St->Option R) (x:St) (x_1:Int×List Int×PUnit):Option R :=
 let v21:List Int×PUnit:=(x_1.2.1,PUnit.unit);jnK (Int×List Int×PUnit) R (fun (x_2:Int×List Int×PUnit)=>bif inB (IntKind.wrap .i64 (x.2.2.2.2.2.2.2.1+x.2.1)) (List.length x_2.2.1) then bif Nat.ble (Nat.succ (Int.toNat (IntKind.wrap .i64 (x.2.2.2.2.2.2.2.1+x.2.1)))) (List.length x_2.2.1) then bif dQ (List.length x.2.2.1.1+(1:Nat)) (24:Nat) then bif dQ (List.length x.2.2.2.2.2.1+(1:Nat)) (8:Nat) then bif dQ (List.length x.2.2.2.2.1+(1:Nat)) (8:Nat) then again (x_1.1,IntKind.wrap .i64 (x.2.1+(1:Int)),(x.2.2.1.1++[List.length x.2.2.1.2+(0:Nat)],x.2.2.1.2++[some (List.set x_2.2.1 (Int.toNat (IntKind.wrap .i64 (x.2.2.2.2.2.2.2.1+x.2.1))) (1:Int))]),x.2.2.2.1,x.2.2.2.2.1++[(IntKind.wrap .i64 (x.2.2.2.2.2.2.2.1+x.2.1))],x.2.2.2.2.2.1++[x_2.1],x.2.2.2.2.2.2.1,x.2.2.2.2.2.2.2.1,x.2.2.2.2.2.2.2.2.1,PUnit.unit) else none else none else none else none else none) fun (j:Int×List Int×PUnit->Option R)=>bif decide ((List.getD p.2 (Int.toNat x.2.1) ([],(0:Int),(0:Int))).2.2<(0:Int)) then lpK (Int×List Int×PUnit) R (fun (again:Int×List Int×PUnit->Option R) (x:Int×List Int×PUnit) =>
 let v25:Bool:=inB x.1 (List.length x.2.1);
 let v26:Bool:=Nat.ble (Nat.succ (Int.toNat x.1)) (List.length x.2.1);
 bif decide (x.1<(↑(List.length x_1.2.1):Int)) then bif v25 then bif v26 then bif v25 then bif v26 then again (IntKind.wrap .i64 (x.1+(1:Int)),List.set x.2.1 (Int.toNat x.1) (IntKind.wrap .i64 ((0:Int) - List.getD x.2.1 (Int.toNat x.1) (0:Int))),PUnit.unit) else none else none else none else none else j ((-1:Int),x.2.1,PUnit.unit)) ((0:Int),v21) else j ((1:Int),v21)
def PU {R:Type} (p:Pg) (again k:St->Option R) (x:St):Option R :=
 let v12:Int:=IntKind.wrap .i64 (x.1+(1:Int));
 let v13:List Int×Int×Int:=List.getD p.2 (Int.toNat x.2.1) ([],(0:Int),(0:Int));
 let v14:List Int:=List.replicate (Int.toNat (IntKind.wrap .i64 (x.2.2.2.2.2.2.2.2.1+(1:Int)))) (0:Int);
 let v15:Bool:=inB x.1 (Int.toNat (IntKind.wrap .i64 (x.2.2.2.2.2.2.2.2.1+(1:Int))));
 let v16:Bool:=Nat.ble (Nat.succ (Int.toNat x.1)) (Int.toNat (IntKind.wrap .i64 (x.2.2.2.2.2.2.2.2.1+(1:Int))));
 let _:Int:=IntKind.wrap .i64 (x.2.2.2.2.2.2.2.1+x.2.1);
 let v18:List Int:=List.take (Int.toNat (IntKind.wrap .i64 (x.2.2.2.2.2.2.2.2.1+(1:Int)))) v13.1;
 let v19:List Int:=List.set (List.take (0:Nat) v14++v18++List.drop ((0:Nat)+List.length v18) v14) (Int.toNat x.2.2.2.2.2.2.2.2.1) v13.2.2;
 bif decide (x.2.1<(↑(List.length p.2):Int)) then bif inB x.2.1 (List.length p.2) then bif decide ((0:Int)<=IntKind.wrap .i64 (x.2.2.2.2.2.2.2.2.1+(1:Int)))&&dQ (Int.toNat (IntKind.wrap .i64 (x.2.2.2.2.2.2.2.2.1+(1:Int)))) (8:Nat) then bif inB x.2.2.2.2.2.2.2.2.1 (Int.toNat (IntKind.wrap .i64 (x.2.2.2.2.2.2.2.2.1+(1:Int)))) then bif Nat.ble (Nat.succ (Int.toNat x.2.2.2.2.2.2.2.2.1)) (Int.toNat (IntKind.wrap .i64 (x.2.2.2.2.2.2.2.2.1+(1:Int)))) then jnK (Int×List Int×PUnit) R (QI p again x) fun (j:Int×List Int×PUnit->Option R)=>bif decide (v13.2.1=(1:Int)) then bif v15 then bif v16 then j (v12,List.set v19 (Int.toNat x.1) (1:Int),PUnit.unit) else none else none else jnK (Int×List Int×PUnit) R (fun (x:Int×List Int×PUnit)=>j (x.1,x.2.1,PUnit.unit)) fun (j:Int×List Int×PUnit->Option R)=>bif decide (v13.2.1=(2:Int)) then bif v15 then bif v16 then j (v12,List.set v19 (Int.toNat x.1) (-1:Int),PUnit.unit) else none else none else j (x.1,v19,PUnit.unit) else none else none else none else none else k x
theorem HU {p:Pg} (hv:ValidP p) {R:Type} {again:St->Option R} {i:Nat} (hi:i<p.2.length) {f:Nat->Int} {s s0:Int}
  (hf:∀k,k<(au p).w (al p)->f k=if k=(au p).R (al p) then (al p).b i else if (al p).kd i≠3/\k=(au p).sl i then (if (al p).kd i=1 then 1 else -1) else (p.2.getD i rw0).1.getD k 0) :
  QI p again (s0,(i:Int),(List.range i,dU i ((au p).w (al p)) ((au p).M (al p))),1,ji i (fun k=>(au p).N+k),bE i (au p).σ,p.1,((au p).N:Int),(((au p).R (al p):Nat):Int),PUnit.unit) (s,bE ((au p).w (al p)) f,PUnit.unit) =
   again (s,((i+1:Nat):Int),(List.range (i+1),dU (i+1) ((au p).w (al p)) ((au p).M (al p))),1,ji (i+1) (fun k=>(au p).N+k),bE (i+1) (au p).σ,p.1,((au p).N:Int),(((au p).R (al p):Nat):Int),PUnit.unit):=by
 obtain ⟨h1,h2⟩:=xH hv
 have hr:p.2.getD i rw0 ∈ p.2:=by rw[be hi];exact List.getElem_mem _
 have hR:=hv.right _ hr
 have hl:=hv.len _ hr
 have hc:=hv.coefs _ hr
 have hn:=hv.cost.2
 have hbb:∀k,k<(au p).w (al p)-> -1073741824<=f k/\f k<=1073741824:=fun k hk=>by
  rw[hf k hk]
  split
  ·exact z12 hR
  ·split
   ·split<;>omega
   ·by_cases e:k<(p.2.getD i rw0).1.length
    ·have:=z12 (hc ((p.2.getD i rw0).1.getD k 0) (by rw[be e];exact List.getElem_mem _))
     omega
    ·rw[List.getD_eq_getElem?_getD,List.getElem?_eq_none (by omega)]
     simp
 obtain ⟨w,hw⟩:∃w,w=(au p).w (al p):=⟨_,rfl⟩
 have hNi:(au p).N+i<w:=by rw[hw];show (au p).N+i<(au p).N+p.2.length+1;omega
 have hNw:(au p).N+p.2.length+1=w:=hw.symm
 have hm6:p.2.length<=6:=h2
 rw[<-hw] at hf hbb h1 ⊢
 have fin:∀(σ:Int),σ=(au p).σ i->(List.range i++[(dU i w ((au p).M (al p))).length+0],dU i w ((au p).M (al p))++[some ((bE w fun k=>σ*f k).set ((au p).N+i) 1)])=(List.range (i+1),dU (i+1) w ((au p).M (al p))):=fun σ hσ=>by
  rw[oQ,Nat.add_zero,<-List.range_succ,jZ hNi,<-FL]
  congr 3
  congr 1
  refine cX fun k hk=>?_
  have hok:=mo hv
  unfold Lay.M
  rw[hf k hk,hσ]
  have hNn:(al p).n<=(au p).N:=hok.n
  have hRe:(au p).R (al p)=(au p).N+p.2.length:=rfl
  have hme:(al p).m=p.2.length:=rfl
  rw[hRe,hme]
  by_cases c1:k<(al p).n
  ·rw[if_neg (by omega),if_neg (by omega),if_pos c1,if_neg]
   ·rfl
   ·rintro ⟨e1,e2⟩
    have:=(hok.sl i hi e1).1
    omega
  ·rw[if_neg c1]
   by_cases c2:k<(au p).N
   ·rw[if_neg (by omega),if_neg (by omega),if_pos c2]
    by_cases c3:(al p).kd i≠3/\k=(au p).sl i
    ·rw[if_pos c3,if_pos c3]
    ·rw[if_neg c3,if_neg c3,List.getD_eq_getElem?_getD,List.getElem?_eq_none (by rw[hl];exact Nat.not_lt.1 c1)]
     simp
   ·rw[if_neg c2]
    by_cases c3:k<(au p).N+p.2.length
    ·rw[if_pos c3]
     by_cases c4:k=(au p).N+i
     ·rw[if_pos c4,if_pos c4]
     ·rw[if_neg c4,if_neg c4,if_neg (by omega),if_neg]
      ·rw[List.getD_eq_getElem?_getD,List.getElem?_eq_none (by rw[hl];exact Nat.not_lt.1 c1)]
       simp
      ·rintro ⟨e1,e2⟩
       have:=(hok.sl i hi e1).2
       omega
    ·rw[if_neg c3,if_neg (by omega),if_pos (by omega)]
 have hadd:IntKind.wrap .i64 (((au p).N:Int)+(i:Int))=(((au p).N+i:Nat):Int):=by rw[aG (by omega) (by omega)];rfl
 have hg:∀{n k:Nat},n<=1000->k<=24->dQ n k=true:=fun {n k} h1 h2=>fp (Nat.le_trans (Nat.mul_le_mul h1 h2) (by decide))
 have tail:∀(σ:Int),σ=(au p).σ i->(bif inB (IntKind.wrap .i64 (((au p).N:Int)+(i:Int))) (bE w fun k=>σ*f k).length then bif Nat.ble (Nat.succ (Int.toNat (IntKind.wrap .i64 (((au p).N:Int)+(i:Int))))) (bE w fun k=>σ*f k).length then
   bif dQ ((List.range i).length+1) 24 then bif dQ ((bE i (au p).σ).length+1) 8 then bif dQ ((ji i fun k=>(au p).N+k).length+1) 8 then
   again (s,IntKind.wrap .i64 ((i:Int)+1),(List.range i++[(dU i w ((au p).M (al p))).length+0],dU i w ((au p).M (al p))++[some ((bE w fun k=>σ*f k).set (Int.toNat (IntKind.wrap .i64 (((au p).N:Int)+(i:Int)))) 1)]),1,
    (ji i fun k=>(au p).N+k)++[IntKind.wrap .i64 (((au p).N:Int)+(i:Int))],bE i (au p).σ++[σ],p.1,((au p).N:Int),(((au p).R (al p):Nat):Int),PUnit.unit) else none else none else none else none else none) =
   again (s,((i+1:Nat):Int),(List.range (i+1),dU (i+1) w ((au p).M (al p))),1,ji (i+1) (fun k=>(au p).N+k),bE (i+1) (au p).σ,p.1,((au p).N:Int),(((au p).R (al p):Nat):Int),PUnit.unit):=fun σ hσ=>by
  rw[hadd,z9,fin σ hσ,aK,ba,z7 hNi,dD hNi,List.length_range,aK,jc,hg (by omega) (by omega),hg (by omega) (by omega),bg (show i<=1000000 by omega),hσ,mH]
  simp only[cT]
  rw[show (ji i fun k=>(au p).N+k)++[(((au p).N+i:Nat):Int)]=ji (i+1) (fun k=>(au p).N+k) from mH (f:=fun k=>(((au p).N+k:Nat):Int))]
 unfold QI
 simp only[rY,z9]
 by_cases hneg:(p.2.getD i rw0).2.2<0
 ·have hs:(au p).σ i= -1:=if_pos hneg
  rw[z7 hneg,cond_true]
  refine di w (by omega) (fun k=>((k:Int),bE w (fun j=>if j<k then -1*f j else f j),PUnit.unit)) _ ?_ (fun again2 k hk=>?_) (fun again2=>?_)
  ·rw[cX (f:=fun j=>if j<0 then -1*f j else f j) (g:=f) fun j _=>if_neg (by omega)];rfl
  ·have hb:=hbb k hk
   simp only[aK,ba,z9,z7 hk,z7 (show (k:Int)<w by omega),dD (show Nat.succ k<=w from hk),bJ hk,cT,if_neg (Nat.lt_irrefl k),bg (show k<=1000000 by omega),aG (show -9223372036854775808<=0 - f k by omega) (by omega),jZ hk]
   congr 3
   refine cX fun j _=>?_
   by_cases c:j=k
   ·rw[if_pos c,if_pos (by omega),c];omega
   ·rw[if_neg c]
    by_cases c2:j<k
    ·rw[if_pos c2,if_pos (by omega)]
    ·rw[if_neg c2,if_neg (by omega)]
  ·simp only[aK,z8 (show ¬ (w:Int)<w by omega),cF]
   rw[cX (f:=fun j=>if j<w then -1*f j else f j) (g:=fun j=> -1*f j) fun j hj=>if_pos hj]
   have:=tail (-1) hs.symm
   simp only[aK] at this
   exact this
 ·have hs:(au p).σ i=1:=if_neg hneg
  rw[z8 hneg,cond_false]
  have:=tail 1 hs.symm
  rw[cX (f:=fun j=>1*f j) (g:=f) fun j _=>Int.one_mul _] at this
  exact this
theorem Iv {p:Pg} (hv:ValidP p) {R:Type} {k:St->Option R} :
  lpK St R (fun again x=>PU p again k x) ((p.1.length:Int),(0:Int),([],[]),(1:Int),[],[],p.1,((au p).N:Int),(((au p).R (al p):Nat):Int),PUnit.unit) =
   k (((au p).N:Int),(p.2.length:Int),iY p.2.length ((au p).w (al p)) ((au p).M (al p)),1,ji p.2.length (fun k=>(au p).N+k),bE p.2.length (au p).σ,p.1,((au p).N:Int),(((au p).R (al p):Nat):Int),PUnit.unit):=by
 obtain ⟨h1,h2⟩:=xH hv
 have hok:=mo hv
 have hm6:p.2.length<=6:=h2
 obtain ⟨w,hw⟩:∃w,w=(au p).w (al p):=⟨_,rfl⟩
 have hR1:(au p).R (al p)+1=w:=by rw[hw]
 refine di p.2.length (by omega) (fun i=>(((p.1.length+fO p i:Nat):Int),(i:Int),(List.range i,dU i ((au p).w (al p)) ((au p).M (al p))),1,ji i (fun k=>(au p).N+k),bE i (au p).σ,p.1,((au p).N:Int),(((au p).R (al p):Nat):Int),PUnit.unit)) _ rfl (fun again i hi=>?_) (fun again=>?_)
 ·have hr:p.2.getD i rw0 ∈ p.2:=by rw[be hi];exact List.getElem_mem _
  have hl:=hv.len _ hr
  have hkd:=hv.kind _ hr
  have hN:p.1.length<=(au p).N:=hok.n
  have hNR:(au p).N+p.2.length=(au p).R (al p):=rfl
  have hRw:(au p).R (al p)<w:=by omega
  rw[<-hw] at h1
  have hsl:(au p).sl i=p.1.length+fO p i:=rfl
  have hcs:=se (p:=p) i
  unfold PU
  simp only[bg (show (au p).R (al p)<=1000000 by omega),hR1,z9,ba,z7 hi,z7 (show (i:Int)<p.2.length by omega),z7 (show (0:Int)<=(w:Nat) by omega),fp (show w*8<=140737488355328 by omega),z7 hRw,dD (show Nat.succ ((au p).R (al p))<=w from hRw),Bool.and_self,cT,rY,Kd (show (p.2.getD i rw0).1.length<=w by omega),jZ hRw]
  by_cases k3:(p.2.getD i rw0).2.1=3
  ·have ec:fO p (i+1)=fO p i:=by simp only[fO,if_pos k3,Nat.add_zero]
   rw[ec,z8 (show ¬ (p.2.getD i rw0).2.1=1 by omega),z8 (show ¬ (p.2.getD i rw0).2.1=2 by omega)]
   simp only[cF]
   have:=HU hv (again:=again) (s0:=((p.1.length+fO p i:Nat):Int)) (s:=((p.1.length+fO p i:Nat):Int)) hi (f:=fun k=>if k=(au p).R (al p) then (p.2.getD i rw0).2.2 else (p.2.getD i rw0).1.getD k 0) (fun k hk=>by
    show (if k=(au p).R (al p) then (p.2.getD i rw0).2.2 else (p.2.getD i rw0).1.getD k 0)=if k=(au p).R (al p) then (p.2.getD i rw0).2.2 else _
    by_cases c:k=(au p).R (al p)
    ·rw[if_pos c,if_pos c]
    ·rw[if_neg c,if_neg c,if_neg]
     rintro ⟨e,_⟩
     exact e k3)
   rw[<-hw] at this
   exact this
  ·have hslN:(au p).sl i<(au p).N:=(hok.sl i hi k3).2
   have hslw:p.1.length+fO p i<w:=by omega
   have ec:fO p (i+1)=fO p i+1:=by simp only[fO,if_neg k3]
   rw[ec]
   have step:∀(v:Int),v=(if (al p).kd i=1 then 1 else -1)->QI p again ((((p.1.length+fO p i:Nat):Int)),(i:Int),(List.range i,dU i ((au p).w (al p)) ((au p).M (al p))),1,ji i (fun k=>(au p).N+k),bE i (au p).σ,p.1,((au p).N:Int),(((au p).R (al p):Nat):Int),PUnit.unit)
     (((p.1.length+fO p i+1:Nat):Int),(bE w fun k=>if k=(au p).R (al p) then (p.2.getD i rw0).2.2 else (p.2.getD i rw0).1.getD k 0).set (p.1.length+fO p i) v,PUnit.unit)=again (((p.1.length+(fO p i+1):Nat):Int),((i+1:Nat):Int),(List.range (i+1),dU (i+1) ((au p).w (al p)) ((au p).M (al p))),1,ji (i+1) (fun k=>(au p).N+k),bE (i+1) (au p).σ,p.1,((au p).N:Int),(((au p).R (al p):Nat):Int),PUnit.unit):=fun v hvv=>by
    rw[jZ hslw]
    have:=HU hv (again:=again) (s0:=((p.1.length+fO p i:Nat):Int)) (s:=((p.1.length+fO p i+1:Nat):Int)) hi (f:=fun k=>if k=p.1.length+fO p i then v else if k=(au p).R (al p) then (p.2.getD i rw0).2.2 else (p.2.getD i rw0).1.getD k 0) (fun k hk=>by
     show (if k=p.1.length+fO p i then v else if k=(au p).R (al p) then (p.2.getD i rw0).2.2 else (p.2.getD i rw0).1.getD k 0)=if k=(au p).R (al p) then (p.2.getD i rw0).2.2 else _
     by_cases c:k=(au p).R (al p)
     ·rw[if_pos c,if_pos c,if_neg (by omega)]
     ·rw[if_neg c,if_neg c]
      by_cases c2:k=p.1.length+fO p i
      ·rw[if_pos c2,if_pos ⟨k3,c2⟩,hvv]
      ·rw[if_neg c2,if_neg fun h=>c2 h.2])
    rw[<-hw] at this ⊢
    exact this
   by_cases k1:(p.2.getD i rw0).2.1=1
   ·have:=step 1 (if_pos (show (al p).kd i=1 from k1)).symm
    rw[<-hw] at this
    rw[z7 k1]
    simp only[cT,z7 hslw,dD (show Nat.succ (p.1.length+fO p i)<=w from hslw),bg (show p.1.length+fO p i<=1000000 by omega)]
    exact this
   ·have k2:(p.2.getD i rw0).2.1=2:=by omega
    have:=step (-1) (if_neg (show ¬ (al p).kd i=1 from k1)).symm
    rw[<-hw] at this
    rw[z8 k1,z7 k2]
    simp only[cT,cF,z7 hslw,dD (show Nat.succ (p.1.length+fO p i)<=w from hslw),bg (show p.1.length+fO p i<=1000000 by omega)]
    exact this
 ·unfold PU
  simp only[z8 (show ¬ (p.2.length:Int)<p.2.length by omega),cF]
  rfl
theorem AE {p:Pg} (hv:ValidP p) {R:Type} {F:(Int×Int×PUnit->Option R)->Int×Int×PUnit->Option R} (Q:Option R->Prop)
  (hF:∀again (i:Nat) (s:Int),i<p.2.length->F again (s,(i:Int),PUnit.unit)=bif !decide ((p.2.getD i rw0).2.1=3) then again (IntKind.wrap .i64 (s+1),((i+1:Nat):Int),PUnit.unit) else again (s,((i+1:Nat):Int),PUnit.unit))
  (hf:∀again,Q (F again (((fO p p.2.length:Nat):Int),(p.2.length:Int),PUnit.unit))):Q (lpK (Int×Int×PUnit) R F ((0:Int),(0:Int),PUnit.unit)):=by
 have hm:=hv.rows
 refine NZ Q p.2.length (by omega) (fun i=>(((fO p i:Nat):Int),(i:Int),PUnit.unit)) rfl (fun again i hi=>?_) hf
 rw[hF again i _ hi]
 have:=se (p:=p) i
 by_cases k3:(p.2.getD i rw0).2.1=3
 ·rw[z7 k3]
  simp only[fO,if_pos k3,Nat.add_zero,Bool.not_true,cF]
 ·rw[z8 k3]
  simp only[fO,if_neg k3,Bool.not_false,cT,bg (show fO p i<=1000000 by omega)]
theorem zt {p:Pg} (hv:ValidP p) {R:Type} {k:St->Option R} (Q:Option R->Prop)
  (h:Q (k (((au p).N:Int),(p.2.length:Int),iY p.2.length ((au p).w (al p)) ((au p).M (al p)),1,ji p.2.length (fun k=>(au p).N+k),bE p.2.length (au p).σ,p.1,((au p).N:Int),(((au p).R (al p):Nat):Int),PUnit.unit))) :
  Q (lpK St R (fun again x=>PU p again k x) ((p.1.length:Int),(0:Int),([],[]),(1:Int),[],[],p.1,((au p).N:Int),(((au p).R (al p):Nat):Int),PUnit.unit)):=by
 rw[Iv hv]
 exact h
end
end Go.Proofs.YtegbncajloeepaaGreat

namespace Go.Proofs.YtegbncajloeepaaGreat
open Tryz Dn Dn.Sh
def fac (L:Lin):Nat->Int
 | 0=>L.F0
 | k+1=>L.F k
def pp (f:Nat->Int):Nat->Int
 | 0=>1
 | n+1=>pp f n*f n
def mx (f:Nat->Int):Nat->Int
 | 0=>f 0
 | n+1=>max (mx f n) (f (n+1))
def gG (L:Lin):Prop:=pp (fac L) (L.m+1)<=17592186044416/\pp (fac L) (L.m+1)*mx (fac L) L.m<=144115188075855872
instance (L:Lin):Decidable (gG L):=by unfold gG;infer_instance
theorem Bl (L:Lin) (k:Nat):1<=fac L k:=by
 cases k with
 | zero=>exact L.F0_pos
 | succ k=>exact L.F_pos k
theorem Ds {f:Nat->Int}:∀{n:Nat},pp f (n+1)=f 0*pz n fun i=>f (i+1)
 | 0=>by simp[pp,pz]
 | n+1=>by
  have e:∀{n:Nat} {g:Nat->Int},pz (n+1) g=pz n g*g n:=by
   intro n
   induction n with
   | zero=>intro g;simp[pz]
   | succ n ih =>
    intro g
    have h:=ih (g:=fun i=>g (i+1))
    rw[pz,h,pz,Int.mul_assoc]
  rw[pp,Ds (n:=n),e,Int.mul_assoc]
theorem U9 (L:Lin):pp (fac L) (L.m+1)=L.F0*L.P:=Ds
theorem yI {f:Nat->Int} (h:∀i,1<=f i):∀n,1<=pp f n
 | 0=>by simp[pp]
 | n+1=>by
  have h1:=yI h n
  have h2:=Int.mul_le_mul h1 (h n) (by omega) (by omega)
  simp only[pp]
  omega
theorem Hi {f:Nat->Int} (h:∀i,1<=f i) {n:Nat}:∀{k:Nat},pp f n<=pp f (n+k)
 | 0=>Int.le_refl _
 | k+1=>by
  have h1:=Hi h (n:=n) (k:=k)
  have h2:=yI h (n+k)
  have h3:pp f (n+k)*1<=pp f (n+k)*f (n+k):=Int.mul_le_mul_of_nonneg_left (h _) (by omega)
  rw[<-Nat.add_assoc]
  simp only[pp]
  omega
theorem Rv {f:Nat->Int} {n:Nat}:∀{i:Nat},i<=n->f i<=mx f n:=by
 induction n with
 | zero=>intro i h;rw[show i=0 by omega];exact Int.le_refl _
 | succ n ih =>
  intro i h
  simp only[mx]
  by_cases e:i=n+1
  ·rw[e];omega
  ·have:=ih (i:=i) (by omega)
   omega
theorem RN {f:Nat->Int} {B:Int}:∀{n:Nat},(∀i,i<=n->f i<=B)->mx f n<=B
 | 0,h=>h 0 (by omega)
 | n+1,h=>by
  have h1:=RN (n:=n) fun i hi=>h i (by omega)
  have h2:=h (n+1) (by omega)
  simp only[mx]
  omega
theorem xK {l:List Int} (h:∀n ∈ l,inC n=true) (j:Nat):ab (l.getD j 0)<=1048576:=by
 rw[wL]
 by_cases e:j<l.length
 ·exact z12 (h _ (by rw[be e];exact List.getElem_mem _))
 ·rw[List.getD_eq_getElem?_getD,List.getElem?_eq_none (by omega)]
  simp
theorem wb {l:List Int} (h:∀n ∈ l,inC n=true) {n:Nat} (hn:n<=12):0<=sz n (fun j=>ab (l.getD j 0))/\sz n (fun j=>ab (l.getD j 0))<=12582912:=by
 refine ⟨ig fun _ _=>bN _,?_⟩
 have h1:=(je (n:=n) (f:=fun j=>ab (l.getD j 0)) (B:=1048576) fun j _=>⟨by have:=bN (l.getD j 0);omega,xK h j⟩).2
 omega
theorem Ig {p:Pg} (hv:ValidP p) {k:Nat} (hk:k<=p.2.length):fac (al p) k<=2147483648:=by
 have hn:=hv.cost.2
 cases k with
 | zero =>
  have:=wb hv.cs hn
  show 1+sz p.1.length (fun j=>ab (p.1.getD j 0))<=_
  omega
 | succ k =>
  have hr:p.2.getD k rw0 ∈ p.2:=by rw[be (show k<p.2.length by omega)];exact List.getElem_mem _
  have h1:=wb (hv.coefs _ hr) hn
  have h2:=z12 (hv.right _ hr)
  have h3:ab (p.2.getD k rw0).2.2<=1073741824:=wL.2 h2
  show 1+ab (p.2.getD k rw0).2.2+sz p.1.length (fun j=>ab ((p.2.getD k rw0).1.getD j 0))<=_
  omega
theorem EN {l:List Int} {more:Int} (h:∀n ∈ l,inC n=true) (hl:l.length<=12) (hm:inR more=true):dj l more=some (1+ab more+sz l.length fun j=>ab (l.getD j 0)):=by
 have hm:=z12 hm
 have hma:ab more<=1073741824:=wL.2 hm
 have hma0:=bN more
 unfold dj kK
 rw[uU (by omega) (by omega),obN]
 have e0:((more.natAbs:Nat):Int)=ab more:=rfl
 refine di l.length (by omega) (fun i=>(1+ab more+sz i (fun j=>ab (l.getD j 0)),(i:Int),PUnit.unit)) _ ?_ (fun again i hi=>?_) (fun again=>?_)
 ·rw[e0,aG (x:=ab more) (by omega) (by omega),aG (by omega) (by omega)]
  simp only[sz,Int.add_zero]
  rfl
 ·have h1:=xK h i
  have h0:=bN (l.getD i 0)
  have h2:=wb h (n:=i) (by omega)
  have h3: -1048576<=l.getD i 0/\l.getD i 0<=1048576:=wL.1 h1
  have e1:((l.getD i 0).natAbs:Int)=ab (l.getD i 0):=rfl
  simp only[ba,z9,z7 hi,z7 (show (i:Int)<l.length by omega),cT,uU (show -9223372036854775808<=l.getD i 0 by omega) (by omega),aa,e1,bg (show i<=1000000 by omega)]
  rw[aG (x:=ab (l.getD i 0)) (by omega) (by omega),aG (by omega) (by omega)]
  simp only[sz]
  congr 2
  omega
 ·simp only[z8 (show ¬ (l.length:Int)<l.length by omega),cF]
theorem O9 {n:Nat} {f:Nat->Int} (hn:n<=1000):dM (bE (n+1) f)=some (mx f n):=by
 unfold dM kU
 simp only[rY,aK,z8 (show ¬ ((n+1:Nat):Int)<1 by omega),cF,show inB (0:Int) (n+1)=true from tw (by omega) (by omega),cT,bJ (show 0<n+1 by omega)]
 refine di n (by omega) (fun i=>(mx f i,((i+1:Nat):Int),PUnit.unit)) _ rfl (fun again i hi=>?_) (fun again=>?_)
 ·simp only[z7 (show ((i+1:Nat):Int)<(n+1:Nat) by omega),ba,z7 (show i+1<n+1 by omega),z9,cT,bJ (show i+1<n+1 by omega),P1,bg (show i+1<=1000000 by omega)]
  rfl
 ·simp only[z8 (show ¬ ((n+1:Nat):Int)<(n+1:Nat) by omega),cF]
theorem Gt {a b c:Int} (hc:0<c):a<=b / c↔a*c<=b:=Int.le_ediv_iff_mul_le hc
theorem FE {a b c:Int} (hc:0<c):a>b / c↔b<a*c:=Int.ediv_lt_iff_lt_mul hc
theorem uO {p:Pg} (hv:ValidP p):cn p=some (decide (gG (al p))):=by
 have hm:=hv.rows
 have hn:=hv.cost.2
 unfold cn nk
 rw[EN hv.cs hn (by decide),obN]
 obtain ⟨f,hf⟩:∃f,f=fac (al p):=⟨_,rfl⟩
 have hpos:∀i,1<=f i:=fun i=>by rw[hf];exact Bl _ i
 have hsm:∀k,k<=p.2.length->f k<=2147483648:=fun k hk=>by rw[hf];exact Ig hv hk
 have hF:gG (al p)=(pp f (p.2.length+1)<=17592186044416/\pp f (p.2.length+1)*mx f p.2.length<=144115188075855872):=by rw[hf];rfl
 refine di p.2.length (by omega) (fun i=>(bE (i+1) f,(i:Int),PUnit.unit)) _ ?_ (fun again i hi=>?_) (fun again=>?_)
 ·rw[hf]
  show _=([fac (al p) 0],(0:Int),PUnit.unit)
  congr 2
 ·have hr:p.2.getD i rw0 ∈ p.2:=by rw[be hi];exact List.getElem_mem _
  have h1:=EN (hv.coefs _ hr) (by rw[hv.len _ hr];exact hn) (hv.right _ hr)
  simp only[ba,z9,z7 hi,z7 (show (i:Int)<p.2.length by omega),cT,h1,aa,aK,fp (show (i+1+1)*8<=140737488355328 by omega),bg (show i<=1000000 by omega)]
  have e:f (i+1)=1+ab (p.2.getD i rw0).2.2+sz (p.2.getD i rw0).1.length (fun j=>ab ((p.2.getD i rw0).1.getD j 0)):=by
   rw[hf,hv.len _ hr]
   rfl
  rw[<-e,mH]
 ·simp only[z8 (show ¬ (p.2.length:Int)<p.2.length by omega),cF,aK,O9 (show p.2.length<=1000 by omega),aa]
  have hmx:1<=mx f p.2.length/\mx f p.2.length<=2147483648:=⟨Int.le_trans (hpos 0) (Rv (by omega)),RN hsm⟩
  have round:∀{R:Type} {a b:Option R} (i:Nat),i<p.2.length+1->(bif nzB (f i) then bif decide (pp f i>IntKind.wrap .i64 (Int.tdiv 17592186044416 (f i))) then a else b else none)=bif decide (pp f (i+1)>17592186044416) then a else b:=fun i hi=>by
   have h1:=hpos i
   have h2:=hsm i (by omega)
   rw[ni (by omega),cond_true,Int.tdiv_eq_ediv_of_nonneg (by omega)]
   have h3:0<=17592186044416 / f i:=Int.ediv_nonneg (by omega) (by omega)
   have h4:17592186044416 / f i<=17592186044416:=Int.ediv_le_self _ (by omega)
   rw[aG (by omega) (by omega),decide_eq_decide.2 (FE (a:=pp f i) (show 0<f i by omega))]
   rfl
  rcases uA (p.2.length+1) (fun i=>decide (pp f (i+1)>17592186044416)) with hnone | ⟨q,hq,hbig,hleast⟩
  ·have hall:∀i,i<=p.2.length+1->pp f i<=17592186044416:=fun i hi=>by
    cases i with
    | zero=>simp[pp]
    | succ i=>have:=of_decide_eq_false (hnone i (by omega));omega
   refine di (p.2.length+1) (by omega) (fun i=>(pp f i,(i:Int),PUnit.unit)) _ rfl (fun again i hi=>?_) (fun again=>?_)
   ·have h2:=hall (i+1) (by omega)
    have h3:=yI hpos (i+1)
    simp only[z7 (show (i:Int)<(p.2.length+1:Nat) by omega),ba,z7 hi,z9,bJ hi,dD (show Nat.succ i<=p.2.length+1 from hi),cT,round i hi,hnone i hi,cF,bg (show i<=1000000 by omega)]
    rw[aG (x:=pp f i*f i) (by simp only[pp] at h2 h3;omega) (by simp only[pp] at h2;omega)]
    rfl
   ·simp only[z8 (show ¬ ((p.2.length+1:Nat):Int)<(p.2.length+1:Nat) by omega),cF]
    rw[ni (by omega),cond_true,Int.tdiv_eq_ediv_of_nonneg (by omega)]
    have h3:0<=144115188075855872 / mx f p.2.length:=Int.ediv_nonneg (by omega) (by omega)
    have h4:144115188075855872 / mx f p.2.length<=144115188075855872:=Int.ediv_le_self _ (by omega)
    rw[aG (by omega) (by omega)]
    congr 1
    refine decide_eq_decide.2 ?_
    rw[Gt (a:=pp f (p.2.length+1)) (show 0<mx f p.2.length by omega),hF]
    exact ⟨fun h=>⟨hall _ (by omega),h⟩,fun h=>h.2⟩
  ·have hlow:∀i,i<=q->pp f i<=17592186044416:=fun i hi=>by
    cases i with
    | zero=>simp[pp]
    | succ i=>have:=of_decide_eq_false (hleast i (by omega));omega
   refine di q (by omega) (fun i=>(pp f i,(i:Int),PUnit.unit)) _ rfl (fun again i hi=>?_) (fun again=>?_)
   ·have h2:=hlow (i+1) (by omega)
    have h3:=yI hpos (i+1)
    simp only[z7 (show (i:Int)<(p.2.length+1:Nat) by omega),ba,z7 (show i<p.2.length+1 by omega),z9,bJ (show i<p.2.length+1 by omega),dD (show Nat.succ i<=p.2.length+1 by omega),cT,round i (by omega),hleast i hi,cF,bg (show i<=1000000 by omega)]
    rw[aG (x:=pp f i*f i) (by simp only[pp] at h2 h3;omega) (by simp only[pp] at h2;omega)]
    rfl
   ·simp only[z7 (show (q:Int)<(p.2.length+1:Nat) by omega),ba,z7 hq,z9,bJ hq,dD (show Nat.succ q<=p.2.length+1 from hq),cT,round q hq,hbig]
    congr 1
    refine (z8 ?_).symm
    rw[hF]
    rintro ⟨h1,_⟩
    have h2:=z12 hbig
    have h3:=Hi hpos (n:=q+1) (k:=p.2.length - q)
    rw[show q+1+(p.2.length - q)=p.2.length+1 by omega] at h3
    omega
theorem xX {p:Pg} (hv:ValidP p) (hf:gG (al p)):Bnd (al p) (au p):=by
 obtain ⟨h1,h2⟩:=xH hv
 refine ⟨mo hv,by omega,by omega,?_⟩
 rw[<-U9]
 exact hf.1
theorem NH {p:Pg} (hf:gG (al p)) {k:Nat} (hk:k<=p.2.length):(al p).F0*(al p).P*fac (al p) k<=144115188075855872:=by
 rw[<-U9]
 have h1:=Rv (f:=fac (al p)) hk
 have h2:=yI (Bl (al p)) ((al p).m+1)
 have h3:=Int.mul_le_mul_of_nonneg_left h1 (show 0<=pp (fac (al p)) ((al p).m+1) by omega)
 exact Int.le_trans h3 hf.2
end Go.Proofs.YtegbncajloeepaaGreat

namespace Go.Proofs.YtegbncajloeepaaGreat
noncomputable section
open Tryz Dn Dn.Sh
theorem vE {p:Pg} (j:Nat):jp p.1 j=cg (al p) j:=by
 unfold cg jp
 by_cases h:j<(al p).n
 ·rw[if_pos h];rfl
 ·rw[if_neg h,List.getD_eq_getElem?_getD,List.getElem?_eq_none (Nat.not_lt.1 h)];rfl
theorem Lu {n d:Int} (hd:d≠0) (hn:n.natAbs<=1152921504606846976) (hd2:d.natAbs<=1152921504606846976):vN (F4 n d)=(prQ ((n:Rat) / d),0,()):=by
 obtain ⟨m1,m2,m3⟩:=HR (s:=decide (n<0) !=decide (d<0)) (n:=n.natAbs) (d:=d.natAbs) (by omega)
 obtain ⟨m4,m5⟩:=G8 (s:=decide (n<0) !=decide (d<0)) m2 m3
 have hf:eF (F4 n d):=by
  unfold eF F4
  rw[m1,m4,m5]
  have a1:n.natAbs / Nat.gcd n.natAbs d.natAbs<=n.natAbs:=Nat.div_le_self _ _
  have a2:d.natAbs / Nat.gcd n.natAbs d.natAbs<=d.natAbs:=Nat.div_le_self _ _
  refine ⟨?_,by rw[<-m5] at *;omega⟩
  unfold sgn
  generalize n.natAbs / Nat.gcd n.natAbs d.natAbs=p at *
  split<;>omega
 unfold vN
 rw[if_pos hf,Cp hd]
theorem uK {n d:Int} (hd:d≠0) (hn:n.natAbs<=1152921504606846976) (hd2:d.natAbs<=1152921504606846976):eF ((n:Rat) / d):=by
 have h:=Lu hd hn hd2
 rw[Cp hd] at h
 rcases kQ ((n:Rat) / d) with ⟨h1,_⟩ | ⟨_,h2⟩
 ·exact h1
 ·rw[h2] at h
  exact absurd (show (5:Int)=0 from congrArg (fun x:Fq×Int×Unit=>x.2.1) h) (by decide)
theorem xe {M:List (List Int)} {d n:Int} {x2 x3 cs:List Int} {x5 x6:Int} (hd:0<d/\d<=17592186044416) (hn:n.natAbs<=1152921504606846976):aJ (M,d,x2,x3,cs,x5,x6) n=some (prQ ((n:Rat) / (d:Rat))):=by
 simp only[aJ,iB,Ps (show -9223372036854775808<=n by omega) (by omega) (show -9223372036854775808<=d by omega) (by omega),aa,if_neg (show ¬ d=0 by omega)]
 rw[Cp (by omega)]
 unfold vN
 rw[if_pos (uK (by omega) hn (by omega))]
theorem QU {n:Nat}:List.replicate n (0:Int)=bE n fun _=>0:=by
 refine List.ext_getElem (by rw[aK];simp) fun i h1 h2=>?_
 rw[xd,List.getElem_replicate]
theorem Ce {p:Pg} (k:Nat) (x:Int):((au p).σ k*x).natAbs=x.natAbs:=by
 show ((if (p.2.getD k rw0).2.2<0 then (-1:Int) else 1)*x).natAbs=_
 split<;>omega
theorem NU {m w:Nat} {T:Nat->Nat->Int}:((iY m w T).1.all fun x=>fH (dU m w T) x)=true:=gV
theorem Og {m w:Nat} {T:Nat->Nat->Int}:(iY m w T).1.map (fun x=>bG (dU m w T) x)=sN m w T:=gS
abbrev xL (p:Pg) (S:Sx):List Fq:=bE p.1.length fun j=>prQ (B9 (al p).m ((au p).R (al p)) S j)
abbrev yL (p:Pg) (wc:Nat->Int) (S:Sx):List Fq:=bE p.2.length fun k=>prQ (qL (al p).m (au p).N wc S (au p).σ k)
def V5 (p:Pg) (S:Sx):Int:=sz (al p).m fun i=>cg (al p) (S.β i)*S.T i ((au p).R (al p))
abbrev FM (p:Pg) (S:Sx):Rat:=(V5 p S:Rat) / (S.d:Rat)
structure Infeas (p:Pg) (S:Sx):Prop where
 val:(au p).Val (al p) S
 zr:∀j,j<(au p).N->0<=zr (al p).m (eD (au p).N) S j
 pos:0<sz (al p).m fun i=>eD (au p).N (S.β i)*S.T i ((au p).R (al p))
structure gZ (p:Pg) (S:Sx) (q:Nat):Prop where
 val:(au p).Val (al p) S
 az:AZ (al p) (au p) S
 lt:q<(au p).N
 neg:zr (al p).m (cg (al p)) S q<0
 no:∀i,i<(al p).m->S.T i q<=0
structure Opt (p:Pg) (S:Sx):Prop where
 val:(au p).Val (al p) S
 az:AZ (al p) (au p) S
 zr:∀j,j<(au p).N->0<=zr (al p).m (cg (al p)) S j
abbrev AX:Fq×List Fq×List Fq:=((0,0),[],[])
def yC (p:Pg) (o:Option ((Fq×List Fq×List Fq)×Int×Unit)):Prop :=
 (∃S,Infeas p S/\o=some (AX,22,()))\/(∃S q,gZ p S q/\o=some (AX,21,()))\/∃S,Opt p S/\o=some ((prQ (FM p S),xL p S,yL p (cg (al p)) S),0,())
theorem obQ {T R:Type} {Q:Option R->Prop} {o:Option T} {t:T} {k:T->Option R} (h:o=some t) (hk:Q (k t)):Q (ah o k):=by
 rw[h]
 exact hk
theorem Lx {p:Pg} (hv:ValidP p) (hf:gG (al p)):yC p (cO p):=by
 have hB:=xX hv hf
 obtain ⟨hw25,hm6'⟩:=xH hv
 have hm6:p.2.length<=6:=hm6'
 have hn:=hv.cost.2
 have hok:=mo hv
 have hpow:(au p).w (al p) ^ (al p).m<=1180591620717411303424:=Nat.le_trans (Nat.pow_le_pow_left (show _<=64 by omega) _) (Nat.le_trans (Nat.pow_le_pow_right (by omega) hm6') (by decide))
 have hcnt:=se (p:=p) p.2.length
 have hNe:IntKind.wrap .i64 ((p.1.length:Int)+(fO p p.2.length:Nat))=((au p).N:Int):=by rw[aG (by omega) (by omega)];rfl
 have hRe:IntKind.wrap .i64 (((au p).N:Int)+(p.2.length:Int))=(((au p).R (al p):Nat):Int):=by
  have:(au p).N=p.1.length+fO p p.2.length:=rfl
  rw[aG (by omega) (by omega)];rfl
 unfold cO jk
 rw[mL,obN,gk.2 hv]
 simp only[Bool.not_true,cF]
 rw[uO hv,obN,z7 hf]
 simp only[Bool.not_true,cF]
 refine AE hv (yC p) (fun again i s hi=>?_) (fun again=>?_)
 ·simp only[z7 (show (i:Int)<p.2.length by omega),ba,z7 hi,z9,cT,bg (show i<=1000000 by omega)]
 simp only[z8 (show ¬ (p.2.length:Int)<p.2.length by omega),cF,bf,gM,fp (show (0+p.1.length)*8<=140737488355328 by omega),cT,aa,hNe,hRe]
 refine zt hv (yC p) ?_
 obtain ⟨S,ok,h1,hvS,h2,h3⟩:=EM hB hpow (x3:=bE p.2.length (au p).σ) (cs:=p.1) (Lay.first hok)
 refine obQ (Q:=yC p) h1 ?_
 cases ok with
 | false =>
  simp only[Bool.not_false,cT]
  exact .inl ⟨S,⟨hvS,(h3 rfl).1,(h3 rfl).2⟩,rfl⟩
 | true =>
  simp only[Bool.not_true,cF]
  obtain ⟨S,ok,h1,hvS,haS,h2,h3⟩:=GM hB hpow (x3:=bE p.2.length (au p).σ) vE hvS (h2 rfl)
  refine obQ (Q:=yC p) h1 ?_
  cases ok with
  | false =>
   simp only[Bool.not_false,cT]
   obtain ⟨q,e1,e2,e3⟩:=h3 rfl
   exact .inr (.inl ⟨S,q,⟨hvS,haS,e1,e2,e3⟩,rfl⟩)
  | true =>
   simp only[Bool.not_true,cF,z9,z7 (show (0:Int)<=(p.1.length:Nat) by omega),fp (show p.1.length*8<=140737488355328 by omega),Bool.and_self,cT,QU]
   refine .inr (.inr ⟨S,⟨hvS,haS,h2 rfl⟩,?_⟩)
   obtain ⟨⟨d1,d2⟩,hb⟩:=hB.tab hvS.tb
   obtain ⟨_,hbP⟩:=hB.tabP hvS.tb
   have hRw:(au p).R (al p)<(au p).w (al p):=by unfold Lay.R Lay.w;omega
   have hm:(al p).m=p.2.length:=rfl
   have hcR:∀i,i<(al p).m-> -17592186044416<=cg (al p) (S.β i)*S.T i ((au p).R (al p))/\cg (al p) (S.β i)*S.T i ((au p).R (al p))<=17592186044416:=fun i hi=>hB.cost (hbP i _ hi hRw) _
   have hTR:∀i,i<(al p).m-> -17592186044416<=S.T i ((au p).R (al p))/\S.T i ((au p).R (al p))<=17592186044416:=fun i hi=>by have:=hb i _ hi hRw;omega
   refine di (al p).m (by omega) (fun i=>(sz i (fun k=>cg (al p) (S.β k)*S.T k ((au p).R (al p))),(i:Int),bE p.1.length (fun j=>sz i fun k=>if S.β k=j then S.T k ((au p).R (al p)) else 0),PUnit.unit)) _ rfl (fun again i hi=>?_) (fun again=>?_)
   ·have hiR:=hcR i hi
    have hs:=je (n:=i) (f:=fun k=>cg (al p) (S.β k)*S.T k ((au p).R (al p))) (B:=17592186044416) fun k hk=>hcR k (by omega)
    have h3:(i:Int)*17592186044416<=6*17592186044416:=z11 (by omega) (by omega)
    simp only[jc,ba,z9,z7 hi,z7 (show (i:Int)<(al p).m by omega),dD (show Nat.succ i<=(al p).m from hi),jN hi,cT,NU,Og,xx,vE,aa,gX,lw hi,jU,gB hi,aK,bJ hRw,z7 hRw,dD (show Nat.succ ((au p).R (al p))<=(au p).w (al p) from hRw),bg (show i<=1000000 by omega)]
    rw[aG (x:=cg (al p) (S.β i)*S.T i ((au p).R (al p))) (by omega) (by omega),aG (by omega) (by omega)]
    by_cases c:S.β i<p.1.length
    ·simp only[z7 (show (S.β i:Int)<p.1.length by omega),z7 c,dD (show Nat.succ (S.β i)<=p.1.length from c),cT,jZ c]
     congr 3
     congr 1
     refine cX fun j _=>?_
     by_cases e:j=S.β i
     ·subst e
      rw[if_pos rfl]
      simp only[sz]
      rw[gy fun k hk=>if_neg fun e=>by have:=hvS.tb.inj (show k<(al p).m by omega) hi e;omega,if_pos trivial,Int.zero_add]
     ·rw[if_neg e]
      simp only[sz]
      rw[if_neg (Ne.symm e),Int.add_zero]
    ·simp only[z8 (show ¬ (S.β i:Int)<p.1.length by omega),cF]
     congr 3
     congr 1
     refine cX fun j hj=>?_
     simp only[sz]
     rw[if_neg (by omega),Int.add_zero]
   have hsV:=je (n:=(al p).m) (f:=fun k=>cg (al p) (S.β k)*S.T k ((au p).R (al p))) (B:=17592186044416) hcR
   have h6:((al p).m:Int)*17592186044416<=6*17592186044416:=z11 (by omega) (by omega)
   simp only[jc,z8 (show ¬ ((al p).m:Int)<(al p).m by omega),cF,gV,gS,cT,xe ⟨d1,d2⟩ (show (sz (al p).m fun k=>cg (al p) (S.β k)*S.T k ((au p).R (al p))).natAbs<=1152921504606846976 by omega),aa,aK]
   refine di p.1.length (by omega) (fun j=>((j:Int),prQ (FM p S),bE j (fun j=>prQ (B9 (al p).m ((au p).R (al p)) S j)),[],PUnit.unit)) _ rfl (fun again j hj=>?_) (fun again=>?_)
   ·have hx:=je (n:=(al p).m) (f:=fun k=>if S.β k=j then S.T k ((au p).R (al p)) else 0) (B:=17592186044416) fun k hk=>by
     have:=hTR k hk
     split<;>omega
    simp only[ba,z9,z7 hj,z7 (show (j:Int)<p.1.length by omega),dD (show Nat.succ j<=p.1.length from hj),bJ hj,cT,xe ⟨d1,d2⟩ (show (sz (al p).m fun k=>if S.β k=j then S.T k ((au p).R (al p)) else 0).natAbs<=1152921504606846976 by omega),aa,aK,fp (show (j+1)*16<=140737488355328 by omega),bg (show j<=1000000 by omega)]
    rw[show prQ (((sz (al p).m fun k=>if S.β k=j then S.T k ((au p).R (al p)) else 0:Int):Rat) / (S.d:Rat))=(fun j=>prQ (B9 (al p).m ((au p).R (al p)) S j)) j from rfl,mH]
   simp only[z8 (show ¬ (p.1.length:Int)<p.1.length by omega),cF]
   refine di p.2.length (by omega) (fun k=>((k:Int),prQ (FM p S),xL p S,bE k (fun k=>prQ (qL (al p).m (au p).N (cg (al p)) S (au p).σ k)),PUnit.unit)) _ rfl (fun again k hk=>?_) (fun again=>?_)
   ·have hNk:(au p).N+k<(au p).w (al p):=by unfold Lay.w;omega
    have hcN:∀i,i<(al p).m-> -17592186044416<=cg (al p) (S.β i)*S.T i ((au p).N+k)/\cg (al p) (S.β i)*S.T i ((au p).N+k)<=17592186044416:=fun i hi=>hB.cost (hbP i _ hi hNk) _
    have hNke:IntKind.wrap .i64 (((au p).N:Int)+(k:Int))=(((au p).N+k:Nat):Int):=by rw[aG (by omega) (by omega)];rfl
    simp only[z7 (show (k:Int)<p.2.length by omega),cT,hNke]
    refine di (al p).m (by omega) (fun i=>(sz i (fun i=>cg (al p) (S.β i)*S.T i ((au p).N+k)),(i:Int),PUnit.unit)) _ rfl (fun again2 i hi=>?_) (fun again2=>?_)
    ·have hiR:=hcN i hi
     have hs:=je (n:=i) (f:=fun i=>cg (al p) (S.β i)*S.T i ((au p).N+k)) (B:=17592186044416) fun k hk=>hcN k (by omega)
     have h3:(i:Int)*17592186044416<=6*17592186044416:=z11 (by omega) (by omega)
     simp only[ba,z9,z7 hi,z7 (show (i:Int)<(al p).m by omega),dD (show Nat.succ i<=(al p).m from hi),jN hi,cT,xx,vE,aa,gX,lw hi,jU,gB hi,aK,bJ hNk,z7 hNk,dD (show Nat.succ ((au p).N+k)<=(au p).w (al p) from hNk),bg (show i<=1000000 by omega)]
     rw[aG (x:=cg (al p) (S.β i)*S.T i ((au p).N+k)) (by omega) (by omega),aG (by omega) (by omega)]
     rfl
    ·have hs:=je (n:=(al p).m) (f:=fun i=>cg (al p) (S.β i)*S.T i ((au p).N+k)) (B:=17592186044416) hcN
     have hab:=Ce (p:=p) k (sz (al p).m fun i=>cg (al p) (S.β i)*S.T i ((au p).N+k))
     simp only[z8 (show ¬ ((al p).m:Int)<(al p).m by omega),cF,aK,ba,z9,z7 hk,dD (show Nat.succ k<=p.2.length from hk),bJ hk,cT,aG (x:=(au p).σ k*sz (al p).m fun i=>cg (al p) (S.β i)*S.T i ((au p).N+k)) (by omega) (by omega),xe ⟨d1,d2⟩ (show ((au p).σ k*sz (al p).m fun i=>cg (al p) (S.β i)*S.T i ((au p).N+k)).natAbs<=1152921504606846976 by omega),aa,fp (show (k+1)*16<=140737488355328 by omega),bg (show k<=1000000 by omega)]
     rw[show prQ ((((au p).σ k*sz (al p).m fun i=>cg (al p) (S.β i)*S.T i ((au p).N+k):Int):Rat) / (S.d:Rat))=(fun k=>prQ (qL (al p).m (au p).N (cg (al p)) S (au p).σ k)) k from rfl,mH]
   ·simp only[z8 (show ¬ (p.2.length:Int)<p.2.length by omega),cF]
end
end Go.Proofs.YtegbncajloeepaaGreat

namespace Go.Proofs.YtegbncajloeepaaGreat
open Tryz Dn Dn.Sh
def xk (p:Pg) (o:Option (List Fq×Int×Unit)):Prop :=
 (∃S,Infeas p S/\o=some (yL p (eD (au p).N) S,0,()))\/∃S,(au p).Val (al p) S/\AZ (al p) (au p) S/\o=some ([],12,())
theorem Ib {p:Pg} (hv:ValidP p) (hf:gG (al p)):xk p (ci p):=by
 have hB:=xX hv hf
 obtain ⟨hw25,hm6'⟩:=xH hv
 have hm6:p.2.length<=6:=hm6'
 have hn:=hv.cost.2
 have hok:=mo hv
 have hpow:(au p).w (al p) ^ (al p).m<=1180591620717411303424:=Nat.le_trans (Nat.pow_le_pow_left (show _<=64 by omega) _) (Nat.le_trans (Nat.pow_le_pow_right (by omega) hm6') (by decide))
 have hcnt:=se (p:=p) p.2.length
 have hNe:IntKind.wrap .i64 ((p.1.length:Int)+(fO p p.2.length:Nat))=((au p).N:Int):=by rw[aG (by omega) (by omega)];rfl
 have hRe:IntKind.wrap .i64 (((au p).N:Int)+(p.2.length:Int))=(((au p).R (al p):Nat):Int):=by
  have:(au p).N=p.1.length+fO p p.2.length:=rfl
  rw[aG (by omega) (by omega)];rfl
 unfold ci gF
 rw[mL,obN,gk.2 hv]
 simp only[Bool.not_true,cF]
 rw[uO hv,obN,z7 hf]
 simp only[Bool.not_true,cF]
 refine AE hv (xk p) (fun again i s hi=>?_) (fun again=>?_)
 ·simp only[z7 (show (i:Int)<p.2.length by omega),ba,z7 hi,z9,cT,bg (show i<=1000000 by omega)]
 simp only[z8 (show ¬ (p.2.length:Int)<p.2.length by omega),cF,bf,gM,fp (show (0+p.1.length)*8<=140737488355328 by omega),cT,aa,hNe,hRe]
 refine zt hv (xk p) ?_
 obtain ⟨S,ok,h1,hvS,h2,h3⟩:=EM hB hpow (x3:=bE p.2.length (au p).σ) (cs:=p.1) (Lay.first hok)
 refine obQ (Q:=xk p) h1 ?_
 cases ok with
 | true =>
  simp only[cT]
  exact .inr ⟨S,hvS,h2 rfl,rfl⟩
 | false =>
  simp only[cF]
  refine .inl ⟨S,⟨hvS,(h3 rfl).1,(h3 rfl).2⟩,?_⟩
  obtain ⟨⟨d1,d2⟩,hb⟩:=hB.tab hvS.tb
  have hm:(al p).m=p.2.length:=rfl
  refine di p.2.length (by omega) (fun k=>(bE k (fun k=>prQ (qL (al p).m (au p).N (eD (au p).N) S (au p).σ k)),(k:Int),PUnit.unit)) _ rfl (fun again k hk=>?_) (fun again=>?_)
  ·have hNk:(au p).N+k<(au p).w (al p):=by unfold Lay.w;omega
   have hNke:IntKind.wrap .i64 (((au p).N:Int)+(k:Int))=(((au p).N+k:Nat):Int):=by
    have:(au p).N=p.1.length+fO p p.2.length:=rfl
    rw[aG (by omega) (by omega)];rfl
   have hbk:∀i,i<(al p).m-> -1125899906842624<=S.T i ((au p).N+k)/\S.T i ((au p).N+k)<=1125899906842624:=fun i hi=>by have:=hb i _ hi hNk;omega
   have hbk2:∀i,i<(al p).m-> -17592186044416<=eD (au p).N (S.β i)*S.T i ((au p).N+k)/\eD (au p).N (S.β i)*S.T i ((au p).N+k)<=17592186044416:=fun i hi=>by
    have:=hb i _ hi hNk
    unfold eD
    split<;>omega
   have hs:=je (n:=(al p).m) (f:=fun i=>eD (au p).N (S.β i)*S.T i ((au p).N+k)) (B:=17592186044416) hbk2
   have h6:((al p).m:Int)*17592186044416<=6*17592186044416:=z11 (by omega) (by omega)
   have hab:=Ce (p:=p) k (sz (al p).m fun i=>eD (au p).N (S.β i)*S.T i ((au p).N+k))
   simp only[z7 (show (k:Int)<p.2.length by omega),cT,hNke,aK,ba,z9,z7 hk,dD (show Nat.succ k<=p.2.length from hk),bJ hk,gV,gS,tc (show (al p).m<=1000 by omega) hNk hbk,aa,
    aG (x:=(au p).σ k*sz (al p).m fun i=>eD (au p).N (S.β i)*S.T i ((au p).N+k)) (by omega) (by omega),xe ⟨d1,d2⟩ (show ((au p).σ k*sz (al p).m fun i=>eD (au p).N (S.β i)*S.T i ((au p).N+k)).natAbs<=1152921504606846976 by omega),fp (show (k+1)*16<=140737488355328 by omega),bg (show k<=1000000 by omega)]
   rw[show prQ ((((au p).σ k*sz (al p).m fun i=>eD (au p).N (S.β i)*S.T i ((au p).N+k):Int):Rat) / (S.d:Rat))=(fun k=>prQ (qL (al p).m (au p).N (eD (au p).N) S (au p).σ k)) k from rfl,mH]
  ·simp only[z8 (show ¬ (p.2.length:Int)<p.2.length by omega),cF]
def vX (x:List Fq) (j:Nat):Rat:=qv (x.getD j (0,0))
theorem EZ {f:Nat->Rat}:∀{n:Nat},sq (n+1) f=f 0+sq n fun i=>f (i+1)
 | 0=>by simp only[sq];grind
 | n+1=>by
  rw[sq,EZ (n:=n)]
  simp only[sq]
  grind
theorem DF:∀{l:List Int} {x:List Fq} {s q:Rat},l.length<=x.length->fC l x s=some q->q=s+sq l.length fun j=>((l.getD j 0:Int):Rat)*vX x j
 | [],x,s,q,_,h=>by
  unfold fC at h
  injection h with h
  simp only[List.length_nil,sq]
  grind
 | n ::l,[],s,q,hl,h=>by simp at hl
 | n ::l,a ::x,s,q,hl,h=>by
  unfold fC at h
  split at h
  ·have h1:=DF (l:=l) (x:=x) (by simpa using hl) h
   rw[List.length_cons,EZ,h1]
   have e1:∀j,(n ::l).getD (j+1) 0=l.getD j 0:=fun j=>rfl
   have e2:∀j,vX (a ::x) (j+1)=vX x j:=fun j=>rfl
   simp only[e1,e2]
   have e3:((n ::l).getD 0 0:Int)=n:=rfl
   have e4:vX (a ::x) 0=qv a:=rfl
   rw[e3,e4]
   grind
  ·cases h
theorem rB {l:List Int} {x:List Fq} (hl:l.length<=x.length) (h:(fC l x 0).isSome=true):(fC l x 0).getD 0=sq l.length fun j=>((l.getD j 0:Int):Rat)*vX x j:=by
 cases hq:fC l x 0 with
 | none=>rw[hq] at h;cases h
 | some q =>
  have:=DF hl hq
  rw[Option.getD_some,this]
  grind
theorem G3 {a b:Rat}:zl a b<=0↔a<=b:=by
 unfold zl
 by_cases h:a<b
 ·rw[if_pos h]
  exact ⟨fun _=>Rat.le_of_lt h,fun _=>by omega⟩
 ·rw[if_neg h]
  by_cases h2:a=b
  ·rw[if_pos h2]
   exact ⟨fun _=>by rw[h2];exact Rat.le_refl,fun _=>by omega⟩
  ·rw[if_neg h2]
   refine ⟨fun h3=>by omega,fun h3=>?_⟩
   exact (h (Rat.lt_of_le_of_ne h3 h2)).elim
theorem HI {α:Type} {P:α->Bool} {l:List α} (d:α):l.all P=true↔∀k,k<l.length->P (l.getD k d)=true:=by
 rw[<-vA (p:=P) d,List.all_eq_true]
 exact ⟨fun h k hk=>h k (List.mem_range'.2 ⟨k,hk,by omega⟩),fun h i hi=>by obtain ⟨k,hk,rfl⟩:=List.mem_range'.1 hi;exact h _ (by omega)⟩
theorem Gb {p:Pg} {y:List Fq} (hy:∀a ∈ y,okF a) (hl:y.length=p.2.length):mu p y=true↔(al p).Sgn (vX y):=by
 have hpos:∀j,j<y.length->((0<=(y.getD j (0,0)).1↔0<=vX y j)/\((y.getD j (0,0)).1<=0↔vX y j<=0)):=fun j hj=>by
  have hok:=hy (y.getD j (0,0)) (by rw[be hj];exact List.getElem_mem _)
  have h1:=mN hok
  have h2:=QY hok
  have h3:=Dc hok
  refine ⟨h1.symm,?_⟩
  unfold vX
  constructor
  ·intro h
   by_cases c:(y.getD j (0,0)).1=0
   ·rw[h3.2 c];exact Rat.le_refl
   ·exact Rat.le_of_lt (h2.2 (by omega))
  ·intro h
   apply Int.not_lt.1
   intro h4
   have h5:=h1.2 (by omega)
   have h6:=h3.1 (Rat.le_antisymm h h5)
   omega
 unfold mu
 rw[List.all_eq_true]
 have key:∀k,k<p.2.length->(yZ (p.2.getD k rw0).2.1 (y.getD k (0,0)).1=true↔((al p).kd k=1->vX y k<=0)/\((al p).kd k=2->0<=vX y k)):=fun k hk=>by
  obtain ⟨h1,h2⟩:=hpos k (by omega)
  unfold yZ
  have e1:(al p).kd k=(p.2.getD k rw0).2.1:=rfl
  rw[e1,z10,Bool.or_eq_true,Bool.or_eq_true,decide_eq_true_iff,decide_eq_true_iff,decide_eq_true_iff,decide_eq_true_iff,h1,h2]
  constructor
  ·rintro ⟨a1,a2⟩
   exact ⟨fun e=>a1.resolve_left fun h=>h e,fun e=>a2.resolve_left fun h=>h e⟩
  ·rintro ⟨a1,a2⟩
   refine ⟨?_,?_⟩
   ·by_cases c:(p.2.getD k rw0).2.1=1
    ·exact .inr (a1 c)
    ·exact .inl c
   ·by_cases c:(p.2.getD k rw0).2.1=2
    ·exact .inr (a2 c)
    ·exact .inl c
 constructor
 ·intro h
  exact ⟨fun k hk=>((key k hk).1 (h k (List.mem_range'.2 ⟨k,hk,by omega⟩))).1,fun k hk=>((key k hk).1 (h k (List.mem_range'.2 ⟨k,hk,by omega⟩))).2⟩
 ·rintro ⟨h1,h2⟩ i hi
  obtain ⟨k,hk,rfl⟩:=List.mem_range'.1 hi
  simp only[Nat.one_mul,Nat.zero_add]
  exact (key k hk).2 ⟨h1 k hk,h2 k hk⟩
theorem PN {p:Pg} {y:List Fq} (hl:y.length=p.2.length) {j:Nat} (h:(fC (nF p j) y 0).isSome=true):(fC (nF p j) y 0).getD 0=(al p).col (vX y) j:=by
 rw[rB (by rw[ul];omega) h,ul]
 refine dW fun k hk=>?_
 unfold nF
 have hk:k<p.2.length:=hk
 rw[be (show k<(p.2.map fun r=>r.1.getD j 0).length by rw[List.length_map];exact hk),List.getElem_map]
 show _=(((p.2.getD k rw0).1.getD j 0:Int):Rat)*_
 rw[be hk]
theorem Il {p:Pg} {y:List Fq} (hl:y.length=p.2.length) (h:(pr p y).isSome=true):(pr p y).getD 0=(al p).rhs (vX y):=by
 unfold pr at h ⊢
 rw[rB (by rw[oY];omega) h,oY]
 refine dW fun k hk=>?_
 unfold nB
 have hk:k<p.2.length:=hk
 rw[be (show k<(p.2.map fun r=>r.2.2).length by rw[List.length_map];exact hk),List.getElem_map]
 show _=(((p.2.getD k rw0).2.2:Int):Rat)*_
 rw[be hk]
theorem QN {p:Pg} {x:List Fq} (hl:x.length=p.1.length) (h:(fC p.1 x 0).isSome=true):(fC p.1 x 0).getD 0=(al p).val (vX x):=by
 rw[rB (by omega) h]
 rfl
theorem JB {p:Pg} {y:List Fq} {f:Nat->Int} (hl:y.length=p.2.length) (hf:qp p y=true):zB p y f=true↔∀j,j<p.1.length->(al p).col (vX y) j<=(f j:Rat):=by
 unfold qp at hf
 rw[List.all_eq_true] at hf
 unfold zB
 rw[List.all_eq_true]
 have hc:∀j,j<p.1.length->(fC (nF p j) y 0).getD 0=(al p).col (vX y) j:=fun j hj=>PN hl (hf j (List.mem_range'.2 ⟨j,hj,by omega⟩))
 constructor
 ·intro h j hj
  have:=h j (List.mem_range'.2 ⟨j,hj,by omega⟩)
  rw[decide_eq_true_iff,G3,hc j hj] at this
  exact this
 ·intro h i hi
  obtain ⟨k,hk,rfl⟩:=List.mem_range'.1 hi
  simp only[Nat.one_mul,Nat.zero_add]
  rw[decide_eq_true_iff,G3,hc k hk]
  exact h k hk
theorem wi {p:Pg} {y:List Fq} (hy:∀a ∈ y,okF a) (hly:y.length=p.2.length) (f3:qp p y=true) (f4:(pr p y).isSome=true) :
  EU p y=true↔(al p).Ref (vX y):=by
 have hfit:eF ((pr p y).getD 0):=by
  unfold pr
  exact BU
 have hp:Jf p y=true↔0<(al p).rhs (vX y):=by
  unfold Jf
  rw[decide_eq_true_iff,<-Il hly f4]
  have h1:=mN (mi hfit)
  have h2:=Dc (mi hfit)
  rw[qi] at h1 h2
  constructor
  ·intro h
   exact Rat.lt_of_le_of_ne (h1.2 (by omega)) fun e=>by have:=h2.1 e.symm;omega
  ·intro h
   have a1:=h1.1 (Rat.le_of_lt h)
   have a2:¬ (prQ ((pr p y).getD 0)).1=0:=fun e=>by rw[h2.2 e] at h;exact Rat.lt_irrefl h
   omega
 unfold EU
 simp only[z10]
 rw[hp,Gb hy hly,JB hly f3]
 constructor
 ·rintro ⟨a1,a2,a3⟩
  exact ⟨a2,fun j hj=>by have:=a3 j hj;simpa using this,a1⟩
 ·rintro ⟨a1,a2,a3⟩
  exact ⟨a3,a1,fun j hj=>by have:=a2 j hj;simpa using this⟩
theorem yq {f:Nat->Int}:∀{n:Nat},sz (n+1) f=f 0+sz n fun i=>f (i+1)
 | 0=>by simp[sz]
 | n+1=>by
  rw[sz,yq (n:=n)]
  simp only[sz]
  omega
theorem IE {α:Type} {n:Nat} {f:Nat->α}:bE (n+1) f=f 0 ::bE n fun i=>f (i+1):=by
 unfold bE
 rw[List.range_succ_eq_map,List.map_cons,List.map_map]
 rfl
theorem yQ {d B:Int} (hd:0<d/\d<=1152921504606846976) (hB:B<=1152921504606846976):∀{l:List Int} {X:Nat->Int} {s:Int},(∀j,j<l.length->ab (l.getD j 0*X j)<=B)->(∀i,i<=l.length->ab (s+sz i fun j=>l.getD j 0*X j)<=B) ->
  fC l (bE l.length fun j=>prQ ((X j:Rat) / (d:Rat))) ((s:Rat) / (d:Rat))=some (((s+sz l.length fun j=>l.getD j 0*X j:Int):Rat) / (d:Rat))
 | [],X,s,_,_=>by
  unfold fC
  simp[sz]
 | n ::l,X,s,h1,h2=>by
  have e1:∀j,(n ::l).getD (j+1) 0=l.getD j 0:=fun j=>rfl
  have e0:((n ::l).getD 0 0:Int)=n:=rfl
  have a1:=h1 0 (by simp)
  have a2:=h2 1 (by simp)
  simp only[sz,e0,Int.zero_add] at a1 a2
  rw[List.length_cons,IE]
  unfold fC
  rw[qi]
  have q1:(n:Rat)*((X 0:Rat) / (d:Rat))=((n*X 0:Int):Rat) / (d:Rat):=by rw[Rat.intCast_mul];grind
  have q2:(s:Rat) / (d:Rat)+((n*X 0:Int):Rat) / (d:Rat)=((s+n*X 0:Int):Rat) / (d:Rat):=by rw[Rat.intCast_add];grind
  have b1:(n*X 0).natAbs<=1152921504606846976:=by rw[rK] at a1;omega
  have b2:(s+n*X 0).natAbs<=1152921504606846976:=by rw[rK] at a2;omega
  rw[q1,q2,if_pos ⟨uK (by omega) b1 (by omega),uK (by omega) b2 (by omega)⟩]
  have ih:=yQ hd hB (l:=l) (X:=fun j=>X (j+1)) (s:=s+n*X 0) (fun j hj=>h1 (j+1) (by simpa using hj)) (fun i hi=>by
   have:=h2 (i+1) (by simpa using hi)
   rw[yq] at this
   simp only[e1,e0] at this
   rw[<-Int.add_assoc] at this
   exact this)
  rw[ih]
  congr 3
  rw[yq]
  simp only[e1,e0]
  omega
theorem GG {n i:Nat} {a X:Nat->Int} {B:Int} (hi:i<=n) (hB:0<=B) (hX:∀j,j<n->ab (X j)<=B):ab (sz i fun j=>a j*X j)<=(sz n fun j=>ab (a j))*B:=by
 refine Int.le_trans B2 ?_
 have h1:(sz i fun j=>ab (a j*X j))<=sz i fun j=>ab (a j)*B:=oD fun j hj=>by
  rw[oe]
  exact Int.mul_le_mul_of_nonneg_left (hX j (by omega)) (bN _)
 refine Int.le_trans h1 ?_
 rw[CM]
 refine z11 ?_ hB
 obtain ⟨k,rfl⟩:∃k,n=i+k:=⟨n - i,by omega⟩
 rw[ye]
 have:0<=sz k fun l=>ab (a (i+l)):=ig fun _ _=>bN _
 omega
theorem H0 {n j:Nat} {f:Nat->Int} (hj:j<n) (hf:∀i,i<n->0<=f i):f j<=sz n f:=by
 have h1:(sz n fun i=>if i=j then f j else 0)<=sz n f:=oD fun i hi=>by
  by_cases e:i=j
  ·rw[if_pos e,e];exact Int.le_refl _
  ·rw[if_neg e];exact hf i hi
 rw[fj hj fun i _ hne=>if_neg hne,if_pos rfl] at h1
 exact h1
theorem Gr {n j:Nat} {a X:Nat->Int} {B:Int} (hj:j<n) (hB:0<=B) (hX:∀j,j<n->ab (X j)<=B):ab (a j*X j)<=(sz n fun j=>ab (a j))*B:=by
 rw[oe]
 refine Int.le_trans (Int.mul_le_mul_of_nonneg_left (hX j hj) (bN _)) (z11 ?_ hB)
 exact H0 (f:=fun j=>ab (a j)) hj fun _ _=>bN _
theorem LW {l:List Int} {X:Nat->Int} {d B:Int} (hd:0<d/\d<=1152921504606846976) (hB:0<=B) (hX:∀j,j<l.length->ab (X j)<=B) (h:(sz l.length fun j=>ab (l.getD j 0))*B<=1152921504606846976) :
  (fC l (bE l.length fun j=>prQ ((X j:Rat) / (d:Rat))) 0).isSome=true:=by
 have h0:(0:Rat)=((0:Int):Rat) / (d:Rat):=by rw[show ((0:Int):Rat)=0 from rfl,Rat.div_def,Rat.zero_mul]
 rw[h0,yQ hd h (fun j hj=>Gr (a:=fun j=>l.getD j 0) hj hB hX) (fun i hi=>by rw[Int.zero_add];exact GG (a:=fun j=>l.getD j 0) hi hB hX)]
 rfl
theorem Gh {l:List Int} {X:Nat->Int} {d B:Int} (hd:0<d/\d<=1152921504606846976) (hB:0<=B) (hX:∀j,j<l.length->ab (l.getD j 0*X j)<=B) (h:(l.length:Int)*B<=1152921504606846976) (hB2:B<=1152921504606846976) :
  (fC l (bE l.length fun j=>prQ ((X j:Rat) / (d:Rat))) 0).isSome=true:=by
 have h0:(0:Rat)=((0:Int):Rat) / (d:Rat):=by rw[show ((0:Int):Rat)=0 from rfl,Rat.div_def,Rat.zero_mul]
 have hsum:∀i,i<=l.length->ab (0+sz i fun j=>l.getD j 0*X j)<=1152921504606846976:=fun i hi=>by
  rw[Int.zero_add]
  have h1:=je (n:=i) (f:=fun j=>l.getD j 0*X j) (B:=B) fun j hj=>wL.1 (hX j (by omega))
  have h2:(i:Int)*B<=l.length*B:=z11 (by omega) hB
  refine wL.2 ⟨?_,?_⟩<;>omega
 rw[h0,yQ hd (Int.le_refl _) (fun j hj=>Int.le_trans (hX j hj) hB2) hsum]
 rfl
section
variable {p:Pg} {S:Sx}
theorem Hy (hB:Bnd (al p) (au p)) (hv:(au p).Val (al p) S) (j:Nat):0<=wg (al p).m ((au p).R (al p)) S j/\wg (al p).m ((au p).R (al p)) S j<=(al p).P:=by
 refine ⟨nL hv j,?_⟩
 have hRw:(au p).R (al p)<(au p).w (al p):=by unfold Lay.R Lay.w;omega
 obtain ⟨_,hb⟩:=hB.tabP hv.tb
 unfold wg
 by_cases h:∃i,i<(al p).m/\S.β i=j
 ·obtain ⟨i,hi,e⟩:=h
  rw[fj hi fun k hk hne=>if_neg fun e2=>hne (hv.tb.inj hk hi (by rw[e,e2])),if_pos e]
  have:=hb i _ hi hRw
  omega
 ·rw[gy fun i hi=>if_neg fun e=>h ⟨i,hi,e⟩]
  have:=(al p).P_pos
  omega
theorem Nh (k:Nat) (x:Int):ab ((au p).σ k*x)=ab x:=by
 rw[rK,rK,Ce]
theorem Ha (hB:Bnd (al p) (au p)) (hv:(au p).Val (al p) S) {wc:Nat->Int} {W:Int} (hW:∀j,ab (wc j)<=W) {k:Nat} (hk:k<(al p).m):(al p).F k*ab (ms (al p).m (au p).N wc S (au p).σ k)<=12*(W*(al p).P):=by
 have hF:=(al p).F_pos k
 have hW0:0<=W:=Int.le_trans (bN _) (hW 0)
 have hP:=(al p).P_pos
 have hm:=hB.m
 unfold ms
 rw[Nh]
 have h1:ab (sz (al p).m fun i=>wc (S.β i)*S.T i ((au p).N+k))<=sz (al p).m fun i=>W*ab (S.T i ((au p).N+k)):=Int.le_trans B2 (oD fun i _=>by
  rw[oe]
  exact z11 (hW _) (bN _))
 have h2:(al p).F k*(sz (al p).m fun i=>W*ab (S.T i ((au p).N+k)))=sz (al p).m fun i=>W*((al p).F k*ab (S.T i ((au p).N+k))):=by
  rw[<-fW]
  exact bq fun i _=>by grind
 have h3:(sz (al p).m fun i=>W*((al p).F k*ab (S.T i ((au p).N+k))))<=sz (al p).m fun _=>W*(al p).P:=oD fun i hi=>Int.mul_le_mul_of_nonneg_left (IT hB.ok hv.tb hi hk) hW0
 have h4:∀n:Nat,(sz n fun _=>W*(al p).P)=n*(W*(al p).P):=fun n=>by
  induction n with
  | zero=>simp[sz]
  | succ n ih =>
   simp only[sz]
   rw[ih,show ((n+1:Nat):Int)=(n:Int)+1 by omega,Int.add_mul,Int.one_mul]
 have h5:0<=W*(al p).P:=Int.mul_nonneg hW0 (by omega)
 have h6:((al p).m:Int)*(W*(al p).P)<=12*(W*(al p).P):=z11 (by omega) h5
 have h7:=Int.mul_le_mul_of_nonneg_left h1 (show 0<=(al p).F k by omega)
 rw[h2] at h7
 rw[h4] at h3
 omega
theorem K2 (k j:Nat) (hj:j<(al p).n):ab ((al p).A k j)<=(al p).F k/\ab ((al p).b k)<=(al p).F k:=by
 have h1:=H0 (n:=(al p).n) (f:=fun j=>ab ((al p).A k j)) hj fun _ _=>bN _
 have h2:=bN ((al p).b k)
 have h3:=bN ((al p).A k j)
 unfold Lin.F
 omega
theorem R0 (hV:ValidP p) (hB:Bnd (al p) (au p)) (hv:(au p).Val (al p) S) {wc:Nat->Int} {W:Int} (hW:∀j,ab (wc j)<=W) (hWP:W*(al p).P<=17592186044416):qp p (yL p wc S)=true/\(pr p (yL p wc S)).isSome=true:=by
 obtain ⟨⟨d1,d2⟩,hb⟩:=hB.tab hv.tb
 have hm:=hV.rows
 have hn:=hV.cost
 have term:∀(k:Nat) (a:Int),k<p.2.length->ab a<=(al p).F k->ab (a*ms (al p).m (au p).N wc S (au p).σ k)<=211106232532992:=fun k a hk ha=>by
  have h1:=Ha hB hv hW (k:=k) hk
  rw[oe]
  have h2:=z11 ha (bN (ms (al p).m (au p).N wc S (au p).σ k))
  omega
 have gen:∀{l:List Int},l.length=p.2.length->(∀k,k<p.2.length->ab (l.getD k 0)<=(al p).F k)->(fC l (yL p wc S) 0).isSome=true:=fun {l} hl hF=>by
  have h1:=Gh (l:=l) (X:=fun k=>ms (al p).m (au p).N wc S (au p).σ k) (d:=S.d) (B:=211106232532992) ⟨d1,by omega⟩ (by omega) (fun k hk=>term k _ (by omega) (hF k (by omega))) (by omega) (by omega)
  rw[hl] at h1
  exact h1
 constructor
 ·unfold qp
  rw[List.all_eq_true]
  intro i hi
  obtain ⟨j,hj,rfl⟩:=List.mem_range'.1 hi
  simp only[Nat.one_mul,Nat.zero_add]
  refine gen ul fun k hk=>?_
  have:(nF p j).getD k 0=(al p).A k j:=by
   unfold nF
   rw[be (show k<(p.2.map fun r=>r.1.getD j 0).length by rw[List.length_map];exact hk),List.getElem_map]
   show _=(p.2.getD k rw0).1.getD j 0
   rw[be hk]
  rw[this]
  exact (K2 k j hj).1
 ·unfold pr
  refine gen oY fun k hk=>?_
  have:(nB p).getD k 0=(al p).b k:=by
   unfold nB
   rw[be (show k<(p.2.map fun r=>r.2.2).length by rw[List.length_map];exact hk),List.getElem_map]
   show _=(p.2.getD k rw0).2.2
   rw[be hk]
  rw[this]
  exact (K2 k 0 hn.1).2
theorem Sp (hV:ValidP p) (hf:gG (al p)) (hv:(au p).Val (al p) S):AN p (xL p S)=true/\(fC p.1 (xL p S) 0).isSome=true:=by
 have hB:=xX hV hf
 obtain ⟨⟨d1,d2⟩,hb⟩:=hB.tab hv.tb
 have hm:=hV.rows
 have hP:=(al p).P_pos
 have hF0:=(al p).F0_pos
 have hx:∀j,ab (wg (al p).m ((au p).R (al p)) S j)<=(al p).P:=fun j=>by
  have:=Hy hB hv j
  exact wL.2 ⟨by omega,this.2⟩
 have gen:∀{l:List Int} {k:Nat},l.length=p.1.length->k<=p.2.length->(sz p.1.length fun j=>ab (l.getD j 0))<=fac (al p) k->(fC l (xL p S) 0).isSome=true:=fun {l k} hl hk hF=>by
  have h2:=NH hf hk
  have h3:1*((al p).P*fac (al p) k)<=(al p).F0*((al p).P*fac (al p) k):=z11 hF0 (Int.mul_nonneg (by omega) (by have:=Bl (al p) k;omega))
  have h5:=Int.mul_assoc (al p).F0 (al p).P (fac (al p) k)
  have h4:=z11 hF (show 0<=(al p).P by omega)
  rw[Int.mul_comm (fac (al p) k)] at h4
  have h1:=LW (l:=l) (X:=fun j=>wg (al p).m ((au p).R (al p)) S j) (d:=S.d) (B:=(al p).P) ⟨d1,by omega⟩ (by omega) (fun j _=>hx j) (by rw[hl];omega)
  rw[hl] at h1
  exact h1
 constructor
 ·unfold AN
  rw[HI rw0]
  intro k hk
  have hr:p.2.getD k rw0 ∈ p.2:=by rw[be hk];exact List.getElem_mem _
  refine gen (k:=k+1) (hV.len _ hr) (by omega) ?_
  show _<=1+ab (p.2.getD k rw0).2.2+sz p.1.length (fun j=>ab ((p.2.getD k rw0).1.getD j 0))
  have:=bN (p.2.getD k rw0).2.2
  omega
 ·refine gen (k:=0) rfl (by omega) ?_
  show _<=1+sz p.1.length (fun j=>ab (p.1.getD j 0))
  omega
theorem Hp (N j:Nat):ab (eD N j)<=1:=by unfold eD;split<;>simp[ab]
theorem F8 {n:Nat} {f:Nat->Rat} {j:Nat} (hj:j<n):vX (bE n fun j=>prQ (f j)) j=f j:=by
 unfold vX
 rw[bJ hj,qi]
theorem G7 {n:Nat} {f:Nat->Rat} (h:∀j,j<n->eF (f j)):∀a ∈ bE n (fun j=>prQ (f j)),okF a:=fun a ha=>by
 unfold bE at ha
 obtain ⟨j,hj,rfl⟩:=List.mem_map.1 ha
 exact mi (h j (List.mem_range.1 hj))
theorem Uv (hV:ValidP p) (hf:gG (al p)) (hv:(au p).Val (al p) S):∀a ∈ xL p S,okF a:=G7 fun j _=>by
 have hB:=xX hV hf
 obtain ⟨⟨d1,d2⟩,_⟩:=hB.tab hv.tb
 have:=Hy hB hv j
 have:=hB.P'
 exact uK (by omega) (by omega) (by omega)
theorem UH (_:ValidP p) (hB:Bnd (al p) (au p)) (hv:(au p).Val (al p) S) {wc:Nat->Int} {W:Int} (hW:∀j,ab (wc j)<=W) (hWP:W*(al p).P<=17592186044416):∀a ∈ yL p wc S,okF a:=G7 fun k hk=>by
 obtain ⟨⟨d1,d2⟩,_⟩:=hB.tab hv.tb
 have h1:=Ha hB hv hW (k:=k) hk
 have h2:=(al p).F_pos k
 have h3:1*ab (ms (al p).m (au p).N wc S (au p).σ k)<=(al p).F k*ab (ms (al p).m (au p).N wc S (au p).σ k):=z11 h2 (bN _)
 have h4:ab (ms (al p).m (au p).N wc S (au p).σ k)<=211106232532992:=by omega
 rw[rK] at h4
 exact uK (by omega) (by omega) (by omega)
theorem Dn.Lin.Feas.congr {L:Lin} {x x':Nat->Rat} (h:∀j,j<L.n->x j=x' j) (hx:L.Feas x):L.Feas x':=by
 have hr:∀k,L.row x' k=L.row x k:=fun k=>dW fun j hj=>by rw[h j hj]
 exact ⟨fun j hj=>by rw[<-h j hj];exact hx.pos j hj,fun k hk h2=>by rw[hr];exact hx.most k hk h2,fun k hk h2=>by rw[hr];exact hx.least k hk h2⟩
theorem Dn.Lin.Sgn.congr {L:Lin} {y y':Nat->Rat} (h:∀k,k<L.m->y k=y' k) (hy:L.Sgn y):L.Sgn y' :=
 ⟨fun k hk e=>by rw[<-h k hk];exact hy.most k hk e,fun k hk e=>by rw[<-h k hk];exact hy.least k hk e⟩
theorem Dn.Lin.col_congr {L:Lin} {y y':Nat->Rat} (h:∀k,k<L.m->y k=y' k) (j:Nat):L.col y' j=L.col y j:=dW fun k hk=>by rw[h k hk]
theorem Dn.Lin.rhs_congr {L:Lin} {y y':Nat->Rat} (h:∀k,k<L.m->y k=y' k):L.rhs y'=L.rhs y:=dW fun k hk=>by rw[h k hk]
theorem Dn.Lin.val_congr {L:Lin} {x x':Nat->Rat} (h:∀j,j<L.n->x j=x' j):L.val x'=L.val x:=dW fun j hj=>by rw[h j hj]
theorem QG (hV:ValidP p) (_:gG (al p)) (ho:Opt p S):(al p).Feas (vX (xL p S))/\(al p).Dual (vX (yL p (cg (al p)) S))/\(al p).val (vX (xL p S))=FM p S/\(al p).rhs (vX (yL p (cg (al p)) S))=FM p S:=by
 have hok:=mo hV
 have ex:∀j,j<(al p).n->B9 (al p).m ((au p).R (al p)) S j=vX (xL p S) j:=fun j hj=>(F8 hj).symm
 have ey:∀k,k<(al p).m->qL (al p).m (au p).N (cg (al p)) S (au p).σ k=vX (yL p (cg (al p)) S) k:=fun k hk=>(F8 hk).symm
 have h1:=tC hok ho.val (ho.az.art S)
 have h2:=GR hok ho.val ho.zr
 obtain ⟨h3,h4⟩:=E8 hok ho.val
 refine ⟨h1.congr ex,⟨h2.toSgn.congr ey,fun j hj=>?_⟩,?_,?_⟩
 ·rw[Lin.col_congr ey];exact h2.col j hj
 ·rw[Lin.val_congr ex];exact h3
 ·rw[Lin.rhs_congr ey];exact h4
theorem tT (hV:ValidP p) (ho:Infeas p S):(al p).Ref (vX (yL p (eD (au p).N) S)):=by
 have hok:=mo hV
 have ey:∀k,k<(al p).m->qL (al p).m (au p).N (eD (au p).N) S (au p).σ k=vX (yL p (eD (au p).N) S) k:=fun k hk=>(F8 hk).symm
 have h2:=JO hok ho.val ho.zr ho.pos
 refine ⟨h2.toSgn.congr ey,fun j hj=>?_,?_⟩
 ·rw[Lin.col_congr ey];exact h2.col j hj
 ·rw[Lin.rhs_congr ey];exact h2.rhs
theorem Bg (hV:ValidP p) (hf:gG (al p)) (ho:Infeas p S):bO p (yL p (eD (au p).N) S)=some (true,0,()):=by
 have hB:=xX hV hf
 have hm:=hV.rows
 have hWP:1*(al p).P<=17592186044416:=by have:=hB.P';omega
 have hy:=UH (wc:=eD (au p).N) hV hB ho.val (Hp _) hWP
 have hly:(yL p (eD (au p).N) S).length=p.2.length:=aK
 obtain ⟨f3,f4⟩:=R0 (wc:=eD (au p).N) hV hB ho.val (Hp _) hWP
 have hc:=(wi hy hly f3 f4).2 (tT hV ho)
 rw[qY (by omega),gk.2 hV,jV.2 hy,z7 hly,f3,f4,hc]
 rfl
end
def W5 (p:Pg) (y:List Fq) (e:Int):Prop :=
 (e=1/\y=[]/\pC p=false)\/(e=5/\y=[]/\ValidP p/\¬ gG (al p))\/(e=12/\y=[]/\ValidP p/\gG (al p)/\∃x,(al p).Feas x) \/
 (e=0/\ValidP p/\gG (al p)/\y.length=p.2.length/\bO p y=some (true,0,())/\∃y,(al p).Ref y)
theorem Iw {p:Pg} (h:ValidP p) (hf:¬ gG (al p)):cO p=some (AX,5,()):=by
 unfold cO jk
 rw[mL,obN,gk.2 h]
 simp only[Bool.not_true,cF]
 rw[uO h,obN,z8 hf]
 rfl
theorem GL {p:Pg} (h:pC p=false):ci p=some ([],1,()):=by
 unfold ci gF
 rw[mL,obN,h]
 rfl
theorem GD {p:Pg} (h:ValidP p) (hf:¬ gG (al p)):ci p=some ([],5,()):=by
 unfold ci gF
 rw[mL,obN,gk.2 h]
 simp only[Bool.not_true,cF]
 rw[uO h,obN,z8 hf]
 rfl
theorem Gm (p:Pg):∃y e,ci p=some (y,e,())/\W5 p y e:=by
 cases hv:pC p with
 | false=>exact ⟨_,_,GL hv,.inl ⟨rfl,rfl,hv⟩⟩
 | true =>
  have hV:=gk.1 hv
  by_cases hf:gG (al p)
  ·rcases Ib hV hf with ⟨S,h1,h2⟩ | ⟨S,h1,h2,h3⟩
   ·exact ⟨_,_,h2,.inr (.inr (.inr ⟨rfl,hV,hf,aK,Bg hV hf h1,_,tT hV h1⟩))⟩
   ·exact ⟨_,_,h3,.inr (.inr (.inl ⟨rfl,rfl,hV,hf,_,tC (mo hV) h1 (h2.art S)⟩))⟩
  ·exact ⟨_,_,GD hV hf,.inr (.inl ⟨rfl,rfl,hV,hf⟩)⟩
structure BndR (L:Lin) (Y:Lay):Prop where
 ok:Y.ok L
 m:L.m<=6
 w:Y.w L<=25
 P:L.F0*L.P<=536870912
section
variable {L:Lin} {Y:Lay}
theorem BndR.P' (h:BndR L Y):L.P<=536870912:=by
 have h1:=L.F0_pos
 have h2:=L.P_pos
 have h3:1*L.P<=L.F0*L.P:=z11 h1 (by omega)
 have:=h.P
 omega
theorem BndR.tab (h:BndR L Y) {T:Nat->Nat->Int} {d:Int} {β:Nat->Nat} (ht:Tb L.m (Y.w L) (Y.M L) T d β):(0<d/\d<=536870912)/\∀i j,i<L.m->j<Y.w L->(T i j).natAbs<=536870912/\((T i j).natAbs:Int)<=L.P:=by
 obtain ⟨h1,h2⟩:=rc h.ok ht
 have h3:=h.P'
 refine ⟨⟨ht.dpos,by omega⟩,fun i j hi hj=>?_⟩
 have:=h2 i j hi hj
 rw[rK] at this
 omega
structure Wc (L:Lin) (Y:Lay) (wc:Nat->Int):Prop where
 small:∀j x,(x.natAbs:Int)<=L.P-> -536870912<=wc j*x/\wc j*x<=536870912
end
section
variable {L:Lin} {Y:Lay}
theorem Swp.next {i:Nat} {S:Sx} (h:Swp L Y i S) (hr:Y.N<=S.β i->∀j,j<Y.N->S.T i j=0):Swp L Y (i+1) S :=
 ⟨h.val,h.right,fun k hk hlt hb j hj=>by
  by_cases e:k=i
  ·subst e;exact hr hb j hj
  ·exact h.rows k hk (by omega) hb j hj⟩
end
section
variable {p:Pg}
end
section
variable {L:Lin} {Y:Lay}
end
def Xk (p:Pg) (a:Fq×List Fq×List Fq) (e:Int):Prop :=
 (e=5/\a=AX/\¬ gG (al p))\/(e=22/\a=AX/\gG (al p)/\∃y,(al p).Ref y) \/
 (e=21/\a=AX/\gG (al p)/\(∃x,(al p).Feas x)/\∃r,(al p).Ray r) \/
 (e=0/\gG (al p)/\∃v,a.1=prQ v/\eF v/\a.2.1.length=p.1.length/\(∀x ∈ a.2.1,okF x)/\AN p a.2.1=true/\(fC p.1 a.2.1 0).isSome=true/\(al p).Feas (vX a.2.1)/\(∃y,(al p).Dual y/\(al p).rhs y=v)/\(al p).val (vX a.2.1)=v)
theorem RQ {p:Pg} (hV:ValidP p):∃a e,cO p=some (a,e,())/\Xk p a e:=by
 by_cases hf:gG (al p)
 ·have hok:=mo hV
  rcases Lx hV hf with ⟨S,h1,h2⟩ | ⟨S,q,h1,h2⟩ | ⟨S,h1,h2⟩
  ·exact ⟨_,_,h2,.inr (.inl ⟨rfl,rfl,hf,_,tT hV h1⟩)⟩
  ·exact ⟨_,_,h2,.inr (.inr (.inl ⟨rfl,rfl,hf,⟨_,tC hok h1.val (h1.az.art S)⟩,_,Jq hok h1.val h1.lt (h1.az.col S h1.lt) h1.neg h1.no⟩))⟩
  ·obtain ⟨a1,a2,a3,a4⟩:=QG hV hf h1
   obtain ⟨f1,f2⟩:=Sp hV hf h1.val
   have hl:(xL p S).length=p.1.length:=aK
   have hv:=QN (p:=p) (x:=xL p S) hl f2
   have hq:eF (FM p S):=by
    rw[<-a3,<-hv]
    exact BU
   exact ⟨_,_,h2,.inr (.inr (.inr ⟨rfl,hf,FM p S,rfl,hq,hl,Uv hV hf h1.val,f1,f2,a1,⟨_,a2,a4⟩,a3⟩))⟩
 ·exact ⟨_,_,Iw hV hf,.inl ⟨rfl,rfl,hf⟩⟩
theorem HL {f:(Fq×Unit)->Option Bool} {p:Fq->Bool} {l:List Fq} (hl:l.length<=1000000) (h:∀a,a ∈ l->f (a,())=some (p a)):ai l f=some (l.any p):=by
 simp only[ai,ff]
 have e:bz l f=some (jD p l 0):=by
  unfold bz fQ
  exact nq (f:=f) (d:=(0,0)) hl h
 rw[e,aa,xm]
theorem QF (s:Sy) (c:List Int) (hl:c.length=s.2.length):al (ep s c)=⟨s.2.length,s.1.length,fun k j=>((bE s.1.length (lY s)).getD k rw0).1.getD j 0,fun k=>((bE s.1.length (lY s)).getD k rw0).2.2,fun j=>c.getD j 0,fun k=>((bE s.1.length (lY s)).getD k rw0).2.1⟩:=by
 unfold al ep
 simp only[hl,aK]
def EqS (s:Sy) (x:Nat->Rat):Prop:=∀i,i<s.1.length->(sq s.2.length fun j=>((Mx s i j:Int):Rat)*x j)=((bwS s i:Int):Rat)
theorem AH {s:Sy} {c:List Int} (hl:c.length=s.2.length) {x:Nat->Rat}:(al (ep s c)).Feas x↔(∀j,j<s.2.length->0<=x j)/\EqS s x:=by
 rw[QF s c hl]
 have er:∀i,i<s.1.length->(⟨s.2.length,s.1.length,fun k j=>((bE s.1.length (lY s)).getD k rw0).1.getD j 0,fun k=>((bE s.1.length (lY s)).getD k rw0).2.2,fun j=>c.getD j 0,fun k=>((bE s.1.length (lY s)).getD k rw0).2.1⟩:Lin).row x i=sq s.2.length fun j=>((Mx s i j:Int):Rat)*x j:=fun i hi=>by
  unfold Lin.row
  refine dW fun j hj=>?_
  simp only[bJ hi,lY,bJ hj]
 constructor
 ·rintro ⟨h1,h2,h3⟩
  refine ⟨h1,fun i hi=>?_⟩
  have hk:((bE s.1.length (lY s)).getD i rw0).2.1=3:=by rw[bJ hi];rfl
  have hb:((bE s.1.length (lY s)).getD i rw0).2.2=bwS s i:=by rw[bJ hi];rfl
  have a1:=h2 i hi (by simp only[hk];omega)
  have a2:=h3 i hi (by simp only[hk];omega)
  rw[er i hi] at a1 a2
  simp only[hb] at a1 a2
  exact Rat.le_antisymm a1 a2
 ·rintro ⟨h1,h2⟩
  refine ⟨h1,fun i hi _=>?_,fun i hi _=>?_⟩
  ·have hb:((bE s.1.length (lY s)).getD i rw0).2.2=bwS s i:=by rw[bJ hi];rfl
   rw[er i hi,h2 i hi]
   simp only[hb]
   exact Rat.le_refl
  ·have hb:((bE s.1.length (lY s)).getD i rw0).2.2=bwS s i:=by rw[bJ hi];rfl
   rw[er i hi,h2 i hi]
   simp only[hb]
   exact Rat.le_refl
theorem mw {s:Sy}:(dK s).length=s.2.length:=by unfold dK;rw[List.length_replicate]
theorem MP {s:Sy} (h:fN s=true) {a:Fq×List Fq×List Fq} {e:Int} (hs:cO (ep s (dK s))=some (a,e,())):cE s=some (bif decide (e=0) then a.2.1 else [],e,()):=by
 unfold cE pY
 rw[yl h,aa,hs]
 by_cases he:e=0
 ·subst he;rfl
 ·simp only[z8 he,aa]
  rfl
theorem Fu {s:Sy} (h:fN s=true) {y:List Fq} {e:Int} (hs:ci (ep s (dK s))=some (y,e,())):bP s=some (y,e,()):=by
 unfold bP mU
 rw[yl h,aa,hs]
 rfl
end Go.Proofs.YtegbncajloeepaaGreat

namespace Go.Proofs.YtegbncajloeepaaGreat
noncomputable section
open Tryz Dn Dn.Sh
theorem Pw {a:Fq} (ha:okF a):okF (-a.1,a.2)/\qv (-a.1,a.2)= - qv a:=by
 obtain ⟨⟨a1,a2⟩,⟨a3,a4⟩,a5⟩:=ha
 refine ⟨⟨⟨a1,a2⟩,⟨by simp only;omega,by simp only;omega⟩,by simpa using a5⟩,?_⟩
 simp only[qv]
 rw[Rat.neg_mkRat]
theorem Pn {a b:Fq} (ha:okF a) (hb:okF b):ib a b=some (vN (qv a - qv b)):=by
 obtain ⟨h2,h3⟩:=Pw hb
 have hb':=hb
 obtain ⟨_,⟨b1,b2⟩,_⟩:=hb'
 have hw:IntKind.wrap .i64 (0 - b.1)= -b.1:=by rw[aG (by omega) (by omega)];omega
 simp only[ib,rC,ll,z7 ha,z7 hb,aa,Bool.not_true,Bool.not_false,Bool.or_true,cT,cF]
 rw[hw,Gz ha h2,aa,h3,<-Rat.sub_eq_add_neg]
theorem Sl (n:Int):cG n=some (n,1):=id rfl
theorem Nj {q:Rat} {n:Int} {a:Fq} (hq:eF q) (hn: -1152921504606846976<=n/\n<=1152921504606846976) (ha:okF a) :
  dZ (prQ q) n a=some (if eF ((n:Rat)*qv a)/\eF (q+(n:Rat)*qv a) then (prQ (q+(n:Rat)*qv a),0,()) else ((0,0),5,())):=by
 have hm:=KJ (uZ hn.1 hn.2) ha
 rw[Bp] at hm
 simp only[dZ,mW,Sl,aa,hm]
 rcases kQ ((n:Rat)*qv a) with ⟨f1,e1⟩ | ⟨f1,e1⟩
 ·have hA:=Gz (mi hq) (mi f1)
  rw[qi,qi] at hA
  simp only[e1,decide_true,Bool.not_true,cF,hA,aa]
  rcases kQ (q+(n:Rat)*qv a) with ⟨f2,e2⟩ | ⟨f2,e2⟩
  ·rw[if_pos ⟨f1,f2⟩,e2]
  ·rw[if_neg fun h=>f2 h.2,e2]
 ·rw[if_neg fun h=>f1 h.1]
  simp only[e1]
  rfl
theorem LY {α R:Type} {F:(α->Option R)->α->Option R} {x:α} (n:Nat) (hn:n<=1180591620717411303423) (st:Nat->α) (p:Nat->Bool) {bad good:Option R} (hx:x=st 0) (hb:∀again i,i<n->F again (st i)=bif p i then again (st (i+1)) else bad) (hf:∀again,F again (st n)=good) :
  lpK α R F x=bif (List.range' 0 n).all p then good else bad:=by
 rw[hx]
 rcases uA n (fun i=>!p i) with h | ⟨q,h1,h2,h3⟩
 ·have e:(List.range' 0 n).all p=true:=List.all_eq_true.2 fun i hi=>by
   obtain ⟨k,hk,rfl⟩:=List.mem_range'.1 hi
   have:=h (0+1*k) (by omega)
   simpa using this
  rw[e,cT]
  refine pX n hn st _ (fun again i hi=>?_) hf
  have:=h i hi
  rw[hb again i hi,show p i=true by simpa using this,cT]
 ·have e:(List.range' 0 n).all p=false:=by
   rw[Bool.eq_false_iff]
   intro hh
   rw[List.all_eq_true] at hh
   have:=hh q (jr h1)
   rw[this] at h2
   cases h2
  rw[e,cF]
  refine pX q (by omega) st _ (fun again i hi=>?_) (fun again=>?_)
  ·have:=h3 i hi
   rw[hb again i (by omega),show p i=true by simpa using this,cT]
  ·rw[hb again q h1,show p q=false by simpa using h2,cF]
def Ge (s:Sy) (l:List Fq) (i:Nat):Option Rat:=fC (bE s.2.length (Mx s i)) l 0
def uM (s:Sy) (l:List Fq) (i:Nat):Rat:=((bwS s i:Int):Rat) - (Ge s l i).getD 0
def G1 (s:Sy) (l:List Fq) (i:Nat):Bool:=(Ge s l i).isSome&&decide (eF (uM s l i))
theorem vt {s:Sy} (h:fN s=true) {l:List Fq} (hl:l.length<=1000000):dw s l=some (bif okL l then bif decide (l.length=s.2.length) then (I5 s,0,()) else ([],3,()) else ([],1,())):=by
 have hc:ai l (fun x=>dx x.1)=some (!okL l):=by
  rw[HL (p:=fun a=>!decide (okF a)) hl (fun a _=>by simp only[dx,jQ,ll,aa])]
  congr 1
  unfold okL
  rw[Bool.eq_iff_iff,Bool.not_eq_true',List.any_eq_true]
  constructor
  ·rintro ⟨a,ha,h1⟩
   rw[Bool.eq_false_iff]
   intro hh
   rw[List.all_eq_true] at hh
   rw[hh a ha] at h1
   cases h1
  ·intro hh
   rw[Bool.eq_false_iff] at hh
   apply Classical.byContradiction
   intro hn
   apply hh
   rw[List.all_eq_true]
   intro a ha
   cases hd:decide (okF a) with
   | true=>rfl
   | false=>exact (hn ⟨a,ha,by rw[hd];rfl⟩).elim
 unfold dw lP
 rw[HM h,aa,hc,aa]
 rw[show decide ((l.length:Int)=s.2.length)=decide (l.length=s.2.length) from decide_eq_decide.2 (by omega)]
 cases okL l with
 | false=>rfl
 | true=>cases decide (l.length=s.2.length)<;>rfl
theorem PO {s:Sy} (h:fN s=true) {l:List Fq} (ho:∀a ∈ l,okF a) (hlen:l.length=s.2.length) :
  bw s l=bif (List.range' 0 s.1.length).all (G1 s l) then some (bE s.1.length fun i=>prQ (uM s l i),0,()) else some ([],5,()):=by
 have hV:=hO h
 have hb:=hV.bl
 have hr:=hV.rl
 have hz:cG 0=some (prQ 0):=rfl
 unfold bw fB
 rw[vt h (by omega),aa,jV.2 ho,z7 hlen]
 simp only[cT,decide_true,Bool.not_true,cF]
 unfold I5
 refine LY s.1.length (by omega) (fun i=>(bE i (fun i=>prQ (uM s l i)),(0:Int),(i:Int),PUnit.unit)) (G1 s l) rfl (fun again i hi=>?_) (fun again=>?_)
 ·obtain ⟨out,hout⟩:∃out,out=bE i (fun i=>prQ (uM s l i)):=⟨_,rfl⟩
  have hol:out.length=i:=by rw[hout,aK]
  have hnx:bE (i+1) (fun i=>prQ (uM s l i))=out++[prQ (uM s l i)]:=by rw[hout,tE]
  simp only[hnx,<-hout]
  have hM:(sN s.1.length s.2.length (Mx s)).getD i []=bE s.2.length (Mx s i):=mZ hi
  have hwt:=hV.wt i hi
  have hlr:(bE s.2.length (Mx s i)).length=s.2.length:=aK
  simp only[gb,ba,z7 hi,z7 (show (i:Int)<s.1.length by omega),cT,z9,hM,hz,aa]
  refine (kg (α:=Int×Fq×PUnit) (bE s.2.length (Mx s i)).length (by omega) (fun k (q:{q:Rat // eF q})=>((k:Int),prQ q.1,PUnit.unit))
   (fun k q K=>if h:eF ((((bE s.2.length (Mx s i)).getD k 0:Int):Rat)*qv (l.getD k (0,0)))/\eF (q.1+(((bE s.2.length (Mx s i)).getD k 0:Int):Rat)*qv (l.getD k (0,0))) then K ⟨_,h.2⟩ else some ([],5,()))
   (fun q=>bif decide (eF (((bwS s i:Int):Rat) - q.1)) then again (out++[prQ (((bwS s i:Int):Rat) - q.1)],0,((i+1:Nat):Int),PUnit.unit) else some ([],5,())) ?_ ?_ ⟨0,by decide⟩).trans ?_
  ·intro again1 k q hk
   rw[hlr] at hk
   obtain ⟨q,hq⟩:=q
   have hkl:k<l.length:=by omega
   have ha:okF (l.getD k (0,0)):=by rw[be hkl];exact ho _ (List.getElem_mem _)
   have hg:(bE s.2.length (Mx s i)).getD k 0=Mx s i k:=bJ hk
   have hbd:=EV hV i hk
   have hp:=Nj (n:=Mx s i k) hq (by omega) ha
   simp only[ba,aK,z7 hk,z7 hkl,z7 (show (k:Int)<l.length by omega),cT,z9,hg,hp,aa,gp (show k<=1000000 by omega)]
   by_cases c:eF ((Mx s i k:Rat)*qv (l.getD k (0,0)))/\eF (q+(Mx s i k:Rat)*qv (l.getD k (0,0)))
   ·rw[dif_pos c,if_pos c]
    simp only[decide_true,Bool.not_true,cF]
   ·rw[dif_neg c,if_neg c]
    rfl
  ·intro again1 q
   obtain ⟨q,hq⟩:=q
   have hS:=Pn (uZ (n:=bwS s i) (by omega) (by omega)) (mi hq)
   rw[Bp,qi] at hS
   have hwS:cG (List.getD s.1 i ({ data:={ toList:=[] } },(0:Int))).2=some (bwS s i,1):=rfl
   simp only[hlr,hlen,z8 (show ¬ (s.2.length:Int)<s.2.length by omega),cF,hwS,aa,hS]
   rcases kQ (((bwS s i:Int):Rat) - q) with ⟨f2,e2⟩ | ⟨f2,e2⟩
   ·rw[z7 f2]
    simp only[e2,decide_true,Bool.not_true,cF,cT,gp (show i<=1000000 by omega),fp (show (out.length+1)*16<=140737488355328 by omega)]
   ·rw[z8 f2]
    simp only[e2]
    rfl
  ·rw[F9 (cur:=fun q:{q:Rat // eF q}=>q.1) (bad:=some ([],5,())) (good:=fun q=>bif decide (eF (((bwS s i:Int):Rat) - q)) then again (out++[prQ (((bwS s i:Int):Rat) - q)],0,((i+1:Nat):Int),PUnit.unit) else some ([],5,())) (l:=bE s.2.length (Mx s i)) (x:=l) (by omega) (fun k q h=>⟨_,h⟩) (fun _ _ _=>rfl) (fun _ _ _ _=>rfl) (fun _=>rfl) (bE s.2.length (Mx s i)).length 0 ⟨0,by decide⟩ (by omega)]
   simp only[List.drop_zero]
   rw[show fC (bE s.2.length (Mx s i)) l 0=Ge s l i from rfl]
   unfold G1 uM
   cases hq:Ge s l i with
   | none=>rfl
   | some q=>rfl
 ·simp only[gb,z8 (show ¬ (s.1.length:Int)<s.1.length by omega),cF,decide_true,Bool.not_true]
def eqB (s:Sy) (l:List Fq):Bool:=(List.range' 0 s.1.length).all fun i=>decide (uM s l i=0)
def nu (s:Sy) (l:List Fq):Bool:=(List.range' 0 s.1.length).all (G1 s l)
theorem G5 {q:Rat}:(prQ q).1=0↔q=0:=Rat.num_eq_zero
theorem vL {s:Sy} (h:fN s=true) {l:List Fq} (hl:l.length<=1000000):cV s l=some (bif okL l then bif decide (l.length=s.2.length) then bif nu s l then (eqB s l,0,()) else (false,5,()) else (false,3,()) else (false,1,())):=by
 unfold cV lG
 cases ho:okL l with
 | false =>
  have hr:bw s l=some ([],1,()):=by
   unfold bw fB
   rw[vt h hl,aa,ho]
   rfl
  rw[hr]
  rfl
 | true =>
  by_cases hn:l.length=s.2.length
  ·have hb:=(hO h).bl
   rw[PO h (jV.1 ho) hn,z7 hn]
   rw[show ((List.range' 0 s.1.length).all (G1 s l))=nu s l from rfl]
   cases hr:nu s l with
   | false=>rfl
   | true =>
    have hc:ai (bE s.1.length fun i=>prQ (uM s l i)) (fun x=>du x.1)=some (!eqB s l):=by
     rw[HL (p:=fun a=>!decide (a.1=0)) (by rw[aK];omega) (fun a _=>by simp only[du,jE])]
     congr 1
     unfold eqB
     rw[Bool.eq_iff_iff,List.any_eq_true,Bool.not_eq_true',Bool.eq_false_iff,Ne,List.all_eq_true]
     constructor
     ·rintro ⟨a,ha,h1⟩ hh
      obtain ⟨i,hi,rfl⟩:=rI.1 ha
      have:=z12 (hh i (jr hi))
      rw[z7 (G5.2 this)] at h1
      cases h1
     ·intro hh
      apply Classical.byContradiction
      intro hn
      apply hh
      intro i hi
      obtain ⟨k,hk,rfl⟩:=List.mem_range'.1 hi
      refine z7 (Classical.byContradiction fun h0=>hn ⟨prQ (uM s l (0+1*k)),rI.2 ⟨_,by omega,rfl⟩,?_⟩)
      rw[z8 fun e=>h0 (G5.1 e)]
      rfl
    simp only[cT,aa,decide_true,Bool.not_true,cF,hc,Bool.not_not]
  ·have hr:bw s l=some ([],3,()):=by
    unfold bw fB
    rw[vt h hl,aa,ho,z8 hn]
    rfl
   rw[hr,z8 hn]
   rfl
theorem HK {s:Sy} {l:List Fq} (hn:l.length=s.2.length) (hr:nu s l=true):eqB s l=true↔EqS s (vX l):=by
 unfold nu at hr
 unfold eqB
 rw[List.all_eq_true] at hr ⊢
 have e:∀i,i<s.1.length->uM s l i=((bwS s i:Int):Rat) - sq s.2.length fun j=>((Mx s i j:Int):Rat)*vX l j:=fun i hi=>by
  have h1:=hr i (jr hi)
  unfold G1 at h1
  rw[z10] at h1
  have h2:=rB (l:=bE s.2.length (Mx s i)) (x:=l) (by rw[aK];omega) h1.1
  unfold uM Ge
  rw[h2,aK]
  congr 1
  exact dW fun j hj=>by rw[bJ hj]
 constructor
 ·intro h i hi
  have h1:=z12 (h i (jr hi))
  rw[e i hi] at h1
  grind
 ·intro h i hi
  obtain ⟨k,hk,rfl⟩:=List.mem_range'.1 hi
  refine z7 ?_
  have h1:=h (0+1*k) (by omega)
  rw[e _ (by omega),h1]
  grind
theorem Fv {s:Sy} (h:fN s=true) {c:List Int} (hc:c.length=s.2.length) {l:List Fq} (ho:∀a ∈ l,okF a) (hn:l.length=s.2.length) (hf:AN (ep s c) l=true) (hF:(al (ep s c)).Feas (vX l)):cV s l=some (true,0,()):=by
 have hr:=(hO h).rl
 obtain ⟨hpos,hE⟩:=(AH hc).1 hF
 have hsome:∀i,i<s.1.length->(Ge s l i).isSome=true:=fun i hi=>by
  unfold AN at hf
  rw[List.all_eq_true] at hf
  exact hf (lY s i) (rI.2 ⟨i,hi,rfl⟩)
 have h0:∀i,i<s.1.length->uM s l i=0:=fun i hi=>by
  have h2:=rB (l:=bE s.2.length (Mx s i)) (x:=l) (by rw[aK];omega) (hsome i hi)
  unfold uM Ge
  rw[h2,aK,dW (g:=fun j=>((Mx s i j:Int):Rat)*vX l j) fun j hj=>by rw[bJ hj],hE i hi]
  grind
 have hall:nu s l=true:=List.all_eq_true.2 fun i hi=>by
  obtain ⟨k,hk,rfl⟩:=List.mem_range'.1 hi
  unfold G1
  rw[hsome _ (by omega),h0 _ (by omega)]
  rfl
 rw[vL h (by omega),jV.2 ho,z7 hn,hall,(HK hn hall).2 hE]
 rfl
theorem H1 {l:List Fq} (ho:∀a ∈ l,okF a):(l.all fun a=>!decide (a.1<0))=true↔∀j,j<l.length->0<=vX l j:=by
 rw[HI (0,0)]
 constructor
 ·intro h j hj
  have h1:=h j hj
  rw[Bool.not_eq_true',decide_eq_false_iff_not] at h1
  exact (mN (ho _ (by rw[be hj];exact List.getElem_mem _))).2 (by omega)
 ·intro h j hj
  have h1:=(mN (ho (l.getD j (0,0)) (by rw[be hj];exact List.getElem_mem _))).1 (h j hj)
  rw[Bool.not_eq_true',decide_eq_false_iff_not]
  omega
theorem Gy {s:Sy} {r:Nat->Rat} (h:(al (ep s (dK s))).Ray r):False:=by
 have h1:=h.val
 have h2:0<=(al (ep s (dK s))).val r:=IU fun j hj=>by
  have hj':j<s.2.length:=by have:j<(dK s).length:=hj;rw[mw] at this;exact this
  have e:(al (ep s (dK s))).c j=1:=by
   show (dK s).getD j 0=1
   rw[be (by rw[mw];exact hj')]
   unfold dK
   exact List.getElem_replicate _
  rw[e]
  have:=h.pos j hj
  grind
 grind
end
end Go.Proofs.YtegbncajloeepaaGreat

namespace Go.Proofs.YtegbncajloeepaaGreat
open Tryz Dn Dn.Sh
end Go.Proofs.YtegbncajloeepaaGreat

namespace Go.Proofs.YtegbncajloeepaaGreat
noncomputable section
open Tryz Dn Dn.Sh
abbrev Cl:=List Fq×Bool×List Fq
theorem Jj:aN=some true:=by kernel_rfl
def D2 (c:Cl):Bool:=decide (c.1.length>30)||decide (c.2.2.length>30)
theorem NF (c:Cl):aV c=some (D2 c):=by
 simp only[aV,pt]
 unfold D2
 rw[show decide ((c.1.length:Int)>30)=decide (c.1.length>30) from decide_eq_decide.2 (by omega),show decide ((c.2.2.length:Int)>30)=decide (c.2.2.length>30) from decide_eq_decide.2 (by omega)]
 cases decide (c.1.length>30)<;>rfl
theorem JQ {c:Cl} (h:D2 c=false):c.1.length<=30/\c.2.2.length<=30:=by
 unfold D2 at h
 rw[Bool.or_eq_false_iff,decide_eq_false_iff_not,decide_eq_false_iff_not] at h
 omega
def eA (c:Cl):List Fq:=bif c.2.1 then c.2.2 else c.1
def mS (c:Cl):List Fq:=bif c.2.1 then c.1 else c.2.2
theorem Jz (c:Cl):bU c=some (eA c,mS c,()):=by
 obtain ⟨a,r,b⟩:=c
 simp only[bU,lB]
 cases r<;>rfl
theorem FA {a b:List Fq} (ha:a.length<=1000000) (hb:b.length<=1000000):cW [a,b]=some (a++b):=by
 have two:lpK (List Fq×Int×PUnit) (List Fq) (fun (again:List Fq×Int×PUnit->Option (List Fq)) (x:List Fq×Int×PUnit)=>bif decide (x.2.1<(([a,b].length:Nat):Int)) then bif inB x.2.1 [a,b].length then
   bif dQ (x.1.length+([a,b].getD x.2.1.toNat []).length) 16 then again (x.1++[a,b].getD x.2.1.toNat [],IntKind.wrap .i64 (x.2.1+1),PUnit.unit) else none else none else some x.1) ([],(0:Int),PUnit.unit)=some (a++b):=by
  refine (HQ [a,b] ([]:List Fq) (by simp) (fun i (s:List Fq)=>(s,((i:Nat):Int),PUnit.unit)) (fun (x:List Fq) (s:List Fq) k=>bif dQ (s.length+x.length) 16 then k (s++x) else none) (fun s=>some s) (fun again i s hi=>?_) (fun again s=>?_) ([]:List Fq)).trans ?_
  ·have hi':i<2:=hi
   have hwr:IntKind.wrap .i64 ((i:Int)+1)=((i+1:Nat):Int):=by rw[aG (by omega) (by omega)];rfl
   simp only[ba,z7 hi,z7 (show (i:Int)<(([a,b].length:Nat):Int) by omega),cT,z9,hwr]
  ·simp only[z8 (show ¬ (([a,b].length:Nat):Int)<(([a,b].length:Nat):Int) by omega),cF]
  ·simp only[Ah,List.length_nil,Nat.zero_add,List.nil_append]
   rw[fp (by omega),cT,fp (by omega),cT]
 simp only[cW,jo,jnT]
 refine' (HQ [a,b] ([]:List Fq) (by simp) (fun i (s:Int)=>(s,((i:Nat):Int),PUnit.unit)) (fun (x:List Fq) (s:Int) k=>bif decide (IntKind.wrap .i64 (s+((x.length:Nat):Int))<0) then none else k (IntKind.wrap .i64 (s+((x.length:Nat):Int)))) _ ?_ ?_ (0:Int)).trans ?_
 rotate_left
 ·intro again i s hi
  have hi':i<2:=hi
  have hwr:IntKind.wrap .i64 ((i:Int)+1)=((i+1:Nat):Int):=by rw[aG (by omega) (by omega)];rfl
  simp only[ba,z7 hi,z7 (show (i:Int)<(([a,b].length:Nat):Int) by omega),cT,z9,hwr]
 ·intro again s
  simp only[z8 (show ¬ (([a,b].length:Nat):Int)<(([a,b].length:Nat):Int) by omega),cF]
  rfl
 ·simp only[Ah]
  rw[aG (x:=0+((a.length:Nat):Int)) (by omega) (by omega),z8 (show ¬ 0+((a.length:Nat):Int)<0 by omega),cF,aG (x:=0+((a.length:Nat):Int)+((b.length:Nat):Int)) (by omega) (by omega)]
  simp only[z8 (show ¬ 0+((a.length:Nat):Int)+((b.length:Nat):Int)<0 by omega),cF]
  have e0:IntKind.wrap .i64 ((0:Int) - 0)=0:=rfl
  rw[e0,aG (x:=0+((a.length:Nat):Int)+((b.length:Nat):Int) - 0) (by omega) (by omega)]
  simp only[Int.sub_zero]
  by_cases h:0+((a.length:Nat):Int)+((b.length:Nat):Int)>0
  ·rw[z7 h,cT,show slB (0:Int) (0:Int) 0=true from rfl,cT,fp (by omega),Fs (by omega) (by omega) (by omega),z7 (show 0<(0+((a.length:Nat):Int)+((b.length:Nat):Int)).toNat by omega)]
   simp only[Bool.and_self,cT]
   exact two
  ·rw[z8 h,cF]
   exact two
theorem I4 {c:Cl} (h1:c.1.length<=1000) (h2:c.2.2.length<=1000):bQ c=some (okL c.1&&okL c.2.2):=by
 simp only[bQ,lO,FA (show c.1.length<=1000000 by omega) (show c.2.2.length<=1000000 by omega),aa]
 rw[HL (p:=fun a=>!decide (okF a)) (by rw[List.length_append];omega) (fun a _=>by simp only[ef,kl,ll,aa]),aa,xy,Bool.not_not,List.all_append]
 rfl
def iX (c:Cl):Int:=bif okL c.1&&okL c.2.2 then bif decide (0<(mS c).length) then 19 else 0 else 1
def qw (s:Sy) (c:Cl):Bool×Int×Unit :=
 bif fN s then bif decide (iX c=0) then bif decide ((eA c).length=bif c.2.1 then s.1.length else s.2.length) then
  bif c.2.1 then bif qp (ep s (dK s)) (eA c)&&(pr (ep s (dK s)) (eA c)).isSome then (EU (ep s (dK s)) (eA c),0,()) else (false,5,())
  else bif nu s (eA c) then (eqB s (eA c)&&(eA c).all fun a=>!decide (a.1<0),0,()) else (false,5,())
  else (false,3,()) else (false,iX c,()) else (false,1,())
theorem yf {c:Cl} (h:iX c=0):(∀a ∈ eA c,okF a)/\(mS c).length=0:=by
 unfold iX at h
 cases hb:okL c.1&&okL c.2.2 with
 | false=>rw[hb,cF] at h;omega
 | true =>
  rw[hb,cT] at h
  rw[z10] at hb
  refine ⟨?_,?_⟩
  ·unfold eA
   cases c.2.1
   ·exact jV.1 hb.1
   ·exact jV.1 hb.2
  ·by_cases h0:0<(mS c).length
   ·rw[z7 h0,cT] at h;omega
   ·omega
theorem OO {l:List Fq}:(!l.any fun a=>decide (a.1<0))=l.all fun a=>!decide (a.1<0):=by
 rw[<-Bool.not_not (l.all _),<-xy]
 simp only[Bool.not_not]
theorem Ae (s:Sy) {c:Cl} (h1:c.1.length<=1000) (h2:c.2.2.length<=1000):aB s c=some (qw s c):=by
 simp only[aB,lN,Jz,Ci,I4 h1 h2,aa,rY]
 have hll:(eA c).length<=1000:=by unfold eA;cases c.2.1<;>assumption
 unfold qw
 cases hv:fN s with
 | false=>cases c.2.1<;>rfl
 | true =>
  have hV:=hO hv
  have hp:=yN hV
  have hpl:(ep s (dK s)).2.length=s.1.length:=aK
  have hg:(okL c.1&&okL c.2.2)=false\/(okL c.1&&okL c.2.2)=true/\decide (0<(mS c).length)=true\/iX c=0:=by
   unfold iX
   cases okL c.1&&okL c.2.2 with
   | false=>exact .inl rfl
   | true=>cases decide (0<(mS c).length) with
    | true=>exact .inr (.inl ⟨rfl,rfl⟩)
    | false=>exact .inr (.inr rfl)
  have ho:decide (((mS c).length:Int)>0)=decide (0<(mS c).length):=decide_eq_decide.2 (by omega)
  rcases hg with hg | ⟨hg,hg2⟩ | hg
  ·have e:iX c=1:=by unfold iX;rw[hg];rfl
   rw[e,hg]
   cases c.2.1<;>rfl
  ·have e:iX c=19:=by unfold iX;rw[hg,hg2];rfl
   rw[e,hg,ho,hg2]
   cases c.2.1<;>rfl
  ·obtain ⟨hok,hot⟩:=yf hg
   have hgB:(okL c.1&&okL c.2.2)=true:=by
    unfold iX at hg
    cases hb:okL c.1&&okL c.2.2 with
    | false=>rw[hb,cF] at hg;omega
    | true=>rfl
   rw[hg,hgB,ho,z8 (show ¬ 0<(mS c).length by omega)]
   simp only[decide_true,Bool.not_true,Bool.not_false,Bool.or_true,cT,cF,aa]
   have hpv:dy s (eA c)=some (bif decide ((eA c).length=s.1.length) then bif qp (ep s (dK s)) (eA c)&&(pr (ep s (dK s)) (eA c)).isSome then (EU (ep s (dK s)) (eA c),0,()) else (false,5,()) else (false,3,())):=by
    rw[FQ hv,qY (show (eA c).length<=1000000 by omega),gk.2 hp,jV.2 hok,hpl,aa]
    rfl
   have hcc:=vL hv (l:=eA c) (by omega)
   rw[jV.2 hok,cT] at hcc
   cases hc:c.2.1 with
   | true =>
    simp only[cT]
    by_cases hn:(eA c).length=s.1.length
    ·rw[z7 hn,z7 (show ((eA c).length:Int)=s.1.length by omega)]
     simp only[Bool.not_true,cF,cT,hpv,z7 hn,aa]
    ·rw[z8 hn,z8 (show ¬ ((eA c).length:Int)=s.1.length by omega)]
     rfl
   | false =>
    simp only[cF]
    by_cases hn:(eA c).length=s.2.length
    ·rw[z7 hn,z7 (show ((eA c).length:Int)=s.2.length by omega)]
     rw[z7 hn,cT] at hcc
     simp only[Bool.not_true,cF,cT,hcc,aa]
     cases nu s (eA c) with
     | false=>rfl
     | true =>
      simp only[cT,decide_true,Bool.not_true,Bool.or_true]
      cases eqB s (eA c) with
      | false=>rfl
      | true =>
       simp only[cT,Bool.not_true,Bool.or_true,Bool.true_and]
       rw[HL (p:=fun a=>decide (a.1<0)) (by omega) (fun a _=>by simp only[eg,jM]),aa,OO]
    ·rw[z8 hn,z8 (show ¬ ((eA c).length:Int)=s.2.length by omega)]
     rfl
end
end Go.Proofs.YtegbncajloeepaaGreat

namespace Go.Proofs.YtegbncajloeepaaGreat
open Tryz Dn Dn.Sh
structure TabR (m w:Nat) (L:Nat->Nat->Int) (t:List Nat×List (Option (List Int))):Prop where
 len:t.1.length=m
 cell:∀i,i<m->t.2.getD (t.1.getD i 0) none=some (bE w (L i))
 inj:∀i j,i<m->j<m->t.1.getD i 0=t.1.getD j 0->i=j
section
variable {m w:Nat} {L L':Nat->Nat->Int} {t:List Nat×List (Option (List Int))}
theorem TabR.row (h:TabR m w L t) {i:Nat} (hi:i<m):bG t.2 (t.1.getD i 0)=bE w (L i):=by unfold bG;rw[h.cell i hi];rfl
theorem TabR.live (h:TabR m w L t) {i:Nat} (hi:i<m):fH t.2 (t.1.getD i 0)=true:=by unfold fH;rw[h.cell i hi];rfl
theorem TabR.id_lt (h:TabR m w L t) {i:Nat} (hi:i<m):t.1.getD i 0<t.2.length:=by
 have h1:=h.cell i hi
 by_cases h2:t.1.getD i 0<t.2.length
 ·exact h2
 ·rw[List.getD_eq_getElem?_getD,List.getElem?_eq_none (by omega)] at h1
  cases h1
theorem TabR.congr (h:TabR m w L t) (e:∀i j,i<m->j<w->L i j=L' i j):TabR m w L' t :=
 ⟨h.len,fun i hi=>by rw[h.cell i hi,cX fun j hj=>e i j hi hj],h.inj⟩
theorem TabR.all (h:TabR m w L t):(t.1.all fun x=>fH t.2 x)=true:=by
 rw[List.all_eq_true]
 intro x hx
 obtain ⟨i,hi,he⟩:=List.mem_iff_getElem.1 hx
 have hi':i<m:=by rw[<-h.len];exact hi
 have:=h.live hi'
 rw[be hi,he] at this
 exact this
theorem TabR.map (h:TabR m w L t):t.1.map (fun x=>bG t.2 x)=sN m w L:=by
 refine List.ext_getElem (by rw[List.length_map,h.len,gb]) fun i h1 h2=>?_
 have hi:i<m:=by rw[gb] at h2;exact h2
 have hi':i<t.1.length:=by rw[h.len];exact hi
 have e1:=h.row hi
 rw[be hi'] at e1
 rw[List.getElem_map,e1]
 have e2:=mZ (w:=w) (T:=L) hi
 rw[be h2] at e2
 exact e2.symm
theorem TabR.put (h:TabR m w L t) {i j:Nat} {x:Int} (hi:i<m) (hj:j<w) (e:∀k l,k<m->l<w->(if k=i/\l=j then x else L k l)=L' k l) :
  TabR m w L' (t.1,t.2.set (t.1.getD i 0) (some ((bE w (L i)).set j x))):=by
 refine ⟨h.len,fun k hk=>?_,h.inj⟩
 show (t.2.set (t.1.getD i 0) (some ((bE w (L i)).set j x))).getD (t.1.getD k 0) none=_
 have hl:=h.id_lt hi
 rw[List.getD_eq_getElem?_getD,List.getElem?_set]
 by_cases c:i=k
 ·subst c
  rw[if_pos rfl,if_pos hl,jZ hj]
  show some _=some _
  congr 1
  refine cX fun l hl=>?_
  rw[<-e i l hi hl]
  by_cases c2:l=j
  ·rw[if_pos c2,if_pos ⟨rfl,c2⟩]
  ·rw[if_neg c2,if_neg fun h=>c2 h.2]
 ·rw[if_neg fun h'=>c (h.inj i k hi hk h'),<-List.getD_eq_getElem?_getD,h.cell k hk]
  congr 1
  refine cX fun l hl=>?_
  rw[<-e k l hk hl,if_neg fun h=>c h.1.symm]
def swp (a b i:Nat):Nat:=if i=a then b else if i=b then a else i
theorem xA (a b i:Nat):swp a b (swp a b i)=i:=by unfold swp;(repeat' split)<;>omega
theorem qP {a b i:Nat} (ha:a<m) (hb:b<m) (hi:i<m):swp a b i<m:=by unfold swp;(repeat' split)<;>omega
theorem Ns {l:List Nat} {a b i:Nat} (ha:a<l.length) (hb:b<l.length):((l.set a (l.getD b 0)).set b (l.getD a 0)).getD i 0=l.getD (swp a b i) 0:=by
 rw[List.getD_eq_getElem?_getD,List.getElem?_set,List.length_set,List.getElem?_set]
 unfold swp
 by_cases c1:i=a
 ·subst c1
  by_cases c2:b=i
  ·subst c2
   rw[if_pos rfl,if_pos ha,if_pos rfl]
   rfl
  ·rw[if_neg c2,if_pos rfl,if_pos ha,if_pos rfl]
   rfl
 ·by_cases c2:b=i
  ·subst c2
   rw[if_pos rfl,if_pos hb,if_neg c1,if_pos rfl]
   rfl
  ·rw[if_neg c2,if_neg (fun h=>c1 h.symm),if_neg c1,if_neg (fun h=>c2 h.symm),List.getD_eq_getElem?_getD]
theorem TabR.swap (h:TabR m w L t) {a b:Nat} (ha:a<m) (hb:b<m):TabR m w (fun i=>L (swp a b i)) ((t.1.set a (t.1.getD b 0)).set b (t.1.getD a 0),t.2++[]++[]):=by
 have e:=fun i=>Ns (l:=t.1) (a:=a) (b:=b) (i:=i) (by rw[h.len];exact ha) (by rw[h.len];exact hb)
 refine ⟨by rw[List.length_set,List.length_set];exact h.len,fun i hi=>?_,fun i j hi hj he=>?_⟩
 ·show (t.2++[]++[]).getD (((t.1.set a (t.1.getD b 0)).set b (t.1.getD a 0)).getD i 0) none=_
  rw[e,List.append_nil,List.append_nil,h.cell _ (qP ha hb hi)]
 ·have he':((t.1.set a (t.1.getD b 0)).set b (t.1.getD a 0)).getD i 0=((t.1.set a (t.1.getD b 0)).set b (t.1.getD a 0)).getD j 0:=he
  rw[e,e] at he'
  have:=h.inj _ _ (qP ha hb hi) (qP ha hb hj) he'
  rw[<-xA a b i,this,xA]
end
def Cc (w:Nat) (N:Nat->Nat->Int):Nat->Nat->Int:=fun i j=>if j<w then N i j else if j=w+i then 1 else 0
section
variable {m w:Nat} {a b:Nat}
theorem Tm {f:Nat->Int} (ha:a<m) (hb:b<m) (hab:a≠b):sz m (fun i=>f (swp a b i))=sz m f:=by
 have e:sz m (fun i=>f (swp a b i))=sz m fun i=>f i+((if i=a then f b - f a else 0)+(if i=b then f a - f b else 0)):=bq fun i hi=>by
  unfold swp
  by_cases h1:i=a
  ·subst h1
   rw[if_pos rfl,if_pos rfl,if_neg hab]
   omega
  ·rw[if_neg h1,if_neg h1]
   by_cases h2:i=b
   ·subst h2
    rw[if_pos rfl,if_pos rfl]
    omega
   ·rw[if_neg h2,if_neg h2]
    omega
 rw[e,om,om,fj ha (f:=fun i=>if i=a then f b - f a else 0) (fun i _ hne=>if_neg hne),fj hb (f:=fun i=>if i=b then f a - f b else 0) (fun i _ hne=>if_neg hne)]
 simp only[if_true]
 omega
theorem Ll {M:Nat->Nat->Int} {γ:Nat->Nat} (ha:a<m) (hb:b<m) (hab:a≠b):dc m M (fun k=>γ (swp a b k))= - dc m M γ:=by
 have e1:eO M (fun k=>γ (swp a b k))=bR (bR (eO M γ) a fun i=>M i (γ b)) b fun i=>M i (γ a):=by
  funext i k
  show M i (γ (if k=a then b else if k=b then a else k))=if k=b then M i (γ a) else if k=a then M i (γ b) else M i (γ k)
  by_cases h1:k=b
  ·subst h1
   rw[if_neg (Ne.symm hab),if_pos rfl,if_pos rfl]
  ·rw[if_neg h1,if_neg h1]
   by_cases h2:k=a
   ·rw[if_pos h2,if_pos h2]
   ·rw[if_neg h2,if_neg h2]
 have e2:eO M γ=bR (bR (eO M γ) a fun i=>M i (γ a)) b fun i=>M i (γ b):=by
  funext i k
  show M i (γ k)=if k=b then M i (γ b) else if k=a then M i (γ a) else M i (γ k)
  by_cases h1:k=b
  ·rw[if_pos h1,h1]
  ·rw[if_neg h1]
   by_cases h2:k=a
   ·rw[if_pos h2,h2]
   ·rw[if_neg h2]
 have e3:det m (eO M γ)=det m (bR (bR (eO M γ) a fun i=>M i (γ a)) b fun i=>M i (γ b)):=by rw[<-e2]
 unfold dc
 rw[e1,Dv ha hb hab,e3]
theorem Dn.Tb.swap {W:Nat} {M T:Nat->Nat->Int} {d:Int} {β:Nat->Nat} (h:Tb m W M T d β) (ha:a<m) (hb:b<m) (hab:a≠b):Tb m W M (fun i=>T (swp a b i)) d (fun i=>β (swp a b i)):=by
 refine ⟨h.dpos,fun i hi=>h.lt _ (qP ha hb hi),fun k hk j hj=>?_,?_⟩
 ·rw[Tm (f:=fun i=>T i j*M k (β i)) ha hb hab]
  exact h.co k hk j hj
 ·obtain ⟨σ,h1,h2,h3⟩:=h.cr
  refine ⟨-σ,by rw[Int.neg_mul_neg];exact h1,by rw[Ll ha hb hab,Int.neg_mul_neg];exact h2,fun i hi j hj=>?_⟩
  have e:upd (fun i=>β (swp a b i)) i j=fun k=>upd β (swp a b i) j (swp a b k):=by
   funext k
   unfold upd
   by_cases c:k=i
   ·rw[if_pos c,c,if_pos rfl]
   ·rw[if_neg c,if_neg fun h=>c (by rw[<-xA a b k,h,xA])]
  rw[e,Ll ha hb hab,Int.neg_mul_neg]
  exact h3 _ (qP ha hb hi) j hj
end
structure ElBnd (m w c:Nat) (N:Nat->Nat->Int):Prop where
 hm:1<=m/\m<=1000
 hw:w<=1000
 hc:c<=w
 b:∀T d β,Tb m (w+m) (Cc w N) T d β->(∀i,i<m->β i<c\/w<=β i)->∀i j,i<m->j<w+m->ab (T i j)<4611686018427387904
structure El (m w c:Nat) (N:Nat->Nat->Int) (C k:Nat) (p:Nat->Nat) (L:Nat->Nat->Int) (e:Int) (T:Nat->Nat->Int) (d:Int) (β:Nat->Nat) (s:Int):Prop where
 tb:Tb m (w+m) (Cc w N) T d β
 cc:C<=c
 s1:s=1\/s= -1
 le:∀i j,i<m->j<w->L i j=s*T i j
 de:e=s*d
 km:k<=m
 bp:∀i,i<k->β i=p i/\p i<C
 inc:∀i j,i<j->j<k->p i<p j
 bs:∀i,k<=i->i<m->w<=β i
 z:∀i j,k<=i->i<m->j<C->T i j=0
section
variable {m w c:Nat} {N:Nat->Nat->Int} {C k:Nat} {p:Nat->Nat} {L:Nat->Nat->Int} {e:Int} {T:Nat->Nat->Int} {d:Int} {β:Nat->Nat} {s:Int}
theorem El.first (_:m<=1000):El m w c N 0 0 (fun _=>0) N 1 (Cc w N) 1 (fun i=>w+i) 1:=by
 refine ⟨Tb.first (fun i hi=>by omega) (fun k hk i hi=>?_),Nat.zero_le _,.inl rfl,fun i j hi hj=>?_,rfl,Nat.zero_le _,fun i hi=>by omega,fun i j _ hj=>by omega,fun i _ _=>Nat.le_add_right _ _,fun i j _ _ hj=>by omega⟩
 ·unfold Cc
  rw[if_neg (by omega)]
  by_cases h:k=i
  ·rw[if_pos (by omega),if_pos h]
  ·rw[if_neg (by omega),if_neg h]
 ·unfold Cc
  rw[if_pos hj,Int.one_mul]
theorem El.swap (h:El m w c N C k p L e T d β s) {a b:Nat} (ha:k<=a/\a<m) (hb:k<=b/\b<m) (hab:a≠b):El m w c N C k p (fun i=>L (swp a b i)) e (fun i=>T (swp a b i)) d (fun i=>β (swp a b i)) s:=by
 have hs:∀i,i<k->swp a b i=i:=fun i hi=>by unfold swp;rw[if_neg (by omega),if_neg (by omega)]
 have hs2:∀i,k<=i->k<=swp a b i:=fun i hi=>by unfold swp;(repeat' split)<;>omega
 refine ⟨h.tb.swap ha.2 hb.2 hab,h.cc,h.s1,fun i j hi hj=>h.le _ j (qP ha.2 hb.2 hi) hj,h.de,h.km,fun i hi=>?_,h.inc,fun i h1 h2=>h.bs _ (hs2 i h1) (qP ha.2 hb.2 h2),fun i j h1 h2 h3=>h.z _ j (hs2 i h1) (qP ha.2 hb.2 h2) h3⟩
 show β (swp a b i)=p i/\_
 rw[hs i hi]
 exact h.bp i hi
theorem El.sne (h:El m w c N C k p L e T d β s):s*s=1:=by rcases h.s1 with h | h<;>rw[h]<;>rfl
theorem El.ene (h:El m w c N C k p L e T d β s):e≠0:=by
 have:=h.tb.dpos
 rw[h.de]
 rcases h.s1 with h | h<;>rw[h]<;>omega
theorem El.skip (h:El m w c N C k p L e T d β s) (hC:C<c) (hw:c<=w) (h0:∀i,k<=i->i<m->L i C=0):El m w c N (C+1) k p L e T d β s:=by
 refine ⟨h.tb,hC,h.s1,h.le,h.de,h.km,fun i hi=>⟨(h.bp i hi).1,by have:=(h.bp i hi).2;omega⟩,h.inc,h.bs,fun i j h1 h2 h3=>?_⟩
 by_cases c:j=C
 ·subst c
  have h4:=h.le i j h2 (by omega)
  rw[h0 i h1 h2] at h4
  rcases h.s1 with h5 | h5<;>rw[h5] at h4<;>omega
 ·exact h.z i j h1 h2 (by omega)
def elq (L:Nat->Nat->Int) (e:Int) (r c i j:Nat):Int:=(L i j*L r c - L i c*L r j) / e
def elL (L:Nat->Nat->Int) (e:Int) (r c:Nat):Nat->Nat->Int:=fun i j=>if i=r then L r j else elq L e r c i j
theorem El.exact (h:El m w c N C k p L e T d β s) (hk:k<m) (hC:C<w) {i j:Nat} (hi:i<m) (hne:i≠k) (hj:j<w) :
  e*elq L e k C i j=L i j*L k C - L i C*L k j/\elq L e k C i j=s*piv T d k C i j:=by
 have h1:=jy h.tb hk hi (Ne.symm hne) (show C<w+m by omega) (show j<w+m by omega)
 have h2:L i j*L k C - L i C*L k j=e*(s*piv T d k C i j):=by
  rw[h.le i j hi hj,h.le k C hk hC,h.le i C hi hC,h.le k j hk hj,h.de]
  have h3:=h.sne
  have h4:s*d*(s*piv T d k C i j)=s*s*(d*piv T d k C i j):=by grind
  rw[h4,h1,h3]
  have h5:s*T i j*(s*T k C) - s*T i C*(s*T k j)=s*s*(T k C*T i j - T i C*T k j):=by grind
  rw[h5,h3]
 have h6:elq L e k C i j=s*piv T d k C i j:=by
  unfold elq
  rw[h2,Int.mul_ediv_cancel_left _ h.ene]
 exact ⟨by rw[h6,h2],h6⟩
theorem El.pivot (h:El m w c N C k p L e T d β s) (hk:k<m) (hC:C<c) (hw:c<=w) (h0:L k C≠0) :
  El m w c N (C+1) (k+1) (upd p k C) (elL L e k C) (L k C) (oo T d k C) (sg (T k C)*T k C) (upd β k C) (s*sg (T k C)):=by
 have hT:T k C≠0:=fun h1=>h0 (by rw[h.le k C hk (by omega),h1,Int.mul_zero])
 have hs1:sg (T k C)=1\/sg (T k C)= -1:=by unfold sg;split<;>omega
 refine ⟨h.tb.step hk (by omega) hT,hC,?_,fun i j hi hj=>?_,?_,hk,fun i hi=>?_,fun i j h1 h2=>?_,fun i h1 h2=>?_,fun i j h1 h2 h3=>?_⟩
 ·rcases h.s1 with h1 | h1<;>rcases hs1 with h2 | h2<;>rw[h1,h2]<;>simp
 ·have e0:s*sg (T k C)*(sg (T k C)*(if i=k then T k j else piv T d k C i j))=s*(if i=k then T k j else piv T d k C i j):=by
   have:=FN (T k C)
   grind
  unfold oo
  rw[e0]
  unfold elL
  by_cases c:i=k
  ·rw[if_pos c,if_pos c]
   exact h.le k j hk hj
  ·rw[if_neg c,if_neg c]
   exact (h.exact hk (by omega) hi c hj).2
 ·have:=FN (T k C)
  rw[h.le k C hk (by omega)]
  grind
 ·unfold upd
  by_cases c:i=k
  ·rw[if_pos c,if_pos c]
   exact ⟨rfl,by omega⟩
  ·rw[if_neg c,if_neg c]
   have:=h.bp i (by omega)
   exact ⟨this.1,by omega⟩
 ·unfold upd
  rw[if_neg (by omega)]
  by_cases c:j=k
  ·rw[if_pos c]
   exact (h.bp i (by omega)).2
  ·rw[if_neg c]
   exact h.inc i j h1 (by omega)
 ·unfold upd
  rw[if_neg (by omega)]
  exact h.bs i (by omega) h2
 ·unfold oo
  rw[if_neg (by omega)]
  have h4:T k C*T i j - T i C*T k j=0:=by
   by_cases c:j=C
   ·subst c
    rw[Int.mul_comm]
    omega
   ·rw[h.z i j (by omega) h2 (by omega),h.z k j (Nat.le_refl _) hk (by omega)]
    simp
  unfold piv
  rw[h4]
  simp
theorem El.bound (h:El m w c N C k p L e T d β s) (hB:ElBnd m w c N):(∀i j,i<m->j<w->(L i j).natAbs<4611686018427387904)/\e.natAbs<4611686018427387904:=by
 have hb:=hB.b T d β h.tb fun i hi=>by
  by_cases h1:i<k
  ·have:=h.bp i h1
   have:=h.cc
   exact .inl (by omega)
  ·exact .inr (h.bs i (by omega) hi)
 have key:∀x:Int,ab x<4611686018427387904->(s*x).natAbs<4611686018427387904:=fun x hx=>by
  unfold ab at hx
  rcases h.s1 with h1 | h1<;>rw[h1]<;>omega
 refine ⟨fun i j hi hj=>?_,?_⟩
 ·rw[h.le i j hi hj]
  exact key _ (hb i j hi (by omega))
 ·rw[h.de]
  refine key _ ?_
  have hm:=hB.hm
  have:=hb 0 (β 0) (by omega) (h.tb.lt 0 (by omega))
  rwa [h.tb.basis (show 0<m by omega)] at this
end
theorem Bz {x y:Int} (hx:1<=x) (hy:x<=y):∀{n i:Nat},pz n (fun q=>if q=i then y else x)<=y*x ^ n
 | 0,i=>by
  simp only[pz,Int.pow_zero]
  omega
 | n+1,0=>by
  show y*pz n (fun q=>if q+1=0 then y else x)<=_
  have e:pz n (fun q=>if q+1=0 then y else x)<=x ^ (n+1):=by
   have:∀k:Nat,pz k (fun q=>if q+1=0 then y else x)=x ^ k:=fun k=>by
    induction k with
    | zero=>exact (Int.pow_zero x).symm
    | succ k ih =>
     show x*pz k (fun q=>if q+1+1=0 then y else x)=_
     have e2:(fun q:Nat=>if q+1+1=0 then y else x)=fun q:Nat=>if q+1=0 then y else x:=by
      funext q
      rw[if_neg (by omega),if_neg (by omega)]
     rw[e2,ih,Int.pow_succ,Int.mul_comm]
   rw[this,Int.pow_succ]
   have h1:0<=x ^ n:=Int.pow_nonneg (by omega)
   have h2:x ^ n*1<=x ^ n*x:=Int.mul_le_mul_of_nonneg_left hx h1
   omega
  exact Int.mul_le_mul_of_nonneg_left e (by omega)
 | n+1,i+1=>by
  show x*pz n (fun q=>if q+1=i+1 then y else x)<=_
  have e2:(fun q:Nat=>if q+1=i+1 then y else x)=fun q:Nat=>if q=i then y else x:=by
   funext q
   by_cases c:q=i
   ·rw[if_pos (by omega),if_pos c]
   ·rw[if_neg (by omega),if_neg c]
  rw[e2,Int.pow_succ]
  have h1:=Bz hx hy (n:=n) (i:=i)
  have h2:x*pz n (fun q=>if q=i then y else x)<=x*(y*x ^ n):=Int.mul_le_mul_of_nonneg_left h1 (by omega)
  have e3:y*(x ^ n*x)=x*(y*x ^ n):=by grind
  rw[e3]
  exact h2
def Ij (n:Nat) (N:Nat->Nat->Int) (b:Nat->Int):Nat->Nat->Int:=fun i j=>if j<n then N i j else b i
def EqN (m n:Nat) (N:Nat->Nat->Int) (b:Nat->Int) (x:Nat->Rat):Prop:=∀i,i<m->(sq n fun j=>((N i j:Int):Rat)*x j)=((b i:Int):Rat)
section
variable {m n:Nat} {N:Nat->Nat->Int} {b:Nat->Int} {k:Nat} {p:Nat->Nat} {L:Nat->Nat->Int} {e:Int} {T:Nat->Nat->Int} {d:Int} {β:Nat->Nat} {s:Int}
theorem El.row_eq (h:El m (n+1) n (Ij n N b) n k p L e T d β s) {x:Nat->Rat} (hx:EqN m n N b x) {i:Nat} (hi:i<m):(sq n fun j=>((T i j:Int):Rat)*x j)=((T i n:Int):Rat):=by
 have hr:∀j,j<n+1+m->T i j=sz m fun q=>T i (n+1+q)*Cc (n+1) (Ij n N b) q j:=fun j hj =>
  h.tb.rows (a:=fun q=>n+1+q) (fun q hq=>by omega) (fun q hq r hr=>by
   unfold Cc
   rw[if_neg (by omega)]
   by_cases c:q=r
   ·rw[if_pos (by omega),if_pos c]
   ·rw[if_neg (by omega),if_neg c]) hi hj
 have h1:∀j,j<n->((T i j:Int):Rat)=sq m fun q=>((T i (n+1+q):Int):Rat)*((N q j:Int):Rat):=fun j hj=>by
  rw[hr j (by omega),<-uN]
  refine dW fun q _=>?_
  unfold Cc Ij
  rw[if_pos (by omega),if_pos hj,Rat.intCast_mul]
 have h2:((T i n:Int):Rat)=sq m fun q=>((T i (n+1+q):Int):Rat)*((b q:Int):Rat):=by
  rw[hr n (by omega),<-uN]
  refine dW fun q _=>?_
  unfold Cc Ij
  rw[if_pos (by omega),if_neg (by omega),Rat.intCast_mul]
 have h3:(sq n fun j=>((T i j:Int):Rat)*x j)=sq n fun j=>sq m fun q=>((T i (n+1+q):Int):Rat)*(((N q j:Int):Rat)*x j):=dW fun j hj=>by
  rw[h1 j hj,Rat.mul_comm,<-vD]
  exact dW fun q _=>by grind
 rw[h3,<-Ca,h2]
 refine dW fun q hq=>?_
 rw[vD,hx q hq]
theorem El.row_val (h:El m (n+1) n (Ij n N b) n k p L e T d β s) {i:Nat} (hi:i<m):L i n=0↔T i n=0:=by
 rw[h.le i n hi (by omega)]
 rcases h.s1 with h1 | h1<;>rw[h1]<;>omega
theorem El.none (h:El m (n+1) n (Ij n N b) n k p L e T d β s) {i:Nat} (hk:k<=i) (hi:i<m) (h0:L i n≠0) (x:Nat->Rat):¬ EqN m n N b x:=fun hx=>by
 have h1:=h.row_eq hx hi
 rw[sA fun j hj=>by rw[h.z i j hk hi hj];exact Rat.zero_mul _] at h1
 exact h0 ((h.row_val hi).2 (Rat.intCast_inj.1 h1.symm))
end
def noC:Cl:=([],false,[])
def Vt (s:Sy) (c:Cl) (e:Int):Prop :=
 (e=5/\c=noC/\¬ gG (al (ep s (dK s)))) \/
 (e=0/\gG (al (ep s (dK s)))/\c.2.1=false/\c.2.2=[]/\c.1.length=s.2.length/\(∀a ∈ c.1,okF a)/\AN (ep s (dK s)) c.1=true/\(al (ep s (dK s))).Feas (vX c.1)/\cE s=some (c.1,0,())/\∃f,(f=12\/f=5)/\(gG (al (ep s (dK s)))->f=12)/\bP s=some ([],f,())) \/
 (e=0/\gG (al (ep s (dK s)))/\c.2.1=true/\c.1=[]/\c.2.2.length=s.1.length/\bO (ep s (dK s)) c.2.2=some (true,0,())/\cE s=some ([],22,())/\bP s=some (c.2.2,0,())/\∃y,(al (ep s (dK s))).Ref y)
theorem Io {s:Sy} (h:fN s=true):∃c e,aY s=some (c,e,())/\Vt s c e:=by
 have hV:=hO h
 have hp:=yN hV
 have hvp:=gk.2 hp
 have hpl:(ep s (dK s)).2.length=s.1.length:=aK
 obtain ⟨a,e,h1,h2⟩:=RQ hp
 obtain ⟨y,f,h3,h4⟩:=Gm (ep s (dK s))
 have ht:=MP h h1
 have hr:=Fu h h3
 unfold aY lV
 rw[ht,aa]
 rcases h2 with ⟨rfl,rfl,hf⟩ | ⟨rfl,rfl,hf,y0,hy0⟩ | ⟨_,_,_,_,r,hr1⟩ | ⟨rfl,hf,v,_,_,hlen,ho,hfx,_,hF,_⟩
 ·exact ⟨_,_,rfl,.inl ⟨rfl,rfl,hf⟩⟩
 ·rcases h4 with ⟨_,_,h⟩ | ⟨_,_,_,h⟩ | ⟨_,_,_,_,x,hx⟩ | ⟨rfl,_,_,hly,hR,hy⟩
  ·rw[hvp] at h;cases h
  ·exact (h hf).elim
  ·exact (hy0.none hx).elim
  ·simp only[show decide ((22:Int)=0)=false from rfl,cF,decide_true,cT,hr,aa,Bool.not_true]
   exact ⟨_,_,rfl,.inr (.inr ⟨rfl,hf,rfl,rfl,by rw[hpl] at hly;exact hly,hR,ht,hr,hy⟩)⟩
 ·exact (Gy hr1).elim
 ·rcases h4 with ⟨_,_,h⟩ | ⟨_,_,_,h⟩ | ⟨rfl,rfl,_⟩ | ⟨_,_,_,_,_,y1,hy1⟩
  ·rw[hvp] at h;cases h
  ·exact (h hf).elim
  ·simp only[decide_true,cT]
   exact ⟨_,_,rfl,.inr (.inl ⟨rfl,hf,rfl,rfl,hlen.trans mw,ho,hfx,hF,ht,12,.inl rfl,fun _=>rfl,hr⟩)⟩
  ·exact (hy1.none hF).elim
theorem Fa {s:Sy} (h:fN s=true) {c:Cl} (hc:Vt s c 0):qw s c=(true,0,())/\c.1.length<=6/\c.2.2.length<=6:=by
 have hV:=hO h
 have hp:=yN hV
 have hbl:=hV.bl
 have hrl:=hV.rl
 obtain ⟨a,r,b⟩:=c
 rcases hc with ⟨h5,_⟩ | ⟨_,_,hc1,hc2,hlen,ho,hfx,hF,_⟩ | ⟨_,_,hc1,hc2,hlen,hR,_⟩
 ·cases h5
 ·simp only at hc1 hc2 hlen ho hfx hF
  subst hc1 hc2
  have hg:iX (a,false,[])=0:=by
   unfold iX mS
   rw[show okL (a,false,([]:List Fq)).1=true from jV.2 ho]
   rfl
  have hck:=Fv h mw ho hlen hfx hF
  have hcc:=vL h (l:=a) (by omega)
  rw[jV.2 ho,z7 hlen,cT,cT,hck] at hcc
  have hpos:(a.all fun a=>!decide (a.1<0))=true:=(H1 ho).2 fun j hj=>hF.pos j (by show j<(dK s).length;rw[mw];omega)
  refine ⟨?_,by show a.length<=6;omega,by show 0<=6;omega⟩
  unfold qw
  rw[h,hg]
  show (bif decide (a.length=s.2.length) then bif nu s a then (eqB s a&&a.all fun a=>!decide (a.1<0),0,()) else (false,5,()) else (false,3,()))=_
  rw[z7 hlen,cT,hpos]
  cases hra:nu s a with
  | false=>rw[hra] at hcc;cases hcc
  | true =>
   rw[hra,cT] at hcc
   injection hcc with hcc
   have:eqB s a=true:=(congrArg Prod.fst hcc).symm
   rw[this]
   rfl
 ·simp only at hc1 hc2 hlen hR
  subst hc1 hc2
  rw[qY (show b.length<=1000000 by omega)] at hR
  have hpl:(ep s (dK s)).2.length=s.1.length:=aK
  rw[gk.2 hp,hpl,z7 hlen,cT,Bool.true_and] at hR
  cases ho:okL b with
  | false=>rw[ho] at hR;cases hR
  | true =>
   rw[ho,cT] at hR
   have hg:iX ([],true,b)=0:=by
    unfold iX mS
    rw[show okL ([],true,b).2.2=true from ho]
    rfl
   refine ⟨?_,by show 0<=6;omega,by show b.length<=6;omega⟩
   unfold qw
   rw[h,hg]
   show (bif decide (b.length=s.1.length) then (bif qp (ep s (dK s)) b&&(pr (ep s (dK s)) b).isSome then (EU (ep s (dK s)) b,0,()) else (false,5,())) else (false,3,()))=_
   rw[z7 hlen,cT]
   injection hR
theorem Ji {s:Sy} (h:fN s=true) {c:Cl} (hc:(qw s c).1=true) (_:(qw s c).2.1=0):(c.2.1=false/\(al (ep s (dK s))).Feas (vX (eA c))/\(eA c).length=s.2.length/\(∀a ∈ eA c,okF a))\/(c.2.1=true/\(al (ep s (dK s))).Ref (vX (eA c))/\(eA c).length=s.1.length/\(∀a ∈ eA c,okF a)):=by
 have hpl:(ep s (dK s)).2.length=s.1.length:=aK
 unfold qw at hc
 rw[h,cT] at hc
 by_cases hg:iX c=0
 ·obtain ⟨ho,_⟩:=yf hg
  rw[z7 hg,cT] at hc
  cases hr:c.2.1 with
  | false =>
   rw[hr] at hc
   simp only[cF] at hc
   by_cases hn:(eA c).length=s.2.length
   ·rw[z7 hn,cT] at hc
    cases hra:nu s (eA c) with
    | false=>rw[hra] at hc;cases hc
    | true =>
     rw[hra,cT] at hc
     have hc2:(eqB s (eA c)&&(eA c).all fun a=>!decide (a.1<0))=true:=hc
     rw[z10] at hc2
     refine .inl ⟨rfl,(AH mw).2 ⟨fun j hj=>(H1 ho).1 hc2.2 j (by omega),(HK hn hra).1 hc2.1⟩,hn,ho⟩
   ·rw[z8 hn] at hc;cases hc
  | true =>
   rw[hr] at hc
   simp only[cT] at hc
   by_cases hn:(eA c).length=s.1.length
   ·rw[z7 hn,cT] at hc
    cases hfy:qp (ep s (dK s)) (eA c)&&(pr (ep s (dK s)) (eA c)).isSome with
    | false=>rw[hfy] at hc;cases hc
    | true =>
     rw[hfy,cT] at hc
     have hc2:EU (ep s (dK s)) (eA c)=true:=hc
     rw[z10] at hfy
     exact .inr ⟨rfl,(wi ho (by rw[hpl];exact hn) hfy.1 hfy.2).1 hc2,hn,ho⟩
   ·rw[z8 hn] at hc;cases hc
 ·rw[z8 hg] at hc
  cases hc
theorem BD (s:Sy) (c:Cl):iE s c=some true:=by
 have hi:∀e0:Bool,(!e0||e0)=true:=fun e0=>by cases e0<;>rfl
 have hj:∀e0:Bool,(e0||!e0)=true:=fun e0=>by cases e0<;>rfl
 simp only[iE,gP,Jj,Iz,NF,Mp,aa,Bool.not_true,cF]
 cases hs:uv s with
 | false=>rfl
 | true =>
  have hl:=GH hs
  cases hv:fN s with
  | false=>rfl
  | true =>
   cases hg:D2 c with
   | true=>rfl
   | false =>
    have hcl:=JQ hg
    obtain ⟨d,e,h1,h2⟩:=Io hv
    simp only[Bool.not_true,Bool.not_false,Bool.or_true,cT,cF,aa,h1]
    have h0:=h2
    have fin:∀(b:Bool),(e=0)->d.2.1=b->(bif decide ((qw s c).2.1=0) then (qw s c).1 else false)=true->c.2.1=b:=fun b he hb hcc=>by
     subst he
     by_cases c0:(qw s c).2.1=0
     ·rw[z7 c0,cT] at hcc
      rcases Ji hv hcc c0 with ⟨r1,r2,_⟩ | ⟨r1,r2,_⟩
      ·rcases h0 with ⟨h5,_⟩ | ⟨_,_,hd,_⟩ | ⟨_,_,hd,_,_,_,_,_,y,hy⟩
       ·cases h5
       ·rw[r1,<-hb,hd]
       ·exact (hy.none r2).elim
      ·rcases h0 with ⟨h5,_⟩ | ⟨_,_,hd,_,_,_,_,hF,_⟩ | ⟨_,_,hd,_⟩
       ·cases h5
       ·exact (r2.none hF).elim
       ·rw[r1,<-hb,hd]
     ·rw[z8 c0,cF] at hcc
      cases hcc
    have last:∀(b:Bool),(e=0)->d.2.1=b->(bif (bif !decide ((qw s c).2.1=0) then true else !(qw s c).1) then true else decide (c.2.1=b))=true:=fun b he hb=>by
     have:=fin b he hb
     cases h3:decide ((qw s c).2.1=0) with
     | false=>rfl
     | true =>
      cases h4:(qw s c).1 with
      | false=>rfl
      | true =>
       rw[h3,h4] at this
       rw[z7 (this rfl)]
       rfl
    rcases h2 with ⟨rfl,rfl,hf⟩ | ⟨rfl,hf,hd,hd2,hlen,_,_,_,ht,f,_,hff,hr⟩ | ⟨rfl,hf,hd,hd2,hlen,_,ht,hr,_⟩
    ·rfl
    all_goals
     obtain ⟨hc,l1,l2⟩:=Fa hv h0
     have hL:=last _ rfl hd
     simp only[decide_true,Bool.not_true,cF,ht,hr,aa,Ae s (show d.1.length<=1000 by omega) (show d.2.2.length<=1000 by omega),hc,Ae s (show c.1.length<=1000 by omega) (show c.2.2.length<=1000 by omega),hd]
     generalize (bif !decide ((qw s c).2.1=0) then true else !(qw s c).1)=w at hL ⊢
     generalize (decide ((qw s c).2.1=0))=w2 at hL ⊢
     first
     | (rw[hff hf];cases w<;>cases w2<;>first | rfl | exact congrArg some hL)
     | (cases w<;>cases w2<;>first | rfl | exact congrArg some hL)
end Go.Proofs.YtegbncajloeepaaGreat
