/- Tables of numbers as lists of rows, and loops over them. Systems: the matrix of both programs. Programs: sums of numbers times fractions. Programs: which points are feasible, as the program tells it. Systems: their programs, as both programs make them. Programs: feasible points and values, in both programs. The law ProgramForms. Programs: columns and right sides. Programs: the signs of multipliers. Programs: sums of columns below numbers; refutations. Programs: refutations, as the program tells them. Programs: refutations, as they are specified. Programs: refutations are the same in both programs. Systems: the law SlackPrograms. Programs: products of two numbers, their differences and quotients. Programs: a step of the table. Programs: the row that leaves, the sums of artificial rows, and the reduced costs. Programs: the sums of artificial rows, and the reduced costs. Programs: improving a table to the least value. Programs: finding a feasible basis. Programs: the first table. Programs: which programs fit. Programs: what Solve answers. Programs: what Farkas answers. Programs: answers that are proved, in both programs. Programs: points, multipliers and refutations are those of the theory. Programs: the sums of what the solver returns fit, so that its answers are accepted. Programs: what the solver says of a program; the law ProgramBeats. Programs, as they are specified: the layout of the table, and a step of it. Programs, as they are specified: steps until the last row has no negative number. Programs, as they are specified: artificial variables leave the basis. Programs, as they are specified: the first table. Programs, as they are specified: the least value. Programs: the law ProgramSolves. Systems: what the solver says of their programs. Systems: equilibria, as the program checks them. Systems: the law SlackHolds. Systems: the law SlackBounds. Systems: the law SlackLeast. Elimination: a step of two products and a quotient, and tables of rows that change places. Elimination: the theory; a matrix beside a unit matrix, and its table. Elimination: what the program's function answers. Elimination: how great the numbers are, and what a finished table proves. Elimination: what linear.Solve answers. Systems: the law SlackOnly. -/
import Derived.KernelRfl
import Derived.Test.YtfknoaclabfdlaaGreatMgN

namespace Go.Proofs.YtfknoaclabfdlaaGreat
namespace Dn
section
variable {α R:Type} {F:(α->Option R)->α->Option R}
theorem xX (n:Nat) (st:Nat->α) (r:Option R) (hb:∀again i,i<n->F again (st i)=again (st (i+1))) (hf:∀again,F again (st n)=r):∀(k i m:Nat),i+k=n->k<m->iY F m (st i)=r
 | 0,i,m,h1,h2=>by
  obtain ⟨m,rfl⟩:∃m',m=m'+1:=⟨m - 1,by omega⟩
  rw[gb,show i=n by omega,hf]
 | k+1,i,m,h1,h2=>by
  obtain ⟨m,rfl⟩:∃m',m=m'+1:=⟨m - 1,by omega⟩
  rw[gb,hb _ _ (by omega)]
  exact xX n st r hb hf k (i+1) m (by omega) (by omega)
theorem rY (n:Nat) (hn:n<=1180591620717411303423) (st:Nat->α) (r:Option R) (hb:∀again i,i<n->F again (st i)=again (st (i+1))) (hf:∀again,F again (st n)=r):lpK α R F (st 0)=r :=
 xX n st r hb hf n 0 K0 (by omega) (by unfold K0;omega)
theorem cO {x:α} (n:Nat) (hn:n<=1180591620717411303423) (st:Nat->α) (r:Option R) (hx:x=st 0) (hb:∀again i,i<n->F again (st i)=again (st (i+1))) (hf:∀again,F again (st n)=r):lpK α R F x=r:=by
 rw[hx]
 exact rY n hn st r hb hf
theorem Cu (I:α->Prop) (Q:R->Prop) (μ:α->Nat) (h:∀x,I x->(∃r,Q r/\∀rec,F rec x=some r)\/∃y,I y/\μ y<μ x/\∀rec,F rec x=rec y):∀(m:Nat) (x:α),I x->μ x<m->∃r,iY F m x=some r/\Q r
 | 0,_,_,hm=>by omega
 | m+1,x,hx,hm=>by
  rw[gb]
  rcases h x hx with ⟨r,h1,h2⟩ | ⟨y,h1,h2,h3⟩
  ·exact ⟨r,h2 _,h1⟩
  ·rw[h3]
   exact Cu I Q μ h m y h1 (by omega)
theorem Om (I:α->Prop) (Q:R->Prop) (μ:α->Nat) (h:∀x,I x->(∃r,Q r/\∀rec,F rec x=some r)\/∃y,I y/\μ y<μ x/\∀rec,F rec x=rec y) {x:α} (hx:I x) (hn:μ x<1180591620717411303424):∃r,lpK α R F x=some r/\Q r :=
 Cu I Q μ h K0 x hx hn
theorem xA {γ:Type} (I:γ->α->Prop) (Q:R->Prop) (μ:γ->Nat) (h:∀s x,I s x->(∃r,Q r/\∀rec,F rec x=some r)\/∃s' y,I s' y/\μ s'<μ s/\∀rec,F rec x=rec y):∀(m:Nat) (s:γ) (x:α),I s x->μ s<m->∃r,iY F m x=some r/\Q r
 | 0,_,_,_,hm=>by omega
 | m+1,s,x,hx,hm=>by
  rw[gb]
  rcases h s x hx with ⟨r,h1,h2⟩ | ⟨s',y,h1,h2,h3⟩
  ·exact ⟨r,h2 _,h1⟩
  ·rw[h3]
   exact xA I Q μ h m s' y h1 (by omega)
theorem Nf {γ:Type} (I:γ->α->Prop) (Q:R->Prop) (μ:γ->Nat) (h:∀s x,I s x->(∃r,Q r/\∀rec,F rec x=some r)\/∃s' y,I s' y/\μ s'<μ s/\∀rec,F rec x=rec y) {s:γ} {x:α} (hx:I s x) (hn:μ s<1180591620717411303424):∃r,lpK α R F x=some r/\Q r :=
 xA I Q μ h K0 s x hx hn
theorem yn {γ:Type} (I:γ->α->Prop) (Q:Option R->Prop) (μ:γ->Nat) (h:∀rec s x,I s x->Q (F rec x)\/∃s' y,I s' y/\μ s'<μ s/\F rec x=rec y):∀(m:Nat) (s:γ) (x:α),I s x->μ s<m->Q (iY F m x)
 | 0,_,_,_,hm=>by omega
 | m+1,s,x,hx,hm=>by
  rw[gb]
  rcases h (iY F m) s x hx with h1 | ⟨s',y,h1,h2,h3⟩
  ·exact h1
  ·rw[h3]
   exact yn I Q μ h m s' y h1 (by omega)
theorem pZ {γ:Type} (I:γ->α->Prop) (Q:Option R->Prop) (μ:γ->Nat) (h:∀rec s x,I s x->Q (F rec x)\/∃s' y,I s' y/\μ s'<μ s/\F rec x=rec y) {s:γ} {x:α} (hx:I s x) (hn:μ s<1180591620717411303424):Q (lpK α R F x) :=
 yn I Q μ h K0 s x hx hn
theorem lG {x:α} (Q:Option R->Prop) (n:Nat) (hn:n<=1180591620717411303423) (st:Nat->α) (hx:x=st 0) (hb:∀again i,i<n->F again (st i)=again (st (i+1))) (hf:∀again,Q (F again (st n))):Q (lpK α R F x) :=
 pZ (γ:=Nat) (fun i x=>i<=n/\x=st i) Q (fun i=>n - i) (fun rec i x ⟨h1,h2⟩=>by
  by_cases e:i=n
  ·subst h2;subst e;exact .inl (hf rec)
  ·exact .inr ⟨i+1,st (i+1),⟨by omega,rfl⟩,by omega,by rw[h2];exact hb rec i (by omega)⟩) (s:=0) ⟨by omega,hx⟩ (by omega)
theorem uO {x:α} (Q:Option R->Prop) (n:Nat) (hn:n<=1180591620717411303423) (I:Nat->α->Prop) (hx:I 0 x) (hb:∀again i x,i<n->I i x->∃y,I (i+1) y/\F again x=again y) (hf:∀again x,I n x->Q (F again x)):Q (lpK α R F x) :=
 pZ (γ:=Nat) (fun i x=>i<=n/\I i x) Q (fun i=>n - i) (fun rec i x ⟨h1,h2⟩=>by
  by_cases e:i=n
  ·subst e;exact .inl (hf rec x h2)
  ·obtain ⟨y,h3,h4⟩:=hb rec i x (by omega) h2
   exact .inr ⟨i+1,y,⟨by omega,h3⟩,by omega,h4⟩) (s:=0) ⟨by omega,hx⟩ (by omega)
end
theorem oz (n:Nat) (p:Nat->Bool):(∀j,j<n->p j=false)\/∃j,j<n/\p j=true/\∀i,i<j->p i=false:=by
 induction n with
 | zero=>exact .inl fun j hj=>by omega
 | succ n ih =>
  rcases ih with h | ⟨j,h1,h2,h3⟩
  ·cases hp:p n with
   | true=>exact .inr ⟨n,by omega,hp,h⟩
   | false =>
    refine .inl fun j hj=>?_
    by_cases e:j=n
    ·rw[e];exact hp
    ·exact h j (by omega)
  ·exact .inr ⟨j,by omega,h2,h3⟩
def bq {α:Type} (w:Nat) (f:Nat->α):List α:=(List.range w).map f
def kw (m w:Nat) (T:Nat->Nat->Int):List (List Int):=(List.range m).map fun i=>bq w (T i)
def dk (m w:Nat) (T:Nat->Nat->Int):List (Option (List Int)):=(List.range m).map fun i=>some (bq w (T i))
def fJ (m w:Nat) (T:Nat->Nat->Int):List Nat×List (Option (List Int)):=(List.range m,dk m w T)
def iv (m:Nat) (β:Nat->Nat):List Int:=bq m fun i=>(β i:Int)
section
variable {α:Type} {m w:Nat} {T T':Nat->Nat->Int}
theorem aE {f:Nat->α}:(bq w f).length=w:=by unfold bq;rw[List.length_map,List.length_range]
theorem ba {f:Nat->α} {d:α} {j:Nat} (h:j<w):(bq w f).getD j d=f j:=by
 unfold bq
 rw[bN (by rw[List.length_map,List.length_range];exact h),List.getElem_map,List.getElem_range]
theorem uJ {f:Nat->α} {j:Nat} (h:j<(bq w f).length):(bq w f)[j]=f j :=
 (List.getElem_map f (l:=List.range w) (h:=h)).trans (congrArg f (List.getElem_range _))
theorem cD {f g:Nat->α} (h:∀j,j<w->f j=g j):bq w f=bq w g:=by
 unfold bq
 exact List.map_congr_left fun j hj=>h j (List.mem_range.1 hj)
theorem ja {f:Nat->α} {j:Nat} {x:α} (_:j<w):(bq w f).set j x=bq w fun k=>if k=j then x else f k:=by
 refine List.ext_getElem (by rw[List.length_set,aE,aE]) fun i h1 h2=>?_
 have h3:i<w:=by rw[aE] at h2;exact h2
 rw[List.getElem_set,uJ,uJ]
 by_cases e:j=i
 ·rw[if_pos e,if_pos e.symm]
 ·rw[if_neg e,if_neg (Ne.symm e)]
theorem dD:(kw m w T).length=m:=by unfold kw;rw[List.length_map,List.length_range]
theorem gx {i:Nat} (h:i<m):(kw m w T).getD i []=bq w (T i):=by
 unfold kw
 rw[bN (by rw[List.length_map,List.length_range];exact h),List.getElem_map,List.getElem_range]
theorem li:(dk m w T).length=m:=by unfold dk;rw[List.length_map,List.length_range]
theorem ff:(fJ m w T).1.length=m:=by unfold fJ;exact List.length_range
theorem gV {i:Nat} (h:i<m):(fJ m w T).1.getD i 0=i:=by
 unfold fJ
 rw[bN (by rw[List.length_range];exact h),List.getElem_range]
theorem m8 {i:Nat} (h:i<m):(dk m w T).getD i none=some (bq w (T i)):=by
 unfold dk
 rw[bN (by rw[List.length_map,List.length_range];exact h),List.getElem_map,List.getElem_range]
theorem A2 {i:Nat} (h:i<(dk m w T).length):(dk m w T)[i]=some (bq w (T i)) :=
 (List.getElem_map (fun i=>some (bq w (T i))) (l:=List.range m) (h:=h)).trans (congrArg (fun i=>some (bq w (T i))) (List.getElem_range _))
theorem fV {i:Nat} (h:i<m):af (dk m w T) i=bq w (T i):=by unfold af;rw[m8 h];rfl
theorem sO {i:Nat} (h:i<m):dL (dk m w T) i=true:=by unfold dL;rw[m8 h];rfl
theorem g9 (h:∀i j,i<m->j<w->T i j=T' i j):dk m w T=dk m w T':=by
 unfold dk
 exact List.map_congr_left fun i hi=>by rw[cD fun j hj=>h i j (List.mem_range.1 hi) hj]
theorem iM (h:∀i j,i<m->j<w->T i j=T' i j):fJ m w T=fJ m w T':=by unfold fJ;rw[g9 h]
theorem Bj {i j:Nat} {x:Int} (_:i<m) (hj:j<w):(dk m w T).set i (some ((bq w (T i)).set j x))=dk m w fun k l=>if k=i/\l=j then x else T k l:=by
 rw[ja hj]
 refine List.ext_getElem (by rw[List.length_set,li,li]) fun k h1 h2=>?_
 have h3:k<m:=by rw[li] at h2;exact h2
 rw[List.getElem_set,A2,A2]
 by_cases e:i=k
 ·subst e
  rw[if_pos rfl]
  congr 1
  refine cD fun l _=>?_
  simp
 ·rw[if_neg e]
  congr 1
  refine cD fun l _=>?_
  rw[if_neg fun h=>e h.1.symm]
theorem gq:((fJ m w T).1.all fun x=>dL (fJ m w T).2 x)=true:=by
 rw[List.all_eq_true]
 intro i hi
 exact sO (List.mem_range.1 hi)
theorem gn:(fJ m w T).1.map (fun x=>af (fJ m w T).2 x)=kw m w T:=by
 unfold fJ kw
 exact List.map_congr_left fun i hi=>fV (List.mem_range.1 hi)
theorem iy {β:Nat->Nat}:(iv m β).length=m:=aE
theorem jm {β:Nat->Nat} {i:Nat} (h:i<m):(iv m β).getD i 0=(β i:Int):=ba h
theorem KR {β:Nat->Nat} {r c:Nat} (h:r<m):(iv m β).set r (c:Int)=iv m (upd β r c):=by
 unfold iv
 rw[ja h]
 refine cD fun k _=>?_
 unfold upd
 by_cases e:k=r
 ·rw[if_pos e,if_pos e]
 ·rw[if_neg e,if_neg e]
end
end Dn
end Go.Proofs.YtfknoaclabfdlaaGreat

namespace Go.Proofs.YtfknoaclabfdlaaGreat
noncomputable section
open Tryz Dn Dn.Sh
def bnS (s:Sy) (i:Nat):ByteArray:=(s.1.getD i bk0).1
def bwS (s:Sy) (i:Nat):Int:=(s.1.getD i bk0).2
def rnS (s:Sy) (k:Nat):ByteArray:=(s.2.getD k rp0).1
def hsS (s:Sy) (k:Nat):List Hd:=(s.2.getD k rp0).2.1
structure ValidS (s:Sy):Prop where
 bl:1<=s.1.length/\s.1.length<=6
 rl:1<=s.2.length/\s.2.length<=6
 inj:∀i j,i<s.1.length->j<s.1.length->bnS s i=bnS s j->i=j
 rinj:∀i j,i<s.2.length->j<s.2.length->rnS s i=rnS s j->i=j
 wt:∀i,i<s.1.length->0<=bwS s i/\bwS s i<=16777216
 hl:∀k,k<s.2.length->(hsS s k).length<=10
 pl:∀k h,k<s.2.length->h<(hsS s k).length-> -2<=((hsS s k).getD h hd0).2.1/\((hsS s k).getD h hd0).2.1<=2
theorem nI {n i:Nat} (h:i<n):i ∈ List.range' 0 n:=List.mem_range'.2 ⟨i,h,by omega⟩
theorem BS {s:Sy} {h:Hd} {e:Bool} (hh:sG s h e=true): -2<=h.2.1/\h.2.1<=2:=by
 unfold sG at hh
 rw[z10] at hh
 have h2:=hh.2
 cases he:tn h.1 with
 | true=>rw[he,cT,decide_eq_true_iff] at h2;omega
 | false =>
  rw[he,cF,z10] at h2
  have h3:=h2.2
  cases e with
  | true=>rw[cT,Bool.or_eq_true,decide_eq_true_iff,decide_eq_true_iff] at h3;omega
  | false=>rw[cF,Bool.or_eq_true,Bool.or_eq_true,decide_eq_true_iff,decide_eq_true_iff,decide_eq_true_iff] at h3;omega
theorem kV {l:List ByteArray} {i j:Nat} {d:ByteArray} (h1:i<j) (h2:j<=l.length):l.getD i d ∈ l.take j:=by
 rw[bN (by omega)]
 exact List.mem_take_iff_getElem.2 ⟨i,by omega,rfl⟩
theorem gF {s:Sy} (h:gY s=true):ValidS s:=by
 unfold gY at h
 rw[z10,z10,z10,decide_eq_true_iff,List.all_eq_true,List.all_eq_true] at h
 obtain ⟨⟨h1,h2,h3,h4⟩,hb,hr,_⟩:=h
 have hb':∀i,i<s.1.length->bnS s i ∉ (s.1.map (·.fst)).take i/\0<=bwS s i/\bwS s i<=16777216:=fun i hi=>by
  have:=hb i (nI hi)
  unfold wN pj at this
  rw[z10,z10,z10,Bool.not_eq_true',A5,decide_eq_true_iff,decide_eq_true_iff] at this
  exact this.2
 have hr':∀i,i<s.2.length->rnS s i ∉ (s.2.map (·.fst)).take i/\xT s (s.2.getD i rp0)=true:=fun i hi=>by
  have:=hr i (nI hi)
  unfold nL at this
  rw[z10,z10,Bool.not_eq_true',A5,List.mem_append] at this
  exact ⟨fun hm=>this.2.1 (.inr hm),this.2.2⟩
 have hro:∀k,k<s.2.length->(2<=(hsS s k).length/\(hsS s k).length<=10)/\∀i,i<(hsS s k).length->∃e,sG s ((hsS s k).getD i hd0) e=true:=fun k hk=>by
  have:=(hr' k hk).2
  unfold xT at this
  rw[z10,z10,decide_eq_true_iff,List.all_eq_true] at this
  exact ⟨this.1,fun i hi=>⟨_,this.2.1 i (nI hi)⟩⟩
 refine ⟨⟨h1,h2⟩,⟨h3,h4⟩,fun i j hi hj he=>?_,fun i j hi hj he=>?_,fun i hi=>(hb' i hi).2,fun k hk=>(hro k hk).1.2,fun k h hk hh=>?_⟩
 ·have e1:∀k,k<s.1.length->(s.1.map (·.fst)).getD k bk0.1=bnS s k:=fun k hk=>pE (f:=fun b:Bk=>b.1) (d:=bk0) hk bk0.1
  rcases Nat.lt_trichotomy i j with h | h | h
  ·exfalso
   apply (hb' j hj).1
   rw[<-he,<-e1 i hi]
   exact kV h (by rw[List.length_map];omega)
  ·exact h
  ·exfalso
   apply (hb' i hi).1
   rw[he,<-e1 j hj]
   exact kV h (by rw[List.length_map];omega)
 ·have e1:∀k,k<s.2.length->(s.2.map (·.fst)).getD k rp0.1=rnS s k:=fun k hk=>pE (f:=fun b:Rp=>b.1) (d:=rp0) hk rp0.1
  rcases Nat.lt_trichotomy i j with h | h | h
  ·exfalso
   apply (hr' j hj).1
   rw[<-he,<-e1 i hi]
   exact kV h (by rw[List.length_map];omega)
  ·exact h
  ·exfalso
   apply (hr' i hi).1
   rw[he,<-e1 j hj]
   exact kV h (by rw[List.length_map];omega)
 ·obtain ⟨e,he⟩:=(hro k hk).2 h hh
  exact BS he
theorem FW (s:Sy) (n:ByteArray):(fbI s n<0/\∀i,i<s.1.length->bnS s i≠n)\/∃i:Nat,i<s.1.length/\fbI s n=(i:Int)/\bnS s i=n:=by
 by_cases h:fbI s n<0
 ·refine .inl ⟨h,fun i hi he=>?_⟩
  have:=(rz (p:=fun b:Bk=>decide (b.1=n)) (l:=s.1) (i:=0) (by omega)).1 h (s.1.getD i bk0) (by rw[bN hi];exact List.getElem_mem _)
  exact of_decide_eq_false this he
 ·obtain ⟨_,h2,h3⟩:=zj (p:=fun b:Bk=>decide (b.1=n)) (d:=bk0) (l:=s.1) (i:=0) (by omega) (Int.not_lt.1 h)
  refine .inr ⟨(fbI s n).toNat,?_,?_,?_⟩
  ·unfold fbI;omega
  ·unfold fbI at h ⊢;omega
  ·have:=z12 h3
   rw[Int.sub_zero] at this
   exact this
theorem G1 (s:Sy) (n:ByteArray):(frI s n<0/\∀i,i<s.2.length->rnS s i≠n)\/∃i:Nat,i<s.2.length/\frI s n=(i:Int)/\rnS s i=n:=by
 by_cases h:frI s n<0
 ·refine .inl ⟨h,fun i hi he=>?_⟩
  have:=(rz (p:=fun b:Rp=>decide (b.1=n)) (l:=s.2) (i:=0) (by omega)).1 h (s.2.getD i rp0) (by rw[bN hi];exact List.getElem_mem _)
  exact of_decide_eq_false this he
 ·obtain ⟨_,h2,h3⟩:=zj (p:=fun b:Rp=>decide (b.1=n)) (d:=rp0) (l:=s.2) (i:=0) (by omega) (Int.not_lt.1 h)
  refine .inr ⟨(frI s n).toNat,?_,?_,?_⟩
  ·unfold frI;omega
  ·unfold frI at h ⊢;omega
  ·have:=z12 h3
   rw[Int.sub_zero] at this
   exact this
def mh (hs:List Hd) (n:ByteArray) (h:Nat):Int:=sz h fun t=>if (hs.getD t hd0).1=n then (hs.getD t hd0).2.1 else 0
def Mx (s:Sy) (i k:Nat):Int:=mh (hsS s k) (bnS s i) (hsS s k).length
theorem o6 {hs:List Hd} {n:ByteArray} (hp:∀t,t<hs.length-> -2<=(hs.getD t hd0).2.1/\(hs.getD t hd0).2.1<=2):∀h,h<=hs.length-> -(2*(h:Int))<=mh hs n h/\mh hs n h<=2*(h:Int)
 | 0,_=>by simp[mh,sz]
 | h+1,hh=>by
  have:=o6 (n:=n) hp h (by omega)
  have h2:=hp h (by omega)
  unfold mh at *
  simp only[sz]
  split<;>omega
theorem AM {s:Sy} (hv:ValidS s) (i:Nat) {k:Nat} (hk:k<s.2.length): -20<=Mx s i k/\Mx s i k<=20:=by
 have h1:=o6 (n:=bnS s i) (hs:=hsS s k) (fun t ht=>hv.pl k t hk ht) _ (Nat.le_refl _)
 have h2:=hv.hl k hk
 unfold Mx
 omega
theorem eg {i:Nat} (h:i<=1000000):IntKind.wrap .i64 ((i:Int)+1)=((i+1:Nat):Int):=by rw[a7 (by omega) (by omega)];rfl
def FA (s:Sy):List (List Int):=kw s.1.length s.2.length (Mx s)
theorem vE {α:Type} {w:Nat} {f:Nat->α}:bq w f++[f w]=bq (w+1) f:=by
 unfold bq
 rw[List.range_succ,List.map_append]
 rfl
theorem A6 {m w:Nat} {T:Nat->Nat->Int}:dk m w T++[some (bq w (T m))]=dk (m+1) w T:=by
 unfold dk
 rw[List.range_succ,List.map_append]
 rfl
def OV (T:List Nat) (x0:Sy):Option (List (List Int)×Int×Unit) :=
 aa (aF x0) fun (t:Bool)=>bif !t then some ([],(1:Int),PUnit.unit) else bif decide ((0:Int)<=(↑(List.length x0.1):Int))&&c7 (Int.toNat (↑(List.length x0.1):Int)) (24:Nat) then lpK (Int×(List Nat×List (Option (List Int)))×PUnit) (List (List Int)×Int×PUnit) (fun (again:Int×(List Nat×List (Option (List Int)))×PUnit->Option (List (List Int)×Int×PUnit)) (x:Int×(List Nat×List (Option (List Int)))×PUnit)=>bif decide (x.1<(↑(List.length T):Int)) then bif decide ((0:Int)<=(↑(List.length x0.2):Int))&&c7 (Int.toNat (↑(List.length x0.2):Int)) (8:Nat) then bif inB x.1 (List.length x.2.1.1) then bif Nat.ble (Nat.succ (Int.toNat x.1)) (List.length x.2.1.1) then again (IntKind.wrap .i64 (x.1+(1:Int)),(List.set x.2.1.1 (Int.toNat x.1) (List.length x.2.1.2),x.2.1.2++[some (List.replicate (Int.toNat (↑(List.length x0.2):Int)) (0:Int))]),PUnit.unit) else none else none else none else lpK (Int×(List Nat×List (Option (List Int)))×PUnit) (List (List Int)×Int×PUnit) (fun (again:Int×(List Nat×List (Option (List Int)))×PUnit->Option (List (List Int)×Int×PUnit)) (x:Int×(List Nat×List (Option (List Int)))×PUnit)=>bif decide (x.1<(↑(List.length x0.2):Int)) then bif inB x.1 (List.length x0.2) then lpK (Int×(List Nat×List (Option (List Int)))×PUnit) (List (List Int)×Int×PUnit) (fun (again_1:Int×(List Nat×List (Option (List Int)))×PUnit->Option (List (List Int)×Int×PUnit)) (x_1:Int×(List Nat×List (Option (List Int)))×PUnit)=>let v10:Int:=IntKind.wrap .i64 (x_1.1+(1:Int));let v11:(List Nat×List (Option (List Int)))×PUnit:=(x_1.2.1,PUnit.unit);let v12:ByteArray×Int×Int×Int:=List.getD (List.getD x0.2 (Int.toNat x.1) ({ data:={ toList:=[] } },[],false)).2.1 (Int.toNat x_1.1) ({ data:={ toList:=[] } },(0:Int),(0:Int),(0:Int));bif decide (x_1.1<(↑(List.length (List.getD x0.2 (Int.toNat x.1) ({ data:={ toList:=[] } },[],false)).2.1):Int)) then bif inB x_1.1 (List.length (List.getD x0.2 (Int.toNat x.1) ({ data:={ toList:=[] } },[],false)).2.1) then aa (bS x0 v12.1) fun (t:Int)=>bif decide (t>=(0:Int)) then bif inB t (List.length x_1.2.1.1) then bif Nat.ble (Nat.succ (Int.toNat t)) (List.length x_1.2.1.1) then bif inB x.1 (List.length (af x_1.2.1.2 (List.getD x_1.2.1.1 (Int.toNat t) (0:Nat)))) then bif Nat.ble (Nat.succ (Int.toNat x.1)) (List.length (af x_1.2.1.2 (List.getD x_1.2.1.1 (Int.toNat t) (0:Nat)))) then bif inB x.1 (List.length (af x_1.2.1.2 (List.getD x_1.2.1.1 (Int.toNat t) (0:Nat)))) then bif Nat.ble (Nat.succ (Int.toNat x.1)) (List.length (af x_1.2.1.2 (List.getD x_1.2.1.1 (Int.toNat t) (0:Nat)))) then again_1 (v10,(x_1.2.1.1,List.set x_1.2.1.2 (List.getD x_1.2.1.1 (Int.toNat t) (0:Nat)) (some (List.set (af x_1.2.1.2 (List.getD x_1.2.1.1 (Int.toNat t) (0:Nat))) (Int.toNat x.1) (IntKind.wrap .i64 (List.getD (af x_1.2.1.2 (List.getD x_1.2.1.1 (Int.toNat t) (0:Nat))) (Int.toNat x.1) (0:Int)+v12.2.1))))),PUnit.unit) else none else none else none else none else none else none else again_1 (v10,v11) else none else again (IntKind.wrap .i64 (x.1+(1:Int)),v11)) ((0:Int),x.2.1,PUnit.unit) else none else bif List.all x.2.1.1 fun (x_1:Nat)=>dL x.2.1.2 x_1 then some (List.map (fun (x_1:Nat)=>af x.2.1.2 x_1) x.2.1.1,(0:Int),PUnit.unit) else none) ((0:Int),x.2.1,PUnit.unit)) ((0:Int),(T,List.replicate (Int.toNat (↑(List.length x0.1):Int)) (some [])),PUnit.unit) else none
theorem EO (s:Sy):a6 s=OV (wY Sh.ref (0:Nat) (Int.toNat (↑(List.length s.1):Int)) 0) s:=by kernel_rfl
theorem vQ:∀(n k:Nat),wY Sh.ref (0:Nat) n k=(List.range n).map fun i=>k+i
 | 0,_=>rfl
 | n+1,k=>by
  rw[List.range_succ_eq_map,List.map_cons,List.map_map]
  unfold wY
  rw[vQ n (k+1)]
  have e:shS k Sh.ref (0:Nat)=k+0:=rfl
  rw[e]
  congr 1
  refine List.map_congr_left fun i _=>?_
  simp only[Function.comp]
  omega
def ug (m w:Nat) (T:Nat->Nat->Int):List Nat×List (Option (List Int)):=(bq m fun k=>m+k,List.replicate m (some [])++dk m w T)
theorem Jp {n:Nat}:List.replicate n (0:Int)=bq n fun _=>0:=by
 unfold bq
 rw[List.map_const',List.length_range]
section
variable {m w:Nat} {T:Nat->Nat->Int}
theorem Bs {i:Nat}:(List.replicate m (some ([]:List Int))++dk m w T).getD (m+i) none=(dk m w T).getD i none:=by
 rw[List.getD_eq_getElem?_getD,List.getD_eq_getElem?_getD,List.getElem?_append_right (by rw[List.length_replicate];omega),List.length_replicate,Nat.add_sub_cancel_left]
theorem BF {i:Nat} (h:i<m):af (List.replicate m (some ([]:List Int))++dk m w T) (m+i)=bq w (T i):=by
 unfold af
 rw[Bs,m8 h]
 rfl
theorem Gs {i:Nat} (h:i<m):dL (List.replicate m (some ([]:List Int))++dk m w T) (m+i)=true:=by
 unfold dL
 rw[Bs,m8 h]
 rfl
theorem Kz {i j:Nat} {x:Int} (hi:i<m) (hj:j<w):(List.replicate m (some ([]:List Int))++dk m w T).set (m+i) (some ((bq w (T i)).set j x))=List.replicate m (some [])++dk m w fun k l=>if k=i/\l=j then x else T k l:=by
 rw[List.set_append_right _ _ (by rw[List.length_replicate];omega),List.length_replicate,Nat.add_sub_cancel_left,Bj hi hj]
end
theorem Et {s:Sy} (h:gY s=true):a6 s=some (FA s,0,()):=by
 have hv:=gF h
 have hb:=hv.bl
 have hr:=hv.rl
 have hf:=fun n=>Cj s n (show s.1.length<=1000000 by omega)
 rw[EO,vQ]
 simp only[OV,pP,h,ai,Bool.not_true,cF,z9,List.length_map,List.length_range,z7 (show (0:Int)<=(s.1.length:Nat) by omega),z7 (show (0:Int)<=(s.2.length:Nat) by omega),
  dV (show s.1.length*24<=140737488355328 by omega),dV (show s.2.length*8<=140737488355328 by omega),Bool.and_self,cT]
 obtain ⟨m,hm⟩:∃m,m=s.1.length:=⟨_,rfl⟩
 obtain ⟨w,hw⟩:∃w,w=s.2.length:=⟨_,rfl⟩
 rw[<-hm] at hb ⊢
 rw[<-hw] at hr ⊢
 refine cO m (by omega) (fun i=>((i:Int),(bq m (fun k=>if k<i then m+k else k),List.replicate m (some [])++dk i w fun _ _=>0),PUnit.unit)) _ ?_ (fun again i hi=>?_) (fun again=>?_)
 ·have e:(List.range m).map (fun i=>0+i)=bq m (fun k=>if k<0 then m+k else k):=cD (f:=fun i=>0+i) fun k _=>by rw[if_neg (by omega),Nat.zero_add]
  rw[e]
  show _=((0:Int),(_,List.replicate m (some ([]:List Int))++[]),PUnit.unit)
  rw[List.append_nil]
 ·simp only[aR,aE,z7 hi,z7 (show (i:Int)<m by omega),cT,z9,cf (show i.succ<=m by omega),eg (show i<=1000000 by omega)]
  refine congrArg again ?_
  refine congrArg (fun p=>(((i+1:Nat):Int),p,PUnit.unit)) ?_
  rw[ja hi,List.length_append,List.length_replicate,li,Jp,List.append_assoc,A6]
  refine congrArg (fun l=>(l,_)) ?_
  refine cD fun k _=>?_
  by_cases c:k=i
  ·rw[if_pos c,if_pos (by omega)];omega
  ·rw[if_neg c]
   by_cases c2:k<i
   ·rw[if_pos c2,if_pos (by omega)]
   ·rw[if_neg c2,if_neg (by omega)]
 ·simp only[z8 (show ¬ (m:Int)<m by omega),cF]
  refine cO w (by omega) (fun k=>((k:Int),ug m w (fun i j=>if j<k then Mx s i j else 0),PUnit.unit)) _ ?_ (fun again k hk=>?_) (fun again=>?_)
  ·refine congrArg (fun p=>((0:Int),p,PUnit.unit)) ?_
   unfold ug
   refine Prod.ext (cD fun k hk=>by rw[if_pos hk]) ?_
   simp only
   rw[g9 fun i j _ _=>(if_neg (show ¬ j<0 by omega)).symm]
  ·have hwk:k<s.2.length:=by omega
   have hpl:=fun t ht=>hv.pl k t hwk ht
   have hhl:=hv.hl k hwk
   have hpb:=fun n=>o6 (n:=n) (hs:=hsS s k) hpl
   simp only[aR,z7 hk,z7 (show (k:Int)<w by omega),cT,z9,eg (show k<=1000000 by omega),show (List.getD s.2 k ({ data:={ toList:=[] } },[],false)).2.1=hsS s k from rfl]
   refine cO (hsS s k).length (by omega) (fun t=>((t:Int),ug m w (fun i j=>if j<k then Mx s i j else if j=k then mh (hsS s k) (bnS s i) t else 0),PUnit.unit)) _ ?_ (fun again1 t ht=>?_) (fun again1=>?_)
   ·refine congrArg (fun p=>((0:Int),p,PUnit.unit)) ?_
    unfold ug
    refine congrArg (fun c=>(_,List.replicate m (some ([]:List Int))++c)) (g9 fun i j _ _=>?_)
    by_cases c1:j<k
    ·rw[if_pos c1,if_pos c1]
    ·rw[if_neg c1,if_neg c1]
     split<;>rfl
   ·obtain ⟨hd,hhd⟩:∃hd,hd=(hsS s k).getD t hd0:=⟨_,rfl⟩
    have hpt:=hpl t ht
    simp only[aR,z7 ht,z7 (show (t:Int)<(hsS s k).length by omega),cT,z9,eg (show t<=1000000 by omega),show List.getD (hsS s k) t ({ data:={ toList:=[] } },(0:Int),(0:Int),(0:Int))=(hsS s k).getD t hd0 from rfl,hf,ai]
    rw[<-hhd] at hpt ⊢
    have estep:∀n,mh (hsS s k) n (t+1)=mh (hsS s k) n t+if hd.1=n then hd.2.1 else 0:=fun n=>by rw[hhd];rfl
    rcases FW s hd.1 with ⟨h1,h2⟩ | ⟨i0,h1,h2,h3⟩
    ·rw[z8 (show ¬ fbI s hd.1>=0 by omega),cF]
     refine congrArg again1 ?_
     refine congrArg (fun p=>(((t+1:Nat):Int),p,PUnit.unit)) ?_
     unfold ug
     refine congrArg (fun c=>(_,List.replicate m (some ([]:List Int))++c)) (g9 fun i j hi _=>?_)
     have e:mh (hsS s k) (bnS s i) (t+1)=mh (hsS s k) (bnS s i) t:=by
      rw[estep,if_neg fun e=>h2 i (by omega) e.symm,Int.add_zero]
     rw[e]
    ·have hi0:i0<m:=by omega
     have hTl:(bq m fun k=>m+k).getD i0 0=m+i0:=ba hi0
     have hrow:=BF (w:=w) (T:=fun i j=>if j<k then Mx s i j else if j=k then mh (hsS s k) (bnS s i) t else 0) hi0
     have hget:(bq w fun j=>if j<k then Mx s i0 j else if j=k then mh (hsS s k) (bnS s i0) t else 0).getD k 0=mh (hsS s k) (bnS s i0) t:=by
      rw[ba hk,if_neg (by omega),if_pos rfl]
     have hb1:=hpb (bnS s i0) t (by omega)
     simp only[h2,z7 (show (i0:Int)>=0 by omega),cT,z9]
     unfold ug
     simp only[aR,aE,z7 hi0,cT,hTl,hrow,z7 hk,cf (show k.succ<=w by omega),cf (show i0.succ<=m by omega),hget]
     rw[a7 (by omega) (by omega),Kz (T:=fun i j=>if j<k then Mx s i j else if j=k then mh (hsS s k) (bnS s i) t else 0) hi0 hk]
     refine congrArg again1 ?_
     refine congrArg (fun c=>(((t+1:Nat):Int),(_,List.replicate m (some ([]:List Int))++c),PUnit.unit)) (g9 fun i j hi _=>?_)
     by_cases c1:j=k
     ·subst c1
      by_cases c2:i=i0
      ·subst c2
       rw[if_pos ⟨rfl,rfl⟩,if_neg (by omega),if_pos rfl,estep,if_pos h3.symm]
      ·rw[if_neg fun e=>c2 e.1,if_neg (by omega),if_pos rfl,if_neg (by omega),if_pos rfl,estep,if_neg,Int.add_zero]
       intro e
       exact c2 (hv.inj i i0 (by omega) h1 (by rw[h3,e]))
     ·rw[if_neg fun e=>c1 e.2,if_neg c1,if_neg c1]
   ·simp only[z8 (show ¬ ((hsS s k).length:Int)<(hsS s k).length by omega),cF]
    refine congrArg again ?_
    refine congrArg (fun p=>(((k+1:Nat):Int),p,PUnit.unit)) ?_
    unfold ug
    refine congrArg (fun c=>(_,List.replicate m (some ([]:List Int))++c)) (g9 fun i j _ _=>?_)
    by_cases c1:j<k
    ·rw[if_pos c1,if_pos (by omega)]
    ·rw[if_neg c1]
     by_cases c2:j=k
     ·subst c2
      rw[if_pos rfl,if_pos (by omega)]
      rfl
     ·rw[if_neg c2,if_neg (by omega)]
  ·simp only[z8 (show ¬ (w:Int)<w by omega),cF]
   have hall:((ug m w fun i j=>if j<w then Mx s i j else 0).1.all fun x=>dL (ug m w fun i j=>if j<w then Mx s i j else 0).2 x)=true:=by
    rw[List.all_eq_true]
    intro x hx
    obtain ⟨i,hi,rfl⟩:=List.mem_map.1 hx
    exact Gs (List.mem_range.1 hi)
   have hmap:(ug m w fun i j=>if j<w then Mx s i j else 0).1.map (fun x=>af (ug m w fun i j=>if j<w then Mx s i j else 0).2 x)=FA s:=by
    unfold FA kw
    rw[<-hm,<-hw]
    unfold ug bq
    rw[List.map_map]
    refine List.map_congr_left fun i hi=>?_
    have:=BF (w:=w) (T:=fun i j=>if j<w then Mx s i j else 0) (List.mem_range.1 hi)
    exact this.trans (cD fun j hj=>if_pos hj)
   rw[hall,hmap,cT]
theorem Kl {s:Sy} (h:gY s=false):a6 s=some ([],1,()):=by
 rw[EO]
 simp only[OV,pP,h,ai,Bool.not_false,cT]
def lI:List Int->List Fq->Rat->Option Rat
 | n ::l,a ::x,s=>if io ((n:Rat)*qv a)/\io (s+(n:Rat)*qv a) then lI l x (s+(n:Rat)*qv a) else none
 | _,_,s=>some s
theorem obN {T R:Type} {t:T} {k:T->Option R}:aa (some t) k=k t:=id rfl
theorem xN:∀{l:List Int} {x:List Fq} {s q:Rat},io s->lI l x s=some q->io q
 | [],_,s,q,hs,h=>by
  unfold lI at h
  injection h with h
  rw[<-h];exact hs
 | _ ::_,[],s,q,hs,h=>by
  unfold lI at h
  injection h with h
  rw[<-h];exact hs
 | n ::l,a ::x,s,q,hs,h=>by
  unfold lI at h
  split at h
  ·rename_i hh
   exact xN hh.2 h
  ·cases h
structure ValidP (p:Pg):Prop where
 cost:1<=p.1.length/\p.1.length<=12
 rows:p.2.length<=6
 cs:∀n ∈ p.1,inC n=true
 len:∀r ∈ p.2,r.1.length=p.1.length
 kind:∀r ∈ p.2,1<=r.2.1/\r.2.1<=3
 right:∀r ∈ p.2,inR r.2.2=true
 coefs:∀r ∈ p.2,∀n ∈ r.1,inC n=true
theorem vK {p:Pg}:ze p=true↔ValidP p:=by
 unfold ze JO
 rw[z10,z10,decide_eq_true_iff,List.all_eq_true,List.all_eq_true]
 constructor
 ·rintro ⟨⟨h1,h2,h3⟩,h4,h5⟩
  have h6:∀r ∈ p.2,r.1.length=p.1.length/\(1<=r.2.1/\r.2.1<=3)/\inR r.2.2=true/\∀n ∈ r.1,inC n=true:=fun r hr=>by
   have:=h5 r hr
   unfold t8 at this
   rw[z10,z10,z10,decide_eq_true_iff,decide_eq_true_iff,List.all_eq_true] at this
   exact this
  exact ⟨⟨h1,h2⟩,h3,h4,fun r hr=>(h6 r hr).1,fun r hr=>(h6 r hr).2.1,fun r hr=>(h6 r hr).2.2.1,fun r hr=>(h6 r hr).2.2.2⟩
 ·rintro ⟨h1,h2,h3,h4,h5,h6,h7⟩
  refine ⟨⟨h1.1,h1.2,h2⟩,h3,fun r hr=>?_⟩
  unfold t8
  rw[z10,z10,z10,decide_eq_true_iff,decide_eq_true_iff,List.all_eq_true]
  exact ⟨h4 r hr,h5 r hr,h6 r hr,h7 r hr⟩
theorem Ms {l:List Int} {x:List Fq}:io ((lI l x 0).getD 0):=by
 cases h:lI l x 0 with
 | none=>decide
 | some q=>exact xN (by decide) h
def Il (p:Pg) (x:List Fq):Bool:=p.2.all fun r=>(lI r.1 x 0).isSome
end
end Go.Proofs.YtfknoaclabfdlaaGreat

namespace Go.Proofs.YtfknoaclabfdlaaGreat
open Tryz Dn Dn.Sh
def LH (s:Sy):List Int:=bq s.1.length (bwS s)
theorem Fv {s:Sy} (h:gY s=true):bh s=some (LH s,0,()):=by
 have hv:=gF h
 have hb:=hv.bl
 simp only[bh,jv,pP,h,ai,Bool.not_true,cF]
 refine cO s.1.length (by omega) (fun i=>(bq i (bwS s),(i:Int),PUnit.unit)) _ rfl (fun again i hi=>?_) (fun again=>?_)
 ·simp only[aR,z7 hi,z7 (show (i:Int)<s.1.length by omega),cT,z9,aE,dV (show (i+1)*8<=140737488355328 by omega),eg (show i<=1000000 by omega),show (List.getD s.1 i ({ data:={ toList:=[] } },(0:Int))).2=bwS s i from rfl,vE]
 ·simp only[z8 (show ¬ (s.1.length:Int)<s.1.length by omega),cF]
  rfl
def lS (s:Sy) (i:Nat):Rw:=(bq s.2.length (Mx s i),(3:Int),bwS s i)
def dt (s:Sy) (c:List Int):Pg:=(c,bq s.1.length (lS s))
theorem A7 {s:Sy} (h:gY s=true) (c:List Int):cH s c=some (dt s c,0,()):=by
 have hv:=gF h
 have hb:=hv.bl
 unfold cH np
 rw[Et h,ai,Fv h,ai]
 refine (cF _ _).trans ((cF _ _).trans ?_)
 unfold FA LH
 refine cO s.1.length (by omega) (fun i=>((i:Int),c,bq i (lS s),PUnit.unit)) _ rfl (fun again i hi=>?_) (fun again=>?_)
 ·simp only[aR,dD,aE,z7 hi,z7 (show (i:Int)<s.1.length by omega),cT,z9,dV (show (i+1)*40<=140737488355328 by omega),eg (show i<=1000000 by omega),gx hi,ba hi]
  rw[show (bq s.2.length (Mx s i),(3:Int),bwS s i)=lS s i from rfl,vE]
 ·simp only[dD,z8 (show ¬ (s.1.length:Int)<s.1.length by omega),cF]
  rfl
def nc (s:Sy):List Int:=List.replicate s.2.length 1
def fU (s:Sy) (k:Nat) (c:Int):List Int:=(List.replicate s.2.length 0).set k c
theorem zl {s:Sy} {k:Nat} (h:gY s=true) (hk:k<s.2.length) (c:Int):db s (k:Int) c=some (dt s (fU s k c),0,()):=by
 have hr:=(gF h).rl
 simp only[db,pq,z9,z7 (show (0:Int)<=(s.2.length:Nat) by omega),dV (show s.2.length*8<=140737488355328 by omega),Bool.and_self,cT,aR,z7 hk,cf (show k.succ<=s.2.length by omega)]
 rw[show List.set (List.replicate s.2.length (0:Int)) k c=fU s k c from rfl,A7 h]
 rfl
theorem LN (z:Int) {n:Nat} (hn:n<=1000000):cn [z] (n:Int)=some (List.replicate n z):=by
 have hm:gy (IntKind.wrap .u64 ((List.length [z]:Nat):Int)) (IntKind.wrap .u64 (n:Int))=some (0,(n:Int),()):=by
  simp only[gy,qK]
  rw[b6 (by simp) (by simp),b6 (by omega) (by omega),Py (by simp) (by simp) (by omega) (by omega),ai]
  simp only[List.length_singleton]
  congr 1
  refine Prod.ext ?_ (Prod.ext ?_ rfl)
  ·show ((1:Nat):Int)*n / 18446744073709551616=0
   omega
  ·show ((1:Nat):Int)*n % 18446744073709551616=n
   omega
 have hw:IntKind.wrap .i64 (n:Int)=(n:Int):=a7 (by omega) (by omega)
 simp only[cn,iH,jnT]
 rw[z8 (show ¬ (n:Int)<0 by omega),cF,hm,ai]
 have h63:decide ((n:Int)>9223372036854775807)=false:=z8 (by omega)
 have hz0:decide ((0:Int)>0)=false:=rfl
 have hz1:decide ((0:Int)<=(n:Int))=true:=z7 (by omega)
 have hfb:c7 n 8=true:=dV (by omega)
 simp only[hw,hz0,h63,hz1,z9,hfb,Bool.not_false,Bool.not_true,Bool.or_true,Bool.and_self,cT,cF,List.drop_zero,List.take_zero,List.nil_append]
 refine rH (g:=fun _=>some (List.replicate n z)) (I:=fun (x:Int×List Int×PUnit)=>∃c:Nat,x.1=c/\c<=n/\(0<n->0<c)/\x.2.1.length=n/\x.2.1.take c=List.replicate c z) (μ:=fun (x:Int×List Int×PUnit)=>n - x.1.toNat) ?_ ?_ (by simp only;omega)
 ·rintro ⟨i,row,_⟩ rec ⟨c,h1,h2,h3,h4,h5⟩ hrec
  simp only at h1 h4 h5 hrec ⊢
  subst h1
  simp only[z9,h4]
  by_cases hc:c<n
  ·have hl:(List.take (n - c) (List.take c row)).length=min (n - c) c:=by rw[List.length_take,List.length_take,h4];omega
   rw[z7 (show (c:Int)<n by omega),cT,CC (by omega) (by omega) (by omega),CC (by omega) (by omega) (by omega),cf (by omega),cf (Nat.le_refl n)]
   simp only[Bool.and_self,cT]
   rw[a7 (by omega) (by omega)]
   refine hrec _ ⟨c+min (n - c) c,?_,by omega,by omega,?_,?_⟩ ?_
   ·simp only;rw[hl];omega
   ·simp only[List.length_append,List.length_drop,hl,h4,List.length_take];omega
   ·simp only
    rw[List.take_append_of_le_length (by rw[List.length_append,hl,List.length_take,h4];omega),h5,List.take_replicate,List.replicate_append_replicate,List.take_replicate]
    congr 1
    omega
   ·simp only;rw[hl];omega
  ·have:c=n:=by omega
   subst this
   rw[z8 (show ¬ (c:Int)<c by omega),cF]
   rw[<-h5,List.take_of_length_le (by omega)]
 ·refine ⟨(List.take n [z]).length,rfl,by rw[List.length_take];omega,fun h=>by rw[List.length_take];simp;omega,?_,?_⟩
  ·simp only[List.length_append,List.length_drop,List.length_replicate,List.length_take,List.length_singleton];omega
  ·simp only
   rcases Nat.eq_zero_or_pos n with h | h
   ·subst h;rfl
   ·obtain ⟨m,rfl⟩:∃m,n=m+1:=⟨n - 1,by omega⟩
    simp
theorem IG {s:Sy} (h:gY s=true):aV s=some (dt s (nc s),0,()):=by
 have hr:=(gF h).rl
 simp only[aV,kH,LN 1 (show s.2.length<=1000000 by omega),ai]
 rw[show List.replicate s.2.length (1:Int)=nc s from rfl,A7 h]
 rfl
theorem Cx {α:Type} {n:Nat} {f:Nat->α} {a:α}:a ∈ bq n f↔∃i,i<n/\f i=a:=by
 unfold bq
 rw[List.mem_map]
 exact ⟨fun ⟨i,h1,h2⟩=>⟨i,List.mem_range.1 h1,h2⟩,fun ⟨i,h1,h2⟩=>⟨i,List.mem_range.2 h1,h2⟩⟩
theorem Bp {s:Sy} (hv:ValidS s) {c:List Int} (hl:c.length=s.2.length) (hc:∀n ∈ c,inC n=true):ValidP (dt s c):=by
 have hb:=hv.bl
 have hr:=hv.rl
 refine ⟨⟨by show 1<=c.length;omega,by show c.length<=12;omega⟩,?_,hc,fun r h=>?_,fun r h=>?_,fun r h=>?_,fun r h n hn=>?_⟩
 ·show (bq s.1.length (lS s)).length<=6
  rw[aE];omega
 all_goals
  obtain ⟨i,hi,rfl⟩:=Cx.1 h
 ·show (bq s.2.length (Mx s i)).length=c.length
  rw[aE,hl]
 ·exact ⟨by show (1:Int)<=3;omega,by show (3:Int)<=3;omega⟩
 ·have:=hv.wt i hi
  exact z7 (by show -1073741824<=bwS s i/\bwS s i<=1073741824;omega)
 ·obtain ⟨k,hk,rfl⟩:=Cx.1 hn
  have:=AM hv i hk
  exact z7 (by omega)
theorem J0 {s:Sy} (hv:ValidS s):ValidP (dt s (nc s)):=Bp hv (by unfold nc;rw[List.length_replicate]) fun n hn=>by
 rw[(List.mem_replicate.1 hn).2];rfl
theorem fc {s:Sy} {k:Nat} {c:Int}:(fU s k c).length=s.2.length:=by unfold fU;rw[List.length_set,List.length_replicate]
theorem pU {s:Sy} {k j:Nat} {c:Int} (hj:j<s.2.length):(fU s k c).getD j 0=if k=j then c else 0:=by
 unfold fU
 rw[bN (by rw[List.length_set,List.length_replicate];exact hj),List.getElem_set]
 split
 ·rfl
 ·exact List.getElem_replicate _
theorem Bl {s:Sy} (hv:ValidS s) {k:Nat} {c:Int} (hc:inC c=true):ValidP (dt s (fU s k c)):=Bp hv fc fun n hn=>by
 unfold fU at hn
 rcases List.mem_or_eq_of_mem_set hn with h | h
 ·rw[(List.mem_replicate.1 h).2];rfl
 ·rw[h];exact hc
def jW (s:ByteArray):Bool:=!decide ((s.size:Int)>60)
def nT (s:Sy):Bool:=decide (s.1.length<=9/\s.2.length<=9)&&(s.1.all (fun b=>jW b.1)&&s.2.all (fun r=>jW r.1&&(!decide ((r.2.1.length:Int)>13)&&r.2.1.all fun h=>jW h.1)))
theorem G2 (s:Sy):eW s=some (nT s):=by
 obtain ⟨bs,rs⟩:=s
 simp only[eW,mE,nT]
 by_cases h0:bs.length<=9/\rs.length<=9
 ·rw[z7 h0,z8 (show ¬ (bs.length:Int)>9 by omega),z8 (show ¬ (rs.length:Int)>9 by omega)]
  simp only[Bool.not_false,Bool.not_true,Bool.or_true,cT,cF,Bool.true_and]
  refine (pR (p:=fun b:Bk=>jW b.1) (d:=bk0) (l:=bs) (no:=some false) (yes:=some (rs.all (fun r=>jW r.1&&(!decide ((r.2.1.length:Int)>13)&&r.2.1.all fun h=>jW h.1)))) (by omega) ?_ ?_).trans ?_
  ·intro again i hi
   simp only[aR,z7 hi,z7 (show (i:Int)<bs.length by omega),cT,z9,eg (show i<=1000000 by omega),jW]
   generalize decide ((((bs.getD i bk0).1.size:Nat):Int)>60)=g
   cases g<;>rfl
  ·intro again
   simp only[z8 (show ¬ (bs.length:Int)<bs.length by omega),cF]
   refine (pR (p:=fun r:Rp=>jW r.1&&(!decide ((r.2.1.length:Int)>13)&&r.2.1.all fun h=>jW h.1)) (d:=rp0) (l:=rs) (no:=some false) (yes:=some true) (by omega) ?_ ?_).trans ?_
   ·intro again i hi
    simp only[aR,z7 hi,z7 (show (i:Int)<rs.length by omega),cT,z9,eg (show i<=1000000 by omega)]
    simp only[jW]
    generalize decide ((((rs.getD i rp0).1.size:Nat):Int)>60)=g1
    by_cases g:((rs.getD i rp0).2.1.length:Int)>13
    ·rw[z7 g]
     cases g1<;>rfl
    ·rw[z8 g]
     cases g1 with
     | true=>rfl
     | false =>
      simp only[Bool.not_true,Bool.not_false,Bool.or_true,Bool.and_self,Bool.true_and,cT,cF]
      refine pR (p:=fun h:Hd=>!decide (((h.1.size:Nat):Int)>60)) (d:=hd0) (l:=(rs.getD i rp0).2.1) (by omega) ?_ ?_
      ·intro again1 t ht
       simp only[aR,z7 ht,z7 (show (t:Int)<(rs.getD i rp0).2.1.length by omega),cT,z9,eg (show t<=1000000 by omega)]
       generalize decide (((((rs.getD i rp0).2.1.getD t hd0).1.size:Nat):Int)>60)=g
       cases g<;>rfl
      ·intro again1
       simp only[z8 (show ¬ ((rs.getD i rp0).2.1.length:Int)<(rs.getD i rp0).2.1.length by omega),cF]
   ·intro again
    simp only[z8 (show ¬ (rs.length:Int)<rs.length by omega),cF]
   ·cases rs.all (fun r=>jW r.1&&(!decide ((r.2.1.length:Int)>13)&&r.2.1.all fun h=>jW h.1))<;>rfl
  ·cases bs.all (fun b=>jW b.1)<;>rfl
 ·rw[z8 h0]
  by_cases g:(bs.length:Int)>9
  ·rw[z7 g];rfl
  ·rw[z8 g,z7 (show (rs.length:Int)>9 by omega)];rfl
theorem Ec {s:Sy} (h:nT s=true):s.1.length<=9/\s.2.length<=9:=by
 unfold nT at h
 rw[z10,decide_eq_true_iff] at h
 exact h.1
theorem GQ:aP=some true:=by kernel_rfl
theorem OP (s:Sy) (y:List Fq):bi s y=some (nT s&&decide (y.length<=10)):=by
 simp only[bi,oH,G2,ai]
 rw[show decide ((y.length:Int)<=10)=decide (y.length<=10) from decide_eq_decide.2 (by omega)]
 cases nT s<;>rfl
def og (x:Int):Bool×Int×Int:=(decide (x<0),hl x.natAbs)
theorem rR {x:Int} (h1: -9223372036854775808<=x) (h2:x<9223372036854775808):bQ x=some (x.natAbs:Int):=uD h1 h2
theorem EK {n:Nat}:(bif !decide ((hl n).1=0) then true else !decide ((hl n).2=0))=decide (n≠0):=by
 unfold hl
 simp only
 by_cases h:n=0
 ·subst h;rfl
 ·rw[z7 h]
  by_cases c1:((n / 18446744073709551616:Nat):Int)=0
  ·rw[z7 c1,z8 (show ¬ ((n % 18446744073709551616:Nat):Int)=0 by omega)];rfl
  ·rw[z8 c1];rfl
theorem K5 {a b:Int}:(bif !decide (decide (a<0)=decide (b<0)) then decide ((a.natAbs*b.natAbs)≠0) else false)=decide (a*b<0):=by
 by_cases ha:a<0
 ·by_cases hb:b<0
  ·have:=Int.mul_pos_of_neg_of_neg ha hb
   rw[z8 (show ¬ a*b<0 by omega)]
   simp[ha,hb]
  ·by_cases hb0:b=0
   ·subst hb0;simp
   ·have:=Int.mul_neg_of_neg_of_pos ha (show 0<b by omega)
    rw[z7 this,z7 (show a.natAbs*b.natAbs≠0 by rw[<-Int.natAbs_mul];omega)]
    simp[ha,hb]
 ·by_cases ha0:a=0
  ·subst ha0;simp
  ·by_cases hb:b<0
   ·have:=Int.mul_neg_of_pos_of_neg (show 0<a by omega) hb
    rw[z7 this,z7 (show a.natAbs*b.natAbs≠0 by rw[<-Int.natAbs_mul];omega)]
    simp[ha,hb]
   ·have:=Int.mul_nonneg (show 0<=a by omega) (show 0<=b by omega)
    rw[z8 (show ¬ a*b<0 by omega)]
    simp[ha,hb]
theorem p9 {a b:Int} (ha: -9223372036854775808<=a/\a<9223372036854775808) (hb: -9223372036854775808<=b/\b<9223372036854775808):bw a b=some (og (a*b)):=by
 have e:(((a.natAbs:Nat):Int)*(b.natAbs:Int) / 18446744073709551616,((a.natAbs:Nat):Int)*(b.natAbs:Int) % 18446744073709551616,PUnit.unit)=((hl (a.natAbs*b.natAbs)).1,(hl (a.natAbs*b.natAbs)).2,PUnit.unit):=by
  rw[<-Int.natCast_mul];rfl
 simp only[bw,kE,rR ha.1 ha.2,rR hb.1 hb.2,ai]
 rw[Py (by omega) (by omega) (by omega) (by omega),ai,e]
 have h1:=EK (n:=a.natAbs*b.natAbs)
 have h2:=K5 (a:=a) (b:=b)
 rw[<-h1] at h2
 unfold og
 rw[Int.natAbs_mul,<-h2]
 generalize hl (a.natAbs*b.natAbs)=p
 obtain ⟨c,hc⟩:∃c,(decide (decide (a<0)=decide (b<0)))=c:=⟨_,rfl⟩
 obtain ⟨c1,hc1⟩:∃c,decide (p.1=0)=c:=⟨_,rfl⟩
 simp only[hc,hc1]
 cases c<;>cases c1<;>rfl
theorem va {s t:Bool} {m n:Nat}:ax (s,hl m) (t,hl n)=some (if m<n then -1 else if m=n then 0 else 1):=by
 simp only[ax,fu]
 have e1:(hl m).1=(hl n).1↔m / 18446744073709551616=n / 18446744073709551616:=by unfold hl;simp only;omega
 have e2:(hl m).1<(hl n).1↔m / 18446744073709551616<n / 18446744073709551616:=by unfold hl;simp only;omega
 have e3:(hl m).2=(hl n).2↔m % 18446744073709551616=n % 18446744073709551616:=by unfold hl;simp only;omega
 have e4:(hl m).2<(hl n).2↔m % 18446744073709551616<n % 18446744073709551616:=by unfold hl;simp only;omega
 rw[decide_eq_decide.2 e1,decide_eq_decide.2 e2,decide_eq_decide.2 e3,decide_eq_decide.2 e4]
 generalize q1:decide (m / 18446744073709551616=n / 18446744073709551616)=c1
 generalize q2:decide (m / 18446744073709551616<n / 18446744073709551616)=c2
 generalize q3:decide (m % 18446744073709551616=n % 18446744073709551616)=c3
 generalize q4:decide (m % 18446744073709551616<n % 18446744073709551616)=c4
 cases c1<;>cases c2<;>cases c3<;>cases c4<;>simp only[decide_eq_true_iff,decide_eq_false_iff_not] at q1 q2 q3 q4 <;>
  first
  | (exfalso;omega)
  | (rw[if_pos (show m<n by omega)];rfl)
  | (rw[if_neg (show ¬ m<n by omega),if_pos (show m=n by omega)];rfl)
  | (rw[if_neg (show ¬ m<n by omega),if_neg (show ¬ m=n by omega)];rfl)
theorem Jg {x y:Int}:cg (og x) (og y)=some (if x<y then -1 else if x=y then 0 else 1):=by
 have key:∀{a b:Nat} (h1:a<b↔x<y) (h2:a=b↔x=y),(if a<b then (-1:Int) else if a=b then 0 else 1)=if x<y then -1 else if x=y then 0 else 1:=fun h1 h2=>by simp only[h1,h2]
 unfold og
 simp only[cg,gI,va,ai]
 by_cases hx:x<0
 ·by_cases hy:y<0
  ·rw[z7 hx,z7 hy,key (by omega) (by omega)]
   rfl
  ·rw[if_pos (show x<y by omega),z7 hx,z8 hy]
   rfl
 ·by_cases hy:y<0
  ·rw[if_neg (show ¬ x<y by omega),if_neg (show ¬ x=y by omega),z8 hx,z7 hy]
   rfl
  ·rw[z8 hx,z8 hy,key (a:=x.natAbs) (b:=y.natAbs) (by omega) (by omega)]
   rfl
theorem E4 {m n:Nat} (h:m+n<340282366920938463463374607431768211456):(ul (hl m).1 (hl n).1 (mG (hl m).2 (hl n).2 0),ul (hl m).2 (hl n).2 0)=hl (m+n):=by
 have h1:=Kk h
 have c1:(0:Int)<=mG (hl m).2 (hl n).2 0:=by rw[rQ];omega
 have c2:mG (hl m).2 (hl n).2 0<=1:=by rw[rQ];omega
 simp only[fj,kX,z7 c1,z7 c2] at h1
 exact Option.some.inj h1
theorem uK {m n:Nat} (h:n<=m) (hm:m<340282366920938463463374607431768211456):(qO (hl m).1 (hl n).1 (lB (hl m).2 (hl n).2 0),qO (hl m).2 (hl n).2 0)=hl (m - n):=by
 have h1:=G9 h hm
 have c1:(0:Int)<=lB (hl m).2 (hl n).2 0:=by rw[rT];omega
 have c2:lB (hl m).2 (hl n).2 0<=1:=by rw[rT];split<;>omega
 simp only[dQ,j9,z7 c1,z7 c2] at h1
 exact Option.some.inj h1
theorem qY {m n:Nat}:(decide ((0:Int)<=lB (hl m).2 (hl n).2 0)&&decide (lB (hl m).2 (hl n).2 0<=(1:Int)))=true:=by
 rw[z7 (show (0:Int)<=lB (hl m).2 (hl n).2 0 by rw[rT];omega),z7 (show lB (hl m).2 (hl n).2 0<=1 by rw[rT];split<;>omega)]
 rfl
theorem vu {m n:Nat}:(decide ((0:Int)<=mG (hl m).2 (hl n).2 0)&&decide (mG (hl m).2 (hl n).2 0<=(1:Int)))=true:=by
 rw[z7 (show (0:Int)<=mG (hl m).2 (hl n).2 0 by rw[rQ];omega),z7 (show mG (hl m).2 (hl n).2 0<=1 by rw[rQ];omega)]
 rfl
theorem FE {x y:Int} (hx:x.natAbs<85070591730234615865843651857942052864) (hy:y.natAbs<85070591730234615865843651857942052864):bu (og x) (og y)=some (og (x - y)):=by
 unfold og
 simp only[bu,fW,va,ai,pN,qY,vu]
 by_cases hs:decide (x<0)=decide (y<0)
 ·
  rw[z7 hs]
  simp only[Bool.not_true,cF]
  by_cases hlt:x.natAbs<y.natAbs
  ·have h1:=uK (m:=y.natAbs) (n:=x.natAbs) (by omega) (by omega)
   have h2:=congrArg Prod.fst h1
   have h3:=congrArg Prod.snd h1
   simp only at h2 h3
   rw[if_pos hlt]
   simp only[show decide ((-1:Int)<0)=true from rfl,cT,h2,h3]
   have h4:=EK (n:=y.natAbs - x.natAbs)
   have e1:decide (x - y<0)=(bif !decide (x<0) then decide (y.natAbs - x.natAbs≠0) else false):=by
    rw[z7 (show y.natAbs - x.natAbs≠0 by omega)]
    by_cases c:x<0
    ·have c':y<0:=by rw[z7 c] at hs;exact z12 hs.symm
     rw[z7 c,z8 (show ¬ x - y<0 by omega)];rfl
    ·have c':¬ y<0:=by rw[z8 c] at hs;exact of_decide_eq_false hs.symm
     rw[z8 c,z7 (show x - y<0 by omega)];rfl
   have e2:(x - y).natAbs=y.natAbs - x.natAbs:=by
    by_cases c:x<0
    ·have c':y<0:=by rw[z7 c] at hs;exact z12 hs.symm
     omega
    ·have c':¬ y<0:=by rw[z8 c] at hs;exact of_decide_eq_false hs.symm
     omega
   rw[e1,e2,<-h4]
   generalize hl (y.natAbs - x.natAbs)=p
   obtain ⟨c,hc⟩:∃c,decide (p.1=0)=c:=⟨_,rfl⟩
   simp only[hc]
   cases decide (x<0)<;>cases c<;>rfl
  ·have h1:=uK (m:=x.natAbs) (n:=y.natAbs) (by omega) (by omega)
   have h2:=congrArg Prod.fst h1
   have h3:=congrArg Prod.snd h1
   simp only at h2 h3
   have h0:¬ (if x.natAbs<y.natAbs then (-1:Int) else if x.natAbs=y.natAbs then 0 else 1)<0:=by
    rw[if_neg hlt]
    split<;>simp
   rw[z8 h0]
   simp only[cF,h2,h3]
   have h4:=EK (n:=x.natAbs - y.natAbs)
   have e1:decide (x - y<0)=(bif decide (x<0) then decide (x.natAbs - y.natAbs≠0) else false):=by
    by_cases c:x<0
    ·have c':y<0:=by rw[z7 c] at hs;exact z12 hs.symm
     rw[z7 c,cond_true]
     exact decide_eq_decide.2 (by omega)
    ·have c':¬ y<0:=by rw[z8 c] at hs;exact of_decide_eq_false hs.symm
     rw[z8 c,z8 (show ¬ x - y<0 by omega)];rfl
   have e2:(x - y).natAbs=x.natAbs - y.natAbs:=by
    by_cases c:x<0
    ·have c':y<0:=by rw[z7 c] at hs;exact z12 hs.symm
     omega
    ·have c':¬ y<0:=by rw[z8 c] at hs;exact of_decide_eq_false hs.symm
     omega
   rw[e1,e2,<-h4]
   generalize hl (x.natAbs - y.natAbs)=p
   obtain ⟨c,hc⟩:∃c,decide (p.1=0)=c:=⟨_,rfl⟩
   simp only[hc]
   cases decide (x<0)<;>cases c<;>rfl
 ·rw[z8 hs]
  have h1:=E4 (m:=x.natAbs) (n:=y.natAbs) (by omega)
  have h2:=congrArg Prod.fst h1
  have h3:=congrArg Prod.snd h1
  simp only at h2 h3
  simp only[Bool.not_false,cT,h2,h3]
  have h4:=EK (n:=y.natAbs)
  by_cases c:x<0
  ·have c':¬ y<0:=fun c'=>hs (by rw[z7 c,z7 c'])
   rw[z7 c,z8 c',z7 (show x - y<0 by omega),show (x - y).natAbs=x.natAbs+y.natAbs by omega]
   generalize hl y.natAbs=p
   obtain ⟨d,hd⟩:∃d,decide (p.1=0)=d:=⟨_,rfl⟩
   simp only[hd]
   cases d<;>rfl
  ·have c':y<0:=by
    apply Classical.byContradiction
    intro c'
    exact hs (by rw[z8 c,z8 c'])
   rw[z8 c,z7 c',z8 (show ¬ x - y<0 by omega),show (x - y).natAbs=x.natAbs+y.natAbs by omega]
   generalize hl y.natAbs=p
   obtain ⟨d,hd⟩:∃d,decide (p.1=0)=d:=⟨_,rfl⟩
   simp only[hd]
   cases d<;>rfl
theorem Hl {d q:Int} (hd:0<d) (hd2:d<9223372036854775808) (hq:q.natAbs<9223372036854775808):bM (og (d*q)) d=some q:=by
 unfold og
 simp only[bM,gd]
 have e:(d*q).natAbs=d.natAbs*q.natAbs:=Int.natAbs_mul _ _
 have hdn:(d.natAbs:Int)=d:=by omega
 have h1:(d*q).natAbs / 18446744073709551616<d.natAbs:=by
  rw[e]
  refine (Nat.div_lt_iff_lt_mul (by omega)).2 ?_
  exact Nat.mul_lt_mul_of_pos_left (by omega) (by omega)
 have h2:=AV (h:=(d*q).natAbs / 18446744073709551616) (l:=(d*q).natAbs % 18446744073709551616) (y:=d.natAbs) h1 (by omega) (by omega)
 have h3:(d*q).natAbs / 18446744073709551616*18446744073709551616+(d*q).natAbs % 18446744073709551616=(d*q).natAbs:=by omega
 rw[h3,e,Nat.mul_div_cancel_left _ (by omega)] at h2
 have h4:IntKind.wrap .u64 d=(d.natAbs:Int):=by rw[b6 (by omega) (by omega)];omega
 rw[h4]
 unfold hl
 simp only
 rw[e,h2,ai]
 simp only
 rw[a7 (x:=(q.natAbs:Int)) (by omega) (by omega)]
 by_cases c:q<0
 ·rw[z7 (show d*q<0 from Int.mul_neg_of_pos_of_neg hd c),cond_true,a7 (by omega) (by omega)]
  congr 1
  omega
 ·rw[z8 (show ¬ d*q<0 by have:=Int.mul_nonneg (show 0<=d by omega) (show 0<=q by omega);omega),cond_false]
  congr 1
  omega
theorem aM {i:Nat} (h:i<=1000000):IntKind.wrap .i64 ((i:Int)+1)=((i+1:Nat):Int):=by rw[a7 (by omega) (by omega)];rfl
def mid (T:Nat->Nat->Int) (d:Int) (r c i j:Nat):Nat->Nat->Int:=fun k l=>if k≠r/\(k<i\/(k=i/\l<j)) then piv T d r c k l else T k l
theorem Nj {T:Nat->Nat->Int} {d:Int} {r c i j l:Nat}:mid T d r c i j r l=T r l:=if_neg fun h=>h.1 rfl
theorem Ce {T:Nat->Nat->Int} {d:Int} {r c i j l:Nat} (h:j<=l):mid T d r c i j i l=T i l:=by
 unfold mid
 rw[if_neg fun h=>by omega]
theorem Je {T:Nat->Nat->Int} {d:Int} {r c k l:Nat}:T k l=mid T d r c 0 0 k l:=by
 unfold mid
 rw[if_neg fun h=>by omega]
def zz (T:Nat->Nat->Int) (i j:Nat):Nat->Nat->Int:=fun k l=>if k<i\/(k=i/\l<j) then - T k l else T k l
theorem Gn {T:Nat->Nat->Int} {i j l:Nat} (h:j<=l):zz T i j i l=T i l:=by
 unfold zz
 rw[if_neg fun h=>by omega]
theorem FB {T:Nat->Nat->Int} {k l:Nat}:T k l=zz T 0 0 k l:=by
 unfold zz
 rw[if_neg fun h=>by omega]
theorem jj {m w:Nat} {T:Nat->Nat->Int}:(fJ m w T).2=dk m w T:=rfl
theorem EN {m w:Nat} {T T':Nat->Nat->Int} {i j:Nat} {x:Int} (hi:i<m) (hj:j<w) (h:∀k l,k<m->l<w->(if k=i/\l=j then x else T k l)=T' k l) :
  ((fJ m w T).1,(dk m w T).set i (some ((bq w (T i)).set j x)))=fJ m w T':=by
 rw[Bj hi hj,g9 h]
 rfl
structure PivOk (m w:Nat) (T:Nat->Nat->Int) (d:Int) (r c:Nat):Prop where
 hm:m<=1000
 hw:w<=1000
 hr:r<m
 hc:c<w
 hd:0<d/\d<4611686018427387904
 b:∀i j,i<m->j<w->(T i j).natAbs<4611686018427387904
 q:∀i j,i<m->i≠r->j<w->d*piv T d r c i j=T r c*T i j - T i c*T r j
 qb:∀i j,i<m->i≠r->j<w->(piv T d r c i j).natAbs<4611686018427387904
theorem i7 {x:Int} (h:x.natAbs<4611686018427387904): -9223372036854775808<=x/\x<9223372036854775808:=by omega
theorem wO {x y:Int} (hx:x.natAbs<4611686018427387904) (hy:y.natAbs<4611686018427387904):(x*y).natAbs<85070591730234615865843651857942052864:=by
 rw[Int.natAbs_mul]
 exact Nat.lt_of_le_of_lt (Nat.mul_le_mul (Nat.le_of_lt_succ (n:=4611686018427387903) hx) (Nat.le_of_lt_succ (n:=4611686018427387903) hy)) (by decide)
theorem wu {m w:Nat} {T:Nat->Nat->Int} {d:Int} {β:Nat->Nat} {r c:Nat} {x3 x4:List Int} {x5 x6:Int} (h:PivOk m w T d r c) :
  aJ (fJ m w T) d (iv m β) x3 x4 x5 x6 (r:Int) (c:Int)=some (fJ m w (mu T d r c),sg (T r c)*T r c,iv m (upd β r c),x3,x4,x5,x6,()):=by
 obtain ⟨hm,hw,hr,hc,hd,hb,hq,hqb⟩:=h
 unfold aJ gH
 simp only[ff,gV hr,jj,fV hr,aE,ba hc,aR,z9,z7 hr,z7 hc,cf (show Nat.succ r<=m from hr),cf (show Nat.succ c<=w from hc),cT,KR hr,iy]
 refine cO m (by omega) (fun i=>((i:Int),fJ m w (mid T d r c i 0),PUnit.unit)) _ (by rw[iM fun k l _ _=>Je];rfl) (fun again i hi=>?_) (fun again=>?_)
 ·simp only[ff,gV hi,jj,fV hi,aE,ba hc,aR,z9,z7 hi,z7 hc,z7 (show (i:Int)<m by omega),cf (show Nat.succ i<=m from hi),cf (show Nat.succ c<=w from hc),cT,sO hi,aM (show i<=1000000 by omega)]
  by_cases e:i=r
  ·rw[z7 (show (i:Int)=r by omega),cond_true]
   congr 3
   refine iM fun k l _ _=>?_
   unfold mid
   by_cases c1:k≠r/\(k<i\/(k=i/\l<0))
   ·rw[if_pos c1,if_pos (by omega)]
   ·rw[if_neg c1,if_neg (by omega)]
  ·rw[z8 (show ¬ (i:Int)=r by omega),cond_false]
   refine rY w (by omega) (fun j=>((j:Int),fJ m w (mid T d r c i j),PUnit.unit)) _ (fun again2 j hj=>?_) (fun again2=>?_)
   ·have t1:=p9 (i7 (hb i j hi hj)) (i7 (hb r c hr hc))
    have t2:=p9 (i7 (hb i c hi hc)) (i7 (hb r j hr hj))
    have t3:=FE (wO (hb i j hi hj) (hb r c hr hc)) (wO (hb i c hi hc) (hb r j hr hj))
    have t4:bM (og (T i j*T r c - T i c*T r j)) d=some (piv T d r c i j):=by
     rw[Int.mul_comm (T i j),<-hq i j hi e hj]
     exact Hl hd.1 (by omega) (by have:=hqb i j hi e hj;omega)
    simp only[ff,gV hr,jj,fV hi,fV hr,aE,ba hj,aR,z9,z7 hj,z7 hr,z7 (show (j:Int)<w by omega),
     cf (show Nat.succ j<=w from hj),cf (show Nat.succ r<=m from hr),cT,Nj,Ce (Nat.le_refl j),Ce (Nat.zero_le c),t1,t2,t3,t4,ai,aM (show j<=1000000 by omega)]
    congr 3
    refine EN hi hj fun k l hk hl=>?_
    unfold mid
    by_cases c0:k=i/\l=j
    ·rw[if_pos c0,if_pos (by omega),c0.1,c0.2]
    ·rw[if_neg c0]
     by_cases c1:k≠r/\(k<i\/(k=i/\l<j))
     ·rw[if_pos c1,if_pos (by omega)]
     ·rw[if_neg c1,if_neg (by omega)]
   ·simp only[jj,fV hi,aE,z8 (show ¬ (w:Int)<w by omega),cF]
    congr 3
    refine iM fun k l hk hl=>?_
    unfold mid
    by_cases c1:k≠r/\(k<i\/(k=i/\l<w))
    ·rw[if_pos c1,if_pos (by omega)]
    ·rw[if_neg c1,if_neg (by omega)]
 ·simp only[ff,z8 (show ¬ (m:Int)<m by omega),cF]
  by_cases hneg:T r c<0
  ·rw[z7 hneg,cond_true]
   refine cO m (by omega) (fun i=>((i:Int),fJ m w (zz (mid T d r c m 0) i 0),PUnit.unit)) _ (by rw[iM fun k l _ _=>FB];rfl) (fun again i hi=>?_) (fun again=>?_)
   ·simp only[ff,gV hi,jj,fV hi,aE,aR,z9,z7 hi,z7 (show (i:Int)<m by omega),cf (show Nat.succ i<=m from hi),cT,sO hi,aM (show i<=1000000 by omega)]
    refine rY w (by omega) (fun j=>((j:Int),fJ m w (zz (mid T d r c m 0) i j),PUnit.unit)) _ (fun again2 j hj=>?_) (fun again2=>?_)
    ·have hbb:(mid T d r c m 0 i j).natAbs<4611686018427387904:=by
      unfold mid
      split
      ·rename_i hh;exact hqb i j hi hh.1 hj
      ·exact hb i j hi hj
     simp only[jj,fV hi,aE,ba hj,aR,z9,z7 hj,z7 (show (j:Int)<w by omega),
      cf (show Nat.succ j<=w from hj),cT,Gn (Nat.le_refl j),aM (show j<=1000000 by omega),a7 (show -9223372036854775808<=0 - mid T d r c m 0 i j by omega) (by omega)]
     congr 3
     refine EN hi hj fun k l hk hl=>?_
     unfold zz
     by_cases c0:k=i/\l=j
     ·rw[if_pos c0,if_pos (by omega),c0.1,c0.2]
      omega
     ·rw[if_neg c0]
      by_cases c1:k<i\/(k=i/\l<j)
      ·rw[if_pos c1,if_pos (by omega)]
      ·rw[if_neg c1,if_neg (by omega)]
    ·simp only[jj,fV hi,aE,z8 (show ¬ (w:Int)<w by omega),cF]
     congr 3
     refine iM fun k l hk hl=>?_
     unfold zz
     by_cases c1:k<i\/(k=i/\l<w)
     ·rw[if_pos c1,if_pos (by omega)]
     ·rw[if_neg c1,if_neg (by omega)]
   ·have hrc:=hb r c hr hc
    simp only[ff,z8 (show ¬ (m:Int)<m by omega),cF,a7 (show -9223372036854775808<=0 - T r c by omega) (by omega)]
    have e1:sg (T r c)= -1:=by unfold sg;rw[if_pos hneg]
    congr 2
    ·refine iM fun k l hk hl=>?_
     unfold zz mid mu
     rw[if_pos (by omega),e1]
     by_cases c0:k=r
     ·rw[if_neg (by omega),if_pos c0,c0];omega
     ·rw[if_pos (by omega),if_neg c0];omega
    ·rw[e1]
     congr 1
     omega
  ·rw[z8 hneg,cond_false]
   have e1:sg (T r c)=1:=by unfold sg;rw[if_neg hneg]
   congr 2
   ·refine iM fun k l hk hl=>?_
    unfold mid mu
    rw[e1,Int.one_mul]
    by_cases c0:k=r
    ·rw[if_neg (by omega),if_pos c0,c0]
    ·rw[if_pos (by omega),if_neg c0]
   ·rw[e1,Int.one_mul]
theorem ra {x y z p q r:Int} (hp:0<p) (hq:0<q) (hr:0<r) (h1:x*q<=y*p) (h2:y*r<=z*q):x*r<=z*p:=by
 refine xn hq ?_
 have a1:=z11 h1 (Int.le_of_lt hr)
 have a2:=z11 h2 (Int.le_of_lt hp)
 calc q*(x*r)=x*q*r:=by grind
  _<=y*p*r:=a1
  _=y*r*p:=by grind
  _<=z*q*p:=a2
  _=q*(z*p):=by grind
theorem H9 {x y z p q r:Int} (hp:0<p) (hq:0<q) (hr:0<r) (h1:x*q<=y*p) (h2:y*r<=z*q) (h:x*r=z*p):x*q=y*p/\y*r=z*q:=by
 have h3:=ra hq hr hp h2 (by rw[h];exact Int.le_refl _)
 have h4:=ra (x:=z) (y:=x) (z:=y) (p:=r) (q:=p) (r:=q) hr hp hq (by rw[h];exact Int.le_refl _) h1
 exact ⟨Int.le_antisymm h1 h3,Int.le_antisymm h2 h4⟩
theorem wn {m w:Nat} {T:Nat->Nat->Int} {d:Int} {β:Nat->Nat} {c R:Nat} {x1:Int} {x3 x4:List Int} {x5:Int} (hm:m<=1000) (hc:c<w) (hR:R<w) (hb:∀i j,i<m->j<w->(T i j).natAbs<4611686018427387904) :
  ∃b,aG (kw m w T,x1,iv m β,x3,x4,x5,(R:Int)) (c:Int)=some b/\((b= -1/\∀i,i<m->T i c<=0)\/∃r:Nat,b=r/\Dn.Leaves m R ⟨T,d,β⟩ c r):=by
 unfold aG fT
 refine Om (fun (x:Int×Int×PUnit)=>∃i:Nat,i<=m/\x.2.1=i/\((x.1= -1/\∀k,k<i->T k c<=0)\/∃r:Nat,x.1=r/\Dn.Leaves i R ⟨T,d,β⟩ c r)) _ (fun x=>((m:Int) - x.2.1).toNat) ?_ ⟨0,by omega,rfl,.inl ⟨rfl,fun k hk=>by omega⟩⟩ (by simp only;omega)
 rintro ⟨b,_,_⟩ ⟨i,hi,rfl,hI⟩
 simp only at hI
 by_cases hlt:i<m
 ·have gR:=gx (w:=w) (T:=T) hlt
  have ext:∀r,Dn.Leaves i R ⟨T,d,β⟩ c r->(0<T i c->T r R*T i c<=T i R*T r c/\(T r R*T i c=T i R*T r c->β r<=β i))->Dn.Leaves (i+1) R ⟨T,d,β⟩ c r:=fun r h hn=>by
   refine ⟨by have:=h.lt;omega,h.pos,fun k hk hp=>?_,fun k hk hp he=>?_⟩
   ·by_cases e:k=i
    ·subst e;exact (hn hp).1
    ·exact h.le k (by omega) hp
   ·by_cases e:k=i
    ·subst e;exact (hn hp).2 he
    ·exact h.tie k (by omega) hp he
  right
  by_cases hpos:T i c<=0
  ·refine ⟨(b,((i+1:Nat):Int),PUnit.unit),⟨i+1,by omega,rfl,?_⟩,by simp only;omega,fun rec=>?_⟩
   ·rcases hI with ⟨h1,h2⟩ | ⟨r,h1,h2⟩
    ·exact .inl ⟨h1,fun k hk=>by
      by_cases e:k=i
      ·rw[e];exact hpos
      ·exact h2 k (by omega)⟩
    ·exact .inr ⟨r,h1,ext r h2 fun h=>by omega⟩
   ·simp only[dD,aR,z9,z7 hlt,z7 (show (i:Int)<m by omega),gR,aE,ba hc,z7 hc,z7 hpos,cT,aM (show i<=1000000 by omega)]
  ·rcases hI with ⟨h1,h2⟩ | ⟨r,h1,h2⟩
   ·refine ⟨((i:Int),((i+1:Nat):Int),PUnit.unit),⟨i+1,by omega,rfl,.inr ⟨i,rfl,⟨by omega,show 0<T i c by omega,fun k hk hp=>?_,fun k hk hp _=>?_⟩⟩⟩,by simp only;omega,fun rec=>?_⟩
    ·by_cases e:k=i
     ·subst e;exact Int.le_refl _
     ·have h3:=h2 k (by omega)
      have hp:0<T k c:=hp
      omega
    ·by_cases e:k=i
     ·subst e;exact Nat.le_refl _
     ·have h3:=h2 k (by omega)
      have hp:0<T k c:=hp
      omega
    ·simp only[dD,aR,z9,z7 hlt,z7 (show (i:Int)<m by omega),gR,aE,ba hc,z7 hc,z8 hpos,z7 (show b<0 by omega),cT,cF,aM (show i<=1000000 by omega)]
   ·subst h1
    have hr:r<m:=by have:=h2.lt;omega
    have gr:=gx (w:=w) (T:=T) hr
    have t1:=p9 (i7 (hb i R hlt hR)) (i7 (hb r c hr hc))
    have t2:=p9 (i7 (hb r R hr hR)) (i7 (hb i c hlt hc))
    have hpr:0<T r c:=h2.pos
    refine ⟨(if T i R*T r c<T r R*T i c\/(T i R*T r c=T r R*T i c/\β i<β r) then (i:Int) else (r:Int),((i+1:Nat):Int),PUnit.unit),⟨i+1,by omega,rfl,.inr ?_⟩,by simp only;omega,fun rec=>?_⟩
    ·simp only
     by_cases hq:T i R*T r c<T r R*T i c\/(T i R*T r c=T r R*T i c/\β i<β r)
     ·rw[if_pos hq]
      have hle:T i R*T r c<=T r R*T i c:=by rcases hq with h | h<;>omega
      have hpi:0<T i c:=by omega
      refine ⟨i,rfl,⟨by omega,hpi,fun k hk hp=>?_,fun k hk hp he=>?_⟩⟩
      ·have hp:0<T k c:=hp
       by_cases e:k=i
       ·subst e;exact Int.le_refl _
       ·exact ra hpi hpr hp hle (h2.le k (by omega) hp)
      ·have hp:0<T k c:=hp
       have he:T i R*T k c=T k R*T i c:=he
       by_cases e:k=i
       ·subst e;exact Nat.le_refl _
       ·obtain ⟨e1,e2⟩:=H9 hpi hpr hp hle (h2.le k (by omega) hp) he
        have h3:β r<=β k:=h2.tie k (by omega) hp e2
        show β i<=β k
        rcases hq with h | h<;>omega
     ·rw[if_neg hq]
      have h3:=fun h=>hq (.inl h)
      refine ⟨r,rfl,ext r h2 fun hp=>⟨by omega,fun he=>?_⟩⟩
      have h4:=fun h=>hq (.inr ⟨he.symm,h⟩)
      omega
    ·simp only[dD,aR,z9,z7 hlt,z7 hr,z7 (show (i:Int)<m by omega),gR,gr,aE,ba hc,ba hR,z7 hc,z7 hR,z8 hpos,z8 (show ¬ (r:Int)<0 by omega),cT,cF,aM (show i<=1000000 by omega),
      t1,t2,ai,Jg,iy,jm hlt,jm hr]
     by_cases c1:T i R*T r c<T r R*T i c
     ·rw[if_pos c1,if_pos (.inl c1)]
      generalize decide ((β i:Int)<β r)=bb
      cases bb<;>rfl
     ·by_cases c2:T i R*T r c=T r R*T i c
      ·rw[if_neg c1,if_pos c2]
       by_cases c3:β i<β r
       ·rw[if_pos (.inr ⟨c2,c3⟩),z7 (show (β i:Int)<β r by omega)]
        rfl
       ·rw[if_neg (by rintro (h | h)<;>omega),z8 (show ¬ (β i:Int)<β r by omega)]
        rfl
      ·rw[if_neg c1,if_neg c2,if_neg (by rintro (h | h)<;>omega)]
       generalize decide ((β i:Int)<β r)=bb
       cases bb<;>rfl
 ·left
  have e:i=m:=by omega
  subst e
  refine ⟨b,hI,fun rec=>?_⟩
  simp only[dD,z8 (show ¬ (i:Int)<i by omega),cF]
theorem kc {n:Nat} {f:Nat->Int} {B:Int} (h:∀i,i<n-> -B<=f i/\f i<=B): -(n*B)<=sz n f/\sz n f<=n*B:=by
 induction n with
 | zero=>simp[sz]
 | succ n ih =>
  have h1:=ih fun i hi=>h i (by omega)
  have h2:=h n (by omega)
  simp only[sz]
  rw[show ((n+1:Nat):Int)*B=n*B+B by rw[show ((n+1:Nat):Int)=(n:Int)+1 by omega,Int.add_mul,Int.one_mul]]
  omega
theorem xm {m w:Nat} {T:Nat->Nat->Int} {β:Nat->Nat} {N j:Nat} {x1 x6:Int} {x3 x4:List Int} (hm:m<=1000) (hj:j<w) (hb:∀i,i<m-> -1125899906842624<=T i j/\T i j<=1125899906842624) :
  aB (kw m w T,x1,iv m β,x3,x4,(N:Int),x6) (j:Int)=some (sz m fun i=>fp N (β i)*T i j):=by
 unfold aB fe
 have hterm:∀i,i<m-> -1125899906842624<=fp N (β i)*T i j/\fp N (β i)*T i j<=1125899906842624:=fun i hi=>by
  have:=hb i hi
  unfold fp
  split<;>omega
 refine rY m (by omega) (fun i=>(sz i (fun k=>fp N (β k)*T k j),(i:Int),PUnit.unit)) _ (fun again i hi=>?_) (fun again=>?_)
 ·have h1:=kc (n:=i) (f:=fun k=>fp N (β k)*T k j) (B:=1125899906842624) fun k hk=>hterm k (by omega)
  have h2:=hterm i hi
  have hi2:(i:Int)<=1000:=by omega
  have h3:(i:Int)*1125899906842624<=1000*1125899906842624:=z11 hi2 (by omega)
  simp only[dD,iy,aR,z9,z7 hi,z7 (show (i:Int)<m by omega),gx hi,jm hi,aE,ba hj,z7 hj,cT,aM (show i<=1000000 by omega)]
  have hT:=hb i hi
  by_cases e:N<=β i
  ·have e1:fp N (β i)*T i j=T i j:=by unfold fp;rw[if_pos e];omega
   rw[z7 (show (β i:Int)>=N by omega),cond_true,a7 (by omega) (by omega)]
   simp only[sz,e1]
  ·have e1:fp N (β i)*T i j=0:=by unfold fp;rw[if_neg e];omega
   rw[z8 (show ¬ (β i:Int)>=N by omega),cond_false]
   simp only[sz,e1,Int.add_zero]
 ·simp only[dD,z8 (show ¬ (m:Int)<m by omega),cF]
def iO (cs:List Int) (j:Nat):Int:=cs.getD j 0
theorem uM {M:List (List Int)} {x1:Int} {x2 x3 cs:List Int} {x5 x6:Int} {j:Nat}:aK (M,x1,x2,x3,cs,x5,x6) (j:Int)=some (iO cs j):=by
 unfold iO
 simp only[aK,hH,aR,z9]
 by_cases h:j<cs.length
 ·rw[z7 h,z7 (show (j:Int)<cs.length by omega)];rfl
 ·rw[z8 (show ¬ (j:Int)<cs.length by omega),cond_false,List.getD_eq_getElem?_getD,List.getElem?_eq_none (by omega)];rfl
theorem CN {m w:Nat} {T:Nat->Nat->Int} {d:Int} {β:Nat->Nat} {j:Nat} {x3 cs:List Int} {x5 x6:Int} (hm:m<=1000) (hj:j<w) (hd: -1125899906842624<=iO cs j*d/\iO cs j*d<=1125899906842624)
  (hb:∀i,i<m-> -1125899906842624<=iO cs (β i)*T i j/\iO cs (β i)*T i j<=1125899906842624) :
  bE (kw m w T,d,iv m β,x3,cs,x5,x6) (j:Int)=some (zr m (iO cs) ⟨T,d,β⟩ j):=by
 unfold bE fR
 rw[uM,obN]
 refine cO m (by omega) (fun i=>(iO cs j*d - sz i (fun k=>iO cs (β k)*T k j),(i:Int),PUnit.unit)) _ ?_ (fun again i hi=>?_) (fun again=>?_)
 ·simp only[sz,Int.sub_zero]
  rw[a7 (by omega) (by omega)]
  rfl
 ·have h1:=kc (n:=i) (f:=fun k=>iO cs (β k)*T k j) (B:=1125899906842624) fun k hk=>hb k (by omega)
  have h2:=hb i hi
  have hi2:(i:Int)<=1000:=by omega
  have h3:(i:Int)*1125899906842624<=1000*1125899906842624:=z11 hi2 (by omega)
  simp only[dD,iy,aR,z9,z7 hi,z7 (show (i:Int)<m by omega),gx hi,jm hi,aE,ba hj,z7 hj,cT,aM (show i<=1000000 by omega),uM,ai]
  rw[a7 (x:=iO cs (β i)*T i j) (by omega) (by omega),a7 (by omega) (by omega)]
  simp only[sz]
  congr 2
  omega
 ·simp only[dD,z8 (show ¬ (m:Int)<m by omega),cF]
  rfl
structure Bnd (L:Lin) (Y:Lay):Prop where
 ok:Y.ok L
 m:L.m<=12
 w:Y.w L<=64
 P:L.F0*L.P<=17592186044416
theorem wo {x:Int}:ab x=x.natAbs:=rfl
section
variable {L:Lin} {Y:Lay}
theorem Bnd.P' (h:Bnd L Y):L.P<=17592186044416:=by
 have h1:=L.F0_pos
 have h2:=L.P_pos
 have h3:1*L.P<=L.F0*L.P:=z11 h1 (by omega)
 have:=h.P
 omega
theorem Bnd.tab (h:Bnd L Y) {T:Nat->Nat->Int} {d:Int} {β:Nat->Nat} (ht:Tb L.m (Y.w L) (Y.M L) T d β):(0<d/\d<=17592186044416)/\∀i j,i<L.m->j<Y.w L->(T i j).natAbs<=17592186044416:=by
 obtain ⟨h1,h2⟩:=o5 h.ok ht
 have h3:=h.P'
 refine ⟨⟨ht.dpos,by omega⟩,fun i j hi hj=>?_⟩
 have:=h2 i j hi hj
 rw[wo] at this
 omega
theorem J3 (j:Nat):(bU L j).natAbs<=L.F0 - 1:=by
 unfold bU Lin.F0
 have h0:0<=sz L.n fun j=>ab (L.c j):=ii fun j _=>cq _
 split
 ·rename_i hj
  have h1:(sz L.n fun i=>if i=j then ab (L.c j) else 0)<=sz L.n fun j=>ab (L.c j):=oh fun i _=>by
   by_cases e:i=j
   ·rw[if_pos e,e];exact Int.le_refl _
   ·rw[if_neg e];exact cq _
  rw[eB hj fun i _ hne=>if_neg hne,if_pos rfl,wo] at h1
  omega
 ·simp only[Int.natAbs_zero]
  omega
theorem Bnd.cost (h:Bnd L Y) {x:Int} (hx:(x.natAbs:Int)<=L.P) (j:Nat): -17592186044416<=bU L j*x/\bU L j*x<=17592186044416:=by
 have h1:=J3 (L:=L) j
 have h2:((bU L j*x).natAbs:Int)<=L.F0*L.P:=by
  rw[Int.natAbs_mul,Int.natCast_mul]
  refine Int.le_trans (Int.mul_le_mul (show ((bU L j).natAbs:Int)<=L.F0 by omega) hx (by omega) (by omega)) (Int.le_refl _)
 have:=h.P
 omega
theorem Bnd.tabP (h:Bnd L Y) {T:Nat->Nat->Int} {d:Int} {β:Nat->Nat} (ht:Tb L.m (Y.w L) (Y.M L) T d β):(d.natAbs:Int)<=L.P/\∀i j,i<L.m->j<Y.w L->((T i j).natAbs:Int)<=L.P:=by
 obtain ⟨h1,h2⟩:=o5 h.ok ht
 have:=ht.dpos
 exact ⟨by omega,fun i j hi hj=>h2 i j hi hj⟩
theorem PV (x:Int) (y:Int):(sg x*y).natAbs=y.natAbs:=by unfold sg;split<;>omega
theorem Bnd.piv (h:Bnd L Y) {T:Nat->Nat->Int} {d:Int} {β:Nat->Nat} (ht:Tb L.m (Y.w L) (Y.M L) T d β) {r c:Nat} (hr:r<L.m) (hc:c<Y.w L) (he:T r c≠0):PivOk L.m (Y.w L) T d r c:=by
 obtain ⟨h1,h2⟩:=h.tab ht
 obtain ⟨h3,h4⟩:=h.tab (ht.step hr hc he)
 have:=h.m
 have:=h.w
 refine ⟨by omega,by omega,hr,hc,by omega,fun i j hi hj=>by have:=h2 i j hi hj;omega,fun i j hi hne hj=>iW ht hr hi (Ne.symm hne) hc hj,fun i j hi hne hj=>?_⟩
 have h5:=h4 i j hi hj
 unfold mu at h5
 rw[if_neg hne,PV] at h5
 omega
def AZ (L:Lin) (Y:Lay) (S:Sx):Prop:=∀i,i<L.m->Y.N<=S.β i->(∀j,j<Y.N->S.T i j=0)/\S.T i (Y.R L)=0
theorem AZ.art (S:Sx) (h:AZ L Y S):Bz L.m Y.N S (Y.R L):=fun i hi hN=>(h i hi hN).2
theorem AZ.col (S:Sx) (h:AZ L Y S) {q:Nat} (hq:q<Y.N):Bz L.m Y.N S q:=fun i hi hN=>(h i hi hN).1 q hq
def kM (S:Sx) (r c:Nat):Sx:=⟨mu S.T S.d r c,sg (S.T r c)*S.T r c,upd S.β r c⟩
theorem AN {m w:Nat} {S:Sx} {r c:Nat} (hp:0<S.T r c):StepAt m w S (kM S r c) r c:=by
 have e:sg (S.T r c)=1:=by unfold sg;rw[if_neg (by omega)]
 refine ⟨fun i j _ _=>?_,?_,fun i _=>rfl⟩
 ·show mu S.T S.d r c i j=_
  unfold mu
  rw[e,Int.one_mul]
 ·show sg (S.T r c)*S.T r c=_
  rw[e,Int.one_mul]
theorem AZ.step {S:Sx} (h:AZ L Y S) {r c:Nat} (hc:c<Y.N):AZ L Y (kM S r c):=fun i hi hN=>by
 have hb:(kM S r c).β i=upd S.β r c i:=rfl
 rw[hb] at hN
 unfold upd at hN
 by_cases e:i=r
 ·rw[if_pos e] at hN;omega
 ·rw[if_neg e] at hN
  obtain ⟨h1,h2⟩:=h i hi hN
  have hT:∀j,(kM S r c).T i j=sg (S.T r c)*Dn.piv S.T S.d r c i j:=fun j=>by
   show mu S.T S.d r c i j=_
   unfold mu
   rw[if_neg e]
  have hz:∀j,S.T i j=0->Dn.piv S.T S.d r c i j=0:=fun j hj=>by
   unfold Dn.piv
   rw[hj,h1 c hc,Int.mul_zero,Int.zero_mul,Int.sub_zero,Int.zero_ediv]
  exact ⟨fun j hj=>by rw[hT,hz j (h1 j hj),Int.mul_zero],by rw[hT,hz _ h2,Int.mul_zero]⟩
abbrev my (L:Lin) (Y:Lay) (x3 cs:List Int) (S:Sx):(List Nat×List (Option (List Int)))×Int×List Int×List Int×List Int×Int×Int×PUnit:=(fJ L.m (Y.w L) S.T,S.d,iv L.m S.β,x3,cs,(Y.N:Int),((Y.R L:Nat):Int),PUnit.unit)
theorem Ef (h:Bnd L Y) (hp:(Y.w L) ^ L.m<=1180591620717411303424) {x3 cs:List Int} (hcs:∀j,iO cs j=bU L j) {S:Sx} (hv:Y.Val L S) (ha:AZ L Y S) :
  ∃S' ok,br (fJ L.m (Y.w L) S.T) S.d (iv L.m S.β) x3 cs (Y.N:Int) ((Y.R L:Nat):Int)=some (fJ L.m (Y.w L) S'.T,S'.d,iv L.m S'.β,x3,cs,(Y.N:Int),((Y.R L:Nat):Int),ok,())/\Y.Val L S'/\AZ L Y S' /\
   (ok=true->∀j,j<Y.N->0<=zr L.m (bU L) S' j)/\(ok=false->∃q,q<Y.N/\zr L.m (bU L) S' q<0/\∀i,i<L.m->S'.T i q<=0):=by
 have hcs':iO cs=bU L:=funext hcs
 have hm:=h.m
 have hw:=h.w
 have hN:Y.N<=Y.R L:=by unfold Lay.R;omega
 have hRw:Y.R L<Y.w L:=by unfold Lay.R Lay.w;omega
 unfold br fS
 have fin:∀{x:Option ((List Nat×List (Option (List Int)))×Int×List Int×List Int×List Int×Int×Int×Bool×Unit)},(∃r,x=some r/\∃S' ok,r=(fJ L.m (Y.w L) S'.T,S'.d,iv L.m S'.β,x3,cs,(Y.N:Int),((Y.R L:Nat):Int),ok,PUnit.unit)/\Y.Val L S'/\AZ L Y S' /\
   (ok=true->∀j,j<Y.N->0<=zr L.m (bU L) S' j)/\(ok=false->∃q,q<Y.N/\zr L.m (bU L) S' q<0/\∀i,i<L.m->S'.T i q<=0))->∃S' ok,x=some (fJ L.m (Y.w L) S'.T,S'.d,iv L.m S'.β,x3,cs,(Y.N:Int),((Y.R L:Nat):Int),ok,())/\Y.Val L S'/\AZ L Y S' /\
   (ok=true->∀j,j<Y.N->0<=zr L.m (bU L) S' j)/\(ok=false->∃q,q<Y.N/\zr L.m (bU L) S' q<0/\∀i,i<L.m->S'.T i q<=0):=by
  rintro x ⟨r,h1,S',ok,rfl,h3⟩
  exact ⟨S',ok,h1,h3⟩
 refine fin (Nf (γ:=Sx) (I:=fun (S:Sx) x=>x=my L Y x3 cs S/\Y.Val L S/\AZ L Y S)
  (Q:=fun r=>∃S' ok,r=(fJ L.m (Y.w L) S'.T,S'.d,iv L.m S'.β,x3,cs,(Y.N:Int),((Y.R L:Nat):Int),ok,PUnit.unit)/\Y.Val L S'/\AZ L Y S' /\
   (ok=true->∀j,j<Y.N->0<=zr L.m (bU L) S' j)/\(ok=false->∃q,q<Y.N/\zr L.m (bU L) S' q<0/\∀i,i<L.m->S'.T i q<=0))
  (μ:=fun S=>left L.m (Y.w L) Y.N (Y.R L) (Y.M L) (bU L) S) ?_ (s:=S) ⟨rfl,hv,ha⟩ (Nat.lt_of_lt_of_le (Eu (by unfold Lay.w;omega) S) hp))
 rintro S _ ⟨rfl,hv,ha⟩
 obtain ⟨hd,hb⟩:=h.tabP hv.tb
 have hred:∀j,j<Y.N->bE (kw L.m (Y.w L) S.T,S.d,iv L.m S.β,x3,cs,(Y.N:Int),((Y.R L:Nat):Int)) (j:Int)=some (zr L.m (bU L) S j):=fun j hj=>by
  have hjw:j<Y.w L:=by omega
  have:=CN (m:=L.m) (w:=Y.w L) (T:=S.T) (d:=S.d) (β:=S.β) (j:=j) (x3:=x3) (cs:=cs) (x5:=(Y.N:Int)) (x6:=((Y.R L:Nat):Int)) (by omega) hjw
   (by rw[hcs'];have:=h.cost hd j;omega) (fun i hi=>by rw[hcs'];have:=h.cost (hb i j hi hjw) (S.β i);omega)
  rw[this,hcs']
 rcases oz Y.N (fun j=>decide (zr L.m (bU L) S j<0)) with hnone | ⟨q,hq,hneg,hleast⟩
 ·left
  refine ⟨_,⟨S,true,rfl,hv,ha,fun _ j hj=>by have:=of_decide_eq_false (hnone j hj);omega,fun e=>by cases e⟩,fun rec=>?_⟩
  refine rY Y.N (by omega) (fun j=>((-1:Int),(j:Int),PUnit.unit)) _ (fun again j hj=>?_) (fun again=>?_)
  ·simp only[be,cT,z7 (show (j:Int)<Y.N by omega),show decide ((-1:Int)<0)=true from rfl,gq,gn,hred j hj,ai,hnone j hj,cF,aM (show j<=1000000 by omega)]
  ·simp only[be,cT,cF,z8 (show ¬ (Y.N:Int)<Y.N by omega),show decide ((-1:Int)<0)=true from rfl]
 ·have hneg:=z12 hneg
  have hqw:q<Y.w L:=by omega
  have hent:Enters L.m Y.N (bU L) S q:=⟨hq,hneg,fun j hj=>by have:=of_decide_eq_false (hleast j hj);omega⟩
  have hbb:∀i j,i<L.m->j<Y.w L->(S.T i j).natAbs<4611686018427387904:=fun i j hi hj=>by have:=(h.tab hv.tb).2 i j hi hj;omega
  obtain ⟨b,hl1,hl2⟩:=wn (m:=L.m) (w:=Y.w L) (T:=S.T) (d:=S.d) (β:=S.β) (c:=q) (R:=Y.R L) (x1:=S.d) (x3:=x3) (x4:=cs) (x5:=(Y.N:Int)) (by omega) hqw hRw hbb
  have search:∀{R:Type} {F:(Int×Int×PUnit->Option R)->Int×Int×PUnit->Option R} {res:Option R},(∀again j,j<q->F again ((-1:Int),(j:Int),PUnit.unit)=again ((-1:Int),((j+1:Nat):Int),PUnit.unit)) ->
    (∀again,F again ((-1:Int),(q:Int),PUnit.unit)=again ((q:Int),((q+1:Nat):Int),PUnit.unit))->(∀again,F again ((q:Int),((q+1:Nat):Int),PUnit.unit)=res)->lpK (Int×Int×PUnit) R F ((-1:Int),(0:Int),PUnit.unit)=res:=fun h1 h2 h3=>by
   refine cO (q+1) (by omega) (fun j=>if j<=q then ((-1:Int),(j:Int),PUnit.unit) else ((q:Int),(j:Int),PUnit.unit)) _ (by rw[if_pos (by omega)];rfl) (fun again j hj=>?_) (fun again=>?_)
   ·by_cases e:j=q
    ·subst e
     rw[if_pos (by omega),if_neg (by omega)]
     exact h2 again
    ·rw[if_pos (by omega),if_pos (by omega)]
     exact h1 again j (by omega)
   ·rw[if_neg (by omega)]
    exact h3 again
  rcases hl2 with ⟨e,hno⟩ | ⟨r,e,hlv⟩
  ·subst e
   left
   refine ⟨_,⟨S,false,rfl,hv,ha,fun e=>(by cases e),fun _=>⟨q,hq,hneg,hno⟩⟩,fun rec=>?_⟩
   refine search (fun again j hj=>?_) (fun again=>?_) (fun again=>?_)
   ·simp only[be,cT,z7 (show (j:Int)<Y.N by omega),show decide ((-1:Int)<0)=true from rfl,gq,gn,hred j (by omega),ai,hleast j hj,cF,aM (show j<=1000000 by omega)]
   ·simp only[be,cT,z7 (show (q:Int)<Y.N by omega),show decide ((-1:Int)<0)=true from rfl,gq,gn,hred q hq,ai,z7 hneg,aM (show q<=1000000 by omega)]
   ·simp only[be,cT,z8 (show ¬ (q:Int)<0 by omega),jO,Bool.and_false,cF,gq,gn,hl1,ai,show decide ((-1:Int)<0)=true from rfl]
  ·subst e
   right
   have hpr:0<S.T r q:=hlv.pos
   have hr:=hlv.lt
   have hs:=AN (m:=L.m) (w:=Y.w L) hpr
   refine ⟨kM S r q,my L Y x3 cs (kM S r q),⟨rfl,hv.stepAt hRw hqw (by omega) hlv hs,ha.step hq⟩,yp (Lay.art h.ok).1 (Lay.art h.ok).2 hN hRw hv ⟨hent,hlv,hs⟩,fun rec=>?_⟩
   refine search (fun again j hj=>?_) (fun again=>?_) (fun again=>?_)
   ·simp only[be,cT,z7 (show (j:Int)<Y.N by omega),show decide ((-1:Int)<0)=true from rfl,gq,gn,hred j (by omega),ai,hleast j hj,cF,aM (show j<=1000000 by omega)]
   ·simp only[be,cT,z7 (show (q:Int)<Y.N by omega),show decide ((-1:Int)<0)=true from rfl,gq,gn,hred q hq,ai,z7 hneg,aM (show q<=1000000 by omega)]
   ·simp only[be,cT,z8 (show ¬ (q:Int)<0 by omega),jO,Bool.and_false,cF,gq,gn,hl1,ai,z8 (show ¬ (r:Int)<0 by omega),wu (h.piv hv.tb hr hqw (show S.T r q≠0 by omega))]
    rfl
end
section
variable {L:Lin} {Y:Lay}
theorem Val.flat {S:Sx} (hv:Y.Val L S) {r c:Nat} (hr:r<L.m) (hc:c<Y.N) (he:S.T r c≠0) (h0:S.T r (Y.R L)=0):Y.Val L (kM S r c):=by
 have hcw:c<Y.w L:=by unfold Lay.w;omega
 have hRw:Y.R L<Y.w L:=by unfold Lay.R Lay.w;omega
 have hd:=hv.tb.dpos
 refine ⟨hv.tb.step hr hcw he,fun i hi=>?_,fun i hi=>?_⟩
 ·show 0<=mu S.T S.d r c i (Y.R L)
  unfold mu
  by_cases e:i=r
  ·rw[if_pos e,h0,Int.mul_zero];exact Int.le_refl _
  ·rw[if_neg e]
   have h1:=iW hv.tb hr hi (Ne.symm e) hcw hRw
   rw[h0,Int.mul_zero,Int.sub_zero] at h1
   have h2:0<=sg (S.T r c)*S.T r c*S.T i (Y.R L):=Int.mul_nonneg (Int.le_of_lt (JN he)) (hv.feas i hi)
   rw[Int.mul_assoc,<-h1] at h2
   have h3:sg (S.T r c)*(S.d*Dn.piv S.T S.d r c i (Y.R L))=S.d*(sg (S.T r c)*Dn.piv S.T S.d r c i (Y.R L)):=by grind
   rw[h3] at h2
   exact Int.nonneg_of_mul_nonneg_right h2 hd
 ·show upd S.β r c i≠_
  unfold upd
  split
  ·unfold Lay.R;omega
  ·exact hv.ne i hi
theorem BG {T:Nat->Nat->Int} {d:Int} {r c i j:Nat} (h1:T i j=0) (h2:T i c=0\/T r j=0):Dn.piv T d r c i j=0:=by
 unfold Dn.piv
 rw[h1,Int.mul_zero]
 rcases h2 with h | h
 ·rw[h,Int.zero_mul,Int.sub_zero,Int.zero_ediv]
 ·rw[h,Int.mul_zero,Int.sub_zero,Int.zero_ediv]
structure Swp (L:Lin) (Y:Lay) (i:Nat) (S:Sx):Prop where
 val:Y.Val L S
 right:∀k,k<L.m->Y.N<=S.β k->S.T k (Y.R L)=0
 rows:∀k,k<L.m->k<i->Y.N<=S.β k->∀j,j<Y.N->S.T k j=0
theorem Swp.step {i:Nat} {S:Sx} (h:Swp L Y i S) {j:Nat} (hi:i<L.m) (hj:j<Y.N) (hN:Y.N<=S.β i) (he:S.T i j≠0):Swp L Y i (kM S i j):=by
 have h0:=h.right i hi hN
 have up:∀k,k≠i->(kM S i j).β k=S.β k:=fun k hk=>by
  show upd S.β i j k=_
  unfold upd
  rw[if_neg hk]
 have ui:(kM S i j).β i=j:=by
  show upd S.β i j i=_
  unfold upd
  rw[if_pos rfl]
 have hT:∀k l,k≠i->(kM S i j).T k l=sg (S.T i j)*Dn.piv S.T S.d i j k l:=fun k l hk=>by
  show mu S.T S.d i j k l=_
  unfold mu
  rw[if_neg hk]
 refine ⟨Val.flat h.val hi hj he h0,fun k hk hb=>?_,fun k hk hlt hb l hl=>?_⟩
 ·have e:k≠i:=fun e=>by rw[e,ui] at hb;omega
  rw[up k e] at hb
  rw[hT k _ e,BG (h.right k hk hb) (.inr h0),Int.mul_zero]
 ·have e:k≠i:=by omega
  rw[up k e] at hb
  rw[hT k _ e,BG (h.rows k hk hlt hb l hl) (.inl (h.rows k hk hlt hb j hj)),Int.mul_zero]
def yN (L:Lin) (Y:Lay) (x3 cs:List Int) (o:Option ((List Nat×List (Option (List Int)))×Int×List Int×List Int×List Int×Int×Int×Bool×Unit)):Prop :=
 ∃S' ok,o=some (fJ L.m (Y.w L) S'.T,S'.d,iv L.m S'.β,x3,cs,(Y.N:Int),((Y.R L:Nat):Int),ok,PUnit.unit)/\Y.Val L S' /\
   (ok=true->AZ L Y S')/\(ok=false->(∀j,j<Y.N->0<=zr L.m (fp Y.N) S' j)/\0<sz L.m fun i=>fp Y.N (S'.β i)*S'.T i (Y.R L))
theorem KE (h:Bnd L Y) (hp:(Y.w L) ^ L.m<=1180591620717411303424) {x3 cs:List Int} {S:Sx} (hv:Y.Val L S) :
  yN L Y x3 cs (a9 (fJ L.m (Y.w L) S.T) S.d (iv L.m S.β) x3 cs (Y.N:Int) ((Y.R L:Nat):Int)):=by
 have hm:=h.m
 have hw:=h.w
 have hN:Y.N<=Y.R L:=by unfold Lay.R;omega
 have hRw:Y.R L<Y.w L:=by unfold Lay.R Lay.w;omega
 unfold a9 gL
 refine pZ (γ:=Sx) (I:=fun (S:Sx) x=>x=my L Y x3 cs S/\Y.Val L S)
  (Q:=yN L Y x3 cs)
  (μ:=fun S=>left L.m (Y.w L) Y.N (Y.R L) (Y.M L) (fp Y.N) S) ?_ (s:=S) ⟨rfl,hv⟩ (Nat.lt_of_lt_of_le (Eu (by unfold Lay.w;omega) S) hp)
 rintro rec S _ ⟨rfl,hv⟩
 obtain ⟨hd,hb⟩:=h.tab hv.tb
 have hbb:∀i j,i<L.m->j<Y.w L->(S.T i j).natAbs<4611686018427387904:=fun i j hi hj=>by have:=hb i j hi hj;omega
 have hart:∀j,j<Y.w L->aB (kw L.m (Y.w L) S.T,S.d,iv L.m S.β,x3,cs,(Y.N:Int),((Y.R L:Nat):Int)) (j:Int)=some (sz L.m fun i=>fp Y.N (S.β i)*S.T i j):=fun j hj =>
  xm (by omega) hj fun i hi=>by have:=hb i j hi hj;omega
 have hz:∀j,j<Y.N->zr L.m (fp Y.N) S j= - sz L.m fun i=>fp Y.N (S.β i)*S.T i j:=fun j hj=>by
  unfold zr
  rw[show fp Y.N j=0 from if_neg (by omega),Int.zero_mul,Int.zero_sub]
 rcases oz Y.N (fun j=>decide ((sz L.m fun i=>fp Y.N (S.β i)*S.T i j)>0)) with hnone | ⟨q,hq,hneg,hleast⟩
 ·left
  have search:∀{R:Type} {F:(Int×Int×PUnit->Option R)->Int×Int×PUnit->Option R} {Q:Option R->Prop},(∀again j,j<Y.N->F again ((-1:Int),(j:Int),PUnit.unit)=again ((-1:Int),((j+1:Nat):Int),PUnit.unit)) ->
    (∃res,Q res/\∀again,F again ((-1:Int),(Y.N:Int),PUnit.unit)=res)->Q (lpK (Int×Int×PUnit) R F ((-1:Int),(0:Int),PUnit.unit)):=fun {R} {F} {Q} h1 h3=>by
   obtain ⟨res,h4,h5⟩:=h3
   have e:lpK (Int×Int×PUnit) R F ((-1:Int),(0:Int),PUnit.unit)=res:=cO Y.N (by omega) (fun j=>((-1:Int),(j:Int),PUnit.unit)) res rfl h1 h5
   rw[e]
   exact h4
  refine search (Q:=yN L Y x3 cs) (fun again j hj=>?_) ?_
  ·simp only[be,cT,z7 (show (j:Int)<Y.N by omega),show decide ((-1:Int)<0)=true from rfl,gq,gn,hart j (by omega),ai,hnone j hj,cF,aM (show j<=1000000 by omega)]
  ·simp only[be,cT,cF,z8 (show ¬ (Y.N:Int)<Y.N by omega),show decide ((-1:Int)<0)=true from rfl,gq,gn,hart _ hRw,ai]
   have hzr:∀j,j<Y.N->0<=zr L.m (fp Y.N) S j:=fun j hj=>by
    rw[hz j hj]
    have:=of_decide_eq_false (hnone j hj)
    omega
   by_cases hpos:(sz L.m fun i=>fp Y.N (S.β i)*S.T i (Y.R L))>0
   ·rw[z7 hpos]
    simp only[cT]
    exact ⟨_,⟨S,false,rfl,hv,fun e=>(by cases e),fun _=>⟨hzr,hpos⟩⟩,fun _=>rfl⟩
   ·rw[z8 hpos]
    simp only[cF]
    refine ⟨_,?_,fun _=>rfl⟩
    have hnn:∀i,i<L.m->0<=fp Y.N (S.β i)*S.T i (Y.R L):=fun i hi=>Int.mul_nonneg (by unfold fp;split<;>omega) (hv.feas i hi)
    have hS:Swp L Y 0 S:=by
     refine ⟨hv,fun k hk hNk=>?_,fun k _ h0=>by omega⟩
     have h1:(sz L.m fun i=>if i=k then fp Y.N (S.β k)*S.T k (Y.R L) else 0)<=sz L.m fun i=>fp Y.N (S.β i)*S.T i (Y.R L):=oh fun i hi=>by
      by_cases e:i=k
      ·rw[if_pos e,e];exact Int.le_refl _
      ·rw[if_neg e];exact hnn i hi
     rw[eB hk fun i _ hne=>if_neg hne,if_pos rfl] at h1
     have h2:=hnn k hk
     have h3:fp Y.N (S.β k)=1:=if_pos hNk
     rw[h3,Int.one_mul] at h1 h2
     omega
    refine pZ (γ:=Nat×Sx) (I:=fun g x=>x=((g.1:Int),my L Y x3 cs g.2)/\g.1<=L.m/\Swp L Y g.1 g.2)
     (Q:=yN L Y x3 cs)
     (μ:=fun g=>L.m - g.1) ?_ (s:=(0,S)) ⟨rfl,by omega,hS⟩ (by simp only;omega)
    rintro rec2 ⟨i,S⟩ _ ⟨rfl,hi,hS⟩
    simp only at hi hS
    by_cases hlt:i<L.m
    ·right
     simp only[ff,z7 (show (i:Int)<L.m by omega),cT]
     have inner:∀{R:Type} {F:(Int×(List Nat×List (Option (List Int)))×Int×List Int×List Int×List Int×Int×Int×PUnit->Option R)->Int×(List Nat×List (Option (List Int)))×Int×List Int×List Int×List Int×Int×Int×PUnit->Option R} {k:(Int×(List Nat×List (Option (List Int)))×Int×List Int×List Int×List Int×Int×Int×PUnit->Option R)},
       (∀again (j:Nat) S,Swp L Y i S->j<=Y.N->(j<Y.N->Y.N<=S.β i->S.T i j=0->F again ((j:Int),my L Y x3 cs S)=again (((j+1:Nat):Int),my L Y x3 cs S))/\(j<Y.N->Y.N<=S.β i->S.T i j≠0->F again ((j:Int),my L Y x3 cs S)=again (((j+1:Nat):Int),my L Y x3 cs (kM S i j))) /\
        (¬ (j<Y.N/\Y.N<=S.β i)->F again ((j:Int),my L Y x3 cs S)=k (((i+1:Nat):Int),my L Y x3 cs S))) ->
       ∃S',Swp L Y (i+1) S'/\lpK _ R F ((0:Int),my L Y x3 cs S)=k (((i+1:Nat):Int),my L Y x3 cs S'):=fun {R} {F} {k} hF=>by
      refine pZ (γ:=Nat×Sx) (I:=fun g x=>x=((g.1:Int),my L Y x3 cs g.2)/\g.1<=Y.N/\Swp L Y i g.2/\(Y.N<=g.2.β i->∀l,l<g.1->g.2.T i l=0))
       (Q:=fun o=>∃S',Swp L Y (i+1) S'/\o=k (((i+1:Nat):Int),my L Y x3 cs S')) (μ:=fun g=>Y.N - g.1) ?_ (s:=(0,S)) ⟨rfl,by omega,hS,fun _ l hl=>by omega⟩ (by simp only;omega)
      rintro rec3 ⟨j,S⟩ _ ⟨rfl,hj,hS,hz⟩
      simp only at hj hS hz
      obtain ⟨f1,f2,f3⟩:=hF rec3 j S hS hj
      by_cases hc:j<Y.N/\Y.N<=S.β i
      ·right
       by_cases h0:S.T i j=0
       ·refine ⟨(j+1,S),_,⟨rfl,by simp only;omega,hS,fun hN l hl=>?_⟩,by simp only;omega,f1 hc.1 hc.2 h0⟩
        simp only at hl
        by_cases e:l=j
        ·rw[e];exact h0
        ·exact hz hN l (by omega)
       ·refine ⟨(j+1,kM S i j),_,⟨rfl,by simp only;omega,hS.step hlt hc.1 hc.2 h0,fun hN=>?_⟩,by simp only;omega,f2 hc.1 hc.2 h0⟩
        have e:(kM S i j).β i=j:=by
         show upd S.β i j i=_
         unfold upd
         rw[if_pos rfl]
        rw[e] at hN
        omega
      ·left
       refine ⟨S,⟨hS.val,hS.right,fun k hk hlt' hN l hl=>?_⟩,f3 hc⟩
       by_cases e:k=i
       ·subst e
        exact hz hN l (by omega)
       ·exact hS.rows k hk (by omega) hN l hl
     have fin:∀{o},(∃S',Swp L Y (i+1) S'/\o=rec2 (((i+1:Nat):Int),my L Y x3 cs S'))->∃(g:Nat×Sx) (y:_),(y=((g.1:Int),my L Y x3 cs g.2)/\g.1<=L.m/\Swp L Y g.1 g.2)/\L.m - g.1<L.m - i/\o=rec2 y:=by
      rintro o ⟨S',h1,h2⟩
      exact ⟨(i+1,S'),_,⟨rfl,by simp only;omega,h1⟩,by simp only;omega,h2⟩
     refine fin (inner (fun again j S hS hj=>⟨fun c1 c2 c3=>?_,fun c1 c2 c3=>?_,fun c1=>?_⟩))
     ·have hjw:j<Y.w L:=by omega
      simp only[my,z7 (show (j:Int)<Y.N by omega),iy,aR,z9,z7 hlt,cf (show Nat.succ i<=L.m from hlt),jm hlt,z7 (show (S.β i:Int)>=Y.N by omega),Bool.not_true,Bool.or_true,Bool.and_self,cT,ff,gV hlt,jj,fV hlt,aE,ba hjw,z7 hjw,cf (show Nat.succ j<=Y.w L from hjw),z7 c3,cF,aM (show j<=1000000 by omega)]
     ·have hjw:j<Y.w L:=by omega
      simp only[my,z7 (show (j:Int)<Y.N by omega),iy,aR,z9,z7 hlt,cf (show Nat.succ i<=L.m from hlt),jm hlt,z7 (show (S.β i:Int)>=Y.N by omega),Bool.not_true,Bool.not_false,Bool.or_true,Bool.and_self,cT,ff,gV hlt,jj,fV hlt,aE,ba hjw,z7 hjw,cf (show Nat.succ j<=Y.w L from hjw),z8 c3,aM (show j<=1000000 by omega),
       wu (h.piv hS.val.tb hlt hjw c3),ai]
      rfl
     ·by_cases c2:j<Y.N
      ·simp only[my,z7 (show (j:Int)<Y.N by omega),iy,aR,z9,z7 hlt,cf (show Nat.succ i<=L.m from hlt),jm hlt,z8 (show ¬ (S.β i:Int)>=Y.N by omega),Bool.not_true,Bool.or_true,Bool.and_self,cT,cF,aM (show i<=1000000 by omega)]
      ·simp only[my,z8 (show ¬ (j:Int)<Y.N by omega),Bool.not_false,Bool.true_or,Bool.and_self,cT,cF,aM (show i<=1000000 by omega)]
    ·left
     have e:i=L.m:=by omega
     subst e
     simp only[ff,z8 (show ¬ (L.m:Int)<L.m by omega),cF]
     exact ⟨S,true,rfl,hS.val,fun _ k hk hN=>⟨hS.rows k hk hk hN,hS.right k hk hN⟩,fun e=>by cases e⟩
 ·have hneg:=z12 hneg
  have hqw:q<Y.w L:=by omega
  have hent:Enters L.m Y.N (fp Y.N) S q:=⟨hq,by rw[hz q hq];omega,fun j hj=>by rw[hz j (by omega)];have:=of_decide_eq_false (hleast j hj);omega⟩
  obtain ⟨b,hl1,hl2⟩:=wn (m:=L.m) (w:=Y.w L) (T:=S.T) (d:=S.d) (β:=S.β) (c:=q) (R:=Y.R L) (x1:=S.d) (x3:=x3) (x4:=cs) (x5:=(Y.N:Int)) (by omega) hqw hRw hbb
  rcases hl2 with ⟨e,hno⟩ | ⟨r,e,hlv⟩
  ·exfalso
   have h1:(sz L.m fun i=>fp Y.N (S.β i)*S.T i q)<=sz L.m fun _=>0:=oh fun i hi=>by
    have:=hno i hi
    unfold fp
    split<;>omega
   rw[fP (f:=fun _=>0) fun _ _=>rfl] at h1
   omega
  ·subst e
   right
   have hpr:0<S.T r q:=hlv.pos
   have hr:=hlv.lt
   have hs:=AN (m:=L.m) (w:=Y.w L) hpr
   refine ⟨kM S r q,my L Y x3 cs (kM S r q),⟨rfl,hv.stepAt hRw hqw (by omega) hlv hs⟩,yp (Lay.art h.ok).1 (Lay.art h.ok).2 hN hRw hv ⟨hent,hlv,hs⟩,?_⟩
   refine cO (q+1) (by omega) (fun j=>if j<=q then ((-1:Int),(j:Int),PUnit.unit) else ((q:Int),(j:Int),PUnit.unit)) _ (by rw[if_pos (by omega)];rfl) (fun again j hj=>?_) (fun again=>?_)
   ·by_cases e:j=q
    ·subst e
     rw[if_pos (by omega),if_neg (by omega)]
     simp only[be,cT,z7 (show (j:Int)<Y.N by omega),show decide ((-1:Int)<0)=true from rfl,gq,gn,hart j hqw,ai,z7 hneg,aM (show j<=1000000 by omega)]
    ·rw[if_pos (by omega),if_pos (by omega)]
     simp only[be,cT,z7 (show (j:Int)<Y.N by omega),show decide ((-1:Int)<0)=true from rfl,gq,gn,hart j (by omega),ai,hleast j (by omega),cF,aM (show j<=1000000 by omega)]
   ·rw[if_neg (by omega)]
    simp only[be,cT,z8 (show ¬ (q:Int)<0 by omega),jO,Bool.and_false,cF,gq,gn,hl1,ai,wu (h.piv hv.tb hr hqw (show S.T r q≠0 by omega))]
    rfl
open Tryz Dn Dn.Sh
def an (p:Pg):Lin:=⟨p.1.length,p.2.length,fun k j=>(p.2.getD k rw0).1.getD j 0,fun k=>(p.2.getD k rw0).2.2,fun j=>p.1.getD j 0,fun k=>(p.2.getD k rw0).2.1⟩
def fB (p:Pg):Nat->Nat
 | 0=>0
 | k+1=>fB p k+if (p.2.getD k rw0).2.1=3 then 0 else 1
def aA (p:Pg):Lay:=⟨p.1.length+fB p p.2.length,fun k=>p.1.length+fB p k,fun k=>if (p.2.getD k rw0).2.2<0 then -1 else 1⟩
theorem sC {p:Pg}:∀k,fB p k<=k
 | 0=>Nat.le_refl _
 | k+1=>by
  have:=sC (p:=p) k
  simp only[fB]
  split<;>omega
theorem uE {p:Pg} {k:Nat}:∀{l:Nat},k<l->(p.2.getD k rw0).2.1≠3->fB p k<fB p l
 | 0,h,_=>by omega
 | l+1,h,h3=>by
  simp only[fB]
  by_cases e:k=l
  ·subst e
   rw[if_neg h3];omega
  ·have:=uE (l:=l) (by omega) h3
   split<;>omega
theorem nH {p:Pg} (hv:ValidP p):(aA p).ok (an p):=by
 have row:∀k,k<p.2.length->p.2.getD k rw0 ∈ p.2:=fun k hk=>by rw[bN hk];exact List.getElem_mem _
 refine ⟨Nat.le_add_right _ _,fun k hk=>?_,fun k hk h3=>⟨Nat.le_add_right _ _,?_⟩,fun k l hk hl h3 h4 e=>?_,fun k _=>?_,fun k _=>?_⟩
 ·have:=hv.kind _ (row k hk)
  show (p.2.getD k rw0).2.1=1\/(p.2.getD k rw0).2.1=2\/(p.2.getD k rw0).2.1=3
  omega
 ·have:=uE (p:=p) (k:=k) (l:=p.2.length) hk h3
  show p.1.length+fB p k<p.1.length+fB p p.2.length
  omega
 ·have e:p.1.length+fB p k=p.1.length+fB p l:=e
  rcases Nat.lt_trichotomy k l with h | h | h
  ·have:=uE (p:=p) h h3;omega
  ·exact h
  ·have:=uE (p:=p) h h4;omega
 ·show (if (p.2.getD k rw0).2.2<0 then (-1:Int) else 1)=1\/(if (p.2.getD k rw0).2.2<0 then (-1:Int) else 1)= -1
  split<;>omega
 ·show 0<=(if (p.2.getD k rw0).2.2<0 then (-1:Int) else 1)*(p.2.getD k rw0).2.2
  split<;>omega
theorem zc {p:Pg} (hv:ValidP p):(aA p).w (an p)<=25/\(an p).m<=6:=by
 have h1:=sC (p:=p) p.2.length
 have h2:=hv.rows
 have h3:=hv.cost.2
 refine ⟨?_,h2⟩
 show p.1.length+fB p p.2.length+p.2.length+1<=25
 omega
theorem m9 {α:Type} {w:Nat} {f:Nat->α}:bq w f++[f w]=bq (w+1) f:=by
 unfold bq
 rw[List.range_succ,List.map_append]
 rfl
theorem CF {m w:Nat} {T:Nat->Nat->Int}:dk m w T++[some (bq w (T m))]=dk (m+1) w T:=by
 unfold dk
 rw[List.range_succ,List.map_append]
 rfl
theorem HU {l:List Int} {w:Nat} (h:l.length<=w):List.take 0 (List.replicate w (0:Int))++List.take w l++List.drop (0+(List.take w l).length) (List.replicate w 0)=bq w fun j=>l.getD j 0:=by
 rw[List.take_of_length_le h]
 refine List.ext_getElem (by rw[aE];simp;omega) fun i h1 h2=>?_
 rw[uJ]
 have hi:i<w:=by rw[aE] at h2;exact h2
 by_cases e:i<l.length
 ·rw[bN e,List.getElem_append_left (by simp;exact e)]
  simp
 ·rw[List.getElem_append_right (by simp;omega),List.getD_eq_getElem?_getD,List.getElem?_eq_none (by omega)]
  simp
abbrev St:=Int×Int×(List Nat×List (Option (List Int)))×Int×List Int×List Int×List Int×Int×Int×PUnit
def L6 {R:Type} (p:Pg) (again:St->Option R) (x:St) (x_1:Int×List Int×PUnit):Option R :=
 let v21:List Int×PUnit:=(x_1.2.1,PUnit.unit);jnK (Int×List Int×PUnit) R (fun (x_2:Int×List Int×PUnit)=>bif inB (IntKind.wrap .i64 (x.2.2.2.2.2.2.2.1+x.2.1)) (List.length x_2.2.1) then bif Nat.ble (Nat.succ (Int.toNat (IntKind.wrap .i64 (x.2.2.2.2.2.2.2.1+x.2.1)))) (List.length x_2.2.1) then bif c7 (List.length x.2.2.1.1+(1:Nat)) (24:Nat) then bif c7 (List.length x.2.2.2.2.2.1+(1:Nat)) (8:Nat) then bif c7 (List.length x.2.2.2.2.1+(1:Nat)) (8:Nat) then again (x_1.1,IntKind.wrap .i64 (x.2.1+(1:Int)),(x.2.2.1.1++[List.length x.2.2.1.2+(0:Nat)],x.2.2.1.2++[some (List.set x_2.2.1 (Int.toNat (IntKind.wrap .i64 (x.2.2.2.2.2.2.2.1+x.2.1))) (1:Int))]),x.2.2.2.1,x.2.2.2.2.1++[(IntKind.wrap .i64 (x.2.2.2.2.2.2.2.1+x.2.1))],x.2.2.2.2.2.1++[x_2.1],x.2.2.2.2.2.2.1,x.2.2.2.2.2.2.2.1,x.2.2.2.2.2.2.2.2.1,PUnit.unit) else none else none else none else none else none) fun (j:Int×List Int×PUnit->Option R)=>bif decide ((List.getD p.2 (Int.toNat x.2.1) ([],(0:Int),(0:Int))).2.2<(0:Int)) then lpK (Int×List Int×PUnit) R (fun (again:Int×List Int×PUnit->Option R) (x:Int×List Int×PUnit) =>
 let v25:Bool:=inB x.1 (List.length x.2.1);
 let v26:Bool:=Nat.ble (Nat.succ (Int.toNat x.1)) (List.length x.2.1);
 bif decide (x.1<(↑(List.length x_1.2.1):Int)) then bif v25 then bif v26 then bif v25 then bif v26 then again (IntKind.wrap .i64 (x.1+(1:Int)),List.set x.2.1 (Int.toNat x.1) (IntKind.wrap .i64 ((0:Int) - List.getD x.2.1 (Int.toNat x.1) (0:Int))),PUnit.unit) else none else none else none else none else j ((-1:Int),x.2.1,PUnit.unit)) ((0:Int),v21) else j ((1:Int),v21)
def M7 {R:Type} (p:Pg) (again k:St->Option R) (x:St):Option R :=
 let v12:Int:=IntKind.wrap .i64 (x.1+(1:Int));
 let v13:List Int×Int×Int:=List.getD p.2 (Int.toNat x.2.1) ([],(0:Int),(0:Int));
 let v14:List Int:=List.replicate (Int.toNat (IntKind.wrap .i64 (x.2.2.2.2.2.2.2.2.1+(1:Int)))) (0:Int);
 let v15:Bool:=inB x.1 (Int.toNat (IntKind.wrap .i64 (x.2.2.2.2.2.2.2.2.1+(1:Int))));
 let v16:Bool:=Nat.ble (Nat.succ (Int.toNat x.1)) (Int.toNat (IntKind.wrap .i64 (x.2.2.2.2.2.2.2.2.1+(1:Int))));
 let _:Int:=IntKind.wrap .i64 (x.2.2.2.2.2.2.2.1+x.2.1);
 let v18:List Int:=List.take (Int.toNat (IntKind.wrap .i64 (x.2.2.2.2.2.2.2.2.1+(1:Int)))) v13.1;
 let v19:List Int:=List.set (List.take (0:Nat) v14++v18++List.drop ((0:Nat)+List.length v18) v14) (Int.toNat x.2.2.2.2.2.2.2.2.1) v13.2.2;
 bif decide (x.2.1<(↑(List.length p.2):Int)) then bif inB x.2.1 (List.length p.2) then bif decide ((0:Int)<=IntKind.wrap .i64 (x.2.2.2.2.2.2.2.2.1+(1:Int)))&&c7 (Int.toNat (IntKind.wrap .i64 (x.2.2.2.2.2.2.2.2.1+(1:Int)))) (8:Nat) then bif inB x.2.2.2.2.2.2.2.2.1 (Int.toNat (IntKind.wrap .i64 (x.2.2.2.2.2.2.2.2.1+(1:Int)))) then bif Nat.ble (Nat.succ (Int.toNat x.2.2.2.2.2.2.2.2.1)) (Int.toNat (IntKind.wrap .i64 (x.2.2.2.2.2.2.2.2.1+(1:Int)))) then jnK (Int×List Int×PUnit) R (L6 p again x) fun (j:Int×List Int×PUnit->Option R)=>bif decide (v13.2.1=(1:Int)) then bif v15 then bif v16 then j (v12,List.set v19 (Int.toNat x.1) (1:Int),PUnit.unit) else none else none else jnK (Int×List Int×PUnit) R (fun (x:Int×List Int×PUnit)=>j (x.1,x.2.1,PUnit.unit)) fun (j:Int×List Int×PUnit->Option R)=>bif decide (v13.2.1=(2:Int)) then bif v15 then bif v16 then j (v12,List.set v19 (Int.toNat x.1) (-1:Int),PUnit.unit) else none else none else j (x.1,v19,PUnit.unit) else none else none else none else none else k x
theorem Fu {p:Pg} (hv:ValidP p) {R:Type} {again:St->Option R} {i:Nat} (hi:i<p.2.length) {f:Nat->Int} {s s0:Int}
  (hf:∀k,k<(aA p).w (an p)->f k=if k=(aA p).R (an p) then (an p).b i else if (an p).kd i≠3/\k=(aA p).sl i then (if (an p).kd i=1 then 1 else -1) else (p.2.getD i rw0).1.getD k 0) :
  L6 p again (s0,(i:Int),(List.range i,dk i ((aA p).w (an p)) ((aA p).M (an p))),1,iv i (fun k=>(aA p).N+k),bq i (aA p).σ,p.1,((aA p).N:Int),(((aA p).R (an p):Nat):Int),PUnit.unit) (s,bq ((aA p).w (an p)) f,PUnit.unit) =
   again (s,((i+1:Nat):Int),(List.range (i+1),dk (i+1) ((aA p).w (an p)) ((aA p).M (an p))),1,iv (i+1) (fun k=>(aA p).N+k),bq (i+1) (aA p).σ,p.1,((aA p).N:Int),(((aA p).R (an p):Nat):Int),PUnit.unit):=by
 obtain ⟨h1,h2⟩:=zc hv
 have hr:p.2.getD i rw0 ∈ p.2:=by rw[bN hi];exact List.getElem_mem _
 have hR:=hv.right _ hr
 have hl:=hv.len _ hr
 have hc:=hv.coefs _ hr
 have hn:=hv.cost.2
 have hbb:∀k,k<(aA p).w (an p)-> -1073741824<=f k/\f k<=1073741824:=fun k hk=>by
  rw[hf k hk]
  split
  ·exact z12 hR
  ·split
   ·split<;>omega
   ·by_cases e:k<(p.2.getD i rw0).1.length
    ·have:=z12 (hc ((p.2.getD i rw0).1.getD k 0) (by rw[bN e];exact List.getElem_mem _))
     omega
    ·rw[List.getD_eq_getElem?_getD,List.getElem?_eq_none (by omega)]
     simp
 obtain ⟨w,hw⟩:∃w,w=(aA p).w (an p):=⟨_,rfl⟩
 have hNi:(aA p).N+i<w:=by rw[hw];show (aA p).N+i<(aA p).N+p.2.length+1;omega
 have hNw:(aA p).N+p.2.length+1=w:=hw.symm
 have hm6:p.2.length<=6:=h2
 rw[<-hw] at hf hbb h1 ⊢
 have fin:∀(σ:Int),σ=(aA p).σ i->(List.range i++[(dk i w ((aA p).M (an p))).length+0],dk i w ((aA p).M (an p))++[some ((bq w fun k=>σ*f k).set ((aA p).N+i) 1)])=(List.range (i+1),dk (i+1) w ((aA p).M (an p))):=fun σ hσ=>by
  rw[li,Nat.add_zero,<-List.range_succ,ja hNi,<-CF]
  congr 3
  congr 1
  refine cD fun k hk=>?_
  have hok:=nH hv
  unfold Lay.M
  rw[hf k hk,hσ]
  have hNn:(an p).n<=(aA p).N:=hok.n
  have hRe:(aA p).R (an p)=(aA p).N+p.2.length:=rfl
  have hme:(an p).m=p.2.length:=rfl
  rw[hRe,hme]
  by_cases c1:k<(an p).n
  ·rw[if_neg (by omega),if_neg (by omega),if_pos c1,if_neg]
   ·rfl
   ·rintro ⟨e1,e2⟩
    have:=(hok.sl i hi e1).1
    omega
  ·rw[if_neg c1]
   by_cases c2:k<(aA p).N
   ·rw[if_neg (by omega),if_neg (by omega),if_pos c2]
    by_cases c3:(an p).kd i≠3/\k=(aA p).sl i
    ·rw[if_pos c3,if_pos c3]
    ·rw[if_neg c3,if_neg c3,List.getD_eq_getElem?_getD,List.getElem?_eq_none (by rw[hl];exact Nat.not_lt.1 c1)]
     simp
   ·rw[if_neg c2]
    by_cases c3:k<(aA p).N+p.2.length
    ·rw[if_pos c3]
     by_cases c4:k=(aA p).N+i
     ·rw[if_pos c4,if_pos c4]
     ·rw[if_neg c4,if_neg c4,if_neg (by omega),if_neg]
      ·rw[List.getD_eq_getElem?_getD,List.getElem?_eq_none (by rw[hl];exact Nat.not_lt.1 c1)]
       simp
      ·rintro ⟨e1,e2⟩
       have:=(hok.sl i hi e1).2
       omega
    ·rw[if_neg c3,if_neg (by omega),if_pos (by omega)]
 have hadd:IntKind.wrap .i64 (((aA p).N:Int)+(i:Int))=(((aA p).N+i:Nat):Int):=by rw[a7 (by omega) (by omega)];rfl
 have hg:∀{n k:Nat},n<=1000->k<=24->c7 n k=true:=fun {n k} h1 h2=>dV (Nat.le_trans (Nat.mul_le_mul h1 h2) (by decide))
 have tail:∀(σ:Int),σ=(aA p).σ i->(bif inB (IntKind.wrap .i64 (((aA p).N:Int)+(i:Int))) (bq w fun k=>σ*f k).length then bif Nat.ble (Nat.succ (Int.toNat (IntKind.wrap .i64 (((aA p).N:Int)+(i:Int))))) (bq w fun k=>σ*f k).length then
   bif c7 ((List.range i).length+1) 24 then bif c7 ((bq i (aA p).σ).length+1) 8 then bif c7 ((iv i fun k=>(aA p).N+k).length+1) 8 then
   again (s,IntKind.wrap .i64 ((i:Int)+1),(List.range i++[(dk i w ((aA p).M (an p))).length+0],dk i w ((aA p).M (an p))++[some ((bq w fun k=>σ*f k).set (Int.toNat (IntKind.wrap .i64 (((aA p).N:Int)+(i:Int)))) 1)]),1,
    (iv i fun k=>(aA p).N+k)++[IntKind.wrap .i64 (((aA p).N:Int)+(i:Int))],bq i (aA p).σ++[σ],p.1,((aA p).N:Int),(((aA p).R (an p):Nat):Int),PUnit.unit) else none else none else none else none else none) =
   again (s,((i+1:Nat):Int),(List.range (i+1),dk (i+1) w ((aA p).M (an p))),1,iv (i+1) (fun k=>(aA p).N+k),bq (i+1) (aA p).σ,p.1,((aA p).N:Int),(((aA p).R (an p):Nat):Int),PUnit.unit):=fun σ hσ=>by
  rw[hadd,z9,fin σ hσ,aE,aR,z7 hNi,cf hNi,List.length_range,aE,iy,hg (by omega) (by omega),hg (by omega) (by omega),aM (show i<=1000000 by omega),hσ,m9]
  simp only[cT]
  rw[show (iv i fun k=>(aA p).N+k)++[(((aA p).N+i:Nat):Int)]=iv (i+1) (fun k=>(aA p).N+k) from m9 (f:=fun k=>(((aA p).N+k:Nat):Int))]
 unfold L6
 simp only[pN,z9]
 by_cases hneg:(p.2.getD i rw0).2.2<0
 ·have hs:(aA p).σ i= -1:=if_pos hneg
  rw[z7 hneg,cond_true]
  refine cO w (by omega) (fun k=>((k:Int),bq w (fun j=>if j<k then -1*f j else f j),PUnit.unit)) _ ?_ (fun again2 k hk=>?_) (fun again2=>?_)
  ·rw[cD (f:=fun j=>if j<0 then -1*f j else f j) (g:=f) fun j _=>if_neg (by omega)];rfl
  ·have hb:=hbb k hk
   simp only[aE,aR,z9,z7 hk,z7 (show (k:Int)<w by omega),cf (show Nat.succ k<=w from hk),ba hk,cT,if_neg (Nat.lt_irrefl k),aM (show k<=1000000 by omega),a7 (show -9223372036854775808<=0 - f k by omega) (by omega),ja hk]
   congr 3
   refine cD fun j _=>?_
   by_cases c:j=k
   ·rw[if_pos c,if_pos (by omega),c];omega
   ·rw[if_neg c]
    by_cases c2:j<k
    ·rw[if_pos c2,if_pos (by omega)]
    ·rw[if_neg c2,if_neg (by omega)]
  ·simp only[aE,z8 (show ¬ (w:Int)<w by omega),cF]
   rw[cD (f:=fun j=>if j<w then -1*f j else f j) (g:=fun j=> -1*f j) fun j hj=>if_pos hj]
   have:=tail (-1) hs.symm
   simp only[aE] at this
   exact this
 ·have hs:(aA p).σ i=1:=if_neg hneg
  rw[z8 hneg,cond_false]
  have:=tail 1 hs.symm
  rw[cD (f:=fun j=>1*f j) (g:=f) fun j _=>Int.one_mul _] at this
  exact this
theorem GT {p:Pg} (hv:ValidP p) {R:Type} {k:St->Option R} :
  lpK St R (fun again x=>M7 p again k x) ((p.1.length:Int),(0:Int),([],[]),(1:Int),[],[],p.1,((aA p).N:Int),(((aA p).R (an p):Nat):Int),PUnit.unit) =
   k (((aA p).N:Int),(p.2.length:Int),fJ p.2.length ((aA p).w (an p)) ((aA p).M (an p)),1,iv p.2.length (fun k=>(aA p).N+k),bq p.2.length (aA p).σ,p.1,((aA p).N:Int),(((aA p).R (an p):Nat):Int),PUnit.unit):=by
 obtain ⟨h1,h2⟩:=zc hv
 have hok:=nH hv
 have hm6:p.2.length<=6:=h2
 obtain ⟨w,hw⟩:∃w,w=(aA p).w (an p):=⟨_,rfl⟩
 have hR1:(aA p).R (an p)+1=w:=by rw[hw]
 refine cO p.2.length (by omega) (fun i=>(((p.1.length+fB p i:Nat):Int),(i:Int),(List.range i,dk i ((aA p).w (an p)) ((aA p).M (an p))),1,iv i (fun k=>(aA p).N+k),bq i (aA p).σ,p.1,((aA p).N:Int),(((aA p).R (an p):Nat):Int),PUnit.unit)) _ rfl (fun again i hi=>?_) (fun again=>?_)
 ·have hr:p.2.getD i rw0 ∈ p.2:=by rw[bN hi];exact List.getElem_mem _
  have hl:=hv.len _ hr
  have hkd:=hv.kind _ hr
  have hN:p.1.length<=(aA p).N:=hok.n
  have hNR:(aA p).N+p.2.length=(aA p).R (an p):=rfl
  have hRw:(aA p).R (an p)<w:=by omega
  rw[<-hw] at h1
  have hsl:(aA p).sl i=p.1.length+fB p i:=rfl
  have hcs:=sC (p:=p) i
  unfold M7
  simp only[aM (show (aA p).R (an p)<=1000000 by omega),hR1,z9,aR,z7 hi,z7 (show (i:Int)<p.2.length by omega),z7 (show (0:Int)<=(w:Nat) by omega),dV (show w*8<=140737488355328 by omega),z7 hRw,cf (show Nat.succ ((aA p).R (an p))<=w from hRw),Bool.and_self,cT,pN,HU (show (p.2.getD i rw0).1.length<=w by omega),ja hRw]
  by_cases k3:(p.2.getD i rw0).2.1=3
  ·have ec:fB p (i+1)=fB p i:=by simp only[fB,if_pos k3,Nat.add_zero]
   rw[ec,z8 (show ¬ (p.2.getD i rw0).2.1=1 by omega),z8 (show ¬ (p.2.getD i rw0).2.1=2 by omega)]
   simp only[cF]
   have:=Fu hv (again:=again) (s0:=((p.1.length+fB p i:Nat):Int)) (s:=((p.1.length+fB p i:Nat):Int)) hi (f:=fun k=>if k=(aA p).R (an p) then (p.2.getD i rw0).2.2 else (p.2.getD i rw0).1.getD k 0) (fun k hk=>by
    show (if k=(aA p).R (an p) then (p.2.getD i rw0).2.2 else (p.2.getD i rw0).1.getD k 0)=if k=(aA p).R (an p) then (p.2.getD i rw0).2.2 else _
    by_cases c:k=(aA p).R (an p)
    ·rw[if_pos c,if_pos c]
    ·rw[if_neg c,if_neg c,if_neg]
     rintro ⟨e,_⟩
     exact e k3)
   rw[<-hw] at this
   exact this
  ·have hslN:(aA p).sl i<(aA p).N:=(hok.sl i hi k3).2
   have hslw:p.1.length+fB p i<w:=by omega
   have ec:fB p (i+1)=fB p i+1:=by simp only[fB,if_neg k3]
   rw[ec]
   have step:∀(v:Int),v=(if (an p).kd i=1 then 1 else -1)->L6 p again ((((p.1.length+fB p i:Nat):Int)),(i:Int),(List.range i,dk i ((aA p).w (an p)) ((aA p).M (an p))),1,iv i (fun k=>(aA p).N+k),bq i (aA p).σ,p.1,((aA p).N:Int),(((aA p).R (an p):Nat):Int),PUnit.unit)
     (((p.1.length+fB p i+1:Nat):Int),(bq w fun k=>if k=(aA p).R (an p) then (p.2.getD i rw0).2.2 else (p.2.getD i rw0).1.getD k 0).set (p.1.length+fB p i) v,PUnit.unit)=again (((p.1.length+(fB p i+1):Nat):Int),((i+1:Nat):Int),(List.range (i+1),dk (i+1) ((aA p).w (an p)) ((aA p).M (an p))),1,iv (i+1) (fun k=>(aA p).N+k),bq (i+1) (aA p).σ,p.1,((aA p).N:Int),(((aA p).R (an p):Nat):Int),PUnit.unit):=fun v hvv=>by
    rw[ja hslw]
    have:=Fu hv (again:=again) (s0:=((p.1.length+fB p i:Nat):Int)) (s:=((p.1.length+fB p i+1:Nat):Int)) hi (f:=fun k=>if k=p.1.length+fB p i then v else if k=(aA p).R (an p) then (p.2.getD i rw0).2.2 else (p.2.getD i rw0).1.getD k 0) (fun k hk=>by
     show (if k=p.1.length+fB p i then v else if k=(aA p).R (an p) then (p.2.getD i rw0).2.2 else (p.2.getD i rw0).1.getD k 0)=if k=(aA p).R (an p) then (p.2.getD i rw0).2.2 else _
     by_cases c:k=(aA p).R (an p)
     ·rw[if_pos c,if_pos c,if_neg (by omega)]
     ·rw[if_neg c,if_neg c]
      by_cases c2:k=p.1.length+fB p i
      ·rw[if_pos c2,if_pos ⟨k3,c2⟩,hvv]
      ·rw[if_neg c2,if_neg fun h=>c2 h.2])
    rw[<-hw] at this ⊢
    exact this
   by_cases k1:(p.2.getD i rw0).2.1=1
   ·have:=step 1 (if_pos (show (an p).kd i=1 from k1)).symm
    rw[<-hw] at this
    rw[z7 k1]
    simp only[cT,z7 hslw,cf (show Nat.succ (p.1.length+fB p i)<=w from hslw),aM (show p.1.length+fB p i<=1000000 by omega)]
    exact this
   ·have k2:(p.2.getD i rw0).2.1=2:=by omega
    have:=step (-1) (if_neg (show ¬ (an p).kd i=1 from k1)).symm
    rw[<-hw] at this
    rw[z8 k1,z7 k2]
    simp only[cT,cF,z7 hslw,cf (show Nat.succ (p.1.length+fB p i)<=w from hslw),aM (show p.1.length+fB p i<=1000000 by omega)]
    exact this
 ·unfold M7
  simp only[z8 (show ¬ (p.2.length:Int)<p.2.length by omega),cF]
  rfl
theorem GI {p:Pg} (hv:ValidP p) {R:Type} {F:(Int×Int×PUnit->Option R)->Int×Int×PUnit->Option R} (Q:Option R->Prop)
  (hF:∀again (i:Nat) (s:Int),i<p.2.length->F again (s,(i:Int),PUnit.unit)=bif !decide ((p.2.getD i rw0).2.1=3) then again (IntKind.wrap .i64 (s+1),((i+1:Nat):Int),PUnit.unit) else again (s,((i+1:Nat):Int),PUnit.unit))
  (hf:∀again,Q (F again (((fB p p.2.length:Nat):Int),(p.2.length:Int),PUnit.unit))):Q (lpK (Int×Int×PUnit) R F ((0:Int),(0:Int),PUnit.unit)):=by
 have hm:=hv.rows
 refine lG Q p.2.length (by omega) (fun i=>(((fB p i:Nat):Int),(i:Int),PUnit.unit)) rfl (fun again i hi=>?_) hf
 rw[hF again i _ hi]
 have:=sC (p:=p) i
 by_cases k3:(p.2.getD i rw0).2.1=3
 ·rw[z7 k3]
  simp only[fB,if_pos k3,Nat.add_zero,Bool.not_true,cF]
 ·rw[z8 k3]
  simp only[fB,if_neg k3,Bool.not_false,cT,aM (show fB p i<=1000000 by omega)]
theorem Dw {p:Pg} (hv:ValidP p) {R:Type} {k:St->Option R} (Q:Option R->Prop)
  (h:Q (k (((aA p).N:Int),(p.2.length:Int),fJ p.2.length ((aA p).w (an p)) ((aA p).M (an p)),1,iv p.2.length (fun k=>(aA p).N+k),bq p.2.length (aA p).σ,p.1,((aA p).N:Int),(((aA p).R (an p):Nat):Int),PUnit.unit))) :
  Q (lpK St R (fun again x=>M7 p again k x) ((p.1.length:Int),(0:Int),([],[]),(1:Int),[],[],p.1,((aA p).N:Int),(((aA p).R (an p):Nat):Int),PUnit.unit)):=by
 rw[GT hv]
 exact h
end
end Go.Proofs.YtfknoaclabfdlaaGreat

namespace Go.Proofs.YtfknoaclabfdlaaGreat
open Tryz Dn Dn.Sh
def fac (L:Lin):Nat->Int
 | 0=>L.F0
 | k+1=>L.F k
def pp (f:Nat->Int):Nat->Int
 | 0=>1
 | n+1=>pp f n*f n
def mx (f:Nat->Int):Nat->Int
 | 0=>f 0
 | n+1=>max (mx f n) (f (n+1))
def gX (L:Lin):Prop:=pp (fac L) (L.m+1)<=17592186044416/\pp (fac L) (L.m+1)*mx (fac L) L.m<=144115188075855872
instance (L:Lin):Decidable (gX L):=by unfold gX;infer_instance
theorem zm (L:Lin) (k:Nat):1<=fac L k:=by
 cases k with
 | zero=>exact L.F0_pos
 | succ k=>exact L.F_pos k
theorem B0 {f:Nat->Int}:∀{n:Nat},pp f (n+1)=f 0*pz n fun i=>f (i+1)
 | 0=>by simp[pp,pz]
 | n+1=>by
  have e:∀{n:Nat} {g:Nat->Int},pz (n+1) g=pz n g*g n:=by
   intro n
   induction n with
   | zero=>intro g;simp[pz]
   | succ n ih =>
    intro g
    have h:=ih (g:=fun i=>g (i+1))
    rw[pz,h,pz,Int.mul_assoc]
  rw[pp,B0 (n:=n),e,Int.mul_assoc]
theorem QO (L:Lin):pp (fac L) (L.m+1)=L.F0*L.P:=B0
theorem vF {f:Nat->Int} (h:∀i,1<=f i):∀n,1<=pp f n
 | 0=>by simp[pp]
 | n+1=>by
  have h1:=vF h n
  have h2:=Int.mul_le_mul h1 (h n) (by omega) (by omega)
  simp only[pp]
  omega
theorem Ep {f:Nat->Int} (h:∀i,1<=f i) {n:Nat}:∀{k:Nat},pp f n<=pp f (n+k)
 | 0=>Int.le_refl _
 | k+1=>by
  have h1:=Ep h (n:=n) (k:=k)
  have h2:=vF h (n+k)
  have h3:pp f (n+k)*1<=pp f (n+k)*f (n+k):=Int.mul_le_mul_of_nonneg_left (h _) (by omega)
  rw[<-Nat.add_assoc]
  simp only[pp]
  omega
theorem NS {f:Nat->Int} {n:Nat}:∀{i:Nat},i<=n->f i<=mx f n:=by
 induction n with
 | zero=>intro i h;rw[show i=0 by omega];exact Int.le_refl _
 | succ n ih =>
  intro i h
  simp only[mx]
  by_cases e:i=n+1
  ·rw[e];omega
  ·have:=ih (i:=i) (by omega)
   omega
theorem NX {f:Nat->Int} {B:Int}:∀{n:Nat},(∀i,i<=n->f i<=B)->mx f n<=B
 | 0,h=>h 0 (by omega)
 | n+1,h=>by
  have h1:=NX (n:=n) fun i hi=>h i (by omega)
  have h2:=h (n+1) (by omega)
  simp only[mx]
  omega
theorem wJ {l:List Int} (h:∀n ∈ l,inC n=true) (j:Nat):ab (l.getD j 0)<=1048576:=by
 rw[tG]
 by_cases e:j<l.length
 ·exact z12 (h _ (by rw[bN e];exact List.getElem_mem _))
 ·rw[List.getD_eq_getElem?_getD,List.getElem?_eq_none (by omega)]
  simp
theorem sX {l:List Int} (h:∀n ∈ l,inC n=true) {n:Nat} (hn:n<=12):0<=sz n (fun j=>ab (l.getD j 0))/\sz n (fun j=>ab (l.getD j 0))<=12582912:=by
 refine ⟨ii fun _ _=>cq _,?_⟩
 have h1:=(kc (n:=n) (f:=fun j=>ab (l.getD j 0)) (B:=1048576) fun j _=>⟨by have:=cq (l.getD j 0);omega,wJ h j⟩).2
 omega
theorem GK {p:Pg} (hv:ValidP p) {k:Nat} (hk:k<=p.2.length):fac (an p) k<=2147483648:=by
 have hn:=hv.cost.2
 cases k with
 | zero =>
  have:=sX hv.cs hn
  show 1+sz p.1.length (fun j=>ab (p.1.getD j 0))<=_
  omega
 | succ k =>
  have hr:p.2.getD k rw0 ∈ p.2:=by rw[bN (show k<p.2.length by omega)];exact List.getElem_mem _
  have h1:=sX (hv.coefs _ hr) hn
  have h2:=z12 (hv.right _ hr)
  have h3:ab (p.2.getD k rw0).2.2<=1073741824:=tG.2 h2
  show 1+ab (p.2.getD k rw0).2.2+sz p.1.length (fun j=>ab ((p.2.getD k rw0).1.getD j 0))<=_
  omega
theorem AF {l:List Int} {more:Int} (h:∀n ∈ l,inC n=true) (hl:l.length<=12) (hm:inR more=true):cW l more=some (1+ab more+sz l.length fun j=>ab (l.getD j 0)):=by
 have hm:=z12 hm
 have hma:ab more<=1073741824:=tG.2 hm
 have hma0:=cq more
 unfold cW jZ
 rw[rR (by omega) (by omega),obN]
 have e0:((more.natAbs:Nat):Int)=ab more:=rfl
 refine cO l.length (by omega) (fun i=>(1+ab more+sz i (fun j=>ab (l.getD j 0)),(i:Int),PUnit.unit)) _ ?_ (fun again i hi=>?_) (fun again=>?_)
 ·rw[e0,a7 (x:=ab more) (by omega) (by omega),a7 (by omega) (by omega)]
  simp only[sz,Int.add_zero]
  rfl
 ·have h1:=wJ h i
  have h0:=cq (l.getD i 0)
  have h2:=sX h (n:=i) (by omega)
  have h3: -1048576<=l.getD i 0/\l.getD i 0<=1048576:=tG.1 h1
  have e1:((l.getD i 0).natAbs:Int)=ab (l.getD i 0):=rfl
  simp only[aR,z9,z7 hi,z7 (show (i:Int)<l.length by omega),cT,rR (show -9223372036854775808<=l.getD i 0 by omega) (by omega),ai,e1,aM (show i<=1000000 by omega)]
  rw[a7 (x:=ab (l.getD i 0)) (by omega) (by omega),a7 (by omega) (by omega)]
  simp only[sz]
  congr 2
  omega
 ·simp only[z8 (show ¬ (l.length:Int)<l.length by omega),cF]
theorem MN {n:Nat} {f:Nat->Int} (hn:n<=1000):du (bq (n+1) f)=some (mx f n):=by
 unfold du jD
 simp only[pN,aE,z8 (show ¬ ((n+1:Nat):Int)<1 by omega),cF,show inB (0:Int) (n+1)=true from tz (by omega) (by omega),cT,ba (show 0<n+1 by omega)]
 refine cO n (by omega) (fun i=>(mx f i,((i+1:Nat):Int),PUnit.unit)) _ rfl (fun again i hi=>?_) (fun again=>?_)
 ·simp only[z7 (show ((i+1:Nat):Int)<(n+1:Nat) by omega),aR,z7 (show i+1<n+1 by omega),z9,cT,ba (show i+1<n+1 by omega),Lu,aM (show i+1<=1000000 by omega)]
  rfl
 ·simp only[z8 (show ¬ ((n+1:Nat):Int)<(n+1:Nat) by omega),cF]
theorem Dr {a b c:Int} (hc:0<c):a<=b / c↔a*c<=b:=Int.le_ediv_iff_mul_le hc
theorem C9 {a b c:Int} (hc:0<c):a>b / c↔b<a*c:=Int.ediv_lt_iff_lt_mul hc
theorem Aw {p:Pg} (hv:ValidP p):cI p=some (decide (gX (an p))):=by
 have hm:=hv.rows
 have hn:=hv.cost.2
 unfold cI lO
 rw[AF hv.cs hn (by decide),obN]
 obtain ⟨f,hf⟩:∃f,f=fac (an p):=⟨_,rfl⟩
 have hpos:∀i,1<=f i:=fun i=>by rw[hf];exact zm _ i
 have hsm:∀k,k<=p.2.length->f k<=2147483648:=fun k hk=>by rw[hf];exact GK hv hk
 have hF:gX (an p)=(pp f (p.2.length+1)<=17592186044416/\pp f (p.2.length+1)*mx f p.2.length<=144115188075855872):=by rw[hf];rfl
 refine cO p.2.length (by omega) (fun i=>(bq (i+1) f,(i:Int),PUnit.unit)) _ ?_ (fun again i hi=>?_) (fun again=>?_)
 ·rw[hf]
  show _=([fac (an p) 0],(0:Int),PUnit.unit)
  congr 2
 ·have hr:p.2.getD i rw0 ∈ p.2:=by rw[bN hi];exact List.getElem_mem _
  have h1:=AF (hv.coefs _ hr) (by rw[hv.len _ hr];exact hn) (hv.right _ hr)
  simp only[aR,z9,z7 hi,z7 (show (i:Int)<p.2.length by omega),cT,h1,ai,aE,dV (show (i+1+1)*8<=140737488355328 by omega),aM (show i<=1000000 by omega)]
  have e:f (i+1)=1+ab (p.2.getD i rw0).2.2+sz (p.2.getD i rw0).1.length (fun j=>ab ((p.2.getD i rw0).1.getD j 0)):=by
   rw[hf,hv.len _ hr]
   rfl
  rw[<-e,m9]
 ·simp only[z8 (show ¬ (p.2.length:Int)<p.2.length by omega),cF,aE,MN (show p.2.length<=1000 by omega),ai]
  have hmx:1<=mx f p.2.length/\mx f p.2.length<=2147483648:=⟨Int.le_trans (hpos 0) (NS (by omega)),NX hsm⟩
  have round:∀{R:Type} {a b:Option R} (i:Nat),i<p.2.length+1->(bif nzB (f i) then bif decide (pp f i>IntKind.wrap .i64 (Int.tdiv 17592186044416 (f i))) then a else b else none)=bif decide (pp f (i+1)>17592186044416) then a else b:=fun i hi=>by
   have h1:=hpos i
   have h2:=hsm i (by omega)
   rw[sK (by omega),cond_true,Int.tdiv_eq_ediv_of_nonneg (by omega)]
   have h3:0<=17592186044416 / f i:=Int.ediv_nonneg (by omega) (by omega)
   have h4:17592186044416 / f i<=17592186044416:=Int.ediv_le_self _ (by omega)
   rw[a7 (by omega) (by omega),decide_eq_decide.2 (C9 (a:=pp f i) (show 0<f i by omega))]
   rfl
  rcases oz (p.2.length+1) (fun i=>decide (pp f (i+1)>17592186044416)) with hnone | ⟨q,hq,hbig,hleast⟩
  ·have hall:∀i,i<=p.2.length+1->pp f i<=17592186044416:=fun i hi=>by
    cases i with
    | zero=>simp[pp]
    | succ i=>have:=of_decide_eq_false (hnone i (by omega));omega
   refine cO (p.2.length+1) (by omega) (fun i=>(pp f i,(i:Int),PUnit.unit)) _ rfl (fun again i hi=>?_) (fun again=>?_)
   ·have h2:=hall (i+1) (by omega)
    have h3:=vF hpos (i+1)
    simp only[z7 (show (i:Int)<(p.2.length+1:Nat) by omega),aR,z7 hi,z9,ba hi,cf (show Nat.succ i<=p.2.length+1 from hi),cT,round i hi,hnone i hi,cF,aM (show i<=1000000 by omega)]
    rw[a7 (x:=pp f i*f i) (by simp only[pp] at h2 h3;omega) (by simp only[pp] at h2;omega)]
    rfl
   ·simp only[z8 (show ¬ ((p.2.length+1:Nat):Int)<(p.2.length+1:Nat) by omega),cF]
    rw[sK (by omega),cond_true,Int.tdiv_eq_ediv_of_nonneg (by omega)]
    have h3:0<=144115188075855872 / mx f p.2.length:=Int.ediv_nonneg (by omega) (by omega)
    have h4:144115188075855872 / mx f p.2.length<=144115188075855872:=Int.ediv_le_self _ (by omega)
    rw[a7 (by omega) (by omega)]
    congr 1
    refine decide_eq_decide.2 ?_
    rw[Dr (a:=pp f (p.2.length+1)) (show 0<mx f p.2.length by omega),hF]
    exact ⟨fun h=>⟨hall _ (by omega),h⟩,fun h=>h.2⟩
  ·have hlow:∀i,i<=q->pp f i<=17592186044416:=fun i hi=>by
    cases i with
    | zero=>simp[pp]
    | succ i=>have:=of_decide_eq_false (hleast i (by omega));omega
   refine cO q (by omega) (fun i=>(pp f i,(i:Int),PUnit.unit)) _ rfl (fun again i hi=>?_) (fun again=>?_)
   ·have h2:=hlow (i+1) (by omega)
    have h3:=vF hpos (i+1)
    simp only[z7 (show (i:Int)<(p.2.length+1:Nat) by omega),aR,z7 (show i<p.2.length+1 by omega),z9,ba (show i<p.2.length+1 by omega),cf (show Nat.succ i<=p.2.length+1 by omega),cT,round i (by omega),hleast i hi,cF,aM (show i<=1000000 by omega)]
    rw[a7 (x:=pp f i*f i) (by simp only[pp] at h2 h3;omega) (by simp only[pp] at h2;omega)]
    rfl
   ·simp only[z7 (show (q:Int)<(p.2.length+1:Nat) by omega),aR,z7 hq,z9,ba hq,cf (show Nat.succ q<=p.2.length+1 from hq),cT,round q hq,hbig]
    congr 1
    refine (z8 ?_).symm
    rw[hF]
    rintro ⟨h1,_⟩
    have h2:=z12 hbig
    have h3:=Ep hpos (n:=q+1) (k:=p.2.length - q)
    rw[show q+1+(p.2.length - q)=p.2.length+1 by omega] at h3
    omega
theorem Ee {p:Pg} (hv:ValidP p) (hf:gX (an p)):Bnd (an p) (aA p):=by
 obtain ⟨h1,h2⟩:=zc hv
 refine ⟨nH hv,by omega,by omega,?_⟩
 rw[<-QO]
 exact hf.1
theorem KL {p:Pg} (hf:gX (an p)) {k:Nat} (hk:k<=p.2.length):(an p).F0*(an p).P*fac (an p) k<=144115188075855872:=by
 rw[<-QO]
 have h1:=NS (f:=fac (an p)) hk
 have h2:=vF (zm (an p)) ((an p).m+1)
 have h3:=Int.mul_le_mul_of_nonneg_left h1 (show 0<=pp (fac (an p)) ((an p).m+1) by omega)
 exact Int.le_trans h3 hf.2
end Go.Proofs.YtfknoaclabfdlaaGreat

namespace Go.Proofs.YtfknoaclabfdlaaGreat
noncomputable section
open Tryz Dn Dn.Sh
theorem s9 {p:Pg} (j:Nat):iO p.1 j=bU (an p) j:=by
 unfold bU iO
 by_cases h:j<(an p).n
 ·rw[if_pos h];rfl
 ·rw[if_neg h,List.getD_eq_getElem?_getD,List.getElem?_eq_none (Nat.not_lt.1 h)];rfl
theorem HN {n d:Int} (hd:d≠0) (hn:n.natAbs<=1152921504606846976) (hd2:d.natAbs<=1152921504606846976):zo (Eh n d)=(prQ ((n:Rat) / d),0,()):=by
 obtain ⟨m1,m2,m3⟩:=Ew (s:=decide (n<0) !=decide (d<0)) (n:=n.natAbs) (d:=d.natAbs) (by omega)
 obtain ⟨m4,m5⟩:=Fs (s:=decide (n<0) !=decide (d<0)) m2 m3
 have hf:io (Eh n d):=by
  unfold io Eh
  rw[m1,m4,m5]
  have a1:n.natAbs / Nat.gcd n.natAbs d.natAbs<=n.natAbs:=Nat.div_le_self _ _
  have a2:d.natAbs / Nat.gcd n.natAbs d.natAbs<=d.natAbs:=Nat.div_le_self _ _
  refine ⟨?_,by rw[<-m5] at *;omega⟩
  unfold sgn
  generalize n.natAbs / Nat.gcd n.natAbs d.natAbs=p at *
  split<;>omega
 unfold zo
 rw[if_pos hf,uF hd]
theorem uU {n d:Int} (hd:d≠0) (hn:n.natAbs<=1152921504606846976) (hd2:d.natAbs<=1152921504606846976):io ((n:Rat) / d):=by
 have h:=HN hd hn hd2
 rw[uF hd] at h
 rcases wK ((n:Rat) / d) with ⟨h1,_⟩ | ⟨_,h2⟩
 ·exact h1
 ·rw[h2] at h
  exact absurd (show (5:Int)=0 from congrArg (fun x:Fq×Int×Unit=>x.2.1) h) (by decide)
theorem yP {M:List (List Int)} {d n:Int} {x2 x3 cs:List Int} {x5 x6:Int} (hd:0<d/\d<=17592186044416) (hn:n.natAbs<=1152921504606846976):aZ (M,d,x2,x3,cs,x5,x6) n=some (prQ ((n:Rat) / (d:Rat))):=by
 simp only[aZ,gS,Er (show -9223372036854775808<=n by omega) (by omega) (show -9223372036854775808<=d by omega) (by omega),ai,if_neg (show ¬ d=0 by omega)]
 rw[uF (by omega)]
 unfold zo
 rw[if_pos (uU (by omega) hn (by omega))]
theorem M8 {n:Nat}:List.replicate n (0:Int)=bq n fun _=>0:=by
 refine List.ext_getElem (by rw[aE];simp) fun i h1 h2=>?_
 rw[uJ,List.getElem_replicate]
theorem Ns {p:Pg} (k:Nat) (x:Int):((aA p).σ k*x).natAbs=x.natAbs:=by
 show ((if (p.2.getD k rw0).2.2<0 then (-1:Int) else 1)*x).natAbs=_
 split<;>omega
theorem HL {m w:Nat} {T:Nat->Nat->Int}:((fJ m w T).1.all fun x=>dL (dk m w T) x)=true:=gq
theorem KT {m w:Nat} {T:Nat->Nat->Int}:(fJ m w T).1.map (fun x=>af (dk m w T) x)=kw m w T:=gn
abbrev xL (p:Pg) (S:Sx):List Fq:=bq p.1.length fun j=>prQ (yK (an p).m ((aA p).R (an p)) S j)
abbrev yL (p:Pg) (wc:Nat->Int) (S:Sx):List Fq:=bq p.2.length fun k=>prQ (qX (an p).m (aA p).N wc S (aA p).σ k)
def Sr (p:Pg) (S:Sx):Int:=sz (an p).m fun i=>bU (an p) (S.β i)*S.T i ((aA p).R (an p))
abbrev CY (p:Pg) (S:Sx):Rat:=(Sr p S:Rat) / (S.d:Rat)
structure Infeas (p:Pg) (S:Sx):Prop where
 val:(aA p).Val (an p) S
 zr:∀j,j<(aA p).N->0<=zr (an p).m (fp (aA p).N) S j
 pos:0<sz (an p).m fun i=>fp (aA p).N (S.β i)*S.T i ((aA p).R (an p))
structure gv (p:Pg) (S:Sx) (q:Nat):Prop where
 val:(aA p).Val (an p) S
 az:AZ (an p) (aA p) S
 lt:q<(aA p).N
 neg:zr (an p).m (bU (an p)) S q<0
 no:∀i,i<(an p).m->S.T i q<=0
structure Opt (p:Pg) (S:Sx):Prop where
 val:(aA p).Val (an p) S
 az:AZ (an p) (aA p) S
 zr:∀j,j<(aA p).N->0<=zr (an p).m (bU (an p)) S j
abbrev om:Fq×List Fq×List Fq:=((0,0),[],[])
def vz (p:Pg) (o:Option ((Fq×List Fq×List Fq)×Int×Unit)):Prop :=
 (∃S,Infeas p S/\o=some (om,22,()))\/(∃S q,gv p S q/\o=some (om,21,()))\/∃S,Opt p S/\o=some ((prQ (CY p S),xL p S,yL p (bU (an p)) S),0,())
theorem obQ {T R:Type} {Q:Option R->Prop} {o:Option T} {t:T} {k:T->Option R} (h:o=some t) (hk:Q (k t)):Q (aa o k):=by
 rw[h]
 exact hk
theorem JQ {p:Pg} (hv:ValidP p) (hf:gX (an p)):vz p (aw p):=by
 have hB:=Ee hv hf
 obtain ⟨hw25,hm6'⟩:=zc hv
 have hm6:p.2.length<=6:=hm6'
 have hn:=hv.cost.2
 have hok:=nH hv
 have hpow:(aA p).w (an p) ^ (an p).m<=1180591620717411303424:=Nat.le_trans (Nat.pow_le_pow_left (show _<=64 by omega) _) (Nat.le_trans (Nat.pow_le_pow_right (by omega) hm6') (by decide))
 have hcnt:=sC (p:=p) p.2.length
 have hNe:IntKind.wrap .i64 ((p.1.length:Int)+(fB p p.2.length:Nat))=((aA p).N:Int):=by rw[a7 (by omega) (by omega)];rfl
 have hRe:IntKind.wrap .i64 (((aA p).N:Int)+(p.2.length:Int))=(((aA p).R (an p):Nat):Int):=by
  have:(aA p).N=p.1.length+fB p p.2.length:=rfl
  rw[a7 (by omega) (by omega)];rfl
 unfold aw iG
 rw[xu,obN,vK.2 hv]
 simp only[Bool.not_true,cF]
 rw[Aw hv,obN,z7 hf]
 simp only[Bool.not_true,cF]
 refine GI hv (vz p) (fun again i s hi=>?_) (fun again=>?_)
 ·simp only[z7 (show (i:Int)<p.2.length by omega),aR,z7 hi,z9,cT,aM (show i<=1000000 by omega)]
 simp only[z8 (show ¬ (p.2.length:Int)<p.2.length by omega),cF,ay,gj,dV (show (0+p.1.length)*8<=140737488355328 by omega),cT,ai,hNe,hRe]
 refine Dw hv (vz p) ?_
 obtain ⟨S,ok,h1,hvS,h2,h3⟩:=KE hB hpow (x3:=bq p.2.length (aA p).σ) (cs:=p.1) (Lay.first hok)
 refine obQ (Q:=vz p) h1 ?_
 cases ok with
 | false =>
  simp only[Bool.not_false,cT]
  exact .inl ⟨S,⟨hvS,(h3 rfl).1,(h3 rfl).2⟩,rfl⟩
 | true =>
  simp only[Bool.not_true,cF]
  obtain ⟨S,ok,h1,hvS,haS,h2,h3⟩:=Ef hB hpow (x3:=bq p.2.length (aA p).σ) s9 hvS (h2 rfl)
  refine obQ (Q:=vz p) h1 ?_
  cases ok with
  | false =>
   simp only[Bool.not_false,cT]
   obtain ⟨q,e1,e2,e3⟩:=h3 rfl
   exact .inr (.inl ⟨S,q,⟨hvS,haS,e1,e2,e3⟩,rfl⟩)
  | true =>
   simp only[Bool.not_true,cF,z9,z7 (show (0:Int)<=(p.1.length:Nat) by omega),dV (show p.1.length*8<=140737488355328 by omega),Bool.and_self,cT,M8]
   refine .inr (.inr ⟨S,⟨hvS,haS,h2 rfl⟩,?_⟩)
   obtain ⟨⟨d1,d2⟩,hb⟩:=hB.tab hvS.tb
   obtain ⟨_,hbP⟩:=hB.tabP hvS.tb
   have hRw:(aA p).R (an p)<(aA p).w (an p):=by unfold Lay.R Lay.w;omega
   have hm:(an p).m=p.2.length:=rfl
   have hcR:∀i,i<(an p).m-> -17592186044416<=bU (an p) (S.β i)*S.T i ((aA p).R (an p))/\bU (an p) (S.β i)*S.T i ((aA p).R (an p))<=17592186044416:=fun i hi=>hB.cost (hbP i _ hi hRw) _
   have hTR:∀i,i<(an p).m-> -17592186044416<=S.T i ((aA p).R (an p))/\S.T i ((aA p).R (an p))<=17592186044416:=fun i hi=>by have:=hb i _ hi hRw;omega
   refine cO (an p).m (by omega) (fun i=>(sz i (fun k=>bU (an p) (S.β k)*S.T k ((aA p).R (an p))),(i:Int),bq p.1.length (fun j=>sz i fun k=>if S.β k=j then S.T k ((aA p).R (an p)) else 0),PUnit.unit)) _ rfl (fun again i hi=>?_) (fun again=>?_)
   ·have hiR:=hcR i hi
    have hs:=kc (n:=i) (f:=fun k=>bU (an p) (S.β k)*S.T k ((aA p).R (an p))) (B:=17592186044416) fun k hk=>hcR k (by omega)
    have h3:(i:Int)*17592186044416<=6*17592186044416:=z11 (by omega) (by omega)
    simp only[iy,aR,z9,z7 hi,z7 (show (i:Int)<(an p).m by omega),cf (show Nat.succ i<=(an p).m from hi),jm hi,cT,HL,KT,uM,s9,ai,ff,gV hi,jj,fV hi,aE,ba hRw,z7 hRw,cf (show Nat.succ ((aA p).R (an p))<=(aA p).w (an p) from hRw),aM (show i<=1000000 by omega)]
    rw[a7 (x:=bU (an p) (S.β i)*S.T i ((aA p).R (an p))) (by omega) (by omega),a7 (by omega) (by omega)]
    by_cases c:S.β i<p.1.length
    ·simp only[z7 (show (S.β i:Int)<p.1.length by omega),z7 c,cf (show Nat.succ (S.β i)<=p.1.length from c),cT,ja c]
     congr 3
     congr 1
     refine cD fun j _=>?_
     by_cases e:j=S.β i
     ·subst e
      rw[if_pos rfl]
      simp only[sz]
      rw[fP fun k hk=>if_neg fun e=>by have:=hvS.tb.inj (show k<(an p).m by omega) hi e;omega,if_pos trivial,Int.zero_add]
     ·rw[if_neg e]
      simp only[sz]
      rw[if_neg (Ne.symm e),Int.add_zero]
    ·simp only[z8 (show ¬ (S.β i:Int)<p.1.length by omega),cF]
     congr 3
     congr 1
     refine cD fun j hj=>?_
     simp only[sz]
     rw[if_neg (by omega),Int.add_zero]
   have hsV:=kc (n:=(an p).m) (f:=fun k=>bU (an p) (S.β k)*S.T k ((aA p).R (an p))) (B:=17592186044416) hcR
   have h6:((an p).m:Int)*17592186044416<=6*17592186044416:=z11 (by omega) (by omega)
   simp only[iy,z8 (show ¬ ((an p).m:Int)<(an p).m by omega),cF,gq,gn,cT,yP ⟨d1,d2⟩ (show (sz (an p).m fun k=>bU (an p) (S.β k)*S.T k ((aA p).R (an p))).natAbs<=1152921504606846976 by omega),ai,aE]
   refine cO p.1.length (by omega) (fun j=>((j:Int),prQ (CY p S),bq j (fun j=>prQ (yK (an p).m ((aA p).R (an p)) S j)),[],PUnit.unit)) _ rfl (fun again j hj=>?_) (fun again=>?_)
   ·have hx:=kc (n:=(an p).m) (f:=fun k=>if S.β k=j then S.T k ((aA p).R (an p)) else 0) (B:=17592186044416) fun k hk=>by
     have:=hTR k hk
     split<;>omega
    simp only[aR,z9,z7 hj,z7 (show (j:Int)<p.1.length by omega),cf (show Nat.succ j<=p.1.length from hj),ba hj,cT,yP ⟨d1,d2⟩ (show (sz (an p).m fun k=>if S.β k=j then S.T k ((aA p).R (an p)) else 0).natAbs<=1152921504606846976 by omega),ai,aE,dV (show (j+1)*16<=140737488355328 by omega),aM (show j<=1000000 by omega)]
    rw[show prQ (((sz (an p).m fun k=>if S.β k=j then S.T k ((aA p).R (an p)) else 0:Int):Rat) / (S.d:Rat))=(fun j=>prQ (yK (an p).m ((aA p).R (an p)) S j)) j from rfl,m9]
   simp only[z8 (show ¬ (p.1.length:Int)<p.1.length by omega),cF]
   refine cO p.2.length (by omega) (fun k=>((k:Int),prQ (CY p S),xL p S,bq k (fun k=>prQ (qX (an p).m (aA p).N (bU (an p)) S (aA p).σ k)),PUnit.unit)) _ rfl (fun again k hk=>?_) (fun again=>?_)
   ·have hNk:(aA p).N+k<(aA p).w (an p):=by unfold Lay.w;omega
    have hcN:∀i,i<(an p).m-> -17592186044416<=bU (an p) (S.β i)*S.T i ((aA p).N+k)/\bU (an p) (S.β i)*S.T i ((aA p).N+k)<=17592186044416:=fun i hi=>hB.cost (hbP i _ hi hNk) _
    have hNke:IntKind.wrap .i64 (((aA p).N:Int)+(k:Int))=(((aA p).N+k:Nat):Int):=by rw[a7 (by omega) (by omega)];rfl
    simp only[z7 (show (k:Int)<p.2.length by omega),cT,hNke]
    refine cO (an p).m (by omega) (fun i=>(sz i (fun i=>bU (an p) (S.β i)*S.T i ((aA p).N+k)),(i:Int),PUnit.unit)) _ rfl (fun again2 i hi=>?_) (fun again2=>?_)
    ·have hiR:=hcN i hi
     have hs:=kc (n:=i) (f:=fun i=>bU (an p) (S.β i)*S.T i ((aA p).N+k)) (B:=17592186044416) fun k hk=>hcN k (by omega)
     have h3:(i:Int)*17592186044416<=6*17592186044416:=z11 (by omega) (by omega)
     simp only[aR,z9,z7 hi,z7 (show (i:Int)<(an p).m by omega),cf (show Nat.succ i<=(an p).m from hi),jm hi,cT,uM,s9,ai,ff,gV hi,jj,fV hi,aE,ba hNk,z7 hNk,cf (show Nat.succ ((aA p).N+k)<=(aA p).w (an p) from hNk),aM (show i<=1000000 by omega)]
     rw[a7 (x:=bU (an p) (S.β i)*S.T i ((aA p).N+k)) (by omega) (by omega),a7 (by omega) (by omega)]
     rfl
    ·have hs:=kc (n:=(an p).m) (f:=fun i=>bU (an p) (S.β i)*S.T i ((aA p).N+k)) (B:=17592186044416) hcN
     have hab:=Ns (p:=p) k (sz (an p).m fun i=>bU (an p) (S.β i)*S.T i ((aA p).N+k))
     simp only[z8 (show ¬ ((an p).m:Int)<(an p).m by omega),cF,aE,aR,z9,z7 hk,cf (show Nat.succ k<=p.2.length from hk),ba hk,cT,a7 (x:=(aA p).σ k*sz (an p).m fun i=>bU (an p) (S.β i)*S.T i ((aA p).N+k)) (by omega) (by omega),yP ⟨d1,d2⟩ (show ((aA p).σ k*sz (an p).m fun i=>bU (an p) (S.β i)*S.T i ((aA p).N+k)).natAbs<=1152921504606846976 by omega),ai,dV (show (k+1)*16<=140737488355328 by omega),aM (show k<=1000000 by omega)]
     rw[show prQ ((((aA p).σ k*sz (an p).m fun i=>bU (an p) (S.β i)*S.T i ((aA p).N+k):Int):Rat) / (S.d:Rat))=(fun k=>prQ (qX (an p).m (aA p).N (bU (an p)) S (aA p).σ k)) k from rfl,m9]
   ·simp only[z8 (show ¬ (p.2.length:Int)<p.2.length by omega),cF]
end
end Go.Proofs.YtfknoaclabfdlaaGreat

namespace Go.Proofs.YtfknoaclabfdlaaGreat
open Tryz Dn Dn.Sh
def vX (x:List Fq) (j:Nat):Rat:=qv (x.getD j (0,0))
theorem Ax {f:Nat->Rat}:∀{n:Nat},sq (n+1) f=f 0+sq n fun i=>f (i+1)
 | 0=>by simp only[sq];grind
 | n+1=>by
  rw[sq,Ax (n:=n)]
  simp only[sq]
  grind
theorem Cd:∀{l:List Int} {x:List Fq} {s q:Rat},l.length<=x.length->lI l x s=some q->q=s+sq l.length fun j=>((l.getD j 0:Int):Rat)*vX x j
 | [],x,s,q,_,h=>by
  unfold lI at h
  injection h with h
  simp only[List.length_nil,sq]
  grind
 | n ::l,[],s,q,hl,h=>by simp at hl
 | n ::l,a ::x,s,q,hl,h=>by
  unfold lI at h
  split at h
  ·have h1:=Cd (l:=l) (x:=x) (by simpa using hl) h
   rw[List.length_cons,Ax,h1]
   have e1:∀j,(n ::l).getD (j+1) 0=l.getD j 0:=fun j=>rfl
   have e2:∀j,vX (a ::x) (j+1)=vX x j:=fun j=>rfl
   simp only[e1,e2]
   have e3:((n ::l).getD 0 0:Int)=n:=rfl
   have e4:vX (a ::x) 0=qv a:=rfl
   rw[e3,e4]
   grind
  ·cases h
theorem Hf {l:List Int} {x:List Fq} (hl:l.length<=x.length) (h:(lI l x 0).isSome=true):(lI l x 0).getD 0=sq l.length fun j=>((l.getD j 0:Int):Rat)*vX x j:=by
 cases hq:lI l x 0 with
 | none=>rw[hq] at h;cases h
 | some q =>
  have:=Cd hl hq
  rw[Option.getD_some,this]
  grind
theorem Ff {α:Type} {P:α->Bool} {l:List α} (d:α):l.all P=true↔∀k,k<l.length->P (l.getD k d)=true:=by
 rw[<-tc (p:=P) d,List.all_eq_true]
 exact ⟨fun h k hk=>h k (List.mem_range'.2 ⟨k,hk,by omega⟩),fun h i hi=>by obtain ⟨k,hk,rfl⟩:=List.mem_range'.1 hi;exact h _ (by omega)⟩
theorem My {p:Pg} {x:List Fq} (hl:x.length=p.1.length) (h:(lI p.1 x 0).isSome=true):(lI p.1 x 0).getD 0=(an p).val (vX x):=by
 rw[Hf (by omega) h]
 rfl
theorem vd {f:Nat->Int}:∀{n:Nat},sz (n+1) f=f 0+sz n fun i=>f (i+1)
 | 0=>by simp[sz]
 | n+1=>by
  rw[sz,vd (n:=n)]
  simp only[sz]
  omega
theorem Gr {α:Type} {n:Nat} {f:Nat->α}:bq (n+1) f=f 0 ::bq n fun i=>f (i+1):=by
 unfold bq
 rw[List.range_succ_eq_map,List.map_cons,List.map_map]
 rfl
theorem A8 {d B:Int} (hd:0<d/\d<=1152921504606846976) (hB:B<=1152921504606846976):∀{l:List Int} {X:Nat->Int} {s:Int},(∀j,j<l.length->ab (l.getD j 0*X j)<=B)->(∀i,i<=l.length->ab (s+sz i fun j=>l.getD j 0*X j)<=B) ->
  lI l (bq l.length fun j=>prQ ((X j:Rat) / (d:Rat))) ((s:Rat) / (d:Rat))=some (((s+sz l.length fun j=>l.getD j 0*X j:Int):Rat) / (d:Rat))
 | [],X,s,_,_=>by
  unfold lI
  simp[sz]
 | n ::l,X,s,h1,h2=>by
  have e1:∀j,(n ::l).getD (j+1) 0=l.getD j 0:=fun j=>rfl
  have e0:((n ::l).getD 0 0:Int)=n:=rfl
  have a1:=h1 0 (by simp)
  have a2:=h2 1 (by simp)
  simp only[sz,e0,Int.zero_add] at a1 a2
  rw[List.length_cons,Gr]
  unfold lI
  rw[CH]
  have q1:(n:Rat)*((X 0:Rat) / (d:Rat))=((n*X 0:Int):Rat) / (d:Rat):=by rw[Rat.intCast_mul];grind
  have q2:(s:Rat) / (d:Rat)+((n*X 0:Int):Rat) / (d:Rat)=((s+n*X 0:Int):Rat) / (d:Rat):=by rw[Rat.intCast_add];grind
  have b1:(n*X 0).natAbs<=1152921504606846976:=by rw[wo] at a1;omega
  have b2:(s+n*X 0).natAbs<=1152921504606846976:=by rw[wo] at a2;omega
  rw[q1,q2,if_pos ⟨uU (by omega) b1 (by omega),uU (by omega) b2 (by omega)⟩]
  have ih:=A8 hd hB (l:=l) (X:=fun j=>X (j+1)) (s:=s+n*X 0) (fun j hj=>h1 (j+1) (by simpa using hj)) (fun i hi=>by
   have:=h2 (i+1) (by simpa using hi)
   rw[vd] at this
   simp only[e1,e0] at this
   rw[<-Int.add_assoc] at this
   exact this)
  rw[ih]
  congr 3
  rw[vd]
  simp only[e1,e0]
  omega
theorem D1 {n i:Nat} {a X:Nat->Int} {B:Int} (hi:i<=n) (hB:0<=B) (hX:∀j,j<n->ab (X j)<=B):ab (sz i fun j=>a j*X j)<=(sz n fun j=>ab (a j))*B:=by
 refine Int.le_trans yF ?_
 have h1:(sz i fun j=>ab (a j*X j))<=sz i fun j=>ab (a j)*B:=oh fun j hj=>by
  rw[nZ]
  exact Int.mul_le_mul_of_nonneg_left (hX j (by omega)) (cq _)
 refine Int.le_trans h1 ?_
 rw[zQ]
 refine z11 ?_ hB
 obtain ⟨k,rfl⟩:∃k,n=i+k:=⟨n - i,by omega⟩
 rw[vl]
 have:0<=sz k fun l=>ab (a (i+l)):=ii fun _ _=>cq _
 omega
theorem LP {n j:Nat} {f:Nat->Int} (hj:j<n) (hf:∀i,i<n->0<=f i):f j<=sz n f:=by
 have h1:(sz n fun i=>if i=j then f j else 0)<=sz n f:=oh fun i hi=>by
  by_cases e:i=j
  ·rw[if_pos e,e];exact Int.le_refl _
  ·rw[if_neg e];exact hf i hi
 rw[eB hj fun i _ hne=>if_neg hne,if_pos rfl] at h1
 exact h1
theorem D9 {n j:Nat} {a X:Nat->Int} {B:Int} (hj:j<n) (hB:0<=B) (hX:∀j,j<n->ab (X j)<=B):ab (a j*X j)<=(sz n fun j=>ab (a j))*B:=by
 rw[nZ]
 refine Int.le_trans (Int.mul_le_mul_of_nonneg_left (hX j hj) (cq _)) (z11 ?_ hB)
 exact LP (f:=fun j=>ab (a j)) hj fun _ _=>cq _
theorem Kh {l:List Int} {X:Nat->Int} {d B:Int} (hd:0<d/\d<=1152921504606846976) (hB:0<=B) (hX:∀j,j<l.length->ab (X j)<=B) (h:(sz l.length fun j=>ab (l.getD j 0))*B<=1152921504606846976) :
  (lI l (bq l.length fun j=>prQ ((X j:Rat) / (d:Rat))) 0).isSome=true:=by
 have h0:(0:Rat)=((0:Int):Rat) / (d:Rat):=by rw[show ((0:Int):Rat)=0 from rfl,Rat.div_def,Rat.zero_mul]
 rw[h0,A8 hd h (fun j hj=>D9 (a:=fun j=>l.getD j 0) hj hB hX) (fun i hi=>by rw[Int.zero_add];exact D1 (a:=fun j=>l.getD j 0) hi hB hX)]
 rfl
section
variable {p:Pg} {S:Sx}
theorem ER (hB:Bnd (an p) (aA p)) (hv:(aA p).Val (an p) S) (j:Nat):0<=tf (an p).m ((aA p).R (an p)) S j/\tf (an p).m ((aA p).R (an p)) S j<=(an p).P:=by
 refine ⟨mg hv j,?_⟩
 have hRw:(aA p).R (an p)<(aA p).w (an p):=by unfold Lay.R Lay.w;omega
 obtain ⟨_,hb⟩:=hB.tabP hv.tb
 unfold tf
 by_cases h:∃i,i<(an p).m/\S.β i=j
 ·obtain ⟨i,hi,e⟩:=h
  rw[eB hi fun k hk hne=>if_neg fun e2=>hne (hv.tb.inj hk hi (by rw[e,e2])),if_pos e]
  have:=hb i _ hi hRw
  omega
 ·rw[fP fun i hi=>if_neg fun e=>h ⟨i,hi,e⟩]
  have:=(an p).P_pos
  omega
theorem Pe (hV:ValidP p) (hf:gX (an p)) (hv:(aA p).Val (an p) S):Il p (xL p S)=true/\(lI p.1 (xL p S) 0).isSome=true:=by
 have hB:=Ee hV hf
 obtain ⟨⟨d1,d2⟩,hb⟩:=hB.tab hv.tb
 have hm:=hV.rows
 have hP:=(an p).P_pos
 have hF0:=(an p).F0_pos
 have hx:∀j,ab (tf (an p).m ((aA p).R (an p)) S j)<=(an p).P:=fun j=>by
  have:=ER hB hv j
  exact tG.2 ⟨by omega,this.2⟩
 have gen:∀{l:List Int} {k:Nat},l.length=p.1.length->k<=p.2.length->(sz p.1.length fun j=>ab (l.getD j 0))<=fac (an p) k->(lI l (xL p S) 0).isSome=true:=fun {l k} hl hk hF=>by
  have h2:=KL hf hk
  have h3:1*((an p).P*fac (an p) k)<=(an p).F0*((an p).P*fac (an p) k):=z11 hF0 (Int.mul_nonneg (by omega) (by have:=zm (an p) k;omega))
  have h5:=Int.mul_assoc (an p).F0 (an p).P (fac (an p) k)
  have h4:=z11 hF (show 0<=(an p).P by omega)
  rw[Int.mul_comm (fac (an p) k)] at h4
  have h1:=Kh (l:=l) (X:=fun j=>tf (an p).m ((aA p).R (an p)) S j) (d:=S.d) (B:=(an p).P) ⟨d1,by omega⟩ (by omega) (fun j _=>hx j) (by rw[hl];omega)
  rw[hl] at h1
  exact h1
 constructor
 ·unfold Il
  rw[Ff rw0]
  intro k hk
  have hr:p.2.getD k rw0 ∈ p.2:=by rw[bN hk];exact List.getElem_mem _
  refine gen (k:=k+1) (hV.len _ hr) (by omega) ?_
  show _<=1+ab (p.2.getD k rw0).2.2+sz p.1.length (fun j=>ab ((p.2.getD k rw0).1.getD j 0))
  have:=cq (p.2.getD k rw0).2.2
  omega
 ·refine gen (k:=0) rfl (by omega) ?_
  show _<=1+sz p.1.length (fun j=>ab (p.1.getD j 0))
  omega
theorem CK {n:Nat} {f:Nat->Rat} {j:Nat} (hj:j<n):vX (bq n fun j=>prQ (f j)) j=f j:=by
 unfold vX
 rw[ba hj,CH]
theorem MG {n:Nat} {f:Nat->Rat} (h:∀j,j<n->io (f j)):∀a ∈ bq n (fun j=>prQ (f j)),okF a:=fun a ha=>by
 unfold bq at ha
 obtain ⟨j,hj,rfl⟩:=List.mem_map.1 ha
 exact EG (h j (List.mem_range.1 hj))
theorem Qz (hV:ValidP p) (hf:gX (an p)) (hv:(aA p).Val (an p) S):∀a ∈ xL p S,okF a:=MG fun j _=>by
 have hB:=Ee hV hf
 obtain ⟨⟨d1,d2⟩,_⟩:=hB.tab hv.tb
 have:=ER hB hv j
 have:=hB.P'
 exact uU (by omega) (by omega) (by omega)
theorem Dn.Lin.Feas.congr {L:Lin} {x x':Nat->Rat} (h:∀j,j<L.n->x j=x' j) (hx:L.Feas x):L.Feas x':=by
 have hr:∀k,L.row x' k=L.row x k:=fun k=>dC fun j hj=>by rw[h j hj]
 exact ⟨fun j hj=>by rw[<-h j hj];exact hx.pos j hj,fun k hk h2=>by rw[hr];exact hx.most k hk h2,fun k hk h2=>by rw[hr];exact hx.least k hk h2⟩
theorem Dn.Lin.Sgn.congr {L:Lin} {y y':Nat->Rat} (h:∀k,k<L.m->y k=y' k) (hy:L.Sgn y):L.Sgn y' :=
 ⟨fun k hk e=>by rw[<-h k hk];exact hy.most k hk e,fun k hk e=>by rw[<-h k hk];exact hy.least k hk e⟩
theorem Dn.Lin.col_congr {L:Lin} {y y':Nat->Rat} (h:∀k,k<L.m->y k=y' k) (j:Nat):L.col y' j=L.col y j:=dC fun k hk=>by rw[h k hk]
theorem Dn.Lin.rhs_congr {L:Lin} {y y':Nat->Rat} (h:∀k,k<L.m->y k=y' k):L.rhs y'=L.rhs y:=dC fun k hk=>by rw[h k hk]
theorem Dn.Lin.val_congr {L:Lin} {x x':Nat->Rat} (h:∀j,j<L.n->x j=x' j):L.val x'=L.val x:=dC fun j hj=>by rw[h j hj]
theorem LK (hV:ValidP p) (_:gX (an p)) (ho:Opt p S):(an p).Feas (vX (xL p S))/\(an p).Dual (vX (yL p (bU (an p)) S))/\(an p).val (vX (xL p S))=CY p S/\(an p).rhs (vX (yL p (bU (an p)) S))=CY p S:=by
 have hok:=nH hV
 have ex:∀j,j<(an p).n->yK (an p).m ((aA p).R (an p)) S j=vX (xL p S) j:=fun j hj=>(CK hj).symm
 have ey:∀k,k<(an p).m->qX (an p).m (aA p).N (bU (an p)) S (aA p).σ k=vX (yL p (bU (an p)) S) k:=fun k hk=>(CK hk).symm
 have h1:=wm hok ho.val (ho.az.art S)
 have h2:=CU hok ho.val ho.zr
 obtain ⟨h3,h4⟩:=BL hok ho.val
 refine ⟨h1.congr ex,⟨h2.toSgn.congr ey,fun j hj=>?_⟩,?_,?_⟩
 ·rw[Lin.col_congr ey];exact h2.col j hj
 ·rw[Lin.val_congr ex];exact h3
 ·rw[Lin.rhs_congr ey];exact h4
theorem CR (hV:ValidP p) (ho:Infeas p S):(an p).Ref (vX (yL p (fp (aA p).N) S)):=by
 have hok:=nH hV
 have ey:∀k,k<(an p).m->qX (an p).m (aA p).N (fp (aA p).N) S (aA p).σ k=vX (yL p (fp (aA p).N) S) k:=fun k hk=>(CK hk).symm
 have h2:=GY hok ho.val ho.zr ho.pos
 refine ⟨h2.toSgn.congr ey,fun j hj=>?_,?_⟩
 ·rw[Lin.col_congr ey];exact h2.col j hj
 ·rw[Lin.rhs_congr ey];exact h2.rhs
end
theorem G8 {p:Pg} (h:ValidP p) (hf:¬ gX (an p)):aw p=some (om,5,()):=by
 unfold aw iG
 rw[xu,obN,vK.2 h]
 simp only[Bool.not_true,cF]
 rw[Aw h,obN,z8 hf]
 rfl
structure BndR (L:Lin) (Y:Lay):Prop where
 ok:Y.ok L
 m:L.m<=6
 w:Y.w L<=25
 P:L.F0*L.P<=536870912
section
variable {L:Lin} {Y:Lay}
theorem BndR.P' (h:BndR L Y):L.P<=536870912:=by
 have h1:=L.F0_pos
 have h2:=L.P_pos
 have h3:1*L.P<=L.F0*L.P:=z11 h1 (by omega)
 have:=h.P
 omega
theorem BndR.tab (h:BndR L Y) {T:Nat->Nat->Int} {d:Int} {β:Nat->Nat} (ht:Tb L.m (Y.w L) (Y.M L) T d β):(0<d/\d<=536870912)/\∀i j,i<L.m->j<Y.w L->(T i j).natAbs<=536870912/\((T i j).natAbs:Int)<=L.P:=by
 obtain ⟨h1,h2⟩:=o5 h.ok ht
 have h3:=h.P'
 refine ⟨⟨ht.dpos,by omega⟩,fun i j hi hj=>?_⟩
 have:=h2 i j hi hj
 rw[wo] at this
 omega
structure Wc (L:Lin) (Y:Lay) (wc:Nat->Int):Prop where
 small:∀j x,(x.natAbs:Int)<=L.P-> -536870912<=wc j*x/\wc j*x<=536870912
end
section
variable {L:Lin} {Y:Lay}
theorem Swp.next {i:Nat} {S:Sx} (h:Swp L Y i S) (hr:Y.N<=S.β i->∀j,j<Y.N->S.T i j=0):Swp L Y (i+1) S :=
 ⟨h.val,h.right,fun k hk hlt hb j hj=>by
  by_cases e:k=i
  ·subst e;exact hr hb j hj
  ·exact h.rows k hk (by omega) hb j hj⟩
end
section
variable {p:Pg}
end
section
variable {L:Lin} {Y:Lay}
end
def MZ (p:Pg) (a:Fq×List Fq×List Fq) (e:Int):Prop :=
 (e=5/\a=om/\¬ gX (an p))\/(e=22/\a=om/\gX (an p)/\∃y,(an p).Ref y) \/
 (e=21/\a=om/\gX (an p)/\(∃x,(an p).Feas x)/\∃r,(an p).Ray r) \/
 (e=0/\gX (an p)/\∃v,a.1=prQ v/\io v/\a.2.1.length=p.1.length/\(∀x ∈ a.2.1,okF x)/\Il p a.2.1=true/\(lI p.1 a.2.1 0).isSome=true/\(an p).Feas (vX a.2.1)/\(∃y,(an p).Dual y/\(an p).rhs y=v)/\(an p).val (vX a.2.1)=v)
theorem Ku {p:Pg} (hV:ValidP p):∃a e,aw p=some (a,e,())/\MZ p a e:=by
 by_cases hf:gX (an p)
 ·have hok:=nH hV
  rcases JQ hV hf with ⟨S,h1,h2⟩ | ⟨S,q,h1,h2⟩ | ⟨S,h1,h2⟩
  ·exact ⟨_,_,h2,.inr (.inl ⟨rfl,rfl,hf,_,CR hV h1⟩)⟩
  ·exact ⟨_,_,h2,.inr (.inr (.inl ⟨rfl,rfl,hf,⟨_,wm hok h1.val (h1.az.art S)⟩,_,FM hok h1.val h1.lt (h1.az.col S h1.lt) h1.neg h1.no⟩))⟩
  ·obtain ⟨a1,a2,a3,a4⟩:=LK hV hf h1
   obtain ⟨f1,f2⟩:=Pe hV hf h1.val
   have hl:(xL p S).length=p.1.length:=aE
   have hv:=My (p:=p) (x:=xL p S) hl f2
   have hq:io (CY p S):=by
    rw[<-a3,<-hv]
    exact Ms
   exact ⟨_,_,h2,.inr (.inr (.inr ⟨rfl,hf,CY p S,rfl,hq,hl,Qz hV hf h1.val,f1,f2,a1,⟨_,a2,a4⟩,a3⟩))⟩
 ·exact ⟨_,_,G8 hV hf,.inl ⟨rfl,rfl,hf⟩⟩
theorem yS (s:Sy) (c:List Int) (hl:c.length=s.2.length):an (dt s c)=⟨s.2.length,s.1.length,fun k j=>((bq s.1.length (lS s)).getD k rw0).1.getD j 0,fun k=>((bq s.1.length (lS s)).getD k rw0).2.2,fun j=>c.getD j 0,fun k=>((bq s.1.length (lS s)).getD k rw0).2.1⟩:=by
 unfold an dt
 simp only[hl,aE]
def EqS (s:Sy) (x:Nat->Rat):Prop:=∀i,i<s.1.length->(sq s.2.length fun j=>((Mx s i j:Int):Rat)*x j)=((bwS s i:Int):Rat)
theorem jE {s:Sy} {c:List Int} (hl:c.length=s.2.length) {x:Nat->Rat}:(an (dt s c)).Feas x↔(∀j,j<s.2.length->0<=x j)/\EqS s x:=by
 rw[yS s c hl]
 have er:∀i,i<s.1.length->(⟨s.2.length,s.1.length,fun k j=>((bq s.1.length (lS s)).getD k rw0).1.getD j 0,fun k=>((bq s.1.length (lS s)).getD k rw0).2.2,fun j=>c.getD j 0,fun k=>((bq s.1.length (lS s)).getD k rw0).2.1⟩:Lin).row x i=sq s.2.length fun j=>((Mx s i j:Int):Rat)*x j:=fun i hi=>by
  unfold Lin.row
  refine dC fun j hj=>?_
  simp only[ba hi,lS,ba hj]
 constructor
 ·rintro ⟨h1,h2,h3⟩
  refine ⟨h1,fun i hi=>?_⟩
  have hk:((bq s.1.length (lS s)).getD i rw0).2.1=3:=by rw[ba hi];rfl
  have hb:((bq s.1.length (lS s)).getD i rw0).2.2=bwS s i:=by rw[ba hi];rfl
  have a1:=h2 i hi (by simp only[hk];omega)
  have a2:=h3 i hi (by simp only[hk];omega)
  rw[er i hi] at a1 a2
  simp only[hb] at a1 a2
  exact Rat.le_antisymm a1 a2
 ·rintro ⟨h1,h2⟩
  refine ⟨h1,fun i hi _=>?_,fun i hi _=>?_⟩
  ·have hb:((bq s.1.length (lS s)).getD i rw0).2.2=bwS s i:=by rw[ba hi];rfl
   rw[er i hi,h2 i hi]
   simp only[hb]
   exact Rat.le_refl
  ·have hb:((bq s.1.length (lS s)).getD i rw0).2.2=bwS s i:=by rw[ba hi];rfl
   rw[er i hi,h2 i hi]
   simp only[hb]
   exact Rat.le_refl
theorem QD {s:Sy} {c:List Int}:(an (dt s c)).F0=1+sz c.length fun j=>ab (c.getD j 0):=rfl
theorem MD {s:Sy} {c c':List Int} (hl:c.length=s.2.length) (hl':c'.length=s.2.length) (h:(an (dt s c)).F0=(an (dt s c')).F0):fac (an (dt s c))=fac (an (dt s c')):=by
 funext k
 cases k with
 | zero=>exact h
 | succ k =>
  simp only[fac]
  rw[yS s c hl,yS s c' hl']
  rfl
theorem Hu {s:Sy} {c c':List Int} (hl:c.length=s.2.length) (hl':c'.length=s.2.length) (h:(an (dt s c)).F0=(an (dt s c')).F0):gX (an (dt s c))↔gX (an (dt s c')):=by
 unfold gX
 rw[MD hl hl' h,show (an (dt s c)).m=(an (dt s c')).m from rfl]
theorem BK {s:Sy} {k:Nat} {c:Int} (hk:k<s.2.length) (hc:ab c=1):(an (dt s (fU s k c))).F0=2:=by
 rw[QD,fc,eB (k:=k) hk fun i hi hne=>?_,pU hk,if_pos rfl,hc]
 ·rfl
 ·rw[pU hi,if_neg (Ne.symm hne)]
  rfl
theorem iV {s:Sy}:(nc s).length=s.2.length:=by unfold nc;rw[List.length_replicate]
theorem J4 {s:Sy} (h:gY s=true) {a:Fq×List Fq×List Fq} {e:Int} (hs:aw (dt s (nc s))=some (a,e,())):aN s=some (bif decide (e=0) then a.2.1 else [],e,()):=by
 unfold aN nV
 rw[IG h,ai,hs]
 by_cases he:e=0
 ·subst he;rfl
 ·simp only[z8 he,ai]
  rfl
theorem Ra (s:Sy) (n:ByteArray) (hl:s.2.length<=1000000):bI s.2 (fun x=>dJ x.1 n)=some (frI s n):=by
 simp only[dJ,kC,pF]
 unfold bI gG
 exact nM (f:=fun x:Rp×Unit=>some (decide (x.1.1=n))) (p:=fun r:Rp=>decide (r.1=n)) (d:=rp0) hl (fun a _=>rfl)
theorem FH {s:Sy} (h:gY s=true) {n:ByteArray} {k:Nat} (hn:frI s n=(k:Int)) (hk:k<s.2.length) {a:Fq×List Fq×List Fq} {e:Int} (hs:aw (dt s (fU s k 1))=some (a,e,())):bv s n=some (bif decide (e=0) then a.1 else (0,0),e,()):=by
 have hr:=(gF h).rl
 unfold bv mH
 rw[pP,ai,h,Ra s n (by omega),ai,hn,z8 (show ¬ (k:Int)<0 by omega),zl h hk]
 by_cases he:e=0
 ·subst he
  simp only[Bool.not_true,cF,ai,hs]
  rfl
 ·simp only[Bool.not_true,cF,ai,hs,z8 he]
  rfl
def eT (s:Sy) (z:Nat->Bool):Nat->List ByteArray
 | 0=>[]
 | k+1=>if z k then eT s z k++[rnS s k] else eT s z k
theorem nJ {s:Sy} {z:Nat->Bool}:∀k,(eT s z k).length<=k
 | 0=>Nat.le_refl _
 | k+1=>by
  have:=nJ (s:=s) (z:=z) k
  simp only[eT]
  split
  ·rw[List.length_append,List.length_singleton];omega
  ·omega
theorem r0 {s:Sy} {z z':Nat->Bool}:∀{k:Nat},(∀j,j<k->z j=z' j)->eT s z k=eT s z' k
 | 0,_=>rfl
 | k+1,h=>by
  simp only[eT]
  rw[h k (by omega),r0 fun j hj=>h j (by omega)]
theorem F8 {s:Sy} (h:gY s=true) {A:Nat->Fq×List Fq×List Fq} {E:Nat->Int} (hs:∀k,k<s.2.length->aw (dt s (fU s k (-1)))=some (A k,E k,())) (hE:∀k,k<s.2.length->E k=0\/E k=21) :
  aW s=some (eT s (fun k=>decide (E k=0)&&decide ((A k).1.1=0)) s.2.length,0,()):=by
 have hr:=(gF h).rl
 unfold aW ka
 rw[pP,ai,h]
 simp only[Bool.not_true,cF]
 refine cO s.2.length (by omega) (fun k=>(eT s (fun k=>decide (E k=0)&&decide ((A k).1.1=0)) k,(k:Int),PUnit.unit)) _ rfl (fun again k hk=>?_) (fun again=>?_)
 ·have hlen:=nJ (s:=s) (z:=fun k=>decide (E k=0)&&decide ((A k).1.1=0)) k
  simp only[aR,z7 hk,z7 (show (k:Int)<s.2.length by omega),cT,z9,zl h hk,ai,hs k hk,eg (show k<=1000000 by omega),decide_true,Bool.not_true,cF]
  simp only[eT]
  have d1:decide ((0:Int)=21)=false:=rfl
  rcases hE k hk with e | e
  ·by_cases c:(A k).1.1=0
   ·rw[if_pos (by rw[z7 c,z7 e];rfl)]
    simp only[e,d1,decide_true,Bool.not_true,cF,z7 c,cT,dV (show ((eT s (fun k=>decide (E k=0)&&decide ((A k).1.1=0)) k).length+1)*16<=140737488355328 by omega)]
    rfl
   ·rw[if_neg (by rw[z8 c,Bool.and_false];exact Bool.false_ne_true)]
    simp only[e,d1,decide_true,Bool.not_true,cF,z8 c]
  ·rw[if_neg (by rw[z10];exact fun h=>absurd (z12 h.1) (by omega))]
   simp only[e,decide_true,cT]
 ·simp only[z8 (show ¬ (s.2.length:Int)<s.2.length by omega),cF]
theorem wq {s:Sy} (h:gY s=true) {A:Nat->Fq×List Fq×List Fq} {e:Int} (he:e≠0/\e≠21) (hs:∀k,k<s.2.length->aw (dt s (fU s k (-1)))=some (A k,e,())):aW s=some ([],e,()):=by
 have hr:=(gF h).rl
 unfold aW ka
 rw[pP,ai,h]
 simp only[Bool.not_true,cF]
 refine cO 0 (by omega) (fun k=>([],(k:Int),PUnit.unit)) _ rfl (fun again k hk=>absurd hk (by omega)) (fun again=>?_)
 have h1:=zl h (k:=0) (by omega) (-1)
 have h2:=hs 0 (by omega)
 simp only[aR,z7 (show 0<s.2.length by omega),z7 (show ((0:Nat):Int)<s.2.length by omega),cT,h1,ai,h2,decide_true,Bool.not_true,cF,z8 he.1,z8 he.2,Bool.not_false]
theorem Oa {P:Nat->Pg} {n:Nat} (h:∀k,k<n->ValidP (P k)):∃(A:Nat->Fq×List Fq×List Fq) (E:Nat->Int),∀k,k<n->aw (P k)=some (A k,E k,())/\MZ (P k) (A k) (E k):=by
 refine ⟨fun k=>((aw (P k)).getD (om,0,())).1,fun k=>((aw (P k)).getD (om,0,())).2.1,fun k hk=>?_⟩
 obtain ⟨a,e,h1,h2⟩:=Ku (h k hk)
 show aw (P k)=some (((aw (P k)).getD (om,0,())).1,((aw (P k)).getD (om,0,())).2.1,())/\MZ (P k) ((aw (P k)).getD (om,0,())).1 ((aw (P k)).getD (om,0,())).2.1
 rw[h1]
 exact ⟨rfl,h2⟩
theorem Nr {q:Rat}:(prQ q).1=0↔q=0:=Rat.num_eq_zero
theorem Fw (l:List Fq) (hl:l.length<=1000000):bF l=some (l.all fun a=>!decide (a.1<0)):=by
 simp only[bF,jN]
 refine (pR (p:=fun a:Fq=>!decide (a.1<0)) (d:=(0,0)) (l:=l) (no:=some false) (yes:=some true) hl ?_ ?_).trans ?_
 ·intro again i hi
  simp only[aR,z7 hi,z7 (show (i:Int)<l.length by omega),cT,z9,eg (show i<=1000000 by omega)]
  cases decide ((l.getD i (0,0)).1<0)<;>rfl
 ·intro again
  simp only[z8 (show ¬ (l.length:Int)<l.length by omega),cF]
 ·cases l.all (fun a=>!decide (a.1<0))<;>rfl
theorem Ez {l:List Fq} (ho:∀a ∈ l,okF a):(l.all fun a=>!decide (a.1<0))=true↔∀j,j<l.length->0<=vX l j:=by
 rw[Ff (0,0)]
 constructor
 ·intro h j hj
  have h1:=h j hj
  rw[Bool.not_eq_true',decide_eq_false_iff_not] at h1
  exact (vO (ho _ (by rw[bN hj];exact List.getElem_mem _))).2 (by omega)
 ·intro h j hj
  have h1:=(vO (ho (l.getD j (0,0)) (by rw[bN hj];exact List.getElem_mem _))).1 (h j hj)
  rw[Bool.not_eq_true',decide_eq_false_iff_not]
  omega
theorem D7 {s:Sy} {r:Nat->Rat} (h:(an (dt s (nc s))).Ray r):False:=by
 have h1:=h.val
 have h2:0<=(an (dt s (nc s))).val r:=FL fun j hj=>by
  have hj':j<s.2.length:=by have:j<(nc s).length:=hj;rw[iV] at this;exact this
  have e:(an (dt s (nc s))).c j=1:=by
   show (nc s).getD j 0=1
   rw[bN (by rw[iV];exact hj')]
   unfold nc
   exact List.getElem_replicate _
  rw[e]
  have:=h.pos j hj
  grind
 grind
theorem Fi:∀{n:Nat} {f:Nat->Rat} {k:Nat},k<n->(∀i,i<n->i≠k->f i=0)->sq n f=f k
 | n+1,f,k,hk,h=>by
  simp only[sq]
  by_cases e:k=n
  ·subst e
   rw[kS fun i hi=>h i (by omega) (by omega),Rat.zero_add]
  ·rw[Fi (k:=k) (by omega) fun i hi hne=>h i (by omega) hne,h n (by omega) (fun h=>e h.symm),Rat.add_zero]
theorem wC {s:Sy} {k:Nat} {c:Int} (hk:k<s.2.length) (x:Nat->Rat):(an (dt s (fU s k c))).val x=(c:Rat)*x k:=by
 have e:(an (dt s (fU s k c))).val x=sq s.2.length fun j=>(((fU s k c).getD j 0:Int):Rat)*x j:=by
  show (sq (fU s k c).length fun j=>(((fU s k c).getD j 0:Int):Rat)*x j)=_
  rw[fc]
 rw[e,Fi (k:=k) hk fun i hi hne=>?_,pU hk,if_pos rfl]
 rw[pU hi,if_neg (Ne.symm hne)]
 exact Rat.zero_mul _
theorem Oo {s:Sy} (hV:ValidS s) {k:Nat} (hk:k<s.2.length):frI s (rnS s k)=(k:Int):=by
 rcases G1 s (rnS s k) with ⟨_,h⟩ | ⟨i,h1,h2,h3⟩
 ·exact (h k hk rfl).elim
 ·rw[h2,hV.rinj i k h1 hk h3]
theorem Dj {s:Sy} {k:Nat} (hk:k<s.2.length) {r:Nat->Rat} (h:(an (dt s (fU s k 1))).Ray r):False:=by
 have h1:=h.val
 rw[wC hk] at h1
 have h2:=h.pos k (by show k<(fU s k 1).length;rw[fc];exact hk)
 have h3:((1:Int):Rat)=1:=rfl
 rw[h3] at h1
 grind
theorem Ak {s:Sy} {c:List Int} (hc:c.length=s.2.length) {x:Nat->Rat} (hE:EqS s x) (hp:∀j,j<s.2.length->0<=x j) {a:Fq×List Fq×List Fq} {e:Int} (h:MZ (dt s c) a e):e≠22/\(e=0->∃v,a.1=prQ v/\io v/\v<=(an (dt s c)).val x):=by
 have hF:=(jE hc).2 ⟨hp,hE⟩
 rcases h with ⟨h,_⟩ | ⟨_,_,_,y,hy⟩ | ⟨h,_⟩ | ⟨h,_,v,h1,hfv,_,_,_,_,_,⟨y,hy,hyv⟩,_⟩
 ·exact ⟨by omega,fun e=>by omega⟩
 ·exact (hy.none hF).elim
 ·exact ⟨by omega,fun e=>by omega⟩
 ·refine ⟨by omega,fun _=>⟨v,h1,hfv,?_⟩⟩
  have:=Lin.weak hF hy
  rwa [hyv] at this
theorem Hx {α:Type} [DecidableEq α] (d:α) {l m:List α} (h:l.length=m.length):(List.range' 0 l.length).all (fun i=>decide (l.getD i d=m.getD i d))=decide (l=m):=by
 rw[Bool.eq_iff_iff,decide_eq_true_iff,List.all_eq_true]
 constructor
 ·intro hh
  refine List.ext_getElem h fun i h1 h2=>?_
  have:=z12 (hh i (nI h1))
  rw[bN h1,bN h2] at this
  exact this
 ·rintro rfl i _
  exact z7 rfl
theorem Cm {α:Type} [DecidableEq α] (d:α) {l m:List α} (h:l.length=m.length) (hl:l.length<=1000000) {F:(Int×PUnit->Option Bool)->Int×PUnit->Option Bool}
  (hb:∀again (i:Nat),i<l.length->F again ((i:Int),PUnit.unit)=bif decide (l.getD i d=m.getD i d) then again (((i+1:Nat):Int),PUnit.unit) else some false) (hf:∀again,F again ((l.length:Int),PUnit.unit)=some true) :
  lpK (Int×PUnit) Bool F ((0:Int),PUnit.unit)=some (decide (l=m)):=by
 refine (sP (α:=Int×PUnit) l.length (by omega) (fun i (_:Unit)=>((i:Int),PUnit.unit)) (fun i s k=>bif decide (l.getD i d=m.getD i d) then k s else some false) (fun _=>some true) ?_ ?_ ()).trans ?_
 ·intro again i _ hi
  exact hb again i hi
 ·intro again _
  exact hf again
 ·rw[pG l.length (fun i k _=>rfl) l.length 0 (by omega),Hx d h]
  cases decide (l=m)<;>rfl
theorem L2 (l m:List ByteArray) (hl:l.length<=1000000):aO l m=some (decide (l=m)):=by
 simp only[aO,jr,pF]
 by_cases h:l.length=m.length
 ·rw[z7 (show (l.length:Int)=m.length by omega)]
  simp only[Bool.not_true,cF]
  refine Cm { data:={ toList:=[] } } h hl (fun again i hi=>?_) (fun again=>?_)
  ·simp only[aR,z7 hi,z7 (show i<m.length by omega),z7 (show (i:Int)<l.length by omega),cT,z9,eg (show i<=1000000 by omega)]
   cases decide (List.getD l i { data:={ toList:=[] } }=List.getD m i { data:={ toList:=[] } })<;>rfl
  ·simp only[z8 (show ¬ (l.length:Int)<l.length by omega),cF]
 ·rw[z8 (show ¬ (l.length:Int)=m.length by omega),z8 fun e=>h (by rw[e])]
  rfl
theorem LM (a b:Fq):(decide (a.1=b.1)&&(decide (a.2=b.2)&&true))=decide (a=b):=by
 rw[Bool.eq_iff_iff,z10,Bool.and_true,decide_eq_true_iff,decide_eq_true_iff,decide_eq_true_iff]
 exact ⟨fun h=>Prod.ext h.1 h.2,fun h=>by rw[h];exact ⟨rfl,rfl⟩⟩
theorem oC {x:Int} (h1: -9223372036854775808<x) (h2:x<9223372036854775808):cv x=some (x.natAbs:Int):=by
 simp only[cv,kA]
 rw[a7 (x:=0 - x) (by omega) (by omega)]
 by_cases h:0 - x>x
 ·rw[if_pos h,IntKind.wrap_u64,Int.emod_eq_of_lt (by omega) (by omega)]
  congr 1
  omega
 ·rw[if_neg h,IntKind.wrap_u64,Int.emod_eq_of_lt (by omega) (by omega)]
  congr 1
  omega
theorem JF {e q:Int} {neg:Bool} {n:Nat} (he:e≠0) (hq:q.natAbs<4611686018427387904) (hx:e*q=bif neg then -(n:Int) else n) :
  n=e.natAbs*q.natAbs/\(bif !decide (neg=decide (e<0)) then -(q.natAbs:Int) else (q.natAbs:Int))=q:=by
 have h1:n=e.natAbs*q.natAbs:=by
  rw[<-Int.natAbs_mul,hx]
  cases neg
  ·rw[cond_false];omega
  ·rw[cond_true];omega
 refine ⟨h1,?_⟩
 by_cases hq0:q=0
 ·subst hq0
  cases (!decide (neg=decide (e<0)))<;>rfl
 ·by_cases h2:e<0
  ·rw[z7 h2]
   by_cases h3:q<0
   ·have:=Int.mul_pos_of_neg_of_neg h2 h3
    cases neg
    ·show -(q.natAbs:Int)=q
     omega
    ·exfalso;rw[hx,cond_true] at this;omega
   ·have:=Int.mul_neg_of_neg_of_pos h2 (show 0<q by omega)
    cases neg
    ·exfalso;rw[hx,cond_false] at this;omega
    ·show (q.natAbs:Int)=q
     omega
  ·rw[z8 h2]
   by_cases h3:q<0
   ·have:=Int.mul_neg_of_pos_of_neg (show 0<e by omega) h3
    cases neg
    ·exfalso;rw[hx,cond_false] at this;omega
    ·show -(q.natAbs:Int)=q
     omega
   ·have:=Int.mul_pos (show 0<e by omega) (show 0<q by omega)
    cases neg
    ·show (q.natAbs:Int)=q
     omega
    ·exfalso;rw[hx,cond_true] at this;omega
theorem vh {e q:Int} {neg:Bool} {n:Nat} (he:e≠0) (he2:e.natAbs<4611686018427387904) (hq:q.natAbs<4611686018427387904) (hx:e*q=bif neg then -(n:Int) else n) :
  (aa (cv e) fun (t:Int)=>aa (bH (hl n).1 (hl n).2 t) fun (t:Int×Int×PUnit)=>bif !decide (neg=decide (e<0)) then some (IntKind.wrap .i64 (0 - IntKind.wrap .i64 t.1)) else some (IntKind.wrap .i64 t.1))=some q:=by
 obtain ⟨h1,h2⟩:=JF he hq hx
 have h3:n / 18446744073709551616<e.natAbs:=by
  rw[h1]
  refine (Nat.div_lt_iff_lt_mul (by omega)).2 ?_
  exact Nat.mul_lt_mul_of_pos_left (by omega) (by omega)
 have h4:=AV (h:=n / 18446744073709551616) (l:=n % 18446744073709551616) (y:=e.natAbs) h3 (by omega) (by omega)
 have h5:n / 18446744073709551616*18446744073709551616+n % 18446744073709551616=n:=by omega
 have h6:n / e.natAbs=q.natAbs:=by rw[h1,Nat.mul_div_cancel_left _ (by omega)]
 rw[h5,h6] at h4
 rw[oC (by omega) (by omega),ai]
 unfold hl
 simp only
 rw[h4,ai]
 simp only
 rw[a7 (x:=(q.natAbs:Int)) (by omega) (by omega),a7 (by omega) (by omega)]
 rw[Int.zero_sub]
 generalize hc:(!decide (neg=decide (e<0)))=c at h2 ⊢
 cases c
 ·rw[cond_false] at h2 ⊢
  rw[h2]
 ·rw[cond_true] at h2 ⊢
  rw[h2]
theorem EL (a b:Int):a*b=bif !decide (decide (a<0)=decide (b<0)) then -((a.natAbs*b.natAbs:Nat):Int) else ((a.natAbs*b.natAbs:Nat):Int):=by
 rw[Int.natCast_mul]
 by_cases ha:a<0<;>by_cases hb:b<0
 ·rw[z7 ha,z7 hb]
  show a*b=(a.natAbs:Int)*(b.natAbs:Int)
  rw[show (a.natAbs:Int)= -a by omega,show (b.natAbs:Int)= -b by omega,Int.neg_mul_neg]
 ·rw[z7 ha,z8 hb]
  show a*b= -((a.natAbs:Int)*(b.natAbs:Int))
  rw[show (a.natAbs:Int)= -a by omega,show (b.natAbs:Int)=b by omega,Int.neg_mul,Int.neg_neg]
 ·rw[z8 ha,z7 hb]
  show a*b= -((a.natAbs:Int)*(b.natAbs:Int))
  rw[show (a.natAbs:Int)=a by omega,show (b.natAbs:Int)= -b by omega,Int.mul_neg,Int.neg_neg]
 ·rw[z8 ha,z8 hb]
  show a*b=(a.natAbs:Int)*(b.natAbs:Int)
  rw[show (a.natAbs:Int)=a by omega,show (b.natAbs:Int)=b by omega]
theorem AY {x y:Int} (hx:x.natAbs<4611686018427387904) (hy:y.natAbs<4611686018427387904):x.natAbs*y.natAbs<85070591730234615865843651857942052864:=by
 rw[<-Int.natAbs_mul]
 exact wO hx hy
theorem RP {m n:Nat}:(bif decide ((hl m).1<(hl n).1) then true else bif decide ((hl m).1=(hl n).1) then decide ((hl m).2<(hl n).2) else false)=decide (m<n):=by
 have e1:(hl m).1=(hl n).1↔m / 18446744073709551616=n / 18446744073709551616:=by unfold hl;simp only;omega
 have e2:(hl m).1<(hl n).1↔m / 18446744073709551616<n / 18446744073709551616:=by unfold hl;simp only;omega
 have e4:(hl m).2<(hl n).2↔m % 18446744073709551616<n % 18446744073709551616:=by unfold hl;simp only;omega
 by_cases h:m<n
 ·rw[z7 h]
  by_cases c1:m / 18446744073709551616<n / 18446744073709551616
  ·rw[z7 (e2.2 c1),cond_true]
  ·rw[z8 fun h=>c1 (e2.1 h),cond_false,z7 (e1.2 (by omega)),cond_true,z7 (e4.2 (by omega))]
 ·rw[z8 h,z8 fun h=>by have:=e2.1 h;omega,cond_false]
  by_cases c2:m / 18446744073709551616=n / 18446744073709551616
  ·rw[z7 (e1.2 c2),cond_true,z8 fun h=>by have:=e4.1 h;omega]
  ·rw[z8 fun h=>c2 (e1.1 h),cond_false]
theorem EQ {a b:Int} (ha:a.natAbs<4611686018427387904) (hb:b.natAbs<4611686018427387904):a5 (a.natAbs:Int) (b.natAbs:Int)=some ((hl (a.natAbs*b.natAbs)).1,(hl (a.natAbs*b.natAbs)).2,()):=by
 rw[Py (by omega) (by omega) (by omega) (by omega)]
 unfold hl
 simp only
 rw[<-Int.natCast_mul]
 rfl
theorem H2 {a b c d e q:Int} (ha:a.natAbs<4611686018427387904) (hb:b.natAbs<4611686018427387904) (hc:c.natAbs<4611686018427387904) (hd:d.natAbs<4611686018427387904)
  (he:e≠0) (he2:e.natAbs<4611686018427387904) (hx:e*q=a*b - c*d) (hq:q.natAbs<4611686018427387904):dU a b c d e=some q:=by
 simp only[dU,mr,oC (show -9223372036854775808<a by omega) (show a<9223372036854775808 by omega),oC (show -9223372036854775808<b by omega) (show b<9223372036854775808 by omega),
  oC (show -9223372036854775808<c by omega) (show c<9223372036854775808 by omega),oC (show -9223372036854775808<d by omega) (show d<9223372036854775808 by omega),ai,EQ ha hb,EQ hc hd,pN]
 have hP:=AY ha hb
 have hQ:=AY hc hd
 have h1:=EL a b
 have h2:=EL c d
 have h3:=RP (m:=a.natAbs*b.natAbs) (n:=c.natAbs*d.natAbs)
 obtain ⟨P,hPe⟩:∃P,a.natAbs*b.natAbs=P:=⟨_,rfl⟩
 obtain ⟨Q,hQe⟩:∃Q,c.natAbs*d.natAbs=Q:=⟨_,rfl⟩
 obtain ⟨f,hf⟩:∃f,(!decide (decide (a<0)=decide (b<0)))=f:=⟨_,rfl⟩
 obtain ⟨g,hg⟩:∃g,(!decide (decide (c<0)=decide (d<0)))=g:=⟨_,rfl⟩
 rw[hPe,hf] at h1
 rw[hQe,hg] at h2
 rw[hPe] at hP
 rw[hQe] at hQ
 rw[hPe,hQe] at h3
 simp only[hPe,hQe,hf,hg]
 rw[h1,h2] at hx
 have k1:=qY (m:=P) (n:=Q)
 have k2:=qY (m:=Q) (n:=P)
 have k3:=vu (m:=P) (n:=Q)
 have t0:(decide ((0:Int)<=0)&&decide ((0:Int)<=1))=true:=rfl
 by_cases hfg:f=g
 ·rw[z7 hfg,cond_true]
  have key:∀c18 c17:Bool,(bif (!!c18||!c18)&&(!!c18||!c18) then true else false)=true:=fun c18 c17=>by cases c18<;>rfl
  by_cases hlt:P<Q
  ·rw[z7 hlt] at h3
   have h4:=uK (m:=Q) (n:=P) (by omega) (by omega)
   have h5:=congrArg Prod.fst h4
   have h6:=congrArg Prod.snd h4
   simp only at h5 h6
   simp only[t0,cT,k2,h5,h6]
   have h7:=vh (neg:=!f) (n:=Q - P) he he2 hq (by
    rw[hx,<-hfg]
    cases f
    ·show (P:Int) - Q= -((Q - P:Nat):Int)
     omega
    ·show -(P:Int) - -(Q:Int)=((Q - P:Nat):Int)
     omega)
   rw[h7]
   generalize decide ((hl P).1<(hl Q).1)=c18 at h3 ⊢
   generalize decide ((hl P).1=(hl Q).1)=c17 at h3 ⊢
   generalize decide ((hl P).2<(hl Q).2)=c16 at h3 ⊢
   cases c18<;>cases c17<;>cases c16<;>first | rfl | cases h3
  ·rw[z8 hlt] at h3
   have h4:=uK (m:=P) (n:=Q) (by omega) (by omega)
   have h5:=congrArg Prod.fst h4
   have h6:=congrArg Prod.snd h4
   simp only at h5 h6
   simp only[t0,cT,k1,h5,h6]
   have h7:=vh (neg:=f) (n:=P - Q) he he2 hq (by
    rw[hx,<-hfg]
    cases f
    ·show (P:Int) - Q=((P - Q:Nat):Int)
     omega
    ·show -(P:Int) - -(Q:Int)= -((P - Q:Nat):Int)
     omega)
   rw[h7]
   generalize decide ((hl P).1<(hl Q).1)=c18 at h3 ⊢
   generalize decide ((hl P).1=(hl Q).1)=c17 at h3 ⊢
   generalize decide ((hl P).2<(hl Q).2)=c16 at h3 ⊢
   cases c18<;>cases c17<;>cases c16<;>first | rfl | cases h3
 ·rw[z8 hfg,cond_false]
  have h4:=E4 (m:=P) (n:=Q) (by omega)
  have h5:=congrArg Prod.fst h4
  have h6:=congrArg Prod.snd h4
  simp only at h5 h6
  simp only[t0,cT,k3,h5,h6]
  exact vh (neg:=f) (n:=P+Q) he he2 hq (by
   rw[hx]
   cases f<;>cases g
   ·exact (hfg rfl).elim
   ·show (P:Int) - -(Q:Int)=((P+Q:Nat):Int)
    omega
   ·show -(P:Int) - (Q:Int)= -((P+Q:Nat):Int)
    omega
   ·exact (hfg rfl).elim)
structure TabR (m w:Nat) (L:Nat->Nat->Int) (t:List Nat×List (Option (List Int))):Prop where
 len:t.1.length=m
 cell:∀i,i<m->t.2.getD (t.1.getD i 0) none=some (bq w (L i))
 inj:∀i j,i<m->j<m->t.1.getD i 0=t.1.getD j 0->i=j
section
variable {m w:Nat} {L L':Nat->Nat->Int} {t:List Nat×List (Option (List Int))}
theorem TabR.row (h:TabR m w L t) {i:Nat} (hi:i<m):af t.2 (t.1.getD i 0)=bq w (L i):=by unfold af;rw[h.cell i hi];rfl
theorem TabR.live (h:TabR m w L t) {i:Nat} (hi:i<m):dL t.2 (t.1.getD i 0)=true:=by unfold dL;rw[h.cell i hi];rfl
theorem TabR.id_lt (h:TabR m w L t) {i:Nat} (hi:i<m):t.1.getD i 0<t.2.length:=by
 have h1:=h.cell i hi
 by_cases h2:t.1.getD i 0<t.2.length
 ·exact h2
 ·rw[List.getD_eq_getElem?_getD,List.getElem?_eq_none (by omega)] at h1
  cases h1
theorem TabR.congr (h:TabR m w L t) (e:∀i j,i<m->j<w->L i j=L' i j):TabR m w L' t :=
 ⟨h.len,fun i hi=>by rw[h.cell i hi,cD fun j hj=>e i j hi hj],h.inj⟩
theorem TabR.all (h:TabR m w L t):(t.1.all fun x=>dL t.2 x)=true:=by
 rw[List.all_eq_true]
 intro x hx
 obtain ⟨i,hi,he⟩:=List.mem_iff_getElem.1 hx
 have hi':i<m:=by rw[<-h.len];exact hi
 have:=h.live hi'
 rw[bN hi,he] at this
 exact this
theorem TabR.map (h:TabR m w L t):t.1.map (fun x=>af t.2 x)=kw m w L:=by
 refine List.ext_getElem (by rw[List.length_map,h.len,dD]) fun i h1 h2=>?_
 have hi:i<m:=by rw[dD] at h2;exact h2
 have hi':i<t.1.length:=by rw[h.len];exact hi
 have e1:=h.row hi
 rw[bN hi'] at e1
 rw[List.getElem_map,e1]
 have e2:=gx (w:=w) (T:=L) hi
 rw[bN h2] at e2
 exact e2.symm
theorem TabR.put (h:TabR m w L t) {i j:Nat} {x:Int} (hi:i<m) (hj:j<w) (e:∀k l,k<m->l<w->(if k=i/\l=j then x else L k l)=L' k l) :
  TabR m w L' (t.1,t.2.set (t.1.getD i 0) (some ((bq w (L i)).set j x))):=by
 refine ⟨h.len,fun k hk=>?_,h.inj⟩
 show (t.2.set (t.1.getD i 0) (some ((bq w (L i)).set j x))).getD (t.1.getD k 0) none=_
 have hl:=h.id_lt hi
 rw[List.getD_eq_getElem?_getD,List.getElem?_set]
 by_cases c:i=k
 ·subst c
  rw[if_pos rfl,if_pos hl,ja hj]
  show some _=some _
  congr 1
  refine cD fun l hl=>?_
  rw[<-e i l hi hl]
  by_cases c2:l=j
  ·rw[if_pos c2,if_pos ⟨rfl,c2⟩]
  ·rw[if_neg c2,if_neg fun h=>c2 h.2]
 ·rw[if_neg fun h'=>c (h.inj i k hi hk h'),<-List.getD_eq_getElem?_getD,h.cell k hk]
  congr 1
  refine cD fun l hl=>?_
  rw[<-e k l hk hl,if_neg fun h=>c h.1.symm]
def swp (a b i:Nat):Nat:=if i=a then b else if i=b then a else i
theorem ux (a b i:Nat):swp a b (swp a b i)=i:=by unfold swp;(repeat' split)<;>omega
theorem o9 {a b i:Nat} (ha:a<m) (hb:b<m) (hi:i<m):swp a b i<m:=by unfold swp;(repeat' split)<;>omega
theorem Ko {l:List Nat} {a b i:Nat} (ha:a<l.length) (hb:b<l.length):((l.set a (l.getD b 0)).set b (l.getD a 0)).getD i 0=l.getD (swp a b i) 0:=by
 rw[List.getD_eq_getElem?_getD,List.getElem?_set,List.length_set,List.getElem?_set]
 unfold swp
 by_cases c1:i=a
 ·subst c1
  by_cases c2:b=i
  ·subst c2
   rw[if_pos rfl,if_pos ha,if_pos rfl]
   rfl
  ·rw[if_neg c2,if_pos rfl,if_pos ha,if_pos rfl]
   rfl
 ·by_cases c2:b=i
  ·subst c2
   rw[if_pos rfl,if_pos hb,if_neg c1,if_pos rfl]
   rfl
  ·rw[if_neg c2,if_neg (fun h=>c1 h.symm),if_neg c1,if_neg (fun h=>c2 h.symm),List.getD_eq_getElem?_getD]
theorem TabR.swap (h:TabR m w L t) {a b:Nat} (ha:a<m) (hb:b<m):TabR m w (fun i=>L (swp a b i)) ((t.1.set a (t.1.getD b 0)).set b (t.1.getD a 0),t.2++[]++[]):=by
 have e:=fun i=>Ko (l:=t.1) (a:=a) (b:=b) (i:=i) (by rw[h.len];exact ha) (by rw[h.len];exact hb)
 refine ⟨by rw[List.length_set,List.length_set];exact h.len,fun i hi=>?_,fun i j hi hj he=>?_⟩
 ·show (t.2++[]++[]).getD (((t.1.set a (t.1.getD b 0)).set b (t.1.getD a 0)).getD i 0) none=_
  rw[e,List.append_nil,List.append_nil,h.cell _ (o9 ha hb hi)]
 ·have he':((t.1.set a (t.1.getD b 0)).set b (t.1.getD a 0)).getD i 0=((t.1.set a (t.1.getD b 0)).set b (t.1.getD a 0)).getD j 0:=he
  rw[e,e] at he'
  have:=h.inj _ _ (o9 ha hb hi) (o9 ha hb hj) he'
  rw[<-ux a b i,this,ux]
theorem Pu:TabR m w L (fJ m w L):=by
 refine ⟨ff,fun i hi=>?_,fun i j hi hj he=>?_⟩
 ·rw[gV hi]
  exact m8 hi
 ·rw[gV hi,gV hj] at he
  exact he
end
def oB (w:Nat) (N:Nat->Nat->Int):Nat->Nat->Int:=fun i j=>if j<w then N i j else if j=w+i then 1 else 0
section
variable {m w:Nat} {a b:Nat}
theorem Ps {f:Nat->Int} (ha:a<m) (hb:b<m) (hab:a≠b):sz m (fun i=>f (swp a b i))=sz m f:=by
 have e:sz m (fun i=>f (swp a b i))=sz m fun i=>f i+((if i=a then f b - f a else 0)+(if i=b then f a - f b else 0)):=bn fun i hi=>by
  unfold swp
  by_cases h1:i=a
  ·subst h1
   rw[if_pos rfl,if_pos rfl,if_neg hab]
   omega
  ·rw[if_neg h1,if_neg h1]
   by_cases h2:i=b
   ·subst h2
    rw[if_pos rfl,if_pos rfl]
    omega
   ·rw[if_neg h2,if_neg h2]
    omega
 rw[e,mF,mF,eB ha (f:=fun i=>if i=a then f b - f a else 0) (fun i _ hne=>if_neg hne),eB hb (f:=fun i=>if i=b then f a - f b else 0) (fun i _ hne=>if_neg hne)]
 simp only[if_true]
 omega
theorem HF {M:Nat->Nat->Int} {γ:Nat->Nat} (ha:a<m) (hb:b<m) (hab:a≠b):dc m M (fun k=>γ (swp a b k))= - dc m M γ:=by
 have e1:dX M (fun k=>γ (swp a b k))=bP (bP (dX M γ) a fun i=>M i (γ b)) b fun i=>M i (γ a):=by
  funext i k
  show M i (γ (if k=a then b else if k=b then a else k))=if k=b then M i (γ a) else if k=a then M i (γ b) else M i (γ k)
  by_cases h1:k=b
  ·subst h1
   rw[if_neg (Ne.symm hab),if_pos rfl,if_pos rfl]
  ·rw[if_neg h1,if_neg h1]
   by_cases h2:k=a
   ·rw[if_pos h2,if_pos h2]
   ·rw[if_neg h2,if_neg h2]
 have e2:dX M γ=bP (bP (dX M γ) a fun i=>M i (γ a)) b fun i=>M i (γ b):=by
  funext i k
  show M i (γ k)=if k=b then M i (γ b) else if k=a then M i (γ a) else M i (γ k)
  by_cases h1:k=b
  ·rw[if_pos h1,h1]
  ·rw[if_neg h1]
   by_cases h2:k=a
   ·rw[if_pos h2,h2]
   ·rw[if_neg h2]
 have e3:det m (dX M γ)=det m (bP (bP (dX M γ) a fun i=>M i (γ a)) b fun i=>M i (γ b)):=by rw[<-e2]
 unfold dc
 rw[e1,A0 ha hb hab,e3]
theorem Dn.Tb.swap {W:Nat} {M T:Nat->Nat->Int} {d:Int} {β:Nat->Nat} (h:Tb m W M T d β) (ha:a<m) (hb:b<m) (hab:a≠b):Tb m W M (fun i=>T (swp a b i)) d (fun i=>β (swp a b i)):=by
 refine ⟨h.dpos,fun i hi=>h.lt _ (o9 ha hb hi),fun k hk j hj=>?_,?_⟩
 ·rw[Ps (f:=fun i=>T i j*M k (β i)) ha hb hab]
  exact h.co k hk j hj
 ·obtain ⟨σ,h1,h2,h3⟩:=h.cr
  refine ⟨-σ,by rw[Int.neg_mul_neg];exact h1,by rw[HF ha hb hab,Int.neg_mul_neg];exact h2,fun i hi j hj=>?_⟩
  have e:upd (fun i=>β (swp a b i)) i j=fun k=>upd β (swp a b i) j (swp a b k):=by
   funext k
   unfold upd
   by_cases c:k=i
   ·rw[if_pos c,c,if_pos rfl]
   ·rw[if_neg c,if_neg fun h=>c (by rw[<-ux a b k,h,ux])]
  rw[e,HF ha hb hab,Int.neg_mul_neg]
  exact h3 _ (o9 ha hb hi) j hj
end
structure ElBnd (m w c:Nat) (N:Nat->Nat->Int):Prop where
 hm:1<=m/\m<=1000
 hw:w<=1000
 hc:c<=w
 b:∀T d β,Tb m (w+m) (oB w N) T d β->(∀i,i<m->β i<c\/w<=β i)->∀i j,i<m->j<w+m->ab (T i j)<4611686018427387904
structure El (m w c:Nat) (N:Nat->Nat->Int) (C k:Nat) (p:Nat->Nat) (L:Nat->Nat->Int) (e:Int) (T:Nat->Nat->Int) (d:Int) (β:Nat->Nat) (s:Int):Prop where
 tb:Tb m (w+m) (oB w N) T d β
 cc:C<=c
 s1:s=1\/s= -1
 le:∀i j,i<m->j<w->L i j=s*T i j
 de:e=s*d
 km:k<=m
 bp:∀i,i<k->β i=p i/\p i<C
 inc:∀i j,i<j->j<k->p i<p j
 bs:∀i,k<=i->i<m->w<=β i
 z:∀i j,k<=i->i<m->j<C->T i j=0
section
variable {m w c:Nat} {N:Nat->Nat->Int} {C k:Nat} {p:Nat->Nat} {L:Nat->Nat->Int} {e:Int} {T:Nat->Nat->Int} {d:Int} {β:Nat->Nat} {s:Int}
theorem El.first (_:m<=1000):El m w c N 0 0 (fun _=>0) N 1 (oB w N) 1 (fun i=>w+i) 1:=by
 refine ⟨Tb.first (fun i hi=>by omega) (fun k hk i hi=>?_),Nat.zero_le _,.inl rfl,fun i j hi hj=>?_,rfl,Nat.zero_le _,fun i hi=>by omega,fun i j _ hj=>by omega,fun i _ _=>Nat.le_add_right _ _,fun i j _ _ hj=>by omega⟩
 ·unfold oB
  rw[if_neg (by omega)]
  by_cases h:k=i
  ·rw[if_pos (by omega),if_pos h]
  ·rw[if_neg (by omega),if_neg h]
 ·unfold oB
  rw[if_pos hj,Int.one_mul]
theorem El.swap (h:El m w c N C k p L e T d β s) {a b:Nat} (ha:k<=a/\a<m) (hb:k<=b/\b<m) (hab:a≠b):El m w c N C k p (fun i=>L (swp a b i)) e (fun i=>T (swp a b i)) d (fun i=>β (swp a b i)) s:=by
 have hs:∀i,i<k->swp a b i=i:=fun i hi=>by unfold swp;rw[if_neg (by omega),if_neg (by omega)]
 have hs2:∀i,k<=i->k<=swp a b i:=fun i hi=>by unfold swp;(repeat' split)<;>omega
 refine ⟨h.tb.swap ha.2 hb.2 hab,h.cc,h.s1,fun i j hi hj=>h.le _ j (o9 ha.2 hb.2 hi) hj,h.de,h.km,fun i hi=>?_,h.inc,fun i h1 h2=>h.bs _ (hs2 i h1) (o9 ha.2 hb.2 h2),fun i j h1 h2 h3=>h.z _ j (hs2 i h1) (o9 ha.2 hb.2 h2) h3⟩
 show β (swp a b i)=p i/\_
 rw[hs i hi]
 exact h.bp i hi
theorem El.sne (h:El m w c N C k p L e T d β s):s*s=1:=by rcases h.s1 with h | h<;>rw[h]<;>rfl
theorem El.ene (h:El m w c N C k p L e T d β s):e≠0:=by
 have:=h.tb.dpos
 rw[h.de]
 rcases h.s1 with h | h<;>rw[h]<;>omega
theorem El.skip (h:El m w c N C k p L e T d β s) (hC:C<c) (hw:c<=w) (h0:∀i,k<=i->i<m->L i C=0):El m w c N (C+1) k p L e T d β s:=by
 refine ⟨h.tb,hC,h.s1,h.le,h.de,h.km,fun i hi=>⟨(h.bp i hi).1,by have:=(h.bp i hi).2;omega⟩,h.inc,h.bs,fun i j h1 h2 h3=>?_⟩
 by_cases c:j=C
 ·subst c
  have h4:=h.le i j h2 (by omega)
  rw[h0 i h1 h2] at h4
  rcases h.s1 with h5 | h5<;>rw[h5] at h4<;>omega
 ·exact h.z i j h1 h2 (by omega)
def elq (L:Nat->Nat->Int) (e:Int) (r c i j:Nat):Int:=(L i j*L r c - L i c*L r j) / e
def elL (L:Nat->Nat->Int) (e:Int) (r c:Nat):Nat->Nat->Int:=fun i j=>if i=r then L r j else elq L e r c i j
theorem El.exact (h:El m w c N C k p L e T d β s) (hk:k<m) (hC:C<w) {i j:Nat} (hi:i<m) (hne:i≠k) (hj:j<w) :
  e*elq L e k C i j=L i j*L k C - L i C*L k j/\elq L e k C i j=s*piv T d k C i j:=by
 have h1:=iW h.tb hk hi (Ne.symm hne) (show C<w+m by omega) (show j<w+m by omega)
 have h2:L i j*L k C - L i C*L k j=e*(s*piv T d k C i j):=by
  rw[h.le i j hi hj,h.le k C hk hC,h.le i C hi hC,h.le k j hk hj,h.de]
  have h3:=h.sne
  have h4:s*d*(s*piv T d k C i j)=s*s*(d*piv T d k C i j):=by grind
  rw[h4,h1,h3]
  have h5:s*T i j*(s*T k C) - s*T i C*(s*T k j)=s*s*(T k C*T i j - T i C*T k j):=by grind
  rw[h5,h3]
 have h6:elq L e k C i j=s*piv T d k C i j:=by
  unfold elq
  rw[h2,Int.mul_ediv_cancel_left _ h.ene]
 exact ⟨by rw[h6,h2],h6⟩
theorem El.pivot (h:El m w c N C k p L e T d β s) (hk:k<m) (hC:C<c) (hw:c<=w) (h0:L k C≠0) :
  El m w c N (C+1) (k+1) (upd p k C) (elL L e k C) (L k C) (mu T d k C) (sg (T k C)*T k C) (upd β k C) (s*sg (T k C)):=by
 have hT:T k C≠0:=fun h1=>h0 (by rw[h.le k C hk (by omega),h1,Int.mul_zero])
 have hs1:sg (T k C)=1\/sg (T k C)= -1:=by unfold sg;split<;>omega
 refine ⟨h.tb.step hk (by omega) hT,hC,?_,fun i j hi hj=>?_,?_,hk,fun i hi=>?_,fun i j h1 h2=>?_,fun i h1 h2=>?_,fun i j h1 h2 h3=>?_⟩
 ·rcases h.s1 with h1 | h1<;>rcases hs1 with h2 | h2<;>rw[h1,h2]<;>simp
 ·have e0:s*sg (T k C)*(sg (T k C)*(if i=k then T k j else piv T d k C i j))=s*(if i=k then T k j else piv T d k C i j):=by
   have:=DR (T k C)
   grind
  unfold mu
  rw[e0]
  unfold elL
  by_cases c:i=k
  ·rw[if_pos c,if_pos c]
   exact h.le k j hk hj
  ·rw[if_neg c,if_neg c]
   exact (h.exact hk (by omega) hi c hj).2
 ·have:=DR (T k C)
  rw[h.le k C hk (by omega)]
  grind
 ·unfold upd
  by_cases c:i=k
  ·rw[if_pos c,if_pos c]
   exact ⟨rfl,by omega⟩
  ·rw[if_neg c,if_neg c]
   have:=h.bp i (by omega)
   exact ⟨this.1,by omega⟩
 ·unfold upd
  rw[if_neg (by omega)]
  by_cases c:j=k
  ·rw[if_pos c]
   exact (h.bp i (by omega)).2
  ·rw[if_neg c]
   exact h.inc i j h1 (by omega)
 ·unfold upd
  rw[if_neg (by omega)]
  exact h.bs i (by omega) h2
 ·unfold mu
  rw[if_neg (by omega)]
  have h4:T k C*T i j - T i C*T k j=0:=by
   by_cases c:j=C
   ·subst c
    rw[Int.mul_comm]
    omega
   ·rw[h.z i j (by omega) h2 (by omega),h.z k j (Nat.le_refl _) hk (by omega)]
    simp
  unfold piv
  rw[h4]
  simp
theorem El.bound (h:El m w c N C k p L e T d β s) (hB:ElBnd m w c N):(∀i j,i<m->j<w->(L i j).natAbs<4611686018427387904)/\e.natAbs<4611686018427387904:=by
 have hb:=hB.b T d β h.tb fun i hi=>by
  by_cases h1:i<k
  ·have:=h.bp i h1
   have:=h.cc
   exact .inl (by omega)
  ·exact .inr (h.bs i (by omega) hi)
 have key:∀x:Int,ab x<4611686018427387904->(s*x).natAbs<4611686018427387904:=fun x hx=>by
  unfold ab at hx
  rcases h.s1 with h1 | h1<;>rw[h1]<;>omega
 refine ⟨fun i j hi hj=>?_,?_⟩
 ·rw[h.le i j hi hj]
  exact key _ (hb i j hi (by omega))
 ·rw[h.de]
  refine key _ ?_
  have hm:=hB.hm
  have:=hb 0 (β 0) (by omega) (h.tb.lt 0 (by omega))
  rwa [h.tb.basis (show 0<m by omega)] at this
def rB (L:Nat->Nat->Int) (e:Int) (r c i j:Nat):Nat->Nat->Int:=fun k l=>if k≠r/\(k<i\/(k=i/\l<j)) then elq L e r c k l else L k l
end
theorem Kt {l:List Int} (h:l.length<=1000):ay l=some l:=by
 simp only[ay,gj,dV (show (0+l.length)*8<=140737488355328 by omega),cT]
theorem xq {w i:Nat} {N:Nat->Nat->Int}:((fJ i w N).1++[List.length (fJ i w N).2+0],(fJ i w N).2++[some (bq w (N i))])=fJ (i+1) w N:=by
 have h1:(fJ i w N).2.length=i:=li
 rw[h1,Nat.add_zero]
 unfold fJ
 simp only
 rw[<-List.range_succ]
 unfold dk
 rw[List.range_succ,List.map_append]
 rfl
theorem nS {α:Type} {n:Nat} {f:Nat->α}:bq n f++[f n]=bq (n+1) f:=by
 unfold bq
 rw[List.range_succ,List.map_append]
 rfl
theorem HV {k C:Nat} {p:Nat->Nat}:bq k (fun i=>(p i:Int))++[(C:Int)]=bq (k+1) fun i=>(upd p k C i:Int):=by
 rw[<-nS]
 congr 1
 ·refine cD fun j hj=>?_
  unfold upd
  rw[if_neg (by omega)]
 ·unfold upd
  rw[if_pos rfl]
def ElQ (m w c:Nat) (N:Nat->Nat->Int) (o:Option (List (List Int)×Int×List Int×List Int×Bool)):Prop :=
 ∃k p L e T d β s fr tu,o=some (kw m w L,e,bq k (fun i=>(p i:Int)),fr,tu)/\El m w c N c k p L e T d β s
abbrev ElS:=Int×(List Nat×List (Option (List Int)))×Int×List Int×List Int×Bool×PUnit
def ElI (m w c:Nat) (N:Nat->Nat->Int) (C:Nat) (x:ElS):Prop :=
 ∃k p L e T d β s t fr tu,x=((C:Int),t,e,bq k (fun i=>(p i:Int)),fr,tu,PUnit.unit)/\TabR m w L t/\fr.length=m/\El m w c N C k p L e T d β s
theorem zn {m w c:Nat} {N:Nat->Nat->Int} (hB:ElBnd m w c N):ElQ m w c N (ct (kw m w N) (c:Int)):=by
 obtain ⟨hm1,hm⟩:=hB.hm
 have hw:=hB.hw
 have hc:=hB.hc
 unfold ct iJ
 refine lG (ElQ m w c N) m (by omega) (fun i=>((i:Int),fJ i w N,(1:Int),[],bq i (fun k=>(k:Int)),false,PUnit.unit)) rfl (fun again i hi=>?_) (fun again=>?_)
 ·simp only[dD,z7 (show (i:Int)<m by omega),aR,z7 hi,z9,gx hi,Kt (l:=bq w (N i)) (by rw[aE];omega),ai,ff,aE,
   dV (show (i+1)*24<=140737488355328 by omega),dV (show (i+1)*8<=140737488355328 by omega),cT,aM (show i<=1000000 by omega),xq]
  rw[show ((i:Nat):Int)=(fun k:Nat=>(k:Int)) i from rfl,nS]
 simp only[dD,z8 (show ¬ (m:Int)<m by omega),cF]
 refine uO (ElQ m w c N) c (by omega) (ElI m w c N) ⟨0,_,N,1,_,1,_,1,fJ m w N,bq m (fun k=>(k:Int)),false,rfl,Pu,aE,El.first hm⟩ (fun again C x hC hx=>?_) (fun again x hx=>?_)
 ·obtain ⟨k,p,L,e,T,d,β,s,t,fr,tu,rfl,hR,hfr,hE⟩:=hx
  have hkm:=hE.km
  simp only[z7 (show (C:Int)<c by omega),cT,aE,hR.len,aM (show C<=1000000 by omega)]
  rcases oz (m - k) (fun j=>decide (L (k+j) C≠0)) with hn | ⟨j0,hj0,hp0,hpn⟩
  ·refine lG (fun o=>∃y,ElI m w c N (C+1) y/\o=again y) (m - k) (by omega) (fun j=>((-1:Int),((k+j:Nat):Int),PUnit.unit)) rfl (fun again1 j hj=>?_) (fun again1=>?_)
   ·have h1:=of_decide_eq_false (hn j hj)
    have h2:L (k+j) C=0:=Decidable.not_not.1 h1
    simp only[show decide ((-1:Int)<0)=true from rfl,z7 (show ((k+j:Nat):Int)<m by omega),Bool.or_true,cT,aR,z7 (show k+j<m by omega),z9,cf (show Nat.succ (k+j)<=m by omega),hR.row (show k+j<m by omega),
     aE,z7 (show C<w by omega),cf (show Nat.succ C<=w by omega),ba (show C<w by omega),h2,decide_true,Bool.not_true,cF,aM (show k+j<=1000000 by omega)]
    rfl
   ·simp only[show decide ((-1:Int)<0)=true from rfl,z8 (show ¬ ((k+(m - k):Nat):Int)<m by omega),Bool.or_false,Bool.not_false,cT,cF]
    refine ⟨_,⟨k,p,L,e,T,d,β,s,t,fr,tu,rfl,hR,hfr,hE.skip hC hc fun i h1 h2=>?_⟩,rfl⟩
    have:=of_decide_eq_false (hn (i - k) (by omega))
    rw[show k+(i - k)=i by omega] at this
    exact Decidable.not_not.1 this
  ·have hL0:L (k+j0) C≠0:=z12 hp0
   refine lG (fun o=>∃y,ElI m w c N (C+1) y/\o=again y) (j0+1) (by omega) (fun j=>if j<=j0 then ((-1:Int),((k+j:Nat):Int),PUnit.unit) else (((k+j0:Nat):Int),((k+j0+1:Nat):Int),PUnit.unit)) rfl (fun again1 j hj=>?_) (fun again1=>?_)
   ·simp only[if_pos (show j<=j0 by omega),show decide ((-1:Int)<0)=true from rfl,z7 (show ((k+j:Nat):Int)<m by omega),Bool.or_true,cT,aR,z7 (show k+j<m by omega),z9,cf (show Nat.succ (k+j)<=m by omega),hR.row (show k+j<m by omega),
     aE,z7 (show C<w by omega),cf (show Nat.succ C<=w by omega),ba (show C<w by omega),aM (show k+j<=1000000 by omega)]
    by_cases cj:j=j0
    ·subst cj
     rw[z8 hL0,if_neg (by omega)]
     rfl
    ·have h1:=of_decide_eq_false (hpn j (by omega))
     rw[z7 (Decidable.not_not.1 h1),if_pos (by omega)]
     rfl
   ·simp only[if_neg (show ¬ j0+1<=j0 by omega),z8 (show ¬ ((k+j0:Nat):Int)<0 by omega)]
    obtain ⟨c15,hc15⟩:∃c15,decide (((k+j0+1:Nat):Int)<(m:Int))=c15:=⟨_,rfl⟩
    rw[hc15]
    have e16:(!c15||c15)=true:=by cases c15<;>rfl
    have e15:(bif c15 then false else false)=false:=by cases c15<;>rfl
    simp only[e16,e15,cT,cF]
    refine uO (fun o=>∃y,ElI m w c N (C+1) y/\o=again y) j0 (by omega)
     (fun t x=>∃L T β fr tu tab,x=(((k+(j0 - t):Nat):Int),tab,e,bq k (fun i=>(p i:Int)),fr,tu,PUnit.unit)/\TabR m w L tab/\fr.length=m/\El m w c N C k p L e T d β s/\L (k+(j0 - t)) C≠0)
     ⟨L,T,β,fr,tu,t,rfl,hR,hfr,hE,hL0⟩ (fun again2 t x ht hx=>?_) (fun again2 x hx=>?_)
    ·obtain ⟨L,T,β,fr,tu,tab,rfl,hR,hfr,hE,hL0⟩:=hx
     have ha:k<=k+(j0 - t)/\k+(j0 - t)<m:=by omega
     have hb:k<=k+(j0 - (t+1))/\k+(j0 - (t+1))<m:=by omega
     have hab:k+(j0 - t)≠k+(j0 - (t+1)):=by omega
     have e19:IntKind.wrap .i64 (((k+(j0 - t):Nat):Int) - 1)=((k+(j0 - (t+1)):Nat):Int):=by rw[a7 (by omega) (by omega)];omega
     refine ⟨_,⟨fun i=>L (swp (k+(j0 - t)) (k+(j0 - (t+1))) i),fun i=>T (swp (k+(j0 - t)) (k+(j0 - (t+1))) i),fun i=>β (swp (k+(j0 - t)) (k+(j0 - (t+1))) i),
      (fr.set (k+(j0 - t)) (fr.getD (k+(j0 - (t+1))) 0)).set (k+(j0 - (t+1))) (fr.getD (k+(j0 - t)) 0),!tu,_,rfl,hR.swap ha.2 hb.2,by rw[List.length_set,List.length_set];exact hfr,hE.swap ha hb hab,?_⟩,?_⟩
     ·show L (swp (k+(j0 - t)) (k+(j0 - (t+1))) (k+(j0 - (t+1)))) C≠0
      unfold swp
      rw[if_neg (Ne.symm hab),if_pos rfl]
      exact hL0
     ·simp only[e19,hR.len,hfr,List.length_set,z7 (show ((k+(j0 - t):Nat):Int)>(k:Int) by omega),cT,aR,z7 ha.2,z7 hb.2,z9,cf (show Nat.succ (k+(j0 - t))<=m by omega),cf (show Nat.succ (k+(j0 - (t+1)))<=m by omega)]
    ·obtain ⟨L,T,β,fr,tu,⟨ids,cells⟩,rfl,hR,hfr,hE,hL0⟩:=hx
     rw[Nat.sub_self,Nat.add_zero] at hL0
     have hk:k<m:=by omega
     have hCw:C<w:=by omega
     have hlen:ids.length=m:=hR.len
     simp only[Nat.sub_self,Nat.add_zero,z8 (show ¬ ((k:Nat):Int)>(k:Int) by omega),cF,hlen,aR,z7 hk,z9,cf (show Nat.succ k<=m by omega),cT,hR.row hk,aE,z7 hCw,cf (show Nat.succ C<=w by omega),ba hCw]
     have hP:=hE.pivot hk hC hc hL0
     obtain ⟨hb1,hb2⟩:=hE.bound hB
     obtain ⟨hb3,_⟩:=hP.bound hB
     have hb4:∀i j,i<m->i≠k->j<w->(elq L e k C i j).natAbs<4611686018427387904:=fun i j hi hne hj=>by
      have:=hb3 i j hi hj
      unfold elL at this
      rwa [if_neg hne] at this
     refine uO (fun o=>∃y,ElI m w c N (C+1) y/\o=again y) m (by omega) (fun i x=>∃cells,x=((i:Int),(ids,cells),PUnit.unit)/\TabR m w (rB L e k C i 0) (ids,cells))
      ⟨cells,rfl,hR.congr fun i j _ _=>?_⟩ (fun again3 i x hi hx=>?_) (fun again3 x hx=>?_)
     ·unfold rB
      rw[if_neg fun h=>by omega]
     ·obtain ⟨cs,rfl,hS⟩:=hx
      simp only[hlen,z7 (show (i:Int)<m by omega),aR,z7 hi,z9,cf (show Nat.succ i<=m by omega),cT,aM (show i<=1000000 by omega)]
      by_cases ci:i=k
      ·rw[z7 (show (i:Int)=k by omega),cond_true]
       refine ⟨_,⟨cs,rfl,hS.congr fun a b _ _=>?_⟩,rfl⟩
       unfold rB
       by_cases c1:a≠k/\(a<i\/(a=i/\b<0))
       ·rw[if_pos c1,if_pos (by omega)]
       ·rw[if_neg c1,if_neg (by omega)]
      ·have hSr:=hS.row hi
       have hSl:=hS.live hi
       simp only at hSr hSl
       simp only[z8 (show ¬ (i:Int)=k by omega),cF,hSr,hSl,aE,z7 hCw,cf (show Nat.succ C<=w by omega),cT,ba hCw]
       refine uO (fun o=>∃y,(∃cells,y=(((i+1:Nat):Int),(ids,cells),PUnit.unit)/\TabR m w (rB L e k C (i+1) 0) (ids,cells))/\o=again3 y) w (by omega)
        (fun j x=>∃cells,x=((j:Int),(ids,cells),PUnit.unit)/\TabR m w (rB L e k C i j) (ids,cells)) ⟨cs,rfl,hS⟩ (fun again4 j x hj hx=>?_) (fun again4 x hx=>?_)
       ·obtain ⟨cs2,rfl,hS2⟩:=hx
        have hr1:=hS2.row hi
        have hr2:=hS2.row hk
        simp only at hr1 hr2
        have e1:rB L e k C i j i j=L i j:=by unfold rB;rw[if_neg (by omega)]
        have e2:rB L e k C i j k j=L k j:=by unfold rB;rw[if_neg (by omega)]
        have e3:rB L e k C i 0 i C=L i C:=by unfold rB;rw[if_neg (by omega)]
        have hst:=H2 (q:=elq L e k C i j) (hb1 i j hi hj) (hb1 k C hk hCw) (hb1 i C hi hCw) (hb1 k j hk hj) hE.ene hb2 (hE.exact hk hCw hi ci hj).1 (hb4 i j hi ci hj)
        simp only[hr1,hr2,aE,z7 (show (j:Int)<w by omega),aR,z7 hj,z7 hk,z9,cf (show Nat.succ j<=w by omega),cf (show Nat.succ k<=m by omega),cT,hlen,ba hj,e1,e2,e3,hst,ai,aM (show j<=1000000 by omega)]
        refine ⟨_,⟨_,rfl,hS2.put hi hj fun a b ha hb=>?_⟩,rfl⟩
        unfold rB
        by_cases c0:a=i/\b=j
        ·rw[if_pos c0,if_pos (by omega),c0.1,c0.2]
        ·rw[if_neg c0]
         by_cases c1:a≠k/\(a<i\/(a=i/\b<j))
         ·rw[if_pos c1,if_pos (by omega)]
         ·rw[if_neg c1,if_neg (by omega)]
       ·obtain ⟨cs2,rfl,hS2⟩:=hx
        simp only[z8 (show ¬ (w:Int)<w by omega),cF]
        refine ⟨_,⟨cs2,rfl,hS2.congr fun a b _ hb=>?_⟩,rfl⟩
        unfold rB
        by_cases c1:a≠k/\(a<i\/(a=i/\b<w))
        ·rw[if_pos c1,if_pos (by omega)]
        ·rw[if_neg c1,if_neg (by omega)]
     ·obtain ⟨cs,rfl,hS⟩:=hx
      simp only[hlen,z8 (show ¬ (m:Int)<m by omega),cF,dV (show (k+1)*8<=140737488355328 by omega),cT,HV]
      refine ⟨_,⟨k+1,upd p k C,elL L e k C,L k C,_,_,_,_,(ids,cs),fr,tu,rfl,hS.congr fun a b ha _=>?_,hfr,hP⟩,rfl⟩
      unfold rB elL
      by_cases c1:a=k
      ·rw[if_neg (by omega),if_pos c1,c1]
      ·rw[if_pos (by omega),if_neg c1]
 ·obtain ⟨k,p,L,e,T,d,β,s,t,fr,tu,rfl,hR,hfr,hE⟩:=hx
  simp only[z8 (show ¬ (c:Int)<c by omega),cF,hR.all,cT,hR.map]
  exact ⟨k,p,L,e,T,d,β,s,fr,tu,rfl,hE⟩
def fct:Nat->Int
 | 0=>1
 | n+1=>((n:Int)+1)*fct n
theorem wA:∀n:Nat,0<=fct n
 | 0=>by decide
 | n+1=>Int.mul_nonneg (by omega) (wA n)
theorem Em:∀{n k:Nat} {f:Nat->Int},k<=n->f k*pz n (fun j=>f (skip k j))=pz (n+1) f
 | n,0,f,_=>by
  simp only[pz]
  congr 1
 | 0,k+1,f,hk=>by omega
 | n+1,k+1,f,hk=>by
  have h1:=Em (n:=n) (k:=k) (f:=fun j=>f (j+1)) (by omega)
  have e1:pz (n+1) (fun j=>f (skip (k+1) j))=f 0*pz n fun j=>f (skip k j+1):=by
   show f (skip (k+1) 0)*pz n (fun j=>f (skip (k+1) (j+1)))=_
   have e2:skip (k+1) 0=0:=by unfold skip;rw[if_pos (by omega)]
   have e3:(fun j=>f (skip (k+1) (j+1)))=fun j=>f (skip k j+1):=by
    funext j
    congr 1
    unfold skip
    by_cases c:j<k
    ·rw[if_pos (by omega),if_pos c]
    ·rw[if_neg (by omega),if_neg c]
   rw[e2,e3]
  have e4:pz (n+1+1) f=f 0*pz (n+1) fun j=>f (j+1):=rfl
  rw[e1,e4,<-h1,Int.mul_left_comm]
theorem Bd:∀{n:Nat} {A:Nat->Nat->Int} {B:Nat->Int},(∀i j,i<n->j<n->ab (A i j)<=B j)->ab (det n A)<=fct n*pz n B
 | 0,A,B,_=>by simp[det,pz,fct,ab]
 | n+1,A,B,h=>by
  have hB:∀j,j<n+1->0<=B j:=fun j hj=>Int.le_trans (cq _) (h 0 j (by omega) hj)
  simp only[det]
  refine Int.le_trans yF ?_
  have h1:∀k,k<n+1->ab (sgd k*A 0 k*det n (iu A k))<=fct n*pz (n+1) B:=fun k hk=>by
   rw[Int.mul_assoc,EC,nZ]
   have h2:=Bd (n:=n) (A:=iu A k) (B:=fun j=>B (skip k j)) fun i j hi hj=>h (i+1) (skip k j) (by omega) (by unfold skip;split<;>omega)
   have h3:=Em (n:=n) (k:=k) (f:=B) (by omega)
   have h4:=h 0 k (by omega) hk
   have h5:ab (A 0 k)*ab (det n (iu A k))<=B k*(fct n*pz n fun j=>B (skip k j)):=Int.mul_le_mul h4 h2 (cq _) (hB k hk)
   rw[<-h3]
   rw[Int.mul_left_comm] at h5
   exact h5
  have h6:=oh (n:=n+1) (f:=fun k=>ab (sgd k*A 0 k*det n (iu A k))) (g:=fun _=>fct n*pz (n+1) B) h1
  refine Int.le_trans h6 ?_
  have h7:∀(q:Nat) (x:Int),sz q (fun _=>x)=(q:Int)*x:=fun q x=>by
   induction q with
   | zero=>simp[sz]
   | succ q ih =>
    simp only[sz]
    rw[ih,Int.natCast_add,Int.add_mul]
    simp
  rw[h7]
  show _<=((n:Int)+1)*fct n*pz (n+1) B
  rw[Int.mul_assoc]
  exact Int.le_refl _
theorem yT {x y:Int} (hx:1<=x) (hy:x<=y):∀{n i:Nat},pz n (fun q=>if q=i then y else x)<=y*x ^ n
 | 0,i=>by
  simp only[pz,Int.pow_zero]
  omega
 | n+1,0=>by
  show y*pz n (fun q=>if q+1=0 then y else x)<=_
  have e:pz n (fun q=>if q+1=0 then y else x)<=x ^ (n+1):=by
   have:∀k:Nat,pz k (fun q=>if q+1=0 then y else x)=x ^ k:=fun k=>by
    induction k with
    | zero=>exact (Int.pow_zero x).symm
    | succ k ih =>
     show x*pz k (fun q=>if q+1+1=0 then y else x)=_
     have e2:(fun q:Nat=>if q+1+1=0 then y else x)=fun q:Nat=>if q+1=0 then y else x:=by
      funext q
      rw[if_neg (by omega),if_neg (by omega)]
     rw[e2,ih,Int.pow_succ,Int.mul_comm]
   rw[this,Int.pow_succ]
   have h1:0<=x ^ n:=Int.pow_nonneg (by omega)
   have h2:x ^ n*1<=x ^ n*x:=Int.mul_le_mul_of_nonneg_left hx h1
   omega
  exact Int.mul_le_mul_of_nonneg_left e (by omega)
 | n+1,i+1=>by
  show x*pz n (fun q=>if q+1=i+1 then y else x)<=_
  have e2:(fun q:Nat=>if q+1=i+1 then y else x)=fun q:Nat=>if q=i then y else x:=by
   funext q
   by_cases c:q=i
   ·rw[if_pos (by omega),if_pos c]
   ·rw[if_neg (by omega),if_neg c]
  rw[e2,Int.pow_succ]
  have h1:=yT hx hy (n:=n) (i:=i)
  have h2:x*pz n (fun q=>if q=i then y else x)<=x*(y*x ^ n):=Int.mul_le_mul_of_nonneg_left h1 (by omega)
  have e3:y*(x ^ n*x)=x*(y*x ^ n):=by grind
  rw[e3]
  exact h2
theorem KP {m w c:Nat} {N:Nat->Nat->Int} {x y:Int} (hm:1<=m/\m<=1000) (hw:w<=1000) (hc:c<=w) (hx:1<=x) (hy:x<=y) (h1:∀i j,i<m->j<c->ab (N i j)<=x) (h2:∀i j,i<m->j<w->ab (N i j)<=y)
  (hb:fct m*(y*x ^ m)<4611686018427387904):ElBnd m w c N:=by
 refine ⟨hm,hw,hc,fun T d β hT hβ i j hi hj=>?_⟩
 rw[hT.bound hi hj]
 unfold dc
 have h3:=Bd (n:=m) (A:=dX (oB w N) (upd β i j)) (B:=fun q=>if q=i then y else x) fun p q hp hq=>?_
 ·refine Int.lt_of_le_of_lt h3 (Int.lt_of_le_of_lt ?_ hb)
  exact Int.mul_le_mul_of_nonneg_left (yT hx hy) (wA m)
 ·unfold dX upd oB
  have ab01:∀P:Prop,[Decidable P]->ab (if P then 1 else 0)<=1:=fun P _=>by split<;>decide
  by_cases c1:q=i
  ·rw[if_pos c1,if_pos c1]
   by_cases c2:j<w
   ·rw[if_pos c2]
    exact h2 p j hp c2
   ·rw[if_neg c2]
    exact Int.le_trans (ab01 _) (by omega)
  ·rw[if_neg c1,if_neg c1]
   rcases hβ q hq with h | h
   ·rw[if_pos (by omega)]
    exact h1 p _ hp h
   ·rw[if_neg (by omega)]
    exact Int.le_trans (ab01 _) hx
def ko (n:Nat) (N:Nat->Nat->Int) (b:Nat->Int):Nat->Nat->Int:=fun i j=>if j<n then N i j else b i
def EqN (m n:Nat) (N:Nat->Nat->Int) (b:Nat->Int) (x:Nat->Rat):Prop:=∀i,i<m->(sq n fun j=>((N i j:Int):Rat)*x j)=((b i:Int):Rat)
theorem Ii {n:Nat} {f:Nat->Rat}:∀{m:Nat},n<=m->(∀i,n<=i->i<m->f i=0)->sq m f=sq n f
 | 0,h,_=>by
  have:n=0:=by omega
  rw[this]
 | m+1,h,h0=>by
  by_cases c:n=m+1
  ·rw[c]
  ·simp only[sq]
   rw[Ii (m:=m) (by omega) fun i h1 h2=>h0 i h1 (by omega),h0 m (by omega) (by omega)]
   grind
theorem NR:∀{n:Nat} {f:Nat->Rat} {k:Nat},k<n->(∀i,i<n->i≠k->f i=0)->sq n f=f k
 | n+1,f,k,hk,h=>by
  simp only[sq]
  by_cases e:k=n
  ·subst e
   rw[kS fun i hi=>h i (by omega) (by omega),Rat.zero_add]
  ·rw[NR (k:=k) (by omega) fun i hi hne=>h i (by omega) hne,h n (by omega) (fun h=>e h.symm),Rat.add_zero]
theorem qI {z:Int} (h:z≠0):((z:Int):Rat)≠0:=fun h0=>h (Rat.intCast_inj.1 h0)
section
variable {m n:Nat} {N:Nat->Nat->Int} {b:Nat->Int} {k:Nat} {p:Nat->Nat} {L:Nat->Nat->Int} {e:Int} {T:Nat->Nat->Int} {d:Int} {β:Nat->Nat} {s:Int}
theorem El.row_eq (h:El m (n+1) n (ko n N b) n k p L e T d β s) {x:Nat->Rat} (hx:EqN m n N b x) {i:Nat} (hi:i<m):(sq n fun j=>((T i j:Int):Rat)*x j)=((T i n:Int):Rat):=by
 have hr:∀j,j<n+1+m->T i j=sz m fun q=>T i (n+1+q)*oB (n+1) (ko n N b) q j:=fun j hj =>
  h.tb.rows (a:=fun q=>n+1+q) (fun q hq=>by omega) (fun q hq r hr=>by
   unfold oB
   rw[if_neg (by omega)]
   by_cases c:q=r
   ·rw[if_pos (by omega),if_pos c]
   ·rw[if_neg (by omega),if_neg c]) hi hj
 have h1:∀j,j<n->((T i j:Int):Rat)=sq m fun q=>((T i (n+1+q):Int):Rat)*((N q j:Int):Rat):=fun j hj=>by
  rw[hr j (by omega),<-pA]
  refine dC fun q _=>?_
  unfold oB ko
  rw[if_pos (by omega),if_pos hj,Rat.intCast_mul]
 have h2:((T i n:Int):Rat)=sq m fun q=>((T i (n+1+q):Int):Rat)*((b q:Int):Rat):=by
  rw[hr n (by omega),<-pA]
  refine dC fun q _=>?_
  unfold oB ko
  rw[if_pos (by omega),if_neg (by omega),Rat.intCast_mul]
 have h3:(sq n fun j=>((T i j:Int):Rat)*x j)=sq n fun j=>sq m fun q=>((T i (n+1+q):Int):Rat)*(((N q j:Int):Rat)*x j):=dC fun j hj=>by
  rw[h1 j hj,Rat.mul_comm,<-q6]
  exact dC fun q _=>by grind
 rw[h3,<-yO,h2]
 refine dC fun q hq=>?_
 rw[q6,hx q hq]
theorem El.row_val (h:El m (n+1) n (ko n N b) n k p L e T d β s) {i:Nat} (hi:i<m):L i n=0↔T i n=0:=by
 rw[h.le i n hi (by omega)]
 rcases h.s1 with h1 | h1<;>rw[h1]<;>omega
theorem El.none (h:El m (n+1) n (ko n N b) n k p L e T d β s) {i:Nat} (hk:k<=i) (hi:i<m) (h0:L i n≠0) (x:Nat->Rat):¬ EqN m n N b x:=fun hx=>by
 have h1:=h.row_eq hx hi
 rw[kS fun j hj=>by rw[h.z i j hk hi hj];exact Rat.zero_mul _] at h1
 exact h0 ((h.row_val hi).2 (Rat.intCast_inj.1 h1.symm))
theorem El.p_ge (h:El m (n+1) n (ko n N b) n k p L e T d β s):∀i,i<k->i<=p i
 | 0,_=>Nat.zero_le _
 | i+1,hi=>by
  have h1:=h.p_ge i (by omega)
  have h2:=h.inc i (i+1) (by omega) hi
  omega
theorem El.k_le (h:El m (n+1) n (ko n N b) n k p L e T d β s):k<=n:=by
 by_cases hk:k=0
 ·omega
 ·have h1:=h.p_ge (k - 1) (by omega)
  have h2:=(h.bp (k - 1) (by omega)).2
  omega
theorem El.p_id (h:El m (n+1) n (ko n N b) n k p L e T d β s) (hk:k=n):∀i,i<n->p i=i:=by
 have key:∀q i,i+q=n - 1->i<n->p i<=i:=fun q=>by
  induction q with
  | zero=>intro i h1 h2;have:=(h.bp i (by omega)).2;omega
  | succ q ih =>
   intro i h1 h2
   have h3:=ih (i+1) (by omega) (by omega)
   have h4:=h.inc i (i+1) (by omega) (by omega)
   omega
 intro i hi
 have h1:=key (n - 1 - i) i (by omega) hi
 have h2:=h.p_ge i (by omega)
 omega
def ut (n:Nat) (L:Nat->Nat->Int) (e:Int) (i:Nat):Rat:=((L i n:Int):Rat) / ((e:Int):Rat)
theorem El.sol_eq (h:El m (n+1) n (ko n N b) n k p L e T d β s) {i:Nat} (hi:i<m):((d:Int):Rat)*ut n L e i=((T i n:Int):Rat):=by
 have hd:=h.tb.dpos
 have hs:((s:Int):Rat)*((s:Int):Rat)=1:=by rw[<-Rat.intCast_mul,h.sne];rfl
 have he:((e:Int):Rat)≠0:=qI h.ene
 have e1:((e:Int):Rat)=((s:Int):Rat)*((d:Int):Rat):=by rw[h.de,Rat.intCast_mul]
 have e2:((L i n:Int):Rat)=((s:Int):Rat)*((T i n:Int):Rat):=by rw[h.le i n hi (by omega),Rat.intCast_mul]
 unfold ut
 rw[Rat.div_def]
 have h3:((e:Int):Rat)*((e:Int):Rat)⁻¹=1:=Rat.mul_inv_cancel _ he
 have h4:((d:Int):Rat)=((s:Int):Rat)*((e:Int):Rat):=by rw[e1];grind
 rw[h4,e2]
 grind
theorem El.unique (h:El m (n+1) n (ko n N b) n k p L e T d β s) (hk:k=n) {x:Nat->Rat} (hx:EqN m n N b x) {i:Nat} (hi:i<n):x i=ut n L e i:=by
 have hkm:=h.km
 have him:i<m:=by omega
 have hb:=fun j (hj:j<n)=>show β j=j by rw[(h.bp j (by omega)).1,h.p_id hk j hj]
 have h1:=h.row_eq hx him
 rw[NR hi fun j hj hne=>by
  have h2:=h.tb.other him (show j<m by omega) (Ne.symm hne)
  rw[hb j hj] at h2
  rw[h2]
  exact Rat.zero_mul _] at h1
 have h3:=h.tb.basis him
 rw[hb i hi] at h3
 rw[h3,<-h.sol_eq him] at h1
 have hd:((d:Int):Rat)≠0:=qI (by have:=h.tb.dpos;omega)
 have h4:((d:Int):Rat)⁻¹*((d:Int):Rat)=1:=Rat.inv_mul_cancel _ hd
 have h5:=congrArg (fun z=>((d:Int):Rat)⁻¹*z) h1
 rw[<-Rat.mul_assoc,<-Rat.mul_assoc,h4,Rat.one_mul,Rat.one_mul] at h5
 exact h5
theorem El.solves (h:El m (n+1) n (ko n N b) n k p L e T d β s) (hk:k=n) (h0:∀i,k<=i->i<m->L i n=0) {x:Nat->Rat} (hx:∀i,i<n->x i=ut n L e i):EqN m n N b x:=fun q hq=>by
 have hkm:=h.km
 have hb:=fun j (hj:j<n)=>show β j=j by rw[(h.bp j (by omega)).1,h.p_id hk j hj]
 have h1:=h.tb.co q hq n (by omega)
 have h2:oB (n+1) (ko n N b) q n=b q:=by unfold oB ko;rw[if_pos (by omega),if_neg (by omega)]
 rw[h2] at h1
 have h3:((d:Int):Rat)*((b q:Int):Rat)=sq m fun i=>((T i n:Int):Rat)*((oB (n+1) (ko n N b) q (β i):Int):Rat):=by
  rw[<-Rat.intCast_mul,h1,<-pA]
  exact dC fun i _=>by rw[Rat.intCast_mul]
 rw[Ii (n:=n) (by omega) fun i h4 h5=>by rw[(h.row_val h5).1 (h0 i (by omega) h5)];exact Rat.zero_mul _] at h3
 have h6:(sq n fun i=>((T i n:Int):Rat)*((oB (n+1) (ko n N b) q (β i):Int):Rat))=((d:Int):Rat)*sq n fun j=>((N q j:Int):Rat)*x j:=by
  rw[<-q6]
  refine dC fun i hi=>?_
  rw[hb i hi,<-h.sol_eq (show i<m by omega),hx i hi]
  have:oB (n+1) (ko n N b) q i=N q i:=by unfold oB ko;rw[if_pos (by omega),if_pos hi]
  rw[this]
  grind
 rw[h6] at h3
 have hd:((d:Int):Rat)≠0:=qI (by have:=h.tb.dpos;omega)
 have h4:((d:Int):Rat)⁻¹*((d:Int):Rat)=1:=Rat.inv_mul_cancel _ hd
 have h5:=congrArg (fun z=>((d:Int):Rat)⁻¹*z) h3
 rw[<-Rat.mul_assoc,<-Rat.mul_assoc,h4,Rat.one_mul,Rat.one_mul] at h5
 exact h5.symm
end
theorem wH {l:List Int} {k:Int} (hl:l.length<=1000000) (hk:0<=k/\k<=1000000000) (h:∀a ∈ l,-k<=a/\a<=k):bL l k=some true:=by
 simp only[bL,kD]
 rw[vW (p:=fun _=>false) hl fun a ha=>?_,ai,List.any_eq_false.2 fun _ _ h=>Bool.noConfusion h]
 ·rfl
 ·have:=h a ha
  simp only[dx,jh]
  rw[a7 (x:=0 - k) (by omega) (by omega),z8 (show ¬ a<0 - k by omega),z8 (show ¬ a>k by omega)]
  rfl
theorem tx {α:Type} {n:Nat} {f:Nat->α} {a:α} (h:a ∈ bq n f):∃i,i<n/\f i=a:=by
 unfold bq at h
 obtain ⟨i,hi,he⟩:=List.mem_map.1 h
 exact ⟨i,List.mem_range.1 hi,he⟩
theorem GZ {m n:Nat} {N:Nat->Nat->Int} (hm:1<=m/\m<=6) (hn:1<=n/\n<=12) (h:∀i j,i<m->j<n-> -32<=N i j/\N i j<=32):eo (kw m n N)=some true:=by
 have hc:a8 (kw m n N) (fun x=>cP x.1 (n:Int))=some false:=by
  simp only[a8,fw]
  have e:bA (kw m n N) (fun x=>cP x.1 (n:Int))=some (kK (fun _=>false) (kw m n N) 0):=by
   unfold bA ga
   refine nM (f:=fun x=>cP x.1 (n:Int)) (d:=[]) (p:=fun _=>false) (by rw[dD];omega) fun a ha=>?_
   obtain ⟨i,hi,rfl⟩:∃i,i<m/\bq n (N i)=a:=by
    obtain ⟨i,hi,he⟩:=List.mem_map.1 ha
    exact ⟨i,List.mem_range.1 hi,he⟩
   have hw:=wH (l:=bq n (N i)) (k:=32) (by rw[aE];omega) (by omega) fun a ha=>by
    obtain ⟨j,hj,rfl⟩:=tx ha
    exact h i j hi hj
   simp only[cP,jS,aE,decide_true,Bool.not_true,Bool.not_false,Bool.or_true,cT,hw,ai,cF]
  rw[e,ai,Fg,List.any_eq_false.2 fun _ _ h=>Bool.noConfusion h]
 simp only[eo,lY,dD,gx (show 0<m by omega),aE,z8 (show ¬ (m:Int)<1 by omega),z8 (show ¬ (m:Int)>6 by omega),z7 (show (n:Int)>=1 by omega),z7 (show (n:Int)<=12 by omega),
  Bool.not_false,Bool.not_true,Bool.or_true,Bool.and_self,cT,cF,show inB 0 m=true from (aR (i:=0)).trans (z7 (show 0<m by omega)),hc,ai]
def FJ (m n:Nat) (N:Nat->Nat->Int) (b:Nat->Int) (o:Option (List Fq×Int×Unit)):Prop :=
 (∃l,o=some (l,0,())/\l.length=n/\(∀a ∈ l,okF a)/\EqN m n N b (vX l)/\∀x,EqN m n N b x->∀j,j<n->x j=vX l j) \/
 (o=some ([],22,())/\∀x,¬ EqN m n N b x) \/
 (o=some ([],21,())/\∃k p L e T d β s,El m (n+1) n (ko n N b) n k p L e T d β s/\k<n/\∀i,k<=i->i<m->L i n=0) \/
 o=some ([],5,())
theorem L4 {n i:Nat} {N:Nat->Nat->Int} {b:Nat->Int}:bq n (N i)++[b i]=bq (n+1) (ko n N b i):=by
 rw[<-nS]
 congr 1
 ·refine cD fun j hj=>?_
  unfold ko
  rw[if_pos hj]
 ·unfold ko
  rw[if_neg (by omega)]
theorem vc {m w k j:Nat} {L:Nat->Nat->Int} (h:k+j<m):(List.drop k (List.take m (kw m w L))).getD j []=bq w (L (k+j)):=by
 have e:List.take m (kw m w L)=kw m w L:=List.take_of_length_le (by rw[dD];omega)
 rw[e,List.getD_eq_getElem?_getD,List.getElem?_drop,<-List.getD_eq_getElem?_getD,gx h]
theorem FG {m n:Nat} {N:Nat->Nat->Int} {b:Nat->Int} (hm:1<=m/\m<=6) (hn:1<=n/\n<=12) (hN:∀i j,i<m->j<n-> -20<=N i j/\N i j<=20) (hb:∀i,i<m->0<=b i/\b i<=33554432) :
  FJ m n N b (cS (kw m n N) (bq m b)):=by
 have hB:ElBnd m (n+1) n (ko n N b):=by
  refine KP (x:=20) (y:=33554432) (by omega) (by omega) (by omega) (by omega) (by omega) (fun i j hi hj=>?_) (fun i j hi hj=>?_) ?_
  ·unfold ko
   rw[if_pos hj]
   exact tG.2 (hN i j hi hj)
  ·unfold ko
   refine tG.2 ?_
   split
   ·rename_i c
    have:=hN i j hi c
    omega
   ·have:=hb i hi
    omega
  ·have h6:m=1\/m=2\/m=3\/m=4\/m=5\/m=6:=by omega
   rcases h6 with rfl | rfl | rfl | rfl | rfl | rfl<;>decide
 have hw:=wH (l:=bq m b) (k:=67108864) (by rw[aE];omega) (by omega) fun a ha=>by
  obtain ⟨j,hj,rfl⟩:=tx ha
  have:=hb j hj
  omega
 obtain ⟨k,p,L,e,T,d,β,s,fr,tu,hel,hE⟩:=zn hB
 unfold cS lP
 rw[GZ hm hn fun i j hi hj=>by have:=hN i j hi hj;omega,ai]
 simp only[Bool.not_true,cF,aE,dD,decide_true,hw,ai,show inB 0 m=true from (aR (i:=0)).trans (z7 (show 0<m by omega)),cT,gx (show 0<m by omega)]
 refine lG (FJ m n N b) m (by omega) (fun i=>(fJ i (n+1) (ko n N b),(i:Int),PUnit.unit)) rfl (fun again i hi=>?_) (fun again=>?_)
 ·simp only[z7 (show (i:Int)<m by omega),aR,z7 hi,z9,gx hi,Kt (l:=bq n (N i)) (by rw[aE];omega),ai,aE,ff,ba hi,
   dV (show (n+1)*8<=140737488355328 by omega),dV (show (i+1)*24<=140737488355328 by omega),cT,L4,xq,aM (show i<=1000000 by omega)]
 have hkn:=hE.k_le
 have hkm:=hE.km
 simp only[z8 (show ¬ (m:Int)<m by omega),cF,gq,cT,gn]
 rw[hel,ai]
 simp only[aE,dD,z9,CC (show (0:Int)<=k by omega) (show (k:Int)<=m by omega) (show (m:Int)<=m by omega),cT]
 have hlen:(List.drop k (List.take m (kw m (n+1) L))).length=m - k:=by
  rw[List.length_drop,List.length_take,dD,Nat.min_self]
 simp only[hlen]
 rcases oz (m - k) (fun j=>decide (L (k+j) n≠0)) with hno | ⟨j0,hj0,hp0,hpn⟩
 ·have h0:∀i,k<=i->i<m->L i n=0:=fun i h1 h2=>by
   have:=of_decide_eq_false (hno (i - k) (by omega))
   rw[show k+(i - k)=i by omega] at this
   exact Decidable.not_not.1 this
  refine lG (FJ m n N b) (m - k) (by omega) (fun j=>((j:Int),PUnit.unit)) rfl (fun again1 j hj=>?_) (fun again1=>?_)
  ·simp only[z7 (show (j:Int)<(m - k:Nat) by omega),aR,z7 hj,z9,vc (show k+j<m by omega),aE,z7 (show n<n+1 by omega),cT,ba (show n<n+1 by omega),h0 (k+j) (by omega) (by omega),decide_true,Bool.not_true,cF,aM (show j<=1000000 by omega)]
  simp only[z8 (show ¬ ((m - k:Nat):Int)<(m - k:Nat) by omega),cF]
  by_cases hlt:k<n
  ·rw[z7 (show (k:Int)<n by omega),cond_true]
   exact .inr (.inr (.inl ⟨rfl,k,p,L,e,T,d,β,s,hE,hlt,h0⟩))
  ·have hk:k=n:=by omega
   rw[z8 (show ¬ (k:Int)<n by omega),cond_false]
   obtain ⟨hb1,hb2⟩:=hE.bound hB
   refine pZ (γ:=Nat) (I:=fun g x=>x=(bq g (fun i=>prQ (ut n L e i)),(g:Int),PUnit.unit)/\g<=n/\∀i,i<g->io (ut n L e i)) (FJ m n N b) (fun g=>n - g) (fun rec g x ⟨h1,h2,h3⟩=>?_) (s:=0) ⟨rfl,by omega,fun i hi=>by omega⟩ (by omega)
   subst h1
   by_cases hg:g=n
   ·refine .inl ?_
    subst hg
    simp only[z8 (show ¬ (g:Int)<g by omega),cF]
    have hv:∀j,j<g->vX (bq g (fun i=>prQ (ut g L e i))) j=ut g L e j:=fun j hj=>by
     unfold vX
     rw[ba hj,CH]
    refine .inl ⟨_,rfl,aE,fun a ha=>?_,hE.solves hk h0 hv,fun x hx j hj=>?_⟩
    ·obtain ⟨i,hi,rfl⟩:=tx ha
     exact EG (h3 i hi)
    ·rw[hv j hj]
     exact hE.unique hk hx hj
   ·have hgm:g<m:=by omega
    have h4:=hb1 g n hgm (by omega)
    have h5:=Er (n:=L g n) (d:=e) (by omega) (by omega) (by omega) (by omega)
    rw[if_neg hE.ene,uF hE.ene] at h5
    simp only[z7 (show (g:Int)<n by omega),cT,aR,z7 hgm,z9,gx hgm,aE,z7 (show n<n+1 by omega),ba (show n<n+1 by omega),h5,ai]
    rw[show ((L g n:Int):Rat) / ((e:Int):Rat)=ut n L e g from rfl]
    rcases wK (ut n L e g) with ⟨f1,e1⟩ | ⟨f1,e1⟩
    ·refine .inr ⟨g+1,_,⟨rfl,by omega,fun i hi=>?_⟩,by omega,?_⟩
     ·by_cases c:i=g
      ·rw[c];exact f1
      ·exact h3 i (by omega)
     ·rw[e1]
      simp only[decide_true,Bool.not_true,cF,dV (show (g+1)*16<=140737488355328 by omega),cT,aM (show g<=1000000 by omega)]
      rw[show prQ (ut n L e g)=(fun i=>prQ (ut n L e i)) g from rfl,nS]
    ·refine .inl (.inr (.inr (.inr ?_)))
     rw[e1]
     rfl
 ·have hL0:L (k+j0) n≠0:=z12 hp0
  refine lG (FJ m n N b) j0 (by omega) (fun j=>((j:Int),PUnit.unit)) rfl (fun again1 j hj=>?_) (fun again1=>?_)
  ·have h1:=Decidable.not_not.1 (of_decide_eq_false (hpn j hj))
   simp only[z7 (show (j:Int)<(m - k:Nat) by omega),aR,z7 (show j<m - k by omega),z9,vc (show k+j<m by omega),aE,z7 (show n<n+1 by omega),cT,ba (show n<n+1 by omega),h1,decide_true,Bool.not_true,cF,aM (show j<=1000000 by omega)]
  ·simp only[z7 (show (j0:Int)<(m - k:Nat) by omega),aR,z7 hj0,z9,vc (show k+j0<m by omega),aE,z7 (show n<n+1 by omega),cT,ba (show n<n+1 by omega),z8 hL0,Bool.not_false]
   exact .inr (.inl ⟨rfl,fun x=>hE.none (show k<=k+j0 by omega) (by omega) hL0 x⟩)
theorem GV {s:Sy} (h:gY s=false):ca s=some ([],1,()):=by
 unfold ca gp
 rw[Kl h]
 rfl
theorem K4 {s:Sy} (h:gY s=true):FJ s.1.length s.2.length (Mx s) (bwS s) (ca s):=by
 have hV:=gF h
 have hb:=hV.bl
 have hr:=hV.rl
 have h1:=FG (m:=s.1.length) (n:=s.2.length) (N:=Mx s) (b:=bwS s) hb (by omega) (fun i j _ hj=>AM hV i hj) (fun i hi=>by have:=hV.wt i hi;omega)
 have e:ca s=cS (FA s) (LH s):=by
  unfold ca gp
  rw[Et h,ai]
  simp only[decide_true,Bool.not_true,cF,Fv h,ai]
  cases cS (FA s) (LH s) with
  | none=>rfl
  | some t=>rfl
 rw[e]
 exact h1
theorem E9 {L:Lin} {x r:Nat->Rat} (k:Nat):L.row (fun j=>x j+r j) k=L.row x k+L.row r k:=by
 unfold Lin.row
 rw[<-Dl]
 exact dC fun j _=>by grind
theorem KI {L:Lin} {x r:Nat->Rat} (hx:L.Feas x) (hr:L.Ray r):L.Feas fun j=>x j+r j:=by
 refine ⟨fun j hj=>?_,fun k hk h=>?_,fun k hk h=>?_⟩
 ·have h1:=hx.pos j hj
  have h2:=hr.pos j hj
  grind
 ·have h1:=hx.most k hk h
  have h2:=hr.most k hk h
  rw[E9]
  grind
 ·have h1:=hx.least k hk h
  have h2:=hr.least k hk h
  rw[E9]
  grind
theorem HJ {s:Sy} {c:List Int} (hc:c.length=s.2.length) {y r:Nat->Rat} (hu:∀x,EqS s x->∀j,j<s.2.length->x j=y j) {x:Nat->Rat} (hx:(an (dt s c)).Feas x) (hr:(an (dt s c)).Ray r):False:=by
 have h1:=hu _ ((jE hc).1 hx).2
 have h2:=hu _ ((jE hc).1 (KI hx hr)).2
 have h3:=hr.val
 have h4:(an (dt s c)).val r=0:=kS fun j hj=>by
  have hj':j<s.2.length:=by
   have:j<c.length:=hj
   omega
  have e1:=h1 j hj'
  have e2:=h2 j hj'
  have e3:r j=0:=by grind
  rw[e3]
  exact Rat.mul_zero _
 rw[h4] at h3
 exact absurd h3 (by decide)
theorem LR (l m:List Fq) (hl:l.length<=1000000):cB l m=some (decide (l=m)):=by
 simp only[cB,jk]
 by_cases h:l.length=m.length
 ·rw[z7 (show (l.length:Int)=m.length by omega)]
  simp only[Bool.not_true,cF]
  refine Cm (0,0) h hl (fun again i hi=>?_) (fun again=>?_)
  ·simp only[aR,z7 hi,z7 (show i<m.length by omega),z7 (show (i:Int)<l.length by omega),cT,z9,eg (show i<=1000000 by omega),LM]
   cases decide (List.getD l i ((0:Int),(0:Int))=List.getD m i (0,0))<;>rfl
  ·simp only[z8 (show ¬ (l.length:Int)<l.length by omega),cF]
 ·rw[z8 (show ¬ (l.length:Int)=m.length by omega),z8 fun e=>h (by rw[e])]
  rfl
theorem Pv {l m:List Fq} (hl:∀a ∈ l,okF a) (hm:∀a ∈ m,okF a) (hn:l.length=m.length) (h:∀j,j<l.length->vX l j=vX m j):l=m:=by
 refine List.ext_getElem hn fun i h1 h2=>?_
 have:=h i h1
 unfold vX at this
 rw[bN h1,bN h2] at this
 exact OG (hl _ (List.getElem_mem _)) (hm _ (List.getElem_mem _)) this
theorem G6 (s:Sy):kB s=some true:=by
 have hi:∀e0:Bool,(!e0||e0)=true:=fun e0=>by cases e0<;>rfl
 have hj:∀e0:Bool,(e0||!e0)=true:=fun e0=>by cases e0<;>rfl
 simp only[kB,jl,GQ,OP,ai,Bool.not_true,cF,List.length_nil,z7 (show 0<=10 by omega),Bool.and_true,pN]
 cases hs:nT s with
 | false=>rfl
 | true =>
  have hl:=Ec hs
  simp only[Bool.not_true,cF]
  cases hv:gY s with
  | false=>rw[GV hv];rfl
  | true =>
   have hV:=gF hv
   have hr:=hV.rl
   rcases K4 hv with ⟨l,h0,hn,ho,hE,hu⟩ | ⟨h0,_⟩ | ⟨h0,_⟩ | h0
   ·obtain ⟨a,e,h1,h2⟩:=Ku (J0 hV)
    obtain ⟨A,E,hAE⟩:=Oa (P:=fun k=>dt s (fU s k (-1))) (n:=s.2.length) fun k _=>Bl hV (by rfl)
    obtain ⟨B,G,hBG⟩:=Oa (P:=fun k=>dt s (fU s k 1)) (n:=s.2.length) fun k _=>Bl hV (by rfl)
    rw[h0,ai,J4 hv h1,ai]
    simp only[decide_true,Bool.not_true,cF,hi,hj,cT,Bool.not_not]
    have hfit:∀k,k<s.2.length->(gX (an (dt s (fU s 0 (-1))))↔gX (an (dt s (fU s k (-1))))):=fun k hk =>
     Hu (c:=fU s 0 (-1)) (c':=fU s k (-1)) fc fc (by rw[BK (by omega) rfl,BK hk rfl])
    by_cases hfo:gX (an (dt s (fU s 0 (-1))))
    ·cases hpo:l.all (fun a=>!decide (a.1<0)) with
     | false =>
      have hno:∀c:List Int,c.length=s.2.length->∀x,¬ (an (dt s c)).Feas x:=fun c hc x hx=>by
       obtain ⟨h3,h4⟩:=(jE hc).1 hx
       have h5:=hu x h4
       have h6:=(Ez ho).2 fun j hj=>by rw[<-h5 j (by omega)];exact h3 j (by omega)
       rw[hpo] at h6
       cases h6
      have hAll:∀k,k<s.2.length->E k=22:=fun k hk=>by
       rcases (hAE k hk).2 with ⟨_,_,h⟩ | ⟨h,_⟩ | ⟨_,_,_,⟨x,hx⟩,_⟩ | ⟨_,_,v,_,_,_,_,_,_,hx,_⟩
       ·exact (h ((hfit k hk).1 hfo)).elim
       ·exact h
       ·exact (hno _ fc _ hx).elim
       ·exact (hno _ fc _ hx).elim
      have hsl:=wq hv (e:=22) (by omega) (A:=A) fun k hk=>by rw[(hAE k hk).1,hAll k hk]
      rw[hsl,ai,Fw l (by omega),hpo]
      rcases h2 with ⟨rfl,rfl,_⟩ | ⟨rfl,rfl,_⟩ | ⟨_,_,_,⟨x,hx⟩,_⟩ | ⟨_,_,v,_,_,_,_,_,_,hx,_⟩
      ·rfl
      ·rfl
      ·exact (hno _ iV _ hx).elim
      ·exact (hno _ iV _ hx).elim
     | true =>
      have hpos:∀j,j<s.2.length->0<=vX l j:=fun j hj=>(Ez ho).1 hpo j (by omega)
      have hAll:∀k,k<s.2.length->E k=0/\(A k).1=prQ (-(vX l k)):=fun k hk=>by
       rcases (hAE k hk).2 with ⟨_,_,h⟩ | ⟨h,_⟩ | ⟨_,_,_,⟨x,hx⟩,r,hr1⟩ | ⟨h,_,v,hv1,_,_,_,_,_,hx,_,hval⟩
       ·exact (h ((hfit k hk).1 hfo)).elim
       ·exact ((Ak fc hE hpos (hAE k hk).2).1 h).elim
       ·exact (HJ fc hu hx hr1).elim
       ·refine ⟨h,?_⟩
        rw[hv1,<-hval,wC hk,hu _ ((jE fc).1 hx).2 k hk]
        congr 1
        have e1:((-1:Int):Rat)= -1:=rfl
        rw[e1]
        grind
      have hsl:=F8 hv (fun k hk=>(hAE k hk).1) fun k hk=>.inl (hAll k hk).1
      obtain ⟨z,hz⟩:∃z,z=fun k=>decide ((l.getD k (0,0)).1=0):=⟨_,rfl⟩
      have hok:∀k,k<s.2.length->okF (l.getD k (0,0)):=fun k hk=>ho _ (by rw[bN (by omega)];exact List.getElem_mem _)
      have hcg:eT s (fun k=>decide (E k=0)&&decide ((A k).1.1=0)) s.2.length=eT s z s.2.length:=r0 fun k hk=>by
       have h3:=hAll k hk
       rw[hz,h3.1,h3.2,z7 (rfl:(0:Int)=0),Bool.true_and]
       show _=decide ((l.getD k (0,0)).1=0)
       refine decide_eq_decide.2 ?_
       have h4:vX l k=qv (l.getD k (0,0)):=rfl
       rw[Nr,h4]
       have h5:=IJ (hok k hk)
       constructor
       ·intro h6
        exact h5.1 (by grind)
       ·intro h6
        have:=h5.2 h6
        grind
      rw[hsl,ai,Fw l (by omega),hpo,ai,hcg]
      have hee:e=5\/(e=0/\a.2.1=l):=by
       rcases h2 with ⟨h,_⟩ | ⟨h,_⟩ | ⟨_,_,_,_,r,hr1⟩ | ⟨h,_,v,_,_,hlen,hok2,_,_,hx,_⟩
       ·exact .inl h
       ·exact ((Ak iV hE hpos (by exact .inr (.inl ⟨h,by assumption⟩))).1 h).elim
       ·exact (D7 hr1).elim
       ·refine .inr ⟨h,Pv hok2 ho (by rw[hn,hlen];exact iV) fun j hj=>?_⟩
        have hlen':a.2.1.length=s.2.length:=by rw[hlen];exact iV
        exact hu _ ((jE iV).1 hx).2 j (by omega)
      rcases hee with rfl | ⟨rfl,hal⟩
      ·rfl
      ·have d1:decide ((0:Int)=5)=false:=rfl
       have d2:decide ((0:Int)=22)=false:=rfl
       simp only[d1,d2,decide_true,Bool.not_true,cF,cT,Bool.or_true,Bool.and_self]
       refine cO s.2.length (by omega) (fun k=>(eT s z k,(k:Int),PUnit.unit)) _ rfl (fun again k hk=>?_) (fun again=>?_)
       ·have hlk:k<l.length:=by omega
        have hL:=FH hv (Oo hV hk) hk (hBG k hk).1
        have hL':bv s (List.getD s.2 k ({ data:={ toList:=[] } },[],false)).1=some (bif decide (G k=0) then (B k).1 else (0,0),G k,()):=hL
        have hG:G k=5\/(G k=0/\(B k).1=l.getD k (0,0)):=by
         rcases (hBG k hk).2 with ⟨h,_⟩ | ⟨h,_⟩ | ⟨_,_,_,_,r,hr1⟩ | ⟨h,_,v,hv1,_,_,_,_,_,hx,_,hval⟩
         ·exact .inl h
         ·exact ((Ak fc hE hpos (hBG k hk).2).1 h).elim
         ·exact (Dj hk hr1).elim
         ·refine .inr ⟨h,?_⟩
          rw[hv1,<-hval,wC hk,hu _ ((jE fc).1 hx).2 k hk]
          have e1:((1:Int):Rat)=1:=rfl
          rw[e1,Rat.one_mul]
          exact Dv (hok k hk)
        have hlen:=nJ (s:=s) (z:=z) k
        simp only[aR,z7 hk,z7 hlk,z7 (show (k:Int)<s.2.length by omega),cT,z9,eg (show k<=1000000 by omega),Bool.or_true,Bool.and_self,
         dV (show ((eT s z k).length+1)*16<=140737488355328 by omega)]
        by_cases c:(l.getD k (0,0)).1=0
        ·rw[z7 c,cT]
         have e2:eT s z (k+1)=eT s z k++[(List.getD s.2 k ({ data:={ toList:=[] } },[],false)).1]:=by
          show (if z k then eT s z k++[rnS s k] else eT s z k)=_
          rw[hz,if_pos (z7 c)]
          rfl
         rw[<-e2]
         rw[hL',ai]
         rcases hG with h5 | ⟨h5,h6⟩
         ·rw[h5];rfl
         ·rw[h5,h6]
          simp only[d1,decide_true,cT,cF,Bool.not_true,Bool.not_false,Bool.or_true,Bool.and_self]
        ·rw[z8 c,cF]
         have e2:eT s z (k+1)=eT s z k:=by
          show (if z k then eT s z k++[rnS s k] else eT s z k)=_
          rw[hz,if_neg (by rw[decide_eq_true_iff];exact c)]
         rw[e2]
         rw[hL',ai]
         rcases hG with h5 | ⟨h5,h6⟩
         ·rw[h5];rfl
         ·rw[h5,h6]
          simp only[d1,decide_true,cT,cF,Bool.not_true,Bool.not_false,Bool.or_true,Bool.and_self]
       ·have hlen:=nJ (s:=s) (z:=z) s.2.length
        simp only[z8 (show ¬ (s.2.length:Int)<s.2.length by omega),cF,cT,hal,LR l l (by omega),L2 _ _ (show (eT s z s.2.length).length<=1000000 by omega),decide_true,ai]
    ·have hAll:∀k,k<s.2.length->E k=5:=fun k hk=>by
      have hfk:¬ gX (an (dt s (fU s k (-1)))):=fun h=>hfo ((hfit k hk).2 h)
      rcases (hAE k hk).2 with ⟨h,_⟩ | ⟨_,_,h,_⟩ | ⟨_,_,h,_⟩ | ⟨_,h,_⟩
      ·exact h
      ·exact (hfk h).elim
      ·exact (hfk h).elim
      ·exact (hfk h).elim
     have hsl:=wq hv (e:=5) (by omega) (A:=A) fun k hk=>by rw[(hAE k hk).1,hAll k hk]
     rw[hsl,ai]
     generalize decide (e=5)=c5
     cases c5<;>rfl
   ·rw[h0];rfl
   ·rw[h0];rfl
   ·rw[h0];rfl
end Go.Proofs.YtfknoaclabfdlaaGreat
