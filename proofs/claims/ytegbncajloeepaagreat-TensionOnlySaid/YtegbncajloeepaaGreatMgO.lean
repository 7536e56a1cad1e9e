/- Tables of numbers as lists of rows, and loops over them. Systems: the matrix of both programs. Programs: sums of numbers times fractions. Programs: which points are feasible, as the program tells it. Systems: their programs, as both programs make them. Programs: feasible points and values, in both programs. The law ProgramForms. Programs: columns and right sides. Programs: the signs of multipliers. Programs: sums of columns below numbers; refutations. Programs: refutations, as the program tells them. Programs: refutations, as they are specified. Programs: refutations are the same in both programs. Systems: the law SlackPrograms. Programs: products of two numbers, their differences and quotients. Programs: a step of the table. Programs: the row that leaves, the sums of artificial rows, and the reduced costs. Programs: the sums of artificial rows, and the reduced costs. Programs: improving a table to the least value. Programs: finding a feasible basis. Programs: the first table. Programs: which programs fit. Programs: what Solve answers. Programs: what Farkas answers. Programs: answers that are proved, in both programs. Programs: points, multipliers and refutations are those of the theory. Programs: the sums of what the solver returns fit, so that its answers are accepted. Programs: what the solver says of a program; the law ProgramBeats. Programs, as they are specified: the layout of the table, and a step of it. Programs, as they are specified: steps until the last row has no negative number. Programs, as they are specified: artificial variables leave the basis. Programs, as they are specified: the first table. Programs, as they are specified: the least value. Programs: the law ProgramSolves. Systems: what the solver says of their programs. Systems: equilibria, as the program checks them. Systems: the law SlackHolds. Systems: the law SlackBounds. Systems: the law SlackLeast. Claims about tensions: their parts, and what Check of both programs answers. Elimination: a step of two products and a quotient, and tables of rows that change places. Elimination: the theory; a matrix beside a unit matrix, and its table. Elimination: what the program's function answers. Elimination: how great the numbers are, and what a finished table proves. Elimination: what linear.Solve answers. Systems: the law SlackOnly. Claims about tensions: Claim is right; it decides. Claims about tensions: tensions that are the only ones decide. -/
import Derived.KernelRfl
import Derived.Test.YtegbncajloeepaaGreatMgN

namespace Go.Proofs.YtegbncajloeepaaGreat
namespace Dn
section
variable {α R:Type} {F:(α->Option R)->α->Option R}
theorem Bm (n:Nat) (st:Nat->α) (r:Option R) (hb:∀again i,i<n->F again (st i)=again (st (i+1))) (hf:∀again,F again (st n)=r):∀(k i m:Nat),i+k=n->k<m->jS F m (st i)=r
 | 0,i,m,h1,h2=>by
  obtain ⟨m,rfl⟩:∃m',m=m'+1:=⟨m - 1,by omega⟩
  rw[ii,show i=n by omega,hf]
 | k+1,i,m,h1,h2=>by
  obtain ⟨m,rfl⟩:∃m',m=m'+1:=⟨m - 1,by omega⟩
  rw[ii,hb _ _ (by omega)]
  exact Bm n st r hb hf k (i+1) m (by omega) (by omega)
theorem vq (n:Nat) (hn:n<=1180591620717411303423) (st:Nat->α) (r:Option R) (hb:∀again i,i<n->F again (st i)=again (st (i+1))) (hf:∀again,F again (st n)=r):lpK α R F (st 0)=r :=
 Bm n st r hb hf n 0 K0 (by omega) (by unfold K0;omega)
theorem dE {x:α} (n:Nat) (hn:n<=1180591620717411303423) (st:Nat->α) (r:Option R) (hx:x=st 0) (hb:∀again i,i<n->F again (st i)=again (st (i+1))) (hf:∀again,F again (st n)=r):lpK α R F x=r:=by
 rw[hx]
 exact vq n hn st r hb hf
theorem FG (I:α->Prop) (Q:R->Prop) (μ:α->Nat) (h:∀x,I x->(∃r,Q r/\∀rec,F rec x=some r)\/∃y,I y/\μ y<μ x/\∀rec,F rec x=rec y):∀(m:Nat) (x:α),I x->μ x<m->∃r,jS F m x=some r/\Q r
 | 0,_,_,hm=>by omega
 | m+1,x,hx,hm=>by
  rw[ii]
  rcases h x hx with ⟨r,h1,h2⟩ | ⟨y,h1,h2,h3⟩
  ·exact ⟨r,h2 _,h1⟩
  ·rw[h3]
   exact FG I Q μ h m y h1 (by omega)
theorem SS (I:α->Prop) (Q:R->Prop) (μ:α->Nat) (h:∀x,I x->(∃r,Q r/\∀rec,F rec x=some r)\/∃y,I y/\μ y<μ x/\∀rec,F rec x=rec y) {x:α} (hx:I x) (hn:μ x<1180591620717411303424):∃r,lpK α R F x=some r/\Q r :=
 FG I Q μ h K0 x hx hn
theorem BC {γ:Type} (I:γ->α->Prop) (Q:R->Prop) (μ:γ->Nat) (h:∀s x,I s x->(∃r,Q r/\∀rec,F rec x=some r)\/∃s' y,I s' y/\μ s'<μ s/\∀rec,F rec x=rec y):∀(m:Nat) (s:γ) (x:α),I s x->μ s<m->∃r,jS F m x=some r/\Q r
 | 0,_,_,_,hm=>by omega
 | m+1,s,x,hx,hm=>by
  rw[ii]
  rcases h s x hx with ⟨r,h1,h2⟩ | ⟨s',y,h1,h2,h3⟩
  ·exact ⟨r,h2 _,h1⟩
  ·rw[h3]
   exact BC I Q μ h m s' y h1 (by omega)
theorem Rm {γ:Type} (I:γ->α->Prop) (Q:R->Prop) (μ:γ->Nat) (h:∀s x,I s x->(∃r,Q r/\∀rec,F rec x=some r)\/∃s' y,I s' y/\μ s'<μ s/\∀rec,F rec x=rec y) {s:γ} {x:α} (hx:I s x) (hn:μ s<1180591620717411303424):∃r,lpK α R F x=some r/\Q r :=
 BC I Q μ h K0 s x hx hn
theorem BE {γ:Type} (I:γ->α->Prop) (Q:Option R->Prop) (μ:γ->Nat) (h:∀rec s x,I s x->Q (F rec x)\/∃s' y,I s' y/\μ s'<μ s/\F rec x=rec y):∀(m:Nat) (s:γ) (x:α),I s x->μ s<m->Q (jS F m x)
 | 0,_,_,_,hm=>by omega
 | m+1,s,x,hx,hm=>by
  rw[ii]
  rcases h (jS F m) s x hx with h1 | ⟨s',y,h1,h2,h3⟩
  ·exact h1
  ·rw[h3]
   exact BE I Q μ h m s' y h1 (by omega)
theorem sK {γ:Type} (I:γ->α->Prop) (Q:Option R->Prop) (μ:γ->Nat) (h:∀rec s x,I s x->Q (F rec x)\/∃s' y,I s' y/\μ s'<μ s/\F rec x=rec y) {s:γ} {x:α} (hx:I s x) (hn:μ s<1180591620717411303424):Q (lpK α R F x) :=
 BE I Q μ h K0 s x hx hn
theorem nJ {x:α} (Q:Option R->Prop) (n:Nat) (hn:n<=1180591620717411303423) (st:Nat->α) (hx:x=st 0) (hb:∀again i,i<n->F again (st i)=again (st (i+1))) (hf:∀again,Q (F again (st n))):Q (lpK α R F x) :=
 sK (γ:=Nat) (fun i x=>i<=n/\x=st i) Q (fun i=>n - i) (fun rec i x ⟨h1,h2⟩=>by
  by_cases e:i=n
  ·subst h2;subst e;exact .inl (hf rec)
  ·exact .inr ⟨i+1,st (i+1),⟨by omega,rfl⟩,by omega,by rw[h2];exact hb rec i (by omega)⟩) (s:=0) ⟨by omega,hx⟩ (by omega)
theorem yc {x:α} (Q:Option R->Prop) (n:Nat) (hn:n<=1180591620717411303423) (I:Nat->α->Prop) (hx:I 0 x) (hb:∀again i x,i<n->I i x->∃y,I (i+1) y/\F again x=again y) (hf:∀again x,I n x->Q (F again x)):Q (lpK α R F x) :=
 sK (γ:=Nat) (fun i x=>i<=n/\I i x) Q (fun i=>n - i) (fun rec i x ⟨h1,h2⟩=>by
  by_cases e:i=n
  ·subst e;exact .inl (hf rec x h2)
  ·obtain ⟨y,h3,h4⟩:=hb rec i x (by omega) h2
   exact .inr ⟨i+1,y,⟨by omega,h3⟩,by omega,h4⟩) (s:=0) ⟨by omega,hx⟩ (by omega)
end
theorem su (n:Nat) (p:Nat->Bool):(∀j,j<n->p j=false)\/∃j,j<n/\p j=true/\∀i,i<j->p i=false:=by
 induction n with
 | zero=>exact .inl fun j hj=>by omega
 | succ n ih =>
  rcases ih with h | ⟨j,h1,h2,h3⟩
  ·cases hp:p n with
   | true=>exact .inr ⟨n,by omega,hp,h⟩
   | false =>
    refine .inl fun j hj=>?_
    by_cases e:j=n
    ·rw[e];exact hp
    ·exact h j (by omega)
  ·exact .inr ⟨j,by omega,h2,h3⟩
def bF {α:Type} (w:Nat) (f:Nat->α):List α:=(List.range w).map f
def lI (m w:Nat) (T:Nat->Nat->Int):List (List Int):=(List.range m).map fun i=>bF w (T i)
def dR (m w:Nat) (T:Nat->Nat->Int):List (Option (List Int)):=(List.range m).map fun i=>some (bF w (T i))
def gH (m w:Nat) (T:Nat->Nat->Int):List Nat×List (Option (List Int)):=(List.range m,dR m w T)
def jt (m:Nat) (β:Nat->Nat):List Int:=bF m fun i=>(β i:Int)
section
variable {α:Type} {m w:Nat} {T T':Nat->Nat->Int}
theorem aA {f:Nat->α}:(bF w f).length=w:=by unfold bF;rw[List.length_map,List.length_range]
theorem br {f:Nat->α} {d:α} {j:Nat} (h:j<w):(bF w f).getD j d=f j:=by
 unfold bF
 rw[bf (by rw[List.length_map,List.length_range];exact h),List.getElem_map,List.getElem_range]
theorem xM {f:Nat->α} {j:Nat} (h:j<(bF w f).length):(bF w f)[j]=f j :=
 (List.getElem_map f (l:=List.range w) (h:=h)).trans (congrArg f (List.getElem_range _))
theorem cW {f g:Nat->α} (h:∀j,j<w->f j=g j):bF w f=bF w g:=by
 unfold bF
 exact List.map_congr_left fun j hj=>h j (List.mem_range.1 hj)
theorem kr {f:Nat->α} {j:Nat} {x:α} (_:j<w):(bF w f).set j x=bF w fun k=>if k=j then x else f k:=by
 refine List.ext_getElem (by rw[List.length_set,aA,aA]) fun i h1 h2=>?_
 have h3:i<w:=by rw[aA] at h2;exact h2
 rw[List.getElem_set,xM,xM]
 by_cases e:j=i
 ·rw[if_pos e,if_pos e.symm]
 ·rw[if_neg e,if_neg (Ne.symm e)]
theorem eH:(lI m w T).length=m:=by unfold lI;rw[List.length_map,List.length_range]
theorem io {i:Nat} (h:i<m):(lI m w T).getD i []=bF w (T i):=by
 unfold lI
 rw[bf (by rw[List.length_map,List.length_range];exact h),List.getElem_map,List.getElem_range]
theorem mJ:(dR m w T).length=m:=by unfold dR;rw[List.length_map,List.length_range]
theorem gb:(gH m w T).1.length=m:=by unfold gH;exact List.length_range
theorem iX {i:Nat} (h:i<m):(gH m w T).1.getD i 0=i:=by
 unfold gH
 rw[bf (by rw[List.length_range];exact h),List.getElem_range]
theorem pA {i:Nat} (h:i<m):(dR m w T).getD i none=some (bF w (T i)):=by
 unfold dR
 rw[bf (by rw[List.length_map,List.length_range];exact h),List.getElem_map,List.getElem_range]
theorem FK {i:Nat} (h:i<(dR m w T).length):(dR m w T)[i]=some (bF w (T i)) :=
 (List.getElem_map (fun i=>some (bF w (T i))) (l:=List.range m) (h:=h)).trans (congrArg (fun i=>some (bF w (T i))) (List.getElem_range _))
theorem gS {i:Nat} (h:i<m):bq (dR m w T) i=bF w (T i):=by unfold bq;rw[pA h];rfl
theorem wI {i:Nat} (h:i<m):fE (dR m w T) i=true:=by unfold fE;rw[pA h];rfl
theorem iU (h:∀i j,i<m->j<w->T i j=T' i j):dR m w T=dR m w T':=by
 unfold dR
 exact List.map_congr_left fun i hi=>by rw[cW fun j hj=>h i j (List.mem_range.1 hi) hj]
theorem jL (h:∀i j,i<m->j<w->T i j=T' i j):gH m w T=gH m w T':=by unfold gH;rw[iU h]
theorem Fw {i j:Nat} {x:Int} (_:i<m) (hj:j<w):(dR m w T).set i (some ((bF w (T i)).set j x))=dR m w fun k l=>if k=i/\l=j then x else T k l:=by
 rw[kr hj]
 refine List.ext_getElem (by rw[List.length_set,mJ,mJ]) fun k h1 h2=>?_
 have h3:k<m:=by rw[mJ] at h2;exact h2
 rw[List.getElem_set,FK,FK]
 by_cases e:i=k
 ·subst e
  rw[if_pos rfl]
  congr 1
  refine cW fun l _=>?_
  simp
 ·rw[if_neg e]
  congr 1
  refine cW fun l _=>?_
  rw[if_neg fun h=>e h.1.symm]
theorem gP:((gH m w T).1.all fun x=>fE (gH m w T).2 x)=true:=by
 rw[List.all_eq_true]
 intro i hi
 exact wI (List.mem_range.1 hi)
theorem gQ:(gH m w T).1.map (fun x=>bq (gH m w T).2 x)=lI m w T:=by
 unfold gH lI
 exact List.map_congr_left fun i hi=>gS (List.mem_range.1 hi)
theorem ju {β:Nat->Nat}:(jt m β).length=m:=aA
theorem ki {β:Nat->Nat} {i:Nat} (h:i<m):(jt m β).getD i 0=(β i:Int):=br h
theorem KT {β:Nat->Nat} {r c:Nat} (h:r<m):(jt m β).set r (c:Int)=jt m (upd β r c):=by
 unfold jt
 rw[kr h]
 refine cW fun k _=>?_
 unfold upd
 by_cases e:k=r
 ·rw[if_pos e,if_pos e]
 ·rw[if_neg e,if_neg e]
end
end Dn
end Go.Proofs.YtegbncajloeepaaGreat

namespace Go.Proofs.YtegbncajloeepaaGreat
noncomputable section
open Tryz Dn Dn.Sh
def bnS (s:Sy) (i:Nat):ByteArray:=(s.1.getD i bk0).1
def bwS (s:Sy) (i:Nat):Int:=(s.1.getD i bk0).2
def rnS (s:Sy) (k:Nat):ByteArray:=(s.2.getD k rp0).1
def hsS (s:Sy) (k:Nat):List Hd:=(s.2.getD k rp0).2.1
structure ValidS (s:Sy):Prop where
 bl:1<=s.1.length/\s.1.length<=6
 rl:1<=s.2.length/\s.2.length<=6
 inj:∀i j,i<s.1.length->j<s.1.length->bnS s i=bnS s j->i=j
 rinj:∀i j,i<s.2.length->j<s.2.length->rnS s i=rnS s j->i=j
 wt:∀i,i<s.1.length->0<=bwS s i/\bwS s i<=16777216
 hl:∀k,k<s.2.length->(hsS s k).length<=10
 pl:∀k h,k<s.2.length->h<(hsS s k).length-> -2<=((hsS s k).getD h hd0).2.1/\((hsS s k).getD h hd0).2.1<=2
theorem pO {n i:Nat} (h:i<n):i ∈ List.range' 0 n:=List.mem_range'.2 ⟨i,h,by omega⟩
theorem D1 {s:Sy} {h:Hd} {e:Bool} (hh:oc s h e=true): -2<=h.2.1/\h.2.1<=2:=by
 unfold oc at hh
 rw[z10] at hh
 have h2:=hh.2
 cases he:qp h.1 with
 | true=>rw[he,cT,decide_eq_true_iff] at h2;omega
 | false =>
  rw[he,cF,z10] at h2
  have h3:=h2.2
  cases e with
  | true=>rw[cT,Bool.or_eq_true,decide_eq_true_iff,decide_eq_true_iff] at h3;omega
  | false=>rw[cF,Bool.or_eq_true,Bool.or_eq_true,decide_eq_true_iff,decide_eq_true_iff,decide_eq_true_iff] at h3;omega
theorem mE {l:List ByteArray} {i j:Nat} {d:ByteArray} (h1:i<j) (h2:j<=l.length):l.getD i d ∈ l.take j:=by
 rw[bf (by omega)]
 exact List.mem_take_iff_getElem.2 ⟨i,by omega,rfl⟩
theorem ll {s:Sy} (h:jJ s=true):ValidS s:=by
 unfold jJ at h
 rw[z10,z10,z10,decide_eq_true_iff,List.all_eq_true,List.all_eq_true] at h
 obtain ⟨⟨h1,h2,h3,h4⟩,hb,hr,_⟩:=h
 have hb':∀i,i<s.1.length->bnS s i ∉ (s.1.map (·.fst)).take i/\0<=bwS s i/\bwS s i<=16777216:=fun i hi=>by
  have:=hb i (pO hi)
  unfold qW qU at this
  rw[z10,z10,z10,Bool.not_eq_true',uU,decide_eq_true_iff,decide_eq_true_iff] at this
  exact this.2
 have hr':∀i,i<s.2.length->rnS s i ∉ (s.2.map (·.fst)).take i/\vl s (s.2.getD i rp0)=true:=fun i hi=>by
  have:=hr i (pO hi)
  unfold jA at this
  rw[z10,z10,Bool.not_eq_true',uU,List.mem_append] at this
  exact ⟨fun hm=>this.2.1 (.inr hm),this.2.2⟩
 have hro:∀k,k<s.2.length->(2<=(hsS s k).length/\(hsS s k).length<=10)/\∀i,i<(hsS s k).length->∃e,oc s ((hsS s k).getD i hd0) e=true:=fun k hk=>by
  have:=(hr' k hk).2
  unfold vl at this
  rw[z10,z10,decide_eq_true_iff,List.all_eq_true] at this
  exact ⟨this.1,fun i hi=>⟨_,this.2.1 i (pO hi)⟩⟩
 refine ⟨⟨h1,h2⟩,⟨h3,h4⟩,fun i j hi hj he=>?_,fun i j hi hj he=>?_,fun i hi=>(hb' i hi).2,fun k hk=>(hro k hk).1.2,fun k h hk hh=>?_⟩
 ·have e1:∀k,k<s.1.length->(s.1.map (·.fst)).getD k bk0.1=bnS s k:=fun k hk=>sV (f:=fun b:Bk=>b.1) (d:=bk0) hk bk0.1
  rcases Nat.lt_trichotomy i j with h | h | h
  ·exfalso
   apply (hb' j hj).1
   rw[<-he,<-e1 i hi]
   exact mE h (by rw[List.length_map];omega)
  ·exact h
  ·exfalso
   apply (hb' i hi).1
   rw[he,<-e1 j hj]
   exact mE h (by rw[List.length_map];omega)
 ·have e1:∀k,k<s.2.length->(s.2.map (·.fst)).getD k rp0.1=rnS s k:=fun k hk=>sV (f:=fun b:Rp=>b.1) (d:=rp0) hk rp0.1
  rcases Nat.lt_trichotomy i j with h | h | h
  ·exfalso
   apply (hr' j hj).1
   rw[<-he,<-e1 i hi]
   exact mE h (by rw[List.length_map];omega)
  ·exact h
  ·exfalso
   apply (hr' i hi).1
   rw[he,<-e1 j hj]
   exact mE h (by rw[List.length_map];omega)
 ·obtain ⟨e,he⟩:=(hro k hk).2 h hh
  exact D1 he
theorem I5 (s:Sy) (n:ByteArray):(fbI s n<0/\∀i,i<s.1.length->bnS s i≠n)\/∃i:Nat,i<s.1.length/\fbI s n=(i:Int)/\bnS s i=n:=by
 by_cases h:fbI s n<0
 ·refine .inl ⟨h,fun i hi he=>?_⟩
  have:=(zn (p:=fun b:Bk=>decide (b.1=n)) (l:=s.1) (i:=0) (by omega)).1 h (s.1.getD i bk0) (by rw[bf hi];exact List.getElem_mem _)
  exact of_decide_eq_false this he
 ·obtain ⟨_,h2,h3⟩:=Il (p:=fun b:Bk=>decide (b.1=n)) (d:=bk0) (l:=s.1) (i:=0) (by omega) (Int.not_lt.1 h)
  refine .inr ⟨(fbI s n).toNat,?_,?_,?_⟩
  ·unfold fbI;omega
  ·unfold fbI at h ⊢;omega
  ·have:=z12 h3
   rw[Int.sub_zero] at this
   exact this
def om (hs:List Hd) (n:ByteArray) (h:Nat):Int:=sz h fun t=>if (hs.getD t hd0).1=n then (hs.getD t hd0).2.1 else 0
def Mx (s:Sy) (i k:Nat):Int:=om (hsS s k) (bnS s i) (hsS s k).length
theorem rR {hs:List Hd} {n:ByteArray} (hp:∀t,t<hs.length-> -2<=(hs.getD t hd0).2.1/\(hs.getD t hd0).2.1<=2):∀h,h<=hs.length-> -(2*(h:Int))<=om hs n h/\om hs n h<=2*(h:Int)
 | 0,_=>by simp[om,sz]
 | h+1,hh=>by
  have:=rR (n:=n) hp h (by omega)
  have h2:=hp h (by omega)
  unfold om at *
  simp only[sz]
  split<;>omega
theorem E9 {s:Sy} (hv:ValidS s) (i:Nat) {k:Nat} (hk:k<s.2.length): -20<=Mx s i k/\Mx s i k<=20:=by
 have h1:=rR (n:=bnS s i) (hs:=hsS s k) (fun t ht=>hv.pl k t hk ht) _ (Nat.le_refl _)
 have h2:=hv.hl k hk
 unfold Mx
 omega
theorem ia {i:Nat} (h:i<=1000000):IntKind.wrap .i64 ((i:Int)+1)=((i+1:Nat):Int):=by rw[aO (by omega) (by omega)];rfl
def JA (s:Sy):List (List Int):=lI s.1.length s.2.length (Mx s)
theorem Aa {α:Type} {w:Nat} {f:Nat->α}:bF w f++[f w]=bF (w+1) f:=by
 unfold bF
 rw[List.range_succ,List.map_append]
 rfl
theorem FT {m w:Nat} {T:Nat->Nat->Int}:dR m w T++[some (bF w (T m))]=dR (m+1) w T:=by
 unfold dR
 rw[List.range_succ,List.map_append]
 rfl
def Vx (T:List Nat) (x0:Sy):Option (List (List Int)×Int×Unit) :=
 ah (ba x0) fun (t:Bool)=>bif !t then some ([],(1:Int),PUnit.unit) else bif decide ((0:Int)<=(↑(List.length x0.1):Int))&&dM (Int.toNat (↑(List.length x0.1):Int)) (24:Nat) then lpK (Int×(List Nat×List (Option (List Int)))×PUnit) (List (List Int)×Int×PUnit) (fun (again:Int×(List Nat×List (Option (List Int)))×PUnit->Option (List (List Int)×Int×PUnit)) (x:Int×(List Nat×List (Option (List Int)))×PUnit)=>bif decide (x.1<(↑(List.length T):Int)) then bif decide ((0:Int)<=(↑(List.length x0.2):Int))&&dM (Int.toNat (↑(List.length x0.2):Int)) (8:Nat) then bif inB x.1 (List.length x.2.1.1) then bif Nat.ble (Nat.succ (Int.toNat x.1)) (List.length x.2.1.1) then again (IntKind.wrap .i64 (x.1+(1:Int)),(List.set x.2.1.1 (Int.toNat x.1) (List.length x.2.1.2),x.2.1.2++[some (List.replicate (Int.toNat (↑(List.length x0.2):Int)) (0:Int))]),PUnit.unit) else none else none else none else lpK (Int×(List Nat×List (Option (List Int)))×PUnit) (List (List Int)×Int×PUnit) (fun (again:Int×(List Nat×List (Option (List Int)))×PUnit->Option (List (List Int)×Int×PUnit)) (x:Int×(List Nat×List (Option (List Int)))×PUnit)=>bif decide (x.1<(↑(List.length x0.2):Int)) then bif inB x.1 (List.length x0.2) then lpK (Int×(List Nat×List (Option (List Int)))×PUnit) (List (List Int)×Int×PUnit) (fun (again_1:Int×(List Nat×List (Option (List Int)))×PUnit->Option (List (List Int)×Int×PUnit)) (x_1:Int×(List Nat×List (Option (List Int)))×PUnit)=>let v10:Int:=IntKind.wrap .i64 (x_1.1+(1:Int));let v11:(List Nat×List (Option (List Int)))×PUnit:=(x_1.2.1,PUnit.unit);let v12:ByteArray×Int×Int×Int:=List.getD (List.getD x0.2 (Int.toNat x.1) ({ data:={ toList:=[] } },[],false)).2.1 (Int.toNat x_1.1) ({ data:={ toList:=[] } },(0:Int),(0:Int),(0:Int));bif decide (x_1.1<(↑(List.length (List.getD x0.2 (Int.toNat x.1) ({ data:={ toList:=[] } },[],false)).2.1):Int)) then bif inB x_1.1 (List.length (List.getD x0.2 (Int.toNat x.1) ({ data:={ toList:=[] } },[],false)).2.1) then ah (cb x0 v12.1) fun (t:Int)=>bif decide (t>=(0:Int)) then bif inB t (List.length x_1.2.1.1) then bif Nat.ble (Nat.succ (Int.toNat t)) (List.length x_1.2.1.1) then bif inB x.1 (List.length (bq x_1.2.1.2 (List.getD x_1.2.1.1 (Int.toNat t) (0:Nat)))) then bif Nat.ble (Nat.succ (Int.toNat x.1)) (List.length (bq x_1.2.1.2 (List.getD x_1.2.1.1 (Int.toNat t) (0:Nat)))) then bif inB x.1 (List.length (bq x_1.2.1.2 (List.getD x_1.2.1.1 (Int.toNat t) (0:Nat)))) then bif Nat.ble (Nat.succ (Int.toNat x.1)) (List.length (bq x_1.2.1.2 (List.getD x_1.2.1.1 (Int.toNat t) (0:Nat)))) then again_1 (v10,(x_1.2.1.1,List.set x_1.2.1.2 (List.getD x_1.2.1.1 (Int.toNat t) (0:Nat)) (some (List.set (bq x_1.2.1.2 (List.getD x_1.2.1.1 (Int.toNat t) (0:Nat))) (Int.toNat x.1) (IntKind.wrap .i64 (List.getD (bq x_1.2.1.2 (List.getD x_1.2.1.1 (Int.toNat t) (0:Nat))) (Int.toNat x.1) (0:Int)+v12.2.1))))),PUnit.unit) else none else none else none else none else none else none else again_1 (v10,v11) else none else again (IntKind.wrap .i64 (x.1+(1:Int)),v11)) ((0:Int),x.2.1,PUnit.unit) else none else bif List.all x.2.1.1 fun (x_1:Nat)=>fE x.2.1.2 x_1 then some (List.map (fun (x_1:Nat)=>bq x.2.1.2 x_1) x.2.1.1,(0:Int),PUnit.unit) else none) ((0:Int),x.2.1,PUnit.unit)) ((0:Int),(T,List.replicate (Int.toNat (↑(List.length x0.1):Int)) (some [])),PUnit.unit) else none
theorem Pz (s:Sy):aY s=Vx (Av Sh.ref (0:Nat) (Int.toNat (↑(List.length s.1):Int)) 0) s:=by kernel_rfl
theorem zT:∀(n k:Nat),Av Sh.ref (0:Nat) n k=(List.range n).map fun i=>k+i
 | 0,_=>rfl
 | n+1,k=>by
  rw[List.range_succ_eq_map,List.map_cons,List.map_map]
  unfold Av
  rw[zT n (k+1)]
  have e:shS k Sh.ref (0:Nat)=k+0:=rfl
  rw[e]
  congr 1
  refine List.map_congr_left fun i _=>?_
  simp only[Function.comp]
  omega
def xA (m w:Nat) (T:Nat->Nat->Int):List Nat×List (Option (List Int)):=(bF m fun k=>m+k,List.replicate m (some [])++dR m w T)
theorem MR {n:Nat}:List.replicate n (0:Int)=bF n fun _=>0:=by
 unfold bF
 rw[List.map_const',List.length_range]
section
variable {m w:Nat} {T:Nat->Nat->Int}
theorem ER {i:Nat}:(List.replicate m (some ([]:List Int))++dR m w T).getD (m+i) none=(dR m w T).getD i none:=by
 rw[List.getD_eq_getElem?_getD,List.getD_eq_getElem?_getD,List.getElem?_append_right (by rw[List.length_replicate];omega),List.length_replicate,Nat.add_sub_cancel_left]
theorem EC {i:Nat} (h:i<m):bq (List.replicate m (some ([]:List Int))++dR m w T) (m+i)=bF w (T i):=by
 unfold bq
 rw[ER,pA h]
 rfl
theorem I9 {i:Nat} (h:i<m):fE (List.replicate m (some ([]:List Int))++dR m w T) (m+i)=true:=by
 unfold fE
 rw[ER,pA h]
 rfl
theorem KO {i j:Nat} {x:Int} (hi:i<m) (hj:j<w):(List.replicate m (some ([]:List Int))++dR m w T).set (m+i) (some ((bF w (T i)).set j x))=List.replicate m (some [])++dR m w fun k l=>if k=i/\l=j then x else T k l:=by
 rw[List.set_append_right _ _ (by rw[List.length_replicate];omega),List.length_replicate,Nat.add_sub_cancel_left,Fw hi hj]
end
theorem HN {s:Sy} (h:jJ s=true):aY s=some (JA s,0,()):=by
 have hv:=ll h
 have hb:=hv.bl
 have hr:=hv.rl
 have hf:=fun n=>Du s n (show s.1.length<=1000000 by omega)
 rw[Pz,zT]
 simp only[Vx,Hr,h,af,Bool.not_true,cF,z9,List.length_map,List.length_range,z7 (show (0:Int)<=(s.1.length:Nat) by omega),z7 (show (0:Int)<=(s.2.length:Nat) by omega),
  fa (show s.1.length*24<=140737488355328 by omega),fa (show s.2.length*8<=140737488355328 by omega),Bool.and_self,cT]
 obtain ⟨m,hm⟩:∃m,m=s.1.length:=⟨_,rfl⟩
 obtain ⟨w,hw⟩:∃w,w=s.2.length:=⟨_,rfl⟩
 rw[<-hm] at hb ⊢
 rw[<-hw] at hr ⊢
 refine dE m (by omega) (fun i=>((i:Int),(bF m (fun k=>if k<i then m+k else k),List.replicate m (some [])++dR i w fun _ _=>0),PUnit.unit)) _ ?_ (fun again i hi=>?_) (fun again=>?_)
 ·have e:(List.range m).map (fun i=>0+i)=bF m (fun k=>if k<0 then m+k else k):=cW (f:=fun i=>0+i) fun k _=>by rw[if_neg (by omega),Nat.zero_add]
  rw[e]
  show _=((0:Int),(_,List.replicate m (some ([]:List Int))++[]),PUnit.unit)
  rw[List.append_nil]
 ·simp only[aW,aA,z7 hi,z7 (show (i:Int)<m by omega),cT,z9,cM (show i.succ<=m by omega),ia (show i<=1000000 by omega)]
  refine congrArg again ?_
  refine congrArg (fun p=>(((i+1:Nat):Int),p,PUnit.unit)) ?_
  rw[kr hi,List.length_append,List.length_replicate,mJ,MR,List.append_assoc,FT]
  refine congrArg (fun l=>(l,_)) ?_
  refine cW fun k _=>?_
  by_cases c:k=i
  ·rw[if_pos c,if_pos (by omega)];omega
  ·rw[if_neg c]
   by_cases c2:k<i
   ·rw[if_pos c2,if_pos (by omega)]
   ·rw[if_neg c2,if_neg (by omega)]
 ·simp only[z8 (show ¬ (m:Int)<m by omega),cF]
  refine dE w (by omega) (fun k=>((k:Int),xA m w (fun i j=>if j<k then Mx s i j else 0),PUnit.unit)) _ ?_ (fun again k hk=>?_) (fun again=>?_)
  ·refine congrArg (fun p=>((0:Int),p,PUnit.unit)) ?_
   unfold xA
   refine Prod.ext (cW fun k hk=>by rw[if_pos hk]) ?_
   simp only
   rw[iU fun i j _ _=>(if_neg (show ¬ j<0 by omega)).symm]
  ·have hwk:k<s.2.length:=by omega
   have hpl:=fun t ht=>hv.pl k t hwk ht
   have hhl:=hv.hl k hwk
   have hpb:=fun n=>rR (n:=n) (hs:=hsS s k) hpl
   simp only[aW,z7 hk,z7 (show (k:Int)<w by omega),cT,z9,ia (show k<=1000000 by omega),show (List.getD s.2 k ({ data:={ toList:=[] } },[],false)).2.1=hsS s k from rfl]
   refine dE (hsS s k).length (by omega) (fun t=>((t:Int),xA m w (fun i j=>if j<k then Mx s i j else if j=k then om (hsS s k) (bnS s i) t else 0),PUnit.unit)) _ ?_ (fun again1 t ht=>?_) (fun again1=>?_)
   ·refine congrArg (fun p=>((0:Int),p,PUnit.unit)) ?_
    unfold xA
    refine congrArg (fun c=>(_,List.replicate m (some ([]:List Int))++c)) (iU fun i j _ _=>?_)
    by_cases c1:j<k
    ·rw[if_pos c1,if_pos c1]
    ·rw[if_neg c1,if_neg c1]
     split<;>rfl
   ·obtain ⟨hd,hhd⟩:∃hd,hd=(hsS s k).getD t hd0:=⟨_,rfl⟩
    have hpt:=hpl t ht
    simp only[aW,z7 ht,z7 (show (t:Int)<(hsS s k).length by omega),cT,z9,ia (show t<=1000000 by omega),show List.getD (hsS s k) t ({ data:={ toList:=[] } },(0:Int),(0:Int),(0:Int))=(hsS s k).getD t hd0 from rfl,hf,af]
    rw[<-hhd] at hpt ⊢
    have estep:∀n,om (hsS s k) n (t+1)=om (hsS s k) n t+if hd.1=n then hd.2.1 else 0:=fun n=>by rw[hhd];rfl
    rcases I5 s hd.1 with ⟨h1,h2⟩ | ⟨i0,h1,h2,h3⟩
    ·rw[z8 (show ¬ fbI s hd.1>=0 by omega),cF]
     refine congrArg again1 ?_
     refine congrArg (fun p=>(((t+1:Nat):Int),p,PUnit.unit)) ?_
     unfold xA
     refine congrArg (fun c=>(_,List.replicate m (some ([]:List Int))++c)) (iU fun i j hi _=>?_)
     have e:om (hsS s k) (bnS s i) (t+1)=om (hsS s k) (bnS s i) t:=by
      rw[estep,if_neg fun e=>h2 i (by omega) e.symm,Int.add_zero]
     rw[e]
    ·have hi0:i0<m:=by omega
     have hTl:(bF m fun k=>m+k).getD i0 0=m+i0:=br hi0
     have hrow:=EC (w:=w) (T:=fun i j=>if j<k then Mx s i j else if j=k then om (hsS s k) (bnS s i) t else 0) hi0
     have hget:(bF w fun j=>if j<k then Mx s i0 j else if j=k then om (hsS s k) (bnS s i0) t else 0).getD k 0=om (hsS s k) (bnS s i0) t:=by
      rw[br hk,if_neg (by omega),if_pos rfl]
     have hb1:=hpb (bnS s i0) t (by omega)
     simp only[h2,z7 (show (i0:Int)>=0 by omega),cT,z9]
     unfold xA
     simp only[aW,aA,z7 hi0,cT,hTl,hrow,z7 hk,cM (show k.succ<=w by omega),cM (show i0.succ<=m by omega),hget]
     rw[aO (by omega) (by omega),KO (T:=fun i j=>if j<k then Mx s i j else if j=k then om (hsS s k) (bnS s i) t else 0) hi0 hk]
     refine congrArg again1 ?_
     refine congrArg (fun c=>(((t+1:Nat):Int),(_,List.replicate m (some ([]:List Int))++c),PUnit.unit)) (iU fun i j hi _=>?_)
     by_cases c1:j=k
     ·subst c1
      by_cases c2:i=i0
      ·subst c2
       rw[if_pos ⟨rfl,rfl⟩,if_neg (by omega),if_pos rfl,estep,if_pos h3.symm]
      ·rw[if_neg fun e=>c2 e.1,if_neg (by omega),if_pos rfl,if_neg (by omega),if_pos rfl,estep,if_neg,Int.add_zero]
       intro e
       exact c2 (hv.inj i i0 (by omega) h1 (by rw[h3,e]))
     ·rw[if_neg fun e=>c1 e.2,if_neg c1,if_neg c1]
   ·simp only[z8 (show ¬ ((hsS s k).length:Int)<(hsS s k).length by omega),cF]
    refine congrArg again ?_
    refine congrArg (fun p=>(((k+1:Nat):Int),p,PUnit.unit)) ?_
    unfold xA
    refine congrArg (fun c=>(_,List.replicate m (some ([]:List Int))++c)) (iU fun i j _ _=>?_)
    by_cases c1:j<k
    ·rw[if_pos c1,if_pos (by omega)]
    ·rw[if_neg c1]
     by_cases c2:j=k
     ·subst c2
      rw[if_pos rfl,if_pos (by omega)]
      rfl
     ·rw[if_neg c2,if_neg (by omega)]
  ·simp only[z8 (show ¬ (w:Int)<w by omega),cF]
   have hall:((xA m w fun i j=>if j<w then Mx s i j else 0).1.all fun x=>fE (xA m w fun i j=>if j<w then Mx s i j else 0).2 x)=true:=by
    rw[List.all_eq_true]
    intro x hx
    obtain ⟨i,hi,rfl⟩:=List.mem_map.1 hx
    exact I9 (List.mem_range.1 hi)
   have hmap:(xA m w fun i j=>if j<w then Mx s i j else 0).1.map (fun x=>bq (xA m w fun i j=>if j<w then Mx s i j else 0).2 x)=JA s:=by
    unfold JA lI
    rw[<-hm,<-hw]
    unfold xA bF
    rw[List.map_map]
    refine List.map_congr_left fun i hi=>?_
    have:=EC (w:=w) (T:=fun i j=>if j<w then Mx s i j else 0) (List.mem_range.1 hi)
    exact this.trans (cW fun j hj=>if_pos hj)
   rw[hall,hmap,cT]
def fU:List Int->List Fq->Rat->Option Rat
 | n ::l,a ::x,s=>if gB ((n:Rat)*qv a)/\gB (s+(n:Rat)*qv a) then fU l x (s+(n:Rat)*qv a) else none
 | _,_,s=>some s
def Uq {R:Type} (o:Option Rat) (bad:Option R) (good:Rat->Option R):Option R:=match o with
 | some q=>good q
 | none=>bad
theorem Np {σ R:Type} {l:List Int} {x:List Fq} (hl:l.length<=x.length) {b:Nat->σ->(σ->Option R)->Option R} {f:σ->Option R} {cur:σ->Rat} {bad:Option R} {good:Rat->Option R}
  (nx:∀i s,gB (cur s+((l.getD i 0:Int):Rat)*qv (x.getD i (0,0)))->σ) (hnx:∀i s h,cur (nx i s h)=cur s+((l.getD i 0:Int):Rat)*qv (x.getD i (0,0)))
  (hb:∀i s k,i<l.length->b i s k=if h:gB (((l.getD i 0:Int):Rat)*qv (x.getD i (0,0)))/\gB (cur s+((l.getD i 0:Int):Rat)*qv (x.getD i (0,0))) then k (nx i s h.2) else bad)
  (hf:∀s,f s=good (cur s)):∀(k i:Nat) (s:σ),i+k=l.length->upF b f k i s=Uq (fU (l.drop i) (x.drop i) (cur s)) bad good
 | 0,i,s,h=>by
  rw[List.drop_eq_nil_of_le (by omega)]
  exact hf s
 | k+1,i,s,h=>by
  have h1:i<l.length:=by omega
  have h2:i<x.length:=by omega
  have e1:l.getD i 0=l[i]:=bf h1
  have e2:x.getD i (0,0)=x[i]:=bf h2
  simp only[upF]
  rw[hb i s _ h1,List.drop_eq_getElem_cons h1,List.drop_eq_getElem_cons h2,fU,<-e1,<-e2]
  split
  ·rw[Np hl nx hnx hb hf k (i+1) _ (by omega),hnx]
  ·rfl
theorem obN {T R:Type} {t:T} {k:T->Option R}:ah (some t) k=k t:=id rfl
theorem SG {l:List Int} {x:List Fq} {e:Int} (hl:l.length<=x.length) (h0:l.length<=1000000) (hc:∀n ∈ l,-1152921504606846976<=n/\n<=1152921504606846976) (hx:∀a ∈ x,okF a) :
  cg e l x=Uq (fU l x 0) (some (5,(0,1))) fun q=>some (e,prQ q):=by
 simp only[cg,kD]
 refine (lh (α:=Int×Int×Fq×Fq×PUnit) l.length (by omega) (fun i (s:Fq×{q:Rat // gB q})=>((i:Int),e,s.1,prQ s.2.1,PUnit.unit))
  (fun i s k=>if h:gB (((l.getD i 0:Int):Rat)*qv (x.getD i (0,0)))/\gB (s.2.1+((l.getD i 0:Int):Rat)*qv (x.getD i (0,0))) then k (s.1,⟨_,h.2⟩) else some (5,(0,1))) (fun s=>some (e,prQ s.2.1)) ?_ ?_ ((0,0),⟨0,by decide⟩)).trans ?_
 ·intro again i s hi
  have hw:IntKind.wrap .i64 ((i:Int)+1)=((i+1:Nat):Int):=by rw[aO (by omega) (by omega)];rfl
  obtain ⟨w,q,hq⟩:=s
  have hn:l.getD i 0 ∈ l:=by rw[bf hi];exact List.getElem_mem _
  have ha:okF (x.getD i (0,0)):=by rw[bf (show i<x.length by omega)];exact hx _ (List.getElem_mem _)
  have hm:=S6 (CR (hc _ hn).1 (hc _ hn).2) ha
  rw[Nq] at hm
  simp only[aW,z7 hi,z7 (show i<x.length by omega),z7 (show (i:Int)<l.length by omega),cT,z9,hw,sQ,hm,af]
  generalize l.getD i 0=n at *
  generalize x.getD i (0,0)=a at *
  rcases qh ((n:Rat)*qv a) with ⟨f1,e1⟩ | ⟨f1,e1⟩
  ·have hA:=TK (qz hq) (qz f1)
   rw[uq,uq] at hA
   simp only[e1,decide_true,cT,hA,af]
   rcases qh (q+(n:Rat)*qv a) with ⟨f2,e2⟩ | ⟨f2,e2⟩
   ·rw[dif_pos ⟨f1,f2⟩]
    simp only[e2,decide_true,Bool.not_true,cF]
   ·rw[dif_neg fun h=>f2 h.2]
    simp only[e2]
    rfl
  ·rw[dif_neg fun h=>f1 h.1]
   simp only[e1]
   rfl
 ·intro again s
  simp only[z8 (show ¬ (l.length:Int)<l.length by omega),cF]
 ·exact Np (cur:=fun s:Fq×{q:Rat // gB q}=>s.2.1) (bad:=some (5,(0,1))) (good:=fun q=>some (e,prQ q)) hl (fun i s h=>(s.1,⟨_,h⟩)) (fun _ _ _=>rfl) (fun _ _ _ _=>rfl) (fun _=>rfl) l.length 0 ((0,0),⟨0,by decide⟩) (by omega)
theorem AX:∀{l:List Int} {x:List Fq} {s q:Rat},gB s->fU l x s=some q->gB q
 | [],_,s,q,hs,h=>by
  unfold fU at h
  injection h with h
  rw[<-h];exact hs
 | _ ::_,[],s,q,hs,h=>by
  unfold fU at h
  injection h with h
  rw[<-h];exact hs
 | n ::l,a ::x,s,q,hs,h=>by
  unfold fU at h
  split at h
  ·rename_i hh
   exact AX hh.2 h
  ·cases h
theorem Ru {n:Int} (h:inC n=true): -1152921504606846976<=n/\n<=1152921504606846976:=by
 have:=z12 h
 omega
theorem Rz {n:Int} (h:inR n=true): -1152921504606846976<=n/\n<=1152921504606846976:=by
 have:=z12 h
 omega
structure ValidP (p:Pg):Prop where
 cost:1<=p.1.length/\p.1.length<=12
 rows:p.2.length<=6
 cs:∀n ∈ p.1,inC n=true
 len:∀r ∈ p.2,r.1.length=p.1.length
 kind:∀r ∈ p.2,1<=r.2.1/\r.2.1<=3
 right:∀r ∈ p.2,inR r.2.2=true
 coefs:∀r ∈ p.2,∀n ∈ r.1,inC n=true
theorem iP {p:Pg}:pG p=true↔ValidP p:=by
 unfold pG Pa
 rw[z10,z10,decide_eq_true_iff,List.all_eq_true,List.all_eq_true]
 constructor
 ·rintro ⟨⟨h1,h2,h3⟩,h4,h5⟩
  have h6:∀r ∈ p.2,r.1.length=p.1.length/\(1<=r.2.1/\r.2.1<=3)/\inR r.2.2=true/\∀n ∈ r.1,inC n=true:=fun r hr=>by
   have:=h5 r hr
   unfold wS at this
   rw[z10,z10,z10,decide_eq_true_iff,decide_eq_true_iff,List.all_eq_true] at this
   exact this
  exact ⟨⟨h1,h2⟩,h3,h4,fun r hr=>(h6 r hr).1,fun r hr=>(h6 r hr).2.1,fun r hr=>(h6 r hr).2.2.1,fun r hr=>(h6 r hr).2.2.2⟩
 ·rintro ⟨h1,h2,h3,h4,h5,h6,h7⟩
  refine ⟨⟨h1.1,h1.2,h2⟩,h3,fun r hr=>?_⟩
  unfold wS
  rw[z10,z10,z10,decide_eq_true_iff,decide_eq_true_iff,List.all_eq_true]
  exact ⟨h4 r hr,h5 r hr,h6 r hr,h7 r hr⟩
theorem P0 {a:Fq} {n:Int} (ha:okF a) (hn: -1152921504606846976<=n/\n<=1152921504606846976):fR a n=some (yj (qv a) (n:Rat)):=by
 have h:=Uh ha (CR hn.1 hn.2)
 rw[Nq] at h
 simp only[fR,oG,h,af]
theorem CN {l:List Int} {x:List Fq}:gB ((fU l x 0).getD 0):=by
 cases h:fU l x 0 with
 | none=>decide
 | some q=>exact AX (by decide) h
theorem T8 {l:List Int} {x:List Fq} {e:Int} (hl:l.length<=x.length) (h0:l.length<=1000000) (hc:∀n ∈ l,inC n=true) (hx:∀a ∈ x,okF a) :
  cg e l x=some (bif (fU l x 0).isSome then e else 5,prQ ((fU l x 0).getD 0)):=by
 rw[SG hl h0 (fun n hn=>Ru (hc n hn)) hx]
 cases fU l x 0<;>rfl
def H1 (p:Pg) (x:List Fq):Bool:=p.2.all fun r=>(fU r.1 x 0).isSome
end
end Go.Proofs.YtegbncajloeepaaGreat

namespace Go.Proofs.YtegbncajloeepaaGreat
open Tryz Dn Dn.Sh
def QF (s:Sy):List Int:=bF s.1.length (bwS s)
theorem Iz {s:Sy} (h:jJ s=true):bD s=some (QF s,0,()):=by
 have hv:=ll h
 have hb:=hv.bl
 simp only[bD,kC,Hr,h,af,Bool.not_true,cF]
 refine dE s.1.length (by omega) (fun i=>(bF i (bwS s),(i:Int),PUnit.unit)) _ rfl (fun again i hi=>?_) (fun again=>?_)
 ·simp only[aW,z7 hi,z7 (show (i:Int)<s.1.length by omega),cT,z9,aA,fa (show (i+1)*8<=140737488355328 by omega),ia (show i<=1000000 by omega),show (List.getD s.1 i ({ data:={ toList:=[] } },(0:Int))).2=bwS s i from rfl,Aa]
 ·simp only[z8 (show ¬ (s.1.length:Int)<s.1.length by omega),cF]
  rfl
def nQ (s:Sy) (i:Nat):Rw:=(bF s.2.length (Mx s i),(3:Int),bwS s i)
def ji (s:Sy) (c:List Int):Pg:=(c,bF s.1.length (nQ s))
theorem N1 {s:Sy} (h:jJ s=true) (c:List Int):gD s c=some (ji s c,0,()):=by
 have hv:=ll h
 have hb:=hv.bl
 unfold gD pJ
 rw[HN h,af,Iz h,af]
 refine (cF _ _).trans ((cF _ _).trans ?_)
 unfold JA QF
 refine dE s.1.length (by omega) (fun i=>((i:Int),c,bF i (nQ s),PUnit.unit)) _ rfl (fun again i hi=>?_) (fun again=>?_)
 ·simp only[aW,eH,aA,z7 hi,z7 (show (i:Int)<s.1.length by omega),cT,z9,fa (show (i+1)*40<=140737488355328 by omega),ia (show i<=1000000 by omega),io hi,br hi]
  rw[show (bF s.2.length (Mx s i),(3:Int),bwS s i)=nQ s i from rfl,Aa]
 ·simp only[eH,z8 (show ¬ (s.1.length:Int)<s.1.length by omega),cF]
  rfl
def iI (s:Sy):List Int:=List.replicate s.2.length 1
theorem Rj (z:Int) {n:Nat} (hn:n<=1000000):cP [z] (n:Int)=some (List.replicate n z):=by
 have hm:iu (IntKind.wrap .u64 ((List.length [z]:Nat):Int)) (IntKind.wrap .u64 (n:Int))=some (0,(n:Int),()):=by
  simp only[iu,uA]
  rw[bC (by simp) (by simp),bC (by omega) (by omega),PU (by simp) (by simp) (by omega) (by omega),af]
  simp only[List.length_singleton]
  congr 1
  refine Prod.ext ?_ (Prod.ext ?_ rfl)
  ·show ((1:Nat):Int)*n / 18446744073709551616=0
   omega
  ·show ((1:Nat):Int)*n % 18446744073709551616=n
   omega
 have hw:IntKind.wrap .i64 (n:Int)=(n:Int):=aO (by omega) (by omega)
 simp only[cP,jF,jnT]
 rw[z8 (show ¬ (n:Int)<0 by omega),cF,hm,af]
 have h63:decide ((n:Int)>9223372036854775807)=false:=z8 (by omega)
 have hz0:decide ((0:Int)>0)=false:=rfl
 have hz1:decide ((0:Int)<=(n:Int))=true:=z7 (by omega)
 have hfb:dM n 8=true:=fa (by omega)
 simp only[hw,hz0,h63,hz1,z9,hfb,Bool.not_false,Bool.not_true,Bool.or_true,Bool.and_self,cT,cF,List.drop_zero,List.take_zero,List.nil_append]
 refine kn (g:=fun _=>some (List.replicate n z)) (I:=fun (x:Int×List Int×PUnit)=>∃c:Nat,x.1=c/\c<=n/\(0<n->0<c)/\x.2.1.length=n/\x.2.1.take c=List.replicate c z) (μ:=fun (x:Int×List Int×PUnit)=>n - x.1.toNat) ?_ ?_ (by simp only;omega)
 ·rintro ⟨i,row,_⟩ rec ⟨c,h1,h2,h3,h4,h5⟩ hrec
  simp only at h1 h4 h5 hrec ⊢
  subst h1
  simp only[z9,h4]
  by_cases hc:c<n
  ·have hl:(List.take (n - c) (List.take c row)).length=min (n - c) c:=by rw[List.length_take,List.length_take,h4];omega
   rw[z7 (show (c:Int)<n by omega),cT,Hj (by omega) (by omega) (by omega),Hj (by omega) (by omega) (by omega),cM (by omega),cM (Nat.le_refl n)]
   simp only[Bool.and_self,cT]
   rw[aO (by omega) (by omega)]
   refine hrec _ ⟨c+min (n - c) c,?_,by omega,by omega,?_,?_⟩ ?_
   ·simp only;rw[hl];omega
   ·simp only[List.length_append,List.length_drop,hl,h4,List.length_take];omega
   ·simp only
    rw[List.take_append_of_le_length (by rw[List.length_append,hl,List.length_take,h4];omega),h5,List.take_replicate,List.replicate_append_replicate,List.take_replicate]
    congr 1
    omega
   ·simp only;rw[hl];omega
  ·have:c=n:=by omega
   subst this
   rw[z8 (show ¬ (c:Int)<c by omega),cF]
   rw[<-h5,List.take_of_length_le (by omega)]
 ·refine ⟨(List.take n [z]).length,rfl,by rw[List.length_take];omega,fun h=>by rw[List.length_take];simp;omega,?_,?_⟩
  ·simp only[List.length_append,List.length_drop,List.length_replicate,List.length_take,List.length_singleton];omega
  ·simp only
   rcases Nat.eq_zero_or_pos n with h | h
   ·subst h;rfl
   ·obtain ⟨m,rfl⟩:∃m,n=m+1:=⟨n - 1,by omega⟩
    simp
theorem Eg {s:Sy} (h:jJ s=true):bh s=some (ji s (iI s),0,()):=by
 have hr:=(ll h).rl
 simp only[bh,me,Rj 1 (show s.2.length<=1000000 by omega),af]
 rw[show List.replicate s.2.length (1:Int)=iI s from rfl,N1 h]
 rfl
theorem Fx {α:Type} {n:Nat} {f:Nat->α} {a:α}:a ∈ bF n f↔∃i,i<n/\f i=a:=by
 unfold bF
 rw[List.mem_map]
 exact ⟨fun ⟨i,h1,h2⟩=>⟨i,List.mem_range.1 h1,h2⟩,fun ⟨i,h1,h2⟩=>⟨i,List.mem_range.2 h1,h2⟩⟩
theorem KC {s:Sy} (hv:ValidS s) {c:List Int} (hl:c.length=s.2.length) (hc:∀n ∈ c,inC n=true):ValidP (ji s c):=by
 have hb:=hv.bl
 have hr:=hv.rl
 refine ⟨⟨by show 1<=c.length;omega,by show c.length<=12;omega⟩,?_,hc,fun r h=>?_,fun r h=>?_,fun r h=>?_,fun r h n hn=>?_⟩
 ·show (bF s.1.length (nQ s)).length<=6
  rw[aA];omega
 all_goals
  obtain ⟨i,hi,rfl⟩:=Fx.1 h
 ·show (bF s.2.length (Mx s i)).length=c.length
  rw[aA,hl]
 ·exact ⟨by show (1:Int)<=3;omega,by show (3:Int)<=3;omega⟩
 ·have:=hv.wt i hi
  exact z7 (by show -1073741824<=bwS s i/\bwS s i<=1073741824;omega)
 ·obtain ⟨k,hk,rfl⟩:=Fx.1 hn
  have:=E9 hv i hk
  exact z7 (by omega)
theorem LN {s:Sy} (hv:ValidS s):ValidP (ji s (iI s)):=KC hv (by unfold iI;rw[List.length_replicate]) fun n hn=>by
 rw[(List.mem_replicate.1 hn).2];rfl
def lr (s:ByteArray):Bool:=!decide ((s.size:Int)>60)
def vC (s:Sy):Bool:=decide (s.1.length<=9/\s.2.length<=9)&&(s.1.all (fun b=>lr b.1)&&s.2.all (fun r=>lr r.1&&(!decide ((r.2.1.length:Int)>13)&&r.2.1.all fun h=>lr h.1)))
theorem JY (s:Sy):aX s=some (vC s):=by
 obtain ⟨bs,rs⟩:=s
 simp only[aX,oA,vC]
 by_cases h0:bs.length<=9/\rs.length<=9
 ·rw[z7 h0,z8 (show ¬ (bs.length:Int)>9 by omega),z8 (show ¬ (rs.length:Int)>9 by omega)]
  simp only[Bool.not_false,Bool.not_true,Bool.or_true,cT,cF,Bool.true_and]
  refine (wb (p:=fun b:Bk=>lr b.1) (d:=bk0) (l:=bs) (no:=some false) (yes:=some (rs.all (fun r=>lr r.1&&(!decide ((r.2.1.length:Int)>13)&&r.2.1.all fun h=>lr h.1)))) (by omega) ?_ ?_).trans ?_
  ·intro again i hi
   simp only[aW,z7 hi,z7 (show (i:Int)<bs.length by omega),cT,z9,ia (show i<=1000000 by omega),lr]
   generalize decide ((((bs.getD i bk0).1.size:Nat):Int)>60)=g
   cases g<;>rfl
  ·intro again
   simp only[z8 (show ¬ (bs.length:Int)<bs.length by omega),cF]
   refine (wb (p:=fun r:Rp=>lr r.1&&(!decide ((r.2.1.length:Int)>13)&&r.2.1.all fun h=>lr h.1)) (d:=rp0) (l:=rs) (no:=some false) (yes:=some true) (by omega) ?_ ?_).trans ?_
   ·intro again i hi
    simp only[aW,z7 hi,z7 (show (i:Int)<rs.length by omega),cT,z9,ia (show i<=1000000 by omega)]
    simp only[lr]
    generalize decide ((((rs.getD i rp0).1.size:Nat):Int)>60)=g1
    by_cases g:((rs.getD i rp0).2.1.length:Int)>13
    ·rw[z7 g]
     cases g1<;>rfl
    ·rw[z8 g]
     cases g1 with
     | true=>rfl
     | false =>
      simp only[Bool.not_true,Bool.not_false,Bool.or_true,Bool.and_self,Bool.true_and,cT,cF]
      refine wb (p:=fun h:Hd=>!decide (((h.1.size:Nat):Int)>60)) (d:=hd0) (l:=(rs.getD i rp0).2.1) (by omega) ?_ ?_
      ·intro again1 t ht
       simp only[aW,z7 ht,z7 (show (t:Int)<(rs.getD i rp0).2.1.length by omega),cT,z9,ia (show t<=1000000 by omega)]
       generalize decide (((((rs.getD i rp0).2.1.getD t hd0).1.size:Nat):Int)>60)=g
       cases g<;>rfl
      ·intro again1
       simp only[z8 (show ¬ ((rs.getD i rp0).2.1.length:Int)<(rs.getD i rp0).2.1.length by omega),cF]
   ·intro again
    simp only[z8 (show ¬ (rs.length:Int)<rs.length by omega),cF]
   ·cases rs.all (fun r=>lr r.1&&(!decide ((r.2.1.length:Int)>13)&&r.2.1.all fun h=>lr h.1))<;>rfl
  ·cases bs.all (fun b=>lr b.1)<;>rfl
 ·rw[z8 h0]
  by_cases g:(bs.length:Int)>9
  ·rw[z7 g];rfl
  ·rw[z8 g,z7 (show (rs.length:Int)>9 by omega)];rfl
theorem GN {s:Sy} (h:vC s=true):s.1.length<=9/\s.2.length<=9:=by
 unfold vC at h
 rw[z10,decide_eq_true_iff] at h
 exact h.1
end Go.Proofs.YtegbncajloeepaaGreat

namespace Go.Proofs.YtegbncajloeepaaGreat
noncomputable section
open Tryz Dn Dn.Sh
def okL (x:List Fq):Bool:=x.all fun a=>decide (okF a)
theorem KE {x:List Fq} (h:x.length<=1000000):eL x=some (okL x):=by
 have hc:ai x (fun x=>dJ x.1)=some (!okL x):=by
  unfold okL
  rw[<-Hz]
  refine J4 (p:=fun a:Fq=>!decide (okF a)) h fun a _=>?_
  simp only[dJ,jX,ra,af]
 simp only[eL,lZ,hc,af,Bool.not_not]
theorem Ib {x:List Fq}:okL x=true↔∀a ∈ x,okF a:=by
 unfold okL
 rw[List.all_eq_true]
 exact ⟨fun h a ha=>z12 (h a ha),fun h a ha=>z7 (h a ha)⟩
end
end Go.Proofs.YtegbncajloeepaaGreat

namespace Go.Proofs.YtegbncajloeepaaGreat
open Tryz Dn Dn.Sh
def nT (p:Pg) (j:Nat):List Int:=p.2.map fun r=>r.1.getD j 0
def nN (p:Pg):List Int:=p.2.map fun r=>r.2.2
theorem EZ {g:Rw->Int} {rs:List Rw} {F:(List Int×Int×PUnit->Option (List Int))->List Int×Int×PUnit->Option (List Int)} (h:rs.length<=1000000)
  (hF:∀again (i:Nat),i<rs.length->F again ((rs.take i).map g,(i:Int),PUnit.unit)=again ((rs.take i).map g++[g (rs.getD i rw0)],((i+1:Nat):Int),PUnit.unit))
  (hf:∀again,F again (rs.map g,(rs.length:Int),PUnit.unit)=some (rs.map g)):lpK (List Int×Int×PUnit) (List Int) F ([],(0:Int),PUnit.unit)=some (rs.map g):=by
 refine (lh (α:=List Int×Int×PUnit) (σ:=Unit) rs.length (by omega) (fun i _=>((rs.take i).map g,(i:Int),PUnit.unit)) (fun i s k=>bif true then k s else none) (fun _=>some (rs.map g)) ?_ ?_ ()).trans ?_
 ·intro again i _ hi
  rw[hF again i hi,cT]
  congr 2
  rw[bf hi,List.take_succ_eq_append_getElem hi,List.map_append]
  rfl
 ·intro again _
  rw[List.take_length]
  exact hf again
 ·refine (lv (p:=fun _=>true) (r:=none) rs.length (fun _ _ _=>rfl) rs.length 0 (by omega)).trans ?_
  rw[show ((List.range' 0 rs.length).all fun _=>true)=true from List.all_eq_true.2 fun _ _=>rfl]
  rfl
theorem vE {g:Rw->Int} {rs:List Rw} {i:Nat}:((rs.take i).map g).length<=rs.length:=by
 rw[List.length_map,List.length_take];omega
theorem JM {p:Pg} {j:Nat} (hv:ValidP p) (hj:j<p.1.length):dX p (j:Int)=some (nT p j):=by
 obtain ⟨c,rs⟩:=p
 unfold dX kJ nT
 have h6:=hv.rows
 simp only at h6 hj
 refine EZ (rs:=rs) (g:=fun r=>r.1.getD j 0) (by omega) (fun again i hi=>?_) (fun again=>by simp)
 have hw:IntKind.wrap .i64 ((i:Int)+1)=((i+1:Nat):Int):=by rw[aO (by omega) (by omega)];rfl
 have hr:rs.getD i rw0 ∈ rs:=by rw[bf hi];exact List.getElem_mem _
 have hL:=hv.len _ hr
 have hT:=vE (g:=fun r=>r.1.getD j 0) (rs:=rs) (i:=i)
 simp only at hL
 simp only[aW,z7 hi,z7 (show (i:Int)<rs.length by omega),cT,z9,hw,z7 (show j<(rs.getD i rw0).1.length by omega),fa (show (((rs.take i).map fun r=>r.1.getD j 0).length+1)*8<=140737488355328 by omega)]
theorem I3 {p:Pg} (hv:ValidP p):dZ p=some (nN p):=by
 obtain ⟨c,rs⟩:=p
 unfold dZ kU nN
 have h6:=hv.rows
 simp only at h6
 refine EZ (rs:=rs) (g:=fun r=>r.2.2) (by omega) (fun again i hi=>?_) (fun again=>by simp)
 have hw:IntKind.wrap .i64 ((i:Int)+1)=((i+1:Nat):Int):=by rw[aO (by omega) (by omega)];rfl
 have hT:=vE (g:=fun r=>r.2.2) (rs:=rs) (i:=i)
 simp only[aW,z7 hi,z7 (show (i:Int)<rs.length by omega),cT,z9,hw,fa (show (((rs.take i).map fun r=>r.2.2).length+1)*8<=140737488355328 by omega)]
def zM (k n:Int):Bool:=(decide (k≠1)||decide (n<=0))&&(decide (k≠2)||decide (0<=n))
def mF (p:Pg) (y:List Fq):Bool:=(List.range' 0 p.2.length).all fun i=>zM (p.2.getD i rw0).2.1 (y.getD i (0,0)).1
theorem GM {p:Pg} {y:List Fq} (hv:ValidP p) (hl:y.length=p.2.length):dU p y=some (mF p y):=by
 obtain ⟨c,rs⟩:=p
 unfold dU kW mF
 have h6:=hv.rows
 simp only at h6 hl ⊢
 refine (lh (α:=Int×PUnit) (σ:=Unit) rs.length (by omega) (fun i _=>((i:Int),PUnit.unit)) (fun i s k=>bif zM (rs.getD i rw0).2.1 (y.getD i (0,0)).1 then k s else some false) (fun _=>some true) ?_ ?_ ()).trans ?_
 ·intro again i _ hi
  have hw:IntKind.wrap .i64 ((i:Int)+1)=((i+1:Nat):Int):=by rw[aO (by omega) (by omega)];rfl
  simp only[aW,z7 hi,z7 (show (i:Int)<rs.length by omega),z7 (show i<y.length by omega),cT,z9,hw]
  obtain ⟨n,hn⟩:∃n,(y.getD i (0,0)).1=n:=⟨_,rfl⟩
  obtain ⟨kd,hkd⟩:∃kd,(rs.getD i rw0).2.1=kd:=⟨_,rfl⟩
  simp only[hn,hkd,zM]
  by_cases k1:kd=1<;>by_cases k2:kd=2<;>by_cases c1:n<=0<;>by_cases c2:0<=n<;>by_cases c3:n>0<;>by_cases c4:n<0<;>first | (exfalso;omega) | simp[k1,k2,c1,c2,c3,c4]
 ·intro again s
  simp only[z8 (show ¬ (rs.length:Int)<rs.length by omega),cF]
 ·refine (lv (p:=fun i=>zM (rs.getD i rw0).2.1 (y.getD i (0,0)).1) (r:=some false) rs.length (fun _ _ _=>rfl) rs.length 0 (by omega)).trans ?_
  cases (List.range' 0 rs.length).all fun i=>zM (rs.getD i rw0).2.1 (y.getD i (0,0)).1<;>rfl
end Go.Proofs.YtegbncajloeepaaGreat

namespace Go.Proofs.YtegbncajloeepaaGreat
noncomputable section
open Tryz Dn Dn.Sh
def wX (p:Pg) (y:List Fq):Bool:=(List.range' 0 p.1.length).all fun j=>(fU (nT p j) y 0).isSome
def Ad (p:Pg) (y:List Fq) (f:Nat->Int):Bool:=(List.range' 0 p.1.length).all fun j=>decide (yj ((fU (nT p j) y 0).getD 0) (f j:Rat)<=0)
theorem PY {p:Pg} {j:Nat} (hv:ValidP p) (hj:j<p.1.length):∀n ∈ nT p j,inC n=true:=fun n hn=>by
 obtain ⟨r,hr,rfl⟩:=List.mem_map.1 hn
 rw[bf (by rw[hv.len r hr];exact hj)]
 exact hv.coefs r hr _ (List.getElem_mem _)
theorem vR {p:Pg} {j:Nat}:(nT p j).length=p.2.length:=by unfold nT;rw[List.length_map]
theorem pg {p:Pg}:(nN p).length=p.2.length:=by unfold nN;rw[List.length_map]
theorem I4 {p:Pg} (hv:ValidP p):∀n ∈ nN p,inR n=true:=fun n hn=>by
 obtain ⟨r,hr,rfl⟩:=List.mem_map.1 hn
 exact hv.right r hr
theorem Io {R:Type} {n:Nat} {g h:Nat->Bool} {f:Bool×Int->Option R} {b:Nat->Bool×Int->(Bool×Int->Option R)->Option R}
  (hb:∀i s k,i<n->b i s k=k (s.1&&h i,bif g i then s.2 else 5)):∀(k i:Nat) (s:Bool×Int),i+k<=n ->
  upF b f k i s=f (s.1&&(List.range' i k).all h,bif (List.range' i k).all g then s.2 else 5)
 | 0,i,s,_=>by simp[upF]
 | k+1,i,s,hi=>by
  simp only[upF,hb i s _ (by omega)]
  rw[Io hb k (i+1) _ (by omega)]
  simp only[List.range'_succ,List.all_cons,Bool.and_assoc]
  congr 2
  cases g i<;>cases (List.range' (i+1) k).all g<;>rfl
theorem TO {l:List Int} {x:List Fq} {e:Int} (hl:l.length<=x.length) (h0:l.length<=1000000) (hc:∀n ∈ l,inR n=true) (hx:∀a ∈ x,okF a) :
  cg e l x=some (bif (fU l x 0).isSome then e else 5,prQ ((fU l x 0).getD 0)):=by
 rw[SG hl h0 (fun n hn=>Rz (hc n hn)) hx]
 cases fU l x 0<;>rfl
def um (p:Pg) (y:List Fq):Option Rat:=fU (nN p) y 0
def Jl (p:Pg) (y:List Fq):Bool:=decide (0<(prQ ((um p y).getD 0)).1)
def RE (p:Pg) (y:List Fq):Bool:=Jl p y&&(mF p y&&Ad p y fun _=>0)
theorem ED {p:Pg} {y:List Fq} (h:y.length<=1000000):cm p y=some (bif pG p&&okL y then bif decide (y.length=p.2.length) then bif wX p y&&(um p y).isSome then (RE p y,0,()) else (false,5,()) else (false,3,()) else (false,1,())):=by
 unfold cm kg
 rw[mY,obN]
 simp only[KE h,aV,fk,cT]
 cases hv:pG p with
 | false=>rfl
 | true =>
  simp only[Bool.not_true,Bool.not_false,cT]
  rw[obN]
  cases hx:okL y with
  | false=>rfl
  | true =>
   have hV:=iP.1 hv
   have hX:=Ib.1 hx
   have h6:=hV.rows
   have h7:=hV.cost.2
   simp only[Bool.not_true,cF,Bool.and_self,cT]
   by_cases hl:y.length=p.2.length
   ·simp only[z7 hl,z7 (show (y.length:Int)=p.2.length by omega),Bool.not_true,cT,cF]
    refine (lh (α:=Bool×Int×Int×PUnit) p.1.length (by omega) (fun i (s:Bool×Int)=>(s.1,(i:Int),s.2,PUnit.unit)) (fun j s k=>k (s.1&&decide (yj ((fU (nT p j) y 0).getD 0) ((0:Int):Rat)<=0),bif (fU (nT p j) y 0).isSome then s.2 else 5))
     (fun s=>some ((Jl p y&&(mF p y&&s.1))&&decide ((bif (um p y).isSome then s.2 else 5)=0),bif (um p y).isSome then s.2 else 5,())) ?_ ?_ (true,0)).trans ?_
    ·intro again i s hi
     have hw:IntKind.wrap .i64 ((i:Int)+1)=((i+1:Nat):Int):=by rw[aO (by omega) (by omega)];rfl
     have h1:=T8 (l:=nT p i) (x:=y) (e:=s.2) (by rw[vR];omega) (by rw[vR];omega) (PY hV hi) hX
     have h2:=P0 (n:=0) (qz (CN (l:=nT p i) (x:=y))) (by omega)
     rw[uq] at h2
     simp only[z7 (show (i:Int)<p.1.length by omega),cT,JM hV hi,h1,dw,jk,h2,af,hw]
     cases decide (yj ((fU (nT p i) y 0).getD 0) ((0:Int):Rat)<=0)<;>cases s.1<;>rfl
    ·intro again s
     have h1:=TO (l:=nN p) (x:=y) (e:=s.2) (by rw[pg];omega) (by rw[pg];omega) (I4 hV) hX
     simp only[z8 (show ¬ (p.1.length:Int)<p.1.length by omega),cF,I3 hV,h1,af,GM hV hl]
     obtain ⟨n,hn⟩:∃n,(prQ ((fU (nN p) y 0).getD 0)).1=n:=⟨_,rfl⟩
     simp only[Jl,um,hn]
     by_cases c1:n>0
     ·simp only[z7 c1]
      cases mF p y<;>cases s.1<;>rfl
     ·simp only[z8 c1]
      cases mF p y<;>cases s.1<;>rfl
    ·rw[Io (n:=p.1.length) (g:=fun j=>(fU (nT p j) y 0).isSome) (h:=fun j=>decide (yj ((fU (nT p j) y 0).getD 0) ((0:Int):Rat)<=0)) (fun _ _ _ _=>rfl) p.1.length 0 _ (by omega)]
     rw[show ((List.range' 0 p.1.length).all fun j=>(fU (nT p j) y 0).isSome)=wX p y from rfl,show ((List.range' 0 p.1.length).all fun j=>decide (yj ((fU (nT p j) y 0).getD 0) ((0:Int):Rat)<=0))=Ad p y (fun _=>0) from rfl]
     unfold RE
     cases wX p y<;>cases (um p y).isSome<;>cases Jl p y<;>cases mF p y<;>cases Ad p y (fun _=>0)<;>rfl
   ·simp only[z8 hl,z8 (show ¬ (y.length:Int)=p.2.length by omega),Bool.not_false,cT,cF]
end
end Go.Proofs.YtegbncajloeepaaGreat

namespace Go.Proofs.YtegbncajloeepaaGreat
open Tryz Dn Dn.Sh
def qO (x:Int):Bool×Int×Int:=(decide (x<0),hl x.natAbs)
theorem vG {x:Int} (h1: -9223372036854775808<=x) (h2:x<9223372036854775808):cd x=some (x.natAbs:Int):=ly h1 h2
theorem Hq {n:Nat}:(bif !decide ((hl n).1=0) then true else !decide ((hl n).2=0))=decide (n≠0):=by
 unfold hl
 simp only
 by_cases h:n=0
 ·subst h;rfl
 ·rw[z7 h]
  by_cases c1:((n / 18446744073709551616:Nat):Int)=0
  ·rw[z7 c1,z8 (show ¬ ((n % 18446744073709551616:Nat):Int)=0 by omega)];rfl
  ·rw[z8 c1];rfl
theorem L5 {a b:Int}:(bif !decide (decide (a<0)=decide (b<0)) then decide ((a.natAbs*b.natAbs)≠0) else false)=decide (a*b<0):=by
 by_cases ha:a<0
 ·by_cases hb:b<0
  ·have:=Int.mul_pos_of_neg_of_neg ha hb
   rw[z8 (show ¬ a*b<0 by omega)]
   simp[ha,hb]
  ·by_cases hb0:b=0
   ·subst hb0;simp
   ·have:=Int.mul_neg_of_neg_of_pos ha (show 0<b by omega)
    rw[z7 this,z7 (show a.natAbs*b.natAbs≠0 by rw[<-Int.natAbs_mul];omega)]
    simp[ha,hb]
 ·by_cases ha0:a=0
  ·subst ha0;simp
  ·by_cases hb:b<0
   ·have:=Int.mul_neg_of_pos_of_neg (show 0<a by omega) hb
    rw[z7 this,z7 (show a.natAbs*b.natAbs≠0 by rw[<-Int.natAbs_mul];omega)]
    simp[ha,hb]
   ·have:=Int.mul_nonneg (show 0<=a by omega) (show 0<=b by omega)
    rw[z8 (show ¬ a*b<0 by omega)]
    simp[ha,hb]
theorem sW {a b:Int} (ha: -9223372036854775808<=a/\a<9223372036854775808) (hb: -9223372036854775808<=b/\b<9223372036854775808):bL a b=some (qO (a*b)):=by
 have e:(((a.natAbs:Nat):Int)*(b.natAbs:Int) / 18446744073709551616,((a.natAbs:Nat):Int)*(b.natAbs:Int) % 18446744073709551616,PUnit.unit)=((hl (a.natAbs*b.natAbs)).1,(hl (a.natAbs*b.natAbs)).2,PUnit.unit):=by
  rw[<-Int.natCast_mul];rfl
 simp only[bL,mj,vG ha.1 ha.2,vG hb.1 hb.2,af]
 rw[PU (by omega) (by omega) (by omega) (by omega),af,e]
 have h1:=Hq (n:=a.natAbs*b.natAbs)
 have h2:=L5 (a:=a) (b:=b)
 rw[<-h1] at h2
 unfold qO
 rw[Int.natAbs_mul,<-h2]
 generalize hl (a.natAbs*b.natAbs)=p
 obtain ⟨c,hc⟩:∃c,(decide (decide (a<0)=decide (b<0)))=c:=⟨_,rfl⟩
 obtain ⟨c1,hc1⟩:∃c,decide (p.1=0)=c:=⟨_,rfl⟩
 simp only[hc,hc1]
 cases c<;>cases c1<;>rfl
theorem zD {s t:Bool} {m n:Nat}:ay (s,hl m) (t,hl n)=some (if m<n then -1 else if m=n then 0 else 1):=by
 simp only[ay,gq]
 have e1:(hl m).1=(hl n).1↔m / 18446744073709551616=n / 18446744073709551616:=by unfold hl;simp only;omega
 have e2:(hl m).1<(hl n).1↔m / 18446744073709551616<n / 18446744073709551616:=by unfold hl;simp only;omega
 have e3:(hl m).2=(hl n).2↔m % 18446744073709551616=n % 18446744073709551616:=by unfold hl;simp only;omega
 have e4:(hl m).2<(hl n).2↔m % 18446744073709551616<n % 18446744073709551616:=by unfold hl;simp only;omega
 rw[decide_eq_decide.2 e1,decide_eq_decide.2 e2,decide_eq_decide.2 e3,decide_eq_decide.2 e4]
 generalize q1:decide (m / 18446744073709551616=n / 18446744073709551616)=c1
 generalize q2:decide (m / 18446744073709551616<n / 18446744073709551616)=c2
 generalize q3:decide (m % 18446744073709551616=n % 18446744073709551616)=c3
 generalize q4:decide (m % 18446744073709551616<n % 18446744073709551616)=c4
 cases c1<;>cases c2<;>cases c3<;>cases c4<;>simp only[decide_eq_true_iff,decide_eq_false_iff_not] at q1 q2 q3 q4 <;>
  first
  | (exfalso;omega)
  | (rw[if_pos (show m<n by omega)];rfl)
  | (rw[if_neg (show ¬ m<n by omega),if_pos (show m=n by omega)];rfl)
  | (rw[if_neg (show ¬ m<n by omega),if_neg (show ¬ m=n by omega)];rfl)
theorem OE {x y:Int}:cN (qO x) (qO y)=some (if x<y then -1 else if x=y then 0 else 1):=by
 have key:∀{a b:Nat} (h1:a<b↔x<y) (h2:a=b↔x=y),(if a<b then (-1:Int) else if a=b then 0 else 1)=if x<y then -1 else if x=y then 0 else 1:=fun h1 h2=>by simp only[h1,h2]
 unfold qO
 simp only[cN,iz,zD,af]
 by_cases hx:x<0
 ·by_cases hy:y<0
  ·rw[z7 hx,z7 hy,key (by omega) (by omega)]
   rfl
  ·rw[if_pos (show x<y by omega),z7 hx,z8 hy]
   rfl
 ·by_cases hy:y<0
  ·rw[if_neg (show ¬ x<y by omega),if_neg (show ¬ x=y by omega),z8 hx,z7 hy]
   rfl
  ·rw[z8 hx,z8 hy,key (a:=x.natAbs) (b:=y.natAbs) (by omega) (by omega)]
   rfl
theorem Hv {m n:Nat} (h:m+n<340282366920938463463374607431768211456):(xC (hl m).1 (hl n).1 (oS (hl m).2 (hl n).2 0),xC (hl m).2 (hl n).2 0)=hl (m+n):=by
 have h1:=EL h
 have c1:(0:Int)<=oS (hl m).2 (hl n).2 0:=by rw[vj];omega
 have c2:oS (hl m).2 (hl n).2 0<=1:=by rw[vj];omega
 simp only[gd,mz,z7 c1,z7 c2] at h1
 exact Option.some.inj h1
theorem xN {m n:Nat} (h:n<=m) (hm:m<340282366920938463463374607431768211456):(uG (hl m).1 (hl n).1 (nf (hl m).2 (hl n).2 0),uG (hl m).2 (hl n).2 0)=hl (m - n):=by
 have h1:=wB h hm
 have c1:(0:Int)<=nf (hl m).2 (hl n).2 0:=by rw[vc];omega
 have c2:nf (hl m).2 (hl n).2 0<=1:=by rw[vc];split<;>omega
 simp only[fe,lx,z7 c1,z7 c2] at h1
 exact Option.some.inj h1
theorem uw {m n:Nat}:(decide ((0:Int)<=nf (hl m).2 (hl n).2 0)&&decide (nf (hl m).2 (hl n).2 0<=(1:Int)))=true:=by
 rw[z7 (show (0:Int)<=nf (hl m).2 (hl n).2 0 by rw[vc];omega),z7 (show nf (hl m).2 (hl n).2 0<=1 by rw[vc];split<;>omega)]
 rfl
theorem Ag {m n:Nat}:(decide ((0:Int)<=oS (hl m).2 (hl n).2 0)&&decide (oS (hl m).2 (hl n).2 0<=(1:Int)))=true:=by
 rw[z7 (show (0:Int)<=oS (hl m).2 (hl n).2 0 by rw[vj];omega),z7 (show oS (hl m).2 (hl n).2 0<=1 by rw[vj];omega)]
 rfl
theorem J2 {x y:Int} (hx:x.natAbs<85070591730234615865843651857942052864) (hy:y.natAbs<85070591730234615865843651857942052864):bJ (qO x) (qO y)=some (qO (x - y)):=by
 unfold qO
 simp only[bJ,gT,zD,af,sQ,uw,Ag]
 by_cases hs:decide (x<0)=decide (y<0)
 ·
  rw[z7 hs]
  simp only[Bool.not_true,cF]
  by_cases hlt:x.natAbs<y.natAbs
  ·have h1:=xN (m:=y.natAbs) (n:=x.natAbs) (by omega) (by omega)
   have h2:=congrArg Prod.fst h1
   have h3:=congrArg Prod.snd h1
   simp only at h2 h3
   rw[if_pos hlt]
   simp only[show decide ((-1:Int)<0)=true from rfl,cT,h2,h3]
   have h4:=Hq (n:=y.natAbs - x.natAbs)
   have e1:decide (x - y<0)=(bif !decide (x<0) then decide (y.natAbs - x.natAbs≠0) else false):=by
    rw[z7 (show y.natAbs - x.natAbs≠0 by omega)]
    by_cases c:x<0
    ·have c':y<0:=by rw[z7 c] at hs;exact z12 hs.symm
     rw[z7 c,z8 (show ¬ x - y<0 by omega)];rfl
    ·have c':¬ y<0:=by rw[z8 c] at hs;exact of_decide_eq_false hs.symm
     rw[z8 c,z7 (show x - y<0 by omega)];rfl
   have e2:(x - y).natAbs=y.natAbs - x.natAbs:=by
    by_cases c:x<0
    ·have c':y<0:=by rw[z7 c] at hs;exact z12 hs.symm
     omega
    ·have c':¬ y<0:=by rw[z8 c] at hs;exact of_decide_eq_false hs.symm
     omega
   rw[e1,e2,<-h4]
   generalize hl (y.natAbs - x.natAbs)=p
   obtain ⟨c,hc⟩:∃c,decide (p.1=0)=c:=⟨_,rfl⟩
   simp only[hc]
   cases decide (x<0)<;>cases c<;>rfl
  ·have h1:=xN (m:=x.natAbs) (n:=y.natAbs) (by omega) (by omega)
   have h2:=congrArg Prod.fst h1
   have h3:=congrArg Prod.snd h1
   simp only at h2 h3
   have h0:¬ (if x.natAbs<y.natAbs then (-1:Int) else if x.natAbs=y.natAbs then 0 else 1)<0:=by
    rw[if_neg hlt]
    split<;>simp
   rw[z8 h0]
   simp only[cF,h2,h3]
   have h4:=Hq (n:=x.natAbs - y.natAbs)
   have e1:decide (x - y<0)=(bif decide (x<0) then decide (x.natAbs - y.natAbs≠0) else false):=by
    by_cases c:x<0
    ·have c':y<0:=by rw[z7 c] at hs;exact z12 hs.symm
     rw[z7 c,cond_true]
     exact decide_eq_decide.2 (by omega)
    ·have c':¬ y<0:=by rw[z8 c] at hs;exact of_decide_eq_false hs.symm
     rw[z8 c,z8 (show ¬ x - y<0 by omega)];rfl
   have e2:(x - y).natAbs=x.natAbs - y.natAbs:=by
    by_cases c:x<0
    ·have c':y<0:=by rw[z7 c] at hs;exact z12 hs.symm
     omega
    ·have c':¬ y<0:=by rw[z8 c] at hs;exact of_decide_eq_false hs.symm
     omega
   rw[e1,e2,<-h4]
   generalize hl (x.natAbs - y.natAbs)=p
   obtain ⟨c,hc⟩:∃c,decide (p.1=0)=c:=⟨_,rfl⟩
   simp only[hc]
   cases decide (x<0)<;>cases c<;>rfl
 ·rw[z8 hs]
  have h1:=Hv (m:=x.natAbs) (n:=y.natAbs) (by omega)
  have h2:=congrArg Prod.fst h1
  have h3:=congrArg Prod.snd h1
  simp only at h2 h3
  simp only[Bool.not_false,cT,h2,h3]
  have h4:=Hq (n:=y.natAbs)
  by_cases c:x<0
  ·have c':¬ y<0:=fun c'=>hs (by rw[z7 c,z7 c'])
   rw[z7 c,z8 c',z7 (show x - y<0 by omega),show (x - y).natAbs=x.natAbs+y.natAbs by omega]
   generalize hl y.natAbs=p
   obtain ⟨d,hd⟩:∃d,decide (p.1=0)=d:=⟨_,rfl⟩
   simp only[hd]
   cases d<;>rfl
  ·have c':y<0:=by
    apply Classical.byContradiction
    intro c'
    exact hs (by rw[z8 c,z8 c'])
   rw[z8 c,z7 c',z8 (show ¬ x - y<0 by omega),show (x - y).natAbs=x.natAbs+y.natAbs by omega]
   generalize hl y.natAbs=p
   obtain ⟨d,hd⟩:∃d,decide (p.1=0)=d:=⟨_,rfl⟩
   simp only[hd]
   cases d<;>rfl
theorem KA {d q:Int} (hd:0<d) (hd2:d<9223372036854775808) (hq:q.natAbs<9223372036854775808):ca (qO (d*q)) d=some q:=by
 unfold qO
 simp only[ca,ig]
 have e:(d*q).natAbs=d.natAbs*q.natAbs:=Int.natAbs_mul _ _
 have hdn:(d.natAbs:Int)=d:=by omega
 have h1:(d*q).natAbs / 18446744073709551616<d.natAbs:=by
  rw[e]
  refine (Nat.div_lt_iff_lt_mul (by omega)).2 ?_
  exact Nat.mul_lt_mul_of_pos_left (by omega) (by omega)
 have h2:=zd (h:=(d*q).natAbs / 18446744073709551616) (l:=(d*q).natAbs % 18446744073709551616) (y:=d.natAbs) h1 (by omega) (by omega)
 have h3:(d*q).natAbs / 18446744073709551616*18446744073709551616+(d*q).natAbs % 18446744073709551616=(d*q).natAbs:=by omega
 rw[h3,e,Nat.mul_div_cancel_left _ (by omega)] at h2
 have h4:IntKind.wrap .u64 d=(d.natAbs:Int):=by rw[bC (by omega) (by omega)];omega
 rw[h4]
 unfold hl
 simp only
 rw[e,h2,af]
 simp only
 rw[aO (x:=(q.natAbs:Int)) (by omega) (by omega)]
 by_cases c:q<0
 ·rw[z7 (show d*q<0 from Int.mul_neg_of_pos_of_neg hd c),cond_true,aO (by omega) (by omega)]
  congr 1
  omega
 ·rw[z8 (show ¬ d*q<0 by have:=Int.mul_nonneg (show 0<=d by omega) (show 0<=q by omega);omega),cond_false]
  congr 1
  omega
theorem aN {i:Nat} (h:i<=1000000):IntKind.wrap .i64 ((i:Int)+1)=((i+1:Nat):Int):=by rw[aO (by omega) (by omega)];rfl
def mid (T:Nat->Nat->Int) (d:Int) (r c i j:Nat):Nat->Nat->Int:=fun k l=>if k≠r/\(k<i\/(k=i/\l<j)) then piv T d r c k l else T k l
theorem QG {T:Nat->Nat->Int} {d:Int} {r c i j l:Nat}:mid T d r c i j r l=T r l:=if_neg fun h=>h.1 rfl
theorem Eu {T:Nat->Nat->Int} {d:Int} {r c i j l:Nat} (h:j<=l):mid T d r c i j i l=T i l:=by
 unfold mid
 rw[if_neg fun h=>by omega]
theorem Lc {T:Nat->Nat->Int} {d:Int} {r c k l:Nat}:T k l=mid T d r c 0 0 k l:=by
 unfold mid
 rw[if_neg fun h=>by omega]
def Cq (T:Nat->Nat->Int) (i j:Nat):Nat->Nat->Int:=fun k l=>if k<i\/(k=i/\l<j) then - T k l else T k l
theorem Jg {T:Nat->Nat->Int} {i j l:Nat} (h:j<=l):Cq T i j i l=T i l:=by
 unfold Cq
 rw[if_neg fun h=>by omega]
theorem IK {T:Nat->Nat->Int} {k l:Nat}:T k l=Cq T 0 0 k l:=by
 unfold Cq
 rw[if_neg fun h=>by omega]
theorem kE {m w:Nat} {T:Nat->Nat->Int}:(gH m w T).2=dR m w T:=rfl
theorem HZ {m w:Nat} {T T':Nat->Nat->Int} {i j:Nat} {x:Int} (hi:i<m) (hj:j<w) (h:∀k l,k<m->l<w->(if k=i/\l=j then x else T k l)=T' k l) :
  ((gH m w T).1,(dR m w T).set i (some ((bF w (T i)).set j x)))=gH m w T':=by
 rw[Fw hi hj,iU h]
 rfl
structure PivOk (m w:Nat) (T:Nat->Nat->Int) (d:Int) (r c:Nat):Prop where
 hm:m<=1000
 hw:w<=1000
 hr:r<m
 hc:c<w
 hd:0<d/\d<4611686018427387904
 b:∀i j,i<m->j<w->(T i j).natAbs<4611686018427387904
 q:∀i j,i<m->i≠r->j<w->d*piv T d r c i j=T r c*T i j - T i c*T r j
 qb:∀i j,i<m->i≠r->j<w->(piv T d r c i j).natAbs<4611686018427387904
theorem jN {x:Int} (h:x.natAbs<4611686018427387904): -9223372036854775808<=x/\x<9223372036854775808:=by omega
theorem zA {x y:Int} (hx:x.natAbs<4611686018427387904) (hy:y.natAbs<4611686018427387904):(x*y).natAbs<85070591730234615865843651857942052864:=by
 rw[Int.natAbs_mul]
 exact Nat.lt_of_le_of_lt (Nat.mul_le_mul (Nat.le_of_lt_succ (n:=4611686018427387903) hx) (Nat.le_of_lt_succ (n:=4611686018427387903) hy)) (by decide)
theorem zB {m w:Nat} {T:Nat->Nat->Int} {d:Int} {β:Nat->Nat} {r c:Nat} {x3 x4:List Int} {x5 x6:Int} (h:PivOk m w T d r c) :
  aJ (gH m w T) d (jt m β) x3 x4 x5 x6 (r:Int) (c:Int)=some (gH m w (ox T d r c),sg (T r c)*T r c,jt m (upd β r c),x3,x4,x5,x6,()):=by
 obtain ⟨hm,hw,hr,hc,hd,hb,hq,hqb⟩:=h
 unfold aJ iG
 simp only[gb,iX hr,kE,gS hr,aA,br hc,aW,z9,z7 hr,z7 hc,cM (show Nat.succ r<=m from hr),cM (show Nat.succ c<=w from hc),cT,KT hr,ju]
 refine dE m (by omega) (fun i=>((i:Int),gH m w (mid T d r c i 0),PUnit.unit)) _ (by rw[jL fun k l _ _=>Lc];rfl) (fun again i hi=>?_) (fun again=>?_)
 ·simp only[gb,iX hi,kE,gS hi,aA,br hc,aW,z9,z7 hi,z7 hc,z7 (show (i:Int)<m by omega),cM (show Nat.succ i<=m from hi),cM (show Nat.succ c<=w from hc),cT,wI hi,aN (show i<=1000000 by omega)]
  by_cases e:i=r
  ·rw[z7 (show (i:Int)=r by omega),cond_true]
   congr 3
   refine jL fun k l _ _=>?_
   unfold mid
   by_cases c1:k≠r/\(k<i\/(k=i/\l<0))
   ·rw[if_pos c1,if_pos (by omega)]
   ·rw[if_neg c1,if_neg (by omega)]
  ·rw[z8 (show ¬ (i:Int)=r by omega),cond_false]
   refine vq w (by omega) (fun j=>((j:Int),gH m w (mid T d r c i j),PUnit.unit)) _ (fun again2 j hj=>?_) (fun again2=>?_)
   ·have t1:=sW (jN (hb i j hi hj)) (jN (hb r c hr hc))
    have t2:=sW (jN (hb i c hi hc)) (jN (hb r j hr hj))
    have t3:=J2 (zA (hb i j hi hj) (hb r c hr hc)) (zA (hb i c hi hc) (hb r j hr hj))
    have t4:ca (qO (T i j*T r c - T i c*T r j)) d=some (piv T d r c i j):=by
     rw[Int.mul_comm (T i j),<-hq i j hi e hj]
     exact KA hd.1 (by omega) (by have:=hqb i j hi e hj;omega)
    simp only[gb,iX hr,kE,gS hi,gS hr,aA,br hj,aW,z9,z7 hj,z7 hr,z7 (show (j:Int)<w by omega),
     cM (show Nat.succ j<=w from hj),cM (show Nat.succ r<=m from hr),cT,QG,Eu (Nat.le_refl j),Eu (Nat.zero_le c),t1,t2,t3,t4,af,aN (show j<=1000000 by omega)]
    congr 3
    refine HZ hi hj fun k l hk hl=>?_
    unfold mid
    by_cases c0:k=i/\l=j
    ·rw[if_pos c0,if_pos (by omega),c0.1,c0.2]
    ·rw[if_neg c0]
     by_cases c1:k≠r/\(k<i\/(k=i/\l<j))
     ·rw[if_pos c1,if_pos (by omega)]
     ·rw[if_neg c1,if_neg (by omega)]
   ·simp only[kE,gS hi,aA,z8 (show ¬ (w:Int)<w by omega),cF]
    congr 3
    refine jL fun k l hk hl=>?_
    unfold mid
    by_cases c1:k≠r/\(k<i\/(k=i/\l<w))
    ·rw[if_pos c1,if_pos (by omega)]
    ·rw[if_neg c1,if_neg (by omega)]
 ·simp only[gb,z8 (show ¬ (m:Int)<m by omega),cF]
  by_cases hneg:T r c<0
  ·rw[z7 hneg,cond_true]
   refine dE m (by omega) (fun i=>((i:Int),gH m w (Cq (mid T d r c m 0) i 0),PUnit.unit)) _ (by rw[jL fun k l _ _=>IK];rfl) (fun again i hi=>?_) (fun again=>?_)
   ·simp only[gb,iX hi,kE,gS hi,aA,aW,z9,z7 hi,z7 (show (i:Int)<m by omega),cM (show Nat.succ i<=m from hi),cT,wI hi,aN (show i<=1000000 by omega)]
    refine vq w (by omega) (fun j=>((j:Int),gH m w (Cq (mid T d r c m 0) i j),PUnit.unit)) _ (fun again2 j hj=>?_) (fun again2=>?_)
    ·have hbb:(mid T d r c m 0 i j).natAbs<4611686018427387904:=by
      unfold mid
      split
      ·rename_i hh;exact hqb i j hi hh.1 hj
      ·exact hb i j hi hj
     simp only[kE,gS hi,aA,br hj,aW,z9,z7 hj,z7 (show (j:Int)<w by omega),
      cM (show Nat.succ j<=w from hj),cT,Jg (Nat.le_refl j),aN (show j<=1000000 by omega),aO (show -9223372036854775808<=0 - mid T d r c m 0 i j by omega) (by omega)]
     congr 3
     refine HZ hi hj fun k l hk hl=>?_
     unfold Cq
     by_cases c0:k=i/\l=j
     ·rw[if_pos c0,if_pos (by omega),c0.1,c0.2]
      omega
     ·rw[if_neg c0]
      by_cases c1:k<i\/(k=i/\l<j)
      ·rw[if_pos c1,if_pos (by omega)]
      ·rw[if_neg c1,if_neg (by omega)]
    ·simp only[kE,gS hi,aA,z8 (show ¬ (w:Int)<w by omega),cF]
     congr 3
     refine jL fun k l hk hl=>?_
     unfold Cq
     by_cases c1:k<i\/(k=i/\l<w)
     ·rw[if_pos c1,if_pos (by omega)]
     ·rw[if_neg c1,if_neg (by omega)]
   ·have hrc:=hb r c hr hc
    simp only[gb,z8 (show ¬ (m:Int)<m by omega),cF,aO (show -9223372036854775808<=0 - T r c by omega) (by omega)]
    have e1:sg (T r c)= -1:=by unfold sg;rw[if_pos hneg]
    congr 2
    ·refine jL fun k l hk hl=>?_
     unfold Cq mid ox
     rw[if_pos (by omega),e1]
     by_cases c0:k=r
     ·rw[if_neg (by omega),if_pos c0,c0];omega
     ·rw[if_pos (by omega),if_neg c0];omega
    ·rw[e1]
     congr 1
     omega
  ·rw[z8 hneg,cond_false]
   have e1:sg (T r c)=1:=by unfold sg;rw[if_neg hneg]
   congr 2
   ·refine jL fun k l hk hl=>?_
    unfold mid ox
    rw[e1,Int.one_mul]
    by_cases c0:k=r
    ·rw[if_neg (by omega),if_pos c0,c0]
    ·rw[if_pos (by omega),if_neg c0]
   ·rw[e1,Int.one_mul]
theorem uk {x y z p q r:Int} (hp:0<p) (hq:0<q) (hr:0<r) (h1:x*q<=y*p) (h2:y*r<=z*q):x*r<=z*p:=by
 refine A9 hq ?_
 have a1:=z11 h1 (Int.le_of_lt hr)
 have a2:=z11 h2 (Int.le_of_lt hp)
 calc q*(x*r)=x*q*r:=by grind
  _<=y*p*r:=a1
  _=y*r*p:=by grind
  _<=z*q*p:=a2
  _=q*(z*p):=by grind
theorem Ov {x y z p q r:Int} (hp:0<p) (hq:0<q) (hr:0<r) (h1:x*q<=y*p) (h2:y*r<=z*q) (h:x*r=z*p):x*q=y*p/\y*r=z*q:=by
 have h3:=uk hq hr hp h2 (by rw[h];exact Int.le_refl _)
 have h4:=uk (x:=z) (y:=x) (z:=y) (p:=r) (q:=p) (r:=q) hr hp hq (by rw[h];exact Int.le_refl _) h1
 exact ⟨Int.le_antisymm h1 h3,Int.le_antisymm h2 h4⟩
theorem yl {m w:Nat} {T:Nat->Nat->Int} {d:Int} {β:Nat->Nat} {c R:Nat} {x1:Int} {x3 x4:List Int} {x5:Int} (hm:m<=1000) (hc:c<w) (hR:R<w) (hb:∀i j,i<m->j<w->(T i j).natAbs<4611686018427387904) :
  ∃b,aE (lI m w T,x1,jt m β,x3,x4,x5,(R:Int)) (c:Int)=some b/\((b= -1/\∀i,i<m->T i c<=0)\/∃r:Nat,b=r/\Dn.Leaves m R ⟨T,d,β⟩ c r):=by
 unfold aE gU
 refine SS (fun (x:Int×Int×PUnit)=>∃i:Nat,i<=m/\x.2.1=i/\((x.1= -1/\∀k,k<i->T k c<=0)\/∃r:Nat,x.1=r/\Dn.Leaves i R ⟨T,d,β⟩ c r)) _ (fun x=>((m:Int) - x.2.1).toNat) ?_ ⟨0,by omega,rfl,.inl ⟨rfl,fun k hk=>by omega⟩⟩ (by simp only;omega)
 rintro ⟨b,_,_⟩ ⟨i,hi,rfl,hI⟩
 simp only at hI
 by_cases hlt:i<m
 ·have gR:=io (w:=w) (T:=T) hlt
  have ext:∀r,Dn.Leaves i R ⟨T,d,β⟩ c r->(0<T i c->T r R*T i c<=T i R*T r c/\(T r R*T i c=T i R*T r c->β r<=β i))->Dn.Leaves (i+1) R ⟨T,d,β⟩ c r:=fun r h hn=>by
   refine ⟨by have:=h.lt;omega,h.pos,fun k hk hp=>?_,fun k hk hp he=>?_⟩
   ·by_cases e:k=i
    ·subst e;exact (hn hp).1
    ·exact h.le k (by omega) hp
   ·by_cases e:k=i
    ·subst e;exact (hn hp).2 he
    ·exact h.tie k (by omega) hp he
  right
  by_cases hpos:T i c<=0
  ·refine ⟨(b,((i+1:Nat):Int),PUnit.unit),⟨i+1,by omega,rfl,?_⟩,by simp only;omega,fun rec=>?_⟩
   ·rcases hI with ⟨h1,h2⟩ | ⟨r,h1,h2⟩
    ·exact .inl ⟨h1,fun k hk=>by
      by_cases e:k=i
      ·rw[e];exact hpos
      ·exact h2 k (by omega)⟩
    ·exact .inr ⟨r,h1,ext r h2 fun h=>by omega⟩
   ·simp only[eH,aW,z9,z7 hlt,z7 (show (i:Int)<m by omega),gR,aA,br hc,z7 hc,z7 hpos,cT,aN (show i<=1000000 by omega)]
  ·rcases hI with ⟨h1,h2⟩ | ⟨r,h1,h2⟩
   ·refine ⟨((i:Int),((i+1:Nat):Int),PUnit.unit),⟨i+1,by omega,rfl,.inr ⟨i,rfl,⟨by omega,show 0<T i c by omega,fun k hk hp=>?_,fun k hk hp _=>?_⟩⟩⟩,by simp only;omega,fun rec=>?_⟩
    ·by_cases e:k=i
     ·subst e;exact Int.le_refl _
     ·have h3:=h2 k (by omega)
      have hp:0<T k c:=hp
      omega
    ·by_cases e:k=i
     ·subst e;exact Nat.le_refl _
     ·have h3:=h2 k (by omega)
      have hp:0<T k c:=hp
      omega
    ·simp only[eH,aW,z9,z7 hlt,z7 (show (i:Int)<m by omega),gR,aA,br hc,z7 hc,z8 hpos,z7 (show b<0 by omega),cT,cF,aN (show i<=1000000 by omega)]
   ·subst h1
    have hr:r<m:=by have:=h2.lt;omega
    have gr:=io (w:=w) (T:=T) hr
    have t1:=sW (jN (hb i R hlt hR)) (jN (hb r c hr hc))
    have t2:=sW (jN (hb r R hr hR)) (jN (hb i c hlt hc))
    have hpr:0<T r c:=h2.pos
    refine ⟨(if T i R*T r c<T r R*T i c\/(T i R*T r c=T r R*T i c/\β i<β r) then (i:Int) else (r:Int),((i+1:Nat):Int),PUnit.unit),⟨i+1,by omega,rfl,.inr ?_⟩,by simp only;omega,fun rec=>?_⟩
    ·simp only
     by_cases hq:T i R*T r c<T r R*T i c\/(T i R*T r c=T r R*T i c/\β i<β r)
     ·rw[if_pos hq]
      have hle:T i R*T r c<=T r R*T i c:=by rcases hq with h | h<;>omega
      have hpi:0<T i c:=by omega
      refine ⟨i,rfl,⟨by omega,hpi,fun k hk hp=>?_,fun k hk hp he=>?_⟩⟩
      ·have hp:0<T k c:=hp
       by_cases e:k=i
       ·subst e;exact Int.le_refl _
       ·exact uk hpi hpr hp hle (h2.le k (by omega) hp)
      ·have hp:0<T k c:=hp
       have he:T i R*T k c=T k R*T i c:=he
       by_cases e:k=i
       ·subst e;exact Nat.le_refl _
       ·obtain ⟨e1,e2⟩:=Ov hpi hpr hp hle (h2.le k (by omega) hp) he
        have h3:β r<=β k:=h2.tie k (by omega) hp e2
        show β i<=β k
        rcases hq with h | h<;>omega
     ·rw[if_neg hq]
      have h3:=fun h=>hq (.inl h)
      refine ⟨r,rfl,ext r h2 fun hp=>⟨by omega,fun he=>?_⟩⟩
      have h4:=fun h=>hq (.inr ⟨he.symm,h⟩)
      omega
    ·simp only[eH,aW,z9,z7 hlt,z7 hr,z7 (show (i:Int)<m by omega),gR,gr,aA,br hc,br hR,z7 hc,z7 hR,z8 hpos,z8 (show ¬ (r:Int)<0 by omega),cT,cF,aN (show i<=1000000 by omega),
      t1,t2,af,OE,ju,ki hlt,ki hr]
     by_cases c1:T i R*T r c<T r R*T i c
     ·rw[if_pos c1,if_pos (.inl c1)]
      generalize decide ((β i:Int)<β r)=bb
      cases bb<;>rfl
     ·by_cases c2:T i R*T r c=T r R*T i c
      ·rw[if_neg c1,if_pos c2]
       by_cases c3:β i<β r
       ·rw[if_pos (.inr ⟨c2,c3⟩),z7 (show (β i:Int)<β r by omega)]
        rfl
       ·rw[if_neg (by rintro (h | h)<;>omega),z8 (show ¬ (β i:Int)<β r by omega)]
        rfl
      ·rw[if_neg c1,if_neg c2,if_neg (by rintro (h | h)<;>omega)]
       generalize decide ((β i:Int)<β r)=bb
       cases bb<;>rfl
 ·left
  have e:i=m:=by omega
  subst e
  refine ⟨b,hI,fun rec=>?_⟩
  simp only[eH,z8 (show ¬ (i:Int)<i by omega),cF]
theorem js {n:Nat} {f:Nat->Int} {B:Int} (h:∀i,i<n-> -B<=f i/\f i<=B): -(n*B)<=sz n f/\sz n f<=n*B:=by
 induction n with
 | zero=>simp[sz]
 | succ n ih =>
  have h1:=ih fun i hi=>h i (by omega)
  have h2:=h n (by omega)
  simp only[sz]
  rw[show ((n+1:Nat):Int)*B=n*B+B by rw[show ((n+1:Nat):Int)=(n:Int)+1 by omega,Int.add_mul,Int.one_mul]]
  omega
theorem tB {m w:Nat} {T:Nat->Nat->Int} {β:Nat->Nat} {N j:Nat} {x1 x6:Int} {x3 x4:List Int} (hm:m<=1000) (hj:j<w) (hb:∀i,i<m-> -1125899906842624<=T i j/\T i j<=1125899906842624) :
  aw (lI m w T,x1,jt m β,x3,x4,(N:Int),x6) (j:Int)=some (sz m fun i=>eI N (β i)*T i j):=by
 unfold aw fZ
 have hterm:∀i,i<m-> -1125899906842624<=eI N (β i)*T i j/\eI N (β i)*T i j<=1125899906842624:=fun i hi=>by
  have:=hb i hi
  unfold eI
  split<;>omega
 refine vq m (by omega) (fun i=>(sz i (fun k=>eI N (β k)*T k j),(i:Int),PUnit.unit)) _ (fun again i hi=>?_) (fun again=>?_)
 ·have h1:=js (n:=i) (f:=fun k=>eI N (β k)*T k j) (B:=1125899906842624) fun k hk=>hterm k (by omega)
  have h2:=hterm i hi
  have hi2:(i:Int)<=1000:=by omega
  have h3:(i:Int)*1125899906842624<=1000*1125899906842624:=z11 hi2 (by omega)
  simp only[eH,ju,aW,z9,z7 hi,z7 (show (i:Int)<m by omega),io hi,ki hi,aA,br hj,z7 hj,cT,aN (show i<=1000000 by omega)]
  have hT:=hb i hi
  by_cases e:N<=β i
  ·have e1:eI N (β i)*T i j=T i j:=by unfold eI;rw[if_pos e];omega
   rw[z7 (show (β i:Int)>=N by omega),cond_true,aO (by omega) (by omega)]
   simp only[sz,e1]
  ·have e1:eI N (β i)*T i j=0:=by unfold eI;rw[if_neg e];omega
   rw[z8 (show ¬ (β i:Int)>=N by omega),cond_false]
   simp only[sz,e1,Int.add_zero]
 ·simp only[eH,z8 (show ¬ (m:Int)<m by omega),cF]
def jK (cs:List Int) (j:Nat):Int:=cs.getD j 0
theorem xY {M:List (List Int)} {x1:Int} {x2 x3 cs:List Int} {x5 x6:Int} {j:Nat}:aL (M,x1,x2,x3,cs,x5,x6) (j:Int)=some (jK cs j):=by
 unfold jK
 simp only[aL,iV,aW,z9]
 by_cases h:j<cs.length
 ·rw[z7 h,z7 (show (j:Int)<cs.length by omega)];rfl
 ·rw[z8 (show ¬ (j:Int)<cs.length by omega),cond_false,List.getD_eq_getElem?_getD,List.getElem?_eq_none (by omega)];rfl
theorem F3 {m w:Nat} {T:Nat->Nat->Int} {d:Int} {β:Nat->Nat} {j:Nat} {x3 cs:List Int} {x5 x6:Int} (hm:m<=1000) (hj:j<w) (hd: -1125899906842624<=jK cs j*d/\jK cs j*d<=1125899906842624)
  (hb:∀i,i<m-> -1125899906842624<=jK cs (β i)*T i j/\jK cs (β i)*T i j<=1125899906842624) :
  bQ (lI m w T,d,jt m β,x3,cs,x5,x6) (j:Int)=some (zr m (jK cs) ⟨T,d,β⟩ j):=by
 unfold bQ gV
 rw[xY,obN]
 refine dE m (by omega) (fun i=>(jK cs j*d - sz i (fun k=>jK cs (β k)*T k j),(i:Int),PUnit.unit)) _ ?_ (fun again i hi=>?_) (fun again=>?_)
 ·simp only[sz,Int.sub_zero]
  rw[aO (by omega) (by omega)]
  rfl
 ·have h1:=js (n:=i) (f:=fun k=>jK cs (β k)*T k j) (B:=1125899906842624) fun k hk=>hb k (by omega)
  have h2:=hb i hi
  have hi2:(i:Int)<=1000:=by omega
  have h3:(i:Int)*1125899906842624<=1000*1125899906842624:=z11 hi2 (by omega)
  simp only[eH,ju,aW,z9,z7 hi,z7 (show (i:Int)<m by omega),io hi,ki hi,aA,br hj,z7 hj,cT,aN (show i<=1000000 by omega),xY,af]
  rw[aO (x:=jK cs (β i)*T i j) (by omega) (by omega),aO (by omega) (by omega)]
  simp only[sz]
  congr 2
  omega
 ·simp only[eH,z8 (show ¬ (m:Int)<m by omega),cF]
  rfl
structure Bnd (L:Lin) (Y:Lay):Prop where
 ok:Y.ok L
 m:L.m<=12
 w:Y.w L<=64
 P:L.F0*L.P<=17592186044416
theorem rK {x:Int}:ab x=x.natAbs:=rfl
section
variable {L:Lin} {Y:Lay}
theorem Bnd.P' (h:Bnd L Y):L.P<=17592186044416:=by
 have h1:=L.F0_pos
 have h2:=L.P_pos
 have h3:1*L.P<=L.F0*L.P:=z11 h1 (by omega)
 have:=h.P
 omega
theorem Bnd.tab (h:Bnd L Y) {T:Nat->Nat->Int} {d:Int} {β:Nat->Nat} (ht:Tb L.m (Y.w L) (Y.M L) T d β):(0<d/\d<=17592186044416)/\∀i j,i<L.m->j<Y.w L->(T i j).natAbs<=17592186044416:=by
 obtain ⟨h1,h2⟩:=rN h.ok ht
 have h3:=h.P'
 refine ⟨⟨ht.dpos,by omega⟩,fun i j hi hj=>?_⟩
 have:=h2 i j hi hj
 rw[rK] at this
 omega
theorem K9 (j:Nat):(cq L j).natAbs<=L.F0 - 1:=by
 unfold cq Lin.F0
 have h0:0<=sz L.n fun j=>ab (L.c j):=iv fun j _=>bM _
 split
 ·rename_i hj
  have h1:(sz L.n fun i=>if i=j then ab (L.c j) else 0)<=sz L.n fun j=>ab (L.c j):=oi fun i _=>by
   by_cases e:i=j
   ·rw[if_pos e,e];exact Int.le_refl _
   ·rw[if_neg e];exact bM _
  rw[fB hj fun i _ hne=>if_neg hne,if_pos rfl,rK] at h1
  omega
 ·simp only[Int.natAbs_zero]
  omega
theorem Bnd.cost (h:Bnd L Y) {x:Int} (hx:(x.natAbs:Int)<=L.P) (j:Nat): -17592186044416<=cq L j*x/\cq L j*x<=17592186044416:=by
 have h1:=K9 (L:=L) j
 have h2:((cq L j*x).natAbs:Int)<=L.F0*L.P:=by
  rw[Int.natAbs_mul,Int.natCast_mul]
  refine Int.le_trans (Int.mul_le_mul (show ((cq L j).natAbs:Int)<=L.F0 by omega) hx (by omega) (by omega)) (Int.le_refl _)
 have:=h.P
 omega
theorem Bnd.tabP (h:Bnd L Y) {T:Nat->Nat->Int} {d:Int} {β:Nat->Nat} (ht:Tb L.m (Y.w L) (Y.M L) T d β):(d.natAbs:Int)<=L.P/\∀i j,i<L.m->j<Y.w L->((T i j).natAbs:Int)<=L.P:=by
 obtain ⟨h1,h2⟩:=rN h.ok ht
 have:=ht.dpos
 exact ⟨by omega,fun i j hi hj=>h2 i j hi hj⟩
theorem Uj (x:Int) (y:Int):(sg x*y).natAbs=y.natAbs:=by unfold sg;split<;>omega
theorem Bnd.piv (h:Bnd L Y) {T:Nat->Nat->Int} {d:Int} {β:Nat->Nat} (ht:Tb L.m (Y.w L) (Y.M L) T d β) {r c:Nat} (hr:r<L.m) (hc:c<Y.w L) (he:T r c≠0):PivOk L.m (Y.w L) T d r c:=by
 obtain ⟨h1,h2⟩:=h.tab ht
 obtain ⟨h3,h4⟩:=h.tab (ht.step hr hc he)
 have:=h.m
 have:=h.w
 refine ⟨by omega,by omega,hr,hc,by omega,fun i j hi hj=>by have:=h2 i j hi hj;omega,fun i j hi hne hj=>jU ht hr hi (Ne.symm hne) hc hj,fun i j hi hne hj=>?_⟩
 have h5:=h4 i j hi hj
 unfold ox at h5
 rw[if_neg hne,Uj] at h5
 omega
def AZ (L:Lin) (Y:Lay) (S:Sx):Prop:=∀i,i<L.m->Y.N<=S.β i->(∀j,j<Y.N->S.T i j=0)/\S.T i (Y.R L)=0
theorem AZ.art (S:Sx) (h:AZ L Y S):Fo L.m Y.N S (Y.R L):=fun i hi hN=>(h i hi hN).2
theorem AZ.col (S:Sx) (h:AZ L Y S) {q:Nat} (hq:q<Y.N):Fo L.m Y.N S q:=fun i hi hN=>(h i hi hN).1 q hq
def mq (S:Sx) (r c:Nat):Sx:=⟨ox S.T S.d r c,sg (S.T r c)*S.T r c,upd S.β r c⟩
theorem DZ {m w:Nat} {S:Sx} {r c:Nat} (hp:0<S.T r c):StepAt m w S (mq S r c) r c:=by
 have e:sg (S.T r c)=1:=by unfold sg;rw[if_neg (by omega)]
 refine ⟨fun i j _ _=>?_,?_,fun i _=>rfl⟩
 ·show ox S.T S.d r c i j=_
  unfold ox
  rw[e,Int.one_mul]
 ·show sg (S.T r c)*S.T r c=_
  rw[e,Int.one_mul]
theorem AZ.step {S:Sx} (h:AZ L Y S) {r c:Nat} (hc:c<Y.N):AZ L Y (mq S r c):=fun i hi hN=>by
 have hb:(mq S r c).β i=upd S.β r c i:=rfl
 rw[hb] at hN
 unfold upd at hN
 by_cases e:i=r
 ·rw[if_pos e] at hN;omega
 ·rw[if_neg e] at hN
  obtain ⟨h1,h2⟩:=h i hi hN
  have hT:∀j,(mq S r c).T i j=sg (S.T r c)*Dn.piv S.T S.d r c i j:=fun j=>by
   show ox S.T S.d r c i j=_
   unfold ox
   rw[if_neg e]
  have hz:∀j,S.T i j=0->Dn.piv S.T S.d r c i j=0:=fun j hj=>by
   unfold Dn.piv
   rw[hj,h1 c hc,Int.mul_zero,Int.zero_mul,Int.sub_zero,Int.zero_ediv]
  exact ⟨fun j hj=>by rw[hT,hz j (h1 j hj),Int.mul_zero],by rw[hT,hz _ h2,Int.mul_zero]⟩
abbrev ou (L:Lin) (Y:Lay) (x3 cs:List Int) (S:Sx):(List Nat×List (Option (List Int)))×Int×List Int×List Int×List Int×Int×Int×PUnit:=(gH L.m (Y.w L) S.T,S.d,jt L.m S.β,x3,cs,(Y.N:Int),((Y.R L:Nat):Int),PUnit.unit)
theorem Gp (h:Bnd L Y) (hp:(Y.w L) ^ L.m<=1180591620717411303424) {x3 cs:List Int} (hcs:∀j,jK cs j=cq L j) {S:Sx} (hv:Y.Val L S) (ha:AZ L Y S) :
  ∃S' ok,bK (gH L.m (Y.w L) S.T) S.d (jt L.m S.β) x3 cs (Y.N:Int) ((Y.R L:Nat):Int)=some (gH L.m (Y.w L) S'.T,S'.d,jt L.m S'.β,x3,cs,(Y.N:Int),((Y.R L:Nat):Int),ok,())/\Y.Val L S'/\AZ L Y S' /\
   (ok=true->∀j,j<Y.N->0<=zr L.m (cq L) S' j)/\(ok=false->∃q,q<Y.N/\zr L.m (cq L) S' q<0/\∀i,i<L.m->S'.T i q<=0):=by
 have hcs':jK cs=cq L:=funext hcs
 have hm:=h.m
 have hw:=h.w
 have hN:Y.N<=Y.R L:=by unfold Lay.R;omega
 have hRw:Y.R L<Y.w L:=by unfold Lay.R Lay.w;omega
 unfold bK gX
 have fin:∀{x:Option ((List Nat×List (Option (List Int)))×Int×List Int×List Int×List Int×Int×Int×Bool×Unit)},(∃r,x=some r/\∃S' ok,r=(gH L.m (Y.w L) S'.T,S'.d,jt L.m S'.β,x3,cs,(Y.N:Int),((Y.R L:Nat):Int),ok,PUnit.unit)/\Y.Val L S'/\AZ L Y S' /\
   (ok=true->∀j,j<Y.N->0<=zr L.m (cq L) S' j)/\(ok=false->∃q,q<Y.N/\zr L.m (cq L) S' q<0/\∀i,i<L.m->S'.T i q<=0))->∃S' ok,x=some (gH L.m (Y.w L) S'.T,S'.d,jt L.m S'.β,x3,cs,(Y.N:Int),((Y.R L:Nat):Int),ok,())/\Y.Val L S'/\AZ L Y S' /\
   (ok=true->∀j,j<Y.N->0<=zr L.m (cq L) S' j)/\(ok=false->∃q,q<Y.N/\zr L.m (cq L) S' q<0/\∀i,i<L.m->S'.T i q<=0):=by
  rintro x ⟨r,h1,S',ok,rfl,h3⟩
  exact ⟨S',ok,h1,h3⟩
 refine fin (Rm (γ:=Sx) (I:=fun (S:Sx) x=>x=ou L Y x3 cs S/\Y.Val L S/\AZ L Y S)
  (Q:=fun r=>∃S' ok,r=(gH L.m (Y.w L) S'.T,S'.d,jt L.m S'.β,x3,cs,(Y.N:Int),((Y.R L:Nat):Int),ok,PUnit.unit)/\Y.Val L S'/\AZ L Y S' /\
   (ok=true->∀j,j<Y.N->0<=zr L.m (cq L) S' j)/\(ok=false->∃q,q<Y.N/\zr L.m (cq L) S' q<0/\∀i,i<L.m->S'.T i q<=0))
  (μ:=fun S=>left L.m (Y.w L) Y.N (Y.R L) (Y.M L) (cq L) S) ?_ (s:=S) ⟨rfl,hv,ha⟩ (Nat.lt_of_lt_of_le (HJ (by unfold Lay.w;omega) S) hp))
 rintro S _ ⟨rfl,hv,ha⟩
 obtain ⟨hd,hb⟩:=h.tabP hv.tb
 have hred:∀j,j<Y.N->bQ (lI L.m (Y.w L) S.T,S.d,jt L.m S.β,x3,cs,(Y.N:Int),((Y.R L:Nat):Int)) (j:Int)=some (zr L.m (cq L) S j):=fun j hj=>by
  have hjw:j<Y.w L:=by omega
  have:=F3 (m:=L.m) (w:=Y.w L) (T:=S.T) (d:=S.d) (β:=S.β) (j:=j) (x3:=x3) (cs:=cs) (x5:=(Y.N:Int)) (x6:=((Y.R L:Nat):Int)) (by omega) hjw
   (by rw[hcs'];have:=h.cost hd j;omega) (fun i hi=>by rw[hcs'];have:=h.cost (hb i j hi hjw) (S.β i);omega)
  rw[this,hcs']
 rcases su Y.N (fun j=>decide (zr L.m (cq L) S j<0)) with hnone | ⟨q,hq,hneg,hleast⟩
 ·left
  refine ⟨_,⟨S,true,rfl,hv,ha,fun _ j hj=>by have:=of_decide_eq_false (hnone j hj);omega,fun e=>by cases e⟩,fun rec=>?_⟩
  refine vq Y.N (by omega) (fun j=>((-1:Int),(j:Int),PUnit.unit)) _ (fun again j hj=>?_) (fun again=>?_)
  ·simp only[aV,cT,z7 (show (j:Int)<Y.N by omega),show decide ((-1:Int)<0)=true from rfl,gP,gQ,hred j hj,af,hnone j hj,cF,aN (show j<=1000000 by omega)]
  ·simp only[aV,cT,cF,z8 (show ¬ (Y.N:Int)<Y.N by omega),show decide ((-1:Int)<0)=true from rfl]
 ·have hneg:=z12 hneg
  have hqw:q<Y.w L:=by omega
  have hent:Enters L.m Y.N (cq L) S q:=⟨hq,hneg,fun j hj=>by have:=of_decide_eq_false (hleast j hj);omega⟩
  have hbb:∀i j,i<L.m->j<Y.w L->(S.T i j).natAbs<4611686018427387904:=fun i j hi hj=>by have:=(h.tab hv.tb).2 i j hi hj;omega
  obtain ⟨b,hl1,hl2⟩:=yl (m:=L.m) (w:=Y.w L) (T:=S.T) (d:=S.d) (β:=S.β) (c:=q) (R:=Y.R L) (x1:=S.d) (x3:=x3) (x4:=cs) (x5:=(Y.N:Int)) (by omega) hqw hRw hbb
  have search:∀{R:Type} {F:(Int×Int×PUnit->Option R)->Int×Int×PUnit->Option R} {res:Option R},(∀again j,j<q->F again ((-1:Int),(j:Int),PUnit.unit)=again ((-1:Int),((j+1:Nat):Int),PUnit.unit)) ->
    (∀again,F again ((-1:Int),(q:Int),PUnit.unit)=again ((q:Int),((q+1:Nat):Int),PUnit.unit))->(∀again,F again ((q:Int),((q+1:Nat):Int),PUnit.unit)=res)->lpK (Int×Int×PUnit) R F ((-1:Int),(0:Int),PUnit.unit)=res:=fun h1 h2 h3=>by
   refine dE (q+1) (by omega) (fun j=>if j<=q then ((-1:Int),(j:Int),PUnit.unit) else ((q:Int),(j:Int),PUnit.unit)) _ (by rw[if_pos (by omega)];rfl) (fun again j hj=>?_) (fun again=>?_)
   ·by_cases e:j=q
    ·subst e
     rw[if_pos (by omega),if_neg (by omega)]
     exact h2 again
    ·rw[if_pos (by omega),if_pos (by omega)]
     exact h1 again j (by omega)
   ·rw[if_neg (by omega)]
    exact h3 again
  rcases hl2 with ⟨e,hno⟩ | ⟨r,e,hlv⟩
  ·subst e
   left
   refine ⟨_,⟨S,false,rfl,hv,ha,fun e=>(by cases e),fun _=>⟨q,hq,hneg,hno⟩⟩,fun rec=>?_⟩
   refine search (fun again j hj=>?_) (fun again=>?_) (fun again=>?_)
   ·simp only[aV,cT,z7 (show (j:Int)<Y.N by omega),show decide ((-1:Int)<0)=true from rfl,gP,gQ,hred j (by omega),af,hleast j hj,cF,aN (show j<=1000000 by omega)]
   ·simp only[aV,cT,z7 (show (q:Int)<Y.N by omega),show decide ((-1:Int)<0)=true from rfl,gP,gQ,hred q hq,af,z7 hneg,aN (show q<=1000000 by omega)]
   ·simp only[aV,cT,z8 (show ¬ (q:Int)<0 by omega),jD,Bool.and_false,cF,gP,gQ,hl1,af,show decide ((-1:Int)<0)=true from rfl]
  ·subst e
   right
   have hpr:0<S.T r q:=hlv.pos
   have hr:=hlv.lt
   have hs:=DZ (m:=L.m) (w:=Y.w L) hpr
   refine ⟨mq S r q,ou L Y x3 cs (mq S r q),⟨rfl,hv.stepAt hRw hqw (by omega) hlv hs,ha.step hq⟩,Bv (Lay.art h.ok).1 (Lay.art h.ok).2 hN hRw hv ⟨hent,hlv,hs⟩,fun rec=>?_⟩
   refine search (fun again j hj=>?_) (fun again=>?_) (fun again=>?_)
   ·simp only[aV,cT,z7 (show (j:Int)<Y.N by omega),show decide ((-1:Int)<0)=true from rfl,gP,gQ,hred j (by omega),af,hleast j hj,cF,aN (show j<=1000000 by omega)]
   ·simp only[aV,cT,z7 (show (q:Int)<Y.N by omega),show decide ((-1:Int)<0)=true from rfl,gP,gQ,hred q hq,af,z7 hneg,aN (show q<=1000000 by omega)]
   ·simp only[aV,cT,z8 (show ¬ (q:Int)<0 by omega),jD,Bool.and_false,cF,gP,gQ,hl1,af,z8 (show ¬ (r:Int)<0 by omega),zB (h.piv hv.tb hr hqw (show S.T r q≠0 by omega))]
    rfl
end
section
variable {L:Lin} {Y:Lay}
theorem Val.flat {S:Sx} (hv:Y.Val L S) {r c:Nat} (hr:r<L.m) (hc:c<Y.N) (he:S.T r c≠0) (h0:S.T r (Y.R L)=0):Y.Val L (mq S r c):=by
 have hcw:c<Y.w L:=by unfold Lay.w;omega
 have hRw:Y.R L<Y.w L:=by unfold Lay.R Lay.w;omega
 have hd:=hv.tb.dpos
 refine ⟨hv.tb.step hr hcw he,fun i hi=>?_,fun i hi=>?_⟩
 ·show 0<=ox S.T S.d r c i (Y.R L)
  unfold ox
  by_cases e:i=r
  ·rw[if_pos e,h0,Int.mul_zero];exact Int.le_refl _
  ·rw[if_neg e]
   have h1:=jU hv.tb hr hi (Ne.symm e) hcw hRw
   rw[h0,Int.mul_zero,Int.sub_zero] at h1
   have h2:0<=sg (S.T r c)*S.T r c*S.T i (Y.R L):=Int.mul_nonneg (Int.le_of_lt (Pj he)) (hv.feas i hi)
   rw[Int.mul_assoc,<-h1] at h2
   have h3:sg (S.T r c)*(S.d*Dn.piv S.T S.d r c i (Y.R L))=S.d*(sg (S.T r c)*Dn.piv S.T S.d r c i (Y.R L)):=by grind
   rw[h3] at h2
   exact Int.nonneg_of_mul_nonneg_right h2 hd
 ·show upd S.β r c i≠_
  unfold upd
  split
  ·unfold Lay.R;omega
  ·exact hv.ne i hi
theorem EU {T:Nat->Nat->Int} {d:Int} {r c i j:Nat} (h1:T i j=0) (h2:T i c=0\/T r j=0):Dn.piv T d r c i j=0:=by
 unfold Dn.piv
 rw[h1,Int.mul_zero]
 rcases h2 with h | h
 ·rw[h,Int.zero_mul,Int.sub_zero,Int.zero_ediv]
 ·rw[h,Int.mul_zero,Int.sub_zero,Int.zero_ediv]
structure Swp (L:Lin) (Y:Lay) (i:Nat) (S:Sx):Prop where
 val:Y.Val L S
 right:∀k,k<L.m->Y.N<=S.β k->S.T k (Y.R L)=0
 rows:∀k,k<L.m->k<i->Y.N<=S.β k->∀j,j<Y.N->S.T k j=0
theorem Swp.step {i:Nat} {S:Sx} (h:Swp L Y i S) {j:Nat} (hi:i<L.m) (hj:j<Y.N) (hN:Y.N<=S.β i) (he:S.T i j≠0):Swp L Y i (mq S i j):=by
 have h0:=h.right i hi hN
 have up:∀k,k≠i->(mq S i j).β k=S.β k:=fun k hk=>by
  show upd S.β i j k=_
  unfold upd
  rw[if_neg hk]
 have ui:(mq S i j).β i=j:=by
  show upd S.β i j i=_
  unfold upd
  rw[if_pos rfl]
 have hT:∀k l,k≠i->(mq S i j).T k l=sg (S.T i j)*Dn.piv S.T S.d i j k l:=fun k l hk=>by
  show ox S.T S.d i j k l=_
  unfold ox
  rw[if_neg hk]
 refine ⟨Val.flat h.val hi hj he h0,fun k hk hb=>?_,fun k hk hlt hb l hl=>?_⟩
 ·have e:k≠i:=fun e=>by rw[e,ui] at hb;omega
  rw[up k e] at hb
  rw[hT k _ e,EU (h.right k hk hb) (.inr h0),Int.mul_zero]
 ·have e:k≠i:=by omega
  rw[up k e] at hb
  rw[hT k _ e,EU (h.rows k hk hlt hb l hl) (.inl (h.rows k hk hlt hb j hj)),Int.mul_zero]
def Ds (L:Lin) (Y:Lay) (x3 cs:List Int) (o:Option ((List Nat×List (Option (List Int)))×Int×List Int×List Int×List Int×Int×Int×Bool×Unit)):Prop :=
 ∃S' ok,o=some (gH L.m (Y.w L) S'.T,S'.d,jt L.m S'.β,x3,cs,(Y.N:Int),((Y.R L:Nat):Int),ok,PUnit.unit)/\Y.Val L S' /\
   (ok=true->AZ L Y S')/\(ok=false->(∀j,j<Y.N->0<=zr L.m (eI Y.N) S' j)/\0<sz L.m fun i=>eI Y.N (S'.β i)*S'.T i (Y.R L))
theorem Ek (h:Bnd L Y) (hp:(Y.w L) ^ L.m<=1180591620717411303424) {x3 cs:List Int} {S:Sx} (hv:Y.Val L S) :
  Ds L Y x3 cs (aU (gH L.m (Y.w L) S.T) S.d (jt L.m S.β) x3 cs (Y.N:Int) ((Y.R L:Nat):Int)):=by
 have hm:=h.m
 have hw:=h.w
 have hN:Y.N<=Y.R L:=by unfold Lay.R;omega
 have hRw:Y.R L<Y.w L:=by unfold Lay.R Lay.w;omega
 unfold aU iC
 refine sK (γ:=Sx) (I:=fun (S:Sx) x=>x=ou L Y x3 cs S/\Y.Val L S)
  (Q:=Ds L Y x3 cs)
  (μ:=fun S=>left L.m (Y.w L) Y.N (Y.R L) (Y.M L) (eI Y.N) S) ?_ (s:=S) ⟨rfl,hv⟩ (Nat.lt_of_lt_of_le (HJ (by unfold Lay.w;omega) S) hp)
 rintro rec S _ ⟨rfl,hv⟩
 obtain ⟨hd,hb⟩:=h.tab hv.tb
 have hbb:∀i j,i<L.m->j<Y.w L->(S.T i j).natAbs<4611686018427387904:=fun i j hi hj=>by have:=hb i j hi hj;omega
 have hart:∀j,j<Y.w L->aw (lI L.m (Y.w L) S.T,S.d,jt L.m S.β,x3,cs,(Y.N:Int),((Y.R L:Nat):Int)) (j:Int)=some (sz L.m fun i=>eI Y.N (S.β i)*S.T i j):=fun j hj =>
  tB (by omega) hj fun i hi=>by have:=hb i j hi hj;omega
 have hz:∀j,j<Y.N->zr L.m (eI Y.N) S j= - sz L.m fun i=>eI Y.N (S.β i)*S.T i j:=fun j hj=>by
  unfold zr
  rw[show eI Y.N j=0 from if_neg (by omega),Int.zero_mul,Int.zero_sub]
 rcases su Y.N (fun j=>decide ((sz L.m fun i=>eI Y.N (S.β i)*S.T i j)>0)) with hnone | ⟨q,hq,hneg,hleast⟩
 ·left
  have search:∀{R:Type} {F:(Int×Int×PUnit->Option R)->Int×Int×PUnit->Option R} {Q:Option R->Prop},(∀again j,j<Y.N->F again ((-1:Int),(j:Int),PUnit.unit)=again ((-1:Int),((j+1:Nat):Int),PUnit.unit)) ->
    (∃res,Q res/\∀again,F again ((-1:Int),(Y.N:Int),PUnit.unit)=res)->Q (lpK (Int×Int×PUnit) R F ((-1:Int),(0:Int),PUnit.unit)):=fun {R} {F} {Q} h1 h3=>by
   obtain ⟨res,h4,h5⟩:=h3
   have e:lpK (Int×Int×PUnit) R F ((-1:Int),(0:Int),PUnit.unit)=res:=dE Y.N (by omega) (fun j=>((-1:Int),(j:Int),PUnit.unit)) res rfl h1 h5
   rw[e]
   exact h4
  refine search (Q:=Ds L Y x3 cs) (fun again j hj=>?_) ?_
  ·simp only[aV,cT,z7 (show (j:Int)<Y.N by omega),show decide ((-1:Int)<0)=true from rfl,gP,gQ,hart j (by omega),af,hnone j hj,cF,aN (show j<=1000000 by omega)]
  ·simp only[aV,cT,cF,z8 (show ¬ (Y.N:Int)<Y.N by omega),show decide ((-1:Int)<0)=true from rfl,gP,gQ,hart _ hRw,af]
   have hzr:∀j,j<Y.N->0<=zr L.m (eI Y.N) S j:=fun j hj=>by
    rw[hz j hj]
    have:=of_decide_eq_false (hnone j hj)
    omega
   by_cases hpos:(sz L.m fun i=>eI Y.N (S.β i)*S.T i (Y.R L))>0
   ·rw[z7 hpos]
    simp only[cT]
    exact ⟨_,⟨S,false,rfl,hv,fun e=>(by cases e),fun _=>⟨hzr,hpos⟩⟩,fun _=>rfl⟩
   ·rw[z8 hpos]
    simp only[cF]
    refine ⟨_,?_,fun _=>rfl⟩
    have hnn:∀i,i<L.m->0<=eI Y.N (S.β i)*S.T i (Y.R L):=fun i hi=>Int.mul_nonneg (by unfold eI;split<;>omega) (hv.feas i hi)
    have hS:Swp L Y 0 S:=by
     refine ⟨hv,fun k hk hNk=>?_,fun k _ h0=>by omega⟩
     have h1:(sz L.m fun i=>if i=k then eI Y.N (S.β k)*S.T k (Y.R L) else 0)<=sz L.m fun i=>eI Y.N (S.β i)*S.T i (Y.R L):=oi fun i hi=>by
      by_cases e:i=k
      ·rw[if_pos e,e];exact Int.le_refl _
      ·rw[if_neg e];exact hnn i hi
     rw[fB hk fun i _ hne=>if_neg hne,if_pos rfl] at h1
     have h2:=hnn k hk
     have h3:eI Y.N (S.β k)=1:=if_pos hNk
     rw[h3,Int.one_mul] at h1 h2
     omega
    refine sK (γ:=Nat×Sx) (I:=fun g x=>x=((g.1:Int),ou L Y x3 cs g.2)/\g.1<=L.m/\Swp L Y g.1 g.2)
     (Q:=Ds L Y x3 cs)
     (μ:=fun g=>L.m - g.1) ?_ (s:=(0,S)) ⟨rfl,by omega,hS⟩ (by simp only;omega)
    rintro rec2 ⟨i,S⟩ _ ⟨rfl,hi,hS⟩
    simp only at hi hS
    by_cases hlt:i<L.m
    ·right
     simp only[gb,z7 (show (i:Int)<L.m by omega),cT]
     have inner:∀{R:Type} {F:(Int×(List Nat×List (Option (List Int)))×Int×List Int×List Int×List Int×Int×Int×PUnit->Option R)->Int×(List Nat×List (Option (List Int)))×Int×List Int×List Int×List Int×Int×Int×PUnit->Option R} {k:(Int×(List Nat×List (Option (List Int)))×Int×List Int×List Int×List Int×Int×Int×PUnit->Option R)},
       (∀again (j:Nat) S,Swp L Y i S->j<=Y.N->(j<Y.N->Y.N<=S.β i->S.T i j=0->F again ((j:Int),ou L Y x3 cs S)=again (((j+1:Nat):Int),ou L Y x3 cs S))/\(j<Y.N->Y.N<=S.β i->S.T i j≠0->F again ((j:Int),ou L Y x3 cs S)=again (((j+1:Nat):Int),ou L Y x3 cs (mq S i j))) /\
        (¬ (j<Y.N/\Y.N<=S.β i)->F again ((j:Int),ou L Y x3 cs S)=k (((i+1:Nat):Int),ou L Y x3 cs S))) ->
       ∃S',Swp L Y (i+1) S'/\lpK _ R F ((0:Int),ou L Y x3 cs S)=k (((i+1:Nat):Int),ou L Y x3 cs S'):=fun {R} {F} {k} hF=>by
      refine sK (γ:=Nat×Sx) (I:=fun g x=>x=((g.1:Int),ou L Y x3 cs g.2)/\g.1<=Y.N/\Swp L Y i g.2/\(Y.N<=g.2.β i->∀l,l<g.1->g.2.T i l=0))
       (Q:=fun o=>∃S',Swp L Y (i+1) S'/\o=k (((i+1:Nat):Int),ou L Y x3 cs S')) (μ:=fun g=>Y.N - g.1) ?_ (s:=(0,S)) ⟨rfl,by omega,hS,fun _ l hl=>by omega⟩ (by simp only;omega)
      rintro rec3 ⟨j,S⟩ _ ⟨rfl,hj,hS,hz⟩
      simp only at hj hS hz
      obtain ⟨f1,f2,f3⟩:=hF rec3 j S hS hj
      by_cases hc:j<Y.N/\Y.N<=S.β i
      ·right
       by_cases h0:S.T i j=0
       ·refine ⟨(j+1,S),_,⟨rfl,by simp only;omega,hS,fun hN l hl=>?_⟩,by simp only;omega,f1 hc.1 hc.2 h0⟩
        simp only at hl
        by_cases e:l=j
        ·rw[e];exact h0
        ·exact hz hN l (by omega)
       ·refine ⟨(j+1,mq S i j),_,⟨rfl,by simp only;omega,hS.step hlt hc.1 hc.2 h0,fun hN=>?_⟩,by simp only;omega,f2 hc.1 hc.2 h0⟩
        have e:(mq S i j).β i=j:=by
         show upd S.β i j i=_
         unfold upd
         rw[if_pos rfl]
        rw[e] at hN
        omega
      ·left
       refine ⟨S,⟨hS.val,hS.right,fun k hk hlt' hN l hl=>?_⟩,f3 hc⟩
       by_cases e:k=i
       ·subst e
        exact hz hN l (by omega)
       ·exact hS.rows k hk (by omega) hN l hl
     have fin:∀{o},(∃S',Swp L Y (i+1) S'/\o=rec2 (((i+1:Nat):Int),ou L Y x3 cs S'))->∃(g:Nat×Sx) (y:_),(y=((g.1:Int),ou L Y x3 cs g.2)/\g.1<=L.m/\Swp L Y g.1 g.2)/\L.m - g.1<L.m - i/\o=rec2 y:=by
      rintro o ⟨S',h1,h2⟩
      exact ⟨(i+1,S'),_,⟨rfl,by simp only;omega,h1⟩,by simp only;omega,h2⟩
     refine fin (inner (fun again j S hS hj=>⟨fun c1 c2 c3=>?_,fun c1 c2 c3=>?_,fun c1=>?_⟩))
     ·have hjw:j<Y.w L:=by omega
      simp only[ou,z7 (show (j:Int)<Y.N by omega),ju,aW,z9,z7 hlt,cM (show Nat.succ i<=L.m from hlt),ki hlt,z7 (show (S.β i:Int)>=Y.N by omega),Bool.not_true,Bool.or_true,Bool.and_self,cT,gb,iX hlt,kE,gS hlt,aA,br hjw,z7 hjw,cM (show Nat.succ j<=Y.w L from hjw),z7 c3,cF,aN (show j<=1000000 by omega)]
     ·have hjw:j<Y.w L:=by omega
      simp only[ou,z7 (show (j:Int)<Y.N by omega),ju,aW,z9,z7 hlt,cM (show Nat.succ i<=L.m from hlt),ki hlt,z7 (show (S.β i:Int)>=Y.N by omega),Bool.not_true,Bool.not_false,Bool.or_true,Bool.and_self,cT,gb,iX hlt,kE,gS hlt,aA,br hjw,z7 hjw,cM (show Nat.succ j<=Y.w L from hjw),z8 c3,aN (show j<=1000000 by omega),
       zB (h.piv hS.val.tb hlt hjw c3),af]
      rfl
     ·by_cases c2:j<Y.N
      ·simp only[ou,z7 (show (j:Int)<Y.N by omega),ju,aW,z9,z7 hlt,cM (show Nat.succ i<=L.m from hlt),ki hlt,z8 (show ¬ (S.β i:Int)>=Y.N by omega),Bool.not_true,Bool.or_true,Bool.and_self,cT,cF,aN (show i<=1000000 by omega)]
      ·simp only[ou,z8 (show ¬ (j:Int)<Y.N by omega),Bool.not_false,Bool.true_or,Bool.and_self,cT,cF,aN (show i<=1000000 by omega)]
    ·left
     have e:i=L.m:=by omega
     subst e
     simp only[gb,z8 (show ¬ (L.m:Int)<L.m by omega),cF]
     exact ⟨S,true,rfl,hS.val,fun _ k hk hN=>⟨hS.rows k hk hk hN,hS.right k hk hN⟩,fun e=>by cases e⟩
 ·have hneg:=z12 hneg
  have hqw:q<Y.w L:=by omega
  have hent:Enters L.m Y.N (eI Y.N) S q:=⟨hq,by rw[hz q hq];omega,fun j hj=>by rw[hz j (by omega)];have:=of_decide_eq_false (hleast j hj);omega⟩
  obtain ⟨b,hl1,hl2⟩:=yl (m:=L.m) (w:=Y.w L) (T:=S.T) (d:=S.d) (β:=S.β) (c:=q) (R:=Y.R L) (x1:=S.d) (x3:=x3) (x4:=cs) (x5:=(Y.N:Int)) (by omega) hqw hRw hbb
  rcases hl2 with ⟨e,hno⟩ | ⟨r,e,hlv⟩
  ·exfalso
   have h1:(sz L.m fun i=>eI Y.N (S.β i)*S.T i q)<=sz L.m fun _=>0:=oi fun i hi=>by
    have:=hno i hi
    unfold eI
    split<;>omega
   rw[gN (f:=fun _=>0) fun _ _=>rfl] at h1
   omega
  ·subst e
   right
   have hpr:0<S.T r q:=hlv.pos
   have hr:=hlv.lt
   have hs:=DZ (m:=L.m) (w:=Y.w L) hpr
   refine ⟨mq S r q,ou L Y x3 cs (mq S r q),⟨rfl,hv.stepAt hRw hqw (by omega) hlv hs⟩,Bv (Lay.art h.ok).1 (Lay.art h.ok).2 hN hRw hv ⟨hent,hlv,hs⟩,?_⟩
   refine dE (q+1) (by omega) (fun j=>if j<=q then ((-1:Int),(j:Int),PUnit.unit) else ((q:Int),(j:Int),PUnit.unit)) _ (by rw[if_pos (by omega)];rfl) (fun again j hj=>?_) (fun again=>?_)
   ·by_cases e:j=q
    ·subst e
     rw[if_pos (by omega),if_neg (by omega)]
     simp only[aV,cT,z7 (show (j:Int)<Y.N by omega),show decide ((-1:Int)<0)=true from rfl,gP,gQ,hart j hqw,af,z7 hneg,aN (show j<=1000000 by omega)]
    ·rw[if_pos (by omega),if_pos (by omega)]
     simp only[aV,cT,z7 (show (j:Int)<Y.N by omega),show decide ((-1:Int)<0)=true from rfl,gP,gQ,hart j (by omega),af,hleast j (by omega),cF,aN (show j<=1000000 by omega)]
   ·rw[if_neg (by omega)]
    simp only[aV,cT,z8 (show ¬ (q:Int)<0 by omega),jD,Bool.and_false,cF,gP,gQ,hl1,af,zB (h.piv hv.tb hr hqw (show S.T r q≠0 by omega))]
    rfl
open Tryz Dn Dn.Sh
def al (p:Pg):Lin:=⟨p.1.length,p.2.length,fun k j=>(p.2.getD k rw0).1.getD j 0,fun k=>(p.2.getD k rw0).2.2,fun j=>p.1.getD j 0,fun k=>(p.2.getD k rw0).2.1⟩
def fX (p:Pg):Nat->Nat
 | 0=>0
 | k+1=>fX p k+if (p.2.getD k rw0).2.1=3 then 0 else 1
def au (p:Pg):Lay:=⟨p.1.length+fX p p.2.length,fun k=>p.1.length+fX p k,fun k=>if (p.2.getD k rw0).2.2<0 then -1 else 1⟩
theorem sT {p:Pg}:∀k,fX p k<=k
 | 0=>Nat.le_refl _
 | k+1=>by
  have:=sT (p:=p) k
  simp only[fX]
  split<;>omega
theorem xT {p:Pg} {k:Nat}:∀{l:Nat},k<l->(p.2.getD k rw0).2.1≠3->fX p k<fX p l
 | 0,h,_=>by omega
 | l+1,h,h3=>by
  simp only[fX]
  by_cases e:k=l
  ·subst e
   rw[if_neg h3];omega
  ·have:=xT (l:=l) (by omega) h3
   split<;>omega
theorem mI {p:Pg} (hv:ValidP p):(au p).ok (al p):=by
 have row:∀k,k<p.2.length->p.2.getD k rw0 ∈ p.2:=fun k hk=>by rw[bf hk];exact List.getElem_mem _
 refine ⟨Nat.le_add_right _ _,fun k hk=>?_,fun k hk h3=>⟨Nat.le_add_right _ _,?_⟩,fun k l hk hl h3 h4 e=>?_,fun k _=>?_,fun k _=>?_⟩
 ·have:=hv.kind _ (row k hk)
  show (p.2.getD k rw0).2.1=1\/(p.2.getD k rw0).2.1=2\/(p.2.getD k rw0).2.1=3
  omega
 ·have:=xT (p:=p) (k:=k) (l:=p.2.length) hk h3
  show p.1.length+fX p k<p.1.length+fX p p.2.length
  omega
 ·have e:p.1.length+fX p k=p.1.length+fX p l:=e
  rcases Nat.lt_trichotomy k l with h | h | h
  ·have:=xT (p:=p) h h3;omega
  ·exact h
  ·have:=xT (p:=p) h h4;omega
 ·show (if (p.2.getD k rw0).2.2<0 then (-1:Int) else 1)=1\/(if (p.2.getD k rw0).2.2<0 then (-1:Int) else 1)= -1
  split<;>omega
 ·show 0<=(if (p.2.getD k rw0).2.2<0 then (-1:Int) else 1)*(p.2.getD k rw0).2.2
  split<;>omega
theorem zW {p:Pg} (hv:ValidP p):(au p).w (al p)<=25/\(al p).m<=6:=by
 have h1:=sT (p:=p) p.2.length
 have h2:=hv.rows
 have h3:=hv.cost.2
 refine ⟨?_,h2⟩
 show p.1.length+fX p p.2.length+p.2.length+1<=25
 omega
theorem mZ {α:Type} {w:Nat} {f:Nat->α}:bF w f++[f w]=bF (w+1) f:=by
 unfold bF
 rw[List.range_succ,List.map_append]
 rfl
theorem Ha {m w:Nat} {T:Nat->Nat->Int}:dR m w T++[some (bF w (T m))]=dR (m+1) w T:=by
 unfold dR
 rw[List.range_succ,List.map_append]
 rfl
theorem LH {l:List Int} {w:Nat} (h:l.length<=w):List.take 0 (List.replicate w (0:Int))++List.take w l++List.drop (0+(List.take w l).length) (List.replicate w 0)=bF w fun j=>l.getD j 0:=by
 rw[List.take_of_length_le h]
 refine List.ext_getElem (by rw[aA];simp;omega) fun i h1 h2=>?_
 rw[xM]
 have hi:i<w:=by rw[aA] at h2;exact h2
 by_cases e:i<l.length
 ·rw[bf e,List.getElem_append_left (by simp;exact e)]
  simp
 ·rw[List.getElem_append_right (by simp;omega),List.getD_eq_getElem?_getD,List.getElem?_eq_none (by omega)]
  simp
abbrev St:=Int×Int×(List Nat×List (Option (List Int)))×Int×List Int×List Int×List Int×Int×Int×PUnit
def Q1 {R:Type} (p:Pg) (again:St->Option R) (x:St) (x_1:Int×List Int×PUnit):Option R :=
 let v21:List Int×PUnit:=(x_1.2.1,PUnit.unit);jnK (Int×List Int×PUnit) R (fun (x_2:Int×List Int×PUnit)=>bif inB (IntKind.wrap .i64 (x.2.2.2.2.2.2.2.1+x.2.1)) (List.length x_2.2.1) then bif Nat.ble (Nat.succ (Int.toNat (IntKind.wrap .i64 (x.2.2.2.2.2.2.2.1+x.2.1)))) (List.length x_2.2.1) then bif dM (List.length x.2.2.1.1+(1:Nat)) (24:Nat) then bif dM (List.length x.2.2.2.2.2.1+(1:Nat)) (8:Nat) then bif dM (List.length x.2.2.2.2.1+(1:Nat)) (8:Nat) then again (x_1.1,IntKind.wrap .i64 (x.2.1+(1:Int)),(x.2.2.1.1++[List.length x.2.2.1.2+(0:Nat)],x.2.2.1.2++[some (List.set x_2.2.1 (Int.toNat (IntKind.wrap .i64 (x.2.2.2.2.2.2.2.1+x.2.1))) (1:Int))]),x.2.2.2.1,x.2.2.2.2.1++[(IntKind.wrap .i64 (x.2.2.2.2.2.2.2.1+x.2.1))],x.2.2.2.2.2.1++[x_2.1],x.2.2.2.2.2.2.1,x.2.2.2.2.2.2.2.1,x.2.2.2.2.2.2.2.2.1,PUnit.unit) else none else none else none else none else none) fun (j:Int×List Int×PUnit->Option R)=>bif decide ((List.getD p.2 (Int.toNat x.2.1) ([],(0:Int),(0:Int))).2.2<(0:Int)) then lpK (Int×List Int×PUnit) R (fun (again:Int×List Int×PUnit->Option R) (x:Int×List Int×PUnit) =>
 let v25:Bool:=inB x.1 (List.length x.2.1);
 let v26:Bool:=Nat.ble (Nat.succ (Int.toNat x.1)) (List.length x.2.1);
 bif decide (x.1<(↑(List.length x_1.2.1):Int)) then bif v25 then bif v26 then bif v25 then bif v26 then again (IntKind.wrap .i64 (x.1+(1:Int)),List.set x.2.1 (Int.toNat x.1) (IntKind.wrap .i64 ((0:Int) - List.getD x.2.1 (Int.toNat x.1) (0:Int))),PUnit.unit) else none else none else none else none else j ((-1:Int),x.2.1,PUnit.unit)) ((0:Int),v21) else j ((1:Int),v21)
def RA {R:Type} (p:Pg) (again k:St->Option R) (x:St):Option R :=
 let v12:Int:=IntKind.wrap .i64 (x.1+(1:Int));
 let v13:List Int×Int×Int:=List.getD p.2 (Int.toNat x.2.1) ([],(0:Int),(0:Int));
 let v14:List Int:=List.replicate (Int.toNat (IntKind.wrap .i64 (x.2.2.2.2.2.2.2.2.1+(1:Int)))) (0:Int);
 let v15:Bool:=inB x.1 (Int.toNat (IntKind.wrap .i64 (x.2.2.2.2.2.2.2.2.1+(1:Int))));
 let v16:Bool:=Nat.ble (Nat.succ (Int.toNat x.1)) (Int.toNat (IntKind.wrap .i64 (x.2.2.2.2.2.2.2.2.1+(1:Int))));
 let _:Int:=IntKind.wrap .i64 (x.2.2.2.2.2.2.2.1+x.2.1);
 let v18:List Int:=List.take (Int.toNat (IntKind.wrap .i64 (x.2.2.2.2.2.2.2.2.1+(1:Int)))) v13.1;
 let v19:List Int:=List.set (List.take (0:Nat) v14++v18++List.drop ((0:Nat)+List.length v18) v14) (Int.toNat x.2.2.2.2.2.2.2.2.1) v13.2.2;
 bif decide (x.2.1<(↑(List.length p.2):Int)) then bif inB x.2.1 (List.length p.2) then bif decide ((0:Int)<=IntKind.wrap .i64 (x.2.2.2.2.2.2.2.2.1+(1:Int)))&&dM (Int.toNat (IntKind.wrap .i64 (x.2.2.2.2.2.2.2.2.1+(1:Int)))) (8:Nat) then bif inB x.2.2.2.2.2.2.2.2.1 (Int.toNat (IntKind.wrap .i64 (x.2.2.2.2.2.2.2.2.1+(1:Int)))) then bif Nat.ble (Nat.succ (Int.toNat x.2.2.2.2.2.2.2.2.1)) (Int.toNat (IntKind.wrap .i64 (x.2.2.2.2.2.2.2.2.1+(1:Int)))) then jnK (Int×List Int×PUnit) R (Q1 p again x) fun (j:Int×List Int×PUnit->Option R)=>bif decide (v13.2.1=(1:Int)) then bif v15 then bif v16 then j (v12,List.set v19 (Int.toNat x.1) (1:Int),PUnit.unit) else none else none else jnK (Int×List Int×PUnit) R (fun (x:Int×List Int×PUnit)=>j (x.1,x.2.1,PUnit.unit)) fun (j:Int×List Int×PUnit->Option R)=>bif decide (v13.2.1=(2:Int)) then bif v15 then bif v16 then j (v12,List.set v19 (Int.toNat x.1) (-1:Int),PUnit.unit) else none else none else j (x.1,v19,PUnit.unit) else none else none else none else none else k x
theorem H9 {p:Pg} (hv:ValidP p) {R:Type} {again:St->Option R} {i:Nat} (hi:i<p.2.length) {f:Nat->Int} {s s0:Int}
  (hf:∀k,k<(au p).w (al p)->f k=if k=(au p).R (al p) then (al p).b i else if (al p).kd i≠3/\k=(au p).sl i then (if (al p).kd i=1 then 1 else -1) else (p.2.getD i rw0).1.getD k 0) :
  Q1 p again (s0,(i:Int),(List.range i,dR i ((au p).w (al p)) ((au p).M (al p))),1,jt i (fun k=>(au p).N+k),bF i (au p).σ,p.1,((au p).N:Int),(((au p).R (al p):Nat):Int),PUnit.unit) (s,bF ((au p).w (al p)) f,PUnit.unit) =
   again (s,((i+1:Nat):Int),(List.range (i+1),dR (i+1) ((au p).w (al p)) ((au p).M (al p))),1,jt (i+1) (fun k=>(au p).N+k),bF (i+1) (au p).σ,p.1,((au p).N:Int),(((au p).R (al p):Nat):Int),PUnit.unit):=by
 obtain ⟨h1,h2⟩:=zW hv
 have hr:p.2.getD i rw0 ∈ p.2:=by rw[bf hi];exact List.getElem_mem _
 have hR:=hv.right _ hr
 have hl:=hv.len _ hr
 have hc:=hv.coefs _ hr
 have hn:=hv.cost.2
 have hbb:∀k,k<(au p).w (al p)-> -1073741824<=f k/\f k<=1073741824:=fun k hk=>by
  rw[hf k hk]
  split
  ·exact z12 hR
  ·split
   ·split<;>omega
   ·by_cases e:k<(p.2.getD i rw0).1.length
    ·have:=z12 (hc ((p.2.getD i rw0).1.getD k 0) (by rw[bf e];exact List.getElem_mem _))
     omega
    ·rw[List.getD_eq_getElem?_getD,List.getElem?_eq_none (by omega)]
     simp
 obtain ⟨w,hw⟩:∃w,w=(au p).w (al p):=⟨_,rfl⟩
 have hNi:(au p).N+i<w:=by rw[hw];show (au p).N+i<(au p).N+p.2.length+1;omega
 have hNw:(au p).N+p.2.length+1=w:=hw.symm
 have hm6:p.2.length<=6:=h2
 rw[<-hw] at hf hbb h1 ⊢
 have fin:∀(σ:Int),σ=(au p).σ i->(List.range i++[(dR i w ((au p).M (al p))).length+0],dR i w ((au p).M (al p))++[some ((bF w fun k=>σ*f k).set ((au p).N+i) 1)])=(List.range (i+1),dR (i+1) w ((au p).M (al p))):=fun σ hσ=>by
  rw[mJ,Nat.add_zero,<-List.range_succ,kr hNi,<-Ha]
  congr 3
  congr 1
  refine cW fun k hk=>?_
  have hok:=mI hv
  unfold Lay.M
  rw[hf k hk,hσ]
  have hNn:(al p).n<=(au p).N:=hok.n
  have hRe:(au p).R (al p)=(au p).N+p.2.length:=rfl
  have hme:(al p).m=p.2.length:=rfl
  rw[hRe,hme]
  by_cases c1:k<(al p).n
  ·rw[if_neg (by omega),if_neg (by omega),if_pos c1,if_neg]
   ·rfl
   ·rintro ⟨e1,e2⟩
    have:=(hok.sl i hi e1).1
    omega
  ·rw[if_neg c1]
   by_cases c2:k<(au p).N
   ·rw[if_neg (by omega),if_neg (by omega),if_pos c2]
    by_cases c3:(al p).kd i≠3/\k=(au p).sl i
    ·rw[if_pos c3,if_pos c3]
    ·rw[if_neg c3,if_neg c3,List.getD_eq_getElem?_getD,List.getElem?_eq_none (by rw[hl];exact Nat.not_lt.1 c1)]
     simp
   ·rw[if_neg c2]
    by_cases c3:k<(au p).N+p.2.length
    ·rw[if_pos c3]
     by_cases c4:k=(au p).N+i
     ·rw[if_pos c4,if_pos c4]
     ·rw[if_neg c4,if_neg c4,if_neg (by omega),if_neg]
      ·rw[List.getD_eq_getElem?_getD,List.getElem?_eq_none (by rw[hl];exact Nat.not_lt.1 c1)]
       simp
      ·rintro ⟨e1,e2⟩
       have:=(hok.sl i hi e1).2
       omega
    ·rw[if_neg c3,if_neg (by omega),if_pos (by omega)]
 have hadd:IntKind.wrap .i64 (((au p).N:Int)+(i:Int))=(((au p).N+i:Nat):Int):=by rw[aO (by omega) (by omega)];rfl
 have hg:∀{n k:Nat},n<=1000->k<=24->dM n k=true:=fun {n k} h1 h2=>fa (Nat.le_trans (Nat.mul_le_mul h1 h2) (by decide))
 have tail:∀(σ:Int),σ=(au p).σ i->(bif inB (IntKind.wrap .i64 (((au p).N:Int)+(i:Int))) (bF w fun k=>σ*f k).length then bif Nat.ble (Nat.succ (Int.toNat (IntKind.wrap .i64 (((au p).N:Int)+(i:Int))))) (bF w fun k=>σ*f k).length then
   bif dM ((List.range i).length+1) 24 then bif dM ((bF i (au p).σ).length+1) 8 then bif dM ((jt i fun k=>(au p).N+k).length+1) 8 then
   again (s,IntKind.wrap .i64 ((i:Int)+1),(List.range i++[(dR i w ((au p).M (al p))).length+0],dR i w ((au p).M (al p))++[some ((bF w fun k=>σ*f k).set (Int.toNat (IntKind.wrap .i64 (((au p).N:Int)+(i:Int)))) 1)]),1,
    (jt i fun k=>(au p).N+k)++[IntKind.wrap .i64 (((au p).N:Int)+(i:Int))],bF i (au p).σ++[σ],p.1,((au p).N:Int),(((au p).R (al p):Nat):Int),PUnit.unit) else none else none else none else none else none) =
   again (s,((i+1:Nat):Int),(List.range (i+1),dR (i+1) w ((au p).M (al p))),1,jt (i+1) (fun k=>(au p).N+k),bF (i+1) (au p).σ,p.1,((au p).N:Int),(((au p).R (al p):Nat):Int),PUnit.unit):=fun σ hσ=>by
  rw[hadd,z9,fin σ hσ,aA,aW,z7 hNi,cM hNi,List.length_range,aA,ju,hg (by omega) (by omega),hg (by omega) (by omega),aN (show i<=1000000 by omega),hσ,mZ]
  simp only[cT]
  rw[show (jt i fun k=>(au p).N+k)++[(((au p).N+i:Nat):Int)]=jt (i+1) (fun k=>(au p).N+k) from mZ (f:=fun k=>(((au p).N+k:Nat):Int))]
 unfold Q1
 simp only[sQ,z9]
 by_cases hneg:(p.2.getD i rw0).2.2<0
 ·have hs:(au p).σ i= -1:=if_pos hneg
  rw[z7 hneg,cond_true]
  refine dE w (by omega) (fun k=>((k:Int),bF w (fun j=>if j<k then -1*f j else f j),PUnit.unit)) _ ?_ (fun again2 k hk=>?_) (fun again2=>?_)
  ·rw[cW (f:=fun j=>if j<0 then -1*f j else f j) (g:=f) fun j _=>if_neg (by omega)];rfl
  ·have hb:=hbb k hk
   simp only[aA,aW,z9,z7 hk,z7 (show (k:Int)<w by omega),cM (show Nat.succ k<=w from hk),br hk,cT,if_neg (Nat.lt_irrefl k),aN (show k<=1000000 by omega),aO (show -9223372036854775808<=0 - f k by omega) (by omega),kr hk]
   congr 3
   refine cW fun j _=>?_
   by_cases c:j=k
   ·rw[if_pos c,if_pos (by omega),c];omega
   ·rw[if_neg c]
    by_cases c2:j<k
    ·rw[if_pos c2,if_pos (by omega)]
    ·rw[if_neg c2,if_neg (by omega)]
  ·simp only[aA,z8 (show ¬ (w:Int)<w by omega),cF]
   rw[cW (f:=fun j=>if j<w then -1*f j else f j) (g:=fun j=> -1*f j) fun j hj=>if_pos hj]
   have:=tail (-1) hs.symm
   simp only[aA] at this
   exact this
 ·have hs:(au p).σ i=1:=if_neg hneg
  rw[z8 hneg,cond_false]
  have:=tail 1 hs.symm
  rw[cW (f:=fun j=>1*f j) (g:=f) fun j _=>Int.one_mul _] at this
  exact this
theorem I0 {p:Pg} (hv:ValidP p) {R:Type} {k:St->Option R} :
  lpK St R (fun again x=>RA p again k x) ((p.1.length:Int),(0:Int),([],[]),(1:Int),[],[],p.1,((au p).N:Int),(((au p).R (al p):Nat):Int),PUnit.unit) =
   k (((au p).N:Int),(p.2.length:Int),gH p.2.length ((au p).w (al p)) ((au p).M (al p)),1,jt p.2.length (fun k=>(au p).N+k),bF p.2.length (au p).σ,p.1,((au p).N:Int),(((au p).R (al p):Nat):Int),PUnit.unit):=by
 obtain ⟨h1,h2⟩:=zW hv
 have hok:=mI hv
 have hm6:p.2.length<=6:=h2
 obtain ⟨w,hw⟩:∃w,w=(au p).w (al p):=⟨_,rfl⟩
 have hR1:(au p).R (al p)+1=w:=by rw[hw]
 refine dE p.2.length (by omega) (fun i=>(((p.1.length+fX p i:Nat):Int),(i:Int),(List.range i,dR i ((au p).w (al p)) ((au p).M (al p))),1,jt i (fun k=>(au p).N+k),bF i (au p).σ,p.1,((au p).N:Int),(((au p).R (al p):Nat):Int),PUnit.unit)) _ rfl (fun again i hi=>?_) (fun again=>?_)
 ·have hr:p.2.getD i rw0 ∈ p.2:=by rw[bf hi];exact List.getElem_mem _
  have hl:=hv.len _ hr
  have hkd:=hv.kind _ hr
  have hN:p.1.length<=(au p).N:=hok.n
  have hNR:(au p).N+p.2.length=(au p).R (al p):=rfl
  have hRw:(au p).R (al p)<w:=by omega
  rw[<-hw] at h1
  have hsl:(au p).sl i=p.1.length+fX p i:=rfl
  have hcs:=sT (p:=p) i
  unfold RA
  simp only[aN (show (au p).R (al p)<=1000000 by omega),hR1,z9,aW,z7 hi,z7 (show (i:Int)<p.2.length by omega),z7 (show (0:Int)<=(w:Nat) by omega),fa (show w*8<=140737488355328 by omega),z7 hRw,cM (show Nat.succ ((au p).R (al p))<=w from hRw),Bool.and_self,cT,sQ,LH (show (p.2.getD i rw0).1.length<=w by omega),kr hRw]
  by_cases k3:(p.2.getD i rw0).2.1=3
  ·have ec:fX p (i+1)=fX p i:=by simp only[fX,if_pos k3,Nat.add_zero]
   rw[ec,z8 (show ¬ (p.2.getD i rw0).2.1=1 by omega),z8 (show ¬ (p.2.getD i rw0).2.1=2 by omega)]
   simp only[cF]
   have:=H9 hv (again:=again) (s0:=((p.1.length+fX p i:Nat):Int)) (s:=((p.1.length+fX p i:Nat):Int)) hi (f:=fun k=>if k=(au p).R (al p) then (p.2.getD i rw0).2.2 else (p.2.getD i rw0).1.getD k 0) (fun k hk=>by
    show (if k=(au p).R (al p) then (p.2.getD i rw0).2.2 else (p.2.getD i rw0).1.getD k 0)=if k=(au p).R (al p) then (p.2.getD i rw0).2.2 else _
    by_cases c:k=(au p).R (al p)
    ·rw[if_pos c,if_pos c]
    ·rw[if_neg c,if_neg c,if_neg]
     rintro ⟨e,_⟩
     exact e k3)
   rw[<-hw] at this
   exact this
  ·have hslN:(au p).sl i<(au p).N:=(hok.sl i hi k3).2
   have hslw:p.1.length+fX p i<w:=by omega
   have ec:fX p (i+1)=fX p i+1:=by simp only[fX,if_neg k3]
   rw[ec]
   have step:∀(v:Int),v=(if (al p).kd i=1 then 1 else -1)->Q1 p again ((((p.1.length+fX p i:Nat):Int)),(i:Int),(List.range i,dR i ((au p).w (al p)) ((au p).M (al p))),1,jt i (fun k=>(au p).N+k),bF i (au p).σ,p.1,((au p).N:Int),(((au p).R (al p):Nat):Int),PUnit.unit)
     (((p.1.length+fX p i+1:Nat):Int),(bF w fun k=>if k=(au p).R (al p) then (p.2.getD i rw0).2.2 else (p.2.getD i rw0).1.getD k 0).set (p.1.length+fX p i) v,PUnit.unit)=again (((p.1.length+(fX p i+1):Nat):Int),((i+1:Nat):Int),(List.range (i+1),dR (i+1) ((au p).w (al p)) ((au p).M (al p))),1,jt (i+1) (fun k=>(au p).N+k),bF (i+1) (au p).σ,p.1,((au p).N:Int),(((au p).R (al p):Nat):Int),PUnit.unit):=fun v hvv=>by
    rw[kr hslw]
    have:=H9 hv (again:=again) (s0:=((p.1.length+fX p i:Nat):Int)) (s:=((p.1.length+fX p i+1:Nat):Int)) hi (f:=fun k=>if k=p.1.length+fX p i then v else if k=(au p).R (al p) then (p.2.getD i rw0).2.2 else (p.2.getD i rw0).1.getD k 0) (fun k hk=>by
     show (if k=p.1.length+fX p i then v else if k=(au p).R (al p) then (p.2.getD i rw0).2.2 else (p.2.getD i rw0).1.getD k 0)=if k=(au p).R (al p) then (p.2.getD i rw0).2.2 else _
     by_cases c:k=(au p).R (al p)
     ·rw[if_pos c,if_pos c,if_neg (by omega)]
     ·rw[if_neg c,if_neg c]
      by_cases c2:k=p.1.length+fX p i
      ·rw[if_pos c2,if_pos ⟨k3,c2⟩,hvv]
      ·rw[if_neg c2,if_neg fun h=>c2 h.2])
    rw[<-hw] at this ⊢
    exact this
   by_cases k1:(p.2.getD i rw0).2.1=1
   ·have:=step 1 (if_pos (show (al p).kd i=1 from k1)).symm
    rw[<-hw] at this
    rw[z7 k1]
    simp only[cT,z7 hslw,cM (show Nat.succ (p.1.length+fX p i)<=w from hslw),aN (show p.1.length+fX p i<=1000000 by omega)]
    exact this
   ·have k2:(p.2.getD i rw0).2.1=2:=by omega
    have:=step (-1) (if_neg (show ¬ (al p).kd i=1 from k1)).symm
    rw[<-hw] at this
    rw[z8 k1,z7 k2]
    simp only[cT,cF,z7 hslw,cM (show Nat.succ (p.1.length+fX p i)<=w from hslw),aN (show p.1.length+fX p i<=1000000 by omega)]
    exact this
 ·unfold RA
  simp only[z8 (show ¬ (p.2.length:Int)<p.2.length by omega),cF]
  rfl
theorem Bd {p:Pg} (hv:ValidP p) {R:Type} {F:(Int×Int×PUnit->Option R)->Int×Int×PUnit->Option R} (Q:Option R->Prop)
  (hF:∀again (i:Nat) (s:Int),i<p.2.length->F again (s,(i:Int),PUnit.unit)=bif !decide ((p.2.getD i rw0).2.1=3) then again (IntKind.wrap .i64 (s+1),((i+1:Nat):Int),PUnit.unit) else again (s,((i+1:Nat):Int),PUnit.unit))
  (hf:∀again,Q (F again (((fX p p.2.length:Nat):Int),(p.2.length:Int),PUnit.unit))):Q (lpK (Int×Int×PUnit) R F ((0:Int),(0:Int),PUnit.unit)):=by
 have hm:=hv.rows
 refine nJ Q p.2.length (by omega) (fun i=>(((fX p i:Nat):Int),(i:Int),PUnit.unit)) rfl (fun again i hi=>?_) hf
 rw[hF again i _ hi]
 have:=sT (p:=p) i
 by_cases k3:(p.2.getD i rw0).2.1=3
 ·rw[z7 k3]
  simp only[fX,if_pos k3,Nat.add_zero,Bool.not_true,cF]
 ·rw[z8 k3]
  simp only[fX,if_neg k3,Bool.not_false,cT,aN (show fX p i<=1000000 by omega)]
theorem yE {p:Pg} (hv:ValidP p) {R:Type} {k:St->Option R} (Q:Option R->Prop)
  (h:Q (k (((au p).N:Int),(p.2.length:Int),gH p.2.length ((au p).w (al p)) ((au p).M (al p)),1,jt p.2.length (fun k=>(au p).N+k),bF p.2.length (au p).σ,p.1,((au p).N:Int),(((au p).R (al p):Nat):Int),PUnit.unit))) :
  Q (lpK St R (fun again x=>RA p again k x) ((p.1.length:Int),(0:Int),([],[]),(1:Int),[],[],p.1,((au p).N:Int),(((au p).R (al p):Nat):Int),PUnit.unit)):=by
 rw[I0 hv]
 exact h
end
end Go.Proofs.YtegbncajloeepaaGreat

namespace Go.Proofs.YtegbncajloeepaaGreat
open Tryz Dn Dn.Sh
def fac (L:Lin):Nat->Int
 | 0=>L.F0
 | k+1=>L.F k
def pp (f:Nat->Int):Nat->Int
 | 0=>1
 | n+1=>pp f n*f n
def mx (f:Nat->Int):Nat->Int
 | 0=>f 0
 | n+1=>max (mx f n) (f (n+1))
def gW (L:Lin):Prop:=pp (fac L) (L.m+1)<=17592186044416/\pp (fac L) (L.m+1)*mx (fac L) L.m<=144115188075855872
instance (L:Lin):Decidable (gW L):=by unfold gW;infer_instance
theorem C5 (L:Lin) (k:Nat):1<=fac L k:=by
 cases k with
 | zero=>exact L.F0_pos
 | succ k=>exact L.F_pos k
theorem EJ {f:Nat->Int}:∀{n:Nat},pp f (n+1)=f 0*pz n fun i=>f (i+1)
 | 0=>by simp[pp,pz]
 | n+1=>by
  have e:∀{n:Nat} {g:Nat->Int},pz (n+1) g=pz n g*g n:=by
   intro n
   induction n with
   | zero=>intro g;simp[pz]
   | succ n ih =>
    intro g
    have h:=ih (g:=fun i=>g (i+1))
    rw[pz,h,pz,Int.mul_assoc]
  rw[pp,EJ (n:=n),e,Int.mul_assoc]
theorem Wn (L:Lin):pp (fac L) (L.m+1)=L.F0*L.P:=EJ
theorem zw {f:Nat->Int} (h:∀i,1<=f i):∀n,1<=pp f n
 | 0=>by simp[pp]
 | n+1=>by
  have h1:=zw h n
  have h2:=Int.mul_le_mul h1 (h n) (by omega) (by omega)
  simp only[pp]
  omega
theorem H2 {f:Nat->Int} (h:∀i,1<=f i) {n:Nat}:∀{k:Nat},pp f n<=pp f (n+k)
 | 0=>Int.le_refl _
 | k+1=>by
  have h1:=H2 h (n:=n) (k:=k)
  have h2:=zw h (n+k)
  have h3:pp f (n+k)*1<=pp f (n+k)*f (n+k):=Int.mul_le_mul_of_nonneg_left (h _) (by omega)
  rw[<-Nat.add_assoc]
  simp only[pp]
  omega
theorem SF {f:Nat->Int} {n:Nat}:∀{i:Nat},i<=n->f i<=mx f n:=by
 induction n with
 | zero=>intro i h;rw[show i=0 by omega];exact Int.le_refl _
 | succ n ih =>
  intro i h
  simp only[mx]
  by_cases e:i=n+1
  ·rw[e];omega
  ·have:=ih (i:=i) (by omega)
   omega
theorem Sj {f:Nat->Int} {B:Int}:∀{n:Nat},(∀i,i<=n->f i<=B)->mx f n<=B
 | 0,h=>h 0 (by omega)
 | n+1,h=>by
  have h1:=Sj (n:=n) fun i hi=>h i (by omega)
  have h2:=h (n+1) (by omega)
  simp only[mx]
  omega
theorem yy {l:List Int} (h:∀n ∈ l,inC n=true) (j:Nat):ab (l.getD j 0)<=1048576:=by
 rw[tT]
 by_cases e:j<l.length
 ·exact z12 (h _ (by rw[bf e];exact List.getElem_mem _))
 ·rw[List.getD_eq_getElem?_getD,List.getElem?_eq_none (by omega)]
  simp
theorem wh {l:List Int} (h:∀n ∈ l,inC n=true) {n:Nat} (hn:n<=12):0<=sz n (fun j=>ab (l.getD j 0))/\sz n (fun j=>ab (l.getD j 0))<=12582912:=by
 refine ⟨iv fun _ _=>bM _,?_⟩
 have h1:=(js (n:=n) (f:=fun j=>ab (l.getD j 0)) (B:=1048576) fun j _=>⟨by have:=bM (l.getD j 0);omega,yy h j⟩).2
 omega
theorem Ja {p:Pg} (hv:ValidP p) {k:Nat} (hk:k<=p.2.length):fac (al p) k<=2147483648:=by
 have hn:=hv.cost.2
 cases k with
 | zero =>
  have:=wh hv.cs hn
  show 1+sz p.1.length (fun j=>ab (p.1.getD j 0))<=_
  omega
 | succ k =>
  have hr:p.2.getD k rw0 ∈ p.2:=by rw[bf (show k<p.2.length by omega)];exact List.getElem_mem _
  have h1:=wh (hv.coefs _ hr) hn
  have h2:=z12 (hv.right _ hr)
  have h3:ab (p.2.getD k rw0).2.2<=1073741824:=tT.2 h2
  show 1+ab (p.2.getD k rw0).2.2+sz p.1.length (fun j=>ab ((p.2.getD k rw0).1.getD j 0))<=_
  omega
theorem FV {l:List Int} {more:Int} (h:∀n ∈ l,inC n=true) (hl:l.length<=12) (hm:inR more=true):dH l more=some (1+ab more+sz l.length fun j=>ab (l.getD j 0)):=by
 have hm:=z12 hm
 have hma:ab more<=1073741824:=tT.2 hm
 have hma0:=bM more
 unfold dH lg
 rw[vG (by omega) (by omega),obN]
 have e0:((more.natAbs:Nat):Int)=ab more:=rfl
 refine dE l.length (by omega) (fun i=>(1+ab more+sz i (fun j=>ab (l.getD j 0)),(i:Int),PUnit.unit)) _ ?_ (fun again i hi=>?_) (fun again=>?_)
 ·rw[e0,aO (x:=ab more) (by omega) (by omega),aO (by omega) (by omega)]
  simp only[sz,Int.add_zero]
  rfl
 ·have h1:=yy h i
  have h0:=bM (l.getD i 0)
  have h2:=wh h (n:=i) (by omega)
  have h3: -1048576<=l.getD i 0/\l.getD i 0<=1048576:=tT.1 h1
  have e1:((l.getD i 0).natAbs:Int)=ab (l.getD i 0):=rfl
  simp only[aW,z9,z7 hi,z7 (show (i:Int)<l.length by omega),cT,vG (show -9223372036854775808<=l.getD i 0 by omega) (by omega),af,e1,aN (show i<=1000000 by omega)]
  rw[aO (x:=ab (l.getD i 0)) (by omega) (by omega),aO (by omega) (by omega)]
  simp only[sz]
  congr 2
  omega
 ·simp only[z8 (show ¬ (l.length:Int)<l.length by omega),cF]
theorem PW {n:Nat} {f:Nat->Int} (hn:n<=1000):dW (bF (n+1) f)=some (mx f n):=by
 unfold dW kL
 simp only[sQ,aA,z8 (show ¬ ((n+1:Nat):Int)<1 by omega),cF,show inB (0:Int) (n+1)=true from ul (by omega) (by omega),cT,br (show 0<n+1 by omega)]
 refine dE n (by omega) (fun i=>(mx f i,((i+1:Nat):Int),PUnit.unit)) _ rfl (fun again i hi=>?_) (fun again=>?_)
 ·simp only[z7 (show ((i+1:Nat):Int)<(n+1:Nat) by omega),aW,z7 (show i+1<n+1 by omega),z9,cT,br (show i+1<n+1 by omega),Rx,aN (show i+1<=1000000 by omega)]
  rfl
 ·simp only[z8 (show ¬ ((n+1:Nat):Int)<(n+1:Nat) by omega),cF]
theorem GD {a b c:Int} (hc:0<c):a<=b / c↔a*c<=b:=Int.le_ediv_iff_mul_le hc
theorem Gt {a b c:Int} (hc:0<c):a>b / c↔b<a*c:=Int.ediv_lt_iff_lt_mul hc
theorem vJ {p:Pg} (hv:ValidP p):cz p=some (decide (gW (al p))):=by
 have hm:=hv.rows
 have hn:=hv.cost.2
 unfold cz nu
 rw[FV hv.cs hn (by decide),obN]
 obtain ⟨f,hf⟩:∃f,f=fac (al p):=⟨_,rfl⟩
 have hpos:∀i,1<=f i:=fun i=>by rw[hf];exact C5 _ i
 have hsm:∀k,k<=p.2.length->f k<=2147483648:=fun k hk=>by rw[hf];exact Ja hv hk
 have hF:gW (al p)=(pp f (p.2.length+1)<=17592186044416/\pp f (p.2.length+1)*mx f p.2.length<=144115188075855872):=by rw[hf];rfl
 refine dE p.2.length (by omega) (fun i=>(bF (i+1) f,(i:Int),PUnit.unit)) _ ?_ (fun again i hi=>?_) (fun again=>?_)
 ·rw[hf]
  show _=([fac (al p) 0],(0:Int),PUnit.unit)
  congr 2
 ·have hr:p.2.getD i rw0 ∈ p.2:=by rw[bf hi];exact List.getElem_mem _
  have h1:=FV (hv.coefs _ hr) (by rw[hv.len _ hr];exact hn) (hv.right _ hr)
  simp only[aW,z9,z7 hi,z7 (show (i:Int)<p.2.length by omega),cT,h1,af,aA,fa (show (i+1+1)*8<=140737488355328 by omega),aN (show i<=1000000 by omega)]
  have e:f (i+1)=1+ab (p.2.getD i rw0).2.2+sz (p.2.getD i rw0).1.length (fun j=>ab ((p.2.getD i rw0).1.getD j 0)):=by
   rw[hf,hv.len _ hr]
   rfl
  rw[<-e,mZ]
 ·simp only[z8 (show ¬ (p.2.length:Int)<p.2.length by omega),cF,aA,PW (show p.2.length<=1000 by omega),af]
  have hmx:1<=mx f p.2.length/\mx f p.2.length<=2147483648:=⟨Int.le_trans (hpos 0) (SF (by omega)),Sj hsm⟩
  have round:∀{R:Type} {a b:Option R} (i:Nat),i<p.2.length+1->(bif nzB (f i) then bif decide (pp f i>IntKind.wrap .i64 (Int.tdiv 17592186044416 (f i))) then a else b else none)=bif decide (pp f (i+1)>17592186044416) then a else b:=fun i hi=>by
   have h1:=hpos i
   have h2:=hsm i (by omega)
   rw[ng (by omega),cond_true,Int.tdiv_eq_ediv_of_nonneg (by omega)]
   have h3:0<=17592186044416 / f i:=Int.ediv_nonneg (by omega) (by omega)
   have h4:17592186044416 / f i<=17592186044416:=Int.ediv_le_self _ (by omega)
   rw[aO (by omega) (by omega),decide_eq_decide.2 (Gt (a:=pp f i) (show 0<f i by omega))]
   rfl
  rcases su (p.2.length+1) (fun i=>decide (pp f (i+1)>17592186044416)) with hnone | ⟨q,hq,hbig,hleast⟩
  ·have hall:∀i,i<=p.2.length+1->pp f i<=17592186044416:=fun i hi=>by
    cases i with
    | zero=>simp[pp]
    | succ i=>have:=of_decide_eq_false (hnone i (by omega));omega
   refine dE (p.2.length+1) (by omega) (fun i=>(pp f i,(i:Int),PUnit.unit)) _ rfl (fun again i hi=>?_) (fun again=>?_)
   ·have h2:=hall (i+1) (by omega)
    have h3:=zw hpos (i+1)
    simp only[z7 (show (i:Int)<(p.2.length+1:Nat) by omega),aW,z7 hi,z9,br hi,cM (show Nat.succ i<=p.2.length+1 from hi),cT,round i hi,hnone i hi,cF,aN (show i<=1000000 by omega)]
    rw[aO (x:=pp f i*f i) (by simp only[pp] at h2 h3;omega) (by simp only[pp] at h2;omega)]
    rfl
   ·simp only[z8 (show ¬ ((p.2.length+1:Nat):Int)<(p.2.length+1:Nat) by omega),cF]
    rw[ng (by omega),cond_true,Int.tdiv_eq_ediv_of_nonneg (by omega)]
    have h3:0<=144115188075855872 / mx f p.2.length:=Int.ediv_nonneg (by omega) (by omega)
    have h4:144115188075855872 / mx f p.2.length<=144115188075855872:=Int.ediv_le_self _ (by omega)
    rw[aO (by omega) (by omega)]
    congr 1
    refine decide_eq_decide.2 ?_
    rw[GD (a:=pp f (p.2.length+1)) (show 0<mx f p.2.length by omega),hF]
    exact ⟨fun h=>⟨hall _ (by omega),h⟩,fun h=>h.2⟩
  ·have hlow:∀i,i<=q->pp f i<=17592186044416:=fun i hi=>by
    cases i with
    | zero=>simp[pp]
    | succ i=>have:=of_decide_eq_false (hleast i (by omega));omega
   refine dE q (by omega) (fun i=>(pp f i,(i:Int),PUnit.unit)) _ rfl (fun again i hi=>?_) (fun again=>?_)
   ·have h2:=hlow (i+1) (by omega)
    have h3:=zw hpos (i+1)
    simp only[z7 (show (i:Int)<(p.2.length+1:Nat) by omega),aW,z7 (show i<p.2.length+1 by omega),z9,br (show i<p.2.length+1 by omega),cM (show Nat.succ i<=p.2.length+1 by omega),cT,round i (by omega),hleast i hi,cF,aN (show i<=1000000 by omega)]
    rw[aO (x:=pp f i*f i) (by simp only[pp] at h2 h3;omega) (by simp only[pp] at h2;omega)]
    rfl
   ·simp only[z7 (show (q:Int)<(p.2.length+1:Nat) by omega),aW,z7 hq,z9,br hq,cM (show Nat.succ q<=p.2.length+1 from hq),cT,round q hq,hbig]
    congr 1
    refine (z8 ?_).symm
    rw[hF]
    rintro ⟨h1,_⟩
    have h2:=z12 hbig
    have h3:=H2 hpos (n:=q+1) (k:=p.2.length - q)
    rw[show q+1+(p.2.length - q)=p.2.length+1 by omega] at h3
    omega
theorem yX {p:Pg} (hv:ValidP p) (hf:gW (al p)):Bnd (al p) (au p):=by
 obtain ⟨h1,h2⟩:=zW hv
 refine ⟨mI hv,by omega,by omega,?_⟩
 rw[<-Wn]
 exact hf.1
theorem LQ {p:Pg} (hf:gW (al p)) {k:Nat} (hk:k<=p.2.length):(al p).F0*(al p).P*fac (al p) k<=144115188075855872:=by
 rw[<-Wn]
 have h1:=SF (f:=fac (al p)) hk
 have h2:=zw (C5 (al p)) ((al p).m+1)
 have h3:=Int.mul_le_mul_of_nonneg_left h1 (show 0<=pp (fac (al p)) ((al p).m+1) by omega)
 exact Int.le_trans h3 hf.2
end Go.Proofs.YtegbncajloeepaaGreat

namespace Go.Proofs.YtegbncajloeepaaGreat
noncomputable section
open Tryz Dn Dn.Sh
theorem wx {p:Pg} (j:Nat):jK p.1 j=cq (al p) j:=by
 unfold cq jK
 by_cases h:j<(al p).n
 ·rw[if_pos h];rfl
 ·rw[if_neg h,List.getD_eq_getElem?_getD,List.getElem?_eq_none (Nat.not_lt.1 h)];rfl
theorem Lu {n d:Int} (hd:d≠0) (hn:n.natAbs<=1152921504606846976) (hd2:d.natAbs<=1152921504606846976):xE (GI n d)=(prQ ((n:Rat) / d),0,()):=by
 obtain ⟨m1,m2,m3⟩:=HQ (s:=decide (n<0) !=decide (d<0)) (n:=n.natAbs) (d:=d.natAbs) (by omega)
 obtain ⟨m4,m5⟩:=H7 (s:=decide (n<0) !=decide (d<0)) m2 m3
 have hf:gB (GI n d):=by
  unfold gB GI
  rw[m1,m4,m5]
  have a1:n.natAbs / Nat.gcd n.natAbs d.natAbs<=n.natAbs:=Nat.div_le_self _ _
  have a2:d.natAbs / Nat.gcd n.natAbs d.natAbs<=d.natAbs:=Nat.div_le_self _ _
  refine ⟨?_,by rw[<-m5] at *;omega⟩
  unfold sgn
  generalize n.natAbs / Nat.gcd n.natAbs d.natAbs=p at *
  split<;>omega
 unfold xE
 rw[if_pos hf,yh hd]
theorem vP {n d:Int} (hd:d≠0) (hn:n.natAbs<=1152921504606846976) (hd2:d.natAbs<=1152921504606846976):gB ((n:Rat) / d):=by
 have h:=Lu hd hn hd2
 rw[yh hd] at h
 rcases qh ((n:Rat) / d) with ⟨h1,_⟩ | ⟨_,h2⟩
 ·exact h1
 ·rw[h2] at h
  exact absurd (show (5:Int)=0 from congrArg (fun x:Fq×Int×Unit=>x.2.1) h) (by decide)
theorem xW {M:List (List Int)} {d n:Int} {x2 x3 cs:List Int} {x5 x6:Int} (hd:0<d/\d<=17592186044416) (hn:n.natAbs<=1152921504606846976):aM (M,d,x2,x3,cs,x5,x6) n=some (prQ ((n:Rat) / (d:Rat))):=by
 simp only[aM,iL,Ic (show -9223372036854775808<=n by omega) (by omega) (show -9223372036854775808<=d by omega) (by omega),af,if_neg (show ¬ d=0 by omega)]
 rw[yh (by omega)]
 unfold xE
 rw[if_pos (vP (by omega) hn (by omega))]
theorem Ra {n:Nat}:List.replicate n (0:Int)=bF n fun _=>0:=by
 refine List.ext_getElem (by rw[aA];simp) fun i h1 h2=>?_
 rw[xM,List.getElem_replicate]
theorem CJ {p:Pg} (k:Nat) (x:Int):((au p).σ k*x).natAbs=x.natAbs:=by
 show ((if (p.2.getD k rw0).2.2<0 then (-1:Int) else 1)*x).natAbs=_
 split<;>omega
theorem OV {m w:Nat} {T:Nat->Nat->Int}:((gH m w T).1.all fun x=>fE (dR m w T) x)=true:=gP
theorem NW {m w:Nat} {T:Nat->Nat->Int}:(gH m w T).1.map (fun x=>bq (dR m w T) x)=lI m w T:=gQ
abbrev xL (p:Pg) (S:Sx):List Fq:=bF p.1.length fun j=>prQ (C6 (al p).m ((au p).R (al p)) S j)
abbrev yL (p:Pg) (wc:Nat->Int) (S:Sx):List Fq:=bF p.2.length fun k=>prQ (sr (al p).m (au p).N wc S (au p).σ k)
def XB (p:Pg) (S:Sx):Int:=sz (al p).m fun i=>cq (al p) (S.β i)*S.T i ((au p).R (al p))
abbrev GP (p:Pg) (S:Sx):Rat:=(XB p S:Rat) / (S.d:Rat)
structure Infeas (p:Pg) (S:Sx):Prop where
 val:(au p).Val (al p) S
 zr:∀j,j<(au p).N->0<=zr (al p).m (eI (au p).N) S j
 pos:0<sz (al p).m fun i=>eI (au p).N (S.β i)*S.T i ((au p).R (al p))
structure iq (p:Pg) (S:Sx) (q:Nat):Prop where
 val:(au p).Val (al p) S
 az:AZ (al p) (au p) S
 lt:q<(au p).N
 neg:zr (al p).m (cq (al p)) S q<0
 no:∀i,i<(al p).m->S.T i q<=0
structure Opt (p:Pg) (S:Sx):Prop where
 val:(au p).Val (al p) S
 az:AZ (al p) (au p) S
 zr:∀j,j<(au p).N->0<=zr (al p).m (cq (al p)) S j
abbrev A6:Fq×List Fq×List Fq:=((0,0),[],[])
def zR (p:Pg) (o:Option ((Fq×List Fq×List Fq)×Int×Unit)):Prop :=
 (∃S,Infeas p S/\o=some (A6,22,()))\/(∃S q,iq p S q/\o=some (A6,21,()))\/∃S,Opt p S/\o=some ((prQ (GP p S),xL p S,yL p (cq (al p)) S),0,())
theorem obQ {T R:Type} {Q:Option R->Prop} {o:Option T} {t:T} {k:T->Option R} (h:o=some t) (hk:Q (k t)):Q (ah o k):=by
 rw[h]
 exact hk
theorem O1 {p:Pg} (hv:ValidP p) (hf:gW (al p)):zR p (dh p):=by
 have hB:=yX hv hf
 obtain ⟨hw25,hm6'⟩:=zW hv
 have hm6:p.2.length<=6:=hm6'
 have hn:=hv.cost.2
 have hok:=mI hv
 have hpow:(au p).w (al p) ^ (al p).m<=1180591620717411303424:=Nat.le_trans (Nat.pow_le_pow_left (show _<=64 by omega) _) (Nat.le_trans (Nat.pow_le_pow_right (by omega) hm6') (by decide))
 have hcnt:=sT (p:=p) p.2.length
 have hNe:IntKind.wrap .i64 ((p.1.length:Int)+(fX p p.2.length:Nat))=((au p).N:Int):=by rw[aO (by omega) (by omega)];rfl
 have hRe:IntKind.wrap .i64 (((au p).N:Int)+(p.2.length:Int))=(((au p).R (al p):Nat):Int):=by
  have:(au p).N=p.1.length+fX p p.2.length:=rfl
  rw[aO (by omega) (by omega)];rfl
 unfold dh jz
 rw[mY,obN,iP.2 hv]
 simp only[Bool.not_true,cF]
 rw[vJ hv,obN,z7 hf]
 simp only[Bool.not_true,cF]
 refine Bd hv (zR p) (fun again i s hi=>?_) (fun again=>?_)
 ·simp only[z7 (show (i:Int)<p.2.length by omega),aW,z7 hi,z9,cT,aN (show i<=1000000 by omega)]
 simp only[z8 (show ¬ (p.2.length:Int)<p.2.length by omega),cF,av,fW,fa (show (0+p.1.length)*8<=140737488355328 by omega),cT,af,hNe,hRe]
 refine yE hv (zR p) ?_
 obtain ⟨S,ok,h1,hvS,h2,h3⟩:=Ek hB hpow (x3:=bF p.2.length (au p).σ) (cs:=p.1) (Lay.first hok)
 refine obQ (Q:=zR p) h1 ?_
 cases ok with
 | false =>
  simp only[Bool.not_false,cT]
  exact .inl ⟨S,⟨hvS,(h3 rfl).1,(h3 rfl).2⟩,rfl⟩
 | true =>
  simp only[Bool.not_true,cF]
  obtain ⟨S,ok,h1,hvS,haS,h2,h3⟩:=Gp hB hpow (x3:=bF p.2.length (au p).σ) wx hvS (h2 rfl)
  refine obQ (Q:=zR p) h1 ?_
  cases ok with
  | false =>
   simp only[Bool.not_false,cT]
   obtain ⟨q,e1,e2,e3⟩:=h3 rfl
   exact .inr (.inl ⟨S,q,⟨hvS,haS,e1,e2,e3⟩,rfl⟩)
  | true =>
   simp only[Bool.not_true,cF,z9,z7 (show (0:Int)<=(p.1.length:Nat) by omega),fa (show p.1.length*8<=140737488355328 by omega),Bool.and_self,cT,Ra]
   refine .inr (.inr ⟨S,⟨hvS,haS,h2 rfl⟩,?_⟩)
   obtain ⟨⟨d1,d2⟩,hb⟩:=hB.tab hvS.tb
   obtain ⟨_,hbP⟩:=hB.tabP hvS.tb
   have hRw:(au p).R (al p)<(au p).w (al p):=by unfold Lay.R Lay.w;omega
   have hm:(al p).m=p.2.length:=rfl
   have hcR:∀i,i<(al p).m-> -17592186044416<=cq (al p) (S.β i)*S.T i ((au p).R (al p))/\cq (al p) (S.β i)*S.T i ((au p).R (al p))<=17592186044416:=fun i hi=>hB.cost (hbP i _ hi hRw) _
   have hTR:∀i,i<(al p).m-> -17592186044416<=S.T i ((au p).R (al p))/\S.T i ((au p).R (al p))<=17592186044416:=fun i hi=>by have:=hb i _ hi hRw;omega
   refine dE (al p).m (by omega) (fun i=>(sz i (fun k=>cq (al p) (S.β k)*S.T k ((au p).R (al p))),(i:Int),bF p.1.length (fun j=>sz i fun k=>if S.β k=j then S.T k ((au p).R (al p)) else 0),PUnit.unit)) _ rfl (fun again i hi=>?_) (fun again=>?_)
   ·have hiR:=hcR i hi
    have hs:=js (n:=i) (f:=fun k=>cq (al p) (S.β k)*S.T k ((au p).R (al p))) (B:=17592186044416) fun k hk=>hcR k (by omega)
    have h3:(i:Int)*17592186044416<=6*17592186044416:=z11 (by omega) (by omega)
    simp only[ju,aW,z9,z7 hi,z7 (show (i:Int)<(al p).m by omega),cM (show Nat.succ i<=(al p).m from hi),ki hi,cT,OV,NW,xY,wx,af,gb,iX hi,kE,gS hi,aA,br hRw,z7 hRw,cM (show Nat.succ ((au p).R (al p))<=(au p).w (al p) from hRw),aN (show i<=1000000 by omega)]
    rw[aO (x:=cq (al p) (S.β i)*S.T i ((au p).R (al p))) (by omega) (by omega),aO (by omega) (by omega)]
    by_cases c:S.β i<p.1.length
    ·simp only[z7 (show (S.β i:Int)<p.1.length by omega),z7 c,cM (show Nat.succ (S.β i)<=p.1.length from c),cT,kr c]
     congr 3
     congr 1
     refine cW fun j _=>?_
     by_cases e:j=S.β i
     ·subst e
      rw[if_pos rfl]
      simp only[sz]
      rw[gN fun k hk=>if_neg fun e=>by have:=hvS.tb.inj (show k<(al p).m by omega) hi e;omega,if_pos trivial,Int.zero_add]
     ·rw[if_neg e]
      simp only[sz]
      rw[if_neg (Ne.symm e),Int.add_zero]
    ·simp only[z8 (show ¬ (S.β i:Int)<p.1.length by omega),cF]
     congr 3
     congr 1
     refine cW fun j hj=>?_
     simp only[sz]
     rw[if_neg (by omega),Int.add_zero]
   have hsV:=js (n:=(al p).m) (f:=fun k=>cq (al p) (S.β k)*S.T k ((au p).R (al p))) (B:=17592186044416) hcR
   have h6:((al p).m:Int)*17592186044416<=6*17592186044416:=z11 (by omega) (by omega)
   simp only[ju,z8 (show ¬ ((al p).m:Int)<(al p).m by omega),cF,gP,gQ,cT,xW ⟨d1,d2⟩ (show (sz (al p).m fun k=>cq (al p) (S.β k)*S.T k ((au p).R (al p))).natAbs<=1152921504606846976 by omega),af,aA]
   refine dE p.1.length (by omega) (fun j=>((j:Int),prQ (GP p S),bF j (fun j=>prQ (C6 (al p).m ((au p).R (al p)) S j)),[],PUnit.unit)) _ rfl (fun again j hj=>?_) (fun again=>?_)
   ·have hx:=js (n:=(al p).m) (f:=fun k=>if S.β k=j then S.T k ((au p).R (al p)) else 0) (B:=17592186044416) fun k hk=>by
     have:=hTR k hk
     split<;>omega
    simp only[aW,z9,z7 hj,z7 (show (j:Int)<p.1.length by omega),cM (show Nat.succ j<=p.1.length from hj),br hj,cT,xW ⟨d1,d2⟩ (show (sz (al p).m fun k=>if S.β k=j then S.T k ((au p).R (al p)) else 0).natAbs<=1152921504606846976 by omega),af,aA,fa (show (j+1)*16<=140737488355328 by omega),aN (show j<=1000000 by omega)]
    rw[show prQ (((sz (al p).m fun k=>if S.β k=j then S.T k ((au p).R (al p)) else 0:Int):Rat) / (S.d:Rat))=(fun j=>prQ (C6 (al p).m ((au p).R (al p)) S j)) j from rfl,mZ]
   simp only[z8 (show ¬ (p.1.length:Int)<p.1.length by omega),cF]
   refine dE p.2.length (by omega) (fun k=>((k:Int),prQ (GP p S),xL p S,bF k (fun k=>prQ (sr (al p).m (au p).N (cq (al p)) S (au p).σ k)),PUnit.unit)) _ rfl (fun again k hk=>?_) (fun again=>?_)
   ·have hNk:(au p).N+k<(au p).w (al p):=by unfold Lay.w;omega
    have hcN:∀i,i<(al p).m-> -17592186044416<=cq (al p) (S.β i)*S.T i ((au p).N+k)/\cq (al p) (S.β i)*S.T i ((au p).N+k)<=17592186044416:=fun i hi=>hB.cost (hbP i _ hi hNk) _
    have hNke:IntKind.wrap .i64 (((au p).N:Int)+(k:Int))=(((au p).N+k:Nat):Int):=by rw[aO (by omega) (by omega)];rfl
    simp only[z7 (show (k:Int)<p.2.length by omega),cT,hNke]
    refine dE (al p).m (by omega) (fun i=>(sz i (fun i=>cq (al p) (S.β i)*S.T i ((au p).N+k)),(i:Int),PUnit.unit)) _ rfl (fun again2 i hi=>?_) (fun again2=>?_)
    ·have hiR:=hcN i hi
     have hs:=js (n:=i) (f:=fun i=>cq (al p) (S.β i)*S.T i ((au p).N+k)) (B:=17592186044416) fun k hk=>hcN k (by omega)
     have h3:(i:Int)*17592186044416<=6*17592186044416:=z11 (by omega) (by omega)
     simp only[aW,z9,z7 hi,z7 (show (i:Int)<(al p).m by omega),cM (show Nat.succ i<=(al p).m from hi),ki hi,cT,xY,wx,af,gb,iX hi,kE,gS hi,aA,br hNk,z7 hNk,cM (show Nat.succ ((au p).N+k)<=(au p).w (al p) from hNk),aN (show i<=1000000 by omega)]
     rw[aO (x:=cq (al p) (S.β i)*S.T i ((au p).N+k)) (by omega) (by omega),aO (by omega) (by omega)]
     rfl
    ·have hs:=js (n:=(al p).m) (f:=fun i=>cq (al p) (S.β i)*S.T i ((au p).N+k)) (B:=17592186044416) hcN
     have hab:=CJ (p:=p) k (sz (al p).m fun i=>cq (al p) (S.β i)*S.T i ((au p).N+k))
     simp only[z8 (show ¬ ((al p).m:Int)<(al p).m by omega),cF,aA,aW,z9,z7 hk,cM (show Nat.succ k<=p.2.length from hk),br hk,cT,aO (x:=(au p).σ k*sz (al p).m fun i=>cq (al p) (S.β i)*S.T i ((au p).N+k)) (by omega) (by omega),xW ⟨d1,d2⟩ (show ((au p).σ k*sz (al p).m fun i=>cq (al p) (S.β i)*S.T i ((au p).N+k)).natAbs<=1152921504606846976 by omega),af,fa (show (k+1)*16<=140737488355328 by omega),aN (show k<=1000000 by omega)]
     rw[show prQ ((((au p).σ k*sz (al p).m fun i=>cq (al p) (S.β i)*S.T i ((au p).N+k):Int):Rat) / (S.d:Rat))=(fun k=>prQ (sr (al p).m (au p).N (cq (al p)) S (au p).σ k)) k from rfl,mZ]
   ·simp only[z8 (show ¬ (p.2.length:Int)<p.2.length by omega),cF]
end
end Go.Proofs.YtegbncajloeepaaGreat

namespace Go.Proofs.YtegbncajloeepaaGreat
open Tryz Dn Dn.Sh
def xP (p:Pg) (o:Option (List Fq×Int×Unit)):Prop :=
 (∃S,Infeas p S/\o=some (yL p (eI (au p).N) S,0,()))\/∃S,(au p).Val (al p) S/\AZ (al p) (au p) S/\o=some ([],12,())
theorem JW {p:Pg} (hv:ValidP p) (hf:gW (al p)):xP p (cu p):=by
 have hB:=yX hv hf
 obtain ⟨hw25,hm6'⟩:=zW hv
 have hm6:p.2.length<=6:=hm6'
 have hn:=hv.cost.2
 have hok:=mI hv
 have hpow:(au p).w (al p) ^ (al p).m<=1180591620717411303424:=Nat.le_trans (Nat.pow_le_pow_left (show _<=64 by omega) _) (Nat.le_trans (Nat.pow_le_pow_right (by omega) hm6') (by decide))
 have hcnt:=sT (p:=p) p.2.length
 have hNe:IntKind.wrap .i64 ((p.1.length:Int)+(fX p p.2.length:Nat))=((au p).N:Int):=by rw[aO (by omega) (by omega)];rfl
 have hRe:IntKind.wrap .i64 (((au p).N:Int)+(p.2.length:Int))=(((au p).R (al p):Nat):Int):=by
  have:(au p).N=p.1.length+fX p p.2.length:=rfl
  rw[aO (by omega) (by omega)];rfl
 unfold cu gY
 rw[mY,obN,iP.2 hv]
 simp only[Bool.not_true,cF]
 rw[vJ hv,obN,z7 hf]
 simp only[Bool.not_true,cF]
 refine Bd hv (xP p) (fun again i s hi=>?_) (fun again=>?_)
 ·simp only[z7 (show (i:Int)<p.2.length by omega),aW,z7 hi,z9,cT,aN (show i<=1000000 by omega)]
 simp only[z8 (show ¬ (p.2.length:Int)<p.2.length by omega),cF,av,fW,fa (show (0+p.1.length)*8<=140737488355328 by omega),cT,af,hNe,hRe]
 refine yE hv (xP p) ?_
 obtain ⟨S,ok,h1,hvS,h2,h3⟩:=Ek hB hpow (x3:=bF p.2.length (au p).σ) (cs:=p.1) (Lay.first hok)
 refine obQ (Q:=xP p) h1 ?_
 cases ok with
 | true =>
  simp only[cT]
  exact .inr ⟨S,hvS,h2 rfl,rfl⟩
 | false =>
  simp only[cF]
  refine .inl ⟨S,⟨hvS,(h3 rfl).1,(h3 rfl).2⟩,?_⟩
  obtain ⟨⟨d1,d2⟩,hb⟩:=hB.tab hvS.tb
  have hm:(al p).m=p.2.length:=rfl
  refine dE p.2.length (by omega) (fun k=>(bF k (fun k=>prQ (sr (al p).m (au p).N (eI (au p).N) S (au p).σ k)),(k:Int),PUnit.unit)) _ rfl (fun again k hk=>?_) (fun again=>?_)
  ·have hNk:(au p).N+k<(au p).w (al p):=by unfold Lay.w;omega
   have hNke:IntKind.wrap .i64 (((au p).N:Int)+(k:Int))=(((au p).N+k:Nat):Int):=by
    have:(au p).N=p.1.length+fX p p.2.length:=rfl
    rw[aO (by omega) (by omega)];rfl
   have hbk:∀i,i<(al p).m-> -1125899906842624<=S.T i ((au p).N+k)/\S.T i ((au p).N+k)<=1125899906842624:=fun i hi=>by have:=hb i _ hi hNk;omega
   have hbk2:∀i,i<(al p).m-> -17592186044416<=eI (au p).N (S.β i)*S.T i ((au p).N+k)/\eI (au p).N (S.β i)*S.T i ((au p).N+k)<=17592186044416:=fun i hi=>by
    have:=hb i _ hi hNk
    unfold eI
    split<;>omega
   have hs:=js (n:=(al p).m) (f:=fun i=>eI (au p).N (S.β i)*S.T i ((au p).N+k)) (B:=17592186044416) hbk2
   have h6:((al p).m:Int)*17592186044416<=6*17592186044416:=z11 (by omega) (by omega)
   have hab:=CJ (p:=p) k (sz (al p).m fun i=>eI (au p).N (S.β i)*S.T i ((au p).N+k))
   simp only[z7 (show (k:Int)<p.2.length by omega),cT,hNke,aA,aW,z9,z7 hk,cM (show Nat.succ k<=p.2.length from hk),br hk,gP,gQ,tB (show (al p).m<=1000 by omega) hNk hbk,af,
    aO (x:=(au p).σ k*sz (al p).m fun i=>eI (au p).N (S.β i)*S.T i ((au p).N+k)) (by omega) (by omega),xW ⟨d1,d2⟩ (show ((au p).σ k*sz (al p).m fun i=>eI (au p).N (S.β i)*S.T i ((au p).N+k)).natAbs<=1152921504606846976 by omega),fa (show (k+1)*16<=140737488355328 by omega),aN (show k<=1000000 by omega)]
   rw[show prQ ((((au p).σ k*sz (al p).m fun i=>eI (au p).N (S.β i)*S.T i ((au p).N+k):Int):Rat) / (S.d:Rat))=(fun k=>prQ (sr (al p).m (au p).N (eI (au p).N) S (au p).σ k)) k from rfl,mZ]
  ·simp only[z8 (show ¬ (p.2.length:Int)<p.2.length by omega),cF]
def vX (x:List Fq) (j:Nat):Rat:=qv (x.getD j (0,0))
theorem EG {f:Nat->Rat}:∀{n:Nat},sq (n+1) f=f 0+sq n fun i=>f (i+1)
 | 0=>by simp only[sq];grind
 | n+1=>by
  rw[sq,EG (n:=n)]
  simp only[sq]
  grind
theorem EO:∀{l:List Int} {x:List Fq} {s q:Rat},l.length<=x.length->fU l x s=some q->q=s+sq l.length fun j=>((l.getD j 0:Int):Rat)*vX x j
 | [],x,s,q,_,h=>by
  unfold fU at h
  injection h with h
  simp only[List.length_nil,sq]
  grind
 | n ::l,[],s,q,hl,h=>by simp at hl
 | n ::l,a ::x,s,q,hl,h=>by
  unfold fU at h
  split at h
  ·have h1:=EO (l:=l) (x:=x) (by simpa using hl) h
   rw[List.length_cons,EG,h1]
   have e1:∀j,(n ::l).getD (j+1) 0=l.getD j 0:=fun j=>rfl
   have e2:∀j,vX (a ::x) (j+1)=vX x j:=fun j=>rfl
   simp only[e1,e2]
   have e3:((n ::l).getD 0 0:Int)=n:=rfl
   have e4:vX (a ::x) 0=qv a:=rfl
   rw[e3,e4]
   grind
  ·cases h
theorem yi {l:List Int} {x:List Fq} (hl:l.length<=x.length) (h:(fU l x 0).isSome=true):(fU l x 0).getD 0=sq l.length fun j=>((l.getD j 0:Int):Rat)*vX x j:=by
 cases hq:fU l x 0 with
 | none=>rw[hq] at h;cases h
 | some q =>
  have:=EO hl hq
  rw[Option.getD_some,this]
  grind
theorem HO {a b:Rat}:yj a b<=0↔a<=b:=by
 unfold yj
 by_cases h:a<b
 ·rw[if_pos h]
  exact ⟨fun _=>Rat.le_of_lt h,fun _=>by omega⟩
 ·rw[if_neg h]
  by_cases h2:a=b
  ·rw[if_pos h2]
   exact ⟨fun _=>by rw[h2];exact Rat.le_refl,fun _=>by omega⟩
  ·rw[if_neg h2]
   refine ⟨fun h3=>by omega,fun h3=>?_⟩
   exact (h (Rat.lt_of_le_of_ne h3 h2)).elim
theorem QM {α:Type} {P:α->Bool} {l:List α} (d:α):l.all P=true↔∀k,k<l.length->P (l.getD k d)=true:=by
 rw[<-wu (p:=P) d,List.all_eq_true]
 exact ⟨fun h k hk=>h k (List.mem_range'.2 ⟨k,hk,by omega⟩),fun h i hi=>by obtain ⟨k,hk,rfl⟩:=List.mem_range'.1 hi;exact h _ (by omega)⟩
theorem Gk {p:Pg} {y:List Fq} (hy:∀a ∈ y,okF a) (hl:y.length=p.2.length):mF p y=true↔(al p).Sgn (vX y):=by
 have hpos:∀j,j<y.length->((0<=(y.getD j (0,0)).1↔0<=vX y j)/\((y.getD j (0,0)).1<=0↔vX y j<=0)):=fun j hj=>by
  have hok:=hy (y.getD j (0,0)) (by rw[bf hj];exact List.getElem_mem _)
  have h1:=nO hok
  have h2:=Re hok
  have h3:=D8 hok
  refine ⟨h1.symm,?_⟩
  unfold vX
  constructor
  ·intro h
   by_cases c:(y.getD j (0,0)).1=0
   ·rw[h3.2 c];exact Rat.le_refl
   ·exact Rat.le_of_lt (h2.2 (by omega))
  ·intro h
   apply Int.not_lt.1
   intro h4
   have h5:=h1.2 (by omega)
   have h6:=h3.1 (Rat.le_antisymm h h5)
   omega
 unfold mF
 rw[List.all_eq_true]
 have key:∀k,k<p.2.length->(zM (p.2.getD k rw0).2.1 (y.getD k (0,0)).1=true↔((al p).kd k=1->vX y k<=0)/\((al p).kd k=2->0<=vX y k)):=fun k hk=>by
  obtain ⟨h1,h2⟩:=hpos k (by omega)
  unfold zM
  have e1:(al p).kd k=(p.2.getD k rw0).2.1:=rfl
  rw[e1,z10,Bool.or_eq_true,Bool.or_eq_true,decide_eq_true_iff,decide_eq_true_iff,decide_eq_true_iff,decide_eq_true_iff,h1,h2]
  constructor
  ·rintro ⟨a1,a2⟩
   exact ⟨fun e=>a1.resolve_left fun h=>h e,fun e=>a2.resolve_left fun h=>h e⟩
  ·rintro ⟨a1,a2⟩
   refine ⟨?_,?_⟩
   ·by_cases c:(p.2.getD k rw0).2.1=1
    ·exact .inr (a1 c)
    ·exact .inl c
   ·by_cases c:(p.2.getD k rw0).2.1=2
    ·exact .inr (a2 c)
    ·exact .inl c
 constructor
 ·intro h
  exact ⟨fun k hk=>((key k hk).1 (h k (List.mem_range'.2 ⟨k,hk,by omega⟩))).1,fun k hk=>((key k hk).1 (h k (List.mem_range'.2 ⟨k,hk,by omega⟩))).2⟩
 ·rintro ⟨h1,h2⟩ i hi
  obtain ⟨k,hk,rfl⟩:=List.mem_range'.1 hi
  simp only[Nat.one_mul,Nat.zero_add]
  exact (key k hk).2 ⟨h1 k hk,h2 k hk⟩
theorem Rn {p:Pg} {y:List Fq} (hl:y.length=p.2.length) {j:Nat} (h:(fU (nT p j) y 0).isSome=true):(fU (nT p j) y 0).getD 0=(al p).col (vX y) j:=by
 rw[yi (by rw[vR];omega) h,vR]
 refine dS fun k hk=>?_
 unfold nT
 have hk:k<p.2.length:=hk
 rw[bf (show k<(p.2.map fun r=>r.1.getD j 0).length by rw[List.length_map];exact hk),List.getElem_map]
 show _=(((p.2.getD k rw0).1.getD j 0:Int):Rat)*_
 rw[bf hk]
theorem JX {p:Pg} {y:List Fq} (hl:y.length=p.2.length) (h:(um p y).isSome=true):(um p y).getD 0=(al p).rhs (vX y):=by
 unfold um at h ⊢
 rw[yi (by rw[pg];omega) h,pg]
 refine dS fun k hk=>?_
 unfold nN
 have hk:k<p.2.length:=hk
 rw[bf (show k<(p.2.map fun r=>r.2.2).length by rw[List.length_map];exact hk),List.getElem_map]
 show _=(((p.2.getD k rw0).2.2:Int):Rat)*_
 rw[bf hk]
theorem Py {p:Pg} {x:List Fq} (hl:x.length=p.1.length) (h:(fU p.1 x 0).isSome=true):(fU p.1 x 0).getD 0=(al p).val (vX x):=by
 rw[yi (by omega) h]
 rfl
theorem Jt {p:Pg} {y:List Fq} {f:Nat->Int} (hl:y.length=p.2.length) (hf:wX p y=true):Ad p y f=true↔∀j,j<p.1.length->(al p).col (vX y) j<=(f j:Rat):=by
 unfold wX at hf
 rw[List.all_eq_true] at hf
 unfold Ad
 rw[List.all_eq_true]
 have hc:∀j,j<p.1.length->(fU (nT p j) y 0).getD 0=(al p).col (vX y) j:=fun j hj=>Rn hl (hf j (List.mem_range'.2 ⟨j,hj,by omega⟩))
 constructor
 ·intro h j hj
  have:=h j (List.mem_range'.2 ⟨j,hj,by omega⟩)
  rw[decide_eq_true_iff,HO,hc j hj] at this
  exact this
 ·intro h i hi
  obtain ⟨k,hk,rfl⟩:=List.mem_range'.1 hi
  simp only[Nat.one_mul,Nat.zero_add]
  rw[decide_eq_true_iff,HO,hc k hk]
  exact h k hk
theorem Fb {p:Pg} {y:List Fq} (hy:∀a ∈ y,okF a) (hly:y.length=p.2.length) (f3:wX p y=true) (f4:(um p y).isSome=true) :
  RE p y=true↔(al p).Ref (vX y):=by
 have hfit:gB ((um p y).getD 0):=by
  unfold um
  exact CN
 have hp:Jl p y=true↔0<(al p).rhs (vX y):=by
  unfold Jl
  rw[decide_eq_true_iff,<-JX hly f4]
  have h1:=nO (qz hfit)
  have h2:=D8 (qz hfit)
  rw[uq] at h1 h2
  constructor
  ·intro h
   exact Rat.lt_of_le_of_ne (h1.2 (by omega)) fun e=>by have:=h2.1 e.symm;omega
  ·intro h
   have a1:=h1.1 (Rat.le_of_lt h)
   have a2:¬ (prQ ((um p y).getD 0)).1=0:=fun e=>by rw[h2.2 e] at h;exact Rat.lt_irrefl h
   omega
 unfold RE
 simp only[z10]
 rw[hp,Gk hy hly,Jt hly f3]
 constructor
 ·rintro ⟨a1,a2,a3⟩
  exact ⟨a2,fun j hj=>by have:=a3 j hj;simpa using this,a1⟩
 ·rintro ⟨a1,a2,a3⟩
  exact ⟨a3,a1,fun j hj=>by have:=a2 j hj;simpa using this⟩
theorem zO {f:Nat->Int}:∀{n:Nat},sz (n+1) f=f 0+sz n fun i=>f (i+1)
 | 0=>by simp[sz]
 | n+1=>by
  rw[sz,zO (n:=n)]
  simp only[sz]
  omega
theorem IX {α:Type} {n:Nat} {f:Nat->α}:bF (n+1) f=f 0 ::bF n fun i=>f (i+1):=by
 unfold bF
 rw[List.range_succ_eq_map,List.map_cons,List.map_map]
 rfl
theorem yK {d B:Int} (hd:0<d/\d<=1152921504606846976) (hB:B<=1152921504606846976):∀{l:List Int} {X:Nat->Int} {s:Int},(∀j,j<l.length->ab (l.getD j 0*X j)<=B)->(∀i,i<=l.length->ab (s+sz i fun j=>l.getD j 0*X j)<=B) ->
  fU l (bF l.length fun j=>prQ ((X j:Rat) / (d:Rat))) ((s:Rat) / (d:Rat))=some (((s+sz l.length fun j=>l.getD j 0*X j:Int):Rat) / (d:Rat))
 | [],X,s,_,_=>by
  unfold fU
  simp[sz]
 | n ::l,X,s,h1,h2=>by
  have e1:∀j,(n ::l).getD (j+1) 0=l.getD j 0:=fun j=>rfl
  have e0:((n ::l).getD 0 0:Int)=n:=rfl
  have a1:=h1 0 (by simp)
  have a2:=h2 1 (by simp)
  simp only[sz,e0,Int.zero_add] at a1 a2
  rw[List.length_cons,IX]
  unfold fU
  rw[uq]
  have q1:(n:Rat)*((X 0:Rat) / (d:Rat))=((n*X 0:Int):Rat) / (d:Rat):=by rw[Rat.intCast_mul];grind
  have q2:(s:Rat) / (d:Rat)+((n*X 0:Int):Rat) / (d:Rat)=((s+n*X 0:Int):Rat) / (d:Rat):=by rw[Rat.intCast_add];grind
  have b1:(n*X 0).natAbs<=1152921504606846976:=by rw[rK] at a1;omega
  have b2:(s+n*X 0).natAbs<=1152921504606846976:=by rw[rK] at a2;omega
  rw[q1,q2,if_pos ⟨vP (by omega) b1 (by omega),vP (by omega) b2 (by omega)⟩]
  have ih:=yK hd hB (l:=l) (X:=fun j=>X (j+1)) (s:=s+n*X 0) (fun j hj=>h1 (j+1) (by simpa using hj)) (fun i hi=>by
   have:=h2 (i+1) (by simpa using hi)
   rw[zO] at this
   simp only[e1,e0] at this
   rw[<-Int.add_assoc] at this
   exact this)
  rw[ih]
  congr 3
  rw[zO]
  simp only[e1,e0]
  omega
theorem Hp {n i:Nat} {a X:Nat->Int} {B:Int} (hi:i<=n) (hB:0<=B) (hX:∀j,j<n->ab (X j)<=B):ab (sz i fun j=>a j*X j)<=(sz n fun j=>ab (a j))*B:=by
 refine Int.le_trans yn ?_
 have h1:(sz i fun j=>ab (a j*X j))<=sz i fun j=>ab (a j)*B:=oi fun j hj=>by
  rw[nA]
  exact Int.mul_le_mul_of_nonneg_left (hX j (by omega)) (bM _)
 refine Int.le_trans h1 ?_
 rw[Cp]
 refine z11 ?_ hB
 obtain ⟨k,rfl⟩:∃k,n=i+k:=⟨n - i,by omega⟩
 rw[yW]
 have:0<=sz k fun l=>ab (a (i+l)):=iv fun _ _=>bM _
 omega
theorem It {n j:Nat} {f:Nat->Int} (hj:j<n) (hf:∀i,i<n->0<=f i):f j<=sz n f:=by
 have h1:(sz n fun i=>if i=j then f j else 0)<=sz n f:=oi fun i hi=>by
  by_cases e:i=j
  ·rw[if_pos e,e];exact Int.le_refl _
  ·rw[if_neg e];exact hf i hi
 rw[fB hj fun i _ hne=>if_neg hne,if_pos rfl] at h1
 exact h1
theorem Ho {n j:Nat} {a X:Nat->Int} {B:Int} (hj:j<n) (hB:0<=B) (hX:∀j,j<n->ab (X j)<=B):ab (a j*X j)<=(sz n fun j=>ab (a j))*B:=by
 rw[nA]
 refine Int.le_trans (Int.mul_le_mul_of_nonneg_left (hX j hj) (bM _)) (z11 ?_ hB)
 exact It (f:=fun j=>ab (a j)) hj fun _ _=>bM _
theorem LU {l:List Int} {X:Nat->Int} {d B:Int} (hd:0<d/\d<=1152921504606846976) (hB:0<=B) (hX:∀j,j<l.length->ab (X j)<=B) (h:(sz l.length fun j=>ab (l.getD j 0))*B<=1152921504606846976) :
  (fU l (bF l.length fun j=>prQ ((X j:Rat) / (d:Rat))) 0).isSome=true:=by
 have h0:(0:Rat)=((0:Int):Rat) / (d:Rat):=by rw[show ((0:Int):Rat)=0 from rfl,Rat.div_def,Rat.zero_mul]
 rw[h0,yK hd h (fun j hj=>Ho (a:=fun j=>l.getD j 0) hj hB hX) (fun i hi=>by rw[Int.zero_add];exact Hp (a:=fun j=>l.getD j 0) hi hB hX)]
 rfl
theorem GQ {l:List Int} {X:Nat->Int} {d B:Int} (hd:0<d/\d<=1152921504606846976) (hB:0<=B) (hX:∀j,j<l.length->ab (l.getD j 0*X j)<=B) (h:(l.length:Int)*B<=1152921504606846976) (hB2:B<=1152921504606846976) :
  (fU l (bF l.length fun j=>prQ ((X j:Rat) / (d:Rat))) 0).isSome=true:=by
 have h0:(0:Rat)=((0:Int):Rat) / (d:Rat):=by rw[show ((0:Int):Rat)=0 from rfl,Rat.div_def,Rat.zero_mul]
 have hsum:∀i,i<=l.length->ab (0+sz i fun j=>l.getD j 0*X j)<=1152921504606846976:=fun i hi=>by
  rw[Int.zero_add]
  have h1:=js (n:=i) (f:=fun j=>l.getD j 0*X j) (B:=B) fun j hj=>tT.1 (hX j (by omega))
  have h2:(i:Int)*B<=l.length*B:=z11 (by omega) hB
  refine tT.2 ⟨?_,?_⟩<;>omega
 rw[h0,yK hd (Int.le_refl _) (fun j hj=>Int.le_trans (hX j hj) hB2) hsum]
 rfl
section
variable {p:Pg} {S:Sx}
theorem Ip (hB:Bnd (al p) (au p)) (hv:(au p).Val (al p) S) (j:Nat):0<=wo (al p).m ((au p).R (al p)) S j/\wo (al p).m ((au p).R (al p)) S j<=(al p).P:=by
 refine ⟨nZ hv j,?_⟩
 have hRw:(au p).R (al p)<(au p).w (al p):=by unfold Lay.R Lay.w;omega
 obtain ⟨_,hb⟩:=hB.tabP hv.tb
 unfold wo
 by_cases h:∃i,i<(al p).m/\S.β i=j
 ·obtain ⟨i,hi,e⟩:=h
  rw[fB hi fun k hk hne=>if_neg fun e2=>hne (hv.tb.inj hk hi (by rw[e,e2])),if_pos e]
  have:=hb i _ hi hRw
  omega
 ·rw[gN fun i hi=>if_neg fun e=>h ⟨i,hi,e⟩]
  have:=(al p).P_pos
  omega
theorem Nl (k:Nat) (x:Int):ab ((au p).σ k*x)=ab x:=by
 rw[rK,rK,CJ]
theorem Ie (hB:Bnd (al p) (au p)) (hv:(au p).Val (al p) S) {wc:Nat->Int} {W:Int} (hW:∀j,ab (wc j)<=W) {k:Nat} (hk:k<(al p).m):(al p).F k*ab (mA (al p).m (au p).N wc S (au p).σ k)<=12*(W*(al p).P):=by
 have hF:=(al p).F_pos k
 have hW0:0<=W:=Int.le_trans (bM _) (hW 0)
 have hP:=(al p).P_pos
 have hm:=hB.m
 unfold mA
 rw[Nl]
 have h1:ab (sz (al p).m fun i=>wc (S.β i)*S.T i ((au p).N+k))<=sz (al p).m fun i=>W*ab (S.T i ((au p).N+k)):=Int.le_trans yn (oi fun i _=>by
  rw[nA]
  exact z11 (hW _) (bM _))
 have h2:(al p).F k*(sz (al p).m fun i=>W*ab (S.T i ((au p).N+k)))=sz (al p).m fun i=>W*((al p).F k*ab (S.T i ((au p).N+k))):=by
  rw[<-gp]
  exact bA fun i _=>by grind
 have h3:(sz (al p).m fun i=>W*((al p).F k*ab (S.T i ((au p).N+k))))<=sz (al p).m fun _=>W*(al p).P:=oi fun i hi=>Int.mul_le_mul_of_nonneg_left (J3 hB.ok hv.tb hi hk) hW0
 have h4:∀n:Nat,(sz n fun _=>W*(al p).P)=n*(W*(al p).P):=fun n=>by
  induction n with
  | zero=>simp[sz]
  | succ n ih =>
   simp only[sz]
   rw[ih,show ((n+1:Nat):Int)=(n:Int)+1 by omega,Int.add_mul,Int.one_mul]
 have h5:0<=W*(al p).P:=Int.mul_nonneg hW0 (by omega)
 have h6:((al p).m:Int)*(W*(al p).P)<=12*(W*(al p).P):=z11 (by omega) h5
 have h7:=Int.mul_le_mul_of_nonneg_left h1 (show 0<=(al p).F k by omega)
 rw[h2] at h7
 rw[h4] at h3
 omega
theorem OJ (k j:Nat) (hj:j<(al p).n):ab ((al p).A k j)<=(al p).F k/\ab ((al p).b k)<=(al p).F k:=by
 have h1:=It (n:=(al p).n) (f:=fun j=>ab ((al p).A k j)) hj fun _ _=>bM _
 have h2:=bM ((al p).b k)
 have h3:=bM ((al p).A k j)
 unfold Lin.F
 omega
theorem T3 (hV:ValidP p) (hB:Bnd (al p) (au p)) (hv:(au p).Val (al p) S) {wc:Nat->Int} {W:Int} (hW:∀j,ab (wc j)<=W) (hWP:W*(al p).P<=17592186044416):wX p (yL p wc S)=true/\(um p (yL p wc S)).isSome=true:=by
 obtain ⟨⟨d1,d2⟩,hb⟩:=hB.tab hv.tb
 have hm:=hV.rows
 have hn:=hV.cost
 have term:∀(k:Nat) (a:Int),k<p.2.length->ab a<=(al p).F k->ab (a*mA (al p).m (au p).N wc S (au p).σ k)<=211106232532992:=fun k a hk ha=>by
  have h1:=Ie hB hv hW (k:=k) hk
  rw[nA]
  have h2:=z11 ha (bM (mA (al p).m (au p).N wc S (au p).σ k))
  omega
 have gen:∀{l:List Int},l.length=p.2.length->(∀k,k<p.2.length->ab (l.getD k 0)<=(al p).F k)->(fU l (yL p wc S) 0).isSome=true:=fun {l} hl hF=>by
  have h1:=GQ (l:=l) (X:=fun k=>mA (al p).m (au p).N wc S (au p).σ k) (d:=S.d) (B:=211106232532992) ⟨d1,by omega⟩ (by omega) (fun k hk=>term k _ (by omega) (hF k (by omega))) (by omega) (by omega)
  rw[hl] at h1
  exact h1
 constructor
 ·unfold wX
  rw[List.all_eq_true]
  intro i hi
  obtain ⟨j,hj,rfl⟩:=List.mem_range'.1 hi
  simp only[Nat.one_mul,Nat.zero_add]
  refine gen vR fun k hk=>?_
  have:(nT p j).getD k 0=(al p).A k j:=by
   unfold nT
   rw[bf (show k<(p.2.map fun r=>r.1.getD j 0).length by rw[List.length_map];exact hk),List.getElem_map]
   show _=(p.2.getD k rw0).1.getD j 0
   rw[bf hk]
  rw[this]
  exact (OJ k j hj).1
 ·unfold um
  refine gen pg fun k hk=>?_
  have:(nN p).getD k 0=(al p).b k:=by
   unfold nN
   rw[bf (show k<(p.2.map fun r=>r.2.2).length by rw[List.length_map];exact hk),List.getElem_map]
   show _=(p.2.getD k rw0).2.2
   rw[bf hk]
  rw[this]
  exact (OJ k 0 hn.1).2
theorem TR (hV:ValidP p) (hf:gW (al p)) (hv:(au p).Val (al p) S):H1 p (xL p S)=true/\(fU p.1 (xL p S) 0).isSome=true:=by
 have hB:=yX hV hf
 obtain ⟨⟨d1,d2⟩,hb⟩:=hB.tab hv.tb
 have hm:=hV.rows
 have hP:=(al p).P_pos
 have hF0:=(al p).F0_pos
 have hx:∀j,ab (wo (al p).m ((au p).R (al p)) S j)<=(al p).P:=fun j=>by
  have:=Ip hB hv j
  exact tT.2 ⟨by omega,this.2⟩
 have gen:∀{l:List Int} {k:Nat},l.length=p.1.length->k<=p.2.length->(sz p.1.length fun j=>ab (l.getD j 0))<=fac (al p) k->(fU l (xL p S) 0).isSome=true:=fun {l k} hl hk hF=>by
  have h2:=LQ hf hk
  have h3:1*((al p).P*fac (al p) k)<=(al p).F0*((al p).P*fac (al p) k):=z11 hF0 (Int.mul_nonneg (by omega) (by have:=C5 (al p) k;omega))
  have h5:=Int.mul_assoc (al p).F0 (al p).P (fac (al p) k)
  have h4:=z11 hF (show 0<=(al p).P by omega)
  rw[Int.mul_comm (fac (al p) k)] at h4
  have h1:=LU (l:=l) (X:=fun j=>wo (al p).m ((au p).R (al p)) S j) (d:=S.d) (B:=(al p).P) ⟨d1,by omega⟩ (by omega) (fun j _=>hx j) (by rw[hl];omega)
  rw[hl] at h1
  exact h1
 constructor
 ·unfold H1
  rw[QM rw0]
  intro k hk
  have hr:p.2.getD k rw0 ∈ p.2:=by rw[bf hk];exact List.getElem_mem _
  refine gen (k:=k+1) (hV.len _ hr) (by omega) ?_
  show _<=1+ab (p.2.getD k rw0).2.2+sz p.1.length (fun j=>ab ((p.2.getD k rw0).1.getD j 0))
  have:=bM (p.2.getD k rw0).2.2
  omega
 ·refine gen (k:=0) rfl (by omega) ?_
  show _<=1+sz p.1.length (fun j=>ab (p.1.getD j 0))
  omega
theorem H3 (N j:Nat):ab (eI N j)<=1:=by unfold eI;split<;>simp[ab]
theorem G0 {n:Nat} {f:Nat->Rat} {j:Nat} (hj:j<n):vX (bF n fun j=>prQ (f j)) j=f j:=by
 unfold vX
 rw[br hj,uq]
theorem Ig {n:Nat} {f:Nat->Rat} (h:∀j,j<n->gB (f j)):∀a ∈ bF n (fun j=>prQ (f j)),okF a:=fun a ha=>by
 unfold bF at ha
 obtain ⟨j,hj,rfl⟩:=List.mem_map.1 ha
 exact qz (h j (List.mem_range.1 hj))
theorem VB (hV:ValidP p) (hf:gW (al p)) (hv:(au p).Val (al p) S):∀a ∈ xL p S,okF a:=Ig fun j _=>by
 have hB:=yX hV hf
 obtain ⟨⟨d1,d2⟩,_⟩:=hB.tab hv.tb
 have:=Ip hB hv j
 have:=hB.P'
 exact vP (by omega) (by omega) (by omega)
theorem VX (_:ValidP p) (hB:Bnd (al p) (au p)) (hv:(au p).Val (al p) S) {wc:Nat->Int} {W:Int} (hW:∀j,ab (wc j)<=W) (hWP:W*(al p).P<=17592186044416):∀a ∈ yL p wc S,okF a:=Ig fun k hk=>by
 obtain ⟨⟨d1,d2⟩,_⟩:=hB.tab hv.tb
 have h1:=Ie hB hv hW (k:=k) hk
 have h2:=(al p).F_pos k
 have h3:1*ab (mA (al p).m (au p).N wc S (au p).σ k)<=(al p).F k*ab (mA (al p).m (au p).N wc S (au p).σ k):=z11 h2 (bM _)
 have h4:ab (mA (al p).m (au p).N wc S (au p).σ k)<=211106232532992:=by omega
 rw[rK] at h4
 exact vP (by omega) (by omega) (by omega)
theorem Dn.Lin.Feas.congr {L:Lin} {x x':Nat->Rat} (h:∀j,j<L.n->x j=x' j) (hx:L.Feas x):L.Feas x':=by
 have hr:∀k,L.row x' k=L.row x k:=fun k=>dS fun j hj=>by rw[h j hj]
 exact ⟨fun j hj=>by rw[<-h j hj];exact hx.pos j hj,fun k hk h2=>by rw[hr];exact hx.most k hk h2,fun k hk h2=>by rw[hr];exact hx.least k hk h2⟩
theorem Dn.Lin.Sgn.congr {L:Lin} {y y':Nat->Rat} (h:∀k,k<L.m->y k=y' k) (hy:L.Sgn y):L.Sgn y' :=
 ⟨fun k hk e=>by rw[<-h k hk];exact hy.most k hk e,fun k hk e=>by rw[<-h k hk];exact hy.least k hk e⟩
theorem Dn.Lin.col_congr {L:Lin} {y y':Nat->Rat} (h:∀k,k<L.m->y k=y' k) (j:Nat):L.col y' j=L.col y j:=dS fun k hk=>by rw[h k hk]
theorem Dn.Lin.rhs_congr {L:Lin} {y y':Nat->Rat} (h:∀k,k<L.m->y k=y' k):L.rhs y'=L.rhs y:=dS fun k hk=>by rw[h k hk]
theorem Dn.Lin.val_congr {L:Lin} {x x':Nat->Rat} (h:∀j,j<L.n->x j=x' j):L.val x'=L.val x:=dS fun j hj=>by rw[h j hj]
theorem PE (hV:ValidP p) (_:gW (al p)) (ho:Opt p S):(al p).Feas (vX (xL p S))/\(al p).Dual (vX (yL p (cq (al p)) S))/\(al p).val (vX (xL p S))=GP p S/\(al p).rhs (vX (yL p (cq (al p)) S))=GP p S:=by
 have hok:=mI hV
 have ex:∀j,j<(al p).n->C6 (al p).m ((au p).R (al p)) S j=vX (xL p S) j:=fun j hj=>(G0 hj).symm
 have ey:∀k,k<(al p).m->sr (al p).m (au p).N (cq (al p)) S (au p).σ k=vX (yL p (cq (al p)) S) k:=fun k hk=>(G0 hk).symm
 have h1:=uM hok ho.val (ho.az.art S)
 have h2:=Gq hok ho.val ho.zr
 obtain ⟨h3,h4⟩:=EW hok ho.val
 refine ⟨h1.congr ex,⟨h2.toSgn.congr ey,fun j hj=>?_⟩,?_,?_⟩
 ·rw[Lin.col_congr ey];exact h2.col j hj
 ·rw[Lin.val_congr ex];exact h3
 ·rw[Lin.rhs_congr ey];exact h4
theorem uy (hV:ValidP p) (ho:Infeas p S):(al p).Ref (vX (yL p (eI (au p).N) S)):=by
 have hok:=mI hV
 have ey:∀k,k<(al p).m->sr (al p).m (au p).N (eI (au p).N) S (au p).σ k=vX (yL p (eI (au p).N) S) k:=fun k hk=>(G0 hk).symm
 have h2:=JB hok ho.val ho.zr ho.pos
 refine ⟨h2.toSgn.congr ey,fun j hj=>?_,?_⟩
 ·rw[Lin.col_congr ey];exact h2.col j hj
 ·rw[Lin.rhs_congr ey];exact h2.rhs
theorem B0 (hV:ValidP p) (hf:gW (al p)) (ho:Infeas p S):cm p (yL p (eI (au p).N) S)=some (true,0,()):=by
 have hB:=yX hV hf
 have hm:=hV.rows
 have hWP:1*(al p).P<=17592186044416:=by have:=hB.P';omega
 have hy:=VX (wc:=eI (au p).N) hV hB ho.val (H3 _) hWP
 have hly:(yL p (eI (au p).N) S).length=p.2.length:=aA
 obtain ⟨f3,f4⟩:=T3 (wc:=eI (au p).N) hV hB ho.val (H3 _) hWP
 have hc:=(Fb hy hly f3 f4).2 (uy hV ho)
 rw[ED (by omega),iP.2 hV,Ib.2 hy,z7 hly,f3,f4,hc]
 rfl
end
def Yu (p:Pg) (y:List Fq) (e:Int):Prop :=
 (e=1/\y=[]/\pG p=false)\/(e=5/\y=[]/\ValidP p/\¬ gW (al p))\/(e=12/\y=[]/\ValidP p/\gW (al p)/\∃x,(al p).Feas x) \/
 (e=0/\ValidP p/\gW (al p)/\y.length=p.2.length/\cm p y=some (true,0,())/\∃y,(al p).Ref y)
theorem I6 {p:Pg} (h:ValidP p) (hf:¬ gW (al p)):dh p=some (A6,5,()):=by
 unfold dh jz
 rw[mY,obN,iP.2 h]
 simp only[Bool.not_true,cF]
 rw[vJ h,obN,z8 hf]
 rfl
theorem GV {p:Pg} (h:pG p=false):cu p=some ([],1,()):=by
 unfold cu gY
 rw[mY,obN,h]
 rfl
theorem G1 {p:Pg} (h:ValidP p) (hf:¬ gW (al p)):cu p=some ([],5,()):=by
 unfold cu gY
 rw[mY,obN,iP.2 h]
 simp only[Bool.not_true,cF]
 rw[vJ h,obN,z8 hf]
 rfl
theorem GB (p:Pg):∃y e,cu p=some (y,e,())/\Yu p y e:=by
 cases hv:pG p with
 | false=>exact ⟨_,_,GV hv,.inl ⟨rfl,rfl,hv⟩⟩
 | true =>
  have hV:=iP.1 hv
  by_cases hf:gW (al p)
  ·rcases JW hV hf with ⟨S,h1,h2⟩ | ⟨S,h1,h2,h3⟩
   ·exact ⟨_,_,h2,.inr (.inr (.inr ⟨rfl,hV,hf,aA,B0 hV hf h1,_,uy hV h1⟩))⟩
   ·exact ⟨_,_,h3,.inr (.inr (.inl ⟨rfl,rfl,hV,hf,_,uM (mI hV) h1 (h2.art S)⟩))⟩
  ·exact ⟨_,_,G1 hV hf,.inr (.inl ⟨rfl,rfl,hV,hf⟩)⟩
structure BndR (L:Lin) (Y:Lay):Prop where
 ok:Y.ok L
 m:L.m<=6
 w:Y.w L<=25
 P:L.F0*L.P<=536870912
section
variable {L:Lin} {Y:Lay}
theorem BndR.P' (h:BndR L Y):L.P<=536870912:=by
 have h1:=L.F0_pos
 have h2:=L.P_pos
 have h3:1*L.P<=L.F0*L.P:=z11 h1 (by omega)
 have:=h.P
 omega
theorem BndR.tab (h:BndR L Y) {T:Nat->Nat->Int} {d:Int} {β:Nat->Nat} (ht:Tb L.m (Y.w L) (Y.M L) T d β):(0<d/\d<=536870912)/\∀i j,i<L.m->j<Y.w L->(T i j).natAbs<=536870912/\((T i j).natAbs:Int)<=L.P:=by
 obtain ⟨h1,h2⟩:=rN h.ok ht
 have h3:=h.P'
 refine ⟨⟨ht.dpos,by omega⟩,fun i j hi hj=>?_⟩
 have:=h2 i j hi hj
 rw[rK] at this
 omega
structure Wc (L:Lin) (Y:Lay) (wc:Nat->Int):Prop where
 small:∀j x,(x.natAbs:Int)<=L.P-> -536870912<=wc j*x/\wc j*x<=536870912
end
section
variable {L:Lin} {Y:Lay}
theorem Swp.next {i:Nat} {S:Sx} (h:Swp L Y i S) (hr:Y.N<=S.β i->∀j,j<Y.N->S.T i j=0):Swp L Y (i+1) S :=
 ⟨h.val,h.right,fun k hk hlt hb j hj=>by
  by_cases e:k=i
  ·subst e;exact hr hb j hj
  ·exact h.rows k hk (by omega) hb j hj⟩
end
section
variable {p:Pg}
end
section
variable {L:Lin} {Y:Lay}
end
def XJ (p:Pg) (a:Fq×List Fq×List Fq) (e:Int):Prop :=
 (e=5/\a=A6/\¬ gW (al p))\/(e=22/\a=A6/\gW (al p)/\∃y,(al p).Ref y) \/
 (e=21/\a=A6/\gW (al p)/\(∃x,(al p).Feas x)/\∃r,(al p).Ray r) \/
 (e=0/\gW (al p)/\∃v,a.1=prQ v/\gB v/\a.2.1.length=p.1.length/\(∀x ∈ a.2.1,okF x)/\H1 p a.2.1=true/\(fU p.1 a.2.1 0).isSome=true/\(al p).Feas (vX a.2.1)/\(∃y,(al p).Dual y/\(al p).rhs y=v)/\(al p).val (vX a.2.1)=v)
theorem SQ {p:Pg} (hV:ValidP p):∃a e,dh p=some (a,e,())/\XJ p a e:=by
 by_cases hf:gW (al p)
 ·have hok:=mI hV
  rcases O1 hV hf with ⟨S,h1,h2⟩ | ⟨S,q,h1,h2⟩ | ⟨S,h1,h2⟩
  ·exact ⟨_,_,h2,.inr (.inl ⟨rfl,rfl,hf,_,uy hV h1⟩)⟩
  ·exact ⟨_,_,h2,.inr (.inr (.inl ⟨rfl,rfl,hf,⟨_,uM hok h1.val (h1.az.art S)⟩,_,Jo hok h1.val h1.lt (h1.az.col S h1.lt) h1.neg h1.no⟩))⟩
  ·obtain ⟨a1,a2,a3,a4⟩:=PE hV hf h1
   obtain ⟨f1,f2⟩:=TR hV hf h1.val
   have hl:(xL p S).length=p.1.length:=aA
   have hv:=Py (p:=p) (x:=xL p S) hl f2
   have hq:gB (GP p S):=by
    rw[<-a3,<-hv]
    exact CN
   exact ⟨_,_,h2,.inr (.inr (.inr ⟨rfl,hf,GP p S,rfl,hq,hl,VB hV hf h1.val,f1,f2,a1,⟨_,a2,a4⟩,a3⟩))⟩
 ·exact ⟨_,_,I6 hV hf,.inl ⟨rfl,rfl,hf⟩⟩
theorem Si {f:(Fq×Unit)->Option Bool} {p:Fq->Bool} {l:List Fq} (hl:l.length<=1000000) (h:∀a,a ∈ l->f (a,())=some (p a)):ai l f=some (l.any p):=by
 simp only[ai,fz]
 have e:bG l f=some (jG p l 0):=by
  unfold bG gi
  exact lj (f:=f) (d:=(0,0)) hl h
 rw[e,af,vu]
theorem Pw (s:Sy) (c:List Int) (hl:c.length=s.2.length):al (ji s c)=⟨s.2.length,s.1.length,fun k j=>((bF s.1.length (nQ s)).getD k rw0).1.getD j 0,fun k=>((bF s.1.length (nQ s)).getD k rw0).2.2,fun j=>c.getD j 0,fun k=>((bF s.1.length (nQ s)).getD k rw0).2.1⟩:=by
 unfold al ji
 simp only[hl,aA]
def EqS (s:Sy) (x:Nat->Rat):Prop:=∀i,i<s.1.length->(sq s.2.length fun j=>((Mx s i j:Int):Rat)*x j)=((bwS s i:Int):Rat)
theorem A7 {s:Sy} {c:List Int} (hl:c.length=s.2.length) {x:Nat->Rat}:(al (ji s c)).Feas x↔(∀j,j<s.2.length->0<=x j)/\EqS s x:=by
 rw[Pw s c hl]
 have er:∀i,i<s.1.length->(⟨s.2.length,s.1.length,fun k j=>((bF s.1.length (nQ s)).getD k rw0).1.getD j 0,fun k=>((bF s.1.length (nQ s)).getD k rw0).2.2,fun j=>c.getD j 0,fun k=>((bF s.1.length (nQ s)).getD k rw0).2.1⟩:Lin).row x i=sq s.2.length fun j=>((Mx s i j:Int):Rat)*x j:=fun i hi=>by
  unfold Lin.row
  refine dS fun j hj=>?_
  simp only[br hi,nQ,br hj]
 constructor
 ·rintro ⟨h1,h2,h3⟩
  refine ⟨h1,fun i hi=>?_⟩
  have hk:((bF s.1.length (nQ s)).getD i rw0).2.1=3:=by rw[br hi];rfl
  have hb:((bF s.1.length (nQ s)).getD i rw0).2.2=bwS s i:=by rw[br hi];rfl
  have a1:=h2 i hi (by simp only[hk];omega)
  have a2:=h3 i hi (by simp only[hk];omega)
  rw[er i hi] at a1 a2
  simp only[hb] at a1 a2
  exact Rat.le_antisymm a1 a2
 ·rintro ⟨h1,h2⟩
  refine ⟨h1,fun i hi _=>?_,fun i hi _=>?_⟩
  ·have hb:((bF s.1.length (nQ s)).getD i rw0).2.2=bwS s i:=by rw[br hi];rfl
   rw[er i hi,h2 i hi]
   simp only[hb]
   exact Rat.le_refl
  ·have hb:((bF s.1.length (nQ s)).getD i rw0).2.2=bwS s i:=by rw[br hi];rfl
   rw[er i hi,h2 i hi]
   simp only[hb]
   exact Rat.le_refl
theorem pk {s:Sy}:(iI s).length=s.2.length:=by unfold iI;rw[List.length_replicate]
theorem OM {s:Sy} (h:jJ s=true) {a:Fq×List Fq×List Fq} {e:Int} (hs:dh (ji s (iI s))=some (a,e,())):cZ s=some (bif decide (e=0) then a.2.1 else [],e,()):=by
 unfold cZ qd
 rw[Eg h,af,hs]
 by_cases he:e=0
 ·subst he;rfl
 ·simp only[z8 he,af]
  rfl
theorem GF {s:Sy} (h:jJ s=true) {y:List Fq} {e:Int} (hs:cu (ji s (iI s))=some (y,e,())):cf s=some (y,e,()):=by
 unfold cf nB
 rw[Eg h,af,hs]
 rfl
theorem Gy {s:Sy} {r:Nat->Rat} (h:(al (ji s (iI s))).Ray r):False:=by
 have h1:=h.val
 have h2:0<=(al (ji s (iI s))).val r:=Kf fun j hj=>by
  have hj':j<s.2.length:=by have:j<(iI s).length:=hj;rw[pk] at this;exact this
  have e:(al (ji s (iI s))).c j=1:=by
   show (iI s).getD j 0=1
   rw[bf (by rw[pk];exact hj')]
   unfold iI
   exact List.getElem_replicate _
  rw[e]
  have:=h.pos j hj
  grind
 grind
theorem KY {α:Type} [DecidableEq α] (d:α) {l m:List α} (h:l.length=m.length):(List.range' 0 l.length).all (fun i=>decide (l.getD i d=m.getD i d))=decide (l=m):=by
 rw[Bool.eq_iff_iff,decide_eq_true_iff,List.all_eq_true]
 constructor
 ·intro hh
  refine List.ext_getElem h fun i h1 h2=>?_
  have:=z12 (hh i (pO h1))
  rw[bf h1,bf h2] at this
  exact this
 ·rintro rfl i _
  exact z7 rfl
theorem Nh {α:Type} [DecidableEq α] (d:α) {l m:List α} (h:l.length=m.length) (hl:l.length<=1000000) {F:(Int×PUnit->Option Bool)->Int×PUnit->Option Bool}
  (hb:∀again (i:Nat),i<l.length->F again ((i:Int),PUnit.unit)=bif decide (l.getD i d=m.getD i d) then again (((i+1:Nat):Int),PUnit.unit) else some false) (hf:∀again,F again ((l.length:Int),PUnit.unit)=some true) :
  lpK (Int×PUnit) Bool F ((0:Int),PUnit.unit)=some (decide (l=m)):=by
 refine (lh (α:=Int×PUnit) l.length (by omega) (fun i (_:Unit)=>((i:Int),PUnit.unit)) (fun i s k=>bif decide (l.getD i d=m.getD i d) then k s else some false) (fun _=>some true) ?_ ?_ ()).trans ?_
 ·intro again i _ hi
  exact hb again i hi
 ·intro again _
  exact hf again
 ·rw[lv l.length (fun i k _=>rfl) l.length 0 (by omega),KY d h]
  cases decide (l=m)<;>rfl
theorem Rt (a b:Fq):(decide (a.1=b.1)&&(decide (a.2=b.2)&&true))=decide (a=b):=by
 rw[Bool.eq_iff_iff,z10,Bool.and_true,decide_eq_true_iff,decide_eq_true_iff,decide_eq_true_iff]
 exact ⟨fun h=>Prod.ext h.1 h.2,fun h=>by rw[h];exact ⟨rfl,rfl⟩⟩
abbrev Cl:=List Fq×Bool×List Fq
theorem IH:aG=some true:=by kernel_rfl
theorem qY {x:Int} (h1: -9223372036854775808<x) (h2:x<9223372036854775808):cS x=some (x.natAbs:Int):=by
 simp only[cS,lY]
 rw[aO (x:=0 - x) (by omega) (by omega)]
 by_cases h:0 - x>x
 ·rw[if_pos h,IntKind.wrap_u64,Int.emod_eq_of_lt (by omega) (by omega)]
  congr 1
  omega
 ·rw[if_neg h,IntKind.wrap_u64,Int.emod_eq_of_lt (by omega) (by omega)]
  congr 1
  omega
theorem Ky {e q:Int} {neg:Bool} {n:Nat} (he:e≠0) (hq:q.natAbs<4611686018427387904) (hx:e*q=bif neg then -(n:Int) else n) :
  n=e.natAbs*q.natAbs/\(bif !decide (neg=decide (e<0)) then -(q.natAbs:Int) else (q.natAbs:Int))=q:=by
 have h1:n=e.natAbs*q.natAbs:=by
  rw[<-Int.natAbs_mul,hx]
  cases neg
  ·rw[cond_false];omega
  ·rw[cond_true];omega
 refine ⟨h1,?_⟩
 by_cases hq0:q=0
 ·subst hq0
  cases (!decide (neg=decide (e<0)))<;>rfl
 ·by_cases h2:e<0
  ·rw[z7 h2]
   by_cases h3:q<0
   ·have:=Int.mul_pos_of_neg_of_neg h2 h3
    cases neg
    ·show -(q.natAbs:Int)=q
     omega
    ·exfalso;rw[hx,cond_true] at this;omega
   ·have:=Int.mul_neg_of_neg_of_pos h2 (show 0<q by omega)
    cases neg
    ·exfalso;rw[hx,cond_false] at this;omega
    ·show (q.natAbs:Int)=q
     omega
  ·rw[z8 h2]
   by_cases h3:q<0
   ·have:=Int.mul_neg_of_pos_of_neg (show 0<e by omega) h3
    cases neg
    ·exfalso;rw[hx,cond_false] at this;omega
    ·show -(q.natAbs:Int)=q
     omega
   ·have:=Int.mul_pos (show 0<e by omega) (show 0<q by omega)
    cases neg
    ·show (q.natAbs:Int)=q
     omega
    ·exfalso;rw[hx,cond_true] at this;omega
theorem zj {e q:Int} {neg:Bool} {n:Nat} (he:e≠0) (he2:e.natAbs<4611686018427387904) (hq:q.natAbs<4611686018427387904) (hx:e*q=bif neg then -(n:Int) else n) :
  (ah (cS e) fun (t:Int)=>ah (bS (hl n).1 (hl n).2 t) fun (t:Int×Int×PUnit)=>bif !decide (neg=decide (e<0)) then some (IntKind.wrap .i64 (0 - IntKind.wrap .i64 t.1)) else some (IntKind.wrap .i64 t.1))=some q:=by
 obtain ⟨h1,h2⟩:=Ky he hq hx
 have h3:n / 18446744073709551616<e.natAbs:=by
  rw[h1]
  refine (Nat.div_lt_iff_lt_mul (by omega)).2 ?_
  exact Nat.mul_lt_mul_of_pos_left (by omega) (by omega)
 have h4:=zd (h:=n / 18446744073709551616) (l:=n % 18446744073709551616) (y:=e.natAbs) h3 (by omega) (by omega)
 have h5:n / 18446744073709551616*18446744073709551616+n % 18446744073709551616=n:=by omega
 have h6:n / e.natAbs=q.natAbs:=by rw[h1,Nat.mul_div_cancel_left _ (by omega)]
 rw[h5,h6] at h4
 rw[qY (by omega) (by omega),af]
 unfold hl
 simp only
 rw[h4,af]
 simp only
 rw[aO (x:=(q.natAbs:Int)) (by omega) (by omega),aO (by omega) (by omega)]
 rw[Int.zero_sub]
 generalize hc:(!decide (neg=decide (e<0)))=c at h2 ⊢
 cases c
 ·rw[cond_false] at h2 ⊢
  rw[h2]
 ·rw[cond_true] at h2 ⊢
  rw[h2]
theorem Ii (a b:Int):a*b=bif !decide (decide (a<0)=decide (b<0)) then -((a.natAbs*b.natAbs:Nat):Int) else ((a.natAbs*b.natAbs:Nat):Int):=by
 rw[Int.natCast_mul]
 by_cases ha:a<0<;>by_cases hb:b<0
 ·rw[z7 ha,z7 hb]
  show a*b=(a.natAbs:Int)*(b.natAbs:Int)
  rw[show (a.natAbs:Int)= -a by omega,show (b.natAbs:Int)= -b by omega,Int.neg_mul_neg]
 ·rw[z7 ha,z8 hb]
  show a*b= -((a.natAbs:Int)*(b.natAbs:Int))
  rw[show (a.natAbs:Int)= -a by omega,show (b.natAbs:Int)=b by omega,Int.neg_mul,Int.neg_neg]
 ·rw[z8 ha,z7 hb]
  show a*b= -((a.natAbs:Int)*(b.natAbs:Int))
  rw[show (a.natAbs:Int)=a by omega,show (b.natAbs:Int)= -b by omega,Int.mul_neg,Int.neg_neg]
 ·rw[z8 ha,z8 hb]
  show a*b=(a.natAbs:Int)*(b.natAbs:Int)
  rw[show (a.natAbs:Int)=a by omega,show (b.natAbs:Int)=b by omega]
theorem FA {x y:Int} (hx:x.natAbs<4611686018427387904) (hy:y.natAbs<4611686018427387904):x.natAbs*y.natAbs<85070591730234615865843651857942052864:=by
 rw[<-Int.natAbs_mul]
 exact zA hx hy
theorem WQ {m n:Nat}:(bif decide ((hl m).1<(hl n).1) then true else bif decide ((hl m).1=(hl n).1) then decide ((hl m).2<(hl n).2) else false)=decide (m<n):=by
 have e1:(hl m).1=(hl n).1↔m / 18446744073709551616=n / 18446744073709551616:=by unfold hl;simp only;omega
 have e2:(hl m).1<(hl n).1↔m / 18446744073709551616<n / 18446744073709551616:=by unfold hl;simp only;omega
 have e4:(hl m).2<(hl n).2↔m % 18446744073709551616<n % 18446744073709551616:=by unfold hl;simp only;omega
 by_cases h:m<n
 ·rw[z7 h]
  by_cases c1:m / 18446744073709551616<n / 18446744073709551616
  ·rw[z7 (e2.2 c1),cond_true]
  ·rw[z8 fun h=>c1 (e2.1 h),cond_false,z7 (e1.2 (by omega)),cond_true,z7 (e4.2 (by omega))]
 ·rw[z8 h,z8 fun h=>by have:=e2.1 h;omega,cond_false]
  by_cases c2:m / 18446744073709551616=n / 18446744073709551616
  ·rw[z7 (e1.2 c2),cond_true,z8 fun h=>by have:=e4.1 h;omega]
  ·rw[z8 fun h=>c2 (e1.1 h),cond_false]
theorem HS {a b:Int} (ha:a.natAbs<4611686018427387904) (hb:b.natAbs<4611686018427387904):bj (a.natAbs:Int) (b.natAbs:Int)=some ((hl (a.natAbs*b.natAbs)).1,(hl (a.natAbs*b.natAbs)).2,()):=by
 rw[PU (by omega) (by omega) (by omega) (by omega)]
 unfold hl
 simp only
 rw[<-Int.natCast_mul]
 rfl
theorem Ps {a b c d e q:Int} (ha:a.natAbs<4611686018427387904) (hb:b.natAbs<4611686018427387904) (hc:c.natAbs<4611686018427387904) (hd:d.natAbs<4611686018427387904)
  (he:e≠0) (he2:e.natAbs<4611686018427387904) (hx:e*q=a*b - c*d) (hq:q.natAbs<4611686018427387904):fg a b c d e=some q:=by
 simp only[fg,oy,qY (show -9223372036854775808<a by omega) (show a<9223372036854775808 by omega),qY (show -9223372036854775808<b by omega) (show b<9223372036854775808 by omega),
  qY (show -9223372036854775808<c by omega) (show c<9223372036854775808 by omega),qY (show -9223372036854775808<d by omega) (show d<9223372036854775808 by omega),af,HS ha hb,HS hc hd,sQ]
 have hP:=FA ha hb
 have hQ:=FA hc hd
 have h1:=Ii a b
 have h2:=Ii c d
 have h3:=WQ (m:=a.natAbs*b.natAbs) (n:=c.natAbs*d.natAbs)
 obtain ⟨P,hPe⟩:∃P,a.natAbs*b.natAbs=P:=⟨_,rfl⟩
 obtain ⟨Q,hQe⟩:∃Q,c.natAbs*d.natAbs=Q:=⟨_,rfl⟩
 obtain ⟨f,hf⟩:∃f,(!decide (decide (a<0)=decide (b<0)))=f:=⟨_,rfl⟩
 obtain ⟨g,hg⟩:∃g,(!decide (decide (c<0)=decide (d<0)))=g:=⟨_,rfl⟩
 rw[hPe,hf] at h1
 rw[hQe,hg] at h2
 rw[hPe] at hP
 rw[hQe] at hQ
 rw[hPe,hQe] at h3
 simp only[hPe,hQe,hf,hg]
 rw[h1,h2] at hx
 have k1:=uw (m:=P) (n:=Q)
 have k2:=uw (m:=Q) (n:=P)
 have k3:=Ag (m:=P) (n:=Q)
 have t0:(decide ((0:Int)<=0)&&decide ((0:Int)<=1))=true:=rfl
 by_cases hfg:f=g
 ·rw[z7 hfg,cond_true]
  have key:∀c18 c17:Bool,(bif (!!c18||!c18)&&(!!c18||!c18) then true else false)=true:=fun c18 c17=>by cases c18<;>rfl
  by_cases hlt:P<Q
  ·rw[z7 hlt] at h3
   have h4:=xN (m:=Q) (n:=P) (by omega) (by omega)
   have h5:=congrArg Prod.fst h4
   have h6:=congrArg Prod.snd h4
   simp only at h5 h6
   simp only[t0,cT,k2,h5,h6]
   have h7:=zj (neg:=!f) (n:=Q - P) he he2 hq (by
    rw[hx,<-hfg]
    cases f
    ·show (P:Int) - Q= -((Q - P:Nat):Int)
     omega
    ·show -(P:Int) - -(Q:Int)=((Q - P:Nat):Int)
     omega)
   rw[h7]
   generalize decide ((hl P).1<(hl Q).1)=c18 at h3 ⊢
   generalize decide ((hl P).1=(hl Q).1)=c17 at h3 ⊢
   generalize decide ((hl P).2<(hl Q).2)=c16 at h3 ⊢
   cases c18<;>cases c17<;>cases c16<;>first | rfl | cases h3
  ·rw[z8 hlt] at h3
   have h4:=xN (m:=P) (n:=Q) (by omega) (by omega)
   have h5:=congrArg Prod.fst h4
   have h6:=congrArg Prod.snd h4
   simp only at h5 h6
   simp only[t0,cT,k1,h5,h6]
   have h7:=zj (neg:=f) (n:=P - Q) he he2 hq (by
    rw[hx,<-hfg]
    cases f
    ·show (P:Int) - Q=((P - Q:Nat):Int)
     omega
    ·show -(P:Int) - -(Q:Int)= -((P - Q:Nat):Int)
     omega)
   rw[h7]
   generalize decide ((hl P).1<(hl Q).1)=c18 at h3 ⊢
   generalize decide ((hl P).1=(hl Q).1)=c17 at h3 ⊢
   generalize decide ((hl P).2<(hl Q).2)=c16 at h3 ⊢
   cases c18<;>cases c17<;>cases c16<;>first | rfl | cases h3
 ·rw[z8 hfg,cond_false]
  have h4:=Hv (m:=P) (n:=Q) (by omega)
  have h5:=congrArg Prod.fst h4
  have h6:=congrArg Prod.snd h4
  simp only at h5 h6
  simp only[t0,cT,k3,h5,h6]
  exact zj (neg:=f) (n:=P+Q) he he2 hq (by
   rw[hx]
   cases f<;>cases g
   ·exact (hfg rfl).elim
   ·show (P:Int) - -(Q:Int)=((P+Q:Nat):Int)
    omega
   ·show -(P:Int) - (Q:Int)= -((P+Q:Nat):Int)
    omega
   ·exact (hfg rfl).elim)
structure TabR (m w:Nat) (L:Nat->Nat->Int) (t:List Nat×List (Option (List Int))):Prop where
 len:t.1.length=m
 cell:∀i,i<m->t.2.getD (t.1.getD i 0) none=some (bF w (L i))
 inj:∀i j,i<m->j<m->t.1.getD i 0=t.1.getD j 0->i=j
section
variable {m w:Nat} {L L':Nat->Nat->Int} {t:List Nat×List (Option (List Int))}
theorem TabR.row (h:TabR m w L t) {i:Nat} (hi:i<m):bq t.2 (t.1.getD i 0)=bF w (L i):=by unfold bq;rw[h.cell i hi];rfl
theorem TabR.live (h:TabR m w L t) {i:Nat} (hi:i<m):fE t.2 (t.1.getD i 0)=true:=by unfold fE;rw[h.cell i hi];rfl
theorem TabR.id_lt (h:TabR m w L t) {i:Nat} (hi:i<m):t.1.getD i 0<t.2.length:=by
 have h1:=h.cell i hi
 by_cases h2:t.1.getD i 0<t.2.length
 ·exact h2
 ·rw[List.getD_eq_getElem?_getD,List.getElem?_eq_none (by omega)] at h1
  cases h1
theorem TabR.congr (h:TabR m w L t) (e:∀i j,i<m->j<w->L i j=L' i j):TabR m w L' t :=
 ⟨h.len,fun i hi=>by rw[h.cell i hi,cW fun j hj=>e i j hi hj],h.inj⟩
theorem TabR.all (h:TabR m w L t):(t.1.all fun x=>fE t.2 x)=true:=by
 rw[List.all_eq_true]
 intro x hx
 obtain ⟨i,hi,he⟩:=List.mem_iff_getElem.1 hx
 have hi':i<m:=by rw[<-h.len];exact hi
 have:=h.live hi'
 rw[bf hi,he] at this
 exact this
theorem TabR.map (h:TabR m w L t):t.1.map (fun x=>bq t.2 x)=lI m w L:=by
 refine List.ext_getElem (by rw[List.length_map,h.len,eH]) fun i h1 h2=>?_
 have hi:i<m:=by rw[eH] at h2;exact h2
 have hi':i<t.1.length:=by rw[h.len];exact hi
 have e1:=h.row hi
 rw[bf hi'] at e1
 rw[List.getElem_map,e1]
 have e2:=io (w:=w) (T:=L) hi
 rw[bf h2] at e2
 exact e2.symm
theorem TabR.put (h:TabR m w L t) {i j:Nat} {x:Int} (hi:i<m) (hj:j<w) (e:∀k l,k<m->l<w->(if k=i/\l=j then x else L k l)=L' k l) :
  TabR m w L' (t.1,t.2.set (t.1.getD i 0) (some ((bF w (L i)).set j x))):=by
 refine ⟨h.len,fun k hk=>?_,h.inj⟩
 show (t.2.set (t.1.getD i 0) (some ((bF w (L i)).set j x))).getD (t.1.getD k 0) none=_
 have hl:=h.id_lt hi
 rw[List.getD_eq_getElem?_getD,List.getElem?_set]
 by_cases c:i=k
 ·subst c
  rw[if_pos rfl,if_pos hl,kr hj]
  show some _=some _
  congr 1
  refine cW fun l hl=>?_
  rw[<-e i l hi hl]
  by_cases c2:l=j
  ·rw[if_pos c2,if_pos ⟨rfl,c2⟩]
  ·rw[if_neg c2,if_neg fun h=>c2 h.2]
 ·rw[if_neg fun h'=>c (h.inj i k hi hk h'),<-List.getD_eq_getElem?_getD,h.cell k hk]
  congr 1
  refine cW fun l hl=>?_
  rw[<-e k l hk hl,if_neg fun h=>c h.1.symm]
def swp (a b i:Nat):Nat:=if i=a then b else if i=b then a else i
theorem xU (a b i:Nat):swp a b (swp a b i)=i:=by unfold swp;(repeat' split)<;>omega
theorem rA {a b i:Nat} (ha:a<m) (hb:b<m) (hi:i<m):swp a b i<m:=by unfold swp;(repeat' split)<;>omega
theorem Mc {l:List Nat} {a b i:Nat} (ha:a<l.length) (hb:b<l.length):((l.set a (l.getD b 0)).set b (l.getD a 0)).getD i 0=l.getD (swp a b i) 0:=by
 rw[List.getD_eq_getElem?_getD,List.getElem?_set,List.length_set,List.getElem?_set]
 unfold swp
 by_cases c1:i=a
 ·subst c1
  by_cases c2:b=i
  ·subst c2
   rw[if_pos rfl,if_pos ha,if_pos rfl]
   rfl
  ·rw[if_neg c2,if_pos rfl,if_pos ha,if_pos rfl]
   rfl
 ·by_cases c2:b=i
  ·subst c2
   rw[if_pos rfl,if_pos hb,if_neg c1,if_pos rfl]
   rfl
  ·rw[if_neg c2,if_neg (fun h=>c1 h.symm),if_neg c1,if_neg (fun h=>c2 h.symm),List.getD_eq_getElem?_getD]
theorem TabR.swap (h:TabR m w L t) {a b:Nat} (ha:a<m) (hb:b<m):TabR m w (fun i=>L (swp a b i)) ((t.1.set a (t.1.getD b 0)).set b (t.1.getD a 0),t.2++[]++[]):=by
 have e:=fun i=>Mc (l:=t.1) (a:=a) (b:=b) (i:=i) (by rw[h.len];exact ha) (by rw[h.len];exact hb)
 refine ⟨by rw[List.length_set,List.length_set];exact h.len,fun i hi=>?_,fun i j hi hj he=>?_⟩
 ·show (t.2++[]++[]).getD (((t.1.set a (t.1.getD b 0)).set b (t.1.getD a 0)).getD i 0) none=_
  rw[e,List.append_nil,List.append_nil,h.cell _ (rA ha hb hi)]
 ·have he':((t.1.set a (t.1.getD b 0)).set b (t.1.getD a 0)).getD i 0=((t.1.set a (t.1.getD b 0)).set b (t.1.getD a 0)).getD j 0:=he
  rw[e,e] at he'
  have:=h.inj _ _ (rA ha hb hi) (rA ha hb hj) he'
  rw[<-xU a b i,this,xU]
theorem S7:TabR m w L (gH m w L):=by
 refine ⟨gb,fun i hi=>?_,fun i j hi hj he=>?_⟩
 ·rw[iX hi]
  exact pA hi
 ·rw[iX hi,iX hj] at he
  exact he
end
def rY (w:Nat) (N:Nat->Nat->Int):Nat->Nat->Int:=fun i j=>if j<w then N i j else if j=w+i then 1 else 0
section
variable {m w:Nat} {a b:Nat}
theorem Ua {f:Nat->Int} (ha:a<m) (hb:b<m) (hab:a≠b):sz m (fun i=>f (swp a b i))=sz m f:=by
 have e:sz m (fun i=>f (swp a b i))=sz m fun i=>f i+((if i=a then f b - f a else 0)+(if i=b then f a - f b else 0)):=bA fun i hi=>by
  unfold swp
  by_cases h1:i=a
  ·subst h1
   rw[if_pos rfl,if_pos rfl,if_neg hab]
   omega
  ·rw[if_neg h1,if_neg h1]
   by_cases h2:i=b
   ·subst h2
    rw[if_pos rfl,if_pos rfl]
    omega
   ·rw[if_neg h2,if_neg h2]
    omega
 rw[e,ov,ov,fB ha (f:=fun i=>if i=a then f b - f a else 0) (fun i _ hne=>if_neg hne),fB hb (f:=fun i=>if i=b then f a - f b else 0) (fun i _ hne=>if_neg hne)]
 simp only[if_true]
 omega
theorem K6 {M:Nat->Nat->Int} {γ:Nat->Nat} (ha:a<m) (hb:b<m) (hab:a≠b):dc m M (fun k=>γ (swp a b k))= - dc m M γ:=by
 have e1:eB M (fun k=>γ (swp a b k))=bV (bV (eB M γ) a fun i=>M i (γ b)) b fun i=>M i (γ a):=by
  funext i k
  show M i (γ (if k=a then b else if k=b then a else k))=if k=b then M i (γ a) else if k=a then M i (γ b) else M i (γ k)
  by_cases h1:k=b
  ·subst h1
   rw[if_neg (Ne.symm hab),if_pos rfl,if_pos rfl]
  ·rw[if_neg h1,if_neg h1]
   by_cases h2:k=a
   ·rw[if_pos h2,if_pos h2]
   ·rw[if_neg h2,if_neg h2]
 have e2:eB M γ=bV (bV (eB M γ) a fun i=>M i (γ a)) b fun i=>M i (γ b):=by
  funext i k
  show M i (γ k)=if k=b then M i (γ b) else if k=a then M i (γ a) else M i (γ k)
  by_cases h1:k=b
  ·rw[if_pos h1,h1]
  ·rw[if_neg h1]
   by_cases h2:k=a
   ·rw[if_pos h2,h2]
   ·rw[if_neg h2]
 have e3:det m (eB M γ)=det m (bV (bV (eB M γ) a fun i=>M i (γ a)) b fun i=>M i (γ b)):=by rw[<-e2]
 unfold dc
 rw[e1,D4 ha hb hab,e3]
theorem Dn.Tb.swap {W:Nat} {M T:Nat->Nat->Int} {d:Int} {β:Nat->Nat} (h:Tb m W M T d β) (ha:a<m) (hb:b<m) (hab:a≠b):Tb m W M (fun i=>T (swp a b i)) d (fun i=>β (swp a b i)):=by
 refine ⟨h.dpos,fun i hi=>h.lt _ (rA ha hb hi),fun k hk j hj=>?_,?_⟩
 ·rw[Ua (f:=fun i=>T i j*M k (β i)) ha hb hab]
  exact h.co k hk j hj
 ·obtain ⟨σ,h1,h2,h3⟩:=h.cr
  refine ⟨-σ,by rw[Int.neg_mul_neg];exact h1,by rw[K6 ha hb hab,Int.neg_mul_neg];exact h2,fun i hi j hj=>?_⟩
  have e:upd (fun i=>β (swp a b i)) i j=fun k=>upd β (swp a b i) j (swp a b k):=by
   funext k
   unfold upd
   by_cases c:k=i
   ·rw[if_pos c,c,if_pos rfl]
   ·rw[if_neg c,if_neg fun h=>c (by rw[<-xU a b k,h,xU])]
  rw[e,K6 ha hb hab,Int.neg_mul_neg]
  exact h3 _ (rA ha hb hi) j hj
end
structure ElBnd (m w c:Nat) (N:Nat->Nat->Int):Prop where
 hm:1<=m/\m<=1000
 hw:w<=1000
 hc:c<=w
 b:∀T d β,Tb m (w+m) (rY w N) T d β->(∀i,i<m->β i<c\/w<=β i)->∀i j,i<m->j<w+m->ab (T i j)<4611686018427387904
structure El (m w c:Nat) (N:Nat->Nat->Int) (C k:Nat) (p:Nat->Nat) (L:Nat->Nat->Int) (e:Int) (T:Nat->Nat->Int) (d:Int) (β:Nat->Nat) (s:Int):Prop where
 tb:Tb m (w+m) (rY w N) T d β
 cc:C<=c
 s1:s=1\/s= -1
 le:∀i j,i<m->j<w->L i j=s*T i j
 de:e=s*d
 km:k<=m
 bp:∀i,i<k->β i=p i/\p i<C
 inc:∀i j,i<j->j<k->p i<p j
 bs:∀i,k<=i->i<m->w<=β i
 z:∀i j,k<=i->i<m->j<C->T i j=0
section
variable {m w c:Nat} {N:Nat->Nat->Int} {C k:Nat} {p:Nat->Nat} {L:Nat->Nat->Int} {e:Int} {T:Nat->Nat->Int} {d:Int} {β:Nat->Nat} {s:Int}
theorem El.first (_:m<=1000):El m w c N 0 0 (fun _=>0) N 1 (rY w N) 1 (fun i=>w+i) 1:=by
 refine ⟨Tb.first (fun i hi=>by omega) (fun k hk i hi=>?_),Nat.zero_le _,.inl rfl,fun i j hi hj=>?_,rfl,Nat.zero_le _,fun i hi=>by omega,fun i j _ hj=>by omega,fun i _ _=>Nat.le_add_right _ _,fun i j _ _ hj=>by omega⟩
 ·unfold rY
  rw[if_neg (by omega)]
  by_cases h:k=i
  ·rw[if_pos (by omega),if_pos h]
  ·rw[if_neg (by omega),if_neg h]
 ·unfold rY
  rw[if_pos hj,Int.one_mul]
theorem El.swap (h:El m w c N C k p L e T d β s) {a b:Nat} (ha:k<=a/\a<m) (hb:k<=b/\b<m) (hab:a≠b):El m w c N C k p (fun i=>L (swp a b i)) e (fun i=>T (swp a b i)) d (fun i=>β (swp a b i)) s:=by
 have hs:∀i,i<k->swp a b i=i:=fun i hi=>by unfold swp;rw[if_neg (by omega),if_neg (by omega)]
 have hs2:∀i,k<=i->k<=swp a b i:=fun i hi=>by unfold swp;(repeat' split)<;>omega
 refine ⟨h.tb.swap ha.2 hb.2 hab,h.cc,h.s1,fun i j hi hj=>h.le _ j (rA ha.2 hb.2 hi) hj,h.de,h.km,fun i hi=>?_,h.inc,fun i h1 h2=>h.bs _ (hs2 i h1) (rA ha.2 hb.2 h2),fun i j h1 h2 h3=>h.z _ j (hs2 i h1) (rA ha.2 hb.2 h2) h3⟩
 show β (swp a b i)=p i/\_
 rw[hs i hi]
 exact h.bp i hi
theorem El.sne (h:El m w c N C k p L e T d β s):s*s=1:=by rcases h.s1 with h | h<;>rw[h]<;>rfl
theorem El.ene (h:El m w c N C k p L e T d β s):e≠0:=by
 have:=h.tb.dpos
 rw[h.de]
 rcases h.s1 with h | h<;>rw[h]<;>omega
theorem El.skip (h:El m w c N C k p L e T d β s) (hC:C<c) (hw:c<=w) (h0:∀i,k<=i->i<m->L i C=0):El m w c N (C+1) k p L e T d β s:=by
 refine ⟨h.tb,hC,h.s1,h.le,h.de,h.km,fun i hi=>⟨(h.bp i hi).1,by have:=(h.bp i hi).2;omega⟩,h.inc,h.bs,fun i j h1 h2 h3=>?_⟩
 by_cases c:j=C
 ·subst c
  have h4:=h.le i j h2 (by omega)
  rw[h0 i h1 h2] at h4
  rcases h.s1 with h5 | h5<;>rw[h5] at h4<;>omega
 ·exact h.z i j h1 h2 (by omega)
def elq (L:Nat->Nat->Int) (e:Int) (r c i j:Nat):Int:=(L i j*L r c - L i c*L r j) / e
def elL (L:Nat->Nat->Int) (e:Int) (r c:Nat):Nat->Nat->Int:=fun i j=>if i=r then L r j else elq L e r c i j
theorem El.exact (h:El m w c N C k p L e T d β s) (hk:k<m) (hC:C<w) {i j:Nat} (hi:i<m) (hne:i≠k) (hj:j<w) :
  e*elq L e k C i j=L i j*L k C - L i C*L k j/\elq L e k C i j=s*piv T d k C i j:=by
 have h1:=jU h.tb hk hi (Ne.symm hne) (show C<w+m by omega) (show j<w+m by omega)
 have h2:L i j*L k C - L i C*L k j=e*(s*piv T d k C i j):=by
  rw[h.le i j hi hj,h.le k C hk hC,h.le i C hi hC,h.le k j hk hj,h.de]
  have h3:=h.sne
  have h4:s*d*(s*piv T d k C i j)=s*s*(d*piv T d k C i j):=by grind
  rw[h4,h1,h3]
  have h5:s*T i j*(s*T k C) - s*T i C*(s*T k j)=s*s*(T k C*T i j - T i C*T k j):=by grind
  rw[h5,h3]
 have h6:elq L e k C i j=s*piv T d k C i j:=by
  unfold elq
  rw[h2,Int.mul_ediv_cancel_left _ h.ene]
 exact ⟨by rw[h6,h2],h6⟩
theorem El.pivot (h:El m w c N C k p L e T d β s) (hk:k<m) (hC:C<c) (hw:c<=w) (h0:L k C≠0) :
  El m w c N (C+1) (k+1) (upd p k C) (elL L e k C) (L k C) (ox T d k C) (sg (T k C)*T k C) (upd β k C) (s*sg (T k C)):=by
 have hT:T k C≠0:=fun h1=>h0 (by rw[h.le k C hk (by omega),h1,Int.mul_zero])
 have hs1:sg (T k C)=1\/sg (T k C)= -1:=by unfold sg;split<;>omega
 refine ⟨h.tb.step hk (by omega) hT,hC,?_,fun i j hi hj=>?_,?_,hk,fun i hi=>?_,fun i j h1 h2=>?_,fun i h1 h2=>?_,fun i j h1 h2 h3=>?_⟩
 ·rcases h.s1 with h1 | h1<;>rcases hs1 with h2 | h2<;>rw[h1,h2]<;>simp
 ·have e0:s*sg (T k C)*(sg (T k C)*(if i=k then T k j else piv T d k C i j))=s*(if i=k then T k j else piv T d k C i j):=by
   have:=G5 (T k C)
   grind
  unfold ox
  rw[e0]
  unfold elL
  by_cases c:i=k
  ·rw[if_pos c,if_pos c]
   exact h.le k j hk hj
  ·rw[if_neg c,if_neg c]
   exact (h.exact hk (by omega) hi c hj).2
 ·have:=G5 (T k C)
  rw[h.le k C hk (by omega)]
  grind
 ·unfold upd
  by_cases c:i=k
  ·rw[if_pos c,if_pos c]
   exact ⟨rfl,by omega⟩
  ·rw[if_neg c,if_neg c]
   have:=h.bp i (by omega)
   exact ⟨this.1,by omega⟩
 ·unfold upd
  rw[if_neg (by omega)]
  by_cases c:j=k
  ·rw[if_pos c]
   exact (h.bp i (by omega)).2
  ·rw[if_neg c]
   exact h.inc i j h1 (by omega)
 ·unfold upd
  rw[if_neg (by omega)]
  exact h.bs i (by omega) h2
 ·unfold ox
  rw[if_neg (by omega)]
  have h4:T k C*T i j - T i C*T k j=0:=by
   by_cases c:j=C
   ·subst c
    rw[Int.mul_comm]
    omega
   ·rw[h.z i j (by omega) h2 (by omega),h.z k j (Nat.le_refl _) hk (by omega)]
    simp
  unfold piv
  rw[h4]
  simp
theorem El.bound (h:El m w c N C k p L e T d β s) (hB:ElBnd m w c N):(∀i j,i<m->j<w->(L i j).natAbs<4611686018427387904)/\e.natAbs<4611686018427387904:=by
 have hb:=hB.b T d β h.tb fun i hi=>by
  by_cases h1:i<k
  ·have:=h.bp i h1
   have:=h.cc
   exact .inl (by omega)
  ·exact .inr (h.bs i (by omega) hi)
 have key:∀x:Int,ab x<4611686018427387904->(s*x).natAbs<4611686018427387904:=fun x hx=>by
  unfold ab at hx
  rcases h.s1 with h1 | h1<;>rw[h1]<;>omega
 refine ⟨fun i j hi hj=>?_,?_⟩
 ·rw[h.le i j hi hj]
  exact key _ (hb i j hi (by omega))
 ·rw[h.de]
  refine key _ ?_
  have hm:=hB.hm
  have:=hb 0 (β 0) (by omega) (h.tb.lt 0 (by omega))
  rwa [h.tb.basis (show 0<m by omega)] at this
def vz (L:Nat->Nat->Int) (e:Int) (r c i j:Nat):Nat->Nat->Int:=fun k l=>if k≠r/\(k<i\/(k=i/\l<j)) then elq L e r c k l else L k l
end
theorem LV {l:List Int} (h:l.length<=1000):av l=some l:=by
 simp only[av,fW,fa (show (0+l.length)*8<=140737488355328 by omega),cT]
theorem BG {w i:Nat} {N:Nat->Nat->Int}:((gH i w N).1++[List.length (gH i w N).2+0],(gH i w N).2++[some (bF w (N i))])=gH (i+1) w N:=by
 have h1:(gH i w N).2.length=i:=mJ
 rw[h1,Nat.add_zero]
 unfold gH
 simp only
 rw[<-List.range_succ]
 unfold dR
 rw[List.range_succ,List.map_append]
 rfl
theorem qq {α:Type} {n:Nat} {f:Nat->α}:bF n f++[f n]=bF (n+1) f:=by
 unfold bF
 rw[List.range_succ,List.map_append]
 rfl
theorem M7 {k C:Nat} {p:Nat->Nat}:bF k (fun i=>(p i:Int))++[(C:Int)]=bF (k+1) fun i=>(upd p k C i:Int):=by
 rw[<-qq]
 congr 1
 ·refine cW fun j hj=>?_
  unfold upd
  rw[if_neg (by omega)]
 ·unfold upd
  rw[if_pos rfl]
def ElQ (m w c:Nat) (N:Nat->Nat->Int) (o:Option (List (List Int)×Int×List Int×List Int×Bool)):Prop :=
 ∃k p L e T d β s fr tu,o=some (lI m w L,e,bF k (fun i=>(p i:Int)),fr,tu)/\El m w c N c k p L e T d β s
abbrev ElS:=Int×(List Nat×List (Option (List Int)))×Int×List Int×List Int×Bool×PUnit
def ElI (m w c:Nat) (N:Nat->Nat->Int) (C:Nat) (x:ElS):Prop :=
 ∃k p L e T d β s t fr tu,x=((C:Int),t,e,bF k (fun i=>(p i:Int)),fr,tu,PUnit.unit)/\TabR m w L t/\fr.length=m/\El m w c N C k p L e T d β s
theorem Ch {m w c:Nat} {N:Nat->Nat->Int} (hB:ElBnd m w c N):ElQ m w c N (cQ (lI m w N) (c:Int)):=by
 obtain ⟨hm1,hm⟩:=hB.hm
 have hw:=hB.hw
 have hc:=hB.hc
 unfold cQ jB
 refine nJ (ElQ m w c N) m (by omega) (fun i=>((i:Int),gH i w N,(1:Int),[],bF i (fun k=>(k:Int)),false,PUnit.unit)) rfl (fun again i hi=>?_) (fun again=>?_)
 ·simp only[eH,z7 (show (i:Int)<m by omega),aW,z7 hi,z9,io hi,LV (l:=bF w (N i)) (by rw[aA];omega),af,gb,aA,
   fa (show (i+1)*24<=140737488355328 by omega),fa (show (i+1)*8<=140737488355328 by omega),cT,aN (show i<=1000000 by omega),BG]
  rw[show ((i:Nat):Int)=(fun k:Nat=>(k:Int)) i from rfl,qq]
 simp only[eH,z8 (show ¬ (m:Int)<m by omega),cF]
 refine yc (ElQ m w c N) c (by omega) (ElI m w c N) ⟨0,_,N,1,_,1,_,1,gH m w N,bF m (fun k=>(k:Int)),false,rfl,S7,aA,El.first hm⟩ (fun again C x hC hx=>?_) (fun again x hx=>?_)
 ·obtain ⟨k,p,L,e,T,d,β,s,t,fr,tu,rfl,hR,hfr,hE⟩:=hx
  have hkm:=hE.km
  simp only[z7 (show (C:Int)<c by omega),cT,aA,hR.len,aN (show C<=1000000 by omega)]
  rcases su (m - k) (fun j=>decide (L (k+j) C≠0)) with hn | ⟨j0,hj0,hp0,hpn⟩
  ·refine nJ (fun o=>∃y,ElI m w c N (C+1) y/\o=again y) (m - k) (by omega) (fun j=>((-1:Int),((k+j:Nat):Int),PUnit.unit)) rfl (fun again1 j hj=>?_) (fun again1=>?_)
   ·have h1:=of_decide_eq_false (hn j hj)
    have h2:L (k+j) C=0:=Decidable.not_not.1 h1
    simp only[show decide ((-1:Int)<0)=true from rfl,z7 (show ((k+j:Nat):Int)<m by omega),Bool.or_true,cT,aW,z7 (show k+j<m by omega),z9,cM (show Nat.succ (k+j)<=m by omega),hR.row (show k+j<m by omega),
     aA,z7 (show C<w by omega),cM (show Nat.succ C<=w by omega),br (show C<w by omega),h2,decide_true,Bool.not_true,cF,aN (show k+j<=1000000 by omega)]
    rfl
   ·simp only[show decide ((-1:Int)<0)=true from rfl,z8 (show ¬ ((k+(m - k):Nat):Int)<m by omega),Bool.or_false,Bool.not_false,cT,cF]
    refine ⟨_,⟨k,p,L,e,T,d,β,s,t,fr,tu,rfl,hR,hfr,hE.skip hC hc fun i h1 h2=>?_⟩,rfl⟩
    have:=of_decide_eq_false (hn (i - k) (by omega))
    rw[show k+(i - k)=i by omega] at this
    exact Decidable.not_not.1 this
  ·have hL0:L (k+j0) C≠0:=z12 hp0
   refine nJ (fun o=>∃y,ElI m w c N (C+1) y/\o=again y) (j0+1) (by omega) (fun j=>if j<=j0 then ((-1:Int),((k+j:Nat):Int),PUnit.unit) else (((k+j0:Nat):Int),((k+j0+1:Nat):Int),PUnit.unit)) rfl (fun again1 j hj=>?_) (fun again1=>?_)
   ·simp only[if_pos (show j<=j0 by omega),show decide ((-1:Int)<0)=true from rfl,z7 (show ((k+j:Nat):Int)<m by omega),Bool.or_true,cT,aW,z7 (show k+j<m by omega),z9,cM (show Nat.succ (k+j)<=m by omega),hR.row (show k+j<m by omega),
     aA,z7 (show C<w by omega),cM (show Nat.succ C<=w by omega),br (show C<w by omega),aN (show k+j<=1000000 by omega)]
    by_cases cj:j=j0
    ·subst cj
     rw[z8 hL0,if_neg (by omega)]
     rfl
    ·have h1:=of_decide_eq_false (hpn j (by omega))
     rw[z7 (Decidable.not_not.1 h1),if_pos (by omega)]
     rfl
   ·simp only[if_neg (show ¬ j0+1<=j0 by omega),z8 (show ¬ ((k+j0:Nat):Int)<0 by omega)]
    obtain ⟨c15,hc15⟩:∃c15,decide (((k+j0+1:Nat):Int)<(m:Int))=c15:=⟨_,rfl⟩
    rw[hc15]
    have e16:(!c15||c15)=true:=by cases c15<;>rfl
    have e15:(bif c15 then false else false)=false:=by cases c15<;>rfl
    simp only[e16,e15,cT,cF]
    refine yc (fun o=>∃y,ElI m w c N (C+1) y/\o=again y) j0 (by omega)
     (fun t x=>∃L T β fr tu tab,x=(((k+(j0 - t):Nat):Int),tab,e,bF k (fun i=>(p i:Int)),fr,tu,PUnit.unit)/\TabR m w L tab/\fr.length=m/\El m w c N C k p L e T d β s/\L (k+(j0 - t)) C≠0)
     ⟨L,T,β,fr,tu,t,rfl,hR,hfr,hE,hL0⟩ (fun again2 t x ht hx=>?_) (fun again2 x hx=>?_)
    ·obtain ⟨L,T,β,fr,tu,tab,rfl,hR,hfr,hE,hL0⟩:=hx
     have ha:k<=k+(j0 - t)/\k+(j0 - t)<m:=by omega
     have hb:k<=k+(j0 - (t+1))/\k+(j0 - (t+1))<m:=by omega
     have hab:k+(j0 - t)≠k+(j0 - (t+1)):=by omega
     have e19:IntKind.wrap .i64 (((k+(j0 - t):Nat):Int) - 1)=((k+(j0 - (t+1)):Nat):Int):=by rw[aO (by omega) (by omega)];omega
     refine ⟨_,⟨fun i=>L (swp (k+(j0 - t)) (k+(j0 - (t+1))) i),fun i=>T (swp (k+(j0 - t)) (k+(j0 - (t+1))) i),fun i=>β (swp (k+(j0 - t)) (k+(j0 - (t+1))) i),
      (fr.set (k+(j0 - t)) (fr.getD (k+(j0 - (t+1))) 0)).set (k+(j0 - (t+1))) (fr.getD (k+(j0 - t)) 0),!tu,_,rfl,hR.swap ha.2 hb.2,by rw[List.length_set,List.length_set];exact hfr,hE.swap ha hb hab,?_⟩,?_⟩
     ·show L (swp (k+(j0 - t)) (k+(j0 - (t+1))) (k+(j0 - (t+1)))) C≠0
      unfold swp
      rw[if_neg (Ne.symm hab),if_pos rfl]
      exact hL0
     ·simp only[e19,hR.len,hfr,List.length_set,z7 (show ((k+(j0 - t):Nat):Int)>(k:Int) by omega),cT,aW,z7 ha.2,z7 hb.2,z9,cM (show Nat.succ (k+(j0 - t))<=m by omega),cM (show Nat.succ (k+(j0 - (t+1)))<=m by omega)]
    ·obtain ⟨L,T,β,fr,tu,⟨ids,cells⟩,rfl,hR,hfr,hE,hL0⟩:=hx
     rw[Nat.sub_self,Nat.add_zero] at hL0
     have hk:k<m:=by omega
     have hCw:C<w:=by omega
     have hlen:ids.length=m:=hR.len
     simp only[Nat.sub_self,Nat.add_zero,z8 (show ¬ ((k:Nat):Int)>(k:Int) by omega),cF,hlen,aW,z7 hk,z9,cM (show Nat.succ k<=m by omega),cT,hR.row hk,aA,z7 hCw,cM (show Nat.succ C<=w by omega),br hCw]
     have hP:=hE.pivot hk hC hc hL0
     obtain ⟨hb1,hb2⟩:=hE.bound hB
     obtain ⟨hb3,_⟩:=hP.bound hB
     have hb4:∀i j,i<m->i≠k->j<w->(elq L e k C i j).natAbs<4611686018427387904:=fun i j hi hne hj=>by
      have:=hb3 i j hi hj
      unfold elL at this
      rwa [if_neg hne] at this
     refine yc (fun o=>∃y,ElI m w c N (C+1) y/\o=again y) m (by omega) (fun i x=>∃cells,x=((i:Int),(ids,cells),PUnit.unit)/\TabR m w (vz L e k C i 0) (ids,cells))
      ⟨cells,rfl,hR.congr fun i j _ _=>?_⟩ (fun again3 i x hi hx=>?_) (fun again3 x hx=>?_)
     ·unfold vz
      rw[if_neg fun h=>by omega]
     ·obtain ⟨cs,rfl,hS⟩:=hx
      simp only[hlen,z7 (show (i:Int)<m by omega),aW,z7 hi,z9,cM (show Nat.succ i<=m by omega),cT,aN (show i<=1000000 by omega)]
      by_cases ci:i=k
      ·rw[z7 (show (i:Int)=k by omega),cond_true]
       refine ⟨_,⟨cs,rfl,hS.congr fun a b _ _=>?_⟩,rfl⟩
       unfold vz
       by_cases c1:a≠k/\(a<i\/(a=i/\b<0))
       ·rw[if_pos c1,if_pos (by omega)]
       ·rw[if_neg c1,if_neg (by omega)]
      ·have hSr:=hS.row hi
       have hSl:=hS.live hi
       simp only at hSr hSl
       simp only[z8 (show ¬ (i:Int)=k by omega),cF,hSr,hSl,aA,z7 hCw,cM (show Nat.succ C<=w by omega),cT,br hCw]
       refine yc (fun o=>∃y,(∃cells,y=(((i+1:Nat):Int),(ids,cells),PUnit.unit)/\TabR m w (vz L e k C (i+1) 0) (ids,cells))/\o=again3 y) w (by omega)
        (fun j x=>∃cells,x=((j:Int),(ids,cells),PUnit.unit)/\TabR m w (vz L e k C i j) (ids,cells)) ⟨cs,rfl,hS⟩ (fun again4 j x hj hx=>?_) (fun again4 x hx=>?_)
       ·obtain ⟨cs2,rfl,hS2⟩:=hx
        have hr1:=hS2.row hi
        have hr2:=hS2.row hk
        simp only at hr1 hr2
        have e1:vz L e k C i j i j=L i j:=by unfold vz;rw[if_neg (by omega)]
        have e2:vz L e k C i j k j=L k j:=by unfold vz;rw[if_neg (by omega)]
        have e3:vz L e k C i 0 i C=L i C:=by unfold vz;rw[if_neg (by omega)]
        have hst:=Ps (q:=elq L e k C i j) (hb1 i j hi hj) (hb1 k C hk hCw) (hb1 i C hi hCw) (hb1 k j hk hj) hE.ene hb2 (hE.exact hk hCw hi ci hj).1 (hb4 i j hi ci hj)
        simp only[hr1,hr2,aA,z7 (show (j:Int)<w by omega),aW,z7 hj,z7 hk,z9,cM (show Nat.succ j<=w by omega),cM (show Nat.succ k<=m by omega),cT,hlen,br hj,e1,e2,e3,hst,af,aN (show j<=1000000 by omega)]
        refine ⟨_,⟨_,rfl,hS2.put hi hj fun a b ha hb=>?_⟩,rfl⟩
        unfold vz
        by_cases c0:a=i/\b=j
        ·rw[if_pos c0,if_pos (by omega),c0.1,c0.2]
        ·rw[if_neg c0]
         by_cases c1:a≠k/\(a<i\/(a=i/\b<j))
         ·rw[if_pos c1,if_pos (by omega)]
         ·rw[if_neg c1,if_neg (by omega)]
       ·obtain ⟨cs2,rfl,hS2⟩:=hx
        simp only[z8 (show ¬ (w:Int)<w by omega),cF]
        refine ⟨_,⟨cs2,rfl,hS2.congr fun a b _ hb=>?_⟩,rfl⟩
        unfold vz
        by_cases c1:a≠k/\(a<i\/(a=i/\b<w))
        ·rw[if_pos c1,if_pos (by omega)]
        ·rw[if_neg c1,if_neg (by omega)]
     ·obtain ⟨cs,rfl,hS⟩:=hx
      simp only[hlen,z8 (show ¬ (m:Int)<m by omega),cF,fa (show (k+1)*8<=140737488355328 by omega),cT,M7]
      refine ⟨_,⟨k+1,upd p k C,elL L e k C,L k C,_,_,_,_,(ids,cs),fr,tu,rfl,hS.congr fun a b ha _=>?_,hfr,hP⟩,rfl⟩
      unfold vz elL
      by_cases c1:a=k
      ·rw[if_neg (by omega),if_pos c1,c1]
      ·rw[if_pos (by omega),if_neg c1]
 ·obtain ⟨k,p,L,e,T,d,β,s,t,fr,tu,rfl,hR,hfr,hE⟩:=hx
  simp only[z8 (show ¬ (c:Int)<c by omega),cF,hR.all,cT,hR.map]
  exact ⟨k,p,L,e,T,d,β,s,fr,tu,rfl,hE⟩
def fct:Nat->Int
 | 0=>1
 | n+1=>((n:Int)+1)*fct n
theorem An:∀n:Nat,0<=fct n
 | 0=>by decide
 | n+1=>Int.mul_nonneg (by omega) (An n)
theorem Ih:∀{n k:Nat} {f:Nat->Int},k<=n->f k*pz n (fun j=>f (skip k j))=pz (n+1) f
 | n,0,f,_=>by
  simp only[pz]
  congr 1
 | 0,k+1,f,hk=>by omega
 | n+1,k+1,f,hk=>by
  have h1:=Ih (n:=n) (k:=k) (f:=fun j=>f (j+1)) (by omega)
  have e1:pz (n+1) (fun j=>f (skip (k+1) j))=f 0*pz n fun j=>f (skip k j+1):=by
   show f (skip (k+1) 0)*pz n (fun j=>f (skip (k+1) (j+1)))=_
   have e2:skip (k+1) 0=0:=by unfold skip;rw[if_pos (by omega)]
   have e3:(fun j=>f (skip (k+1) (j+1)))=fun j=>f (skip k j+1):=by
    funext j
    congr 1
    unfold skip
    by_cases c:j<k
    ·rw[if_pos (by omega),if_pos c]
    ·rw[if_neg (by omega),if_neg c]
   rw[e2,e3]
  have e4:pz (n+1+1) f=f 0*pz (n+1) fun j=>f (j+1):=rfl
  rw[e1,e4,<-h1,Int.mul_left_comm]
theorem Dv:∀{n:Nat} {A:Nat->Nat->Int} {B:Nat->Int},(∀i j,i<n->j<n->ab (A i j)<=B j)->ab (det n A)<=fct n*pz n B
 | 0,A,B,_=>by simp[det,pz,fct,ab]
 | n+1,A,B,h=>by
  have hB:∀j,j<n+1->0<=B j:=fun j hj=>Int.le_trans (bM _) (h 0 j (by omega) hj)
  simp only[det]
  refine Int.le_trans yn ?_
  have h1:∀k,k<n+1->ab (sgd k*A 0 k*det n (jo A k))<=fct n*pz (n+1) B:=fun k hk=>by
   rw[Int.mul_assoc,HP,nA]
   have h2:=Dv (n:=n) (A:=jo A k) (B:=fun j=>B (skip k j)) fun i j hi hj=>h (i+1) (skip k j) (by omega) (by unfold skip;split<;>omega)
   have h3:=Ih (n:=n) (k:=k) (f:=B) (by omega)
   have h4:=h 0 k (by omega) hk
   have h5:ab (A 0 k)*ab (det n (jo A k))<=B k*(fct n*pz n fun j=>B (skip k j)):=Int.mul_le_mul h4 h2 (bM _) (hB k hk)
   rw[<-h3]
   rw[Int.mul_left_comm] at h5
   exact h5
  have h6:=oi (n:=n+1) (f:=fun k=>ab (sgd k*A 0 k*det n (jo A k))) (g:=fun _=>fct n*pz (n+1) B) h1
  refine Int.le_trans h6 ?_
  have h7:∀(q:Nat) (x:Int),sz q (fun _=>x)=(q:Int)*x:=fun q x=>by
   induction q with
   | zero=>simp[sz]
   | succ q ih =>
    simp only[sz]
    rw[ih,Int.natCast_add,Int.add_mul]
    simp
  rw[h7]
  show _<=((n:Int)+1)*fct n*pz (n+1) B
  rw[Int.mul_assoc]
  exact Int.le_refl _
theorem zJ {x y:Int} (hx:1<=x) (hy:x<=y):∀{n i:Nat},pz n (fun q=>if q=i then y else x)<=y*x ^ n
 | 0,i=>by
  simp only[pz,Int.pow_zero]
  omega
 | n+1,0=>by
  show y*pz n (fun q=>if q+1=0 then y else x)<=_
  have e:pz n (fun q=>if q+1=0 then y else x)<=x ^ (n+1):=by
   have:∀k:Nat,pz k (fun q=>if q+1=0 then y else x)=x ^ k:=fun k=>by
    induction k with
    | zero=>exact (Int.pow_zero x).symm
    | succ k ih =>
     show x*pz k (fun q=>if q+1+1=0 then y else x)=_
     have e2:(fun q:Nat=>if q+1+1=0 then y else x)=fun q:Nat=>if q+1=0 then y else x:=by
      funext q
      rw[if_neg (by omega),if_neg (by omega)]
     rw[e2,ih,Int.pow_succ,Int.mul_comm]
   rw[this,Int.pow_succ]
   have h1:0<=x ^ n:=Int.pow_nonneg (by omega)
   have h2:x ^ n*1<=x ^ n*x:=Int.mul_le_mul_of_nonneg_left hx h1
   omega
  exact Int.mul_le_mul_of_nonneg_left e (by omega)
 | n+1,i+1=>by
  show x*pz n (fun q=>if q+1=i+1 then y else x)<=_
  have e2:(fun q:Nat=>if q+1=i+1 then y else x)=fun q:Nat=>if q=i then y else x:=by
   funext q
   by_cases c:q=i
   ·rw[if_pos (by omega),if_pos c]
   ·rw[if_neg (by omega),if_neg c]
  rw[e2,Int.pow_succ]
  have h1:=zJ hx hy (n:=n) (i:=i)
  have h2:x*pz n (fun q=>if q=i then y else x)<=x*(y*x ^ n):=Int.mul_le_mul_of_nonneg_left h1 (by omega)
  have e3:y*(x ^ n*x)=x*(y*x ^ n):=by grind
  rw[e3]
  exact h2
theorem KF {m w c:Nat} {N:Nat->Nat->Int} {x y:Int} (hm:1<=m/\m<=1000) (hw:w<=1000) (hc:c<=w) (hx:1<=x) (hy:x<=y) (h1:∀i j,i<m->j<c->ab (N i j)<=x) (h2:∀i j,i<m->j<w->ab (N i j)<=y)
  (hb:fct m*(y*x ^ m)<4611686018427387904):ElBnd m w c N:=by
 refine ⟨hm,hw,hc,fun T d β hT hβ i j hi hj=>?_⟩
 rw[hT.bound hi hj]
 unfold dc
 have h3:=Dv (n:=m) (A:=eB (rY w N) (upd β i j)) (B:=fun q=>if q=i then y else x) fun p q hp hq=>?_
 ·refine Int.lt_of_le_of_lt h3 (Int.lt_of_le_of_lt ?_ hb)
  exact Int.mul_le_mul_of_nonneg_left (zJ hx hy) (An m)
 ·unfold eB upd rY
  have ab01:∀P:Prop,[Decidable P]->ab (if P then 1 else 0)<=1:=fun P _=>by split<;>decide
  by_cases c1:q=i
  ·rw[if_pos c1,if_pos c1]
   by_cases c2:j<w
   ·rw[if_pos c2]
    exact h2 p j hp c2
   ·rw[if_neg c2]
    exact Int.le_trans (ab01 _) (by omega)
  ·rw[if_neg c1,if_neg c1]
   rcases hβ q hq with h | h
   ·rw[if_pos (by omega)]
    exact h1 p _ hp h
   ·rw[if_neg (by omega)]
    exact Int.le_trans (ab01 _) hx
def lL (n:Nat) (N:Nat->Nat->Int) (b:Nat->Int):Nat->Nat->Int:=fun i j=>if j<n then N i j else b i
def EqN (m n:Nat) (N:Nat->Nat->Int) (b:Nat->Int) (x:Nat->Rat):Prop:=∀i,i<m->(sq n fun j=>((N i j:Int):Rat)*x j)=((b i:Int):Rat)
theorem LZ {n:Nat} {f:Nat->Rat}:∀{m:Nat},n<=m->(∀i,n<=i->i<m->f i=0)->sq m f=sq n f
 | 0,h,_=>by
  have:n=0:=by omega
  rw[this]
 | m+1,h,h0=>by
  by_cases c:n=m+1
  ·rw[c]
  ·simp only[sq]
   rw[LZ (m:=m) (by omega) fun i h1 h2=>h0 i h1 (by omega),h0 m (by omega) (by omega)]
   grind
theorem Sq:∀{n:Nat} {f:Nat->Rat} {k:Nat},k<n->(∀i,i<n->i≠k->f i=0)->sq n f=f k
 | n+1,f,k,hk,h=>by
  simp only[sq]
  by_cases e:k=n
  ·subst e
   rw[qe fun i hi=>h i (by omega) (by omega),Rat.zero_add]
  ·rw[Sq (k:=k) (by omega) fun i hi hne=>h i (by omega) hne,h n (by omega) (fun h=>e h.symm),Rat.add_zero]
theorem uJ {z:Int} (h:z≠0):((z:Int):Rat)≠0:=fun h0=>h (Rat.intCast_inj.1 h0)
section
variable {m n:Nat} {N:Nat->Nat->Int} {b:Nat->Int} {k:Nat} {p:Nat->Nat} {L:Nat->Nat->Int} {e:Int} {T:Nat->Nat->Int} {d:Int} {β:Nat->Nat} {s:Int}
theorem El.row_eq (h:El m (n+1) n (lL n N b) n k p L e T d β s) {x:Nat->Rat} (hx:EqN m n N b x) {i:Nat} (hi:i<m):(sq n fun j=>((T i j:Int):Rat)*x j)=((T i n:Int):Rat):=by
 have hr:∀j,j<n+1+m->T i j=sz m fun q=>T i (n+1+q)*rY (n+1) (lL n N b) q j:=fun j hj =>
  h.tb.rows (a:=fun q=>n+1+q) (fun q hq=>by omega) (fun q hq r hr=>by
   unfold rY
   rw[if_neg (by omega)]
   by_cases c:q=r
   ·rw[if_pos (by omega),if_pos c]
   ·rw[if_neg (by omega),if_neg c]) hi hj
 have h1:∀j,j<n->((T i j:Int):Rat)=sq m fun q=>((T i (n+1+q):Int):Rat)*((N q j:Int):Rat):=fun j hj=>by
  rw[hr j (by omega),<-tc]
  refine dS fun q _=>?_
  unfold rY lL
  rw[if_pos (by omega),if_pos hj,Rat.intCast_mul]
 have h2:((T i n:Int):Rat)=sq m fun q=>((T i (n+1+q):Int):Rat)*((b q:Int):Rat):=by
  rw[hr n (by omega),<-tc]
  refine dS fun q _=>?_
  unfold rY lL
  rw[if_pos (by omega),if_neg (by omega),Rat.intCast_mul]
 have h3:(sq n fun j=>((T i j:Int):Rat)*x j)=sq n fun j=>sq m fun q=>((T i (n+1+q):Int):Rat)*(((N q j:Int):Rat)*x j):=dS fun j hj=>by
  rw[h1 j hj,Rat.mul_comm,<-uj]
  exact dS fun q _=>by grind
 rw[h3,<-Dq,h2]
 refine dS fun q hq=>?_
 rw[uj,hx q hq]
theorem El.row_val (h:El m (n+1) n (lL n N b) n k p L e T d β s) {i:Nat} (hi:i<m):L i n=0↔T i n=0:=by
 rw[h.le i n hi (by omega)]
 rcases h.s1 with h1 | h1<;>rw[h1]<;>omega
theorem El.none (h:El m (n+1) n (lL n N b) n k p L e T d β s) {i:Nat} (hk:k<=i) (hi:i<m) (h0:L i n≠0) (x:Nat->Rat):¬ EqN m n N b x:=fun hx=>by
 have h1:=h.row_eq hx hi
 rw[qe fun j hj=>by rw[h.z i j hk hi hj];exact Rat.zero_mul _] at h1
 exact h0 ((h.row_val hi).2 (Rat.intCast_inj.1 h1.symm))
theorem El.p_ge (h:El m (n+1) n (lL n N b) n k p L e T d β s):∀i,i<k->i<=p i
 | 0,_=>Nat.zero_le _
 | i+1,hi=>by
  have h1:=h.p_ge i (by omega)
  have h2:=h.inc i (i+1) (by omega) hi
  omega
theorem El.k_le (h:El m (n+1) n (lL n N b) n k p L e T d β s):k<=n:=by
 by_cases hk:k=0
 ·omega
 ·have h1:=h.p_ge (k - 1) (by omega)
  have h2:=(h.bp (k - 1) (by omega)).2
  omega
theorem El.p_id (h:El m (n+1) n (lL n N b) n k p L e T d β s) (hk:k=n):∀i,i<n->p i=i:=by
 have key:∀q i,i+q=n - 1->i<n->p i<=i:=fun q=>by
  induction q with
  | zero=>intro i h1 h2;have:=(h.bp i (by omega)).2;omega
  | succ q ih =>
   intro i h1 h2
   have h3:=ih (i+1) (by omega) (by omega)
   have h4:=h.inc i (i+1) (by omega) (by omega)
   omega
 intro i hi
 have h1:=key (n - 1 - i) i (by omega) hi
 have h2:=h.p_ge i (by omega)
 omega
def xD (n:Nat) (L:Nat->Nat->Int) (e:Int) (i:Nat):Rat:=((L i n:Int):Rat) / ((e:Int):Rat)
theorem El.sol_eq (h:El m (n+1) n (lL n N b) n k p L e T d β s) {i:Nat} (hi:i<m):((d:Int):Rat)*xD n L e i=((T i n:Int):Rat):=by
 have hd:=h.tb.dpos
 have hs:((s:Int):Rat)*((s:Int):Rat)=1:=by rw[<-Rat.intCast_mul,h.sne];rfl
 have he:((e:Int):Rat)≠0:=uJ h.ene
 have e1:((e:Int):Rat)=((s:Int):Rat)*((d:Int):Rat):=by rw[h.de,Rat.intCast_mul]
 have e2:((L i n:Int):Rat)=((s:Int):Rat)*((T i n:Int):Rat):=by rw[h.le i n hi (by omega),Rat.intCast_mul]
 unfold xD
 rw[Rat.div_def]
 have h3:((e:Int):Rat)*((e:Int):Rat)⁻¹=1:=Rat.mul_inv_cancel _ he
 have h4:((d:Int):Rat)=((s:Int):Rat)*((e:Int):Rat):=by rw[e1];grind
 rw[h4,e2]
 grind
theorem El.unique (h:El m (n+1) n (lL n N b) n k p L e T d β s) (hk:k=n) {x:Nat->Rat} (hx:EqN m n N b x) {i:Nat} (hi:i<n):x i=xD n L e i:=by
 have hkm:=h.km
 have him:i<m:=by omega
 have hb:=fun j (hj:j<n)=>show β j=j by rw[(h.bp j (by omega)).1,h.p_id hk j hj]
 have h1:=h.row_eq hx him
 rw[Sq hi fun j hj hne=>by
  have h2:=h.tb.other him (show j<m by omega) (Ne.symm hne)
  rw[hb j hj] at h2
  rw[h2]
  exact Rat.zero_mul _] at h1
 have h3:=h.tb.basis him
 rw[hb i hi] at h3
 rw[h3,<-h.sol_eq him] at h1
 have hd:((d:Int):Rat)≠0:=uJ (by have:=h.tb.dpos;omega)
 have h4:((d:Int):Rat)⁻¹*((d:Int):Rat)=1:=Rat.inv_mul_cancel _ hd
 have h5:=congrArg (fun z=>((d:Int):Rat)⁻¹*z) h1
 rw[<-Rat.mul_assoc,<-Rat.mul_assoc,h4,Rat.one_mul,Rat.one_mul] at h5
 exact h5
theorem El.solves (h:El m (n+1) n (lL n N b) n k p L e T d β s) (hk:k=n) (h0:∀i,k<=i->i<m->L i n=0) {x:Nat->Rat} (hx:∀i,i<n->x i=xD n L e i):EqN m n N b x:=fun q hq=>by
 have hkm:=h.km
 have hb:=fun j (hj:j<n)=>show β j=j by rw[(h.bp j (by omega)).1,h.p_id hk j hj]
 have h1:=h.tb.co q hq n (by omega)
 have h2:rY (n+1) (lL n N b) q n=b q:=by unfold rY lL;rw[if_pos (by omega),if_neg (by omega)]
 rw[h2] at h1
 have h3:((d:Int):Rat)*((b q:Int):Rat)=sq m fun i=>((T i n:Int):Rat)*((rY (n+1) (lL n N b) q (β i):Int):Rat):=by
  rw[<-Rat.intCast_mul,h1,<-tc]
  exact dS fun i _=>by rw[Rat.intCast_mul]
 rw[LZ (n:=n) (by omega) fun i h4 h5=>by rw[(h.row_val h5).1 (h0 i (by omega) h5)];exact Rat.zero_mul _] at h3
 have h6:(sq n fun i=>((T i n:Int):Rat)*((rY (n+1) (lL n N b) q (β i):Int):Rat))=((d:Int):Rat)*sq n fun j=>((N q j:Int):Rat)*x j:=by
  rw[<-uj]
  refine dS fun i hi=>?_
  rw[hb i hi,<-h.sol_eq (show i<m by omega),hx i hi]
  have:rY (n+1) (lL n N b) q i=N q i:=by unfold rY lL;rw[if_pos (by omega),if_pos hi]
  rw[this]
  grind
 rw[h6] at h3
 have hd:((d:Int):Rat)≠0:=uJ (by have:=h.tb.dpos;omega)
 have h4:((d:Int):Rat)⁻¹*((d:Int):Rat)=1:=Rat.inv_mul_cancel _ hd
 have h5:=congrArg (fun z=>((d:Int):Rat)⁻¹*z) h3
 rw[<-Rat.mul_assoc,<-Rat.mul_assoc,h4,Rat.one_mul,Rat.one_mul] at h5
 exact h5.symm
end
theorem zI {l:List Int} {k:Int} (hl:l.length<=1000000) (hk:0<=k/\k<=1000000000) (h:∀a ∈ l,-k<=a/\a<=k):bU l k=some true:=by
 simp only[bU,ma]
 rw[zm (p:=fun _=>false) hl fun a ha=>?_,af,List.any_eq_false.2 fun _ _ h=>Bool.noConfusion h]
 ·rfl
 ·have:=h a ha
  simp only[eu,kc]
  rw[aO (x:=0 - k) (by omega) (by omega),z8 (show ¬ a<0 - k by omega),z8 (show ¬ a>k by omega)]
  rfl
theorem wn {α:Type} {n:Nat} {f:Nat->α} {a:α} (h:a ∈ bF n f):∃i,i<n/\f i=a:=by
 unfold bF at h
 obtain ⟨i,hi,he⟩:=List.mem_map.1 h
 exact ⟨i,List.mem_range.1 hi,he⟩
theorem Jk {m n:Nat} {N:Nat->Nat->Int} (hm:1<=m/\m<=6) (hn:1<=n/\n<=12) (h:∀i j,i<m->j<n-> -32<=N i j/\N i j<=32):fw (lI m n N)=some true:=by
 have hc:bv (lI m n N) (fun x=>dl x.1 (n:Int))=some false:=by
  simp only[bv,gu]
  have e:bO (lI m n N) (fun x=>dl x.1 (n:Int))=some (jG (fun _=>false) (lI m n N) 0):=by
   unfold bO ij
   refine lj (f:=fun x=>dl x.1 (n:Int)) (d:=[]) (p:=fun _=>false) (by rw[eH];omega) fun a ha=>?_
   obtain ⟨i,hi,rfl⟩:∃i,i<m/\bF n (N i)=a:=by
    obtain ⟨i,hi,he⟩:=List.mem_map.1 ha
    exact ⟨i,List.mem_range.1 hi,he⟩
   have hw:=zI (l:=bF n (N i)) (k:=32) (by rw[aA];omega) (by omega) fun a ha=>by
    obtain ⟨j,hj,rfl⟩:=wn ha
    exact h i j hi hj
   simp only[dl,lu,aA,decide_true,Bool.not_true,Bool.not_false,Bool.or_true,cT,hw,af,cF]
  rw[e,af,vu,List.any_eq_false.2 fun _ _ h=>Bool.noConfusion h]
 simp only[fw,nv,eH,io (show 0<m by omega),aA,z8 (show ¬ (m:Int)<1 by omega),z8 (show ¬ (m:Int)>6 by omega),z7 (show (n:Int)>=1 by omega),z7 (show (n:Int)<=12 by omega),
  Bool.not_false,Bool.not_true,Bool.or_true,Bool.and_self,cT,cF,show inB 0 m=true from (aW (i:=0)).trans (z7 (show 0<m by omega)),hc,af]
def JD (m n:Nat) (N:Nat->Nat->Int) (b:Nat->Int) (o:Option (List Fq×Int×Unit)):Prop :=
 (∃l,o=some (l,0,())/\l.length=n/\(∀a ∈ l,okF a)/\EqN m n N b (vX l)/\∀x,EqN m n N b x->∀j,j<n->x j=vX l j) \/
 (o=some ([],22,())/\∀x,¬ EqN m n N b x) \/
 (o=some ([],21,())/\∃k p L e T d β s,El m (n+1) n (lL n N b) n k p L e T d β s/\k<n/\∀i,k<=i->i<m->L i n=0) \/
 o=some ([],5,())
theorem QB {n i:Nat} {N:Nat->Nat->Int} {b:Nat->Int}:bF n (N i)++[b i]=bF (n+1) (lL n N b i):=by
 rw[<-qq]
 congr 1
 ·refine cW fun j hj=>?_
  unfold lL
  rw[if_pos hj]
 ·unfold lL
  rw[if_neg (by omega)]
theorem yk {m w k j:Nat} {L:Nat->Nat->Int} (h:k+j<m):(List.drop k (List.take m (lI m w L))).getD j []=bF w (L (k+j)):=by
 have e:List.take m (lI m w L)=lI m w L:=List.take_of_length_le (by rw[eH];omega)
 rw[e,List.getD_eq_getElem?_getD,List.getElem?_drop,<-List.getD_eq_getElem?_getD,io h]
theorem Kj {m n:Nat} {N:Nat->Nat->Int} {b:Nat->Int} (hm:1<=m/\m<=6) (hn:1<=n/\n<=12) (hN:∀i j,i<m->j<n-> -20<=N i j/\N i j<=20) (hb:∀i,i<m->0<=b i/\b i<=33554432) :
  JD m n N b (du (lI m n N) (bF m b)):=by
 have hB:ElBnd m (n+1) n (lL n N b):=by
  refine KF (x:=20) (y:=33554432) (by omega) (by omega) (by omega) (by omega) (by omega) (fun i j hi hj=>?_) (fun i j hi hj=>?_) ?_
  ·unfold lL
   rw[if_pos hj]
   exact tT.2 (hN i j hi hj)
  ·unfold lL
   refine tT.2 ?_
   split
   ·rename_i c
    have:=hN i j hi c
    omega
   ·have:=hb i hi
    omega
  ·have h6:m=1\/m=2\/m=3\/m=4\/m=5\/m=6:=by omega
   rcases h6 with rfl | rfl | rfl | rfl | rfl | rfl<;>decide
 have hw:=zI (l:=bF m b) (k:=67108864) (by rw[aA];omega) (by omega) fun a ha=>by
  obtain ⟨j,hj,rfl⟩:=wn ha
  have:=hb j hj
  omega
 obtain ⟨k,p,L,e,T,d,β,s,fr,tu,hel,hE⟩:=Ch hB
 unfold du nL
 rw[Jk hm hn fun i j hi hj=>by have:=hN i j hi hj;omega,af]
 simp only[Bool.not_true,cF,aA,eH,decide_true,hw,af,show inB 0 m=true from (aW (i:=0)).trans (z7 (show 0<m by omega)),cT,io (show 0<m by omega)]
 refine nJ (JD m n N b) m (by omega) (fun i=>(gH i (n+1) (lL n N b),(i:Int),PUnit.unit)) rfl (fun again i hi=>?_) (fun again=>?_)
 ·simp only[z7 (show (i:Int)<m by omega),aW,z7 hi,z9,io hi,LV (l:=bF n (N i)) (by rw[aA];omega),af,aA,gb,br hi,
   fa (show (n+1)*8<=140737488355328 by omega),fa (show (i+1)*24<=140737488355328 by omega),cT,QB,BG,aN (show i<=1000000 by omega)]
 have hkn:=hE.k_le
 have hkm:=hE.km
 simp only[z8 (show ¬ (m:Int)<m by omega),cF,gP,cT,gQ]
 rw[hel,af]
 simp only[aA,eH,z9,Hj (show (0:Int)<=k by omega) (show (k:Int)<=m by omega) (show (m:Int)<=m by omega),cT]
 have hlen:(List.drop k (List.take m (lI m (n+1) L))).length=m - k:=by
  rw[List.length_drop,List.length_take,eH,Nat.min_self]
 simp only[hlen]
 rcases su (m - k) (fun j=>decide (L (k+j) n≠0)) with hno | ⟨j0,hj0,hp0,hpn⟩
 ·have h0:∀i,k<=i->i<m->L i n=0:=fun i h1 h2=>by
   have:=of_decide_eq_false (hno (i - k) (by omega))
   rw[show k+(i - k)=i by omega] at this
   exact Decidable.not_not.1 this
  refine nJ (JD m n N b) (m - k) (by omega) (fun j=>((j:Int),PUnit.unit)) rfl (fun again1 j hj=>?_) (fun again1=>?_)
  ·simp only[z7 (show (j:Int)<(m - k:Nat) by omega),aW,z7 hj,z9,yk (show k+j<m by omega),aA,z7 (show n<n+1 by omega),cT,br (show n<n+1 by omega),h0 (k+j) (by omega) (by omega),decide_true,Bool.not_true,cF,aN (show j<=1000000 by omega)]
  simp only[z8 (show ¬ ((m - k:Nat):Int)<(m - k:Nat) by omega),cF]
  by_cases hlt:k<n
  ·rw[z7 (show (k:Int)<n by omega),cond_true]
   exact .inr (.inr (.inl ⟨rfl,k,p,L,e,T,d,β,s,hE,hlt,h0⟩))
  ·have hk:k=n:=by omega
   rw[z8 (show ¬ (k:Int)<n by omega),cond_false]
   obtain ⟨hb1,hb2⟩:=hE.bound hB
   refine sK (γ:=Nat) (I:=fun g x=>x=(bF g (fun i=>prQ (xD n L e i)),(g:Int),PUnit.unit)/\g<=n/\∀i,i<g->gB (xD n L e i)) (JD m n N b) (fun g=>n - g) (fun rec g x ⟨h1,h2,h3⟩=>?_) (s:=0) ⟨rfl,by omega,fun i hi=>by omega⟩ (by omega)
   subst h1
   by_cases hg:g=n
   ·refine .inl ?_
    subst hg
    simp only[z8 (show ¬ (g:Int)<g by omega),cF]
    have hv:∀j,j<g->vX (bF g (fun i=>prQ (xD g L e i))) j=xD g L e j:=fun j hj=>by
     unfold vX
     rw[br hj,uq]
    refine .inl ⟨_,rfl,aA,fun a ha=>?_,hE.solves hk h0 hv,fun x hx j hj=>?_⟩
    ·obtain ⟨i,hi,rfl⟩:=wn ha
     exact qz (h3 i hi)
    ·rw[hv j hj]
     exact hE.unique hk hx hj
   ·have hgm:g<m:=by omega
    have h4:=hb1 g n hgm (by omega)
    have h5:=Ic (n:=L g n) (d:=e) (by omega) (by omega) (by omega) (by omega)
    rw[if_neg hE.ene,yh hE.ene] at h5
    simp only[z7 (show (g:Int)<n by omega),cT,aW,z7 hgm,z9,io hgm,aA,z7 (show n<n+1 by omega),br (show n<n+1 by omega),h5,af]
    rw[show ((L g n:Int):Rat) / ((e:Int):Rat)=xD n L e g from rfl]
    rcases qh (xD n L e g) with ⟨f1,e1⟩ | ⟨f1,e1⟩
    ·refine .inr ⟨g+1,_,⟨rfl,by omega,fun i hi=>?_⟩,by omega,?_⟩
     ·by_cases c:i=g
      ·rw[c];exact f1
      ·exact h3 i (by omega)
     ·rw[e1]
      simp only[decide_true,Bool.not_true,cF,fa (show (g+1)*16<=140737488355328 by omega),cT,aN (show g<=1000000 by omega)]
      rw[show prQ (xD n L e g)=(fun i=>prQ (xD n L e i)) g from rfl,qq]
    ·refine .inl (.inr (.inr (.inr ?_)))
     rw[e1]
     rfl
 ·have hL0:L (k+j0) n≠0:=z12 hp0
  refine nJ (JD m n N b) j0 (by omega) (fun j=>((j:Int),PUnit.unit)) rfl (fun again1 j hj=>?_) (fun again1=>?_)
  ·have h1:=Decidable.not_not.1 (of_decide_eq_false (hpn j hj))
   simp only[z7 (show (j:Int)<(m - k:Nat) by omega),aW,z7 (show j<m - k by omega),z9,yk (show k+j<m by omega),aA,z7 (show n<n+1 by omega),cT,br (show n<n+1 by omega),h1,decide_true,Bool.not_true,cF,aN (show j<=1000000 by omega)]
  ·simp only[z7 (show (j0:Int)<(m - k:Nat) by omega),aW,z7 hj0,z9,yk (show k+j0<m by omega),aA,z7 (show n<n+1 by omega),cT,br (show n<n+1 by omega),z8 hL0,Bool.not_false]
   exact .inr (.inl ⟨rfl,fun x=>hE.none (show k<=k+j0 by omega) (by omega) hL0 x⟩)
theorem zG {s:Sy} (h:jJ s=true):JD s.1.length s.2.length (Mx s) (bwS s) (cG s):=by
 have hV:=ll h
 have hb:=hV.bl
 have hr:=hV.rl
 have h1:=Kj (m:=s.1.length) (n:=s.2.length) (N:=Mx s) (b:=bwS s) hb (by omega) (fun i j _ hj=>E9 hV i hj) (fun i hi=>by have:=hV.wt i hi;omega)
 have e:cG s=du (JA s) (QF s):=by
  unfold cG jM
  rw[HN h,af]
  simp only[decide_true,Bool.not_true,cF,Iz h,af]
  cases du (JA s) (QF s) with
  | none=>rfl
  | some t=>rfl
 rw[e]
 exact h1
theorem Qe (l m:List Fq) (hl:l.length<=1000000):bm l m=some (decide (l=m)):=by
 simp only[bm,ka]
 by_cases h:l.length=m.length
 ·rw[z7 (show (l.length:Int)=m.length by omega)]
  simp only[Bool.not_true,cF]
  refine Nh (0,0) h hl (fun again i hi=>?_) (fun again=>?_)
  ·simp only[aW,z7 hi,z7 (show i<m.length by omega),z7 (show (i:Int)<l.length by omega),cT,z9,ia (show i<=1000000 by omega),Rt]
   cases decide (List.getD l i ((0:Int),(0:Int))=List.getD m i (0,0))<;>rfl
  ·simp only[z8 (show ¬ (l.length:Int)<l.length by omega),cF]
 ·rw[z8 (show ¬ (l.length:Int)=m.length by omega),z8 fun e=>h (by rw[e])]
  rfl
theorem TZ {l m:List Fq} (hl:∀a ∈ l,okF a) (hm:∀a ∈ m,okF a) (hn:l.length=m.length) (h:∀j,j<l.length->vX l j=vX m j):l=m:=by
 refine List.ext_getElem hn fun i h1 h2=>?_
 have:=h i h1
 unfold vX at this
 rw[bf h1,bf h2] at this
 exact Ti (hl _ (List.getElem_mem _)) (hm _ (List.getElem_mem _)) this
def noC:Cl:=([],false,[])
def Xj (s:Sy) (c:Cl) (e:Int):Prop :=
 (e=5/\c=noC/\¬ gW (al (ji s (iI s)))) \/
 (e=0/\gW (al (ji s (iI s)))/\c.2.1=false/\c.2.2=[]/\c.1.length=s.2.length/\(∀a ∈ c.1,okF a)/\H1 (ji s (iI s)) c.1=true/\(al (ji s (iI s))).Feas (vX c.1)/\cZ s=some (c.1,0,())/\∃f,(f=12\/f=5)/\(gW (al (ji s (iI s)))->f=12)/\cf s=some ([],f,())) \/
 (e=0/\gW (al (ji s (iI s)))/\c.2.1=true/\c.1=[]/\c.2.2.length=s.1.length/\cm (ji s (iI s)) c.2.2=some (true,0,())/\cZ s=some ([],22,())/\cf s=some (c.2.2,0,())/\∃y,(al (ji s (iI s))).Ref y)
theorem Ki {s:Sy} (h:jJ s=true):∃c e,aI s=some (c,e,())/\Xj s c e:=by
 have hV:=ll h
 have hp:=LN hV
 have hvp:=iP.2 hp
 have hpl:(ji s (iI s)).2.length=s.1.length:=aA
 obtain ⟨a,e,h1,h2⟩:=SQ hp
 obtain ⟨y,f,h3,h4⟩:=GB (ji s (iI s))
 have ht:=OM h h1
 have hr:=GF h h3
 unfold aI mh
 rw[ht,af]
 rcases h2 with ⟨rfl,rfl,hf⟩ | ⟨rfl,rfl,hf,y0,hy0⟩ | ⟨_,_,_,_,r,hr1⟩ | ⟨rfl,hf,v,_,_,hlen,ho,hfx,_,hF,_⟩
 ·exact ⟨_,_,rfl,.inl ⟨rfl,rfl,hf⟩⟩
 ·rcases h4 with ⟨_,_,h⟩ | ⟨_,_,_,h⟩ | ⟨_,_,_,_,x,hx⟩ | ⟨rfl,_,_,hly,hR,hy⟩
  ·rw[hvp] at h;cases h
  ·exact (h hf).elim
  ·exact (hy0.none hx).elim
  ·simp only[show decide ((22:Int)=0)=false from rfl,cF,decide_true,cT,hr,af,Bool.not_true]
   exact ⟨_,_,rfl,.inr (.inr ⟨rfl,hf,rfl,rfl,by rw[hpl] at hly;exact hly,hR,ht,hr,hy⟩)⟩
 ·exact (Gy hr1).elim
 ·rcases h4 with ⟨_,_,h⟩ | ⟨_,_,_,h⟩ | ⟨rfl,rfl,_⟩ | ⟨_,_,_,_,_,y1,hy1⟩
  ·rw[hvp] at h;cases h
  ·exact (h hf).elim
  ·simp only[decide_true,cT]
   exact ⟨_,_,rfl,.inr (.inl ⟨rfl,hf,rfl,rfl,hlen.trans pk,ho,hfx,hF,ht,12,.inl rfl,fun _=>rfl,hr⟩)⟩
  ·exact (hy1.none hF).elim
theorem JE (s:Sy):ky s=some true:=by
 simp only[ky,jl,IH,JY,MJ,af,Bool.not_true,cF]
 cases hs:vC s with
 | false=>rfl
 | true =>
  have hl:=GN hs
  cases hv:jJ s with
  | false=>rfl
  | true =>
   have hV:=ll hv
   have hr:=hV.rl
   obtain ⟨c,e,h1,h2⟩:=Ki hv
   have key:∀(l:List Fq) (f:Int),cG s=some (l,f,())->(bif !decide (e=0) then some (decide (e=5)) else bif decide (f=22) then some c.2.1 else bif !decide (f=0) then some true else
     ah (ai l fun (x:Fq×PUnit)=>ct x.1) fun (t:Bool)=>bif t then some c.2.1 else ah (bif !c.2.1 then bm c.1 l else some false) fun (t:Bool)=>some (bif !c.2.1 then t else false))=some true:=fun l f hl'=>by
    rcases h2 with ⟨rfl,_⟩ | ⟨rfl,hf,hd,hd2,hlen,ho,_,hF,_⟩ | ⟨rfl,hf,hd,hd2,hlen,_,_,_,y,hy⟩
    ·rfl
    ·
     obtain ⟨hp,hE⟩:=(A7 pk).1 hF
     rcases zG hv with ⟨l2,h0,hn,ho2,hE2,hu⟩ | ⟨h0,hno⟩ | ⟨h0,_⟩ | h0
     ·rw[hl'] at h0
      injection h0 with h0
      have e1:l=l2:=congrArg Prod.fst h0
      have e2:f=0:=congrArg (fun z=>z.2.1) h0
      subst e1 e2
      have hcl:c.1=l:=TZ ho ho2 (by rw[hlen,hn]) fun j hj=>hu _ hE j (by omega)
      have hneg:(l.any fun a=>decide (a.1<0))=false:=by
       rw[List.any_eq_false]
       intro a ha h
       obtain ⟨j,hj,he⟩:=List.mem_iff_getElem.1 ha
       have h5:=hp j (by omega)
       rw[hcl] at h5
       unfold vX at h5
       rw[bf hj,he] at h5
       have:=(nO (ho2 a ha)).1 h5
       have:=z12 h
       omega
      simp only[decide_true,Bool.not_true,cF,show decide ((0:Int)=22)=false from rfl,hd,Bool.not_false,cT]
      rw[Si (p:=fun a=>decide (a.1<0)) (by omega) (fun a _=>by simp only[ct,gg]),af,hneg,cF,Qe c.1 l (by omega),af,z7 hcl]
     ·exact (hno _ hE).elim
     ·rw[hl'] at h0
      injection h0 with h0
      have e2:f=21:=congrArg (fun z=>z.2.1) h0
      subst e2
      rfl
     ·rw[hl'] at h0
      injection h0 with h0
      have e2:f=5:=congrArg (fun z=>z.2.1) h0
      subst e2
      rfl
    ·
     rcases zG hv with ⟨l2,h0,hn,ho2,hE2,hu⟩ | ⟨h0,hno⟩ | ⟨h0,_⟩ | h0
     ·rw[hl'] at h0
      injection h0 with h0
      have e1:l=l2:=congrArg Prod.fst h0
      have e2:f=0:=congrArg (fun z=>z.2.1) h0
      subst e1 e2
      have hneg:(l.any fun a=>decide (a.1<0))=true:=by
       apply Classical.byContradiction
       intro hh
       rw[Bool.not_eq_true,List.any_eq_false] at hh
       refine hy.none ((A7 pk).2 ⟨fun j hj=>?_,hE2⟩)
       have hj':j<l.length:=by omega
       have h6:=hh (l.getD j (0,0)) (by rw[bf hj'];exact List.getElem_mem _)
       refine (nO (ho2 (l.getD j (0,0)) (by rw[bf hj'];exact List.getElem_mem _))).2 ?_
       rw[decide_eq_true_iff] at h6
       omega
      simp only[decide_true,Bool.not_true,cF,show decide ((0:Int)=22)=false from rfl,hd]
      rw[Si (p:=fun a=>decide (a.1<0)) (by omega) (fun a _=>by simp only[ct,gg]),af,hneg,cT]
     ·rw[hl'] at h0
      injection h0 with h0
      have e2:f=22:=congrArg (fun z=>z.2.1) h0
      subst e2
      rw[hd]
      rfl
     ·rw[hl'] at h0
      injection h0 with h0
      have e2:f=21:=congrArg (fun z=>z.2.1) h0
      subst e2
      rfl
     ·rw[hl'] at h0
      injection h0 with h0
      have e2:f=5:=congrArg (fun z=>z.2.1) h0
      subst e2
      rfl
   have hi:∀e0:Bool,(!e0||e0)=true:=fun e0=>by cases e0<;>rfl
   have hj:∀e0:Bool,(e0||!e0)=true:=fun e0=>by cases e0<;>rfl
   obtain ⟨l,f,hl'⟩:∃l f,cG s=some (l,f,()):=by
    rcases zG hv with ⟨l2,h0,_⟩ | ⟨h0,_⟩ | ⟨h0,_⟩ | h0
    ·exact ⟨_,_,h0⟩
    ·exact ⟨_,_,h0⟩
    ·exact ⟨_,_,h0⟩
    ·exact ⟨_,_,h0⟩
   have hk:=key l f hl'
   simp only[Bool.not_true,Bool.not_false,Bool.or_true,Bool.and_self,cT,cF,af,hl',h1,hi]
   exact hk
end Go.Proofs.YtegbncajloeepaaGreat
