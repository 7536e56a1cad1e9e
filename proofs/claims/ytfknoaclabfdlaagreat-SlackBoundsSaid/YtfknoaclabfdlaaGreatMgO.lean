/- How great the numbers of a program's tables may get: the product of the rows' factors. Tables of programs: how great the numbers of the artificial columns may get. Tables of numbers as lists of rows, and loops over them. Systems: the matrix of both programs. Programs: sums of numbers times fractions. Programs: which points are feasible, as the program tells it. Systems: their programs, as both programs make them. Programs: feasible points and values, in both programs. The law ProgramForms. Programs: columns and right sides. Programs: the signs of multipliers. Programs: sums of columns below numbers; refutations. Programs: refutations, as the program tells them. Programs: refutations, as they are specified. Programs: refutations are the same in both programs. Systems: the law SlackPrograms. Programs: products of two numbers, their differences and quotients. Programs: a step of the table. Programs: the row that leaves, the sums of artificial rows, and the reduced costs. Programs: the sums of artificial rows, and the reduced costs. Programs: improving a table to the least value. Programs: finding a feasible basis. Programs: the first table. Programs: which programs fit. Programs: what Solve answers. Programs: what Farkas answers. Programs: answers that are proved, in both programs. Programs: points, multipliers and refutations are those of the theory. Programs: the sums of what the solver returns fit, so that its answers are accepted. Programs: what the solver says of a program; the law ProgramBeats. Programs, as they are specified: the layout of the table, and a step of it. Programs, as they are specified: steps until the last row has no negative number. Programs, as they are specified: artificial variables leave the basis. Programs, as they are specified: the first table. Programs, as they are specified: the least value. Programs: the law ProgramSolves. Systems: what the solver says of their programs. Systems: equilibria, as the program checks them. Systems: the law SlackHolds. Systems: the law SlackBounds. -/
import Derived.KernelRfl
import Derived.Test.YtfknoaclabfdlaaGreatMgN

namespace Go.Proofs.YtfknoaclabfdlaaGreat
namespace Dn
theorem vz {a b:Nat} {f:Nat->Int}:sz (a+b) f=sz a f+sz b fun i=>f (a+i):=by
 induction b with
 | zero=>simp[sz]
 | succ b ih =>
  rw[show a+(b+1)=a+b+1 by omega,sz,sz,ih]
  omega
theorem JP {m w:Nat} {γ:Nat->Nat} {f:Nat->Int} (hlt:∀p,p<m->γ p<w) (hinj:∀p q,p<m->q<m->γ p=γ q->p=q) (hf:∀j,j<w->0<=f j):(sz m fun p=>f (γ p))<=sz w f:=by
 have e:(sz m fun p=>f (γ p))=sz w fun j=>f j*sz m fun p=>if γ p=j then 1 else 0:=by
  rw[bh (g:=fun p=>sz w fun j=>if γ p=j then f j else 0) fun p hp=>by
   rw[eF (hlt p hp) fun j _ hne=>if_neg (Ne.symm hne),if_pos rfl],rR]
  refine bh fun j _=>?_
  rw[<-fk]
  refine bh fun p _=>?_
  split<;>omega
 rw[e]
 refine mI fun j hj=>?_
 have hc:(sz m fun p=>if γ p=j then (1:Int) else 0)<=1:=by
  by_cases h:∃p,p<m/\γ p=j
  ·obtain ⟨p,hp,rfl⟩:=h
   rw[eF hp fun q hq hne=>if_neg fun e'=>hne (hinj q p hq hp e'),if_pos rfl]
   exact Int.le_refl _
  ·rw[fJ fun p hp=>if_neg fun e'=>h ⟨p,hp,e'⟩]
   omega
 have:=Int.mul_le_mul_of_nonneg_left hc (hf j hj)
 omega
def Lin.F (L:Lin) (k:Nat):Int:=1+ab (L.b k)+sz L.n fun j=>ab (L.A k j)
def Lin.F0 (L:Lin):Int:=1+sz L.n fun j=>ab (L.c j)
theorem Lin.F_pos (L:Lin) (k:Nat):1<=L.F k:=by
 have h1:=bD (L.b k)
 have h2:0<=sz L.n fun j=>ab (L.A k j):=gy fun j _=>bD _
 unfold Lin.F
 omega
theorem Lin.F0_pos (L:Lin):1<=L.F0:=by
 have h2:0<=sz L.n fun j=>ab (L.c j):=gy fun j _=>bD _
 unfold Lin.F0
 omega
def Lin.P (L:Lin):Int:=pz L.m L.F
theorem GZ:∀{n:Nat} {f:Nat->Int},(∀i,i<n->1<=f i)->1<=pz n f
 | 0,_,_=>by simp[pz]
 | n+1,f,h=>by
  simp only[pz]
  have h1:=h 0 (by omega)
  have h2:=GZ (n:=n) (f:=fun i=>f (i+1)) fun i hi=>h (i+1) (by omega)
  have:=Int.mul_le_mul h1 h2 (by omega) (by omega)
  omega
theorem Lin.P_pos (L:Lin):1<=L.P:=GZ fun k _=>L.F_pos k
section
variable {L:Lin} {Y:Lay}
theorem H0 (h:Y.ok L) {k:Nat} (hk:k<L.m) (x:Int):ab (Y.σ k*x)=ab x:=by
 rw[me]
 rcases h.sg k hk with e | e<;>rw[e]<;>simp[ab]
theorem DY (h:Y.ok L) {k:Nat} (hk:k<L.m) {f:Nat->Int} (h1:∀j,j<L.n->f j=ab (Y.M L k j)) (hR:f (Y.R L)=ab (Y.M L k (Y.R L)))
  (h2:((∀j,L.n<=j->j<Y.N->f j=0)/\∀i,i<L.m->f (Y.N+i)=if i=k then 1 else 0)\/(L.kd k≠3/\(∀j,L.n<=j->j<Y.N->f j=if j=Y.sl k then 1 else 0)/\∀i,i<L.m->f (Y.N+i)=0)) :
  sz (Y.w L) f=L.F k:=by
 have hn:=h.n
 have e:Y.w L=(L.n+(Y.N - L.n))+L.m+1:=by unfold Lay.w;omega
 rw[e,sz,vz,vz,show L.n+(Y.N - L.n)+L.m=Y.R L by unfold Lay.R;omega,hR,Lay.M_R h,H0 h hk]
 have e1:sz L.n f=sz L.n fun j=>ab (L.A k j):=bh fun j hj=>by rw[h1 j hj,Lay.M_x hj,H0 h hk]
 rw[e1,show L.n+(Y.N - L.n)=Y.N by omega]
 unfold Lin.F
 rcases h2 with ⟨h3,h4⟩ | ⟨h3,h4,h5⟩
 ·rw[fJ fun i hi=>h3 (L.n+i) (by omega) (by omega),eF hk fun i hi hne=>by rw[h4 i hi,if_neg hne],h4 k hk,if_pos rfl]
  omega
 ·obtain ⟨h6,h7⟩:=h.sl k hk h3
  have a1:(sz (Y.N - L.n) fun i=>f (L.n+i))=1:=by
   rw[eF (k:=Y.sl k - L.n) (by omega) fun i hi hne=>by rw[h4 _ (by omega) (by omega),if_neg (by omega)],h4 _ (by omega) (by omega),if_pos (by omega)]
  have a2:(sz L.m fun i=>f (Y.N+i))=0:=fJ fun i hi=>h5 i hi
  rw[a1,a2]
  omega
theorem Dl (h:Y.ok L) {γ:Nat->Nat} (hlt:∀p,p<L.m->γ p<Y.w L):dc L.m (Y.M L) γ=0\/∀k,k<L.m->(sz L.m fun p=>ab (Y.M L k (γ p)))<=L.F k:=by
 have zero:dc L.m (Y.M L) γ=0->dc L.m (Y.M L) γ=0\/∀k,k<L.m->(sz L.m fun p=>ab (Y.M L k (γ p)))<=L.F k:=fun e=>.inl e
 by_cases hinj:∀p q,p<L.m->q<L.m->γ p=γ q->p=q
 ·by_cases hboth:∃k p q,k<L.m/\L.kd k≠3/\p<L.m/\q<L.m/\γ p=Y.sl k/\γ q=Y.N+k
  ·obtain ⟨k,p,q,hk,h3,hp,hq,e1,e2⟩:=hboth
   obtain ⟨h4,h5⟩:=h.sl k hk h3
   have hpq:p≠q:=fun e=>by rw[e,e2] at e1;omega
   apply zero
   unfold dc
   have e3:det L.m (eX (Y.M L) γ)=det L.m (bR (eX (Y.M L) γ) p fun l=>(Y.σ k*(if L.kd k=1 then 1 else -1))*Y.M L l (Y.N+k)):=by
    refine eU fun l j hl hj=>?_
    unfold bR
    split
    ·rename_i e
     rw[e]
     show Y.M L l (γ p)=(Y.σ k*(if L.kd k=1 then 1 else -1))*Y.M L l (Y.N+k)
     rw[e1,Lay.M_a h hk]
     by_cases el:l=k
     ·subst el
      rw[Lay.M_sl h hl h3,if_pos rfl,Int.mul_one]
     ·rw[if_neg el,Int.mul_zero,Lay.M_slo h4 h5 fun e'=>el (h.inj l k hl hk e'.1 h3 e'.2.symm)]
    ·rfl
   rw[e3,lF hp,j5 hp hq hpq fun l _=>by
    unfold bR
    rw[if_pos rfl,if_neg (Ne.symm hpq)]
    show Y.M L l (Y.N+k)=Y.M L l (γ q)
    rw[e2],Int.mul_zero]
  ·refine .inr fun k hk=>?_
   by_cases hs:L.kd k≠3/\∃p,p<L.m/\γ p=Y.sl k
   ·obtain ⟨h3,p,hp,e1⟩:=hs
    obtain ⟨h4,h5⟩:=h.sl k hk h3
    have e:(sz L.m fun p=>ab (Y.M L k (γ p)))=sz L.m fun p=>(fun j=>if Y.N<=j/\j<Y.N+L.m then 0 else ab (Y.M L k j)) (γ p):=bh fun q hq=>by
     show _=if Y.N<=γ q/\γ q<Y.N+L.m then 0 else ab (Y.M L k (γ q))
     split
     ·rename_i hr
      obtain ⟨i,hi⟩:∃i,γ q=Y.N+i:=⟨γ q - Y.N,by omega⟩
      rw[hi,Lay.M_a h (by omega),if_neg fun e'=>hboth ⟨k,p,q,hk,h3,hp,hq,e1,by rw[hi,e']⟩]
      rfl
     ·rfl
    rw[e]
    refine Int.le_trans (JP (f:=fun j=>if Y.N<=j/\j<Y.N+L.m then 0 else ab (Y.M L k j)) hlt hinj fun j _=>?_) (Int.le_of_eq (DY h hk (fun j hj=>?_) ?_ (.inr ⟨h3,fun j h6 h7=>?_,fun i hi=>?_⟩)))
    ·split
     ·exact Int.le_refl _
     ·exact bD _
    ·have:=h.n
     rw[if_neg (by omega)]
    ·rw[if_neg (by unfold Lay.R;omega)]
    ·rw[if_neg (by omega)]
     by_cases ej:j=Y.sl k
     ·subst ej
      rw[Lay.M_sl h hk h3,H0 h hk,if_pos rfl]
      split<;>rfl
     ·rw[if_neg ej,Lay.M_slo h6 h7 fun e'=>ej e'.2]
      rfl
    ·rw[if_pos (by omega)]
   ·have e:(sz L.m fun p=>ab (Y.M L k (γ p)))=sz L.m fun p=>(fun j=>if L.n<=j/\j<Y.N then 0 else ab (Y.M L k j)) (γ p):=bh fun q hq=>by
     show _=if L.n<=γ q/\γ q<Y.N then 0 else ab (Y.M L k (γ q))
     split
     ·rename_i hr
      rw[Lay.M_slo hr.1 hr.2 fun e'=>hs ⟨e'.1,q,hq,e'.2⟩]
      rfl
     ·rfl
    rw[e]
    refine Int.le_trans (JP (f:=fun j=>if L.n<=j/\j<Y.N then 0 else ab (Y.M L k j)) hlt hinj fun j _=>?_) (Int.le_of_eq (DY h hk (fun j hj=>?_) ?_ (.inl ⟨fun j h6 h7=>?_,fun i hi=>?_⟩)))
    ·split
     ·exact Int.le_refl _
     ·exact bD _
    ·rw[if_neg (by omega)]
    ·rw[if_neg (by unfold Lay.R;omega)]
    ·rw[if_pos ⟨h6,h7⟩]
    ·rw[if_neg (by omega),Lay.M_a h hi]
     by_cases ei:k=i
     ·rw[if_pos ei,if_pos ei.symm];rfl
     ·rw[if_neg ei,if_neg (Ne.symm ei)];rfl
 ·have:∃p q,p<L.m/\q<L.m/\γ p=γ q/\p≠q:=by
   apply Classical.byContradiction
   intro hno
   refine hinj fun p q hp hq e=>?_
   apply Classical.byContradiction
   intro hne
   exact hno ⟨p,q,hp,hq,e,hne⟩
  obtain ⟨p,q,hp,hq,e,hne⟩:=this
  apply zero
  refine j5 hp hq hne fun l _=>?_
  show Y.M L l (γ p)=Y.M L l (γ q)
  rw[e]
theorem Au (h:Y.ok L) {γ:Nat->Nat} (hlt:∀p,p<L.m->γ p<Y.w L):ab (dc L.m (Y.M L) γ)<=L.P:=by
 rcases Dl h hlt with e | e
 ·have hP:=L.P_pos
  rw[e]
  simp[ab]
  omega
 ·exact Int.le_trans sj (DM fun k hk=>⟨gy fun _ _=>bD _,e k hk⟩)
theorem Hv {m w:Nat} {β:Nat->Nat} {r c:Nat} (h:∀p,p<m->β p<w) (hc:c<w):∀p,p<m->upd β r c p<w:=fun p hp=>by
 unfold upd
 split
 ·exact hc
 ·exact h p hp
theorem oh (h:Y.ok L) {T:Nat->Nat->Int} {d:Int} {β:Nat->Nat} (ht:Tb L.m (Y.w L) (Y.M L) T d β):d<=L.P/\∀i j,i<L.m->j<Y.w L->ab (T i j)<=L.P:=by
 refine ⟨?_,fun i j hi hj=>by rw[ht.bound hi hj];exact Au h (Hv ht.lt hj)⟩
 obtain ⟨σ,h1,h2,_⟩:=ht.cr
 have h3:=Au h ht.lt
 have h4:ab d=ab (dc L.m (Y.M L) β):=by
  have h5:ab σ=1:=by
   have h6:ab σ*ab σ=1:=by rw[<-me,h1];rfl
   have h7:=bD σ
   have h8:ab σ<=1:=by
    apply Int.not_lt.1
    intro h9
    have:2*2<=ab σ*ab σ:=Int.mul_le_mul (by omega) (by omega) (by omega) h7
    omega
   have:ab σ≠0:=fun e=>by rw[e] at h6;simp at h6
   omega
  have h6:ab (σ*dc L.m (Y.M L) β)=ab d:=by rw[<-h2]
  rw[me,h5,Int.one_mul] at h6
  exact h6.symm
 rw[<-h4] at h3
 exact (sY.1 h3).2
end
theorem As {n:Nat} {A:Nat->Nat->Int} {i k:Nat} (hi:i<n) (hA:∀r,r<n->A r i=if r=k then 1 else 0):∀t,t<=n->det n A=det n (fun r c=>if r=k/\c≠i/\c<t then 0 else A r c)
 | 0,_=>eU fun r c _ _=>by rw[if_neg (by omega)]
 | t+1,ht=>by
  rw[As hi hA t (by omega)]
  obtain ⟨B,hB⟩:∃B:Nat->Nat->Int,B=fun r c=>if r=k/\c≠i/\c<t then 0 else A r c:=⟨_,rfl⟩
  rw[<-hB]
  by_cases e:t=i
  ·refine eU fun r c _ _=>?_
   rw[hB]
   by_cases c1:r=k/\c≠i/\c<t
   ·simp only
    rw[if_pos c1,if_pos ⟨c1.1,c1.2.1,by omega⟩]
   ·simp only
    rw[if_neg c1,if_neg (by omega)]
  ·have e1:det n B=det n (bR B t fun r=>(if r=k then 0 else A r t)+(A k t*if r=k then 1 else 0)):=by
    refine eU fun r c _ _=>?_
    unfold bR
    by_cases c1:c=t
    ·rw[if_pos c1,hB,c1]
     simp only
     rw[if_neg (by omega)]
     by_cases c2:r=k
     ·rw[if_pos c2,if_pos c2,c2];omega
     ·rw[if_neg c2,if_neg c2];omega
    ·rw[if_neg c1]
   rw[e1,kL (u:=fun r=>if r=k then 0 else A r t) (v:=fun r=>A k t*if r=k then 1 else 0) (by omega),lF (u:=fun r=>if r=k then (1:Int) else 0) (by omega)]
   have e2:det n (bR B t fun r=>if r=k then (1:Int) else 0)=0:=by
    refine j5 (show t<n by omega) hi e fun r hr=>?_
    unfold bR
    rw[if_pos rfl,if_neg (Ne.symm e),hB]
    simp only
    rw[if_neg (show ¬ (r=k/\i≠i/\i<t) from fun h=>h.2.1 rfl),hA r hr]
   rw[e2,Int.mul_zero,Int.add_zero]
   refine eU fun r c _ _=>?_
   unfold bR
   by_cases c1:c=t
   ·rw[if_pos c1,c1]
    simp only
    by_cases c2:r=k
    ·rw[if_pos c2,if_pos ⟨c2,e,by omega⟩]
    ·rw[if_neg c2,if_neg fun h=>c2 h.1]
   ·rw[if_neg c1,hB]
    by_cases c2:r=k/\c≠i/\c<t
    ·simp only
     rw[if_pos c2,if_pos ⟨c2.1,c2.2.1,by omega⟩]
    ·simp only
     rw[if_neg c2,if_neg (by omega)]
theorem Gy:∀{n k:Nat} {f:Nat->Int},k<n->f k*pz n (fun r=>if r=k then 1 else f r)=pz n f
 | 0,k,_,h=>by omega
 | n+1,k,f,h=>by
  simp only[pz]
  cases k with
  | zero =>
   rw[if_pos rfl,Int.one_mul]
   congr 1
  | succ k =>
   rw[if_neg (by omega)]
   have h1:=Gy (n:=n) (k:=k) (f:=fun i=>f (i+1)) (by omega)
   rw[<-h1]
   have e:(fun i=>if i+1=k+1 then (1:Int) else f (i+1))=fun r=>if r=k then 1 else f (r+1):=by
    funext r
    by_cases c:r=k
    ·rw[if_pos c,if_pos (by omega)]
    ·rw[if_neg c,if_neg (by omega)]
   rw[e]
   grind
section
variable {L:Lin} {Y:Lay}
theorem EP (h:Y.ok L) {T:Nat->Nat->Int} {d:Int} {β:Nat->Nat} (ht:Tb L.m (Y.w L) (Y.M L) T d β) {i k:Nat} (hi:i<L.m) (hk:k<L.m):L.F k*ab (T i (Y.N+k))<=L.P:=by
 have hw:Y.N+k<Y.w L:=by unfold Lay.w;omega
 have hF:=L.F_pos k
 rw[ht.bound hi hw]
 rcases Dl h (Hv ht.lt hw (r:=i)) with e | e
 ·have:=L.P_pos
  rw[e]
  simp[ab]
  omega
 ·have hcol:∀r,r<L.m->eX (Y.M L) (upd β i (Y.N+k)) r i=if r=k then 1 else 0:=fun r _=>by
   unfold eX upd
   rw[if_pos rfl,Lay.M_a h hk]
  have e1:dc L.m (Y.M L) (upd β i (Y.N+k))=_:=As hi hcol L.m (Nat.le_refl _)
  rw[e1]
  have e2:=sj (n:=L.m) (A:=fun r c=>if r=k/\c≠i/\c<L.m then 0 else eX (Y.M L) (upd β i (Y.N+k)) r c)
  have e3:pz L.m (fun r=>sz L.m fun c=>ab (if r=k/\c≠i/\c<L.m then 0 else eX (Y.M L) (upd β i (Y.N+k)) r c))<=pz L.m (fun r=>if r=k then 1 else L.F r):=DM fun r hr=>by
   refine ⟨gy fun _ _=>bD _,?_⟩
   by_cases c:r=k
   ·rw[if_pos c,eF hi fun l hl hne=>by rw[if_pos ⟨c,hne,hl⟩];rfl,if_neg (by simp),hcol i hi |>fun _=>hcol r hr,if_pos c]
    exact Int.le_refl _
   ·rw[if_neg c,bh (g:=fun p=>ab (Y.M L r (upd β i (Y.N+k) p))) fun l _=>by rw[if_neg fun h=>c h.1];rfl]
    exact e r hr
  have e4:=Int.le_trans e2 e3
  have e5:=Int.mul_le_mul_of_nonneg_left e4 (show 0<=L.F k by omega)
  have e6:L.F k*pz L.m (fun r=>if r=k then 1 else L.F r)=L.P:=Gy hk
  rw[e6] at e5
  exact e5
end
section
variable {α R:Type} {F:(α->Option R)->α->Option R}
theorem wT (n:Nat) (st:Nat->α) (r:Option R) (hb:∀again i,i<n->F again (st i)=again (st (i+1))) (hf:∀again,F again (st n)=r):∀(k i m:Nat),i+k=n->k<m->iJ F m (st i)=r
 | 0,i,m,h1,h2=>by
  obtain ⟨m,rfl⟩:∃m',m=m'+1:=⟨m - 1,by omega⟩
  rw[fZ,show i=n by omega,hf]
 | k+1,i,m,h1,h2=>by
  obtain ⟨m,rfl⟩:∃m',m=m'+1:=⟨m - 1,by omega⟩
  rw[fZ,hb _ _ (by omega)]
  exact wT n st r hb hf k (i+1) m (by omega) (by omega)
theorem nu (n:Nat) (hn:n<=1180591620717411303423) (st:Nat->α) (r:Option R) (hb:∀again i,i<n->F again (st i)=again (st (i+1))) (hf:∀again,F again (st n)=r):lpK α R F (st 0)=r :=
 wT n st r hb hf n 0 K0 (by omega) (by unfold K0;omega)
theorem cu {x:α} (n:Nat) (hn:n<=1180591620717411303423) (st:Nat->α) (r:Option R) (hx:x=st 0) (hb:∀again i,i<n->F again (st i)=again (st (i+1))) (hf:∀again,F again (st n)=r):lpK α R F x=r:=by
 rw[hx]
 exact nu n hn st r hb hf
theorem AD (I:α->Prop) (Q:R->Prop) (μ:α->Nat) (h:∀x,I x->(∃r,Q r/\∀rec,F rec x=some r)\/∃y,I y/\μ y<μ x/\∀rec,F rec x=rec y):∀(m:Nat) (x:α),I x->μ x<m->∃r,iJ F m x=some r/\Q r
 | 0,_,_,hm=>by omega
 | m+1,x,hx,hm=>by
  rw[fZ]
  rcases h x hx with ⟨r,h1,h2⟩ | ⟨y,h1,h2,h3⟩
  ·exact ⟨r,h2 _,h1⟩
  ·rw[h3]
   exact AD I Q μ h m y h1 (by omega)
theorem M7 (I:α->Prop) (Q:R->Prop) (μ:α->Nat) (h:∀x,I x->(∃r,Q r/\∀rec,F rec x=some r)\/∃y,I y/\μ y<μ x/\∀rec,F rec x=rec y) {x:α} (hx:I x) (hn:μ x<1180591620717411303424):∃r,lpK α R F x=some r/\Q r :=
 AD I Q μ h K0 x hx hn
theorem xo {γ:Type} (I:γ->α->Prop) (Q:R->Prop) (μ:γ->Nat) (h:∀s x,I s x->(∃r,Q r/\∀rec,F rec x=some r)\/∃s' y,I s' y/\μ s'<μ s/\∀rec,F rec x=rec y):∀(m:Nat) (s:γ) (x:α),I s x->μ s<m->∃r,iJ F m x=some r/\Q r
 | 0,_,_,_,hm=>by omega
 | m+1,s,x,hx,hm=>by
  rw[fZ]
  rcases h s x hx with ⟨r,h1,h2⟩ | ⟨s',y,h1,h2,h3⟩
  ·exact ⟨r,h2 _,h1⟩
  ·rw[h3]
   exact xo I Q μ h m s' y h1 (by omega)
theorem KP {γ:Type} (I:γ->α->Prop) (Q:R->Prop) (μ:γ->Nat) (h:∀s x,I s x->(∃r,Q r/\∀rec,F rec x=some r)\/∃s' y,I s' y/\μ s'<μ s/\∀rec,F rec x=rec y) {s:γ} {x:α} (hx:I s x) (hn:μ s<1180591620717411303424):∃r,lpK α R F x=some r/\Q r :=
 xo I Q μ h K0 s x hx hn
theorem xF {γ:Type} (I:γ->α->Prop) (Q:Option R->Prop) (μ:γ->Nat) (h:∀rec s x,I s x->Q (F rec x)\/∃s' y,I s' y/\μ s'<μ s/\F rec x=rec y):∀(m:Nat) (s:γ) (x:α),I s x->μ s<m->Q (iJ F m x)
 | 0,_,_,_,hm=>by omega
 | m+1,s,x,hx,hm=>by
  rw[fZ]
  rcases h (iJ F m) s x hx with h1 | ⟨s',y,h1,h2,h3⟩
  ·exact h1
  ·rw[h3]
   exact xF I Q μ h m s' y h1 (by omega)
theorem tY {γ:Type} (I:γ->α->Prop) (Q:Option R->Prop) (μ:γ->Nat) (h:∀rec s x,I s x->Q (F rec x)\/∃s' y,I s' y/\μ s'<μ s/\F rec x=rec y) {s:γ} {x:α} (hx:I s x) (hn:μ s<1180591620717411303424):Q (lpK α R F x) :=
 xF I Q μ h K0 s x hx hn
theorem H9 {x:α} (Q:Option R->Prop) (n:Nat) (hn:n<=1180591620717411303423) (st:Nat->α) (hx:x=st 0) (hb:∀again i,i<n->F again (st i)=again (st (i+1))) (hf:∀again,Q (F again (st n))):Q (lpK α R F x) :=
 tY (γ:=Nat) (fun i x=>i<=n/\x=st i) Q (fun i=>n - i) (fun rec i x ⟨h1,h2⟩=>by
  by_cases e:i=n
  ·subst h2;subst e;exact .inl (hf rec)
  ·exact .inr ⟨i+1,st (i+1),⟨by omega,rfl⟩,by omega,by rw[h2];exact hb rec i (by omega)⟩) (s:=0) ⟨by omega,hx⟩ (by omega)
end
theorem rB (n:Nat) (p:Nat->Bool):(∀j,j<n->p j=false)\/∃j,j<n/\p j=true/\∀i,i<j->p i=false:=by
 induction n with
 | zero=>exact .inl fun j hj=>by omega
 | succ n ih =>
  rcases ih with h | ⟨j,h1,h2,h3⟩
  ·cases hp:p n with
   | true=>exact .inr ⟨n,by omega,hp,h⟩
   | false =>
    refine .inl fun j hj=>?_
    by_cases e:j=n
    ·rw[e];exact hp
    ·exact h j (by omega)
  ·exact .inr ⟨j,by omega,h2,h3⟩
def bv {α:Type} (w:Nat) (f:Nat->α):List α:=(List.range w).map f
def qm (m w:Nat) (T:Nat->Nat->Int):List (List Int):=(List.range m).map fun i=>bv w (T i)
def dj (m w:Nat) (T:Nat->Nat->Int):List (Option (List Int)):=(List.range m).map fun i=>some (bv w (T i))
def ic (m w:Nat) (T:Nat->Nat->Int):List Nat×List (Option (List Int)):=(List.range m,dj m w T)
def io (m:Nat) (β:Nat->Nat):List Int:=bv m fun i=>(β i:Int)
section
variable {α:Type} {m w:Nat} {T T':Nat->Nat->Int}
theorem aR {f:Nat->α}:(bv w f).length=w:=by unfold bv;rw[List.length_map,List.length_range]
theorem bB {f:Nat->α} {d:α} {j:Nat} (h:j<w):(bv w f).getD j d=f j:=by
 unfold bv
 rw[aU (by rw[List.length_map,List.length_range];exact h),List.getElem_map,List.getElem_range]
theorem ue {f:Nat->α} {j:Nat} (h:j<(bv w f).length):(bv w f)[j]=f j :=
 (List.getElem_map f (l:=List.range w) (h:=h)).trans (congrArg f (List.getElem_range _))
theorem dz {f g:Nat->α} (h:∀j,j<w->f j=g j):bv w f=bv w g:=by
 unfold bv
 exact List.map_congr_left fun j hj=>h j (List.mem_range.1 hj)
theorem ka {f:Nat->α} {j:Nat} {x:α} (hj:j<w):(bv w f).set j x=bv w fun k=>if k=j then x else f k:=by
 refine List.ext_getElem (by rw[List.length_set,aR,aR]) fun i h1 h2=>?_
 have h3:i<w:=by rw[aR] at h2;exact h2
 rw[List.getElem_set,ue,ue]
 by_cases e:j=i
 ·rw[if_pos e,if_pos e.symm]
 ·rw[if_neg e,if_neg (Ne.symm e)]
theorem gn:(qm m w T).length=m:=by unfold qm;rw[List.length_map,List.length_range]
theorem mL {i:Nat} (h:i<m):(qm m w T).getD i []=bv w (T i):=by
 unfold qm
 rw[aU (by rw[List.length_map,List.length_range];exact h),List.getElem_map,List.getElem_range]
theorem mQ:(dj m w T).length=m:=by unfold dj;rw[List.length_map,List.length_range]
theorem fV:(ic m w T).1.length=m:=by unfold ic;exact List.length_range
theorem gq {i:Nat} (h:i<m):(ic m w T).1.getD i 0=i:=by
 unfold ic
 rw[aU (by rw[List.length_range];exact h),List.getElem_range]
theorem o6 {i:Nat} (h:i<m):(dj m w T).getD i none=some (bv w (T i)):=by
 unfold dj
 rw[aU (by rw[List.length_map,List.length_range];exact h),List.getElem_map,List.getElem_range]
theorem BQ {i:Nat} (h:i<(dj m w T).length):(dj m w T)[i]=some (bv w (T i)) :=
 (List.getElem_map (fun i=>some (bv w (T i))) (l:=List.range m) (h:=h)).trans (congrArg (fun i=>some (bv w (T i))) (List.getElem_range _))
theorem fS {i:Nat} (h:i<m):ah (dj m w T) i=bv w (T i):=by unfold ah;rw[o6 h];rfl
theorem r7 {i:Nat} (h:i<m):eJ (dj m w T) i=true:=by unfold eJ;rw[o6 h];rfl
theorem gT (h:∀i j,i<m->j<w->T i j=T' i j):dj m w T=dj m w T':=by
 unfold dj
 exact List.map_congr_left fun i hi=>by rw[dz fun j hj=>h i j (List.mem_range.1 hi) hj]
theorem iG (h:∀i j,i<m->j<w->T i j=T' i j):ic m w T=ic m w T':=by unfold ic;rw[gT h]
theorem Ap {i j:Nat} {x:Int} (hi:i<m) (hj:j<w):(dj m w T).set i (some ((bv w (T i)).set j x))=dj m w fun k l=>if k=i/\l=j then x else T k l:=by
 rw[ka hj]
 refine List.ext_getElem (by rw[List.length_set,mQ,mQ]) fun k h1 h2=>?_
 have h3:k<m:=by rw[mQ] at h2;exact h2
 rw[List.getElem_set,BQ,BQ]
 by_cases e:i=k
 ·subst e
  rw[if_pos rfl]
  congr 1
  refine dz fun l _=>?_
  simp
 ·rw[if_neg e]
  congr 1
  refine dz fun l _=>?_
  rw[if_neg fun h=>e h.1.symm]
theorem fI:((ic m w T).1.all fun x=>eJ (ic m w T).2 x)=true:=by
 rw[List.all_eq_true]
 intro i hi
 exact r7 (List.mem_range.1 hi)
theorem fL:(ic m w T).1.map (fun x=>ah (ic m w T).2 x)=qm m w T:=by
 unfold ic qm
 exact List.map_congr_left fun i hi=>fS (List.mem_range.1 hi)
theorem gt {β:Nat->Nat}:(io m β).length=m:=aR
theorem iW {β:Nat->Nat} {i:Nat} (h:i<m):(io m β).getD i 0=(β i:Int):=bB h
theorem GS {β:Nat->Nat} {r c:Nat} (h:r<m):(io m β).set r (c:Int)=io m (upd β r c):=by
 unfold io
 rw[ka h]
 refine dz fun k _=>?_
 unfold upd
 by_cases e:k=r
 ·rw[if_pos e,if_pos e]
 ·rw[if_neg e,if_neg e]
end
end Dn
end Go.Proofs.YtfknoaclabfdlaaGreat

namespace Go.Proofs.YtfknoaclabfdlaaGreat
noncomputable section
open Tryz Dn Dn.Sh
def bnS (s:Sy) (i:Nat):ByteArray:=(s.1.getD i bk0).1
def bwS (s:Sy) (i:Nat):Int:=(s.1.getD i bk0).2
def rnS (s:Sy) (k:Nat):ByteArray:=(s.2.getD k rp0).1
def hsS (s:Sy) (k:Nat):List Hd:=(s.2.getD k rp0).2.1
structure ValidS (s:Sy):Prop where
 bl:1<=s.1.length/\s.1.length<=6
 rl:1<=s.2.length/\s.2.length<=6
 inj:∀i j,i<s.1.length->j<s.1.length->bnS s i=bnS s j->i=j
 rinj:∀i j,i<s.2.length->j<s.2.length->rnS s i=rnS s j->i=j
 wt:∀i,i<s.1.length->0<=bwS s i/\bwS s i<=16777216
 hl:∀k,k<s.2.length->(hsS s k).length<=10
 pl:∀k h,k<s.2.length->h<(hsS s k).length-> -2<=((hsS s k).getD h hd0).2.1/\((hsS s k).getD h hd0).2.1<=2
theorem iC {n i:Nat} (h:i<n):i ∈ List.range' 0 n:=List.mem_range'.2 ⟨i,h,by omega⟩
theorem zI {s:Sy} {h:Hd} {e:Bool} (hh:qY s h e=true): -2<=h.2.1/\h.2.1<=2:=by
 unfold qY at hh
 rw[z10] at hh
 have h2:=hh.2
 cases he:sy h.1 with
 | true=>rw[he,cT,decide_eq_true_iff] at h2;omega
 | false =>
  rw[he,cF,z10] at h2
  have h3:=h2.2
  cases e with
  | true=>rw[cT,Bool.or_eq_true,decide_eq_true_iff,decide_eq_true_iff] at h3;omega
  | false=>rw[cF,Bool.or_eq_true,Bool.or_eq_true,decide_eq_true_iff,decide_eq_true_iff,decide_eq_true_iff] at h3;omega
theorem kN {l:List ByteArray} {i j:Nat} {d:ByteArray} (h1:i<j) (h2:j<=l.length):l.getD i d ∈ l.take j:=by
 rw[aU (by omega)]
 exact List.mem_take_iff_getElem.2 ⟨i,by omega,rfl⟩
theorem fN {s:Sy} (h:fj s=true):ValidS s:=by
 unfold fj at h
 rw[z10,z10,z10,decide_eq_true_iff,List.all_eq_true,List.all_eq_true] at h
 obtain ⟨⟨h1,h2,h3,h4⟩,hb,hr,_⟩:=h
 have hb':∀i,i<s.1.length->bnS s i ∉ (s.1.map (·.fst)).take i/\0<=bwS s i/\bwS s i<=16777216:=fun i hi=>by
  have:=hb i (iC hi)
  unfold u6 oz at this
  rw[z10,z10,z10,Bool.not_eq_true',A5,decide_eq_true_iff,decide_eq_true_iff] at this
  exact this.2
 have hr':∀i,i<s.2.length->rnS s i ∉ (s.2.map (·.fst)).take i/\wQ s (s.2.getD i rp0)=true:=fun i hi=>by
  have:=hr i (iC hi)
  unfold nN at this
  rw[z10,z10,Bool.not_eq_true',A5,List.mem_append] at this
  exact ⟨fun hm=>this.2.1 (.inr hm),this.2.2⟩
 have hro:∀k,k<s.2.length->(2<=(hsS s k).length/\(hsS s k).length<=10)/\∀i,i<(hsS s k).length->∃e,qY s ((hsS s k).getD i hd0) e=true:=fun k hk=>by
  have:=(hr' k hk).2
  unfold wQ at this
  rw[z10,z10,decide_eq_true_iff,List.all_eq_true] at this
  exact ⟨this.1,fun i hi=>⟨_,this.2.1 i (iC hi)⟩⟩
 refine ⟨⟨h1,h2⟩,⟨h3,h4⟩,fun i j hi hj he=>?_,fun i j hi hj he=>?_,fun i hi=>(hb' i hi).2,fun k hk=>(hro k hk).1.2,fun k h hk hh=>?_⟩
 ·have e1:∀k,k<s.1.length->(s.1.map (·.fst)).getD k bk0.1=bnS s k:=fun k hk=>po (f:=fun b:Bk=>b.1) (d:=bk0) hk bk0.1
  rcases Nat.lt_trichotomy i j with h | h | h
  ·exfalso
   apply (hb' j hj).1
   rw[<-he,<-e1 i hi]
   exact kN h (by rw[List.length_map];omega)
  ·exact h
  ·exfalso
   apply (hb' i hi).1
   rw[he,<-e1 j hj]
   exact kN h (by rw[List.length_map];omega)
 ·have e1:∀k,k<s.2.length->(s.2.map (·.fst)).getD k rp0.1=rnS s k:=fun k hk=>po (f:=fun b:Rp=>b.1) (d:=rp0) hk rp0.1
  rcases Nat.lt_trichotomy i j with h | h | h
  ·exfalso
   apply (hr' j hj).1
   rw[<-he,<-e1 i hi]
   exact kN h (by rw[List.length_map];omega)
  ·exact h
  ·exfalso
   apply (hr' i hi).1
   rw[he,<-e1 j hj]
   exact kN h (by rw[List.length_map];omega)
 ·obtain ⟨e,he⟩:=(hro k hk).2 h hh
  exact zI he
theorem Ey (s:Sy) (n:ByteArray):(fbI s n<0/\∀i,i<s.1.length->bnS s i≠n)\/∃i:Nat,i<s.1.length/\fbI s n=(i:Int)/\bnS s i=n:=by
 by_cases h:fbI s n<0
 ·refine .inl ⟨h,fun i hi he=>?_⟩
  have:=(qU (p:=fun b:Bk=>decide (b.1=n)) (l:=s.1) (i:=0) (by omega)).1 h (s.1.getD i bk0) (by rw[aU hi];exact List.getElem_mem _)
  exact of_decide_eq_false this he
 ·obtain ⟨_,h2,h3⟩:=xM (p:=fun b:Bk=>decide (b.1=n)) (d:=bk0) (l:=s.1) (i:=0) (by omega) (Int.not_lt.1 h)
  refine .inr ⟨(fbI s n).toNat,?_,?_,?_⟩
  ·unfold fbI;omega
  ·unfold fbI at h ⊢;omega
  ·have:=z12 h3
   rw[Int.sub_zero] at this
   exact this
theorem Fs (s:Sy) (n:ByteArray):(frI s n<0/\∀i,i<s.2.length->rnS s i≠n)\/∃i:Nat,i<s.2.length/\frI s n=(i:Int)/\rnS s i=n:=by
 by_cases h:frI s n<0
 ·refine .inl ⟨h,fun i hi he=>?_⟩
  have:=(qU (p:=fun b:Rp=>decide (b.1=n)) (l:=s.2) (i:=0) (by omega)).1 h (s.2.getD i rp0) (by rw[aU hi];exact List.getElem_mem _)
  exact of_decide_eq_false this he
 ·obtain ⟨_,h2,h3⟩:=xM (p:=fun b:Rp=>decide (b.1=n)) (d:=rp0) (l:=s.2) (i:=0) (by omega) (Int.not_lt.1 h)
  refine .inr ⟨(frI s n).toNat,?_,?_,?_⟩
  ·unfold frI;omega
  ·unfold frI at h ⊢;omega
  ·have:=z12 h3
   rw[Int.sub_zero] at this
   exact this
def ma (hs:List Hd) (n:ByteArray) (h:Nat):Int:=sz h fun t=>if (hs.getD t hd0).1=n then (hs.getD t hd0).2.1 else 0
def Mx (s:Sy) (i k:Nat):Int:=ma (hsS s k) (bnS s i) (hsS s k).length
theorem oI {hs:List Hd} {n:ByteArray} (hp:∀t,t<hs.length-> -2<=(hs.getD t hd0).2.1/\(hs.getD t hd0).2.1<=2):∀h,h<=hs.length-> -(2*(h:Int))<=ma hs n h/\ma hs n h<=2*(h:Int)
 | 0,_=>by simp[ma,sz]
 | h+1,hh=>by
  have:=oI (n:=n) hp h (by omega)
  have h2:=hp h (by omega)
  unfold ma at *
  simp only[sz]
  split<;>omega
theorem Af {s:Sy} (hv:ValidS s) (i:Nat) {k:Nat} (hk:k<s.2.length): -20<=Mx s i k/\Mx s i k<=20:=by
 have h1:=oI (n:=bnS s i) (hs:=hsS s k) (fun t ht=>hv.pl k t hk ht) _ (Nat.le_refl _)
 have h2:=hv.hl k hk
 unfold Mx
 omega
theorem dK {i:Nat} (h:i<=1000000):IntKind.wrap .i64 ((i:Int)+1)=((i+1:Nat):Int):=by rw[aW (by omega) (by omega)];rfl
def Fv (s:Sy):List (List Int):=qm s.1.length s.2.length (Mx s)
theorem qy {α:Type} {w:Nat} {f:Nat->α}:bv w f++[f w]=bv (w+1) f:=by
 unfold bv
 rw[List.range_succ,List.map_append]
 rfl
theorem AR {m w:Nat} {T:Nat->Nat->Int}:dj m w T++[some (bv w (T m))]=dj (m+1) w T:=by
 unfold dj
 rw[List.range_succ,List.map_append]
 rfl
def Nd (T:List Nat) (x0:Sy):Option (List (List Int)×Int×Unit) :=
 af (ay x0) fun (t:Bool)=>bif !t then some ([],(1:Int),PUnit.unit) else bif decide ((0:Int)<=(↑(List.length x0.1):Int))&&dx (Int.toNat (↑(List.length x0.1):Int)) (24:Nat) then lpK (Int×(List Nat×List (Option (List Int)))×PUnit) (List (List Int)×Int×PUnit) (fun (again:Int×(List Nat×List (Option (List Int)))×PUnit->Option (List (List Int)×Int×PUnit)) (x:Int×(List Nat×List (Option (List Int)))×PUnit)=>bif decide (x.1<(↑(List.length T):Int)) then bif decide ((0:Int)<=(↑(List.length x0.2):Int))&&dx (Int.toNat (↑(List.length x0.2):Int)) (8:Nat) then bif inB x.1 (List.length x.2.1.1) then bif Nat.ble (Nat.succ (Int.toNat x.1)) (List.length x.2.1.1) then again (IntKind.wrap .i64 (x.1+(1:Int)),(List.set x.2.1.1 (Int.toNat x.1) (List.length x.2.1.2),x.2.1.2++[some (List.replicate (Int.toNat (↑(List.length x0.2):Int)) (0:Int))]),PUnit.unit) else none else none else none else lpK (Int×(List Nat×List (Option (List Int)))×PUnit) (List (List Int)×Int×PUnit) (fun (again:Int×(List Nat×List (Option (List Int)))×PUnit->Option (List (List Int)×Int×PUnit)) (x:Int×(List Nat×List (Option (List Int)))×PUnit)=>bif decide (x.1<(↑(List.length x0.2):Int)) then bif inB x.1 (List.length x0.2) then lpK (Int×(List Nat×List (Option (List Int)))×PUnit) (List (List Int)×Int×PUnit) (fun (again_1:Int×(List Nat×List (Option (List Int)))×PUnit->Option (List (List Int)×Int×PUnit)) (x_1:Int×(List Nat×List (Option (List Int)))×PUnit)=>let v10:Int:=IntKind.wrap .i64 (x_1.1+(1:Int));let v11:(List Nat×List (Option (List Int)))×PUnit:=(x_1.2.1,PUnit.unit);let v12:ByteArray×Int×Int×Int:=List.getD (List.getD x0.2 (Int.toNat x.1) ({ data:={ toList:=[] } },[],false)).2.1 (Int.toNat x_1.1) ({ data:={ toList:=[] } },(0:Int),(0:Int),(0:Int));bif decide (x_1.1<(↑(List.length (List.getD x0.2 (Int.toNat x.1) ({ data:={ toList:=[] } },[],false)).2.1):Int)) then bif inB x_1.1 (List.length (List.getD x0.2 (Int.toNat x.1) ({ data:={ toList:=[] } },[],false)).2.1) then af (bO x0 v12.1) fun (t:Int)=>bif decide (t>=(0:Int)) then bif inB t (List.length x_1.2.1.1) then bif Nat.ble (Nat.succ (Int.toNat t)) (List.length x_1.2.1.1) then bif inB x.1 (List.length (ah x_1.2.1.2 (List.getD x_1.2.1.1 (Int.toNat t) (0:Nat)))) then bif Nat.ble (Nat.succ (Int.toNat x.1)) (List.length (ah x_1.2.1.2 (List.getD x_1.2.1.1 (Int.toNat t) (0:Nat)))) then bif inB x.1 (List.length (ah x_1.2.1.2 (List.getD x_1.2.1.1 (Int.toNat t) (0:Nat)))) then bif Nat.ble (Nat.succ (Int.toNat x.1)) (List.length (ah x_1.2.1.2 (List.getD x_1.2.1.1 (Int.toNat t) (0:Nat)))) then again_1 (v10,(x_1.2.1.1,List.set x_1.2.1.2 (List.getD x_1.2.1.1 (Int.toNat t) (0:Nat)) (some (List.set (ah x_1.2.1.2 (List.getD x_1.2.1.1 (Int.toNat t) (0:Nat))) (Int.toNat x.1) (IntKind.wrap .i64 (List.getD (ah x_1.2.1.2 (List.getD x_1.2.1.1 (Int.toNat t) (0:Nat))) (Int.toNat x.1) (0:Int)+v12.2.1))))),PUnit.unit) else none else none else none else none else none else none else again_1 (v10,v11) else none else again (IntKind.wrap .i64 (x.1+(1:Int)),v11)) ((0:Int),x.2.1,PUnit.unit) else none else bif List.all x.2.1.1 fun (x_1:Nat)=>eJ x.2.1.2 x_1 then some (List.map (fun (x_1:Nat)=>ah x.2.1.2 x_1) x.2.1.1,(0:Int),PUnit.unit) else none) ((0:Int),x.2.1,PUnit.unit)) ((0:Int),(T,List.replicate (Int.toNat (↑(List.length x0.1):Int)) (some [])),PUnit.unit) else none
theorem Dz (s:Sy):bn s=Nd (wx Sh.ref (0:Nat) (Int.toNat (↑(List.length s.1):Int)) 0) s:=by kernel_rfl
theorem vI:∀(n k:Nat),wx Sh.ref (0:Nat) n k=(List.range n).map fun i=>k+i
 | 0,_=>rfl
 | n+1,k=>by
  rw[List.range_succ_eq_map,List.map_cons,List.map_map]
  unfold wx
  rw[vI n (k+1)]
  have e:shS k Sh.ref (0:Nat)=k+0:=rfl
  rw[e]
  congr 1
  refine List.map_congr_left fun i _=>?_
  simp only[Function.comp]
  omega
def tN (m w:Nat) (T:Nat->Nat->Int):List Nat×List (Option (List Int)):=(bv m fun k=>m+k,List.replicate m (some [])++dj m w T)
theorem GH {n:Nat}:List.replicate n (0:Int)=bv n fun _=>0:=by
 unfold bv
 rw[List.map_const',List.length_range]
section
variable {m w:Nat} {T:Nat->Nat->Int}
theorem AF {i:Nat}:(List.replicate m (some ([]:List Int))++dj m w T).getD (m+i) none=(dj m w T).getD i none:=by
 rw[List.getD_eq_getElem?_getD,List.getD_eq_getElem?_getD,List.getElem?_append_right (by rw[List.length_replicate];omega),List.length_replicate,Nat.add_sub_cancel_left]
theorem zP {i:Nat} (h:i<m):ah (List.replicate m (some ([]:List Int))++dj m w T) (m+i)=bv w (T i):=by
 unfold ah
 rw[AF,o6 h]
 rfl
theorem Fn {i:Nat} (h:i<m):eJ (List.replicate m (some ([]:List Int))++dj m w T) (m+i)=true:=by
 unfold eJ
 rw[AF,o6 h]
 rfl
theorem IH {i j:Nat} {x:Int} (hi:i<m) (hj:j<w):(List.replicate m (some ([]:List Int))++dj m w T).set (m+i) (some ((bv w (T i)).set j x))=List.replicate m (some [])++dj m w fun k l=>if k=i/\l=j then x else T k l:=by
 rw[List.set_append_right _ _ (by rw[List.length_replicate];omega),List.length_replicate,Nat.add_sub_cancel_left,Ap hi hj]
end
theorem Dy {s:Sy} (h:fj s=true):bn s=some (Fv s,0,()):=by
 have hv:=fN h
 have hb:=hv.bl
 have hr:=hv.rl
 have hf:=fun n=>Ao s n (show s.1.length<=1000000 by omega)
 rw[Dz,vI]
 simp only[Nd,pv,h,aa,Bool.not_true,cF,z9,List.length_map,List.length_range,z7 (show (0:Int)<=(s.1.length:Nat) by omega),z7 (show (0:Int)<=(s.2.length:Nat) by omega),
  eL (show s.1.length*24<=140737488355328 by omega),eL (show s.2.length*8<=140737488355328 by omega),Bool.and_self,cT]
 obtain ⟨m,hm⟩:∃m,m=s.1.length:=⟨_,rfl⟩
 obtain ⟨w,hw⟩:∃w,w=s.2.length:=⟨_,rfl⟩
 rw[<-hm] at hb ⊢
 rw[<-hw] at hr ⊢
 refine cu m (by omega) (fun i=>((i:Int),(bv m (fun k=>if k<i then m+k else k),List.replicate m (some [])++dj i w fun _ _=>0),PUnit.unit)) _ ?_ (fun again i hi=>?_) (fun again=>?_)
 ·have e:(List.range m).map (fun i=>0+i)=bv m (fun k=>if k<0 then m+k else k):=dz (f:=fun i=>0+i) fun k _=>by rw[if_neg (by omega),Nat.zero_add]
  rw[e]
  show _=((0:Int),(_,List.replicate m (some ([]:List Int))++[]),PUnit.unit)
  rw[List.append_nil]
 ·simp only[aZ,aR,z7 hi,z7 (show (i:Int)<m by omega),cT,z9,cM (show i.succ<=m by omega),dK (show i<=1000000 by omega)]
  refine congrArg again ?_
  refine congrArg (fun p=>(((i+1:Nat):Int),p,PUnit.unit)) ?_
  rw[ka hi,List.length_append,List.length_replicate,mQ,GH,List.append_assoc,AR]
  refine congrArg (fun l=>(l,_)) ?_
  refine dz fun k _=>?_
  by_cases c:k=i
  ·rw[if_pos c,if_pos (by omega)];omega
  ·rw[if_neg c]
   by_cases c2:k<i
   ·rw[if_pos c2,if_pos (by omega)]
   ·rw[if_neg c2,if_neg (by omega)]
 ·simp only[z8 (show ¬ (m:Int)<m by omega),cF]
  refine cu w (by omega) (fun k=>((k:Int),tN m w (fun i j=>if j<k then Mx s i j else 0),PUnit.unit)) _ ?_ (fun again k hk=>?_) (fun again=>?_)
  ·refine congrArg (fun p=>((0:Int),p,PUnit.unit)) ?_
   unfold tN
   refine Prod.ext (dz fun k hk=>by rw[if_pos hk]) ?_
   simp only
   rw[gT fun i j _ _=>(if_neg (show ¬ j<0 by omega)).symm]
  ·have hwk:k<s.2.length:=by omega
   have hpl:=fun t ht=>hv.pl k t hwk ht
   have hhl:=hv.hl k hwk
   have hpb:=fun n=>oI (n:=n) (hs:=hsS s k) hpl
   simp only[aZ,z7 hk,z7 (show (k:Int)<w by omega),cT,z9,dK (show k<=1000000 by omega),show (List.getD s.2 k ({ data:={ toList:=[] } },[],false)).2.1=hsS s k from rfl]
   refine cu (hsS s k).length (by omega) (fun t=>((t:Int),tN m w (fun i j=>if j<k then Mx s i j else if j=k then ma (hsS s k) (bnS s i) t else 0),PUnit.unit)) _ ?_ (fun again1 t ht=>?_) (fun again1=>?_)
   ·refine congrArg (fun p=>((0:Int),p,PUnit.unit)) ?_
    unfold tN
    refine congrArg (fun c=>(_,List.replicate m (some ([]:List Int))++c)) (gT fun i j _ _=>?_)
    by_cases c1:j<k
    ·rw[if_pos c1,if_pos c1]
    ·rw[if_neg c1,if_neg c1]
     split<;>rfl
   ·obtain ⟨hd,hhd⟩:∃hd,hd=(hsS s k).getD t hd0:=⟨_,rfl⟩
    have hpt:=hpl t ht
    simp only[aZ,z7 ht,z7 (show (t:Int)<(hsS s k).length by omega),cT,z9,dK (show t<=1000000 by omega),show List.getD (hsS s k) t ({ data:={ toList:=[] } },(0:Int),(0:Int),(0:Int))=(hsS s k).getD t hd0 from rfl,hf,aa]
    rw[<-hhd] at hpt ⊢
    have estep:∀n,ma (hsS s k) n (t+1)=ma (hsS s k) n t+if hd.1=n then hd.2.1 else 0:=fun n=>by rw[hhd];rfl
    rcases Ey s hd.1 with ⟨h1,h2⟩ | ⟨i0,h1,h2,h3⟩
    ·rw[z8 (show ¬ fbI s hd.1>=0 by omega),cF]
     refine congrArg again1 ?_
     refine congrArg (fun p=>(((t+1:Nat):Int),p,PUnit.unit)) ?_
     unfold tN
     refine congrArg (fun c=>(_,List.replicate m (some ([]:List Int))++c)) (gT fun i j hi _=>?_)
     have e:ma (hsS s k) (bnS s i) (t+1)=ma (hsS s k) (bnS s i) t:=by
      rw[estep,if_neg fun e=>h2 i (by omega) e.symm,Int.add_zero]
     rw[e]
    ·have hi0:i0<m:=by omega
     have hTl:(bv m fun k=>m+k).getD i0 0=m+i0:=bB hi0
     have hrow:=zP (w:=w) (T:=fun i j=>if j<k then Mx s i j else if j=k then ma (hsS s k) (bnS s i) t else 0) hi0
     have hget:(bv w fun j=>if j<k then Mx s i0 j else if j=k then ma (hsS s k) (bnS s i0) t else 0).getD k 0=ma (hsS s k) (bnS s i0) t:=by
      rw[bB hk,if_neg (by omega),if_pos rfl]
     have hb1:=hpb (bnS s i0) t (by omega)
     simp only[h2,z7 (show (i0:Int)>=0 by omega),cT,z9]
     unfold tN
     simp only[aZ,aR,z7 hi0,cT,hTl,hrow,z7 hk,cM (show k.succ<=w by omega),cM (show i0.succ<=m by omega),hget]
     rw[aW (by omega) (by omega),IH (T:=fun i j=>if j<k then Mx s i j else if j=k then ma (hsS s k) (bnS s i) t else 0) hi0 hk]
     refine congrArg again1 ?_
     refine congrArg (fun c=>(((t+1:Nat):Int),(_,List.replicate m (some ([]:List Int))++c),PUnit.unit)) (gT fun i j hi _=>?_)
     by_cases c1:j=k
     ·subst c1
      by_cases c2:i=i0
      ·subst c2
       rw[if_pos ⟨rfl,rfl⟩,if_neg (by omega),if_pos rfl,estep,if_pos h3.symm]
      ·rw[if_neg fun e=>c2 e.1,if_neg (by omega),if_pos rfl,if_neg (by omega),if_pos rfl,estep,if_neg,Int.add_zero]
       intro e
       exact c2 (hv.inj i i0 (by omega) h1 (by rw[h3,e]))
     ·rw[if_neg fun e=>c1 e.2,if_neg c1,if_neg c1]
   ·simp only[z8 (show ¬ ((hsS s k).length:Int)<(hsS s k).length by omega),cF]
    refine congrArg again ?_
    refine congrArg (fun p=>(((k+1:Nat):Int),p,PUnit.unit)) ?_
    unfold tN
    refine congrArg (fun c=>(_,List.replicate m (some ([]:List Int))++c)) (gT fun i j _ _=>?_)
    by_cases c1:j<k
    ·rw[if_pos c1,if_pos (by omega)]
    ·rw[if_neg c1]
     by_cases c2:j=k
     ·subst c2
      rw[if_pos rfl,if_pos (by omega)]
      rfl
     ·rw[if_neg c2,if_neg (by omega)]
  ·simp only[z8 (show ¬ (w:Int)<w by omega),cF]
   have hall:((tN m w fun i j=>if j<w then Mx s i j else 0).1.all fun x=>eJ (tN m w fun i j=>if j<w then Mx s i j else 0).2 x)=true:=by
    rw[List.all_eq_true]
    intro x hx
    obtain ⟨i,hi,rfl⟩:=List.mem_map.1 hx
    exact Fn (List.mem_range.1 hi)
   have hmap:(tN m w fun i j=>if j<w then Mx s i j else 0).1.map (fun x=>ah (tN m w fun i j=>if j<w then Mx s i j else 0).2 x)=Fv s:=by
    unfold Fv qm
    rw[<-hm,<-hw]
    unfold tN bv
    rw[List.map_map]
    refine List.map_congr_left fun i hi=>?_
    have:=zP (w:=w) (T:=fun i j=>if j<w then Mx s i j else 0) (List.mem_range.1 hi)
    exact this.trans (dz fun j hj=>if_pos hj)
   rw[hall,hmap,cT]
theorem H6 {s:Sy} (h:fj s=false):bn s=some ([],1,()):=by
 rw[Dz]
 simp only[Nd,pv,h,aa,Bool.not_false,cT]
def eh:List Int->List Fq->Rat->Option Rat
 | n ::l,a ::x,s=>if cD ((n:Rat)*qv a)/\cD (s+(n:Rat)*qv a) then eh l x (s+(n:Rat)*qv a) else none
 | _,_,s=>some s
def N0 {R:Type} (o:Option Rat) (bad:Option R) (good:Rat->Option R):Option R:=match o with
 | some q=>good q
 | none=>bad
theorem zw {σ R:Type} {l:List Int} {x:List Fq} (hl:l.length<=x.length) {b:Nat->σ->(σ->Option R)->Option R} {f:σ->Option R} {cur:σ->Rat} {bad:Option R} {good:Rat->Option R}
  (nx:∀i s,cD (cur s+((l.getD i 0:Int):Rat)*qv (x.getD i (0,0)))->σ) (hnx:∀i s h,cur (nx i s h)=cur s+((l.getD i 0:Int):Rat)*qv (x.getD i (0,0)))
  (hb:∀i s k,i<l.length->b i s k=if h:cD (((l.getD i 0:Int):Rat)*qv (x.getD i (0,0)))/\cD (cur s+((l.getD i 0:Int):Rat)*qv (x.getD i (0,0))) then k (nx i s h.2) else bad)
  (hf:∀s,f s=good (cur s)):∀(k i:Nat) (s:σ),i+k=l.length->upF b f k i s=N0 (eh (l.drop i) (x.drop i) (cur s)) bad good
 | 0,i,s,h=>by
  rw[List.drop_eq_nil_of_le (by omega)]
  exact hf s
 | k+1,i,s,h=>by
  have h1:i<l.length:=by omega
  have h2:i<x.length:=by omega
  have e1:l.getD i 0=l[i]:=aU h1
  have e2:x.getD i (0,0)=x[i]:=aU h2
  simp only[upF]
  rw[hb i s _ h1,List.drop_eq_getElem_cons h1,List.drop_eq_getElem_cons h2,eh,<-e1,<-e2]
  split
  ·rw[zw hl nx hnx hb hf k (i+1) _ (by omega),hnx]
  ·rfl
theorem obN {T R:Type} {t:T} {k:T->Option R}:af (some t) k=k t:=id rfl
theorem Mr {l:List Int} {x:List Fq} {e:Int} (hl:l.length<=x.length) (h0:l.length<=1000000) (hc:∀n ∈ l,-1152921504606846976<=n/\n<=1152921504606846976) (hx:∀a ∈ x,okF a) :
  bP e l x=N0 (eh l x 0) (some (5,(0,1))) fun q=>some (e,prQ q):=by
 simp only[bP,iZ]
 refine (lO (α:=Int×Int×Fq×Fq×PUnit) l.length (by omega) (fun i (s:Fq×{q:Rat // cD q})=>((i:Int),e,s.1,prQ s.2.1,PUnit.unit))
  (fun i s k=>if h:cD (((l.getD i 0:Int):Rat)*qv (x.getD i (0,0)))/\cD (s.2.1+((l.getD i 0:Int):Rat)*qv (x.getD i (0,0))) then k (s.1,⟨_,h.2⟩) else some (5,(0,1))) (fun s=>some (e,prQ s.2.1)) ?_ ?_ ((0,0),⟨0,by decide⟩)).trans ?_
 ·intro again i s hi
  have hw:IntKind.wrap .i64 ((i:Int)+1)=((i+1:Nat):Int):=by rw[aW (by omega) (by omega)];rfl
  obtain ⟨w,q,hq⟩:=s
  have hn:l.getD i 0 ∈ l:=by rw[aU hi];exact List.getElem_mem _
  have ha:okF (x.getD i (0,0)):=by rw[aU (show i<x.length by omega)];exact hx _ (List.getElem_mem _)
  have hm:=H5 (tR (hc _ hn).1 (hc _ hn).2) ha
  rw[zq] at hm
  simp only[aZ,z7 hi,z7 (show i<x.length by omega),z7 (show (i:Int)<l.length by omega),cT,z9,hw,oZ,hm,aa]
  generalize l.getD i 0=n at *
  generalize x.getD i (0,0)=a at *
  rcases iH ((n:Rat)*qv a) with ⟨f1,e1⟩ | ⟨f1,e1⟩
  ·have hA:=zE (gW hq) (gW f1)
   rw[jR,jR] at hA
   simp only[e1,decide_true,cT,hA,aa]
   rcases iH (q+(n:Rat)*qv a) with ⟨f2,e2⟩ | ⟨f2,e2⟩
   ·rw[dif_pos ⟨f1,f2⟩]
    simp only[e2,decide_true,Bool.not_true,cF]
   ·rw[dif_neg fun h=>f2 h.2]
    simp only[e2]
    rfl
  ·rw[dif_neg fun h=>f1 h.1]
   simp only[e1]
   rfl
 ·intro again s
  simp only[z8 (show ¬ (l.length:Int)<l.length by omega),cF]
 ·exact zw (cur:=fun s:Fq×{q:Rat // cD q}=>s.2.1) (bad:=some (5,(0,1))) (good:=fun q=>some (e,prQ q)) hl (fun i s h=>(s.1,⟨_,h⟩)) (fun _ _ _=>rfl) (fun _ _ _ _=>rfl) (fun _=>rfl) l.length 0 ((0,0),⟨0,by decide⟩) (by omega)
theorem sO:∀{l:List Int} {x:List Fq} {s q:Rat},cD s->eh l x s=some q->cD q
 | [],_,s,q,hs,h=>by
  unfold eh at h
  injection h with h
  rw[<-h];exact hs
 | _ ::_,[],s,q,hs,h=>by
  unfold eh at h
  injection h with h
  rw[<-h];exact hs
 | n ::l,a ::x,s,q,hs,h=>by
  unfold eh at h
  split at h
  ·rename_i hh
   exact sO hh.2 h
  ·cases h
theorem LU {n:Int} (h:inC n=true): -1152921504606846976<=n/\n<=1152921504606846976:=by
 have:=z12 h
 omega
theorem J2 {n:Int} (h:inR n=true): -1152921504606846976<=n/\n<=1152921504606846976:=by
 have:=z12 h
 omega
structure ValidP (p:Pg):Prop where
 cost:1<=p.1.length/\p.1.length<=12
 rows:p.2.length<=6
 cs:∀n ∈ p.1,inC n=true
 len:∀r ∈ p.2,r.1.length=p.1.length
 kind:∀r ∈ p.2,1<=r.2.1/\r.2.1<=3
 right:∀r ∈ p.2,inR r.2.2=true
 coefs:∀r ∈ p.2,∀n ∈ r.1,inC n=true
theorem gM {p:Pg}:nH p=true↔ValidP p:=by
 unfold nH Jy
 rw[z10,z10,decide_eq_true_iff,List.all_eq_true,List.all_eq_true]
 constructor
 ·rintro ⟨⟨h1,h2,h3⟩,h4,h5⟩
  have h6:∀r ∈ p.2,r.1.length=p.1.length/\(1<=r.2.1/\r.2.1<=3)/\inR r.2.2=true/\∀n ∈ r.1,inC n=true:=fun r hr=>by
   have:=h5 r hr
   unfold tz at this
   rw[z10,z10,z10,decide_eq_true_iff,decide_eq_true_iff,List.all_eq_true] at this
   exact this
  exact ⟨⟨h1,h2⟩,h3,h4,fun r hr=>(h6 r hr).1,fun r hr=>(h6 r hr).2.1,fun r hr=>(h6 r hr).2.2.1,fun r hr=>(h6 r hr).2.2.2⟩
 ·rintro ⟨h1,h2,h3,h4,h5,h6,h7⟩
  refine ⟨⟨h1.1,h1.2,h2⟩,h3,fun r hr=>?_⟩
  unfold tz
  rw[z10,z10,z10,decide_eq_true_iff,decide_eq_true_iff,List.all_eq_true]
  exact ⟨h4 r hr,h5 r hr,h6 r hr,h7 r hr⟩
theorem Kl {a:Fq} {n:Int} (ha:okF a) (hn: -1152921504606846976<=n/\n<=1152921504606846976):eT a n=some (pM (qv a) (n:Rat)):=by
 have h:=B6 ha (tR hn.1 hn.2)
 rw[zq] at h
 simp only[eT,mo,h,aa]
theorem yn {l:List Int} {x:List Fq}:cD ((eh l x 0).getD 0):=by
 cases h:eh l x 0 with
 | none=>decide
 | some q=>exact sO (by decide) h
theorem N9 {l:List Int} {x:List Fq} {e:Int} (hl:l.length<=x.length) (h0:l.length<=1000000) (hc:∀n ∈ l,inC n=true) (hx:∀a ∈ x,okF a) :
  bP e l x=some (bif (eh l x 0).isSome then e else 5,prQ ((eh l x 0).getD 0)):=by
 rw[Mr hl h0 (fun n hn=>LU (hc n hn)) hx]
 cases eh l x 0<;>rfl
def H8 (p:Pg) (x:List Fq):Bool:=p.2.all fun r=>(eh r.1 x 0).isSome
end
end Go.Proofs.YtfknoaclabfdlaaGreat

namespace Go.Proofs.YtfknoaclabfdlaaGreat
open Tryz Dn Dn.Sh
def Pb (s:Sy):List Int:=bv s.1.length (bwS s)
theorem KF {s:Sy} (h:fj s=true):cl s=some (Pb s,0,()):=by
 have hv:=fN h
 have hb:=hv.bl
 simp only[cl,jd,pv,h,aa,Bool.not_true,cF]
 refine cu s.1.length (by omega) (fun i=>(bv i (bwS s),(i:Int),PUnit.unit)) _ rfl (fun again i hi=>?_) (fun again=>?_)
 ·simp only[aZ,z7 hi,z7 (show (i:Int)<s.1.length by omega),cT,z9,aR,eL (show (i+1)*8<=140737488355328 by omega),dK (show i<=1000000 by omega),show (List.getD s.1 i ({ data:={ toList:=[] } },(0:Int))).2=bwS s i from rfl,qy]
 ·simp only[z8 (show ¬ (s.1.length:Int)<s.1.length by omega),cF]
  rfl
def lG (s:Sy) (i:Nat):Rw:=(bv s.2.length (Mx s i),(3:Int),bwS s i)
def cJ (s:Sy) (c:List Int):Pg:=(c,bv s.1.length (lG s))
theorem zK {s:Sy} (h:fj s=true) (c:List Int):cA s c=some (cJ s c,0,()):=by
 have hv:=fN h
 have hb:=hv.bl
 unfold cA nt
 rw[Dy h,aa,KF h,aa]
 refine (cF _ _).trans ((cF _ _).trans ?_)
 unfold Fv Pb
 refine cu s.1.length (by omega) (fun i=>((i:Int),c,bv i (lG s),PUnit.unit)) _ rfl (fun again i hi=>?_) (fun again=>?_)
 ·simp only[aZ,gn,aR,z7 hi,z7 (show (i:Int)<s.1.length by omega),cT,z9,eL (show (i+1)*40<=140737488355328 by omega),dK (show i<=1000000 by omega),mL hi,bB hi]
  rw[show (bv s.2.length (Mx s i),(3:Int),bwS s i)=lG s i from rfl,qy]
 ·simp only[gn,z8 (show ¬ (s.1.length:Int)<s.1.length by omega),cF]
  rfl
def fg (s:Sy):List Int:=List.replicate s.2.length 1
def fP (s:Sy) (k:Nat) (c:Int):List Int:=(List.replicate s.2.length 0).set k c
theorem xP {s:Sy} {k:Nat} (h:fj s=true) (hk:k<s.2.length) (c:Int):cW s (k:Int) c=some (cJ s (fP s k c),0,()):=by
 have hr:=(fN h).rl
 simp only[cW,oY,z9,z7 (show (0:Int)<=(s.2.length:Nat) by omega),eL (show s.2.length*8<=140737488355328 by omega),Bool.and_self,cT,aZ,z7 hk,cM (show k.succ<=s.2.length by omega)]
 rw[show List.set (List.replicate s.2.length (0:Int)) k c=fP s k c from rfl,zK h]
 rfl
theorem La (z:Int) {n:Nat} (hn:n<=1000000):cg [z] (n:Int)=some (List.replicate n z):=by
 have hm:gl (IntKind.wrap .u64 ((List.length [z]:Nat):Int)) (IntKind.wrap .u64 (n:Int))=some (0,(n:Int),()):=by
  simp only[gl,qC]
  rw[bi (by simp) (by simp),bi (by omega) (by omega),Nu (by simp) (by simp) (by omega) (by omega),aa]
  simp only[List.length_singleton]
  congr 1
  refine Prod.ext ?_ (Prod.ext ?_ rfl)
  ·show ((1:Nat):Int)*n / 18446744073709551616=0
   omega
  ·show ((1:Nat):Int)*n % 18446744073709551616=n
   omega
 have hw:IntKind.wrap .i64 (n:Int)=(n:Int):=aW (by omega) (by omega)
 simp only[cg,iB,jnT]
 rw[z8 (show ¬ (n:Int)<0 by omega),cF,hm,aa]
 have h63:decide ((n:Int)>9223372036854775807)=false:=z8 (by omega)
 have hz0:decide ((0:Int)>0)=false:=rfl
 have hz1:decide ((0:Int)<=(n:Int))=true:=z7 (by omega)
 have hfb:dx n 8=true:=eL (by omega)
 simp only[hw,hz0,h63,hz1,z9,hfb,Bool.not_false,Bool.not_true,Bool.or_true,Bool.and_self,cT,cF,List.drop_zero,List.take_zero,List.nil_append]
 refine rK (g:=fun _=>some (List.replicate n z)) (I:=fun (x:Int×List Int×PUnit)=>∃c:Nat,x.1=c/\c<=n/\(0<n->0<c)/\x.2.1.length=n/\x.2.1.take c=List.replicate c z) (μ:=fun (x:Int×List Int×PUnit)=>n - x.1.toNat) ?_ ?_ (by simp only;omega)
 ·rintro ⟨i,row,_⟩ rec ⟨c,h1,h2,h3,h4,h5⟩ hrec
  simp only at h1 h4 h5 hrec ⊢
  subst h1
  simp only[z9,h4]
  by_cases hc:c<n
  ·have hl:(List.take (n - c) (List.take c row)).length=min (n - c) c:=by rw[List.length_take,List.length_take,h4];omega
   rw[z7 (show (c:Int)<n by omega),cT,JY (by omega) (by omega) (by omega),JY (by omega) (by omega) (by omega),cM (by omega),cM (Nat.le_refl n)]
   simp only[Bool.and_self,cT]
   rw[aW (by omega) (by omega)]
   refine hrec _ ⟨c+min (n - c) c,?_,by omega,by omega,?_,?_⟩ ?_
   ·simp only;rw[hl];omega
   ·simp only[List.length_append,List.length_drop,hl,h4,List.length_take];omega
   ·simp only
    rw[List.take_append_of_le_length (by rw[List.length_append,hl,List.length_take,h4];omega),h5,List.take_replicate,List.replicate_append_replicate,List.take_replicate]
    congr 1
    omega
   ·simp only;rw[hl];omega
  ·have:c=n:=by omega
   subst this
   rw[z8 (show ¬ (c:Int)<c by omega),cF]
   rw[<-h5,List.take_of_length_le (by omega)]
 ·refine ⟨(List.take n [z]).length,rfl,by rw[List.length_take];omega,fun h=>by rw[List.length_take];simp;omega,?_,?_⟩
  ·simp only[List.length_append,List.length_drop,List.length_replicate,List.length_take,List.length_singleton];omega
  ·simp only
   rcases Nat.eq_zero_or_pos n with h | h
   ·subst h;rfl
   ·obtain ⟨m,rfl⟩:∃m,n=m+1:=⟨n - 1,by omega⟩
    simp
theorem uv {s:Sy} (h:fj s=true):aF s=some (cJ s (fg s),0,()):=by
 have hr:=(fN h).rl
 simp only[aF,kB,La 1 (show s.2.length<=1000000 by omega),aa]
 rw[show List.replicate s.2.length (1:Int)=fg s from rfl,zK h]
 rfl
theorem rF {α:Type} {n:Nat} {f:Nat->α} {a:α}:a ∈ bv n f↔∃i,i<n/\f i=a:=by
 unfold bv
 rw[List.mem_map]
 exact ⟨fun ⟨i,h1,h2⟩=>⟨i,List.mem_range.1 h1,h2⟩,fun ⟨i,h1,h2⟩=>⟨i,List.mem_range.2 h1,h2⟩⟩
theorem BJ {s:Sy} (hv:ValidS s) {c:List Int} (hl:c.length=s.2.length) (hc:∀n ∈ c,inC n=true):ValidP (cJ s c):=by
 have hb:=hv.bl
 have hr:=hv.rl
 refine ⟨⟨by show 1<=c.length;omega,by show c.length<=12;omega⟩,?_,hc,fun r h=>?_,fun r h=>?_,fun r h=>?_,fun r h n hn=>?_⟩
 ·show (bv s.1.length (lG s)).length<=6
  rw[aR];omega
 all_goals
  obtain ⟨i,hi,rfl⟩:=rF.1 h
 ·show (bv s.2.length (Mx s i)).length=c.length
  rw[aR,hl]
 ·exact ⟨by show (1:Int)<=3;omega,by show (3:Int)<=3;omega⟩
 ·have:=hv.wt i hi
  exact z7 (by show -1073741824<=bwS s i/\bwS s i<=1073741824;omega)
 ·obtain ⟨k,hk,rfl⟩:=rF.1 hn
  have:=Af hv i hk
  exact z7 (by omega)
theorem JD {s:Sy} (hv:ValidS s):ValidP (cJ s (fg s)):=BJ hv (by unfold fg;rw[List.length_replicate]) fun n hn=>by
 rw[(List.mem_replicate.1 hn).2];rfl
theorem fU {s:Sy} {k:Nat} {c:Int}:(fP s k c).length=s.2.length:=by unfold fP;rw[List.length_set,List.length_replicate]
theorem pk {s:Sy} {k j:Nat} {c:Int} (hj:j<s.2.length):(fP s k c).getD j 0=if k=j then c else 0:=by
 unfold fP
 rw[aU (by rw[List.length_set,List.length_replicate];exact hj),List.getElem_set]
 split
 ·rfl
 ·exact List.getElem_replicate _
theorem Bm {s:Sy} (hv:ValidS s) {k:Nat} {c:Int} (hc:inC c=true):ValidP (cJ s (fP s k c)):=BJ hv fU fun n hn=>by
 unfold fP at hn
 rcases List.mem_or_eq_of_mem_set hn with h | h
 ·rw[(List.mem_replicate.1 h).2];rfl
 ·rw[h];exact hc
def jQ (s:ByteArray):Bool:=!decide ((s.size:Int)>60)
def m8 (s:Sy):Bool:=decide (s.1.length<=9/\s.2.length<=9)&&(s.1.all (fun b=>jQ b.1)&&s.2.all (fun r=>jQ r.1&&(!decide ((r.2.1.length:Int)>13)&&r.2.1.all fun h=>jQ h.1)))
theorem ED (s:Sy):eQ s=some (m8 s):=by
 obtain ⟨bs,rs⟩:=s
 simp only[eQ,mr,m8]
 by_cases h0:bs.length<=9/\rs.length<=9
 ·rw[z7 h0,z8 (show ¬ (bs.length:Int)>9 by omega),z8 (show ¬ (rs.length:Int)>9 by omega)]
  simp only[Bool.not_false,Bool.not_true,Bool.or_true,cT,cF,Bool.true_and]
  refine (pA (p:=fun b:Bk=>jQ b.1) (d:=bk0) (l:=bs) (no:=some false) (yes:=some (rs.all (fun r=>jQ r.1&&(!decide ((r.2.1.length:Int)>13)&&r.2.1.all fun h=>jQ h.1)))) (by omega) ?_ ?_).trans ?_
  ·intro again i hi
   simp only[aZ,z7 hi,z7 (show (i:Int)<bs.length by omega),cT,z9,dK (show i<=1000000 by omega),jQ]
   generalize decide ((((bs.getD i bk0).1.size:Nat):Int)>60)=g
   cases g<;>rfl
  ·intro again
   simp only[z8 (show ¬ (bs.length:Int)<bs.length by omega),cF]
   refine (pA (p:=fun r:Rp=>jQ r.1&&(!decide ((r.2.1.length:Int)>13)&&r.2.1.all fun h=>jQ h.1)) (d:=rp0) (l:=rs) (no:=some false) (yes:=some true) (by omega) ?_ ?_).trans ?_
   ·intro again i hi
    simp only[aZ,z7 hi,z7 (show (i:Int)<rs.length by omega),cT,z9,dK (show i<=1000000 by omega)]
    simp only[jQ]
    generalize decide ((((rs.getD i rp0).1.size:Nat):Int)>60)=g1
    by_cases g:((rs.getD i rp0).2.1.length:Int)>13
    ·rw[z7 g]
     cases g1<;>rfl
    ·rw[z8 g]
     cases g1 with
     | true=>rfl
     | false =>
      simp only[Bool.not_true,Bool.not_false,Bool.or_true,Bool.and_self,Bool.true_and,cT,cF]
      refine pA (p:=fun h:Hd=>!decide (((h.1.size:Nat):Int)>60)) (d:=hd0) (l:=(rs.getD i rp0).2.1) (by omega) ?_ ?_
      ·intro again1 t ht
       simp only[aZ,z7 ht,z7 (show (t:Int)<(rs.getD i rp0).2.1.length by omega),cT,z9,dK (show t<=1000000 by omega)]
       generalize decide (((((rs.getD i rp0).2.1.getD t hd0).1.size:Nat):Int)>60)=g
       cases g<;>rfl
      ·intro again1
       simp only[z8 (show ¬ ((rs.getD i rp0).2.1.length:Int)<(rs.getD i rp0).2.1.length by omega),cF]
   ·intro again
    simp only[z8 (show ¬ (rs.length:Int)<rs.length by omega),cF]
   ·cases rs.all (fun r=>jQ r.1&&(!decide ((r.2.1.length:Int)>13)&&r.2.1.all fun h=>jQ h.1))<;>rfl
  ·cases bs.all (fun b=>jQ b.1)<;>rfl
 ·rw[z8 h0]
  by_cases g:(bs.length:Int)>9
  ·rw[z7 g];rfl
  ·rw[z8 g,z7 (show (rs.length:Int)>9 by omega)];rfl
theorem CP {s:Sy} (h:m8 s=true):s.1.length<=9/\s.2.length<=9:=by
 unfold m8 at h
 rw[z10,decide_eq_true_iff] at h
 exact h.1
end Go.Proofs.YtfknoaclabfdlaaGreat

namespace Go.Proofs.YtfknoaclabfdlaaGreat
noncomputable section
open Tryz Dn Dn.Sh
def okL (x:List Fq):Bool:=x.all fun a=>decide (okF a)
theorem H4 {x:List Fq} (h:x.length<=1000000):dG x=some (okL x):=by
 have hc:aj x (fun x=>cQ x.1)=some (!okL x):=by
  unfold okL
  rw[<-DR]
  refine EN (p:=fun a:Fq=>!decide (okF a)) h fun a _=>?_
  simp only[cQ,ji,km,aa]
 simp only[dG,kx,hc,aa,Bool.not_not]
theorem o5 {x:List Fq}:okL x=true↔∀a ∈ x,okF a:=by
 unfold okL
 rw[List.all_eq_true]
 exact ⟨fun h a ha=>z12 (h a ha),fun h a ha=>z7 (h a ha)⟩
end
end Go.Proofs.YtfknoaclabfdlaaGreat

namespace Go.Proofs.YtfknoaclabfdlaaGreat
open Tryz Dn Dn.Sh
def lY (p:Pg) (j:Nat):List Int:=p.2.map fun r=>r.1.getD j 0
def lk (p:Pg):List Int:=p.2.map fun r=>r.2.2
theorem Bb {g:Rw->Int} {rs:List Rw} {F:(List Int×Int×PUnit->Option (List Int))->List Int×Int×PUnit->Option (List Int)} (h:rs.length<=1000000)
  (hF:∀again (i:Nat),i<rs.length->F again ((rs.take i).map g,(i:Int),PUnit.unit)=again ((rs.take i).map g++[g (rs.getD i rw0)],((i+1:Nat):Int),PUnit.unit))
  (hf:∀again,F again (rs.map g,(rs.length:Int),PUnit.unit)=some (rs.map g)):lpK (List Int×Int×PUnit) (List Int) F ([],(0:Int),PUnit.unit)=some (rs.map g):=by
 refine (lO (α:=List Int×Int×PUnit) (σ:=Unit) rs.length (by omega) (fun i _=>((rs.take i).map g,(i:Int),PUnit.unit)) (fun i s k=>bif true then k s else none) (fun _=>some (rs.map g)) ?_ ?_ ()).trans ?_
 ·intro again i _ hi
  rw[hF again i hi,cT]
  congr 2
  rw[aU hi,List.take_succ_eq_append_getElem hi,List.map_append]
  rfl
 ·intro again _
  rw[List.take_length]
  exact hf again
 ·refine (mX (p:=fun _=>true) (r:=none) rs.length (fun _ _ _=>rfl) rs.length 0 (by omega)).trans ?_
  rw[show ((List.range' 0 rs.length).all fun _=>true)=true from List.all_eq_true.2 fun _ _=>rfl]
  rfl
theorem q9 {g:Rw->Int} {rs:List Rw} {i:Nat}:((rs.take i).map g).length<=rs.length:=by
 rw[List.length_map,List.length_take];omega
theorem EL {p:Pg} {j:Nat} (hv:ValidP p) (hj:j<p.1.length):dg p (j:Int)=some (lY p j):=by
 obtain ⟨c,rs⟩:=p
 unfold dg jA lY
 have h6:=hv.rows
 simp only at h6 hj
 refine Bb (rs:=rs) (g:=fun r=>r.1.getD j 0) (by omega) (fun again i hi=>?_) (fun again=>by simp)
 have hw:IntKind.wrap .i64 ((i:Int)+1)=((i+1:Nat):Int):=by rw[aW (by omega) (by omega)];rfl
 have hr:rs.getD i rw0 ∈ rs:=by rw[aU hi];exact List.getElem_mem _
 have hL:=hv.len _ hr
 have hT:=q9 (g:=fun r=>r.1.getD j 0) (rs:=rs) (i:=i)
 simp only at hL
 simp only[aZ,z7 hi,z7 (show (i:Int)<rs.length by omega),cT,z9,hw,z7 (show j<(rs.getD i rw0).1.length by omega),eL (show (((rs.take i).map fun r=>r.1.getD j 0).length+1)*8<=140737488355328 by omega)]
theorem FJ {p:Pg} (hv:ValidP p):dk p=some (lk p):=by
 obtain ⟨c,rs⟩:=p
 unfold dk jz lk
 have h6:=hv.rows
 simp only at h6
 refine Bb (rs:=rs) (g:=fun r=>r.2.2) (by omega) (fun again i hi=>?_) (fun again=>by simp)
 have hw:IntKind.wrap .i64 ((i:Int)+1)=((i+1:Nat):Int):=by rw[aW (by omega) (by omega)];rfl
 have hT:=q9 (g:=fun r=>r.2.2) (rs:=rs) (i:=i)
 simp only[aZ,z7 hi,z7 (show (i:Int)<rs.length by omega),cT,z9,hw,eL (show (((rs.take i).map fun r=>r.2.2).length+1)*8<=140737488355328 by omega)]
def u9 (k n:Int):Bool:=(decide (k≠1)||decide (n<=0))&&(decide (k≠2)||decide (0<=n))
def kO (p:Pg) (y:List Fq):Bool:=(List.range' 0 p.2.length).all fun i=>u9 (p.2.getD i rw0).2.1 (y.getD i (0,0)).1
theorem Cz {p:Pg} {y:List Fq} (hv:ValidP p) (hl:y.length=p.2.length):dh p y=some (kO p y):=by
 obtain ⟨c,rs⟩:=p
 unfold dh jy kO
 have h6:=hv.rows
 simp only at h6 hl ⊢
 refine (lO (α:=Int×PUnit) (σ:=Unit) rs.length (by omega) (fun i _=>((i:Int),PUnit.unit)) (fun i s k=>bif u9 (rs.getD i rw0).2.1 (y.getD i (0,0)).1 then k s else some false) (fun _=>some true) ?_ ?_ ()).trans ?_
 ·intro again i _ hi
  have hw:IntKind.wrap .i64 ((i:Int)+1)=((i+1:Nat):Int):=by rw[aW (by omega) (by omega)];rfl
  simp only[aZ,z7 hi,z7 (show (i:Int)<rs.length by omega),z7 (show i<y.length by omega),cT,z9,hw]
  obtain ⟨n,hn⟩:∃n,(y.getD i (0,0)).1=n:=⟨_,rfl⟩
  obtain ⟨kd,hkd⟩:∃kd,(rs.getD i rw0).2.1=kd:=⟨_,rfl⟩
  simp only[hn,hkd,u9]
  by_cases k1:kd=1<;>by_cases k2:kd=2<;>by_cases c1:n<=0<;>by_cases c2:0<=n<;>by_cases c3:n>0<;>by_cases c4:n<0<;>first | (exfalso;omega) | simp[k1,k2,c1,c2,c3,c4]
 ·intro again s
  simp only[z8 (show ¬ (rs.length:Int)<rs.length by omega),cF]
 ·refine (mX (p:=fun i=>u9 (rs.getD i rw0).2.1 (y.getD i (0,0)).1) (r:=some false) rs.length (fun _ _ _=>rfl) rs.length 0 (by omega)).trans ?_
  cases (List.range' 0 rs.length).all fun i=>u9 (rs.getD i rw0).2.1 (y.getD i (0,0)).1<;>rfl
end Go.Proofs.YtfknoaclabfdlaaGreat

namespace Go.Proofs.YtfknoaclabfdlaaGreat
noncomputable section
open Tryz Dn Dn.Sh
def rQ (p:Pg) (y:List Fq):Bool:=(List.range' 0 p.1.length).all fun j=>(eh (lY p j) y 0).isSome
def uR (p:Pg) (y:List Fq) (f:Nat->Int):Bool:=(List.range' 0 p.1.length).all fun j=>decide (pM ((eh (lY p j) y 0).getD 0) (f j:Rat)<=0)
theorem Lb {p:Pg} {j:Nat} (hv:ValidP p) (hj:j<p.1.length):∀n ∈ lY p j,inC n=true:=fun n hn=>by
 obtain ⟨r,hr,rfl⟩:=List.mem_map.1 hn
 rw[aU (by rw[hv.len r hr];exact hj)]
 exact hv.coefs r hr _ (List.getElem_mem _)
theorem rP {p:Pg} {j:Nat}:(lY p j).length=p.2.length:=by unfold lY;rw[List.length_map]
theorem mF {p:Pg}:(lk p).length=p.2.length:=by unfold lk;rw[List.length_map]
theorem Fg {p:Pg} (hv:ValidP p):∀n ∈ lk p,inR n=true:=fun n hn=>by
 obtain ⟨r,hr,rfl⟩:=List.mem_map.1 hn
 exact hv.right r hr
theorem Ee {R:Type} {n:Nat} {g h:Nat->Bool} {f:Bool×Int->Option R} {b:Nat->Bool×Int->(Bool×Int->Option R)->Option R}
  (hb:∀i s k,i<n->b i s k=k (s.1&&h i,bif g i then s.2 else 5)):∀(k i:Nat) (s:Bool×Int),i+k<=n ->
  upF b f k i s=f (s.1&&(List.range' i k).all h,bif (List.range' i k).all g then s.2 else 5)
 | 0,i,s,_=>by simp[upF]
 | k+1,i,s,hi=>by
  simp only[upF,hb i s _ (by omega)]
  rw[Ee hb k (i+1) _ (by omega)]
  simp only[List.range'_succ,List.all_cons,Bool.and_assoc]
  congr 2
  cases g i<;>cases (List.range' (i+1) k).all g<;>rfl
theorem Ng {l:List Int} {x:List Fq} {e:Int} (hl:l.length<=x.length) (h0:l.length<=1000000) (hc:∀n ∈ l,inR n=true) (hx:∀a ∈ x,okF a) :
  bP e l x=some (bif (eh l x 0).isSome then e else 5,prQ ((eh l x 0).getD 0)):=by
 rw[Mr hl h0 (fun n hn=>J2 (hc n hn)) hx]
 cases eh l x 0<;>rfl
def pN (p:Pg) (y:List Fq):Option Rat:=eh (lk p) y 0
def EU (p:Pg) (y:List Fq):Bool:=decide (0<(prQ ((pN p y).getD 0)).1)
def Hk (p:Pg) (y:List Fq):Bool:=EU p y&&(kO p y&&uR p y fun _=>0)
theorem tg {p:Pg} {y:List Fq} (h:y.length<=1000000):bQ p y=some (bif nH p&&okL y then bif decide (y.length=p.2.length) then bif rQ p y&&(pN p y).isSome then (Hk p y,0,()) else (false,5,()) else (false,3,()) else (false,1,())):=by
 unfold bQ jo
 rw[kX,obN]
 simp only[H4 h,aY,fz,cT]
 cases hv:nH p with
 | false=>rfl
 | true =>
  simp only[Bool.not_true,Bool.not_false,cT]
  rw[obN]
  cases hx:okL y with
  | false=>rfl
  | true =>
   have hV:=gM.1 hv
   have hX:=o5.1 hx
   have h6:=hV.rows
   have h7:=hV.cost.2
   simp only[Bool.not_true,cF,Bool.and_self,cT]
   by_cases hl:y.length=p.2.length
   ·simp only[z7 hl,z7 (show (y.length:Int)=p.2.length by omega),Bool.not_true,cT,cF]
    refine (lO (α:=Bool×Int×Int×PUnit) p.1.length (by omega) (fun i (s:Bool×Int)=>(s.1,(i:Int),s.2,PUnit.unit)) (fun j s k=>k (s.1&&decide (pM ((eh (lY p j) y 0).getD 0) ((0:Int):Rat)<=0),bif (eh (lY p j) y 0).isSome then s.2 else 5))
     (fun s=>some ((EU p y&&(kO p y&&s.1))&&decide ((bif (pN p y).isSome then s.2 else 5)=0),bif (pN p y).isSome then s.2 else 5,())) ?_ ?_ (true,0)).trans ?_
    ·intro again i s hi
     have hw:IntKind.wrap .i64 ((i:Int)+1)=((i+1:Nat):Int):=by rw[aW (by omega) (by omega)];rfl
     have h1:=N9 (l:=lY p i) (x:=y) (e:=s.2) (by rw[rP];omega) (by rw[rP];omega) (Lb hV hi) hX
     have h2:=Kl (n:=0) (gW (yn (l:=lY p i) (x:=y))) (by omega)
     rw[jR] at h2
     simp only[z7 (show (i:Int)<p.1.length by omega),cT,EL hV hi,h1,cH,ia,h2,aa,hw]
     cases decide (pM ((eh (lY p i) y 0).getD 0) ((0:Int):Rat)<=0)<;>cases s.1<;>rfl
    ·intro again s
     have h1:=Ng (l:=lk p) (x:=y) (e:=s.2) (by rw[mF];omega) (by rw[mF];omega) (Fg hV) hX
     simp only[z8 (show ¬ (p.1.length:Int)<p.1.length by omega),cF,FJ hV,h1,aa,Cz hV hl]
     obtain ⟨n,hn⟩:∃n,(prQ ((eh (lk p) y 0).getD 0)).1=n:=⟨_,rfl⟩
     simp only[EU,pN,hn]
     by_cases c1:n>0
     ·simp only[z7 c1]
      cases kO p y<;>cases s.1<;>rfl
     ·simp only[z8 c1]
      cases kO p y<;>cases s.1<;>rfl
    ·rw[Ee (n:=p.1.length) (g:=fun j=>(eh (lY p j) y 0).isSome) (h:=fun j=>decide (pM ((eh (lY p j) y 0).getD 0) ((0:Int):Rat)<=0)) (fun _ _ _ _=>rfl) p.1.length 0 _ (by omega)]
     rw[show ((List.range' 0 p.1.length).all fun j=>(eh (lY p j) y 0).isSome)=rQ p y from rfl,show ((List.range' 0 p.1.length).all fun j=>decide (pM ((eh (lY p j) y 0).getD 0) ((0:Int):Rat)<=0))=uR p y (fun _=>0) from rfl]
     unfold Hk
     cases rQ p y<;>cases (pN p y).isSome<;>cases EU p y<;>cases kO p y<;>cases uR p y (fun _=>0)<;>rfl
   ·simp only[z8 hl,z8 (show ¬ (y.length:Int)=p.2.length by omega),Bool.not_false,cT,cF]
end
end Go.Proofs.YtfknoaclabfdlaaGreat

namespace Go.Proofs.YtfknoaclabfdlaaGreat
open Tryz Dn Dn.Sh
theorem F2:aP=some true:=by kernel_rfl
theorem MZ (s:Sy) (y:List Fq):bf s y=some (m8 s&&decide (y.length<=10)):=by
 simp only[bf,oN,ED,aa]
 rw[show decide ((y.length:Int)<=10)=decide (y.length<=10) from decide_eq_decide.2 (by omega)]
 cases m8 s<;>rfl
theorem BU {s:Sy} (h:fj s=true) (y:List Fq):aL s y=af (bQ (cJ s (fg s)) y) fun t=>some (t.1,t.2.1,()):=by
 unfold aL lM
 rw[uv h,aa]
 rfl
def nT (x:Int):Bool×Int×Int:=(decide (x<0),hl x.natAbs)
theorem rx {x:Int} (h1: -9223372036854775808<=x) (h2:x<9223372036854775808):bN x=some (x.natAbs:Int):=j0 h1 h2
theorem DZ {n:Nat}:(bif !decide ((hl n).1=0) then true else !decide ((hl n).2=0))=decide (n≠0):=by
 unfold hl
 simp only
 by_cases h:n=0
 ·subst h;rfl
 ·rw[z7 h]
  by_cases c1:((n / 18446744073709551616:Nat):Int)=0
  ·rw[z7 c1,z8 (show ¬ ((n % 18446744073709551616:Nat):Int)=0 by omega)];rfl
  ·rw[z8 c1];rfl
theorem HI {a b:Int}:(bif !decide (decide (a<0)=decide (b<0)) then decide ((a.natAbs*b.natAbs)≠0) else false)=decide (a*b<0):=by
 by_cases ha:a<0
 ·by_cases hb:b<0
  ·have:=Int.mul_pos_of_neg_of_neg ha hb
   rw[z8 (show ¬ a*b<0 by omega)]
   simp[ha,hb]
  ·by_cases hb0:b=0
   ·subst hb0;simp
   ·have:=Int.mul_neg_of_neg_of_pos ha (show 0<b by omega)
    rw[z7 this,z7 (show a.natAbs*b.natAbs≠0 by rw[<-Int.natAbs_mul];omega)]
    simp[ha,hb]
 ·by_cases ha0:a=0
  ·subst ha0;simp
  ·by_cases hb:b<0
   ·have:=Int.mul_neg_of_pos_of_neg (show 0<a by omega) hb
    rw[z7 this,z7 (show a.natAbs*b.natAbs≠0 by rw[<-Int.natAbs_mul];omega)]
    simp[ha,hb]
   ·have:=Int.mul_nonneg (show 0<=a by omega) (show 0<=b by omega)
    rw[z8 (show ¬ a*b<0 by omega)]
    simp[ha,hb]
theorem pb {a b:Int} (ha: -9223372036854775808<=a/\a<9223372036854775808) (hb: -9223372036854775808<=b/\b<9223372036854775808):bt a b=some (nT (a*b)):=by
 have e:(((a.natAbs:Nat):Int)*(b.natAbs:Int) / 18446744073709551616,((a.natAbs:Nat):Int)*(b.natAbs:Int) % 18446744073709551616,PUnit.unit)=((hl (a.natAbs*b.natAbs)).1,(hl (a.natAbs*b.natAbs)).2,PUnit.unit):=by
  rw[<-Int.natCast_mul];rfl
 simp only[bt,kw,rx ha.1 ha.2,rx hb.1 hb.2,aa]
 rw[Nu (by omega) (by omega) (by omega) (by omega),aa,e]
 have h1:=DZ (n:=a.natAbs*b.natAbs)
 have h2:=HI (a:=a) (b:=b)
 rw[<-h1] at h2
 unfold nT
 rw[Int.natAbs_mul,<-h2]
 generalize hl (a.natAbs*b.natAbs)=p
 obtain ⟨c,hc⟩:∃c,(decide (decide (a<0)=decide (b<0)))=c:=⟨_,rfl⟩
 obtain ⟨c1,hc1⟩:∃c,decide (p.1=0)=c:=⟨_,rfl⟩
 simp only[hc,hc1]
 cases c<;>cases c1<;>rfl
theorem va {s t:Bool} {m n:Nat}:ax (s,hl m) (t,hl n)=some (if m<n then -1 else if m=n then 0 else 1):=by
 simp only[ax,fi]
 have e1:(hl m).1=(hl n).1↔m / 18446744073709551616=n / 18446744073709551616:=by unfold hl;simp only;omega
 have e2:(hl m).1<(hl n).1↔m / 18446744073709551616<n / 18446744073709551616:=by unfold hl;simp only;omega
 have e3:(hl m).2=(hl n).2↔m % 18446744073709551616=n % 18446744073709551616:=by unfold hl;simp only;omega
 have e4:(hl m).2<(hl n).2↔m % 18446744073709551616<n % 18446744073709551616:=by unfold hl;simp only;omega
 rw[decide_eq_decide.2 e1,decide_eq_decide.2 e2,decide_eq_decide.2 e3,decide_eq_decide.2 e4]
 generalize q1:decide (m / 18446744073709551616=n / 18446744073709551616)=c1
 generalize q2:decide (m / 18446744073709551616<n / 18446744073709551616)=c2
 generalize q3:decide (m % 18446744073709551616=n % 18446744073709551616)=c3
 generalize q4:decide (m % 18446744073709551616<n % 18446744073709551616)=c4
 cases c1<;>cases c2<;>cases c3<;>cases c4<;>simp only[decide_eq_true_iff,decide_eq_false_iff_not] at q1 q2 q3 q4 <;>
  first
  | (exfalso;omega)
  | (rw[if_pos (show m<n by omega)];rfl)
  | (rw[if_neg (show ¬ m<n by omega),if_pos (show m=n by omega)];rfl)
  | (rw[if_neg (show ¬ m<n by omega),if_neg (show ¬ m=n by omega)];rfl)
theorem Jk {x y:Int}:cf (nT x) (nT y)=some (if x<y then -1 else if x=y then 0 else 1):=by
 have key:∀{a b:Nat} (h1:a<b↔x<y) (h2:a=b↔x=y),(if a<b then (-1:Int) else if a=b then 0 else 1)=if x<y then -1 else if x=y then 0 else 1:=fun h1 h2=>by simp only[h1,h2]
 unfold nT
 simp only[cf,gB,va,aa]
 by_cases hx:x<0
 ·by_cases hy:y<0
  ·rw[z7 hx,z7 hy,key (by omega) (by omega)]
   rfl
  ·rw[if_pos (show x<y by omega),z7 hx,z8 hy]
   rfl
 ·by_cases hy:y<0
  ·rw[if_neg (show ¬ x<y by omega),if_neg (show ¬ x=y by omega),z8 hx,z7 hy]
   rfl
  ·rw[z8 hx,z8 hy,key (a:=x.natAbs) (b:=y.natAbs) (by omega) (by omega)]
   rfl
theorem KY {m n:Nat} (h:m+n<340282366920938463463374607431768211456):(wn (hl m).1 (hl n).1 (nW (hl m).2 (hl n).2 0),wn (hl m).2 (hl n).2 0)=hl (m+n):=by
 have h1:=BL h
 have c1:(0:Int)<=nW (hl m).2 (hl n).2 0:=by rw[qR];omega
 have c2:nW (hl m).2 (hl n).2 0<=1:=by rw[qR];omega
 simp only[fa,kK,z7 c1,z7 c2] at h1
 exact Option.some.inj h1
theorem El {m n:Nat} (h:n<=m) (hm:m<340282366920938463463374607431768211456):(sE (hl m).1 (hl n).1 (mN (hl m).2 (hl n).2 0),sE (hl m).2 (hl n).2 0)=hl (m - n):=by
 have h1:=su h hm
 have c1:(0:Int)<=mN (hl m).2 (hl n).2 0:=by rw[rM];omega
 have c2:mN (hl m).2 (hl n).2 0<=1:=by rw[rM];split<;>omega
 simp only[dQ,jZ,z7 c1,z7 c2] at h1
 exact Option.some.inj h1
theorem Cr {m n:Nat}:(decide ((0:Int)<=mN (hl m).2 (hl n).2 0)&&decide (mN (hl m).2 (hl n).2 0<=(1:Int)))=true:=by
 rw[z7 (show (0:Int)<=mN (hl m).2 (hl n).2 0 by rw[rM];omega),z7 (show mN (hl m).2 (hl n).2 0<=1 by rw[rM];split<;>omega)]
 rfl
theorem Cm {m n:Nat}:(decide ((0:Int)<=nW (hl m).2 (hl n).2 0)&&decide (nW (hl m).2 (hl n).2 0<=(1:Int)))=true:=by
 rw[z7 (show (0:Int)<=nW (hl m).2 (hl n).2 0 by rw[qR];omega),z7 (show nW (hl m).2 (hl n).2 0<=1 by rw[qR];omega)]
 rfl
theorem EV {x y:Int} (hx:x.natAbs<85070591730234615865843651857942052864) (hy:y.natAbs<85070591730234615865843651857942052864):bp (nT x) (nT y)=some (nT (x - y)):=by
 unfold nT
 simp only[bp,fR,va,aa,oZ,Cr,Cm]
 by_cases hs:decide (x<0)=decide (y<0)
 ·
  rw[z7 hs]
  simp only[Bool.not_true,cF]
  by_cases hlt:x.natAbs<y.natAbs
  ·have h1:=El (m:=y.natAbs) (n:=x.natAbs) (by omega) (by omega)
   have h2:=congrArg Prod.fst h1
   have h3:=congrArg Prod.snd h1
   simp only at h2 h3
   rw[if_pos hlt]
   simp only[show decide ((-1:Int)<0)=true from rfl,cT,h2,h3]
   have h4:=DZ (n:=y.natAbs - x.natAbs)
   have e1:decide (x - y<0)=(bif !decide (x<0) then decide (y.natAbs - x.natAbs≠0) else false):=by
    rw[z7 (show y.natAbs - x.natAbs≠0 by omega)]
    by_cases c:x<0
    ·have c':y<0:=by rw[z7 c] at hs;exact z12 hs.symm
     rw[z7 c,z8 (show ¬ x - y<0 by omega)];rfl
    ·have c':¬ y<0:=by rw[z8 c] at hs;exact of_decide_eq_false hs.symm
     rw[z8 c,z7 (show x - y<0 by omega)];rfl
   have e2:(x - y).natAbs=y.natAbs - x.natAbs:=by
    by_cases c:x<0
    ·have c':y<0:=by rw[z7 c] at hs;exact z12 hs.symm
     omega
    ·have c':¬ y<0:=by rw[z8 c] at hs;exact of_decide_eq_false hs.symm
     omega
   rw[e1,e2,<-h4]
   generalize hl (y.natAbs - x.natAbs)=p
   obtain ⟨c,hc⟩:∃c,decide (p.1=0)=c:=⟨_,rfl⟩
   simp only[hc]
   cases decide (x<0)<;>cases c<;>rfl
  ·have h1:=El (m:=x.natAbs) (n:=y.natAbs) (by omega) (by omega)
   have h2:=congrArg Prod.fst h1
   have h3:=congrArg Prod.snd h1
   simp only at h2 h3
   have h0:¬ (if x.natAbs<y.natAbs then (-1:Int) else if x.natAbs=y.natAbs then 0 else 1)<0:=by
    rw[if_neg hlt]
    split<;>simp
   rw[z8 h0]
   simp only[cF,h2,h3]
   have h4:=DZ (n:=x.natAbs - y.natAbs)
   have e1:decide (x - y<0)=(bif decide (x<0) then decide (x.natAbs - y.natAbs≠0) else false):=by
    by_cases c:x<0
    ·have c':y<0:=by rw[z7 c] at hs;exact z12 hs.symm
     rw[z7 c,cond_true]
     exact decide_eq_decide.2 (by omega)
    ·have c':¬ y<0:=by rw[z8 c] at hs;exact of_decide_eq_false hs.symm
     rw[z8 c,z8 (show ¬ x - y<0 by omega)];rfl
   have e2:(x - y).natAbs=x.natAbs - y.natAbs:=by
    by_cases c:x<0
    ·have c':y<0:=by rw[z7 c] at hs;exact z12 hs.symm
     omega
    ·have c':¬ y<0:=by rw[z8 c] at hs;exact of_decide_eq_false hs.symm
     omega
   rw[e1,e2,<-h4]
   generalize hl (x.natAbs - y.natAbs)=p
   obtain ⟨c,hc⟩:∃c,decide (p.1=0)=c:=⟨_,rfl⟩
   simp only[hc]
   cases decide (x<0)<;>cases c<;>rfl
 ·rw[z8 hs]
  have h1:=KY (m:=x.natAbs) (n:=y.natAbs) (by omega)
  have h2:=congrArg Prod.fst h1
  have h3:=congrArg Prod.snd h1
  simp only at h2 h3
  simp only[Bool.not_false,cT,h2,h3]
  have h4:=DZ (n:=y.natAbs)
  by_cases c:x<0
  ·have c':¬ y<0:=fun c'=>hs (by rw[z7 c,z7 c'])
   rw[z7 c,z8 c',z7 (show x - y<0 by omega),show (x - y).natAbs=x.natAbs+y.natAbs by omega]
   generalize hl y.natAbs=p
   obtain ⟨d,hd⟩:∃d,decide (p.1=0)=d:=⟨_,rfl⟩
   simp only[hd]
   cases d<;>rfl
  ·have c':y<0:=by
    apply Classical.byContradiction
    intro c'
    exact hs (by rw[z8 c,z8 c'])
   rw[z8 c,z7 c',z8 (show ¬ x - y<0 by omega),show (x - y).natAbs=x.natAbs+y.natAbs by omega]
   generalize hl y.natAbs=p
   obtain ⟨d,hd⟩:∃d,decide (p.1=0)=d:=⟨_,rfl⟩
   simp only[hd]
   cases d<;>rfl
theorem F4 {d q:Int} (hd:0<d) (hd2:d<9223372036854775808) (hq:q.natAbs<9223372036854775808):bL (nT (d*q)) d=some q:=by
 unfold nT
 simp only[bL,fY]
 have e:(d*q).natAbs=d.natAbs*q.natAbs:=Int.natAbs_mul _ _
 have hdn:(d.natAbs:Int)=d:=by omega
 have h1:(d*q).natAbs / 18446744073709551616<d.natAbs:=by
  rw[e]
  refine (Nat.div_lt_iff_lt_mul (by omega)).2 ?_
  exact Nat.mul_lt_mul_of_pos_left (by omega) (by omega)
 have h2:=zY (h:=(d*q).natAbs / 18446744073709551616) (l:=(d*q).natAbs % 18446744073709551616) (y:=d.natAbs) h1 (by omega) (by omega)
 have h3:(d*q).natAbs / 18446744073709551616*18446744073709551616+(d*q).natAbs % 18446744073709551616=(d*q).natAbs:=by omega
 rw[h3,e,Nat.mul_div_cancel_left _ (by omega)] at h2
 have h4:IntKind.wrap .u64 d=(d.natAbs:Int):=by rw[bi (by omega) (by omega)];omega
 rw[h4]
 unfold hl
 simp only
 rw[e,h2,aa]
 simp only
 rw[aW (x:=(q.natAbs:Int)) (by omega) (by omega)]
 by_cases c:q<0
 ·rw[z7 (show d*q<0 from Int.mul_neg_of_pos_of_neg hd c),cond_true,aW (by omega) (by omega)]
  congr 1
  omega
 ·rw[z8 (show ¬ d*q<0 by have:=Int.mul_nonneg (show 0<=d by omega) (show 0<=q by omega);omega),cond_false]
  congr 1
  omega
theorem a8 {i:Nat} (h:i<=1000000):IntKind.wrap .i64 ((i:Int)+1)=((i+1:Nat):Int):=by rw[aW (by omega) (by omega)];rfl
def mid (T:Nat->Nat->Int) (d:Int) (r c i j:Nat):Nat->Nat->Int:=fun k l=>if k≠r/\(k<i\/(k=i/\l<j)) then piv T d r c k l else T k l
theorem KK {T:Nat->Nat->Int} {d:Int} {r c i j l:Nat}:mid T d r c i j r l=T r l:=if_neg fun h=>h.1 rfl
theorem Bs {T:Nat->Nat->Int} {d:Int} {r c i j l:Nat} (h:j<=l):mid T d r c i j i l=T i l:=by
 unfold mid
 rw[if_neg fun h=>by omega]
theorem IT {T:Nat->Nat->Int} {d:Int} {r c k l:Nat}:T k l=mid T d r c 0 0 k l:=by
 unfold mid
 rw[if_neg fun h=>by omega]
def yr (T:Nat->Nat->Int) (i j:Nat):Nat->Nat->Int:=fun k l=>if k<i\/(k=i/\l<j) then - T k l else T k l
theorem EQ {T:Nat->Nat->Int} {i j l:Nat} (h:j<=l):yr T i j i l=T i l:=by
 unfold yr
 rw[if_neg fun h=>by omega]
theorem Fd {T:Nat->Nat->Int} {k l:Nat}:T k l=yr T 0 0 k l:=by
 unfold yr
 rw[if_neg fun h=>by omega]
theorem jc {m w:Nat} {T:Nat->Nat->Int}:(ic m w T).2=dj m w T:=rfl
theorem Dp {m w:Nat} {T T':Nat->Nat->Int} {i j:Nat} {x:Int} (hi:i<m) (hj:j<w) (h:∀k l,k<m->l<w->(if k=i/\l=j then x else T k l)=T' k l) :
  ((ic m w T).1,(dj m w T).set i (some ((bv w (T i)).set j x)))=ic m w T':=by
 rw[Ap hi hj,gT h]
 rfl
structure PivOk (m w:Nat) (T:Nat->Nat->Int) (d:Int) (r c:Nat):Prop where
 hm:m<=1000
 hw:w<=1000
 hr:r<m
 hc:c<w
 hd:0<d/\d<4611686018427387904
 b:∀i j,i<m->j<w->(T i j).natAbs<4611686018427387904
 q:∀i j,i<m->i≠r->j<w->d*piv T d r c i j=T r c*T i j - T i c*T r j
 qb:∀i j,i<m->i≠r->j<w->(piv T d r c i j).natAbs<4611686018427387904
theorem iT {x:Int} (h:x.natAbs<4611686018427387904): -9223372036854775808<=x/\x<9223372036854775808:=by omega
theorem BC {x y:Int} (hx:x.natAbs<4611686018427387904) (hy:y.natAbs<4611686018427387904):(x*y).natAbs<85070591730234615865843651857942052864:=by
 rw[Int.natAbs_mul]
 exact Nat.lt_of_le_of_lt (Nat.mul_le_mul (Nat.le_of_lt_succ (n:=4611686018427387903) hx) (Nat.le_of_lt_succ (n:=4611686018427387903) hy)) (by decide)
theorem vq {m w:Nat} {T:Nat->Nat->Int} {d:Int} {β:Nat->Nat} {r c:Nat} {x3 x4:List Int} {x5 x6:Int} (h:PivOk m w T d r c) :
  aG (ic m w T) d (io m β) x3 x4 x5 x6 (r:Int) (c:Int)=some (ic m w (nV T d r c),sg (T r c)*T r c,io m (upd β r c),x3,x4,x5,x6,()):=by
 obtain ⟨hm,hw,hr,hc,hd,hb,hq,hqb⟩:=h
 unfold aG gC
 simp only[fV,gq hr,jc,fS hr,aR,bB hc,aZ,z9,z7 hr,z7 hc,cM (show Nat.succ r<=m from hr),cM (show Nat.succ c<=w from hc),cT,GS hr,gt]
 refine cu m (by omega) (fun i=>((i:Int),ic m w (mid T d r c i 0),PUnit.unit)) _ (by rw[iG fun k l _ _=>IT];rfl) (fun again i hi=>?_) (fun again=>?_)
 ·simp only[fV,gq hi,jc,fS hi,aR,bB hc,aZ,z9,z7 hi,z7 hc,z7 (show (i:Int)<m by omega),cM (show Nat.succ i<=m from hi),cM (show Nat.succ c<=w from hc),cT,r7 hi,a8 (show i<=1000000 by omega)]
  by_cases e:i=r
  ·rw[z7 (show (i:Int)=r by omega),cond_true]
   congr 3
   refine iG fun k l _ _=>?_
   unfold mid
   by_cases c1:k≠r/\(k<i\/(k=i/\l<0))
   ·rw[if_pos c1,if_pos (by omega)]
   ·rw[if_neg c1,if_neg (by omega)]
  ·rw[z8 (show ¬ (i:Int)=r by omega),cond_false]
   refine nu w (by omega) (fun j=>((j:Int),ic m w (mid T d r c i j),PUnit.unit)) _ (fun again2 j hj=>?_) (fun again2=>?_)
   ·have t1:=pb (iT (hb i j hi hj)) (iT (hb r c hr hc))
    have t2:=pb (iT (hb i c hi hc)) (iT (hb r j hr hj))
    have t3:=EV (BC (hb i j hi hj) (hb r c hr hc)) (BC (hb i c hi hc) (hb r j hr hj))
    have t4:bL (nT (T i j*T r c - T i c*T r j)) d=some (piv T d r c i j):=by
     rw[Int.mul_comm (T i j),<-hq i j hi e hj]
     exact F4 hd.1 (by omega) (by have:=hqb i j hi e hj;omega)
    simp only[fV,gq hi,gq hr,jc,fS hi,fS hr,aR,bB hc,bB hj,aZ,z9,z7 hi,z7 hj,z7 hr,z7 hc,z7 (show (j:Int)<w by omega),
     cM (show Nat.succ j<=w from hj),cM (show Nat.succ r<=m from hr),cT,KK,Bs (Nat.le_refl j),Bs (Nat.zero_le c),t1,t2,t3,t4,aa,a8 (show j<=1000000 by omega)]
    congr 3
    refine Dp hi hj fun k l hk hl=>?_
    unfold mid
    by_cases c0:k=i/\l=j
    ·rw[if_pos c0,if_pos (by omega),c0.1,c0.2]
    ·rw[if_neg c0]
     by_cases c1:k≠r/\(k<i\/(k=i/\l<j))
     ·rw[if_pos c1,if_pos (by omega)]
     ·rw[if_neg c1,if_neg (by omega)]
   ·simp only[gq hi,jc,fS hi,aR,z8 (show ¬ (w:Int)<w by omega),cF]
    congr 3
    refine iG fun k l hk hl=>?_
    unfold mid
    by_cases c1:k≠r/\(k<i\/(k=i/\l<w))
    ·rw[if_pos c1,if_pos (by omega)]
    ·rw[if_neg c1,if_neg (by omega)]
 ·simp only[fV,z8 (show ¬ (m:Int)<m by omega),cF]
  by_cases hneg:T r c<0
  ·rw[z7 hneg,cond_true]
   refine cu m (by omega) (fun i=>((i:Int),ic m w (yr (mid T d r c m 0) i 0),PUnit.unit)) _ (by rw[iG fun k l _ _=>Fd];rfl) (fun again i hi=>?_) (fun again=>?_)
   ·simp only[fV,gq hi,jc,fS hi,aR,aZ,z9,z7 hi,z7 (show (i:Int)<m by omega),cM (show Nat.succ i<=m from hi),cT,r7 hi,a8 (show i<=1000000 by omega)]
    refine nu w (by omega) (fun j=>((j:Int),ic m w (yr (mid T d r c m 0) i j),PUnit.unit)) _ (fun again2 j hj=>?_) (fun again2=>?_)
    ·have hbb:(mid T d r c m 0 i j).natAbs<4611686018427387904:=by
      unfold mid
      split
      ·rename_i hh;exact hqb i j hi hh.1 hj
      ·exact hb i j hi hj
     simp only[fV,gq hi,jc,fS hi,aR,bB hj,aZ,z9,z7 hi,z7 hj,z7 (show (j:Int)<w by omega),
      cM (show Nat.succ j<=w from hj),cT,EQ (Nat.le_refl j),a8 (show j<=1000000 by omega),aW (show -9223372036854775808<=0 - mid T d r c m 0 i j by omega) (by omega)]
     congr 3
     refine Dp hi hj fun k l hk hl=>?_
     unfold yr
     by_cases c0:k=i/\l=j
     ·rw[if_pos c0,if_pos (by omega),c0.1,c0.2]
      omega
     ·rw[if_neg c0]
      by_cases c1:k<i\/(k=i/\l<j)
      ·rw[if_pos c1,if_pos (by omega)]
      ·rw[if_neg c1,if_neg (by omega)]
    ·simp only[gq hi,jc,fS hi,aR,z8 (show ¬ (w:Int)<w by omega),cF]
     congr 3
     refine iG fun k l hk hl=>?_
     unfold yr
     by_cases c1:k<i\/(k=i/\l<w)
     ·rw[if_pos c1,if_pos (by omega)]
     ·rw[if_neg c1,if_neg (by omega)]
   ·have hrc:=hb r c hr hc
    simp only[fV,z8 (show ¬ (m:Int)<m by omega),cF,aW (show -9223372036854775808<=0 - T r c by omega) (by omega)]
    have e1:sg (T r c)= -1:=by unfold sg;rw[if_pos hneg]
    congr 2
    ·refine iG fun k l hk hl=>?_
     unfold yr mid nV
     rw[if_pos (by omega),e1]
     by_cases c0:k=r
     ·rw[if_neg (by omega),if_pos c0,c0];omega
     ·rw[if_pos (by omega),if_neg c0];omega
    ·rw[e1]
     congr 1
     omega
  ·rw[z8 hneg,cond_false]
   have e1:sg (T r c)=1:=by unfold sg;rw[if_neg hneg]
   congr 2
   ·refine iG fun k l hk hl=>?_
    unfold mid nV
    rw[e1,Int.one_mul]
    by_cases c0:k=r
    ·rw[if_neg (by omega),if_pos c0,c0]
    ·rw[if_pos (by omega),if_neg c0]
   ·rw[e1,Int.one_mul]
theorem qk {x y z p q r:Int} (hp:0<p) (hq:0<q) (hr:0<r) (h1:x*q<=y*p) (h2:y*r<=z*q):x*r<=z*p:=by
 refine xE hq ?_
 have a1:=z11 h1 (Int.le_of_lt hr)
 have a2:=z11 h2 (Int.le_of_lt hp)
 calc q*(x*r)=x*q*r:=by grind
  _<=y*p*r:=a1
  _=y*r*p:=by grind
  _<=z*q*p:=a2
  _=q*(z*p):=by grind
theorem GJ {x y z p q r:Int} (hp:0<p) (hq:0<q) (hr:0<r) (h1:x*q<=y*p) (h2:y*r<=z*q) (h:x*r=z*p):x*q=y*p/\y*r=z*q:=by
 have h3:=qk hq hr hp h2 (by rw[h];exact Int.le_refl _)
 have h4:=qk (x:=z) (y:=x) (z:=y) (p:=r) (q:=p) (r:=q) hr hp hq (by rw[h];exact Int.le_refl _) h1
 exact ⟨Int.le_antisymm h1 h3,Int.le_antisymm h2 h4⟩
theorem vW {m w:Nat} {T:Nat->Nat->Int} {d:Int} {β:Nat->Nat} {c R:Nat} {x1:Int} {x3 x4:List Int} {x5:Int} (hm:m<=1000) (hc:c<w) (hR:R<w) (hb:∀i j,i<m->j<w->(T i j).natAbs<4611686018427387904) :
  ∃b,aA (qm m w T,x1,io m β,x3,x4,x5,(R:Int)) (c:Int)=some b/\((b= -1/\∀i,i<m->T i c<=0)\/∃r:Nat,b=r/\Dn.Leaves m R ⟨T,d,β⟩ c r):=by
 unfold aA fQ
 refine M7 (fun (x:Int×Int×PUnit)=>∃i:Nat,i<=m/\x.2.1=i/\((x.1= -1/\∀k,k<i->T k c<=0)\/∃r:Nat,x.1=r/\Dn.Leaves i R ⟨T,d,β⟩ c r)) _ (fun x=>((m:Int) - x.2.1).toNat) ?_ ⟨0,by omega,rfl,.inl ⟨rfl,fun k hk=>by omega⟩⟩ (by simp only;omega)
 rintro ⟨b,_,_⟩ ⟨i,hi,rfl,hI⟩
 simp only at hI
 by_cases hlt:i<m
 ·have gR:=mL (w:=w) (T:=T) hlt
  have ext:∀r,Dn.Leaves i R ⟨T,d,β⟩ c r->(0<T i c->T r R*T i c<=T i R*T r c/\(T r R*T i c=T i R*T r c->β r<=β i))->Dn.Leaves (i+1) R ⟨T,d,β⟩ c r:=fun r h hn=>by
   refine ⟨by have:=h.lt;omega,h.pos,fun k hk hp=>?_,fun k hk hp he=>?_⟩
   ·by_cases e:k=i
    ·subst e;exact (hn hp).1
    ·exact h.le k (by omega) hp
   ·by_cases e:k=i
    ·subst e;exact (hn hp).2 he
    ·exact h.tie k (by omega) hp he
  right
  by_cases hpos:T i c<=0
  ·refine ⟨(b,((i+1:Nat):Int),PUnit.unit),⟨i+1,by omega,rfl,?_⟩,by simp only;omega,fun rec=>?_⟩
   ·rcases hI with ⟨h1,h2⟩ | ⟨r,h1,h2⟩
    ·exact .inl ⟨h1,fun k hk=>by
      by_cases e:k=i
      ·rw[e];exact hpos
      ·exact h2 k (by omega)⟩
    ·exact .inr ⟨r,h1,ext r h2 fun h=>by omega⟩
   ·simp only[gn,aZ,z9,z7 hlt,z7 (show (i:Int)<m by omega),gR,aR,bB hc,z7 hc,z7 hpos,cT,a8 (show i<=1000000 by omega)]
  ·rcases hI with ⟨h1,h2⟩ | ⟨r,h1,h2⟩
   ·refine ⟨((i:Int),((i+1:Nat):Int),PUnit.unit),⟨i+1,by omega,rfl,.inr ⟨i,rfl,⟨by omega,show 0<T i c by omega,fun k hk hp=>?_,fun k hk hp _=>?_⟩⟩⟩,by simp only;omega,fun rec=>?_⟩
    ·by_cases e:k=i
     ·subst e;exact Int.le_refl _
     ·have h3:=h2 k (by omega)
      have hp:0<T k c:=hp
      omega
    ·by_cases e:k=i
     ·subst e;exact Nat.le_refl _
     ·have h3:=h2 k (by omega)
      have hp:0<T k c:=hp
      omega
    ·simp only[gn,aZ,z9,z7 hlt,z7 (show (i:Int)<m by omega),gR,aR,bB hc,z7 hc,z8 hpos,z7 (show b<0 by omega),cT,cF,a8 (show i<=1000000 by omega)]
   ·subst h1
    have hr:r<m:=by have:=h2.lt;omega
    have gr:=mL (w:=w) (T:=T) hr
    have t1:=pb (iT (hb i R hlt hR)) (iT (hb r c hr hc))
    have t2:=pb (iT (hb r R hr hR)) (iT (hb i c hlt hc))
    have hpr:0<T r c:=h2.pos
    refine ⟨(if T i R*T r c<T r R*T i c\/(T i R*T r c=T r R*T i c/\β i<β r) then (i:Int) else (r:Int),((i+1:Nat):Int),PUnit.unit),⟨i+1,by omega,rfl,.inr ?_⟩,by simp only;omega,fun rec=>?_⟩
    ·simp only
     by_cases hq:T i R*T r c<T r R*T i c\/(T i R*T r c=T r R*T i c/\β i<β r)
     ·rw[if_pos hq]
      have hle:T i R*T r c<=T r R*T i c:=by rcases hq with h | h<;>omega
      have hpi:0<T i c:=by omega
      refine ⟨i,rfl,⟨by omega,hpi,fun k hk hp=>?_,fun k hk hp he=>?_⟩⟩
      ·have hp:0<T k c:=hp
       by_cases e:k=i
       ·subst e;exact Int.le_refl _
       ·exact qk hpi hpr hp hle (h2.le k (by omega) hp)
      ·have hp:0<T k c:=hp
       have he:T i R*T k c=T k R*T i c:=he
       by_cases e:k=i
       ·subst e;exact Nat.le_refl _
       ·obtain ⟨e1,e2⟩:=GJ hpi hpr hp hle (h2.le k (by omega) hp) he
        have h3:β r<=β k:=h2.tie k (by omega) hp e2
        show β i<=β k
        rcases hq with h | h<;>omega
     ·rw[if_neg hq]
      have h3:=fun h=>hq (.inl h)
      refine ⟨r,rfl,ext r h2 fun hp=>⟨by omega,fun he=>?_⟩⟩
      have h4:=fun h=>hq (.inr ⟨he.symm,h⟩)
      omega
    ·simp only[gn,aZ,z9,z7 hlt,z7 hr,z7 (show (i:Int)<m by omega),gR,gr,aR,bB hc,bB hR,z7 hc,z7 hR,z8 hpos,z8 (show ¬ (r:Int)<0 by omega),cT,cF,a8 (show i<=1000000 by omega),
      t1,t2,aa,Jk,gt,iW hlt,iW hr]
     by_cases c1:T i R*T r c<T r R*T i c
     ·rw[if_pos c1,if_pos (.inl c1)]
      generalize decide ((β i:Int)<β r)=bb
      cases bb<;>rfl
     ·by_cases c2:T i R*T r c=T r R*T i c
      ·rw[if_neg c1,if_pos c2]
       by_cases c3:β i<β r
       ·rw[if_pos (.inr ⟨c2,c3⟩),z7 (show (β i:Int)<β r by omega)]
        rfl
       ·rw[if_neg (by rintro (h | h)<;>omega),z8 (show ¬ (β i:Int)<β r by omega)]
        rfl
      ·rw[if_neg c1,if_neg c2,if_neg (by rintro (h | h)<;>omega)]
       generalize decide ((β i:Int)<β r)=bb
       cases bb<;>rfl
 ·left
  have e:i=m:=by omega
  subst e
  refine ⟨b,hI,fun rec=>?_⟩
  simp only[gn,z8 (show ¬ (i:Int)<i by omega),cF]
theorem ij {n:Nat} {f:Nat->Int} {B:Int} (h:∀i,i<n-> -B<=f i/\f i<=B): -(n*B)<=sz n f/\sz n f<=n*B:=by
 induction n with
 | zero=>simp[sz]
 | succ n ih =>
  have h1:=ih fun i hi=>h i (by omega)
  have h2:=h n (by omega)
  simp only[sz]
  rw[show ((n+1:Nat):Int)*B=n*B+B by rw[show ((n+1:Nat):Int)=(n:Int)+1 by omega,Int.add_mul,Int.one_mul]]
  omega
theorem p9 {m w:Nat} {T:Nat->Nat->Int} {β:Nat->Nat} {N j:Nat} {x1 x6:Int} {x3 x4:List Int} (hm:m<=1000) (hj:j<w) (hb:∀i,i<m-> -1125899906842624<=T i j/\T i j<=1125899906842624) :
  av (qm m w T,x1,io m β,x3,x4,(N:Int),x6) (j:Int)=some (sz m fun i=>dC N (β i)*T i j):=by
 unfold av fc
 have hterm:∀i,i<m-> -1125899906842624<=dC N (β i)*T i j/\dC N (β i)*T i j<=1125899906842624:=fun i hi=>by
  have:=hb i hi
  unfold dC
  split<;>omega
 refine nu m (by omega) (fun i=>(sz i (fun k=>dC N (β k)*T k j),(i:Int),PUnit.unit)) _ (fun again i hi=>?_) (fun again=>?_)
 ·have h1:=ij (n:=i) (f:=fun k=>dC N (β k)*T k j) (B:=1125899906842624) fun k hk=>hterm k (by omega)
  have h2:=hterm i hi
  have hi2:(i:Int)<=1000:=by omega
  have h3:(i:Int)*1125899906842624<=1000*1125899906842624:=z11 hi2 (by omega)
  simp only[gn,gt,aZ,z9,z7 hi,z7 (show (i:Int)<m by omega),mL hi,iW hi,aR,bB hj,z7 hj,cT,a8 (show i<=1000000 by omega)]
  have hT:=hb i hi
  by_cases e:N<=β i
  ·have e1:dC N (β i)*T i j=T i j:=by unfold dC;rw[if_pos e];omega
   rw[z7 (show (β i:Int)>=N by omega),cond_true,aW (by omega) (by omega)]
   simp only[sz,e1]
  ·have e1:dC N (β i)*T i j=0:=by unfold dC;rw[if_neg e];omega
   rw[z8 (show ¬ (β i:Int)>=N by omega),cond_false]
   simp only[sz,e1,Int.add_zero]
 ·simp only[gn,z8 (show ¬ (m:Int)<m by omega),cF]
def iI (cs:List Int) (j:Nat):Int:=cs.getD j 0
theorem tV {M:List (List Int)} {x1:Int} {x2 x3 cs:List Int} {x5 x6:Int} {j:Nat}:aJ (M,x1,x2,x3,cs,x5,x6) (j:Int)=some (iI cs j):=by
 unfold iI
 simp only[aJ,gN,aZ,z9]
 by_cases h:j<cs.length
 ·rw[z7 h,z7 (show (j:Int)<cs.length by omega)];rfl
 ·rw[z8 (show ¬ (j:Int)<cs.length by omega),cond_false,List.getD_eq_getElem?_getD,List.getElem?_eq_none (by omega)];rfl
theorem Cp {m w:Nat} {T:Nat->Nat->Int} {d:Int} {β:Nat->Nat} {j:Nat} {x3 cs:List Int} {x5 x6:Int} (hm:m<=1000) (hj:j<w) (hd: -1125899906842624<=iI cs j*d/\iI cs j*d<=1125899906842624)
  (hb:∀i,i<m-> -1125899906842624<=iI cs (β i)*T i j/\iI cs (β i)*T i j<=1125899906842624) :
  bC (qm m w T,d,io m β,x3,cs,x5,x6) (j:Int)=some (zr m (iI cs) ⟨T,d,β⟩ j):=by
 unfold bC fO
 rw[tV,obN]
 refine cu m (by omega) (fun i=>(iI cs j*d - sz i (fun k=>iI cs (β k)*T k j),(i:Int),PUnit.unit)) _ ?_ (fun again i hi=>?_) (fun again=>?_)
 ·simp only[sz,Int.sub_zero]
  rw[aW (by omega) (by omega)]
  rfl
 ·have h1:=ij (n:=i) (f:=fun k=>iI cs (β k)*T k j) (B:=1125899906842624) fun k hk=>hb k (by omega)
  have h2:=hb i hi
  have hi2:(i:Int)<=1000:=by omega
  have h3:(i:Int)*1125899906842624<=1000*1125899906842624:=z11 hi2 (by omega)
  simp only[gn,gt,aZ,z9,z7 hi,z7 (show (i:Int)<m by omega),mL hi,iW hi,aR,bB hj,z7 hj,cT,a8 (show i<=1000000 by omega),tV,aa]
  rw[aW (x:=iI cs (β i)*T i j) (by omega) (by omega),aW (by omega) (by omega)]
  simp only[sz]
  congr 2
  omega
 ·simp only[gn,z8 (show ¬ (m:Int)<m by omega),cF]
  rfl
structure Bnd (L:Lin) (Y:Lay):Prop where
 ok:Y.ok L
 m:L.m<=12
 w:Y.w L<=64
 P:L.F0*L.P<=17592186044416
theorem n4 {x:Int}:ab x=x.natAbs:=rfl
section
variable {L:Lin} {Y:Lay}
theorem Bnd.P' (h:Bnd L Y):L.P<=17592186044416:=by
 have h1:=L.F0_pos
 have h2:=L.P_pos
 have h3:1*L.P<=L.F0*L.P:=z11 h1 (by omega)
 have:=h.P
 omega
theorem Bnd.tab (h:Bnd L Y) {T:Nat->Nat->Int} {d:Int} {β:Nat->Nat} (ht:Tb L.m (Y.w L) (Y.M L) T d β):(0<d/\d<=17592186044416)/\∀i j,i<L.m->j<Y.w L->(T i j).natAbs<=17592186044416:=by
 obtain ⟨h1,h2⟩:=oh h.ok ht
 have h3:=h.P'
 refine ⟨⟨ht.dpos,by omega⟩,fun i j hi hj=>?_⟩
 have:=h2 i j hi hj
 rw[n4] at this
 omega
theorem Jg (j:Nat):(bS L j).natAbs<=L.F0 - 1:=by
 unfold bS Lin.F0
 have h0:0<=sz L.n fun j=>ab (L.c j):=gy fun j _=>bD _
 split
 ·rename_i hj
  have h1:(sz L.n fun i=>if i=j then ab (L.c j) else 0)<=sz L.n fun j=>ab (L.c j):=mI fun i _=>by
   by_cases e:i=j
   ·rw[if_pos e,e];exact Int.le_refl _
   ·rw[if_neg e];exact bD _
  rw[eF hj fun i _ hne=>if_neg hne,if_pos rfl,n4] at h1
  omega
 ·simp only[Int.natAbs_zero]
  omega
theorem Bnd.cost (h:Bnd L Y) {x:Int} (hx:(x.natAbs:Int)<=L.P) (j:Nat): -17592186044416<=bS L j*x/\bS L j*x<=17592186044416:=by
 have h1:=Jg (L:=L) j
 have h2:((bS L j*x).natAbs:Int)<=L.F0*L.P:=by
  rw[Int.natAbs_mul,Int.natCast_mul]
  refine Int.le_trans (Int.mul_le_mul (show ((bS L j).natAbs:Int)<=L.F0 by omega) hx (by omega) (by omega)) (Int.le_refl _)
 have:=h.P
 omega
theorem Bnd.tabP (h:Bnd L Y) {T:Nat->Nat->Int} {d:Int} {β:Nat->Nat} (ht:Tb L.m (Y.w L) (Y.M L) T d β):(d.natAbs:Int)<=L.P/\∀i j,i<L.m->j<Y.w L->((T i j).natAbs:Int)<=L.P:=by
 obtain ⟨h1,h2⟩:=oh h.ok ht
 have:=ht.dpos
 exact ⟨by omega,fun i j hi hj=>h2 i j hi hj⟩
theorem Nj (x:Int) (y:Int):(sg x*y).natAbs=y.natAbs:=by unfold sg;split<;>omega
theorem Bnd.piv (h:Bnd L Y) {T:Nat->Nat->Int} {d:Int} {β:Nat->Nat} (ht:Tb L.m (Y.w L) (Y.M L) T d β) {r c:Nat} (hr:r<L.m) (hc:c<Y.w L) (he:T r c≠0):PivOk L.m (Y.w L) T d r c:=by
 obtain ⟨h1,h2⟩:=h.tab ht
 obtain ⟨h3,h4⟩:=h.tab (ht.step hr hc he)
 have:=h.m
 have:=h.w
 refine ⟨by omega,by omega,hr,hc,by omega,fun i j hi hj=>by have:=h2 i j hi hj;omega,fun i j hi hne hj=>jD ht hr hi (Ne.symm hne) hc hj,fun i j hi hne hj=>?_⟩
 have h5:=h4 i j hi hj
 unfold nV at h5
 rw[if_neg hne,Nj] at h5
 omega
def AZ (L:Lin) (Y:Lay) (S:Sx):Prop:=∀i,i<L.m->Y.N<=S.β i->(∀j,j<Y.N->S.T i j=0)/\S.T i (Y.R L)=0
theorem AZ.art (S:Sx) (h:AZ L Y S):Ak L.m Y.N S (Y.R L):=fun i hi hN=>(h i hi hN).2
theorem AZ.col (S:Sx) (h:AZ L Y S) {q:Nat} (hq:q<Y.N):Ak L.m Y.N S q:=fun i hi hN=>(h i hi hN).1 q hq
def kF (S:Sx) (r c:Nat):Sx:=⟨nV S.T S.d r c,sg (S.T r c)*S.T r c,upd S.β r c⟩
theorem AE {m w:Nat} {S:Sx} {r c:Nat} (hp:0<S.T r c):StepAt m w S (kF S r c) r c:=by
 have e:sg (S.T r c)=1:=by unfold sg;rw[if_neg (by omega)]
 refine ⟨fun i j _ _=>?_,?_,fun i _=>rfl⟩
 ·show nV S.T S.d r c i j=_
  unfold nV
  rw[e,Int.one_mul]
 ·show sg (S.T r c)*S.T r c=_
  rw[e,Int.one_mul]
theorem AZ.step {S:Sx} (h:AZ L Y S) {r c:Nat} (hc:c<Y.N):AZ L Y (kF S r c):=fun i hi hN=>by
 have hb:(kF S r c).β i=upd S.β r c i:=rfl
 rw[hb] at hN
 unfold upd at hN
 by_cases e:i=r
 ·rw[if_pos e] at hN;omega
 ·rw[if_neg e] at hN
  obtain ⟨h1,h2⟩:=h i hi hN
  have hT:∀j,(kF S r c).T i j=sg (S.T r c)*Dn.piv S.T S.d r c i j:=fun j=>by
   show nV S.T S.d r c i j=_
   unfold nV
   rw[if_neg e]
  have hz:∀j,S.T i j=0->Dn.piv S.T S.d r c i j=0:=fun j hj=>by
   unfold Dn.piv
   rw[hj,h1 c hc,Int.mul_zero,Int.zero_mul,Int.sub_zero,Int.zero_ediv]
  exact ⟨fun j hj=>by rw[hT,hz j (h1 j hj),Int.mul_zero],by rw[hT,hz _ h2,Int.mul_zero]⟩
abbrev mf (L:Lin) (Y:Lay) (x3 cs:List Int) (S:Sx):(List Nat×List (Option (List Int)))×Int×List Int×List Int×List Int×Int×Int×PUnit:=(ic L.m (Y.w L) S.T,S.d,io L.m S.β,x3,cs,(Y.N:Int),((Y.R L:Nat):Int),PUnit.unit)
theorem Dc (h:Bnd L Y) (hp:(Y.w L) ^ L.m<=1180591620717411303424) {x3 cs:List Int} (hcs:∀j,iI cs j=bS L j) {S:Sx} (hv:Y.Val L S) (ha:AZ L Y S) :
  ∃S' ok,bo (ic L.m (Y.w L) S.T) S.d (io L.m S.β) x3 cs (Y.N:Int) ((Y.R L:Nat):Int)=some (ic L.m (Y.w L) S'.T,S'.d,io L.m S'.β,x3,cs,(Y.N:Int),((Y.R L:Nat):Int),ok,())/\Y.Val L S'/\AZ L Y S' /\
   (ok=true->∀j,j<Y.N->0<=zr L.m (bS L) S' j)/\(ok=false->∃q,q<Y.N/\zr L.m (bS L) S' q<0/\∀i,i<L.m->S'.T i q<=0):=by
 have hcs':iI cs=bS L:=funext hcs
 have hm:=h.m
 have hw:=h.w
 have hN:Y.N<=Y.R L:=by unfold Lay.R;omega
 have hRw:Y.R L<Y.w L:=by unfold Lay.R Lay.w;omega
 unfold bo fT
 have fin:∀{x:Option ((List Nat×List (Option (List Int)))×Int×List Int×List Int×List Int×Int×Int×Bool×Unit)},(∃r,x=some r/\∃S' ok,r=(ic L.m (Y.w L) S'.T,S'.d,io L.m S'.β,x3,cs,(Y.N:Int),((Y.R L:Nat):Int),ok,PUnit.unit)/\Y.Val L S'/\AZ L Y S' /\
   (ok=true->∀j,j<Y.N->0<=zr L.m (bS L) S' j)/\(ok=false->∃q,q<Y.N/\zr L.m (bS L) S' q<0/\∀i,i<L.m->S'.T i q<=0))->∃S' ok,x=some (ic L.m (Y.w L) S'.T,S'.d,io L.m S'.β,x3,cs,(Y.N:Int),((Y.R L:Nat):Int),ok,())/\Y.Val L S'/\AZ L Y S' /\
   (ok=true->∀j,j<Y.N->0<=zr L.m (bS L) S' j)/\(ok=false->∃q,q<Y.N/\zr L.m (bS L) S' q<0/\∀i,i<L.m->S'.T i q<=0):=by
  rintro x ⟨r,h1,S',ok,rfl,h3⟩
  exact ⟨S',ok,h1,h3⟩
 refine fin (KP (γ:=Sx) (I:=fun (S:Sx) x=>x=mf L Y x3 cs S/\Y.Val L S/\AZ L Y S)
  (Q:=fun r=>∃S' ok,r=(ic L.m (Y.w L) S'.T,S'.d,io L.m S'.β,x3,cs,(Y.N:Int),((Y.R L:Nat):Int),ok,PUnit.unit)/\Y.Val L S'/\AZ L Y S' /\
   (ok=true->∀j,j<Y.N->0<=zr L.m (bS L) S' j)/\(ok=false->∃q,q<Y.N/\zr L.m (bS L) S' q<0/\∀i,i<L.m->S'.T i q<=0))
  (μ:=fun S=>left L.m (Y.w L) Y.N (Y.R L) (Y.M L) (bS L) S) ?_ (s:=S) ⟨rfl,hv,ha⟩ (Nat.lt_of_lt_of_le (D3 (by unfold Lay.w;omega) S) hp))
 rintro S _ ⟨rfl,hv,ha⟩
 obtain ⟨hd,hb⟩:=h.tabP hv.tb
 have hred:∀j,j<Y.N->bC (qm L.m (Y.w L) S.T,S.d,io L.m S.β,x3,cs,(Y.N:Int),((Y.R L:Nat):Int)) (j:Int)=some (zr L.m (bS L) S j):=fun j hj=>by
  have hjw:j<Y.w L:=by omega
  have:=Cp (m:=L.m) (w:=Y.w L) (T:=S.T) (d:=S.d) (β:=S.β) (j:=j) (x3:=x3) (cs:=cs) (x5:=(Y.N:Int)) (x6:=((Y.R L:Nat):Int)) (by omega) hjw
   (by rw[hcs'];have:=h.cost hd j;omega) (fun i hi=>by rw[hcs'];have:=h.cost (hb i j hi hjw) (S.β i);omega)
  rw[this,hcs']
 rcases rB Y.N (fun j=>decide (zr L.m (bS L) S j<0)) with hnone | ⟨q,hq,hneg,hleast⟩
 ·left
  refine ⟨_,⟨S,true,rfl,hv,ha,fun _ j hj=>by have:=of_decide_eq_false (hnone j hj);omega,fun e=>by cases e⟩,fun rec=>?_⟩
  refine nu Y.N (by omega) (fun j=>((-1:Int),(j:Int),PUnit.unit)) _ (fun again j hj=>?_) (fun again=>?_)
  ·simp only[aY,cT,z7 (show (j:Int)<Y.N by omega),show decide ((-1:Int)<0)=true from rfl,fI,fL,hred j hj,aa,hnone j hj,cF,a8 (show j<=1000000 by omega)]
  ·simp only[aY,cT,cF,z8 (show ¬ (Y.N:Int)<Y.N by omega),show decide ((-1:Int)<0)=true from rfl]
 ·have hneg:=z12 hneg
  have hqw:q<Y.w L:=by omega
  have hent:Enters L.m Y.N (bS L) S q:=⟨hq,hneg,fun j hj=>by have:=of_decide_eq_false (hleast j hj);omega⟩
  have hbb:∀i j,i<L.m->j<Y.w L->(S.T i j).natAbs<4611686018427387904:=fun i j hi hj=>by have:=(h.tab hv.tb).2 i j hi hj;omega
  obtain ⟨b,hl1,hl2⟩:=vW (m:=L.m) (w:=Y.w L) (T:=S.T) (d:=S.d) (β:=S.β) (c:=q) (R:=Y.R L) (x1:=S.d) (x3:=x3) (x4:=cs) (x5:=(Y.N:Int)) (by omega) hqw hRw hbb
  have search:∀{R:Type} {F:(Int×Int×PUnit->Option R)->Int×Int×PUnit->Option R} {res:Option R},(∀again j,j<q->F again ((-1:Int),(j:Int),PUnit.unit)=again ((-1:Int),((j+1:Nat):Int),PUnit.unit)) ->
    (∀again,F again ((-1:Int),(q:Int),PUnit.unit)=again ((q:Int),((q+1:Nat):Int),PUnit.unit))->(∀again,F again ((q:Int),((q+1:Nat):Int),PUnit.unit)=res)->lpK (Int×Int×PUnit) R F ((-1:Int),(0:Int),PUnit.unit)=res:=fun h1 h2 h3=>by
   refine cu (q+1) (by omega) (fun j=>if j<=q then ((-1:Int),(j:Int),PUnit.unit) else ((q:Int),(j:Int),PUnit.unit)) _ (by rw[if_pos (by omega)];rfl) (fun again j hj=>?_) (fun again=>?_)
   ·by_cases e:j=q
    ·subst e
     rw[if_pos (by omega),if_neg (by omega)]
     exact h2 again
    ·rw[if_pos (by omega),if_pos (by omega)]
     exact h1 again j (by omega)
   ·rw[if_neg (by omega)]
    exact h3 again
  rcases hl2 with ⟨e,hno⟩ | ⟨r,e,hlv⟩
  ·subst e
   left
   refine ⟨_,⟨S,false,rfl,hv,ha,fun e=>(by cases e),fun _=>⟨q,hq,hneg,hno⟩⟩,fun rec=>?_⟩
   refine search (fun again j hj=>?_) (fun again=>?_) (fun again=>?_)
   ·simp only[aY,cT,z7 (show (j:Int)<Y.N by omega),show decide ((-1:Int)<0)=true from rfl,fI,fL,hred j (by omega),aa,hleast j hj,cF,a8 (show j<=1000000 by omega)]
   ·simp only[aY,cT,z7 (show (q:Int)<Y.N by omega),show decide ((-1:Int)<0)=true from rfl,fI,fL,hred q hq,aa,z7 hneg,a8 (show q<=1000000 by omega)]
   ·simp only[aY,cT,z8 (show ¬ (q:Int)<0 by omega),jx,Bool.and_false,cF,fI,fL,hl1,aa,show decide ((-1:Int)<0)=true from rfl]
  ·subst e
   right
   have hpr:0<S.T r q:=hlv.pos
   have hr:=hlv.lt
   have hs:=AE (m:=L.m) (w:=Y.w L) hpr
   refine ⟨kF S r q,mf L Y x3 cs (kF S r q),⟨rfl,hv.stepAt hRw hqw (by omega) hlv hs,ha.step hq⟩,xp (Lay.art h.ok).1 (Lay.art h.ok).2 hN hRw hv ⟨hent,hlv,hs⟩,fun rec=>?_⟩
   refine search (fun again j hj=>?_) (fun again=>?_) (fun again=>?_)
   ·simp only[aY,cT,z7 (show (j:Int)<Y.N by omega),show decide ((-1:Int)<0)=true from rfl,fI,fL,hred j (by omega),aa,hleast j hj,cF,a8 (show j<=1000000 by omega)]
   ·simp only[aY,cT,z7 (show (q:Int)<Y.N by omega),show decide ((-1:Int)<0)=true from rfl,fI,fL,hred q hq,aa,z7 hneg,a8 (show q<=1000000 by omega)]
   ·simp only[aY,cT,z8 (show ¬ (q:Int)<0 by omega),jx,Bool.and_false,cF,fI,fL,hl1,aa,z8 (show ¬ (r:Int)<0 by omega),vq (h.piv hv.tb hr hqw (show S.T r q≠0 by omega))]
    rfl
end
section
variable {L:Lin} {Y:Lay}
theorem Val.flat {S:Sx} (hv:Y.Val L S) {r c:Nat} (hr:r<L.m) (hc:c<Y.N) (he:S.T r c≠0) (h0:S.T r (Y.R L)=0):Y.Val L (kF S r c):=by
 have hcw:c<Y.w L:=by unfold Lay.w;omega
 have hRw:Y.R L<Y.w L:=by unfold Lay.R Lay.w;omega
 have hd:=hv.tb.dpos
 refine ⟨hv.tb.step hr hcw he,fun i hi=>?_,fun i hi=>?_⟩
 ·show 0<=nV S.T S.d r c i (Y.R L)
  unfold nV
  by_cases e:i=r
  ·rw[if_pos e,h0,Int.mul_zero];exact Int.le_refl _
  ·rw[if_neg e]
   have h1:=jD hv.tb hr hi (Ne.symm e) hcw hRw
   rw[h0,Int.mul_zero,Int.sub_zero] at h1
   have h2:0<=sg (S.T r c)*S.T r c*S.T i (Y.R L):=Int.mul_nonneg (Int.le_of_lt (Gt he)) (hv.feas i hi)
   rw[Int.mul_assoc,<-h1] at h2
   have h3:sg (S.T r c)*(S.d*Dn.piv S.T S.d r c i (Y.R L))=S.d*(sg (S.T r c)*Dn.piv S.T S.d r c i (Y.R L)):=by grind
   rw[h3] at h2
   exact Int.nonneg_of_mul_nonneg_right h2 hd
 ·show upd S.β r c i≠_
  unfold upd
  split
  ·unfold Lay.R;omega
  ·exact hv.ne i hi
theorem Ba {T:Nat->Nat->Int} {d:Int} {r c i j:Nat} (h1:T i j=0) (h2:T i c=0\/T r j=0):Dn.piv T d r c i j=0:=by
 unfold Dn.piv
 rw[h1,Int.mul_zero]
 rcases h2 with h | h
 ·rw[h,Int.zero_mul,Int.sub_zero,Int.zero_ediv]
 ·rw[h,Int.mul_zero,Int.sub_zero,Int.zero_ediv]
structure Swp (L:Lin) (Y:Lay) (i:Nat) (S:Sx):Prop where
 val:Y.Val L S
 right:∀k,k<L.m->Y.N<=S.β k->S.T k (Y.R L)=0
 rows:∀k,k<L.m->k<i->Y.N<=S.β k->∀j,j<Y.N->S.T k j=0
theorem Swp.step {i:Nat} {S:Sx} (h:Swp L Y i S) {j:Nat} (hi:i<L.m) (hj:j<Y.N) (hN:Y.N<=S.β i) (he:S.T i j≠0):Swp L Y i (kF S i j):=by
 have h0:=h.right i hi hN
 have up:∀k,k≠i->(kF S i j).β k=S.β k:=fun k hk=>by
  show upd S.β i j k=_
  unfold upd
  rw[if_neg hk]
 have ui:(kF S i j).β i=j:=by
  show upd S.β i j i=_
  unfold upd
  rw[if_pos rfl]
 have hT:∀k l,k≠i->(kF S i j).T k l=sg (S.T i j)*Dn.piv S.T S.d i j k l:=fun k l hk=>by
  show nV S.T S.d i j k l=_
  unfold nV
  rw[if_neg hk]
 refine ⟨Val.flat h.val hi hj he h0,fun k hk hb=>?_,fun k hk hlt hb l hl=>?_⟩
 ·have e:k≠i:=fun e=>by rw[e,ui] at hb;omega
  rw[up k e] at hb
  rw[hT k _ e,Ba (h.right k hk hb) (.inr h0),Int.mul_zero]
 ·have e:k≠i:=by omega
  rw[up k e] at hb
  rw[hT k _ e,Ba (h.rows k hk hlt hb l hl) (.inl (h.rows k hk hlt hb j hj)),Int.mul_zero]
def yz (L:Lin) (Y:Lay) (x3 cs:List Int) (o:Option ((List Nat×List (Option (List Int)))×Int×List Int×List Int×List Int×Int×Int×Bool×Unit)):Prop :=
 ∃S' ok,o=some (ic L.m (Y.w L) S'.T,S'.d,io L.m S'.β,x3,cs,(Y.N:Int),((Y.R L:Nat):Int),ok,PUnit.unit)/\Y.Val L S' /\
   (ok=true->AZ L Y S')/\(ok=false->(∀j,j<Y.N->0<=zr L.m (dC Y.N) S' j)/\0<sz L.m fun i=>dC Y.N (S'.β i)*S'.T i (Y.R L))
theorem Aw (h:Bnd L Y) (hp:(Y.w L) ^ L.m<=1180591620717411303424) {x3 cs:List Int} {S:Sx} (hv:Y.Val L S) :
  yz L Y x3 cs (aK (ic L.m (Y.w L) S.T) S.d (io L.m S.β) x3 cs (Y.N:Int) ((Y.R L:Nat):Int)):=by
 have hm:=h.m
 have hw:=h.w
 have hN:Y.N<=Y.R L:=by unfold Lay.R;omega
 have hRw:Y.R L<Y.w L:=by unfold Lay.R Lay.w;omega
 unfold aK gF
 refine tY (γ:=Sx) (I:=fun (S:Sx) x=>x=mf L Y x3 cs S/\Y.Val L S)
  (Q:=yz L Y x3 cs)
  (μ:=fun S=>left L.m (Y.w L) Y.N (Y.R L) (Y.M L) (dC Y.N) S) ?_ (s:=S) ⟨rfl,hv⟩ (Nat.lt_of_lt_of_le (D3 (by unfold Lay.w;omega) S) hp)
 rintro rec S _ ⟨rfl,hv⟩
 obtain ⟨hd,hb⟩:=h.tab hv.tb
 have hbb:∀i j,i<L.m->j<Y.w L->(S.T i j).natAbs<4611686018427387904:=fun i j hi hj=>by have:=hb i j hi hj;omega
 have hart:∀j,j<Y.w L->av (qm L.m (Y.w L) S.T,S.d,io L.m S.β,x3,cs,(Y.N:Int),((Y.R L:Nat):Int)) (j:Int)=some (sz L.m fun i=>dC Y.N (S.β i)*S.T i j):=fun j hj =>
  p9 (by omega) hj fun i hi=>by have:=hb i j hi hj;omega
 have hz:∀j,j<Y.N->zr L.m (dC Y.N) S j= - sz L.m fun i=>dC Y.N (S.β i)*S.T i j:=fun j hj=>by
  unfold zr
  rw[show dC Y.N j=0 from if_neg (by omega),Int.zero_mul,Int.zero_sub]
 rcases rB Y.N (fun j=>decide ((sz L.m fun i=>dC Y.N (S.β i)*S.T i j)>0)) with hnone | ⟨q,hq,hneg,hleast⟩
 ·left
  have search:∀{R:Type} {F:(Int×Int×PUnit->Option R)->Int×Int×PUnit->Option R} {Q:Option R->Prop},(∀again j,j<Y.N->F again ((-1:Int),(j:Int),PUnit.unit)=again ((-1:Int),((j+1:Nat):Int),PUnit.unit)) ->
    (∃res,Q res/\∀again,F again ((-1:Int),(Y.N:Int),PUnit.unit)=res)->Q (lpK (Int×Int×PUnit) R F ((-1:Int),(0:Int),PUnit.unit)):=fun {R} {F} {Q} h1 h3=>by
   obtain ⟨res,h4,h5⟩:=h3
   have e:lpK (Int×Int×PUnit) R F ((-1:Int),(0:Int),PUnit.unit)=res:=cu Y.N (by omega) (fun j=>((-1:Int),(j:Int),PUnit.unit)) res rfl h1 h5
   rw[e]
   exact h4
  refine search (Q:=yz L Y x3 cs) (fun again j hj=>?_) ?_
  ·simp only[aY,cT,z7 (show (j:Int)<Y.N by omega),show decide ((-1:Int)<0)=true from rfl,fI,fL,hart j (by omega),aa,hnone j hj,cF,a8 (show j<=1000000 by omega)]
  ·simp only[aY,cT,cF,z8 (show ¬ (Y.N:Int)<Y.N by omega),show decide ((-1:Int)<0)=true from rfl,fI,fL,hart _ hRw,aa]
   have hzr:∀j,j<Y.N->0<=zr L.m (dC Y.N) S j:=fun j hj=>by
    rw[hz j hj]
    have:=of_decide_eq_false (hnone j hj)
    omega
   by_cases hpos:(sz L.m fun i=>dC Y.N (S.β i)*S.T i (Y.R L))>0
   ·rw[z7 hpos]
    simp only[cT]
    exact ⟨_,⟨S,false,rfl,hv,fun e=>(by cases e),fun _=>⟨hzr,hpos⟩⟩,fun _=>rfl⟩
   ·rw[z8 hpos]
    simp only[cF]
    refine ⟨_,?_,fun _=>rfl⟩
    have hnn:∀i,i<L.m->0<=dC Y.N (S.β i)*S.T i (Y.R L):=fun i hi=>Int.mul_nonneg (by unfold dC;split<;>omega) (hv.feas i hi)
    have hS:Swp L Y 0 S:=by
     refine ⟨hv,fun k hk hNk=>?_,fun k _ h0=>by omega⟩
     have h1:(sz L.m fun i=>if i=k then dC Y.N (S.β k)*S.T k (Y.R L) else 0)<=sz L.m fun i=>dC Y.N (S.β i)*S.T i (Y.R L):=mI fun i hi=>by
      by_cases e:i=k
      ·rw[if_pos e,e];exact Int.le_refl _
      ·rw[if_neg e];exact hnn i hi
     rw[eF hk fun i _ hne=>if_neg hne,if_pos rfl] at h1
     have h2:=hnn k hk
     have h3:dC Y.N (S.β k)=1:=if_pos hNk
     rw[h3,Int.one_mul] at h1 h2
     omega
    refine tY (γ:=Nat×Sx) (I:=fun g x=>x=((g.1:Int),mf L Y x3 cs g.2)/\g.1<=L.m/\Swp L Y g.1 g.2)
     (Q:=yz L Y x3 cs)
     (μ:=fun g=>L.m - g.1) ?_ (s:=(0,S)) ⟨rfl,by omega,hS⟩ (by simp only;omega)
    rintro rec2 ⟨i,S⟩ _ ⟨rfl,hi,hS⟩
    simp only at hi hS
    by_cases hlt:i<L.m
    ·right
     simp only[fV,z7 (show (i:Int)<L.m by omega),cT]
     have inner:∀{R:Type} {F:(Int×(List Nat×List (Option (List Int)))×Int×List Int×List Int×List Int×Int×Int×PUnit->Option R)->Int×(List Nat×List (Option (List Int)))×Int×List Int×List Int×List Int×Int×Int×PUnit->Option R} {k:(Int×(List Nat×List (Option (List Int)))×Int×List Int×List Int×List Int×Int×Int×PUnit->Option R)},
       (∀again (j:Nat) S,Swp L Y i S->j<=Y.N->(j<Y.N->Y.N<=S.β i->S.T i j=0->F again ((j:Int),mf L Y x3 cs S)=again (((j+1:Nat):Int),mf L Y x3 cs S))/\(j<Y.N->Y.N<=S.β i->S.T i j≠0->F again ((j:Int),mf L Y x3 cs S)=again (((j+1:Nat):Int),mf L Y x3 cs (kF S i j))) /\
        (¬ (j<Y.N/\Y.N<=S.β i)->F again ((j:Int),mf L Y x3 cs S)=k (((i+1:Nat):Int),mf L Y x3 cs S))) ->
       ∃S',Swp L Y (i+1) S'/\lpK _ R F ((0:Int),mf L Y x3 cs S)=k (((i+1:Nat):Int),mf L Y x3 cs S'):=fun {R} {F} {k} hF=>by
      refine tY (γ:=Nat×Sx) (I:=fun g x=>x=((g.1:Int),mf L Y x3 cs g.2)/\g.1<=Y.N/\Swp L Y i g.2/\(Y.N<=g.2.β i->∀l,l<g.1->g.2.T i l=0))
       (Q:=fun o=>∃S',Swp L Y (i+1) S'/\o=k (((i+1:Nat):Int),mf L Y x3 cs S')) (μ:=fun g=>Y.N - g.1) ?_ (s:=(0,S)) ⟨rfl,by omega,hS,fun _ l hl=>by omega⟩ (by simp only;omega)
      rintro rec3 ⟨j,S⟩ _ ⟨rfl,hj,hS,hz⟩
      simp only at hj hS hz
      obtain ⟨f1,f2,f3⟩:=hF rec3 j S hS hj
      by_cases hc:j<Y.N/\Y.N<=S.β i
      ·right
       by_cases h0:S.T i j=0
       ·refine ⟨(j+1,S),_,⟨rfl,by simp only;omega,hS,fun hN l hl=>?_⟩,by simp only;omega,f1 hc.1 hc.2 h0⟩
        simp only at hl
        by_cases e:l=j
        ·rw[e];exact h0
        ·exact hz hN l (by omega)
       ·refine ⟨(j+1,kF S i j),_,⟨rfl,by simp only;omega,hS.step hlt hc.1 hc.2 h0,fun hN=>?_⟩,by simp only;omega,f2 hc.1 hc.2 h0⟩
        have e:(kF S i j).β i=j:=by
         show upd S.β i j i=_
         unfold upd
         rw[if_pos rfl]
        rw[e] at hN
        omega
      ·left
       refine ⟨S,⟨hS.val,hS.right,fun k hk hlt' hN l hl=>?_⟩,f3 hc⟩
       by_cases e:k=i
       ·subst e
        exact hz hN l (by omega)
       ·exact hS.rows k hk (by omega) hN l hl
     have fin:∀{o},(∃S',Swp L Y (i+1) S'/\o=rec2 (((i+1:Nat):Int),mf L Y x3 cs S'))->∃(g:Nat×Sx) (y:_),(y=((g.1:Int),mf L Y x3 cs g.2)/\g.1<=L.m/\Swp L Y g.1 g.2)/\L.m - g.1<L.m - i/\o=rec2 y:=by
      rintro o ⟨S',h1,h2⟩
      exact ⟨(i+1,S'),_,⟨rfl,by simp only;omega,h1⟩,by simp only;omega,h2⟩
     refine fin (inner (fun again j S hS hj=>⟨fun c1 c2 c3=>?_,fun c1 c2 c3=>?_,fun c1=>?_⟩))
     ·have hjw:j<Y.w L:=by omega
      simp only[mf,z7 (show (j:Int)<Y.N by omega),gt,aZ,z9,z7 hlt,cM (show Nat.succ i<=L.m from hlt),iW hlt,z7 (show (S.β i:Int)>=Y.N by omega),Bool.not_true,Bool.or_true,Bool.and_self,cT,fV,gq hlt,jc,fS hlt,aR,bB hjw,z7 hjw,cM (show Nat.succ j<=Y.w L from hjw),z7 c3,cF,a8 (show j<=1000000 by omega)]
     ·have hjw:j<Y.w L:=by omega
      simp only[mf,z7 (show (j:Int)<Y.N by omega),gt,aZ,z9,z7 hlt,cM (show Nat.succ i<=L.m from hlt),iW hlt,z7 (show (S.β i:Int)>=Y.N by omega),Bool.not_true,Bool.not_false,Bool.or_true,Bool.and_self,cT,fV,gq hlt,jc,fS hlt,aR,bB hjw,z7 hjw,cM (show Nat.succ j<=Y.w L from hjw),z8 c3,cF,a8 (show j<=1000000 by omega),
       vq (h.piv hS.val.tb hlt hjw c3),aa]
      rfl
     ·by_cases c2:j<Y.N
      ·simp only[mf,z7 (show (j:Int)<Y.N by omega),gt,aZ,z9,z7 hlt,cM (show Nat.succ i<=L.m from hlt),iW hlt,z8 (show ¬ (S.β i:Int)>=Y.N by omega),Bool.not_true,Bool.or_true,Bool.and_self,cT,cF,a8 (show i<=1000000 by omega)]
      ·simp only[mf,z8 (show ¬ (j:Int)<Y.N by omega),Bool.not_false,Bool.true_or,Bool.and_self,cT,cF,a8 (show i<=1000000 by omega)]
    ·left
     have e:i=L.m:=by omega
     subst e
     simp only[fV,z8 (show ¬ (L.m:Int)<L.m by omega),cF]
     exact ⟨S,true,rfl,hS.val,fun _ k hk hN=>⟨hS.rows k hk hk hN,hS.right k hk hN⟩,fun e=>by cases e⟩
 ·have hneg:=z12 hneg
  have hqw:q<Y.w L:=by omega
  have hent:Enters L.m Y.N (dC Y.N) S q:=⟨hq,by rw[hz q hq];omega,fun j hj=>by rw[hz j (by omega)];have:=of_decide_eq_false (hleast j hj);omega⟩
  obtain ⟨b,hl1,hl2⟩:=vW (m:=L.m) (w:=Y.w L) (T:=S.T) (d:=S.d) (β:=S.β) (c:=q) (R:=Y.R L) (x1:=S.d) (x3:=x3) (x4:=cs) (x5:=(Y.N:Int)) (by omega) hqw hRw hbb
  rcases hl2 with ⟨e,hno⟩ | ⟨r,e,hlv⟩
  ·exfalso
   have h1:(sz L.m fun i=>dC Y.N (S.β i)*S.T i q)<=sz L.m fun _=>0:=mI fun i hi=>by
    have:=hno i hi
    unfold dC
    split<;>omega
   rw[fJ (f:=fun _=>0) fun _ _=>rfl] at h1
   omega
  ·subst e
   right
   have hpr:0<S.T r q:=hlv.pos
   have hr:=hlv.lt
   have hs:=AE (m:=L.m) (w:=Y.w L) hpr
   refine ⟨kF S r q,mf L Y x3 cs (kF S r q),⟨rfl,hv.stepAt hRw hqw (by omega) hlv hs⟩,xp (Lay.art h.ok).1 (Lay.art h.ok).2 hN hRw hv ⟨hent,hlv,hs⟩,?_⟩
   refine cu (q+1) (by omega) (fun j=>if j<=q then ((-1:Int),(j:Int),PUnit.unit) else ((q:Int),(j:Int),PUnit.unit)) _ (by rw[if_pos (by omega)];rfl) (fun again j hj=>?_) (fun again=>?_)
   ·by_cases e:j=q
    ·subst e
     rw[if_pos (by omega),if_neg (by omega)]
     simp only[aY,cT,z7 (show (j:Int)<Y.N by omega),show decide ((-1:Int)<0)=true from rfl,fI,fL,hart j hqw,aa,z7 hneg,a8 (show j<=1000000 by omega)]
    ·rw[if_pos (by omega),if_pos (by omega)]
     simp only[aY,cT,z7 (show (j:Int)<Y.N by omega),show decide ((-1:Int)<0)=true from rfl,fI,fL,hart j (by omega),aa,hleast j (by omega),cF,a8 (show j<=1000000 by omega)]
   ·rw[if_neg (by omega)]
    simp only[aY,cT,z8 (show ¬ (q:Int)<0 by omega),jx,Bool.and_false,cF,fI,fL,hl1,aa,show decide ((-1:Int)<0)=true from rfl,vq (h.piv hv.tb hr hqw (show S.T r q≠0 by omega))]
    rfl
open Tryz Dn Dn.Sh
def al (p:Pg):Lin:=⟨p.1.length,p.2.length,fun k j=>(p.2.getD k rw0).1.getD j 0,fun k=>(p.2.getD k rw0).2.2,fun j=>p.1.getD j 0,fun k=>(p.2.getD k rw0).2.1⟩
def fb (p:Pg):Nat->Nat
 | 0=>0
 | k+1=>fb p k+if (p.2.getD k rw0).2.1=3 then 0 else 1
def aq (p:Pg):Lay:=⟨p.1.length+fb p p.2.length,fun k=>p.1.length+fb p k,fun k=>if (p.2.getD k rw0).2.2<0 then -1 else 1⟩
theorem pf {p:Pg}:∀k,fb p k<=k
 | 0=>Nat.le_refl _
 | k+1=>by
  have:=pf (p:=p) k
  simp only[fb]
  split<;>omega
theorem ud {p:Pg} {k:Nat}:∀{l:Nat},k<l->(p.2.getD k rw0).2.1≠3->fb p k<fb p l
 | 0,h,_=>by omega
 | l+1,h,h3=>by
  simp only[fb]
  by_cases e:k=l
  ·subst e
   rw[if_neg h3];omega
  ·have:=ud (l:=l) (by omega) h3
   split<;>omega
theorem kS {p:Pg} (hv:ValidP p):(aq p).ok (al p):=by
 have row:∀k,k<p.2.length->p.2.getD k rw0 ∈ p.2:=fun k hk=>by rw[aU hk];exact List.getElem_mem _
 refine ⟨Nat.le_add_right _ _,fun k hk=>?_,fun k hk h3=>⟨Nat.le_add_right _ _,?_⟩,fun k l hk hl h3 h4 e=>?_,fun k _=>?_,fun k _=>?_⟩
 ·have:=hv.kind _ (row k hk)
  show (p.2.getD k rw0).2.1=1\/(p.2.getD k rw0).2.1=2\/(p.2.getD k rw0).2.1=3
  omega
 ·have:=ud (p:=p) (k:=k) (l:=p.2.length) hk h3
  show p.1.length+fb p k<p.1.length+fb p p.2.length
  omega
 ·have e:p.1.length+fb p k=p.1.length+fb p l:=e
  rcases Nat.lt_trichotomy k l with h | h | h
  ·have:=ud (p:=p) h h3;omega
  ·exact h
  ·have:=ud (p:=p) h h4;omega
 ·show (if (p.2.getD k rw0).2.2<0 then (-1:Int) else 1)=1\/(if (p.2.getD k rw0).2.2<0 then (-1:Int) else 1)= -1
  split<;>omega
 ·show 0<=(if (p.2.getD k rw0).2.2<0 then (-1:Int) else 1)*(p.2.getD k rw0).2.2
  split<;>omega
theorem vw {p:Pg} (hv:ValidP p):(aq p).w (al p)<=25/\(al p).m<=6:=by
 have h1:=pf (p:=p) p.2.length
 have h2:=hv.rows
 have h3:=hv.cost.2
 refine ⟨?_,h2⟩
 show p.1.length+fb p p.2.length+p.2.length+1<=25
 omega
theorem lf {α:Type} {w:Nat} {f:Nat->α}:bv w f++[f w]=bv (w+1) f:=by
 unfold bv
 rw[List.range_succ,List.map_append]
 rfl
theorem B5 {m w:Nat} {T:Nat->Nat->Int}:dj m w T++[some (bv w (T m))]=dj (m+1) w T:=by
 unfold dj
 rw[List.range_succ,List.map_append]
 rfl
theorem JN {l:List Int} {w:Nat} (h:l.length<=w):List.take 0 (List.replicate w (0:Int))++List.take w l++List.drop (0+(List.take w l).length) (List.replicate w 0)=bv w fun j=>l.getD j 0:=by
 rw[List.take_of_length_le h]
 refine List.ext_getElem (by rw[aR];simp;omega) fun i h1 h2=>?_
 rw[ue]
 have hi:i<w:=by rw[aR] at h2;exact h2
 by_cases e:i<l.length
 ·rw[aU e,List.getElem_append_left (by simp;exact e)]
  simp
 ·rw[List.getElem_append_right (by simp;omega),List.getD_eq_getElem?_getD,List.getElem?_eq_none (by omega)]
  simp
abbrev St:=Int×Int×(List Nat×List (Option (List Int)))×Int×List Int×List Int×List Int×Int×Int×PUnit
def Lm {R:Type} (p:Pg) (again:St->Option R) (x:St) (x_1:Int×List Int×PUnit):Option R :=
 let v21:List Int×PUnit:=(x_1.2.1,PUnit.unit);jnK (Int×List Int×PUnit) R (fun (x_2:Int×List Int×PUnit)=>bif inB (IntKind.wrap .i64 (x.2.2.2.2.2.2.2.1+x.2.1)) (List.length x_2.2.1) then bif Nat.ble (Nat.succ (Int.toNat (IntKind.wrap .i64 (x.2.2.2.2.2.2.2.1+x.2.1)))) (List.length x_2.2.1) then bif dx (List.length x.2.2.1.1+(1:Nat)) (24:Nat) then bif dx (List.length x.2.2.2.2.2.1+(1:Nat)) (8:Nat) then bif dx (List.length x.2.2.2.2.1+(1:Nat)) (8:Nat) then again (x_1.1,IntKind.wrap .i64 (x.2.1+(1:Int)),(x.2.2.1.1++[List.length x.2.2.1.2+(0:Nat)],x.2.2.1.2++[some (List.set x_2.2.1 (Int.toNat (IntKind.wrap .i64 (x.2.2.2.2.2.2.2.1+x.2.1))) (1:Int))]),x.2.2.2.1,x.2.2.2.2.1++[(IntKind.wrap .i64 (x.2.2.2.2.2.2.2.1+x.2.1))],x.2.2.2.2.2.1++[x_2.1],x.2.2.2.2.2.2.1,x.2.2.2.2.2.2.2.1,x.2.2.2.2.2.2.2.2.1,PUnit.unit) else none else none else none else none else none) fun (j:Int×List Int×PUnit->Option R)=>bif decide ((List.getD p.2 (Int.toNat x.2.1) ([],(0:Int),(0:Int))).2.2<(0:Int)) then lpK (Int×List Int×PUnit) R (fun (again:Int×List Int×PUnit->Option R) (x:Int×List Int×PUnit) =>
 let v25:Bool:=inB x.1 (List.length x.2.1);
 let v26:Bool:=Nat.ble (Nat.succ (Int.toNat x.1)) (List.length x.2.1);
 bif decide (x.1<(↑(List.length x_1.2.1):Int)) then bif v25 then bif v26 then bif v25 then bif v26 then again (IntKind.wrap .i64 (x.1+(1:Int)),List.set x.2.1 (Int.toNat x.1) (IntKind.wrap .i64 ((0:Int) - List.getD x.2.1 (Int.toNat x.1) (0:Int))),PUnit.unit) else none else none else none else none else j ((-1:Int),x.2.1,PUnit.unit)) ((0:Int),v21) else j ((1:Int),v21)
def KV {R:Type} (p:Pg) (again k:St->Option R) (x:St):Option R :=
 let v12:Int:=IntKind.wrap .i64 (x.1+(1:Int));
 let v13:List Int×Int×Int:=List.getD p.2 (Int.toNat x.2.1) ([],(0:Int),(0:Int));
 let v14:List Int:=List.replicate (Int.toNat (IntKind.wrap .i64 (x.2.2.2.2.2.2.2.2.1+(1:Int)))) (0:Int);
 let v15:Bool:=inB x.1 (Int.toNat (IntKind.wrap .i64 (x.2.2.2.2.2.2.2.2.1+(1:Int))));
 let v16:Bool:=Nat.ble (Nat.succ (Int.toNat x.1)) (Int.toNat (IntKind.wrap .i64 (x.2.2.2.2.2.2.2.2.1+(1:Int))));
 let v17:Int:=IntKind.wrap .i64 (x.2.2.2.2.2.2.2.1+x.2.1);
 let v18:List Int:=List.take (Int.toNat (IntKind.wrap .i64 (x.2.2.2.2.2.2.2.2.1+(1:Int)))) v13.1;
 let v19:List Int:=List.set (List.take (0:Nat) v14++v18++List.drop ((0:Nat)+List.length v18) v14) (Int.toNat x.2.2.2.2.2.2.2.2.1) v13.2.2;
 bif decide (x.2.1<(↑(List.length p.2):Int)) then bif inB x.2.1 (List.length p.2) then bif decide ((0:Int)<=IntKind.wrap .i64 (x.2.2.2.2.2.2.2.2.1+(1:Int)))&&dx (Int.toNat (IntKind.wrap .i64 (x.2.2.2.2.2.2.2.2.1+(1:Int)))) (8:Nat) then bif inB x.2.2.2.2.2.2.2.2.1 (Int.toNat (IntKind.wrap .i64 (x.2.2.2.2.2.2.2.2.1+(1:Int)))) then bif Nat.ble (Nat.succ (Int.toNat x.2.2.2.2.2.2.2.2.1)) (Int.toNat (IntKind.wrap .i64 (x.2.2.2.2.2.2.2.2.1+(1:Int)))) then jnK (Int×List Int×PUnit) R (Lm p again x) fun (j:Int×List Int×PUnit->Option R)=>bif decide (v13.2.1=(1:Int)) then bif v15 then bif v16 then j (v12,List.set v19 (Int.toNat x.1) (1:Int),PUnit.unit) else none else none else jnK (Int×List Int×PUnit) R (fun (x:Int×List Int×PUnit)=>j (x.1,x.2.1,PUnit.unit)) fun (j:Int×List Int×PUnit->Option R)=>bif decide (v13.2.1=(2:Int)) then bif v15 then bif v16 then j (v12,List.set v19 (Int.toNat x.1) (-1:Int),PUnit.unit) else none else none else j (x.1,v19,PUnit.unit) else none else none else none else none else k x
theorem Du {p:Pg} (hv:ValidP p) {R:Type} {again:St->Option R} {i:Nat} (hi:i<p.2.length) {f:Nat->Int} {s s0:Int}
  (hf:∀k,k<(aq p).w (al p)->f k=if k=(aq p).R (al p) then (al p).b i else if (al p).kd i≠3/\k=(aq p).sl i then (if (al p).kd i=1 then 1 else -1) else (p.2.getD i rw0).1.getD k 0) :
  Lm p again (s0,(i:Int),(List.range i,dj i ((aq p).w (al p)) ((aq p).M (al p))),1,io i (fun k=>(aq p).N+k),bv i (aq p).σ,p.1,((aq p).N:Int),(((aq p).R (al p):Nat):Int),PUnit.unit) (s,bv ((aq p).w (al p)) f,PUnit.unit) =
   again (s,((i+1:Nat):Int),(List.range (i+1),dj (i+1) ((aq p).w (al p)) ((aq p).M (al p))),1,io (i+1) (fun k=>(aq p).N+k),bv (i+1) (aq p).σ,p.1,((aq p).N:Int),(((aq p).R (al p):Nat):Int),PUnit.unit):=by
 obtain ⟨h1,h2⟩:=vw hv
 have hr:p.2.getD i rw0 ∈ p.2:=by rw[aU hi];exact List.getElem_mem _
 have hR:=hv.right _ hr
 have hl:=hv.len _ hr
 have hc:=hv.coefs _ hr
 have hn:=hv.cost.2
 have hbb:∀k,k<(aq p).w (al p)-> -1073741824<=f k/\f k<=1073741824:=fun k hk=>by
  rw[hf k hk]
  split
  ·exact z12 hR
  ·split
   ·split<;>omega
   ·by_cases e:k<(p.2.getD i rw0).1.length
    ·have:=z12 (hc ((p.2.getD i rw0).1.getD k 0) (by rw[aU e];exact List.getElem_mem _))
     omega
    ·rw[List.getD_eq_getElem?_getD,List.getElem?_eq_none (by omega)]
     simp
 obtain ⟨w,hw⟩:∃w,w=(aq p).w (al p):=⟨_,rfl⟩
 have hNi:(aq p).N+i<w:=by rw[hw];show (aq p).N+i<(aq p).N+p.2.length+1;omega
 have hNw:(aq p).N+p.2.length+1=w:=hw.symm
 have hm6:p.2.length<=6:=h2
 rw[<-hw] at hf hbb h1 ⊢
 have fin:∀(σ:Int),σ=(aq p).σ i->(List.range i++[(dj i w ((aq p).M (al p))).length+0],dj i w ((aq p).M (al p))++[some ((bv w fun k=>σ*f k).set ((aq p).N+i) 1)])=(List.range (i+1),dj (i+1) w ((aq p).M (al p))):=fun σ hσ=>by
  rw[mQ,Nat.add_zero,<-List.range_succ,ka hNi,<-B5]
  congr 3
  congr 1
  refine dz fun k hk=>?_
  have hok:=kS hv
  unfold Lay.M
  rw[hf k hk,hσ]
  have hNn:(al p).n<=(aq p).N:=hok.n
  have hRe:(aq p).R (al p)=(aq p).N+p.2.length:=rfl
  have hme:(al p).m=p.2.length:=rfl
  rw[hRe,hme]
  by_cases c1:k<(al p).n
  ·rw[if_neg (by omega),if_neg (by omega),if_pos c1,if_neg]
   ·rfl
   ·rintro ⟨e1,e2⟩
    have:=(hok.sl i hi e1).1
    omega
  ·rw[if_neg c1]
   by_cases c2:k<(aq p).N
   ·rw[if_neg (by omega),if_neg (by omega),if_pos c2]
    by_cases c3:(al p).kd i≠3/\k=(aq p).sl i
    ·rw[if_pos c3,if_pos c3]
    ·rw[if_neg c3,if_neg c3,List.getD_eq_getElem?_getD,List.getElem?_eq_none (by rw[hl];exact Nat.not_lt.1 c1)]
     simp
   ·rw[if_neg c2]
    by_cases c3:k<(aq p).N+p.2.length
    ·rw[if_pos c3]
     by_cases c4:k=(aq p).N+i
     ·rw[if_pos c4,if_pos c4]
     ·rw[if_neg c4,if_neg c4,if_neg (by omega),if_neg]
      ·rw[List.getD_eq_getElem?_getD,List.getElem?_eq_none (by rw[hl];exact Nat.not_lt.1 c1)]
       simp
      ·rintro ⟨e1,e2⟩
       have:=(hok.sl i hi e1).2
       omega
    ·rw[if_neg c3,if_neg (by omega),if_pos (by omega)]
 have hadd:IntKind.wrap .i64 (((aq p).N:Int)+(i:Int))=(((aq p).N+i:Nat):Int):=by rw[aW (by omega) (by omega)];rfl
 have hg:∀{n k:Nat},n<=1000->k<=24->dx n k=true:=fun {n k} h1 h2=>eL (Nat.le_trans (Nat.mul_le_mul h1 h2) (by decide))
 have tail:∀(σ:Int),σ=(aq p).σ i->(bif inB (IntKind.wrap .i64 (((aq p).N:Int)+(i:Int))) (bv w fun k=>σ*f k).length then bif Nat.ble (Nat.succ (Int.toNat (IntKind.wrap .i64 (((aq p).N:Int)+(i:Int))))) (bv w fun k=>σ*f k).length then
   bif dx ((List.range i).length+1) 24 then bif dx ((bv i (aq p).σ).length+1) 8 then bif dx ((io i fun k=>(aq p).N+k).length+1) 8 then
   again (s,IntKind.wrap .i64 ((i:Int)+1),(List.range i++[(dj i w ((aq p).M (al p))).length+0],dj i w ((aq p).M (al p))++[some ((bv w fun k=>σ*f k).set (Int.toNat (IntKind.wrap .i64 (((aq p).N:Int)+(i:Int)))) 1)]),1,
    (io i fun k=>(aq p).N+k)++[IntKind.wrap .i64 (((aq p).N:Int)+(i:Int))],bv i (aq p).σ++[σ],p.1,((aq p).N:Int),(((aq p).R (al p):Nat):Int),PUnit.unit) else none else none else none else none else none) =
   again (s,((i+1:Nat):Int),(List.range (i+1),dj (i+1) w ((aq p).M (al p))),1,io (i+1) (fun k=>(aq p).N+k),bv (i+1) (aq p).σ,p.1,((aq p).N:Int),(((aq p).R (al p):Nat):Int),PUnit.unit):=fun σ hσ=>by
  rw[hadd,z9,fin σ hσ,aR,aZ,z7 hNi,cM hNi,List.length_range,aR,gt,hg (by omega) (by omega),hg (by omega) (by omega),a8 (show i<=1000000 by omega),hσ,lf]
  simp only[cT]
  rw[show (io i fun k=>(aq p).N+k)++[(((aq p).N+i:Nat):Int)]=io (i+1) (fun k=>(aq p).N+k) from lf (f:=fun k=>(((aq p).N+k:Nat):Int))]
 unfold Lm
 simp only[oZ,z9]
 by_cases hneg:(p.2.getD i rw0).2.2<0
 ·have hs:(aq p).σ i= -1:=if_pos hneg
  rw[z7 hneg,cond_true]
  refine cu w (by omega) (fun k=>((k:Int),bv w (fun j=>if j<k then -1*f j else f j),PUnit.unit)) _ ?_ (fun again2 k hk=>?_) (fun again2=>?_)
  ·rw[dz (f:=fun j=>if j<0 then -1*f j else f j) (g:=f) fun j _=>if_neg (by omega)];rfl
  ·have hb:=hbb k hk
   simp only[aR,aZ,z9,z7 hk,z7 (show (k:Int)<w by omega),cM (show Nat.succ k<=w from hk),bB hk,cT,if_neg (Nat.lt_irrefl k),a8 (show k<=1000000 by omega),aW (show -9223372036854775808<=0 - f k by omega) (by omega),ka hk]
   congr 3
   refine dz fun j _=>?_
   by_cases c:j=k
   ·rw[if_pos c,if_pos (by omega),c];omega
   ·rw[if_neg c]
    by_cases c2:j<k
    ·rw[if_pos c2,if_pos (by omega)]
    ·rw[if_neg c2,if_neg (by omega)]
  ·simp only[aR,z8 (show ¬ (w:Int)<w by omega),cF]
   rw[dz (f:=fun j=>if j<w then -1*f j else f j) (g:=fun j=> -1*f j) fun j hj=>if_pos hj]
   have:=tail (-1) hs.symm
   simp only[aR] at this
   exact this
 ·have hs:(aq p).σ i=1:=if_neg hneg
  rw[z8 hneg,cond_false]
  have:=tail 1 hs.symm
  rw[dz (f:=fun j=>1*f j) (g:=f) fun j _=>Int.one_mul _] at this
  exact this
theorem FR {p:Pg} (hv:ValidP p) {R:Type} {k:St->Option R} :
  lpK St R (fun again x=>KV p again k x) ((p.1.length:Int),(0:Int),([],[]),(1:Int),[],[],p.1,((aq p).N:Int),(((aq p).R (al p):Nat):Int),PUnit.unit) =
   k (((aq p).N:Int),(p.2.length:Int),ic p.2.length ((aq p).w (al p)) ((aq p).M (al p)),1,io p.2.length (fun k=>(aq p).N+k),bv p.2.length (aq p).σ,p.1,((aq p).N:Int),(((aq p).R (al p):Nat):Int),PUnit.unit):=by
 obtain ⟨h1,h2⟩:=vw hv
 have hok:=kS hv
 have hm6:p.2.length<=6:=h2
 obtain ⟨w,hw⟩:∃w,w=(aq p).w (al p):=⟨_,rfl⟩
 have hR1:(aq p).R (al p)+1=w:=by rw[hw]
 refine cu p.2.length (by omega) (fun i=>(((p.1.length+fb p i:Nat):Int),(i:Int),(List.range i,dj i ((aq p).w (al p)) ((aq p).M (al p))),1,io i (fun k=>(aq p).N+k),bv i (aq p).σ,p.1,((aq p).N:Int),(((aq p).R (al p):Nat):Int),PUnit.unit)) _ rfl (fun again i hi=>?_) (fun again=>?_)
 ·have hr:p.2.getD i rw0 ∈ p.2:=by rw[aU hi];exact List.getElem_mem _
  have hl:=hv.len _ hr
  have hkd:=hv.kind _ hr
  have hN:p.1.length<=(aq p).N:=hok.n
  have hNR:(aq p).N+p.2.length=(aq p).R (al p):=rfl
  have hRw:(aq p).R (al p)<w:=by omega
  rw[<-hw] at h1
  have hsl:(aq p).sl i=p.1.length+fb p i:=rfl
  have hcs:=pf (p:=p) i
  unfold KV
  simp only[a8 (show (aq p).R (al p)<=1000000 by omega),hR1,z9,aZ,z7 hi,z7 (show (i:Int)<p.2.length by omega),z7 (show (0:Int)<=(w:Nat) by omega),eL (show w*8<=140737488355328 by omega),z7 hRw,cM (show Nat.succ ((aq p).R (al p))<=w from hRw),Bool.and_self,cT,oZ,JN (show (p.2.getD i rw0).1.length<=w by omega),ka hRw]
  by_cases k3:(p.2.getD i rw0).2.1=3
  ·have ec:fb p (i+1)=fb p i:=by simp only[fb,if_pos k3,Nat.add_zero]
   rw[ec,z8 (show ¬ (p.2.getD i rw0).2.1=1 by omega),z8 (show ¬ (p.2.getD i rw0).2.1=2 by omega)]
   simp only[cF]
   have:=Du hv (again:=again) (s0:=((p.1.length+fb p i:Nat):Int)) (s:=((p.1.length+fb p i:Nat):Int)) hi (f:=fun k=>if k=(aq p).R (al p) then (p.2.getD i rw0).2.2 else (p.2.getD i rw0).1.getD k 0) (fun k hk=>by
    show (if k=(aq p).R (al p) then (p.2.getD i rw0).2.2 else (p.2.getD i rw0).1.getD k 0)=if k=(aq p).R (al p) then (p.2.getD i rw0).2.2 else _
    by_cases c:k=(aq p).R (al p)
    ·rw[if_pos c,if_pos c]
    ·rw[if_neg c,if_neg c,if_neg]
     rintro ⟨e,_⟩
     exact e k3)
   rw[<-hw] at this
   exact this
  ·have hslN:(aq p).sl i<(aq p).N:=(hok.sl i hi k3).2
   have hslw:p.1.length+fb p i<w:=by omega
   have ec:fb p (i+1)=fb p i+1:=by simp only[fb,if_neg k3]
   rw[ec]
   have step:∀(v:Int),v=(if (al p).kd i=1 then 1 else -1)->Lm p again ((((p.1.length+fb p i:Nat):Int)),(i:Int),(List.range i,dj i ((aq p).w (al p)) ((aq p).M (al p))),1,io i (fun k=>(aq p).N+k),bv i (aq p).σ,p.1,((aq p).N:Int),(((aq p).R (al p):Nat):Int),PUnit.unit)
     (((p.1.length+fb p i+1:Nat):Int),(bv w fun k=>if k=(aq p).R (al p) then (p.2.getD i rw0).2.2 else (p.2.getD i rw0).1.getD k 0).set (p.1.length+fb p i) v,PUnit.unit)=again (((p.1.length+(fb p i+1):Nat):Int),((i+1:Nat):Int),(List.range (i+1),dj (i+1) ((aq p).w (al p)) ((aq p).M (al p))),1,io (i+1) (fun k=>(aq p).N+k),bv (i+1) (aq p).σ,p.1,((aq p).N:Int),(((aq p).R (al p):Nat):Int),PUnit.unit):=fun v hvv=>by
    rw[ka hslw]
    have:=Du hv (again:=again) (s0:=((p.1.length+fb p i:Nat):Int)) (s:=((p.1.length+fb p i+1:Nat):Int)) hi (f:=fun k=>if k=p.1.length+fb p i then v else if k=(aq p).R (al p) then (p.2.getD i rw0).2.2 else (p.2.getD i rw0).1.getD k 0) (fun k hk=>by
     show (if k=p.1.length+fb p i then v else if k=(aq p).R (al p) then (p.2.getD i rw0).2.2 else (p.2.getD i rw0).1.getD k 0)=if k=(aq p).R (al p) then (p.2.getD i rw0).2.2 else _
     by_cases c:k=(aq p).R (al p)
     ·rw[if_pos c,if_pos c,if_neg (by omega)]
     ·rw[if_neg c,if_neg c]
      by_cases c2:k=p.1.length+fb p i
      ·rw[if_pos c2,if_pos ⟨k3,c2⟩,hvv]
      ·rw[if_neg c2,if_neg fun h=>c2 h.2])
    rw[<-hw] at this ⊢
    exact this
   by_cases k1:(p.2.getD i rw0).2.1=1
   ·have:=step 1 (if_pos (show (al p).kd i=1 from k1)).symm
    rw[<-hw] at this
    rw[z7 k1]
    simp only[cT,z7 hslw,cM (show Nat.succ (p.1.length+fb p i)<=w from hslw),a8 (show p.1.length+fb p i<=1000000 by omega)]
    exact this
   ·have k2:(p.2.getD i rw0).2.1=2:=by omega
    have:=step (-1) (if_neg (show ¬ (al p).kd i=1 from k1)).symm
    rw[<-hw] at this
    rw[z8 k1,z7 k2]
    simp only[cT,cF,z7 hslw,cM (show Nat.succ (p.1.length+fb p i)<=w from hslw),a8 (show p.1.length+fb p i<=1000000 by omega)]
    exact this
 ·unfold KV
  simp only[z8 (show ¬ (p.2.length:Int)<p.2.length by omega),cF]
  rfl
theorem wP {p:Pg} (hv:ValidP p) {R:Type} {F:(Int×Int×PUnit->Option R)->Int×Int×PUnit->Option R} (Q:Option R->Prop)
  (hF:∀again (i:Nat) (s:Int),i<p.2.length->F again (s,(i:Int),PUnit.unit)=bif !decide ((p.2.getD i rw0).2.1=3) then again (IntKind.wrap .i64 (s+1),((i+1:Nat):Int),PUnit.unit) else again (s,((i+1:Nat):Int),PUnit.unit))
  (hf:∀again,Q (F again (((fb p p.2.length:Nat):Int),(p.2.length:Int),PUnit.unit))):Q (lpK (Int×Int×PUnit) R F ((0:Int),(0:Int),PUnit.unit)):=by
 have hm:=hv.rows
 refine H9 Q p.2.length (by omega) (fun i=>(((fb p i:Nat):Int),(i:Int),PUnit.unit)) rfl (fun again i hi=>?_) hf
 rw[hF again i _ hi]
 have:=pf (p:=p) i
 by_cases k3:(p.2.getD i rw0).2.1=3
 ·rw[z7 k3]
  simp only[fb,if_pos k3,Nat.add_zero,Bool.not_true,cF]
 ·rw[z8 k3]
  simp only[fb,if_neg k3,Bool.not_false,cT,a8 (show fb p i<=1000000 by omega)]
theorem vK {p:Pg} (hv:ValidP p) {R:Type} {k:St->Option R} (Q:Option R->Prop)
  (h:Q (k (((aq p).N:Int),(p.2.length:Int),ic p.2.length ((aq p).w (al p)) ((aq p).M (al p)),1,io p.2.length (fun k=>(aq p).N+k),bv p.2.length (aq p).σ,p.1,((aq p).N:Int),(((aq p).R (al p):Nat):Int),PUnit.unit))) :
  Q (lpK St R (fun again x=>KV p again k x) ((p.1.length:Int),(0:Int),([],[]),(1:Int),[],[],p.1,((aq p).N:Int),(((aq p).R (al p):Nat):Int),PUnit.unit)):=by
 rw[FR hv]
 exact h
end
end Go.Proofs.YtfknoaclabfdlaaGreat

namespace Go.Proofs.YtfknoaclabfdlaaGreat
open Tryz Dn Dn.Sh
def fac (L:Lin):Nat->Int
 | 0=>L.F0
 | k+1=>L.F k
def pp (f:Nat->Int):Nat->Int
 | 0=>1
 | n+1=>pp f n*f n
def mx (f:Nat->Int):Nat->Int
 | 0=>f 0
 | n+1=>max (mx f n) (f (n+1))
def fE (L:Lin):Prop:=pp (fac L) (L.m+1)<=17592186044416/\pp (fac L) (L.m+1)*mx (fac L) L.m<=144115188075855872
instance (L:Lin):Decidable (fE L):=by unfold fE;infer_instance
theorem zm (L:Lin) (k:Nat):1<=fac L k:=by
 cases k with
 | zero=>exact L.F0_pos
 | succ k=>exact L.F_pos k
theorem AP {f:Nat->Int}:∀{n:Nat},pp f (n+1)=f 0*pz n fun i=>f (i+1)
 | 0=>by simp[pp,pz]
 | n+1=>by
  have e:∀{n:Nat} {g:Nat->Int},pz (n+1) g=pz n g*g n:=by
   intro n
   induction n with
   | zero=>intro g;simp[pz]
   | succ n ih =>
    intro g
    have h:=ih (g:=fun i=>g (i+1))
    rw[pz,h,pz,Int.mul_assoc]
  rw[pp,AP (n:=n),e,Int.mul_assoc]
theorem PM (L:Lin):pp (fac L) (L.m+1)=L.F0*L.P:=AP
theorem u5 {f:Nat->Int} (h:∀i,1<=f i):∀n,1<=pp f n
 | 0=>by simp[pp]
 | n+1=>by
  have h1:=u5 h n
  have h2:=Int.mul_le_mul h1 (h n) (by omega) (by omega)
  simp only[pp]
  omega
theorem Ei {f:Nat->Int} (h:∀i,1<=f i) {n:Nat}:∀{k:Nat},pp f n<=pp f (n+k)
 | 0=>Int.le_refl _
 | k+1=>by
  have h1:=Ei h (n:=n) (k:=k)
  have h2:=u5 h (n+k)
  have h3:pp f (n+k)*1<=pp f (n+k)*f (n+k):=Int.mul_le_mul_of_nonneg_left (h _) (by omega)
  rw[<-Nat.add_assoc]
  simp only[pp]
  omega
theorem ME {f:Nat->Int} {n:Nat}:∀{i:Nat},i<=n->f i<=mx f n:=by
 induction n with
 | zero=>intro i h;rw[show i=0 by omega];exact Int.le_refl _
 | succ n ih =>
  intro i h
  simp only[mx]
  by_cases e:i=n+1
  ·rw[e];omega
  ·have:=ih (i:=i) (by omega)
   omega
theorem Mt {f:Nat->Int} {B:Int}:∀{n:Nat},(∀i,i<=n->f i<=B)->mx f n<=B
 | 0,h=>h 0 (by omega)
 | n+1,h=>by
  have h1:=Mt (n:=n) fun i hi=>h i (by omega)
  have h2:=h (n+1) (by omega)
  simp only[mx]
  omega
theorem vJ {l:List Int} (h:∀n ∈ l,inC n=true) (j:Nat):ab (l.getD j 0)<=1048576:=by
 rw[sY]
 by_cases e:j<l.length
 ·exact z12 (h _ (by rw[aU e];exact List.getElem_mem _))
 ·rw[List.getD_eq_getElem?_getD,List.getElem?_eq_none (by omega)]
  simp
theorem sf {l:List Int} (h:∀n ∈ l,inC n=true) {n:Nat} (hn:n<=12):0<=sz n (fun j=>ab (l.getD j 0))/\sz n (fun j=>ab (l.getD j 0))<=12582912:=by
 refine ⟨gy fun _ _=>bD _,?_⟩
 have h1:=(ij (n:=n) (f:=fun j=>ab (l.getD j 0)) (B:=1048576) fun j _=>⟨by have:=bD (l.getD j 0);omega,vJ h j⟩).2
 omega
theorem FL {p:Pg} (hv:ValidP p) {k:Nat} (hk:k<=p.2.length):fac (al p) k<=2147483648:=by
 have hn:=hv.cost.2
 cases k with
 | zero =>
  have:=sf hv.cs hn
  show 1+sz p.1.length (fun j=>ab (p.1.getD j 0))<=_
  omega
 | succ k =>
  have hr:p.2.getD k rw0 ∈ p.2:=by rw[aU (show k<p.2.length by omega)];exact List.getElem_mem _
  have h1:=sf (hv.coefs _ hr) hn
  have h2:=z12 (hv.right _ hr)
  have h3:ab (p.2.getD k rw0).2.2<=1073741824:=sY.2 h2
  show 1+ab (p.2.getD k rw0).2.2+sz p.1.length (fun j=>ab ((p.2.getD k rw0).1.getD j 0))<=_
  omega
theorem zU {l:List Int} {more:Int} (h:∀n ∈ l,inC n=true) (hl:l.length<=12) (hm:inR more=true):cO l more=some (1+ab more+sz l.length fun j=>ab (l.getD j 0)):=by
 have hm:=z12 hm
 have hma:ab more<=1073741824:=sY.2 hm
 have hma0:=bD more
 unfold cO jL
 rw[rx (by omega) (by omega),obN]
 have e0:((more.natAbs:Nat):Int)=ab more:=rfl
 refine cu l.length (by omega) (fun i=>(1+ab more+sz i (fun j=>ab (l.getD j 0)),(i:Int),PUnit.unit)) _ ?_ (fun again i hi=>?_) (fun again=>?_)
 ·rw[e0,aW (x:=ab more) (by omega) (by omega),aW (by omega) (by omega)]
  simp only[sz,Int.add_zero]
  rfl
 ·have h1:=vJ h i
  have h0:=bD (l.getD i 0)
  have h2:=sf h (n:=i) (by omega)
  have h3: -1048576<=l.getD i 0/\l.getD i 0<=1048576:=sY.1 h1
  have e1:((l.getD i 0).natAbs:Int)=ab (l.getD i 0):=rfl
  simp only[aZ,z9,z7 hi,z7 (show (i:Int)<l.length by omega),cT,rx (show -9223372036854775808<=l.getD i 0 by omega) (by omega),aa,e1,a8 (show i<=1000000 by omega)]
  rw[aW (x:=ab (l.getD i 0)) (by omega) (by omega),aW (by omega) (by omega)]
  simp only[sz]
  congr 2
  omega
 ·simp only[z8 (show ¬ (l.length:Int)<l.length by omega),cF]
theorem KS {n:Nat} {f:Nat->Int} (hn:n<=1000):df (bv (n+1) f)=some (mx f n):=by
 unfold df jG
 simp only[oZ,aR,z8 (show ¬ ((n+1:Nat):Int)<1 by omega),cF,show inB (0:Int) (n+1)=true from sP (by omega) (by omega),cT,bB (show 0<n+1 by omega)]
 refine cu n (by omega) (fun i=>(mx f i,((i+1:Nat):Int),PUnit.unit)) _ rfl (fun again i hi=>?_) (fun again=>?_)
 ·simp only[z7 (show ((i+1:Nat):Int)<(n+1:Nat) by omega),aZ,z7 (show i+1<n+1 by omega),z9,cT,bB (show i+1<n+1 by omega),LN,a8 (show i+1<=1000000 by omega)]
  rfl
 ·simp only[z8 (show ¬ ((n+1:Nat):Int)<(n+1:Nat) by omega),cF]
theorem CT {a b c:Int} (hc:0<c):a<=b / c↔a*c<=b:=Int.le_ediv_iff_mul_le hc
theorem B7 {a b c:Int} (hc:0<c):a>b / c↔b<a*c:=Int.ediv_lt_iff_lt_mul hc
theorem rm {p:Pg} (hv:ValidP p):bZ p=some (decide (fE (al p))):=by
 have hm:=hv.rows
 have hn:=hv.cost.2
 unfold bZ lH
 rw[zU hv.cs hn (by decide),obN]
 obtain ⟨f,hf⟩:∃f,f=fac (al p):=⟨_,rfl⟩
 have hpos:∀i,1<=f i:=fun i=>by rw[hf];exact zm _ i
 have hsm:∀k,k<=p.2.length->f k<=2147483648:=fun k hk=>by rw[hf];exact FL hv hk
 have hF:fE (al p)=(pp f (p.2.length+1)<=17592186044416/\pp f (p.2.length+1)*mx f p.2.length<=144115188075855872):=by rw[hf];rfl
 refine cu p.2.length (by omega) (fun i=>(bv (i+1) f,(i:Int),PUnit.unit)) _ ?_ (fun again i hi=>?_) (fun again=>?_)
 ·rw[hf]
  show _=([fac (al p) 0],(0:Int),PUnit.unit)
  congr 2
 ·have hr:p.2.getD i rw0 ∈ p.2:=by rw[aU hi];exact List.getElem_mem _
  have h1:=zU (hv.coefs _ hr) (by rw[hv.len _ hr];exact hn) (hv.right _ hr)
  simp only[aZ,z9,z7 hi,z7 (show (i:Int)<p.2.length by omega),cT,h1,aa,aR,eL (show (i+1+1)*8<=140737488355328 by omega),a8 (show i<=1000000 by omega)]
  have e:f (i+1)=1+ab (p.2.getD i rw0).2.2+sz (p.2.getD i rw0).1.length (fun j=>ab ((p.2.getD i rw0).1.getD j 0)):=by
   rw[hf,hv.len _ hr]
   rfl
  rw[<-e,lf]
 ·simp only[z8 (show ¬ (p.2.length:Int)<p.2.length by omega),cF,aR,KS (show p.2.length<=1000 by omega),aa]
  have hmx:1<=mx f p.2.length/\mx f p.2.length<=2147483648:=⟨Int.le_trans (hpos 0) (ME (by omega)),Mt hsm⟩
  have round:∀{R:Type} {a b:Option R} (i:Nat),i<p.2.length+1->(bif nzB (f i) then bif decide (pp f i>IntKind.wrap .i64 (Int.tdiv 17592186044416 (f i))) then a else b else none)=bif decide (pp f (i+1)>17592186044416) then a else b:=fun i hi=>by
   have h1:=hpos i
   have h2:=hsm i (by omega)
   rw[ls (by omega),cond_true,Int.tdiv_eq_ediv_of_nonneg (by omega)]
   have h3:0<=17592186044416 / f i:=Int.ediv_nonneg (by omega) (by omega)
   have h4:17592186044416 / f i<=17592186044416:=Int.ediv_le_self _ (by omega)
   rw[aW (by omega) (by omega),decide_eq_decide.2 (B7 (a:=pp f i) (show 0<f i by omega))]
   rfl
  rcases rB (p.2.length+1) (fun i=>decide (pp f (i+1)>17592186044416)) with hnone | ⟨q,hq,hbig,hleast⟩
  ·have hall:∀i,i<=p.2.length+1->pp f i<=17592186044416:=fun i hi=>by
    cases i with
    | zero=>simp[pp]
    | succ i=>have:=of_decide_eq_false (hnone i (by omega));omega
   refine cu (p.2.length+1) (by omega) (fun i=>(pp f i,(i:Int),PUnit.unit)) _ rfl (fun again i hi=>?_) (fun again=>?_)
   ·have h2:=hall (i+1) (by omega)
    have h3:=u5 hpos (i+1)
    simp only[z7 (show (i:Int)<(p.2.length+1:Nat) by omega),aZ,z7 hi,z9,bB hi,cM (show Nat.succ i<=p.2.length+1 from hi),cT,round i hi,hnone i hi,cF,a8 (show i<=1000000 by omega)]
    rw[aW (x:=pp f i*f i) (by simp only[pp] at h2 h3;omega) (by simp only[pp] at h2;omega)]
    rfl
   ·simp only[z8 (show ¬ ((p.2.length+1:Nat):Int)<(p.2.length+1:Nat) by omega),cF]
    rw[ls (by omega),cond_true,Int.tdiv_eq_ediv_of_nonneg (by omega)]
    have h3:0<=144115188075855872 / mx f p.2.length:=Int.ediv_nonneg (by omega) (by omega)
    have h4:144115188075855872 / mx f p.2.length<=144115188075855872:=Int.ediv_le_self _ (by omega)
    rw[aW (by omega) (by omega)]
    congr 1
    refine decide_eq_decide.2 ?_
    rw[CT (a:=pp f (p.2.length+1)) (show 0<mx f p.2.length by omega),hF]
    exact ⟨fun h=>⟨hall _ (by omega),h⟩,fun h=>h.2⟩
  ·have hlow:∀i,i<=q->pp f i<=17592186044416:=fun i hi=>by
    cases i with
    | zero=>simp[pp]
    | succ i=>have:=of_decide_eq_false (hleast i (by omega));omega
   refine cu q (by omega) (fun i=>(pp f i,(i:Int),PUnit.unit)) _ rfl (fun again i hi=>?_) (fun again=>?_)
   ·have h2:=hlow (i+1) (by omega)
    have h3:=u5 hpos (i+1)
    simp only[z7 (show (i:Int)<(p.2.length+1:Nat) by omega),aZ,z7 (show i<p.2.length+1 by omega),z9,bB (show i<p.2.length+1 by omega),cM (show Nat.succ i<=p.2.length+1 by omega),cT,round i (by omega),hleast i hi,cF,a8 (show i<=1000000 by omega)]
    rw[aW (x:=pp f i*f i) (by simp only[pp] at h2 h3;omega) (by simp only[pp] at h2;omega)]
    rfl
   ·simp only[z7 (show (q:Int)<(p.2.length+1:Nat) by omega),aZ,z7 hq,z9,bB hq,cM (show Nat.succ q<=p.2.length+1 from hq),cT,round q hq,hbig]
    congr 1
    refine (z8 ?_).symm
    rw[hF]
    rintro ⟨h1,_⟩
    have h2:=z12 hbig
    have h3:=Ei hpos (n:=q+1) (k:=p.2.length - q)
    rw[show q+1+(p.2.length - q)=p.2.length+1 by omega] at h3
    omega
theorem vi {p:Pg} (hv:ValidP p) (hf:fE (al p)):Bnd (al p) (aq p):=by
 obtain ⟨h1,h2⟩:=vw hv
 refine ⟨kS hv,by omega,by omega,?_⟩
 rw[<-PM]
 exact hf.1
theorem JQ {p:Pg} (hf:fE (al p)) {k:Nat} (hk:k<=p.2.length):(al p).F0*(al p).P*fac (al p) k<=144115188075855872:=by
 rw[<-PM]
 have h1:=ME (f:=fac (al p)) hk
 have h2:=u5 (zm (al p)) ((al p).m+1)
 have h3:=Int.mul_le_mul_of_nonneg_left h1 (show 0<=pp (fac (al p)) ((al p).m+1) by omega)
 exact Int.le_trans h3 hf.2
end Go.Proofs.YtfknoaclabfdlaaGreat

namespace Go.Proofs.YtfknoaclabfdlaaGreat
noncomputable section
open Tryz Dn Dn.Sh
theorem sB {p:Pg} (j:Nat):iI p.1 j=bS (al p) j:=by
 unfold bS iI
 by_cases h:j<(al p).n
 ·rw[if_pos h];rfl
 ·rw[if_neg h,List.getD_eq_getElem?_getD,List.getElem?_eq_none (Nat.not_lt.1 h)];rfl
theorem GI {n d:Int} (hd:d≠0) (hn:n.natAbs<=1152921504606846976) (hd2:d.natAbs<=1152921504606846976):sG (CH n d)=(prQ ((n:Rat) / d),0,()):=by
 obtain ⟨m1,m2,m3⟩:=D2 (s:=decide (n<0) !=decide (d<0)) (n:=n.natAbs) (d:=d.natAbs) (by omega)
 obtain ⟨m4,m5⟩:=DC (s:=decide (n<0) !=decide (d<0)) m2 m3
 have hf:cD (CH n d):=by
  unfold cD CH
  rw[m1,m4,m5]
  have a1:n.natAbs / Nat.gcd n.natAbs d.natAbs<=n.natAbs:=Nat.div_le_self _ _
  have a2:d.natAbs / Nat.gcd n.natAbs d.natAbs<=d.natAbs:=Nat.div_le_self _ _
  refine ⟨?_,by rw[<-m5] at *;omega⟩
  unfold sgn
  generalize n.natAbs / Nat.gcd n.natAbs d.natAbs=p at *
  split<;>omega
 unfold sG
 rw[if_pos hf,zo hd]
theorem rY {n d:Int} (hd:d≠0) (hn:n.natAbs<=1152921504606846976) (hd2:d.natAbs<=1152921504606846976):cD ((n:Rat) / d):=by
 have h:=GI hd hn hd2
 rw[zo hd] at h
 rcases iH ((n:Rat) / d) with ⟨h1,_⟩ | ⟨_,h2⟩
 ·exact h1
 ·rw[h2] at h
  exact absurd (show (5:Int)=0 from congrArg (fun x:Fq×Int×Unit=>x.2.1) h) (by decide)
theorem tT {M:List (List Int)} {d n:Int} {x2 x3 cs:List Int} {x5 x6:Int} (hd:0<d/\d<=17592186044416) (hn:n.natAbs<=1152921504606846976):aH (M,d,x2,x3,cs,x5,x6) n=some (prQ ((n:Rat) / (d:Rat))):=by
 simp only[aH,gL,Km (show -9223372036854775808<=n by omega) (by omega) (show -9223372036854775808<=d by omega) (by omega),aa,if_neg (show ¬ d=0 by omega)]
 rw[zo (by omega)]
 unfold sG
 rw[if_pos (rY (by omega) hn (by omega))]
theorem LR {n:Nat}:List.replicate n (0:Int)=bv n fun _=>0:=by
 refine List.ext_getElem (by rw[aR];simp) fun i h1 h2=>?_
 rw[ue,List.getElem_replicate]
theorem zx {p:Pg} (k:Nat) (x:Int):((aq p).σ k*x).natAbs=x.natAbs:=by
 show ((if (p.2.getD k rw0).2.2<0 then (-1:Int) else 1)*x).natAbs=_
 split<;>omega
theorem BI {m w:Nat} {T:Nat->Nat->Int}:((ic m w T).1.all fun x=>eJ (dj m w T) x)=true:=fI
theorem BA {m w:Nat} {T:Nat->Nat->Int}:(ic m w T).1.map (fun x=>ah (dj m w T) x)=qm m w T:=fL
abbrev xL (p:Pg) (S:Sx):List Fq:=bv p.1.length fun j=>prQ (xW (al p).m ((aq p).R (al p)) S j)
abbrev yL (p:Pg) (wc:Nat->Int) (S:Sx):List Fq:=bv p.2.length fun k=>prQ (od (al p).m (aq p).N wc S (aq p).σ k)
def QG (p:Pg) (S:Sx):Int:=sz (al p).m fun i=>bS (al p) (S.β i)*S.T i ((aq p).R (al p))
abbrev B9 (p:Pg) (S:Sx):Rat:=(QG p S:Rat) / (S.d:Rat)
structure Infeas (p:Pg) (S:Sx):Prop where
 val:(aq p).Val (al p) S
 zr:∀j,j<(aq p).N->0<=zr (al p).m (dC (aq p).N) S j
 pos:0<sz (al p).m fun i=>dC (aq p).N (S.β i)*S.T i ((aq p).R (al p))
structure gm (p:Pg) (S:Sx) (q:Nat):Prop where
 val:(aq p).Val (al p) S
 az:AZ (al p) (aq p) S
 lt:q<(aq p).N
 neg:zr (al p).m (bS (al p)) S q<0
 no:∀i,i<(al p).m->S.T i q<=0
structure Opt (p:Pg) (S:Sx):Prop where
 val:(aq p).Val (al p) S
 az:AZ (al p) (aq p) S
 zr:∀j,j<(aq p).N->0<=zr (al p).m (bS (al p)) S j
abbrev nO:Fq×List Fq×List Fq:=((0,0),[],[])
def vh (p:Pg) (o:Option ((Fq×List Fq×List Fq)×Int×Unit)):Prop :=
 (∃S,Infeas p S/\o=some (nO,22,()))\/(∃S q,gm p S q/\o=some (nO,21,()))\/∃S,Opt p S/\o=some ((prQ (B9 p S),xL p S,yL p (bS (al p)) S),0,())
theorem obQ {T R:Type} {Q:Option R->Prop} {o:Option T} {t:T} {k:T->Option R} (h:o=some t) (hk:Q (k t)):Q (af o k):=by
 rw[h]
 exact hk
theorem HE {p:Pg} (hv:ValidP p) (hf:fE (al p)):vh p (aw p):=by
 have hB:=vi hv hf
 obtain ⟨hw25,hm6'⟩:=vw hv
 have hm6:p.2.length<=6:=hm6'
 have hn:=hv.cost.2
 have hok:=kS hv
 have hpow:(aq p).w (al p) ^ (al p).m<=1180591620717411303424:=Nat.le_trans (Nat.pow_le_pow_left (show _<=64 by omega) _) (Nat.le_trans (Nat.pow_le_pow_right (by omega) hm6') (by decide))
 have hcnt:=pf (p:=p) p.2.length
 have hNe:IntKind.wrap .i64 ((p.1.length:Int)+(fb p p.2.length:Nat))=((aq p).N:Int):=by rw[aW (by omega) (by omega)];rfl
 have hRe:IntKind.wrap .i64 (((aq p).N:Int)+(p.2.length:Int))=(((aq p).R (al p):Nat):Int):=by
  have:(aq p).N=p.1.length+fb p p.2.length:=rfl
  rw[aW (by omega) (by omega)];rfl
 unfold aw iv
 rw[kX,obN,gM.2 hv]
 simp only[Bool.not_true,cF]
 rw[rm hv,obN,z7 hf]
 simp only[Bool.not_true,cF]
 refine wP hv (vh p) (fun again i s hi=>?_) (fun again=>?_)
 ·simp only[z7 (show (i:Int)<p.2.length by omega),aZ,z7 hi,z9,cT,a8 (show i<=1000000 by omega)]
 simp only[z8 (show ¬ (p.2.length:Int)<p.2.length by omega),cF,a7,f8,eL (show (0+p.1.length)*8<=140737488355328 by omega),cT,aa,hNe,hRe]
 refine vK hv (vh p) ?_
 obtain ⟨S,ok,h1,hvS,h2,h3⟩:=Aw hB hpow (x3:=bv p.2.length (aq p).σ) (cs:=p.1) (Lay.first hok)
 refine obQ (Q:=vh p) h1 ?_
 cases ok with
 | false =>
  simp only[Bool.not_false,cT]
  exact .inl ⟨S,⟨hvS,(h3 rfl).1,(h3 rfl).2⟩,rfl⟩
 | true =>
  simp only[Bool.not_true,cF]
  obtain ⟨S,ok,h1,hvS,haS,h2,h3⟩:=Dc hB hpow (x3:=bv p.2.length (aq p).σ) sB hvS (h2 rfl)
  refine obQ (Q:=vh p) h1 ?_
  cases ok with
  | false =>
   simp only[Bool.not_false,cT]
   obtain ⟨q,e1,e2,e3⟩:=h3 rfl
   exact .inr (.inl ⟨S,q,⟨hvS,haS,e1,e2,e3⟩,rfl⟩)
  | true =>
   simp only[Bool.not_true,cF,z9,z7 (show (0:Int)<=(p.1.length:Nat) by omega),eL (show p.1.length*8<=140737488355328 by omega),Bool.and_self,cT,LR]
   refine .inr (.inr ⟨S,⟨hvS,haS,h2 rfl⟩,?_⟩)
   obtain ⟨⟨d1,d2⟩,hb⟩:=hB.tab hvS.tb
   obtain ⟨_,hbP⟩:=hB.tabP hvS.tb
   have hRw:(aq p).R (al p)<(aq p).w (al p):=by unfold Lay.R Lay.w;omega
   have hm:(al p).m=p.2.length:=rfl
   have hcR:∀i,i<(al p).m-> -17592186044416<=bS (al p) (S.β i)*S.T i ((aq p).R (al p))/\bS (al p) (S.β i)*S.T i ((aq p).R (al p))<=17592186044416:=fun i hi=>hB.cost (hbP i _ hi hRw) _
   have hTR:∀i,i<(al p).m-> -17592186044416<=S.T i ((aq p).R (al p))/\S.T i ((aq p).R (al p))<=17592186044416:=fun i hi=>by have:=hb i _ hi hRw;omega
   refine cu (al p).m (by omega) (fun i=>(sz i (fun k=>bS (al p) (S.β k)*S.T k ((aq p).R (al p))),(i:Int),bv p.1.length (fun j=>sz i fun k=>if S.β k=j then S.T k ((aq p).R (al p)) else 0),PUnit.unit)) _ rfl (fun again i hi=>?_) (fun again=>?_)
   ·have hiR:=hcR i hi
    have hs:=ij (n:=i) (f:=fun k=>bS (al p) (S.β k)*S.T k ((aq p).R (al p))) (B:=17592186044416) fun k hk=>hcR k (by omega)
    have h3:(i:Int)*17592186044416<=6*17592186044416:=z11 (by omega) (by omega)
    simp only[gt,aZ,z9,z7 hi,z7 (show (i:Int)<(al p).m by omega),cM (show Nat.succ i<=(al p).m from hi),iW hi,cT,BI,BA,tV,sB,aa,fV,gq hi,jc,fS hi,aR,bB hRw,z7 hRw,cM (show Nat.succ ((aq p).R (al p))<=(aq p).w (al p) from hRw),a8 (show i<=1000000 by omega)]
    rw[aW (x:=bS (al p) (S.β i)*S.T i ((aq p).R (al p))) (by omega) (by omega),aW (by omega) (by omega)]
    by_cases c:S.β i<p.1.length
    ·simp only[z7 (show (S.β i:Int)<p.1.length by omega),z7 c,cM (show Nat.succ (S.β i)<=p.1.length from c),cT,ka c]
     congr 3
     congr 1
     refine dz fun j _=>?_
     by_cases e:j=S.β i
     ·subst e
      rw[if_pos rfl]
      simp only[sz]
      rw[fJ fun k hk=>if_neg fun e=>by have:=hvS.tb.inj (show k<(al p).m by omega) hi e;omega,if_pos trivial,Int.zero_add]
     ·rw[if_neg e]
      simp only[sz]
      rw[if_neg (Ne.symm e),Int.add_zero]
    ·simp only[z8 (show ¬ (S.β i:Int)<p.1.length by omega),cF]
     congr 3
     congr 1
     refine dz fun j hj=>?_
     simp only[sz]
     rw[if_neg (by omega),Int.add_zero]
   have hsV:=ij (n:=(al p).m) (f:=fun k=>bS (al p) (S.β k)*S.T k ((aq p).R (al p))) (B:=17592186044416) hcR
   have h6:((al p).m:Int)*17592186044416<=6*17592186044416:=z11 (by omega) (by omega)
   simp only[gt,z8 (show ¬ ((al p).m:Int)<(al p).m by omega),cF,fI,fL,cT,tT ⟨d1,d2⟩ (show (sz (al p).m fun k=>bS (al p) (S.β k)*S.T k ((aq p).R (al p))).natAbs<=1152921504606846976 by omega),aa,aR]
   refine cu p.1.length (by omega) (fun j=>((j:Int),prQ (B9 p S),bv j (fun j=>prQ (xW (al p).m ((aq p).R (al p)) S j)),[],PUnit.unit)) _ rfl (fun again j hj=>?_) (fun again=>?_)
   ·have hx:=ij (n:=(al p).m) (f:=fun k=>if S.β k=j then S.T k ((aq p).R (al p)) else 0) (B:=17592186044416) fun k hk=>by
     have:=hTR k hk
     split<;>omega
    simp only[aZ,z9,z7 hj,z7 (show (j:Int)<p.1.length by omega),cM (show Nat.succ j<=p.1.length from hj),bB hj,cT,tT ⟨d1,d2⟩ (show (sz (al p).m fun k=>if S.β k=j then S.T k ((aq p).R (al p)) else 0).natAbs<=1152921504606846976 by omega),aa,aR,eL (show (j+1)*16<=140737488355328 by omega),a8 (show j<=1000000 by omega)]
    rw[show prQ (((sz (al p).m fun k=>if S.β k=j then S.T k ((aq p).R (al p)) else 0:Int):Rat) / (S.d:Rat))=(fun j=>prQ (xW (al p).m ((aq p).R (al p)) S j)) j from rfl,lf]
   simp only[z8 (show ¬ (p.1.length:Int)<p.1.length by omega),cF]
   refine cu p.2.length (by omega) (fun k=>((k:Int),prQ (B9 p S),xL p S,bv k (fun k=>prQ (od (al p).m (aq p).N (bS (al p)) S (aq p).σ k)),PUnit.unit)) _ rfl (fun again k hk=>?_) (fun again=>?_)
   ·have hNk:(aq p).N+k<(aq p).w (al p):=by unfold Lay.w;omega
    have hcN:∀i,i<(al p).m-> -17592186044416<=bS (al p) (S.β i)*S.T i ((aq p).N+k)/\bS (al p) (S.β i)*S.T i ((aq p).N+k)<=17592186044416:=fun i hi=>hB.cost (hbP i _ hi hNk) _
    have hNke:IntKind.wrap .i64 (((aq p).N:Int)+(k:Int))=(((aq p).N+k:Nat):Int):=by rw[aW (by omega) (by omega)];rfl
    simp only[z7 (show (k:Int)<p.2.length by omega),cT,hNke]
    refine cu (al p).m (by omega) (fun i=>(sz i (fun i=>bS (al p) (S.β i)*S.T i ((aq p).N+k)),(i:Int),PUnit.unit)) _ rfl (fun again2 i hi=>?_) (fun again2=>?_)
    ·have hiR:=hcN i hi
     have hs:=ij (n:=i) (f:=fun i=>bS (al p) (S.β i)*S.T i ((aq p).N+k)) (B:=17592186044416) fun k hk=>hcN k (by omega)
     have h3:(i:Int)*17592186044416<=6*17592186044416:=z11 (by omega) (by omega)
     simp only[gt,aZ,z9,z7 hi,z7 (show (i:Int)<(al p).m by omega),cM (show Nat.succ i<=(al p).m from hi),iW hi,cT,BI,BA,tV,sB,aa,fV,gq hi,jc,fS hi,aR,bB hNk,z7 hNk,cM (show Nat.succ ((aq p).N+k)<=(aq p).w (al p) from hNk),a8 (show i<=1000000 by omega)]
     rw[aW (x:=bS (al p) (S.β i)*S.T i ((aq p).N+k)) (by omega) (by omega),aW (by omega) (by omega)]
     rfl
    ·have hs:=ij (n:=(al p).m) (f:=fun i=>bS (al p) (S.β i)*S.T i ((aq p).N+k)) (B:=17592186044416) hcN
     have hab:=zx (p:=p) k (sz (al p).m fun i=>bS (al p) (S.β i)*S.T i ((aq p).N+k))
     simp only[gt,z8 (show ¬ ((al p).m:Int)<(al p).m by omega),cF,aR,aZ,z9,z7 hk,cM (show Nat.succ k<=p.2.length from hk),bB hk,cT,fI,fL,aW (x:=(aq p).σ k*sz (al p).m fun i=>bS (al p) (S.β i)*S.T i ((aq p).N+k)) (by omega) (by omega),tT ⟨d1,d2⟩ (show ((aq p).σ k*sz (al p).m fun i=>bS (al p) (S.β i)*S.T i ((aq p).N+k)).natAbs<=1152921504606846976 by omega),aa,eL (show (k+1)*16<=140737488355328 by omega),a8 (show k<=1000000 by omega)]
     rw[show prQ ((((aq p).σ k*sz (al p).m fun i=>bS (al p) (S.β i)*S.T i ((aq p).N+k):Int):Rat) / (S.d:Rat))=(fun k=>prQ (od (al p).m (aq p).N (bS (al p)) S (aq p).σ k)) k from rfl,lf]
   ·simp only[z8 (show ¬ (p.2.length:Int)<p.2.length by omega),cF]
end
end Go.Proofs.YtfknoaclabfdlaaGreat

namespace Go.Proofs.YtfknoaclabfdlaaGreat
open Tryz Dn Dn.Sh
def ua (p:Pg) (o:Option (List Fq×Int×Unit)):Prop :=
 (∃S,Infeas p S/\o=some (yL p (dC (aq p).N) S,0,()))\/∃S,(aq p).Val (al p) S/\AZ (al p) (aq p) S/\o=some ([],12,())
theorem EK {p:Pg} (hv:ValidP p) (hf:fE (al p)):ua p (bV p):=by
 have hB:=vi hv hf
 obtain ⟨hw25,hm6'⟩:=vw hv
 have hm6:p.2.length<=6:=hm6'
 have hn:=hv.cost.2
 have hok:=kS hv
 have hpow:(aq p).w (al p) ^ (al p).m<=1180591620717411303424:=Nat.le_trans (Nat.pow_le_pow_left (show _<=64 by omega) _) (Nat.le_trans (Nat.pow_le_pow_right (by omega) hm6') (by decide))
 have hcnt:=pf (p:=p) p.2.length
 have hNe:IntKind.wrap .i64 ((p.1.length:Int)+(fb p p.2.length:Nat))=((aq p).N:Int):=by rw[aW (by omega) (by omega)];rfl
 have hRe:IntKind.wrap .i64 (((aq p).N:Int)+(p.2.length:Int))=(((aq p).R (al p):Nat):Int):=by
  have:(aq p).N=p.1.length+fb p p.2.length:=rfl
  rw[aW (by omega) (by omega)];rfl
 unfold bV fM
 rw[kX,obN,gM.2 hv]
 simp only[Bool.not_true,cF]
 rw[rm hv,obN,z7 hf]
 simp only[Bool.not_true,cF]
 refine wP hv (ua p) (fun again i s hi=>?_) (fun again=>?_)
 ·simp only[z7 (show (i:Int)<p.2.length by omega),aZ,z7 hi,z9,cT,a8 (show i<=1000000 by omega)]
 simp only[z8 (show ¬ (p.2.length:Int)<p.2.length by omega),cF,a7,f8,eL (show (0+p.1.length)*8<=140737488355328 by omega),cT,aa,hNe,hRe]
 refine vK hv (ua p) ?_
 obtain ⟨S,ok,h1,hvS,h2,h3⟩:=Aw hB hpow (x3:=bv p.2.length (aq p).σ) (cs:=p.1) (Lay.first hok)
 refine obQ (Q:=ua p) h1 ?_
 cases ok with
 | true =>
  simp only[cT]
  exact .inr ⟨S,hvS,h2 rfl,rfl⟩
 | false =>
  simp only[cF]
  refine .inl ⟨S,⟨hvS,(h3 rfl).1,(h3 rfl).2⟩,?_⟩
  obtain ⟨⟨d1,d2⟩,hb⟩:=hB.tab hvS.tb
  have hm:(al p).m=p.2.length:=rfl
  refine cu p.2.length (by omega) (fun k=>(bv k (fun k=>prQ (od (al p).m (aq p).N (dC (aq p).N) S (aq p).σ k)),(k:Int),PUnit.unit)) _ rfl (fun again k hk=>?_) (fun again=>?_)
  ·have hNk:(aq p).N+k<(aq p).w (al p):=by unfold Lay.w;omega
   have hNke:IntKind.wrap .i64 (((aq p).N:Int)+(k:Int))=(((aq p).N+k:Nat):Int):=by
    have:(aq p).N=p.1.length+fb p p.2.length:=rfl
    rw[aW (by omega) (by omega)];rfl
   have hbk:∀i,i<(al p).m-> -1125899906842624<=S.T i ((aq p).N+k)/\S.T i ((aq p).N+k)<=1125899906842624:=fun i hi=>by have:=hb i _ hi hNk;omega
   have hbk2:∀i,i<(al p).m-> -17592186044416<=dC (aq p).N (S.β i)*S.T i ((aq p).N+k)/\dC (aq p).N (S.β i)*S.T i ((aq p).N+k)<=17592186044416:=fun i hi=>by
    have:=hb i _ hi hNk
    unfold dC
    split<;>omega
   have hs:=ij (n:=(al p).m) (f:=fun i=>dC (aq p).N (S.β i)*S.T i ((aq p).N+k)) (B:=17592186044416) hbk2
   have h6:((al p).m:Int)*17592186044416<=6*17592186044416:=z11 (by omega) (by omega)
   have hab:=zx (p:=p) k (sz (al p).m fun i=>dC (aq p).N (S.β i)*S.T i ((aq p).N+k))
   simp only[z7 (show (k:Int)<p.2.length by omega),cT,hNke,aR,aZ,z9,z7 hk,cM (show Nat.succ k<=p.2.length from hk),bB hk,fI,fL,p9 (show (al p).m<=1000 by omega) hNk hbk,aa,
    aW (x:=(aq p).σ k*sz (al p).m fun i=>dC (aq p).N (S.β i)*S.T i ((aq p).N+k)) (by omega) (by omega),tT ⟨d1,d2⟩ (show ((aq p).σ k*sz (al p).m fun i=>dC (aq p).N (S.β i)*S.T i ((aq p).N+k)).natAbs<=1152921504606846976 by omega),eL (show (k+1)*16<=140737488355328 by omega),a8 (show k<=1000000 by omega)]
   rw[show prQ ((((aq p).σ k*sz (al p).m fun i=>dC (aq p).N (S.β i)*S.T i ((aq p).N+k):Int):Rat) / (S.d:Rat))=(fun k=>prQ (od (al p).m (aq p).N (dC (aq p).N) S (aq p).σ k)) k from rfl,lf]
  ·simp only[z8 (show ¬ (p.2.length:Int)<p.2.length by omega),cF]
def vX (x:List Fq) (j:Nat):Rat:=qv (x.getD j (0,0))
theorem Ax {f:Nat->Rat}:∀{n:Nat},sq (n+1) f=f 0+sq n fun i=>f (i+1)
 | 0=>by simp only[sq];grind
 | n+1=>by
  rw[sq,Ax (n:=n)]
  simp only[sq]
  grind
theorem uO:∀{l:List Int} {x:List Fq} {s q:Rat},l.length<=x.length->eh l x s=some q->q=s+sq l.length fun j=>((l.getD j 0:Int):Rat)*vX x j
 | [],x,s,q,_,h=>by
  unfold eh at h
  injection h with h
  simp only[List.length_nil,sq]
  grind
 | n ::l,[],s,q,hl,h=>by simp at hl
 | n ::l,a ::x,s,q,hl,h=>by
  unfold eh at h
  split at h
  ·have h1:=uO (l:=l) (x:=x) (by simpa using hl) h
   rw[List.length_cons,Ax,h1]
   have e1:∀j,(n ::l).getD (j+1) 0=l.getD j 0:=fun j=>rfl
   have e2:∀j,vX (a ::x) (j+1)=vX x j:=fun j=>rfl
   simp only[e1,e2]
   have e3:((n ::l).getD 0 0:Int)=n:=rfl
   have e4:vX (a ::x) 0=qv a:=rfl
   rw[e3,e4]
   grind
  ·cases h
theorem rH {l:List Int} {x:List Fq} (hl:l.length<=x.length) (h:(eh l x 0).isSome=true):(eh l x 0).getD 0=sq l.length fun j=>((l.getD j 0:Int):Rat)*vX x j:=by
 cases hq:eh l x 0 with
 | none=>rw[hq] at h;cases h
 | some q =>
  have:=uO hl hq
  rw[Option.getD_some,this]
  grind
theorem uc {a b:Rat}:pM a b<=0↔a<=b:=by
 unfold pM
 by_cases h:a<b
 ·rw[if_pos h]
  exact ⟨fun _=>Rat.le_of_lt h,fun _=>by omega⟩
 ·rw[if_neg h]
  by_cases h2:a=b
  ·rw[if_pos h2]
   exact ⟨fun _=>by rw[h2];exact Rat.le_refl,fun _=>by omega⟩
  ·rw[if_neg h2]
   refine ⟨fun h3=>by omega,fun h3=>?_⟩
   exact (h (Rat.lt_of_le_of_ne h3 h2)).elim
theorem Em {α:Type} {P:α->Bool} {l:List α} (d:α):l.all P=true↔∀k,k<l.length->P (l.getD k d)=true:=by
 rw[<-sN (p:=P) d,List.all_eq_true]
 exact ⟨fun h k hk=>h k (List.mem_range'.2 ⟨k,hk,by omega⟩),fun h i hi=>by obtain ⟨k,hk,rfl⟩:=List.mem_range'.1 hi;exact h _ (by omega)⟩
theorem Ck {p:Pg} {y:List Fq} (hy:∀a ∈ y,okF a) (hl:y.length=p.2.length):kO p y=true↔(al p).Sgn (vX y):=by
 have hpos:∀j,j<y.length->((0<=(y.getD j (0,0)).1↔0<=vX y j)/\((y.getD j (0,0)).1<=0↔vX y j<=0)):=fun j hj=>by
  have hok:=hy (y.getD j (0,0)) (by rw[aU hj];exact List.getElem_mem _)
  have h1:=lx hok
  have h2:=K2 hok
  have h3:=uZ hok
  refine ⟨h1.symm,?_⟩
  unfold vX
  constructor
  ·intro h
   by_cases c:(y.getD j (0,0)).1=0
   ·rw[h3.2 c];exact Rat.le_refl
   ·exact Rat.le_of_lt (h2.2 (by omega))
  ·intro h
   apply Int.not_lt.1
   intro h4
   have h5:=h1.2 (by omega)
   have h6:=h3.1 (Rat.le_antisymm h h5)
   omega
 unfold kO
 rw[List.all_eq_true]
 have key:∀k,k<p.2.length->(u9 (p.2.getD k rw0).2.1 (y.getD k (0,0)).1=true↔((al p).kd k=1->vX y k<=0)/\((al p).kd k=2->0<=vX y k)):=fun k hk=>by
  obtain ⟨h1,h2⟩:=hpos k (by omega)
  unfold u9
  have e1:(al p).kd k=(p.2.getD k rw0).2.1:=rfl
  rw[e1,z10,Bool.or_eq_true,Bool.or_eq_true,decide_eq_true_iff,decide_eq_true_iff,decide_eq_true_iff,decide_eq_true_iff,h1,h2]
  constructor
  ·rintro ⟨a1,a2⟩
   exact ⟨fun e=>a1.resolve_left fun h=>h e,fun e=>a2.resolve_left fun h=>h e⟩
  ·rintro ⟨a1,a2⟩
   refine ⟨?_,?_⟩
   ·by_cases c:(p.2.getD k rw0).2.1=1
    ·exact .inr (a1 c)
    ·exact .inl c
   ·by_cases c:(p.2.getD k rw0).2.1=2
    ·exact .inr (a2 c)
    ·exact .inl c
 constructor
 ·intro h
  exact ⟨fun k hk=>((key k hk).1 (h k (List.mem_range'.2 ⟨k,hk,by omega⟩))).1,fun k hk=>((key k hk).1 (h k (List.mem_range'.2 ⟨k,hk,by omega⟩))).2⟩
 ·rintro ⟨h1,h2⟩ i hi
  obtain ⟨k,hk,rfl⟩:=List.mem_range'.1 hi
  simp only[Nat.one_mul,Nat.zero_add]
  exact (key k hk).2 ⟨h1 k hk,h2 k hk⟩
theorem Mc {p:Pg} {y:List Fq} (hl:y.length=p.2.length) {j:Nat} (h:(eh (lY p j) y 0).isSome=true):(eh (lY p j) y 0).getD 0=(al p).col (vX y) j:=by
 rw[rH (by rw[rP];omega) h,rP]
 refine ef fun k hk=>?_
 unfold lY
 have hk:k<p.2.length:=hk
 rw[aU (show k<(p.2.map fun r=>r.1.getD j 0).length by rw[List.length_map];exact hk),List.getElem_map]
 show _=(((p.2.getD k rw0).1.getD j 0:Int):Rat)*_
 rw[aU hk]
theorem FB {p:Pg} {y:List Fq} (hl:y.length=p.2.length) (h:(pN p y).isSome=true):(pN p y).getD 0=(al p).rhs (vX y):=by
 unfold pN at h ⊢
 rw[rH (by rw[mF];omega) h,mF]
 refine ef fun k hk=>?_
 unfold lk
 have hk:k<p.2.length:=hk
 rw[aU (show k<(p.2.map fun r=>r.2.2).length by rw[List.length_map];exact hk),List.getElem_map]
 show _=(((p.2.getD k rw0).2.2:Int):Rat)*_
 rw[aU hk]
theorem KB {p:Pg} {x:List Fq} (hl:x.length=p.1.length) (h:(eh p.1 x 0).isSome=true):(eh p.1 x 0).getD 0=(al p).val (vX x):=by
 rw[rH (by omega) h]
 rfl
theorem FO {p:Pg} {y:List Fq} {f:Nat->Int} (hl:y.length=p.2.length) (hf:rQ p y=true):uR p y f=true↔∀j,j<p.1.length->(al p).col (vX y) j<=(f j:Rat):=by
 unfold rQ at hf
 rw[List.all_eq_true] at hf
 unfold uR
 rw[List.all_eq_true]
 have hc:∀j,j<p.1.length->(eh (lY p j) y 0).getD 0=(al p).col (vX y) j:=fun j hj=>Mc hl (hf j (List.mem_range'.2 ⟨j,hj,by omega⟩))
 constructor
 ·intro h j hj
  have:=h j (List.mem_range'.2 ⟨j,hj,by omega⟩)
  rw[decide_eq_true_iff,uc,hc j hj] at this
  exact this
 ·intro h i hi
  obtain ⟨k,hk,rfl⟩:=List.mem_range'.1 hi
  simp only[Nat.one_mul,Nat.zero_add]
  rw[decide_eq_true_iff,uc,hc k hk]
  exact h k hk
theorem tC {p:Pg} {y:List Fq} (hy:∀a ∈ y,okF a) (hly:y.length=p.2.length) (f3:rQ p y=true) (f4:(pN p y).isSome=true) :
  Hk p y=true↔(al p).Ref (vX y):=by
 have hfit:cD ((pN p y).getD 0):=by
  unfold pN
  exact yn
 have hp:EU p y=true↔0<(al p).rhs (vX y):=by
  unfold EU
  rw[decide_eq_true_iff,<-FB hly f4]
  have h1:=lx (gW hfit)
  have h2:=uZ (gW hfit)
  rw[jR] at h1 h2
  constructor
  ·intro h
   exact Rat.lt_of_le_of_ne (h1.2 (by omega)) fun e=>by have:=h2.1 e.symm;omega
  ·intro h
   have a1:=h1.1 (Rat.le_of_lt h)
   have a2:¬ (prQ ((pN p y).getD 0)).1=0:=fun e=>by rw[h2.2 e] at h;exact Rat.lt_irrefl h
   omega
 unfold Hk
 simp only[z10]
 rw[hp,Ck hy hly,FO hly f3]
 constructor
 ·rintro ⟨a1,a2,a3⟩
  exact ⟨a2,fun j hj=>by have:=a3 j hj;simpa using this,a1⟩
 ·rintro ⟨a1,a2,a3⟩
  exact ⟨a3,a1,fun j hj=>by have:=a2 j hj;simpa using this⟩
theorem vA {f:Nat->Int}:∀{n:Nat},sz (n+1) f=f 0+sz n fun i=>f (i+1)
 | 0=>by simp[sz]
 | n+1=>by
  rw[sz,vA (n:=n)]
  simp only[sz]
  omega
theorem ES {α:Type} {n:Nat} {f:Nat->α}:bv (n+1) f=f 0 ::bv n fun i=>f (i+1):=by
 unfold bv
 rw[List.range_succ_eq_map,List.map_cons,List.map_map]
 rfl
theorem vl {d B:Int} (hd:0<d/\d<=1152921504606846976) (hB:B<=1152921504606846976):∀{l:List Int} {X:Nat->Int} {s:Int},(∀j,j<l.length->ab (l.getD j 0*X j)<=B)->(∀i,i<=l.length->ab (s+sz i fun j=>l.getD j 0*X j)<=B) ->
  eh l (bv l.length fun j=>prQ ((X j:Rat) / (d:Rat))) ((s:Rat) / (d:Rat))=some (((s+sz l.length fun j=>l.getD j 0*X j:Int):Rat) / (d:Rat))
 | [],X,s,_,_=>by
  unfold eh
  simp[sz]
 | n ::l,X,s,h1,h2=>by
  have e1:∀j,(n ::l).getD (j+1) 0=l.getD j 0:=fun j=>rfl
  have e0:((n ::l).getD 0 0:Int)=n:=rfl
  have a1:=h1 0 (by simp)
  have a2:=h2 1 (by simp)
  simp only[sz,e0,Int.zero_add] at a1 a2
  rw[List.length_cons,ES]
  unfold eh
  rw[jR]
  have q1:(n:Rat)*((X 0:Rat) / (d:Rat))=((n*X 0:Int):Rat) / (d:Rat):=by rw[Rat.intCast_mul];grind
  have q2:(s:Rat) / (d:Rat)+((n*X 0:Int):Rat) / (d:Rat)=((s+n*X 0:Int):Rat) / (d:Rat):=by rw[Rat.intCast_add];grind
  have b1:(n*X 0).natAbs<=1152921504606846976:=by rw[n4] at a1;omega
  have b2:(s+n*X 0).natAbs<=1152921504606846976:=by rw[n4] at a2;omega
  rw[q1,q2,if_pos ⟨rY (by omega) b1 (by omega),rY (by omega) b2 (by omega)⟩]
  have ih:=vl hd hB (l:=l) (X:=fun j=>X (j+1)) (s:=s+n*X 0) (fun j hj=>h1 (j+1) (by simpa using hj)) (fun i hi=>by
   have:=h2 (i+1) (by simpa using hi)
   rw[vA] at this
   simp only[e1,e0] at this
   rw[<-Int.add_assoc] at this
   exact this)
  rw[ih]
  congr 3
  rw[vA]
  simp only[e1,e0]
  omega
theorem CA {n i:Nat} {a X:Nat->Int} {B:Int} (hi:i<=n) (hB:0<=B) (hX:∀j,j<n->ab (X j)<=B):ab (sz i fun j=>a j*X j)<=(sz n fun j=>ab (a j))*B:=by
 refine Int.le_trans xJ ?_
 have h1:(sz i fun j=>ab (a j*X j))<=sz i fun j=>ab (a j)*B:=mI fun j hj=>by
  rw[me]
  exact Int.mul_le_mul_of_nonneg_left (hX j (by omega)) (bD _)
 refine Int.le_trans h1 ?_
 rw[zn]
 refine z11 ?_ hB
 obtain ⟨k,rfl⟩:∃k,n=i+k:=⟨n - i,by omega⟩
 rw[vz]
 have:0<=sz k fun l=>ab (a (i+l)):=gy fun _ _=>bD _
 omega
theorem DW {n j:Nat} {f:Nat->Int} (hj:j<n) (hf:∀i,i<n->0<=f i):f j<=sz n f:=by
 have h1:(sz n fun i=>if i=j then f j else 0)<=sz n f:=mI fun i hi=>by
  by_cases e:i=j
  ·rw[if_pos e,e];exact Int.le_refl _
  ·rw[if_neg e];exact hf i hi
 rw[eF hj fun i _ hne=>if_neg hne,if_pos rfl] at h1
 exact h1
theorem BS {n j:Nat} {a X:Nat->Int} {B:Int} (hj:j<n) (hB:0<=B) (hX:∀j,j<n->ab (X j)<=B):ab (a j*X j)<=(sz n fun j=>ab (a j))*B:=by
 rw[me]
 refine Int.le_trans (Int.mul_le_mul_of_nonneg_left (hX j hj) (bD _)) (z11 ?_ hB)
 exact DW (f:=fun j=>ab (a j)) hj fun _ _=>bD _
theorem G8 {l:List Int} {X:Nat->Int} {d B:Int} (hd:0<d/\d<=1152921504606846976) (hB:0<=B) (hX:∀j,j<l.length->ab (X j)<=B) (h:(sz l.length fun j=>ab (l.getD j 0))*B<=1152921504606846976) :
  (eh l (bv l.length fun j=>prQ ((X j:Rat) / (d:Rat))) 0).isSome=true:=by
 have h0:(0:Rat)=((0:Int):Rat) / (d:Rat):=by rw[show ((0:Int):Rat)=0 from rfl,Rat.div_def,Rat.zero_mul]
 rw[h0,vl hd h (fun j hj=>BS (a:=fun j=>l.getD j 0) hj hB hX) (fun i hi=>by rw[Int.zero_add];exact CA (a:=fun j=>l.getD j 0) hi hB hX)]
 rfl
theorem CK {l:List Int} {X:Nat->Int} {d B:Int} (hd:0<d/\d<=1152921504606846976) (hB:0<=B) (hX:∀j,j<l.length->ab (l.getD j 0*X j)<=B) (h:(l.length:Int)*B<=1152921504606846976) (hB2:B<=1152921504606846976) :
  (eh l (bv l.length fun j=>prQ ((X j:Rat) / (d:Rat))) 0).isSome=true:=by
 have h0:(0:Rat)=((0:Int):Rat) / (d:Rat):=by rw[show ((0:Int):Rat)=0 from rfl,Rat.div_def,Rat.zero_mul]
 have hsum:∀i,i<=l.length->ab (0+sz i fun j=>l.getD j 0*X j)<=1152921504606846976:=fun i hi=>by
  rw[Int.zero_add]
  have h1:=ij (n:=i) (f:=fun j=>l.getD j 0*X j) (B:=B) fun j hj=>sY.1 (hX j (by omega))
  have h2:(i:Int)*B<=l.length*B:=z11 (by omega) hB
  refine sY.2 ⟨?_,?_⟩<;>omega
 rw[h0,vl hd (Int.le_refl _) (fun j hj=>Int.le_trans (hX j hj) hB2) hsum]
 rfl
section
variable {p:Pg} {S:Sx}
theorem Dx (hB:Bnd (al p) (aq p)) (hv:(aq p).Val (al p) S) (j:Nat):0<=r9 (al p).m ((aq p).R (al p)) S j/\r9 (al p).m ((aq p).R (al p)) S j<=(al p).P:=by
 refine ⟨l9 hv j,?_⟩
 have hRw:(aq p).R (al p)<(aq p).w (al p):=by unfold Lay.R Lay.w;omega
 obtain ⟨_,hb⟩:=hB.tabP hv.tb
 unfold r9
 by_cases h:∃i,i<(al p).m/\S.β i=j
 ·obtain ⟨i,hi,e⟩:=h
  rw[eF hi fun k hk hne=>if_neg fun e2=>hne (hv.tb.inj hk hi (by rw[e,e2])),if_pos e]
  have:=hb i _ hi hRw
  omega
 ·rw[fJ fun i hi=>if_neg fun e=>h ⟨i,hi,e⟩]
  have:=(al p).P_pos
  omega
theorem G4 (k:Nat) (x:Int):ab ((aq p).σ k*x)=ab x:=by
 rw[n4,n4,zx]
theorem DI (hB:Bnd (al p) (aq p)) (hv:(aq p).Val (al p) S) {wc:Nat->Int} {W:Int} (hW:∀j,ab (wc j)<=W) {k:Nat} (hk:k<(al p).m):(al p).F k*ab (kI (al p).m (aq p).N wc S (aq p).σ k)<=12*(W*(al p).P):=by
 have hF:=(al p).F_pos k
 have hW0:0<=W:=Int.le_trans (bD _) (hW 0)
 have hP:=(al p).P_pos
 have hm:=hB.m
 unfold kI
 rw[G4]
 have h1:ab (sz (al p).m fun i=>wc (S.β i)*S.T i ((aq p).N+k))<=sz (al p).m fun i=>W*ab (S.T i ((aq p).N+k)):=Int.le_trans xJ (mI fun i _=>by
  rw[me]
  exact z11 (hW _) (bD _))
 have h2:(al p).F k*(sz (al p).m fun i=>W*ab (S.T i ((aq p).N+k)))=sz (al p).m fun i=>W*((al p).F k*ab (S.T i ((aq p).N+k))):=by
  rw[<-fk]
  exact bh fun i _=>by grind
 have h3:(sz (al p).m fun i=>W*((al p).F k*ab (S.T i ((aq p).N+k))))<=sz (al p).m fun _=>W*(al p).P:=mI fun i hi=>Int.mul_le_mul_of_nonneg_left (EP hB.ok hv.tb hi hk) hW0
 have h4:∀n:Nat,(sz n fun _=>W*(al p).P)=n*(W*(al p).P):=fun n=>by
  induction n with
  | zero=>simp[sz]
  | succ n ih =>
   simp only[sz]
   rw[ih,show ((n+1:Nat):Int)=(n:Int)+1 by omega,Int.add_mul,Int.one_mul]
 have h5:0<=W*(al p).P:=Int.mul_nonneg hW0 (by omega)
 have h6:((al p).m:Int)*(W*(al p).P)<=12*(W*(al p).P):=z11 (by omega) h5
 have h7:=Int.mul_le_mul_of_nonneg_left h1 (show 0<=(al p).F k by omega)
 rw[h2] at h7
 rw[h4] at h3
 omega
theorem Jz (k j:Nat) (hj:j<(al p).n):ab ((al p).A k j)<=(al p).F k/\ab ((al p).b k)<=(al p).F k:=by
 have h1:=DW (n:=(al p).n) (f:=fun j=>ab ((al p).A k j)) hj fun _ _=>bD _
 have h2:=bD ((al p).b k)
 have h3:=bD ((al p).A k j)
 unfold Lin.F
 omega
theorem NK (hV:ValidP p) (hB:Bnd (al p) (aq p)) (hv:(aq p).Val (al p) S) {wc:Nat->Int} {W:Int} (hW:∀j,ab (wc j)<=W) (hWP:W*(al p).P<=17592186044416):rQ p (yL p wc S)=true/\(pN p (yL p wc S)).isSome=true:=by
 obtain ⟨⟨d1,d2⟩,hb⟩:=hB.tab hv.tb
 have hm:=hV.rows
 have hn:=hV.cost
 have term:∀(k:Nat) (a:Int),k<p.2.length->ab a<=(al p).F k->ab (a*kI (al p).m (aq p).N wc S (aq p).σ k)<=211106232532992:=fun k a hk ha=>by
  have h1:=DI hB hv hW (k:=k) hk
  rw[me]
  have h2:=z11 ha (bD (kI (al p).m (aq p).N wc S (aq p).σ k))
  omega
 have gen:∀{l:List Int},l.length=p.2.length->(∀k,k<p.2.length->ab (l.getD k 0)<=(al p).F k)->(eh l (yL p wc S) 0).isSome=true:=fun {l} hl hF=>by
  have h1:=CK (l:=l) (X:=fun k=>kI (al p).m (aq p).N wc S (aq p).σ k) (d:=S.d) (B:=211106232532992) ⟨d1,by omega⟩ (by omega) (fun k hk=>term k _ (by omega) (hF k (by omega))) (by omega) (by omega)
  rw[hl] at h1
  exact h1
 constructor
 ·unfold rQ
  rw[List.all_eq_true]
  intro i hi
  obtain ⟨j,hj,rfl⟩:=List.mem_range'.1 hi
  simp only[Nat.one_mul,Nat.zero_add]
  refine gen rP fun k hk=>?_
  have:(lY p j).getD k 0=(al p).A k j:=by
   unfold lY
   rw[aU (show k<(p.2.map fun r=>r.1.getD j 0).length by rw[List.length_map];exact hk),List.getElem_map]
   show _=(p.2.getD k rw0).1.getD j 0
   rw[aU hk]
  rw[this]
  exact (Jz k j hj).1
 ·unfold pN
  refine gen mF fun k hk=>?_
  have:(lk p).getD k 0=(al p).b k:=by
   unfold lk
   rw[aU (show k<(p.2.map fun r=>r.2.2).length by rw[List.length_map];exact hk),List.getElem_map]
   show _=(p.2.getD k rw0).2.2
   rw[aU hk]
  rw[this]
  exact (Jz k 0 hn.1).2
theorem NW (hV:ValidP p) (hf:fE (al p)) (hv:(aq p).Val (al p) S):H8 p (xL p S)=true/\(eh p.1 (xL p S) 0).isSome=true:=by
 have hB:=vi hV hf
 obtain ⟨⟨d1,d2⟩,hb⟩:=hB.tab hv.tb
 have hm:=hV.rows
 have hP:=(al p).P_pos
 have hF0:=(al p).F0_pos
 have hx:∀j,ab (r9 (al p).m ((aq p).R (al p)) S j)<=(al p).P:=fun j=>by
  have:=Dx hB hv j
  exact sY.2 ⟨by omega,this.2⟩
 have gen:∀{l:List Int} {k:Nat},l.length=p.1.length->k<=p.2.length->(sz p.1.length fun j=>ab (l.getD j 0))<=fac (al p) k->(eh l (xL p S) 0).isSome=true:=fun {l k} hl hk hF=>by
  have h2:=JQ hf hk
  have h3:1*((al p).P*fac (al p) k)<=(al p).F0*((al p).P*fac (al p) k):=z11 hF0 (Int.mul_nonneg (by omega) (by have:=zm (al p) k;omega))
  have h5:=Int.mul_assoc (al p).F0 (al p).P (fac (al p) k)
  have h4:=z11 hF (show 0<=(al p).P by omega)
  rw[Int.mul_comm (fac (al p) k)] at h4
  have h1:=G8 (l:=l) (X:=fun j=>r9 (al p).m ((aq p).R (al p)) S j) (d:=S.d) (B:=(al p).P) ⟨d1,by omega⟩ (by omega) (fun j _=>hx j) (by rw[hl];omega)
  rw[hl] at h1
  exact h1
 constructor
 ·unfold H8
  rw[Em rw0]
  intro k hk
  have hr:p.2.getD k rw0 ∈ p.2:=by rw[aU hk];exact List.getElem_mem _
  refine gen (k:=k+1) (hV.len _ hr) (by omega) ?_
  show _<=1+ab (p.2.getD k rw0).2.2+sz p.1.length (fun j=>ab ((p.2.getD k rw0).1.getD j 0))
  have:=bD (p.2.getD k rw0).2.2
  omega
 ·refine gen (k:=0) rfl (by omega) ?_
  show _<=1+sz p.1.length (fun j=>ab (p.1.getD j 0))
  omega
theorem D8 (N j:Nat):ab (dC N j)<=1:=by unfold dC;split<;>simp[ab]
theorem Cl {n:Nat} {f:Nat->Rat} {j:Nat} (hj:j<n):vX (bv n fun j=>prQ (f j)) j=f j:=by
 unfold vX
 rw[bB hj,jR]
theorem D9 {n:Nat} {f:Nat->Rat} (h:∀j,j<n->cD (f j)):∀a ∈ bv n (fun j=>prQ (f j)),okF a:=fun a ha=>by
 unfold bv at ha
 obtain ⟨j,hj,rfl⟩:=List.mem_map.1 ha
 exact gW (h j (List.mem_range.1 hj))
theorem Pv (hV:ValidP p) (hf:fE (al p)) (hv:(aq p).Val (al p) S):∀a ∈ xL p S,okF a:=D9 fun j _=>by
 have hB:=vi hV hf
 obtain ⟨⟨d1,d2⟩,_⟩:=hB.tab hv.tb
 have:=Dx hB hv j
 have:=hB.P'
 exact rY (by omega) (by omega) (by omega)
theorem O6 (hV:ValidP p) (hB:Bnd (al p) (aq p)) (hv:(aq p).Val (al p) S) {wc:Nat->Int} {W:Int} (hW:∀j,ab (wc j)<=W) (hWP:W*(al p).P<=17592186044416):∀a ∈ yL p wc S,okF a:=D9 fun k hk=>by
 obtain ⟨⟨d1,d2⟩,_⟩:=hB.tab hv.tb
 have h1:=DI hB hv hW (k:=k) hk
 have h2:=(al p).F_pos k
 have h3:1*ab (kI (al p).m (aq p).N wc S (aq p).σ k)<=(al p).F k*ab (kI (al p).m (aq p).N wc S (aq p).σ k):=z11 h2 (bD _)
 have h4:ab (kI (al p).m (aq p).N wc S (aq p).σ k)<=211106232532992:=by omega
 rw[n4] at h4
 exact rY (by omega) (by omega) (by omega)
theorem Dn.Lin.Feas.congr {L:Lin} {x x':Nat->Rat} (h:∀j,j<L.n->x j=x' j) (hx:L.Feas x):L.Feas x':=by
 have hr:∀k,L.row x' k=L.row x k:=fun k=>ef fun j hj=>by rw[h j hj]
 exact ⟨fun j hj=>by rw[<-h j hj];exact hx.pos j hj,fun k hk h2=>by rw[hr];exact hx.most k hk h2,fun k hk h2=>by rw[hr];exact hx.least k hk h2⟩
theorem Dn.Lin.Sgn.congr {L:Lin} {y y':Nat->Rat} (h:∀k,k<L.m->y k=y' k) (hy:L.Sgn y):L.Sgn y' :=
 ⟨fun k hk e=>by rw[<-h k hk];exact hy.most k hk e,fun k hk e=>by rw[<-h k hk];exact hy.least k hk e⟩
theorem Dn.Lin.col_congr {L:Lin} {y y':Nat->Rat} (h:∀k,k<L.m->y k=y' k) (j:Nat):L.col y' j=L.col y j:=ef fun k hk=>by rw[h k hk]
theorem Dn.Lin.rhs_congr {L:Lin} {y y':Nat->Rat} (h:∀k,k<L.m->y k=y' k):L.rhs y'=L.rhs y:=ef fun k hk=>by rw[h k hk]
theorem Dn.Lin.val_congr {L:Lin} {x x':Nat->Rat} (h:∀j,j<L.n->x j=x' j):L.val x'=L.val x:=ef fun j hj=>by rw[h j hj]
theorem L9 (hV:ValidP p) (hf:fE (al p)) (ho:Opt p S):(al p).Feas (vX (xL p S))/\(al p).Dual (vX (yL p (bS (al p)) S))/\(al p).val (vX (xL p S))=B9 p S/\(al p).rhs (vX (yL p (bS (al p)) S))=B9 p S:=by
 have hok:=kS hV
 have ex:∀j,j<(al p).n->xW (al p).m ((aq p).R (al p)) S j=vX (xL p S) j:=fun j hj=>(Cl hj).symm
 have ey:∀k,k<(al p).m->od (al p).m (aq p).N (bS (al p)) S (aq p).σ k=vX (yL p (bS (al p)) S) k:=fun k hk=>(Cl hk).symm
 have h1:=qo hok ho.val (ho.az.art S)
 have h2:=CF hok ho.val ho.zr
 obtain ⟨h3,h4⟩:=AL hok ho.val
 refine ⟨h1.congr ex,⟨h2.toSgn.congr ey,fun j hj=>?_⟩,?_,?_⟩
 ·rw[Lin.col_congr ey];exact h2.col j hj
 ·rw[Lin.val_congr ex];exact h3
 ·rw[Lin.rhs_congr ey];exact h4
theorem qL (hV:ValidP p) (ho:Infeas p S):(al p).Ref (vX (yL p (dC (aq p).N) S)):=by
 have hok:=kS hV
 have ey:∀k,k<(al p).m->od (al p).m (aq p).N (dC (aq p).N) S (aq p).σ k=vX (yL p (dC (aq p).N) S) k:=fun k hk=>(Cl hk).symm
 have h2:=FSs hok ho.val ho.zr ho.pos
 refine ⟨h2.toSgn.congr ey,fun j hj=>?_,?_⟩
 ·rw[Lin.col_congr ey];exact h2.col j hj
 ·rw[Lin.rhs_congr ey];exact h2.rhs
theorem yZ (hV:ValidP p) (hf:fE (al p)) (ho:Infeas p S):bQ p (yL p (dC (aq p).N) S)=some (true,0,()):=by
 have hB:=vi hV hf
 have hm:=hV.rows
 have hWP:1*(al p).P<=17592186044416:=by have:=hB.P';omega
 have hy:=O6 (wc:=dC (aq p).N) hV hB ho.val (D8 _) hWP
 have hly:(yL p (dC (aq p).N) S).length=p.2.length:=aR
 obtain ⟨f3,f4⟩:=NK (wc:=dC (aq p).N) hV hB ho.val (D8 _) hWP
 have hc:=(tC hy hly f3 f4).2 (qL hV ho)
 rw[tg (by omega),gM.2 hV,o5.2 hy,z7 hly,f3,f4,hc]
 rfl
end
def P5 (p:Pg) (y:List Fq) (e:Int):Prop :=
 (e=1/\y=[]/\nH p=false)\/(e=5/\y=[]/\ValidP p/\¬ fE (al p))\/(e=12/\y=[]/\ValidP p/\fE (al p)/\∃x,(al p).Feas x) \/
 (e=0/\ValidP p/\fE (al p)/\y.length=p.2.length/\bQ p y=some (true,0,())/\∃y,(al p).Ref y)
theorem FE {p:Pg} (h:ValidP p) (hf:¬ fE (al p)):aw p=some (nO,5,()):=by
 unfold aw iv
 rw[kX,obN,gM.2 h]
 simp only[Bool.not_true,cF]
 rw[rm h,obN,z8 hf]
 rfl
theorem BR {p:Pg} (h:nH p=false):bV p=some ([],1,()):=by
 unfold bV fM
 rw[kX,obN,h]
 rfl
theorem CI {p:Pg} (h:ValidP p) (hf:¬ fE (al p)):bV p=some ([],5,()):=by
 unfold bV fM
 rw[kX,obN,gM.2 h]
 simp only[Bool.not_true,cF]
 rw[rm h,obN,z8 hf]
 rfl
theorem Cu (p:Pg):∃y e,bV p=some (y,e,())/\P5 p y e:=by
 cases hv:nH p with
 | false=>exact ⟨_,_,BR hv,.inl ⟨rfl,rfl,hv⟩⟩
 | true =>
  have hV:=gM.1 hv
  by_cases hf:fE (al p)
  ·rcases EK hV hf with ⟨S,h1,h2⟩ | ⟨S,h1,h2,h3⟩
   ·exact ⟨_,_,h2,.inr (.inr (.inr ⟨rfl,hV,hf,aR,yZ hV hf h1,_,qL hV h1⟩))⟩
   ·exact ⟨_,_,h3,.inr (.inr (.inl ⟨rfl,rfl,hV,hf,_,qo (kS hV) h1 (h2.art S)⟩))⟩
  ·exact ⟨_,_,CI hV hf,.inr (.inl ⟨rfl,rfl,hV,hf⟩)⟩
structure BndR (L:Lin) (Y:Lay):Prop where
 ok:Y.ok L
 m:L.m<=6
 w:Y.w L<=25
 P:L.F0*L.P<=536870912
section
variable {L:Lin} {Y:Lay}
theorem BndR.P' (h:BndR L Y):L.P<=536870912:=by
 have h1:=L.F0_pos
 have h2:=L.P_pos
 have h3:1*L.P<=L.F0*L.P:=z11 h1 (by omega)
 have:=h.P
 omega
theorem BndR.tab (h:BndR L Y) {T:Nat->Nat->Int} {d:Int} {β:Nat->Nat} (ht:Tb L.m (Y.w L) (Y.M L) T d β):(0<d/\d<=536870912)/\∀i j,i<L.m->j<Y.w L->(T i j).natAbs<=536870912/\((T i j).natAbs:Int)<=L.P:=by
 obtain ⟨h1,h2⟩:=oh h.ok ht
 have h3:=h.P'
 refine ⟨⟨ht.dpos,by omega⟩,fun i j hi hj=>?_⟩
 have:=h2 i j hi hj
 rw[n4] at this
 omega
structure Wc (L:Lin) (Y:Lay) (wc:Nat->Int):Prop where
 small:∀j x,(x.natAbs:Int)<=L.P-> -536870912<=wc j*x/\wc j*x<=536870912
end
section
variable {L:Lin} {Y:Lay}
theorem Swp.next {i:Nat} {S:Sx} (h:Swp L Y i S) (hr:Y.N<=S.β i->∀j,j<Y.N->S.T i j=0):Swp L Y (i+1) S :=
 ⟨h.val,h.right,fun k hk hlt hb j hj=>by
  by_cases e:k=i
  ·subst e;exact hr hb j hj
  ·exact h.rows k hk (by omega) hb j hj⟩
end
section
variable {p:Pg}
end
section
variable {L:Lin} {Y:Lay}
end
def K6 (p:Pg) (a:Fq×List Fq×List Fq) (e:Int):Prop :=
 (e=5/\a=nO/\¬ fE (al p))\/(e=22/\a=nO/\fE (al p)/\∃y,(al p).Ref y) \/
 (e=21/\a=nO/\fE (al p)/\(∃x,(al p).Feas x)/\∃r,(al p).Ray r) \/
 (e=0/\fE (al p)/\∃v,a.1=prQ v/\cD v/\a.2.1.length=p.1.length/\(∀x ∈ a.2.1,okF x)/\H8 p a.2.1=true/\(eh p.1 a.2.1 0).isSome=true/\(al p).Feas (vX a.2.1)/\(∃y,(al p).Dual y/\(al p).rhs y=v)/\(al p).val (vX a.2.1)=v)
theorem JF {p:Pg} (hV:ValidP p):∃a e,aw p=some (a,e,())/\K6 p a e:=by
 by_cases hf:fE (al p)
 ·have hok:=kS hV
  rcases HE hV hf with ⟨S,h1,h2⟩ | ⟨S,q,h1,h2⟩ | ⟨S,h1,h2⟩
  ·exact ⟨_,_,h2,.inr (.inl ⟨rfl,rfl,hf,_,qL hV h1⟩)⟩
  ·exact ⟨_,_,h2,.inr (.inr (.inl ⟨rfl,rfl,hf,⟨_,qo hok h1.val (h1.az.art S)⟩,_,FC hok h1.val h1.lt (h1.az.col S h1.lt) h1.neg h1.no⟩))⟩
  ·obtain ⟨a1,a2,a3,a4⟩:=L9 hV hf h1
   obtain ⟨f1,f2⟩:=NW hV hf h1.val
   have hl:(xL p S).length=p.1.length:=aR
   have hv:=KB (p:=p) (x:=xL p S) hl f2
   have hq:cD (B9 p S):=by
    rw[<-a3,<-hv]
    exact yn
   exact ⟨_,_,h2,.inr (.inr (.inr ⟨rfl,hf,B9 p S,rfl,hq,hl,Pv hV hf h1.val,f1,f2,a1,⟨_,a2,a4⟩,a3⟩))⟩
 ·exact ⟨_,_,FE hV hf,.inl ⟨rfl,rfl,hf⟩⟩
theorem Gh {f:(Fq×Unit)->Option Bool} {p:Fq->Bool} {l:List Fq} (hl:l.length<=1000000) (h:∀a,a ∈ l->f (a,())=some (p a)):aj l f=some (l.any p):=by
 simp only[aj,dX]
 have e:bj l f=some (jC p l 0):=by
  unfold bj fe
  exact jV (f:=f) (d:=(0,0)) hl h
 rw[e,aa,tZ]
theorem K3 {x:List Fq} (hl:x.length<=1000) (hx:∀a ∈ x,okF a):bW x=N0 (eh (List.replicate x.length 1) x 0) (some ((0,0),5,())) fun q=>some (prQ q,0,()):=by
 have hc:aj x (fun x=>eP x.1)=some false:=by
  rw[Gh (p:=fun a=>!decide (okF a)) (by omega) (fun a _=>by simp only[eP,mn,km,aa])]
  congr 1
  rw[List.any_eq_false]
  intro a ha h
  rw[z7 (hx a ha)] at h
  cases h
 obtain ⟨l,hll⟩:∃l,l=List.replicate x.length (1:Int):=⟨_,rfl⟩
 have hlen:l.length=x.length:=by rw[hll,List.length_replicate]
 have h1:∀i,i<l.length->l.getD i 0=1:=fun i hi=>by
  rw[aU hi]
  subst hll
  exact List.getElem_replicate _
 simp only[bW,oD,hc,aa,cF,z8 (show ¬ (x.length:Int)>1000 by omega)]
 rw[<-hll]
 refine (lO (α:=Int×Fq×Fq×PUnit) l.length (by omega) (fun i (s:Fq×{q:Rat // cD q})=>((i:Int),s.1,prQ s.2.1,PUnit.unit))
  (fun i s k=>if h:cD (((l.getD i 0:Int):Rat)*qv (x.getD i (0,0)))/\cD (s.2.1+((l.getD i 0:Int):Rat)*qv (x.getD i (0,0))) then k (s.1,⟨_,h.2⟩) else some ((0,0),5,())) (fun s=>some (prQ s.2.1,0,())) ?_ ?_ ((0,0),⟨0,by decide⟩)).trans ?_
 ·intro again i s hi
  obtain ⟨w,q,hq⟩:=s
  have hix:i<x.length:=by omega
  have ha:okF (x.getD i (0,0)):=by rw[aU hix];exact hx _ (List.getElem_mem _)
  simp only[aZ,z7 hix,z7 (show (i:Int)<x.length by omega),cT,z9,dK (show i<=1000000 by omega),h1 i hi]
  have hA:=zE (gW hq) ha
  rw[jR] at hA
  have e1:((1:Int):Rat)*qv (x.getD i (0,0))=qv (x.getD i (0,0)):=by rw[show ((1:Int):Rat)=1 from rfl,Rat.one_mul]
  have f1:cD (qv (x.getD i (0,0))):=JX ha
  simp only[hA,aa,e1]
  rcases iH (q+qv (x.getD i (0,0))) with ⟨f2,e2⟩ | ⟨f2,e2⟩
  ·rw[dif_pos ⟨f1,f2⟩]
   simp only[e2,decide_true,Bool.not_true,cF]
  ·rw[dif_neg fun h=>f2 h.2]
   simp only[e2]
   rfl
 ·intro again s
  simp only[hlen,z8 (show ¬ (x.length:Int)<x.length by omega),cF]
 ·exact zw (cur:=fun s:Fq×{q:Rat // cD q}=>s.2.1) (bad:=some ((0,0),5,())) (good:=fun q=>some (prQ q,0,())) (by omega) (fun i s h=>(s.1,⟨_,h⟩)) (fun _ _ _=>rfl) (fun _ _ _ _=>rfl) (fun _=>rfl) l.length 0 ((0,0),⟨0,by decide⟩) (by omega)
theorem zh (s:Sy) (c:List Int) (hl:c.length=s.2.length):al (cJ s c)=⟨s.2.length,s.1.length,fun k j=>((bv s.1.length (lG s)).getD k rw0).1.getD j 0,fun k=>((bv s.1.length (lG s)).getD k rw0).2.2,fun j=>c.getD j 0,fun k=>((bv s.1.length (lG s)).getD k rw0).2.1⟩:=by
 unfold al cJ
 simp only[hl,aR]
def EqS (s:Sy) (x:Nat->Rat):Prop:=∀i,i<s.1.length->(sq s.2.length fun j=>((Mx s i j:Int):Rat)*x j)=((bwS s i:Int):Rat)
theorem wA {s:Sy} {c:List Int} (hl:c.length=s.2.length) {x:Nat->Rat}:(al (cJ s c)).Feas x↔(∀j,j<s.2.length->0<=x j)/\EqS s x:=by
 rw[zh s c hl]
 have er:∀i,i<s.1.length->(⟨s.2.length,s.1.length,fun k j=>((bv s.1.length (lG s)).getD k rw0).1.getD j 0,fun k=>((bv s.1.length (lG s)).getD k rw0).2.2,fun j=>c.getD j 0,fun k=>((bv s.1.length (lG s)).getD k rw0).2.1⟩:Lin).row x i=sq s.2.length fun j=>((Mx s i j:Int):Rat)*x j:=fun i hi=>by
  unfold Lin.row
  refine ef fun j hj=>?_
  simp only[bB hi,lG,bB hj]
 constructor
 ·rintro ⟨h1,h2,h3⟩
  refine ⟨h1,fun i hi=>?_⟩
  have hk:((bv s.1.length (lG s)).getD i rw0).2.1=3:=by rw[bB hi];rfl
  have hb:((bv s.1.length (lG s)).getD i rw0).2.2=bwS s i:=by rw[bB hi];rfl
  have a1:=h2 i hi (by simp only[hk];omega)
  have a2:=h3 i hi (by simp only[hk];omega)
  rw[er i hi] at a1 a2
  simp only[hb] at a1 a2
  exact Rat.le_antisymm a1 a2
 ·rintro ⟨h1,h2⟩
  refine ⟨h1,fun i hi _=>?_,fun i hi _=>?_⟩
  ·have hb:((bv s.1.length (lG s)).getD i rw0).2.2=bwS s i:=by rw[bB hi];rfl
   rw[er i hi,h2 i hi]
   simp only[hb]
   exact Rat.le_refl
  ·have hb:((bv s.1.length (lG s)).getD i rw0).2.2=bwS s i:=by rw[bB hi];rfl
   rw[er i hi,h2 i hi]
   simp only[hb]
   exact Rat.le_refl
theorem O7 {s:Sy} {c:List Int}:(al (cJ s c)).F0=1+sz c.length fun j=>ab (c.getD j 0):=rfl
theorem LM {s:Sy} {c c':List Int} (hl:c.length=s.2.length) (hl':c'.length=s.2.length) (h:(al (cJ s c)).F0=(al (cJ s c')).F0):fac (al (cJ s c))=fac (al (cJ s c')):=by
 funext k
 cases k with
 | zero=>exact h
 | succ k =>
  simp only[fac]
  rw[zh s c hl,zh s c' hl']
  rfl
theorem zQ {s:Sy} {c c':List Int} (hl:c.length=s.2.length) (hl':c'.length=s.2.length) (h:(al (cJ s c)).F0=(al (cJ s c')).F0):fE (al (cJ s c))↔fE (al (cJ s c')):=by
 unfold fE
 rw[LM hl hl' h,show (al (cJ s c)).m=(al (cJ s c')).m from rfl]
theorem q6 {s:Sy} {k:Nat} {c:Int} (hk:k<s.2.length) (hc:ab c=1):(al (cJ s (fP s k c))).F0=2:=by
 rw[O7,fU,eF (k:=k) hk fun i hi hne=>?_,pk hk,if_pos rfl,hc]
 ·rfl
 ·rw[pk hi,if_neg (Ne.symm hne)]
  rfl
theorem lg {s:Sy}:(fg s).length=s.2.length:=by unfold fg;rw[List.length_replicate]
theorem I7 {s:Sy} (h:fj s=true) {a:Fq×List Fq×List Fq} {e:Int} (hs:aw (cJ s (fg s))=some (a,e,())):aN s=some (bif decide (e=0) then a.2.1 else [],e,()):=by
 unfold aN mU
 rw[uv h,aa,hs]
 by_cases he:e=0
 ·subst he;rfl
 ·simp only[z8 he,aa]
  rfl
theorem B4 {s:Sy} (h:fj s=true) {y:List Fq} {e:Int} (hs:bV (cJ s (fg s))=some (y,e,())):ca s=some (y,e,()):=by
 unfold ca lP
 rw[uv h,aa,hs]
 rfl
theorem OY (s:Sy) (n:ByteArray) (hl:s.2.length<=1000000):bG s.2 (fun x=>dF x.1 n)=some (frI s n):=by
 simp only[dF,kr,pF]
 unfold bG gD
 exact jV (f:=fun x:Rp×Unit=>some (decide (x.1.1=n))) (p:=fun r:Rp=>decide (r.1=n)) (d:=rp0) hl (fun a _=>rfl)
theorem Fo {s:Sy} (h:fj s=true) {n:ByteArray} {k:Nat} (hn:frI s n=(k:Int)) (hk:k<s.2.length) {a:Fq×List Fq×List Fq} {e:Int} (hs:aw (cJ s (fP s k 1))=some (a,e,())):br s n=some (bif decide (e=0) then a.1 else (0,0),e,()):=by
 have hr:=(fN h).rl
 unfold br mg
 rw[pv,aa,h,OY s n (by omega),aa,hn,z8 (show ¬ (k:Int)<0 by omega),xP h hk]
 by_cases he:e=0
 ·subst he
  simp only[Bool.not_true,cF,aa,hs]
  rfl
 ·simp only[Bool.not_true,cF,aa,hs,z8 he]
  rfl
def lw (s:Sy) (z:Nat->Bool):Nat->List ByteArray
 | 0=>[]
 | k+1=>if z k then lw s z k++[rnS s k] else lw s z k
theorem qI {s:Sy} {z:Nat->Bool}:∀k,(lw s z k).length<=k
 | 0=>Nat.le_refl _
 | k+1=>by
  have:=qI (s:=s) (z:=z) k
  simp only[lw]
  split
  ·rw[List.length_append,List.length_singleton];omega
  ·omega
theorem m6 {s:Sy} {z:Nat->Bool} {n:ByteArray}:∀{k:Nat},n ∈ lw s z k↔∃j,j<k/\z j=true/\rnS s j=n
 | 0=>by simp[lw]
 | k+1=>by
  simp only[lw]
  constructor
  ·intro h
   split at h
   ·rename_i hz
    rcases List.mem_append.1 h with h | h
    ·obtain ⟨j,h1,h2⟩:=(m6 (k:=k)).1 h
     exact ⟨j,by omega,h2⟩
    ·exact ⟨k,by omega,hz,(List.mem_singleton.1 h).symm⟩
   ·obtain ⟨j,h1,h2⟩:=(m6 (k:=k)).1 h
    exact ⟨j,by omega,h2⟩
  ·rintro ⟨j,h1,h2,h3⟩
   by_cases e:j=k
   ·subst e
    rw[if_pos h2]
    exact List.mem_append.2 (.inr (List.mem_singleton.2 h3.symm))
   ·have:=(m6 (k:=k)).2 ⟨j,by omega,h2,h3⟩
    split
    ·exact List.mem_append.2 (.inl this)
    ·exact this
theorem E9 {s:Sy} (h:fj s=true) {A:Nat->Fq×List Fq×List Fq} {E:Nat->Int} (hs:∀k,k<s.2.length->aw (cJ s (fP s k (-1)))=some (A k,E k,())) (hE:∀k,k<s.2.length->E k=0\/E k=21) :
  aO s=some (lw s (fun k=>decide (E k=0)&&decide ((A k).1.1=0)) s.2.length,0,()):=by
 have hr:=(fN h).rl
 unfold aO j4
 rw[pv,aa,h]
 simp only[Bool.not_true,cF]
 refine cu s.2.length (by omega) (fun k=>(lw s (fun k=>decide (E k=0)&&decide ((A k).1.1=0)) k,(k:Int),PUnit.unit)) _ rfl (fun again k hk=>?_) (fun again=>?_)
 ·have hlen:=qI (s:=s) (z:=fun k=>decide (E k=0)&&decide ((A k).1.1=0)) k
  simp only[aZ,z7 hk,z7 (show (k:Int)<s.2.length by omega),cT,z9,xP h hk,aa,hs k hk,dK (show k<=1000000 by omega),decide_true,Bool.not_true,cF]
  simp only[lw]
  have d1:decide ((0:Int)=21)=false:=rfl
  rcases hE k hk with e | e
  ·by_cases c:(A k).1.1=0
   ·rw[if_pos (by rw[z7 c,z7 e];rfl)]
    simp only[e,d1,decide_true,Bool.not_true,cF,z7 c,cT,eL (show ((lw s (fun k=>decide (E k=0)&&decide ((A k).1.1=0)) k).length+1)*16<=140737488355328 by omega)]
    rfl
   ·rw[if_neg (by rw[z8 c,Bool.and_false];exact Bool.false_ne_true)]
    simp only[e,d1,decide_true,Bool.not_true,cF,z8 c]
  ·rw[if_neg (by rw[z10];exact fun h=>absurd (z12 h.1) (by omega))]
   simp only[e,decide_true,cT]
 ·simp only[z8 (show ¬ (s.2.length:Int)<s.2.length by omega),cF]
theorem CM {s:Sy} (h:fj s=true) {A:Nat->Fq×List Fq×List Fq} {e:Int} (he:e≠0/\e≠21) (hs:∀k,k<s.2.length->aw (cJ s (fP s k (-1)))=some (A k,e,())):aO s=some ([],e,()):=by
 have hr:=(fN h).rl
 unfold aO j4
 rw[pv,aa,h]
 simp only[Bool.not_true,cF]
 refine cu 0 (by omega) (fun k=>([],(k:Int),PUnit.unit)) _ rfl (fun again k hk=>absurd hk (by omega)) (fun again=>?_)
 have h1:=xP h (k:=0) (by omega) (-1)
 have h2:=hs 0 (by omega)
 simp only[aZ,z7 (show 0<s.2.length by omega),z7 (show ((0:Nat):Int)<s.2.length by omega),cT,h1,aa,h2,decide_true,Bool.not_true,cF,z8 he.1,z8 he.2,Bool.not_false]
theorem Mv {P:Nat->Pg} {n:Nat} (h:∀k,k<n->ValidP (P k)):∃(A:Nat->Fq×List Fq×List Fq) (E:Nat->Int),∀k,k<n->aw (P k)=some (A k,E k,())/\K6 (P k) (A k) (E k):=by
 refine ⟨fun k=>((aw (P k)).getD (nO,0,())).1,fun k=>((aw (P k)).getD (nO,0,())).2.1,fun k hk=>?_⟩
 obtain ⟨a,e,h1,h2⟩:=JF (h k hk)
 show aw (P k)=some (((aw (P k)).getD (nO,0,())).1,((aw (P k)).getD (nO,0,())).2.1,())/\K6 (P k) ((aw (P k)).getD (nO,0,())).1 ((aw (P k)).getD (nO,0,())).2.1
 rw[h1]
 exact ⟨rfl,h2⟩
end Go.Proofs.YtfknoaclabfdlaaGreat

namespace Go.Proofs.YtfknoaclabfdlaaGreat
noncomputable section
open Tryz Dn Dn.Sh
theorem LQ {a:Fq} (ha:okF a):okF (-a.1,a.2)/\qv (-a.1,a.2)= - qv a:=by
 obtain ⟨⟨a1,a2⟩,⟨a3,a4⟩,a5⟩:=ha
 refine ⟨⟨⟨a1,a2⟩,⟨by simp only;omega,by simp only;omega⟩,by simpa using a5⟩,?_⟩
 simp only[qv]
 rw[Rat.neg_mkRat]
theorem KL {a b:Fq} (ha:okF a) (hb:okF b):gv a b=some (sG (qv a - qv b)):=by
 obtain ⟨h2,h3⟩:=LQ hb
 have hb':=hb
 obtain ⟨_,⟨b1,b2⟩,_⟩:=hb'
 have hw:IntKind.wrap .i64 (0 - b.1)= -b.1:=by rw[aW (by omega) (by omega)];omega
 simp only[gv,oM,km,z7 ha,z7 hb,aa,Bool.not_true,Bool.not_false,Bool.or_true,cT,cF]
 rw[hw,zE ha h2,aa,h3,<-Rat.sub_eq_add_neg]
theorem Nz (n:Int):ci n=some (n,1):=id rfl
theorem H7 {q:Rat} {n:Int} {a:Fq} (hq:cD q) (hn: -1152921504606846976<=n/\n<=1152921504606846976) (ha:okF a) :
  dt (prQ q) n a=some (if cD ((n:Rat)*qv a)/\cD (q+(n:Rat)*qv a) then (prQ (q+(n:Rat)*qv a),0,()) else ((0,0),5,())):=by
 have hm:=H5 (tR hn.1 hn.2) ha
 rw[zq] at hm
 simp only[dt,lL,Nz,aa,hm]
 rcases iH ((n:Rat)*qv a) with ⟨f1,e1⟩ | ⟨f1,e1⟩
 ·have hA:=zE (gW hq) (gW f1)
  rw[jR,jR] at hA
  simp only[e1,decide_true,Bool.not_true,cF,hA,aa]
  rcases iH (q+(n:Rat)*qv a) with ⟨f2,e2⟩ | ⟨f2,e2⟩
  ·rw[if_pos ⟨f1,f2⟩,e2]
  ·rw[if_neg fun h=>f2 h.2,e2]
 ·rw[if_neg fun h=>f1 h.1]
  simp only[e1]
  rfl
theorem Gu {α R:Type} {F:(α->Option R)->α->Option R} {x:α} (n:Nat) (hn:n<=1180591620717411303423) (st:Nat->α) (p:Nat->Bool) {bad good:Option R} (hx:x=st 0) (hb:∀again i,i<n->F again (st i)=bif p i then again (st (i+1)) else bad) (hf:∀again,F again (st n)=good) :
  lpK α R F x=bif (List.range' 0 n).all p then good else bad:=by
 rw[hx]
 rcases rB n (fun i=>!p i) with h | ⟨q,h1,h2,h3⟩
 ·have e:(List.range' 0 n).all p=true:=List.all_eq_true.2 fun i hi=>by
   obtain ⟨k,hk,rfl⟩:=List.mem_range'.1 hi
   have:=h (0+1*k) (by omega)
   simpa using this
  rw[e,cT]
  refine nu n hn st _ (fun again i hi=>?_) hf
  have:=h i hi
  rw[hb again i hi,show p i=true by simpa using this,cT]
 ·have e:(List.range' 0 n).all p=false:=by
   rw[Bool.eq_false_iff]
   intro hh
   rw[List.all_eq_true] at hh
   have:=hh q (iC h1)
   rw[this] at h2
   cases h2
  rw[e,cF]
  refine nu q (by omega) st _ (fun again i hi=>?_) (fun again=>?_)
  ·have:=h3 i hi
   rw[hb again i (by omega),show p i=true by simpa using this,cT]
  ·rw[hb again q h1,show p q=false by simpa using h2,cF]
def JT (s:Sy) (l:List Fq) (i:Nat):Option Rat:=eh (bv s.2.length (Mx s i)) l 0
def tQ (s:Sy) (l:List Fq) (i:Nat):Rat:=((bwS s i:Int):Rat) - (JT s l i).getD 0
def EE (s:Sy) (l:List Fq) (i:Nat):Bool:=(JT s l i).isSome&&decide (cD (tQ s l i))
theorem BV {s:Sy} (h:fj s=false) (l:List Fq):ct s l=some ([],1,()):=by
 unfold ct iw
 rw[H6 h,aa]
 rfl
theorem sm {s:Sy} (h:fj s=true) {l:List Fq} (hl:l.length<=1000000):ct s l=some (bif okL l then bif decide (l.length=s.2.length) then (Fv s,0,()) else ([],3,()) else ([],1,())):=by
 have hc:aj l (fun x=>cS x.1)=some (!okL l):=by
  rw[Gh (p:=fun a=>!decide (okF a)) hl (fun a _=>by simp only[cS,je,km,aa])]
  congr 1
  unfold okL
  rw[Bool.eq_iff_iff,Bool.not_eq_true',List.any_eq_true]
  constructor
  ·rintro ⟨a,ha,h1⟩
   rw[Bool.eq_false_iff]
   intro hh
   rw[List.all_eq_true] at hh
   rw[hh a ha] at h1
   cases h1
  ·intro hh
   rw[Bool.eq_false_iff] at hh
   apply Classical.byContradiction
   intro hn
   apply hh
   rw[List.all_eq_true]
   intro a ha
   cases hd:decide (okF a) with
   | true=>rfl
   | false=>exact (hn ⟨a,ha,by rw[hd];rfl⟩).elim
 unfold ct iw
 rw[Dy h,aa,hc,aa]
 rw[show decide ((l.length:Int)=s.2.length)=decide (l.length=s.2.length) from decide_eq_decide.2 (by omega)]
 cases okL l with
 | false=>rfl
 | true=>cases decide (l.length=s.2.length)<;>rfl
theorem Lr {s:Sy} (h:fj s=true) {l:List Fq} (ho:∀a ∈ l,okF a) (hlen:l.length=s.2.length) :
  ba s l=bif (List.range' 0 s.1.length).all (EE s l) then some (bv s.1.length fun i=>prQ (tQ s l i),0,()) else some ([],5,()):=by
 have hV:=fN h
 have hb:=hV.bl
 have hr:=hV.rl
 have hz:ci 0=some (prQ 0):=rfl
 unfold ba dP
 rw[sm h (by omega),aa,o5.2 ho,z7 hlen]
 simp only[cT,decide_true,Bool.not_true,cF]
 unfold Fv
 refine Gu s.1.length (by omega) (fun i=>(bv i (fun i=>prQ (tQ s l i)),(0:Int),(i:Int),PUnit.unit)) (EE s l) rfl (fun again i hi=>?_) (fun again=>?_)
 ·obtain ⟨out,hout⟩:∃out,out=bv i (fun i=>prQ (tQ s l i)):=⟨_,rfl⟩
  have hol:out.length=i:=by rw[hout,aR]
  have hnx:bv (i+1) (fun i=>prQ (tQ s l i))=out++[prQ (tQ s l i)]:=by rw[hout,qy]
  simp only[hnx,<-hout]
  have hM:(qm s.1.length s.2.length (Mx s)).getD i []=bv s.2.length (Mx s i):=mL hi
  have hwt:=hV.wt i hi
  have hlr:(bv s.2.length (Mx s i)).length=s.2.length:=aR
  simp only[gn,aZ,z7 hi,z7 (show (i:Int)<s.1.length by omega),cT,z9,hM,hz,aa]
  refine (lO (α:=Int×Fq×PUnit) (bv s.2.length (Mx s i)).length (by omega) (fun k (q:{q:Rat // cD q})=>((k:Int),prQ q.1,PUnit.unit))
   (fun k q K=>if h:cD ((((bv s.2.length (Mx s i)).getD k 0:Int):Rat)*qv (l.getD k (0,0)))/\cD (q.1+(((bv s.2.length (Mx s i)).getD k 0:Int):Rat)*qv (l.getD k (0,0))) then K ⟨_,h.2⟩ else some ([],5,()))
   (fun q=>bif decide (cD (((bwS s i:Int):Rat) - q.1)) then again (out++[prQ (((bwS s i:Int):Rat) - q.1)],0,((i+1:Nat):Int),PUnit.unit) else some ([],5,())) ?_ ?_ ⟨0,by decide⟩).trans ?_
  ·intro again1 k q hk
   rw[hlr] at hk
   obtain ⟨q,hq⟩:=q
   have hkl:k<l.length:=by omega
   have ha:okF (l.getD k (0,0)):=by rw[aU hkl];exact ho _ (List.getElem_mem _)
   have hg:(bv s.2.length (Mx s i)).getD k 0=Mx s i k:=bB hk
   have hbd:=Af hV i hk
   have hp:=H7 (n:=Mx s i k) hq (by omega) ha
   simp only[aZ,aR,z7 hk,z7 hkl,z7 (show (k:Int)<l.length by omega),cT,z9,hg,hp,aa,dK (show k<=1000000 by omega)]
   by_cases c:cD ((Mx s i k:Rat)*qv (l.getD k (0,0)))/\cD (q+(Mx s i k:Rat)*qv (l.getD k (0,0)))
   ·rw[dif_pos c,if_pos c]
    simp only[decide_true,Bool.not_true,cF]
   ·rw[dif_neg c,if_neg c]
    rfl
  ·intro again1 q
   obtain ⟨q,hq⟩:=q
   have hS:=KL (tR (n:=bwS s i) (by omega) (by omega)) (gW hq)
   rw[zq,jR] at hS
   have hwS:ci (List.getD s.1 i ({ data:={ toList:=[] } },(0:Int))).2=some (bwS s i,1):=rfl
   simp only[hlr,hlen,z8 (show ¬ (s.2.length:Int)<s.2.length by omega),cF,hwS,aa,hS]
   rcases iH (((bwS s i:Int):Rat) - q) with ⟨f2,e2⟩ | ⟨f2,e2⟩
   ·rw[z7 f2]
    simp only[e2,decide_true,Bool.not_true,cF,cT,dK (show i<=1000000 by omega),eL (show (out.length+1)*16<=140737488355328 by omega)]
   ·rw[z8 f2]
    simp only[e2]
    rfl
  ·rw[zw (cur:=fun q:{q:Rat // cD q}=>q.1) (bad:=some ([],5,())) (good:=fun q=>bif decide (cD (((bwS s i:Int):Rat) - q)) then again (out++[prQ (((bwS s i:Int):Rat) - q)],0,((i+1:Nat):Int),PUnit.unit) else some ([],5,())) (l:=bv s.2.length (Mx s i)) (x:=l) (by omega) (fun k q h=>⟨_,h⟩) (fun _ _ _=>rfl) (fun _ _ _ _=>rfl) (fun _=>rfl) (bv s.2.length (Mx s i)).length 0 ⟨0,by decide⟩ (by omega)]
   simp only[List.drop_zero]
   rw[show eh (bv s.2.length (Mx s i)) l 0=JT s l i from rfl]
   unfold EE tQ
   cases hq:JT s l i with
   | none=>rfl
   | some q=>rfl
 ·simp only[gn,z8 (show ¬ (s.1.length:Int)<s.1.length by omega),cF,decide_true,Bool.not_true]
def eqB (s:Sy) (l:List Fq):Bool:=(List.range' 0 s.1.length).all fun i=>decide (tQ s l i=0)
def sJ (s:Sy) (l:List Fq):Bool:=(List.range' 0 s.1.length).all (EE s l)
theorem xI {q:Rat}:(prQ q).1=0↔q=0:=Rat.num_eq_zero
theorem CO {s:Sy} (h:fj s=false) (l:List Fq):bx s l=some (false,1,()):=by
 unfold bx iu ba dP
 rw[BV h]
 rfl
theorem Fy {s:Sy} (h:fj s=true) {l:List Fq} (hl:l.length<=1000000):bx s l=some (bif okL l then bif decide (l.length=s.2.length) then bif sJ s l then (eqB s l,0,()) else (false,5,()) else (false,3,()) else (false,1,())):=by
 unfold bx iu
 cases ho:okL l with
 | false =>
  have hr:ba s l=some ([],1,()):=by
   unfold ba dP
   rw[sm h hl,aa,ho]
   rfl
  rw[hr]
  rfl
 | true =>
  by_cases hn:l.length=s.2.length
  ·have hb:=(fN h).bl
   rw[Lr h (o5.1 ho) hn,z7 hn]
   rw[show ((List.range' 0 s.1.length).all (EE s l))=sJ s l from rfl]
   cases hr:sJ s l with
   | false=>rfl
   | true =>
    have hc:aj (bv s.1.length fun i=>prQ (tQ s l i)) (fun x=>cR x.1)=some (!eqB s l):=by
     rw[Gh (p:=fun a=>!decide (a.1=0)) (by rw[aR];omega) (fun a _=>by simp only[cR,iU])]
     congr 1
     unfold eqB
     rw[Bool.eq_iff_iff,List.any_eq_true,Bool.not_eq_true',Bool.eq_false_iff,Ne,List.all_eq_true]
     constructor
     ·rintro ⟨a,ha,h1⟩ hh
      obtain ⟨i,hi,rfl⟩:=rF.1 ha
      have:=z12 (hh i (iC hi))
      rw[z7 (xI.2 this)] at h1
      cases h1
     ·intro hh
      apply Classical.byContradiction
      intro hn
      apply hh
      intro i hi
      obtain ⟨k,hk,rfl⟩:=List.mem_range'.1 hi
      refine z7 (Classical.byContradiction fun h0=>hn ⟨prQ (tQ s l (0+1*k)),rF.2 ⟨_,by omega,rfl⟩,?_⟩)
      rw[z8 fun e=>h0 (xI.1 e)]
      rfl
    simp only[cT,aa,decide_true,Bool.not_true,cF,hc,Bool.not_not]
  ·have hr:ba s l=some ([],3,()):=by
    unfold ba dP
    rw[sm h hl,aa,ho,z8 hn]
    rfl
   rw[hr,z8 hn]
   rfl
theorem Md {s:Sy} {l:List Fq} (hn:l.length=s.2.length) (hr:sJ s l=true):eqB s l=true↔EqS s (vX l):=by
 unfold sJ at hr
 unfold eqB
 rw[List.all_eq_true] at hr ⊢
 have e:∀i,i<s.1.length->tQ s l i=((bwS s i:Int):Rat) - sq s.2.length fun j=>((Mx s i j:Int):Rat)*vX l j:=fun i hi=>by
  have h1:=hr i (iC hi)
  unfold EE at h1
  rw[z10] at h1
  have h2:=rH (l:=bv s.2.length (Mx s i)) (x:=l) (by rw[aR];omega) h1.1
  unfold tQ JT
  rw[h2,aR]
  congr 1
  exact ef fun j hj=>by rw[bB hj]
 constructor
 ·intro h i hi
  have h1:=z12 (h i (iC hi))
  rw[e i hi] at h1
  grind
 ·intro h i hi
  obtain ⟨k,hk,rfl⟩:=List.mem_range'.1 hi
  refine z7 ?_
  have h1:=h (0+1*k) (by omega)
  rw[e _ (by omega),h1]
  grind
theorem KM (l:List Fq) (hl:l.length<=1000000):bA l=some (l.all fun a=>!decide (a.1<0)):=by
 simp only[bA,jT]
 refine (pA (p:=fun a:Fq=>!decide (a.1<0)) (d:=(0,0)) (l:=l) (no:=some false) (yes:=some true) hl ?_ ?_).trans ?_
 ·intro again i hi
  simp only[aZ,z7 hi,z7 (show (i:Int)<l.length by omega),cT,z9,dK (show i<=1000000 by omega)]
  cases decide ((l.getD i (0,0)).1<0)<;>rfl
 ·intro again
  simp only[z8 (show ¬ (l.length:Int)<l.length by omega),cF]
 ·cases l.all (fun a=>!decide (a.1<0))<;>rfl
theorem LH {l:List Fq} (ho:∀a ∈ l,okF a):(l.all fun a=>!decide (a.1<0))=true↔∀j,j<l.length->0<=vX l j:=by
 rw[Em (0,0)]
 constructor
 ·intro h j hj
  have h1:=h j hj
  rw[Bool.not_eq_true',decide_eq_false_iff_not] at h1
  exact (lx (ho _ (by rw[aU hj];exact List.getElem_mem _))).2 (by omega)
 ·intro h j hj
  have h1:=(lx (ho (l.getD j (0,0)) (by rw[aU hj];exact List.getElem_mem _))).1 (h j hj)
  rw[Bool.not_eq_true',decide_eq_false_iff_not]
  omega
theorem Cw {s:Sy} {r:Nat->Rat} (h:(al (cJ s (fg s))).Ray r):False:=by
 have h1:=h.val
 have h2:0<=(al (cJ s (fg s))).val r:=FI fun j hj=>by
  have hj':j<s.2.length:=by have:j<(fg s).length:=hj;rw[lg] at this;exact this
  have e:(al (cJ s (fg s))).c j=1:=by
   show (fg s).getD j 0=1
   rw[aU (by rw[lg];exact hj')]
   unfold fg
   exact List.getElem_replicate _
  rw[e]
  have:=h.pos j hj
  grind
 grind
end
end Go.Proofs.YtfknoaclabfdlaaGreat

namespace Go.Proofs.YtfknoaclabfdlaaGreat
open Tryz Dn Dn.Sh
theorem Eb:∀{n:Nat} {f:Nat->Rat} {k:Nat},k<n->(∀i,i<n->i≠k->f i=0)->sq n f=f k
 | n+1,f,k,hk,h=>by
  simp only[sq]
  by_cases e:k=n
  ·subst e
   rw[pq fun i hi=>h i (by omega) (by omega),Rat.zero_add]
  ·rw[Eb (k:=k) (by omega) fun i hi hne=>h i (by omega) hne,h n (by omega) (fun h=>e h.symm),Rat.add_zero]
theorem uw {s:Sy} {k:Nat} {c:Int} (hk:k<s.2.length) (x:Nat->Rat):(al (cJ s (fP s k c))).val x=(c:Rat)*x k:=by
 have e:(al (cJ s (fP s k c))).val x=sq s.2.length fun j=>(((fP s k c).getD j 0:Int):Rat)*x j:=by
  show (sq (fP s k c).length fun j=>(((fP s k c).getD j 0:Int):Rat)*x j)=_
  rw[fU]
 rw[e,Eb (k:=k) hk fun i hi hne=>?_,pk hk,if_pos rfl]
 rw[pk hi,if_neg (Ne.symm hne)]
 exact Rat.zero_mul _
theorem BG {s:Sy} (x:Nat->Rat):(al (cJ s (fg s))).val x=sq s.2.length x:=by
 have e:(al (cJ s (fg s))).val x=sq s.2.length fun j=>(((fg s).getD j 0:Int):Rat)*x j:=by
  show (sq (fg s).length fun j=>(((fg s).getD j 0:Int):Rat)*x j)=_
  rw[lg]
 rw[e]
 refine ef fun j hj=>?_
 have e2:(fg s).getD j 0=1:=by
  rw[aU (by rw[lg];exact hj)]
  unfold fg
  exact List.getElem_replicate _
 rw[e2]
 exact Rat.one_mul _
theorem qi {x:List Fq} (hl:x.length<=1000) (hx:∀a ∈ x,okF a):bW x=some ((0,0),5,())\/∃q,cD q/\q=sq x.length (vX x)/\bW x=some (prQ q,0,()):=by
 rw[K3 hl hx]
 cases hq:eh (List.replicate x.length 1) x 0 with
 | none=>exact .inl rfl
 | some q =>
  refine .inr ⟨q,sO (by decide) hq,?_,rfl⟩
  have:=uO (by rw[List.length_replicate];exact Nat.le_refl _) hq
  rw[this,Rat.zero_add,List.length_replicate]
  refine ef fun j hj=>?_
  rw[aU (by rw[List.length_replicate];exact hj),List.getElem_replicate]
  exact Rat.one_mul _
theorem Nn {s:Sy} (hV:ValidS s) {k:Nat} (hk:k<s.2.length):frI s (rnS s k)=(k:Int):=by
 rcases Fs s (rnS s k) with ⟨_,h⟩ | ⟨i,h1,h2,h3⟩
 ·exact (h k hk rfl).elim
 ·rw[h2,hV.rinj i k h1 hk h3]
theorem Nc (l:List ByteArray) (n:ByteArray) (hl:l.length<=1000000):bF l n=some (l.any fun a=>decide (a=n)):=by
 simp only[bF,gS,du,jh]
 have e:∀a:ByteArray,List.beq (ByteArray.toList n) (ByteArray.toList a)=decide (a=n):=fun a=>by rw[pF];exact decide_eq_decide.2 eq_comm
 simp only[e]
 rw[Ev (p:=fun a:ByteArray=>decide (a=n)) (d:={ data:={ toList:=[] } }) hl,aa,tZ]
theorem C9 {s:Sy} {k:Nat} (hk:k<s.2.length) {r:Nat->Rat} (h:(al (cJ s (fP s k 1))).Ray r):False:=by
 have h1:=h.val
 rw[uw hk] at h1
 have h2:=h.pos k (by show k<(fP s k 1).length;rw[fU];exact hk)
 have h3:((1:Int):Rat)=1:=rfl
 rw[h3] at h1
 grind
theorem y5 {s:Sy} {c:List Int} (hc:c.length=s.2.length) {x:Nat->Rat} (hE:EqS s x) (hp:∀j,j<s.2.length->0<=x j) {a:Fq×List Fq×List Fq} {e:Int} (h:K6 (cJ s c) a e):e≠22/\(e=0->∃v,a.1=prQ v/\cD v/\v<=(al (cJ s c)).val x):=by
 have hF:=(wA hc).2 ⟨hp,hE⟩
 rcases h with ⟨h,_⟩ | ⟨_,_,_,y,hy⟩ | ⟨h,_⟩ | ⟨h,_,v,h1,hfv,_,_,_,_,_,⟨y,hy,hyv⟩,_⟩
 ·exact ⟨by omega,fun e=>by omega⟩
 ·exact (hy.none hF).elim
 ·exact ⟨by omega,fun e=>by omega⟩
 ·refine ⟨by omega,fun _=>⟨v,h1,hfv,?_⟩⟩
  have:=Lin.weak hF hy
  rwa [hyv] at this
theorem Bc (s:Sy) (l y:List Fq):i7 s l y=some true:=by
 have hi:∀e0:Bool,(!e0||e0)=true:=fun e0=>by cases e0<;>rfl
 have hj:∀e0:Bool,(e0||!e0)=true:=fun e0=>by cases e0<;>rfl
 simp only[i7,ig,F2,MZ,aa,Bool.not_true,cF,oZ]
 cases hs:m8 s with
 | false=>rfl
 | true =>
  have hl:=CP hs
  by_cases hll:l.length<=10
  ·rw[z7 hll]
   by_cases hyy:(y.length:Int)>10
   ·rw[z7 hyy];rfl
   ·rw[z8 hyy]
    simp only[Bool.and_self,Bool.not_true,Bool.not_false,Bool.or_true,cT,cF]
    cases hv:fj s with
    | false=>rw[CO hv];rfl
    | true =>
     have hV:=fN hv
     have hr:=hV.rl
     rw[Fy hv (show l.length<=1000000 by omega),aa]
     cases ho:okL l with
     | false=>rfl
     | true =>
      by_cases hn:l.length=s.2.length
      ·rw[z7 hn]
       cases hra:sJ s l with
       | false=>rfl
       | true =>
        simp only[cT]
        cases heq:eqB s l with
        | false=>rfl
        | true =>
         have hE:=(Md hn hra).1 heq
         have ho':=o5.1 ho
         simp only[decide_true,Bool.not_true,Bool.not_false,Bool.or_true,cF,cT,KM l (show l.length<=1000000 by omega),aa]
         cases hpo:l.all (fun a=>!decide (a.1<0)) with
         | false=>rfl
         | true =>
          have hpos:∀j,j<s.2.length->0<=vX l j:=fun j hj=>(LH ho').1 hpo j (by omega)
          have hp1:=JD hV
          have hvp:=gM.2 hp1
          have hF1:=(wA (c:=fg s) lg).2 ⟨hpos,hE⟩
          obtain ⟨a,e,h1,h2⟩:=JF hp1
          obtain ⟨z,f,h3,h4⟩:=Cu (cJ s (fg s))
          obtain ⟨A,E,hAE⟩:=Mv (P:=fun k=>cJ s (fP s k (-1))) (n:=s.2.length) fun k _=>Bm hV (by rfl)
          obtain ⟨B,G,hBG⟩:=Mv (P:=fun k=>cJ s (fP s k 1)) (n:=s.2.length) fun k _=>Bm hV (by rfl)
          obtain ⟨bq,g,hpv,hbg⟩:∃bq g,aL s y=some (bq,g,())/\(g=0->bq=false):=by
           rw[BU hv,tg (show y.length<=1000000 by omega),hvp,aa]
           cases hoy:okL y with
           | false=>exact ⟨_,_,rfl,fun h=>rfl⟩
           | true =>
            by_cases hny:y.length=(cJ s (fg s)).2.length
            ·rw[z7 hny]
             cases hfy:rQ (cJ s (fg s)) y&&(pN (cJ s (fg s)) y).isSome with
             | false=>exact ⟨_,_,rfl,fun h=>rfl⟩
             | true =>
              refine ⟨_,_,rfl,fun _=>?_⟩
              show Hk (cJ s (fg s)) y=false
              rw[Bool.eq_false_iff]
              intro hb
              rw[z10] at hfy
              exact ((tC (o5.1 hoy) hny hfy.1 hfy.2).1 hb).none hF1
            ·rw[z8 hny]
             exact ⟨_,_,rfl,fun h=>rfl⟩
          have hff:f=12\/f=5:=by
           rcases h4 with ⟨_,_,h⟩ | ⟨h,_⟩ | ⟨h,_⟩ | ⟨_,_,_,_,_,y1,hy1⟩
           ·rw[hvp] at h;cases h
           ·exact .inr h
           ·exact .inl h
           ·exact (hy1.none hF1).elim
          have hee:e=5\/e=0:=by
           rcases h2 with ⟨h,_⟩ | ⟨_,_,_,y1,hy1⟩ | ⟨_,_,_,_,r,hr1⟩ | ⟨h,_⟩
           ·exact .inl h
           ·exact (hy1.none hF1).elim
           ·exact (Cw hr1).elim
           ·exact .inr h
          have hg:(bif decide (g=0) then bq else false)=false:=by
           by_cases c:g=0
           ·rw[z7 c,hbg c];rfl
           ·rw[z8 c];rfl
          have hf12:(bif !decide (f=12) then !decide (f=5) else false)=false:=by
           rcases hff with c | c<;>(subst c;rfl)
          simp only[hpv,B4 hv h3,I7 hv h1,aa,Bool.not_true,cF,cT,hi,hg,hf12]
          rcases hee with rfl | rfl
          ·rfl
          obtain ⟨ha,hca⟩:(∀x ∈ a.2.1,okF x)/\a.2.1.length=s.2.length/\(al (cJ s (fg s))).val (vX a.2.1)<=(al (cJ s (fg s))).val (vX l):=by
           rcases h2 with ⟨h,_⟩ | ⟨h,_⟩ | ⟨h,_⟩ | ⟨_,_,v,_,_,hlen,hok,_,_,_,⟨y1,hy1,hyv⟩,hval⟩
           ·omega
           ·omega
           ·omega
           ·refine ⟨hok,hlen.trans lg,?_⟩
            rw[hval,<-hyv]
            exact Lin.weak hF1 hy1
          rw[BG,BG] at hca
          have hcmp:∀q1 q2,cD q1->cD q2->q1=sq l.length (vX l)->q2=sq a.2.1.length (vX a.2.1)->cG (prQ q2) (prQ q1)=some (pM q2 q1,0,())/\decide (pM q2 q1>0)=false:=fun q1 q2 f1 f2 e1 e2=>by
           have hc:=B6 (gW f2) (gW f1)
           rw[jR,jR] at hc
           refine ⟨hc,?_⟩
           have:pM q2 q1<=0:=uc.2 (by rw[e1,e2,hca.1,hn];exact hca.2)
           exact z8 (by omega)
          obtain ⟨n,g2,hsl,hn6,hng⟩:∃n g2,aO s=some (n,g2,())/\n.length<=6/\(g2=0->∀k,k<s.2.length->(n.any fun a=>decide (a=rnS s k))=true->(l.getD k (0,0)).1=0):=by
           have hcase:∀k,k<s.2.length->(E k=0\/E k=21)\/E k=5:=fun k hk=>by
            have h22:=(y5 fU hE hpos (hAE k hk).2).1
            rcases (hAE k hk).2 with ⟨h,_⟩ | ⟨h,_⟩ | ⟨h,_⟩ | ⟨h,_⟩
            ·exact .inr h
            ·exact (h22 h).elim
            ·exact .inl (.inr h)
            ·exact .inl (.inl h)
           by_cases hfo:fE (al (cJ s (fP s 0 (-1))))
           ·have hall:∀k,k<s.2.length->E k=0\/E k=21:=fun k hk=>by
             have hfk:=(zQ (c:=fP s 0 (-1)) (c':=fP s k (-1)) fU fU (by rw[q6 (by omega) rfl,q6 hk rfl])).1 hfo
             rcases hcase k hk with h | h
             ·exact h
             ·rcases (hAE k hk).2 with ⟨_,_,hnf⟩ | ⟨h',_⟩ | ⟨h',_⟩ | ⟨h',_⟩
              ·exact (hnf hfk).elim
              ·omega
              ·omega
              ·omega
            refine ⟨_,_,E9 hv (fun k hk=>(hAE k hk).1) hall,Nat.le_trans (qI _) hr.2,fun _ k hk hm=>?_⟩
            rw[List.any_eq_true] at hm
            obtain ⟨b,hb,hbe⟩:=hm
            obtain ⟨j,hj1,hj2,hj3⟩:=m6.1 hb
            have hjk:j=k:=hV.rinj j k hj1 hk (by rw[hj3];exact z12 hbe)
            subst hjk
            rw[z10,decide_eq_true_iff,decide_eq_true_iff] at hj2
            obtain ⟨v,hv1,_,hv3⟩:=(y5 fU hE hpos (hAE j hk).2).2 hj2.1
            have hv0:v=0:=by
             have:=hj2.2
             rw[hv1] at this
             exact xI.1 this
            rw[uw hk,hv0] at hv3
            have hp0:=hpos j hk
            have hz:vX l j=0:=by
             have e1:((-1:Int):Rat)= -1:=rfl
             rw[e1] at hv3
             grind
            have hok:=ho' (l.getD j (0,0)) (by rw[aU (by omega)];exact List.getElem_mem _)
            exact (uZ hok).1 hz
           ·have hall:∀k,k<s.2.length->E k=5:=fun k hk=>by
             have hfk:¬ fE (al (cJ s (fP s k (-1)))):=fun h=>hfo ((zQ (c:=fP s 0 (-1)) (c':=fP s k (-1)) fU fU (by rw[q6 (by omega) rfl,q6 hk rfl])).2 h)
             rcases (hAE k hk).2 with ⟨h,_⟩ | ⟨_,_,h,_⟩ | ⟨_,_,h,_⟩ | ⟨_,h,_⟩
             ·exact h
             ·exact (hfk h).elim
             ·exact (hfk h).elim
             ·exact (hfk h).elim
            exact ⟨_,_,CM hv (e:=5) (by omega) (A:=A) fun k hk=>by rw[(hAE k hk).1,hall k hk],by simp,fun h=>by omega⟩
          apply Eq.trans
          ·have d5:decide ((5:Int)=0)=false:=rfl
           rcases qi (x:=l) (by omega) ho' with e1 | ⟨q1,f1,v1,e1⟩
           ·rcases qi (x:=a.2.1) (by omega) ha with e2 | ⟨q2,f2,v2,e2⟩
            ·simp only[decide_true,cT,Bool.not_true,cF,e1,e2,aa,d5]
             exact rfl
            ·simp only[decide_true,cT,Bool.not_true,cF,e1,e2,aa,d5]
           ·rcases qi (x:=a.2.1) (by omega) ha with e2 | ⟨q2,f2,v2,e2⟩
            ·simp only[decide_true,cT,Bool.not_true,cF,e1,e2,aa,d5]
            ·obtain ⟨c1,c2⟩:=hcmp q1 q2 f1 f2 v1 v2
             simp only[decide_true,cT,Bool.not_true,cF,e1,e2,aa,c1,c2,Bool.not_false,Bool.or_true]
          ·rw[hsl,aa]
           simp only[]
           refine cu s.2.length (by omega) (fun k=>((k:Int),PUnit.unit)) _ rfl (fun again k hk=>?_) (fun again=>?_)
           ·have hlk:k<l.length:=by omega
            have hok:=ho' (l.getD k (0,0)) (by rw[aU hlk];exact List.getElem_mem _)
            have hL:=Fo hv (Nn hV hk) hk (hBG k hk).1
            have hL':br s (List.getD s.2 k ({ data:={ toList:=[] } },[],false)).1=some (bif decide (G k=0) then (B k).1 else (0,0),G k,()):=hL
            obtain ⟨h22,hG0⟩:=y5 fU hE hpos (hBG k hk).2
            have hG:G k=5\/G k=0:=by
             rcases (hBG k hk).2 with ⟨h,_⟩ | ⟨h,_⟩ | ⟨_,_,_,_,r,hr1⟩ | ⟨h,_⟩
             ·exact .inl h
             ·exact (h22 h).elim
             ·exact (C9 hk hr1).elim
             ·exact .inr h
            simp only[aZ,z7 hk,z7 hlk,z7 (show (k:Int)<s.2.length by omega),cT,z9,hL',aa,dK (show k<=1000000 by omega)]
            rcases hG with h5 | h0
            ·rw[h5];rfl
            ·obtain ⟨v,hv1,hfv,hvle⟩:=hG0 h0
             rw[uw hk] at hvle
             have hvle':v<=qv (l.getD k (0,0)):=by
              have e1:((1:Int):Rat)=1:=rfl
              rw[e1,Rat.one_mul] at hvle
              exact hvle
             have hc:=B6 (gW hfv) hok
             rw[jR] at hc
             have hcle:pM v (qv (l.getD k (0,0)))<=0:=uc.2 hvle'
             have d5:decide ((0:Int)=5)=false:=rfl
             simp only[h0,decide_true,cT,cF,d5,hv1,hc,aa,Bool.not_true,Bool.not_false,Bool.or_true,z8 (show ¬ pM v (qv (l.getD k (0,0)))>0 by omega)]
             have hcn:bF n (List.getD s.2 k ({ data:={ toList:=[] } },[],false)).1=some (n.any fun a=>decide (a=rnS s k)):=Nc n _ (by omega)
             by_cases hg2:g2=0
             ·rw[z7 hg2]
              simp only[cT,hcn,aa]
              cases hm:n.any (fun a=>decide (a=rnS s k)) with
              | false=>rfl
              | true =>
               rw[z7 (hng hg2 k hk hm)]
               rfl
             ·rw[z8 hg2]
              rfl
           ·simp only[z8 (show ¬ (s.2.length:Int)<s.2.length by omega),cF]
      ·rw[z8 hn];rfl
  ·rw[z8 hll];rfl
end Go.Proofs.YtfknoaclabfdlaaGreat
