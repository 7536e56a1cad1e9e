/- How great the numbers of a program's tables may get: the product of the rows' factors. Tables of programs: how great the numbers of the artificial columns may get. Tables of numbers as lists of rows, and loops over them. Systems: the matrix of both programs. Programs: sums of numbers times fractions. Programs: which points are feasible, as the program tells it. Systems: their programs, as both programs make them. Programs: feasible points and values, in both programs. The law ProgramForms. Programs: columns and right sides. Programs: the signs of multipliers. Programs: sums of columns below numbers; refutations. Programs: refutations, as the program tells them. Programs: refutations, as they are specified. Programs: refutations are the same in both programs. Systems: the law SlackPrograms. Programs: products of two numbers, their differences and quotients. Programs: a step of the table. Programs: the row that leaves, the sums of artificial rows, and the reduced costs. Programs: the sums of artificial rows, and the reduced costs. Programs: improving a table to the least value. Programs: finding a feasible basis. Programs: the first table. Programs: which programs fit. Programs: what Solve answers. Programs: what Farkas answers. Programs: answers that are proved, in both programs. Programs: points, multipliers and refutations are those of the theory. Programs: the sums of what the solver returns fit, so that its answers are accepted. Programs: what the solver says of a program; the law ProgramBeats. Programs, as they are specified: the layout of the table, and a step of it. Programs, as they are specified: steps until the last row has no negative number. Programs, as they are specified: artificial variables leave the basis. Programs, as they are specified: the first table. Programs, as they are specified: the least value. Programs: the law ProgramSolves. Systems: what the solver says of their programs. Systems: equilibria, as the program checks them. Systems: the law SlackHolds. -/
import Derived.KernelRfl
import Derived.Test.YtfknoaclabfdlaaGreatMgN

namespace Go.Proofs.YtfknoaclabfdlaaGreat
namespace Dn
theorem uO {a b:Nat} {f:Nat→Int}:sz (a+b) f=sz a f+sz b fun i=>f (a+i):=by
 induction b with
 | zero=>simp[sz]
 | succ b ih =>
  rw[show a+(b+1)=a+b+1 by omega,sz,sz,ih]
  omega
theorem HB {m w:Nat} {γ:Nat→Nat} {f:Nat→Int} (hlt:∀p,p<m→γ p<w) (hinj:∀p q,p<m→q<m→γ p=γ q→p=q) (hf:∀j,j<w→0≤f j):(sz m fun p=>f (γ p))≤sz w f:=by
 have e:(sz m fun p=>f (γ p))=sz w fun j=>f j*sz m fun p=>if γ p=j then 1 else 0:=by
  rw[be (g:=fun p=>sz w fun j=>if γ p=j then f j else 0) fun p hp=>by
   rw[eG (hlt p hp) fun j _ hne=>if_neg (Ne.symm hne),if_pos rfl],qV]
  refine be fun j _=>?_
  rw[←fc]
  refine be fun p _=>?_
  split<;>omega
 rw[e]
 refine my fun j hj=>?_
 have hc:(sz m fun p=>if γ p=j then (1:Int) else 0)≤1:=by
  by_cases h:∃p,p<m∧γ p=j
  ·obtain ⟨p,hp,rfl⟩:=h
   rw[eG hp fun q hq hne=>if_neg fun e'=>hne (hinj q p hq hp e'),if_pos rfl]
   exact Int.le_refl _
  ·rw[fE fun p hp=>if_neg fun e'=>h ⟨p,hp,e'⟩]
   omega
 have:=Int.mul_le_mul_of_nonneg_left hc (hf j hj)
 omega
def Lin.F (L:Lin) (k:Nat):Int:=1+ab (L.b k)+sz L.n fun j=>ab (L.A k j)
def Lin.F0 (L:Lin):Int:=1+sz L.n fun j=>ab (L.c j)
theorem Lin.F_pos (L:Lin) (k:Nat):1≤L.F k:=by
 have h1:=bB (L.b k)
 have h2:0≤sz L.n fun j=>ab (L.A k j):=gi fun j _=>bB _
 unfold Lin.F
 omega
theorem Lin.F0_pos (L:Lin):1≤L.F0:=by
 have h2:0≤sz L.n fun j=>ab (L.c j):=gi fun j _=>bB _
 unfold Lin.F0
 omega
def Lin.P (L:Lin):Int:=pz L.m L.F
theorem HH:∀{n:Nat} {f:Nat→Int},(∀i,i<n→1≤f i)→1≤pz n f
 | 0,_,_=>by simp[pz]
 | n+1,f,h=>by
  simp only[pz]
  have h1:=h 0 (by omega)
  have h2:=HH (n:=n) (f:=fun i=>f (i+1)) fun i hi=>h (i+1) (by omega)
  have:=Int.mul_le_mul h1 h2 (by omega) (by omega)
  omega
theorem Lin.P_pos (L:Lin):1≤L.P:=HH fun k _=>L.F_pos k
section
variable {L:Lin} {Y:Lay}
theorem IE (h:Y.ok L) {k:Nat} (hk:k<L.m) (x:Int):ab (Y.σ k*x)=ab x:=by
 rw[l5]
 rcases h.sg k hk with e | e<;>rw[e]<;>simp[ab]
theorem Dq (h:Y.ok L) {k:Nat} (hk:k<L.m) {f:Nat→Int} (h1:∀j,j<L.n→f j=ab (Y.M L k j)) (hR:f (Y.R L)=ab (Y.M L k (Y.R L)))
  (h2:((∀j,L.n≤j→j<Y.N→f j=0)∧∀i,i<L.m→f (Y.N+i)=if i=k then 1 else 0)∨(L.kd k≠3∧(∀j,L.n≤j→j<Y.N→f j=if j=Y.sl k then 1 else 0)∧∀i,i<L.m→f (Y.N+i)=0)) :
  sz (Y.w L) f=L.F k:=by
 have hn:=h.n
 have e:Y.w L=(L.n+(Y.N - L.n))+L.m+1:=by unfold Lay.w;omega
 rw[e,sz,uO,uO,show L.n+(Y.N - L.n)+L.m=Y.R L by unfold Lay.R;omega,hR,Lay.M_R h,IE h hk]
 have e1:sz L.n f=sz L.n fun j=>ab (L.A k j):=be fun j hj=>by rw[h1 j hj,Lay.M_x hj,IE h hk]
 rw[e1,show L.n+(Y.N - L.n)=Y.N by omega]
 unfold Lin.F
 rcases h2 with ⟨h3,h4⟩ | ⟨h3,h4,h5⟩
 ·rw[fE fun i hi=>h3 (L.n+i) (by omega) (by omega),eG hk fun i hi hne=>by rw[h4 i hi,if_neg hne],h4 k hk,if_pos rfl]
  omega
 ·obtain ⟨h6,h7⟩:=h.sl k hk h3
  have a1:(sz (Y.N - L.n) fun i=>f (L.n+i))=1:=by
   rw[eG (k:=Y.sl k - L.n) (by omega) fun i hi hne=>by rw[h4 _ (by omega) (by omega),if_neg (by omega)],h4 _ (by omega) (by omega),if_pos (by omega)]
  have a2:(sz L.m fun i=>f (Y.N+i))=0:=fE fun i hi=>h5 i hi
  rw[a1,a2]
  omega
theorem Di (h:Y.ok L) {γ:Nat→Nat} (hlt:∀p,p<L.m→γ p<Y.w L):dc L.m (Y.M L) γ=0∨∀k,k<L.m→(sz L.m fun p=>ab (Y.M L k (γ p)))≤L.F k:=by
 have zero:dc L.m (Y.M L) γ=0→dc L.m (Y.M L) γ=0∨∀k,k<L.m→(sz L.m fun p=>ab (Y.M L k (γ p)))≤L.F k:=fun e=>.inl e
 by_cases hinj:∀p q,p<L.m→q<L.m→γ p=γ q→p=q
 ·by_cases hboth:∃k p q,k<L.m∧L.kd k≠3∧p<L.m∧q<L.m∧γ p=Y.sl k∧γ q=Y.N+k
  ·obtain ⟨k,p,q,hk,h3,hp,hq,e1,e2⟩:=hboth
   obtain ⟨h4,h5⟩:=h.sl k hk h3
   have hpq:p≠q:=fun e=>by rw[e,e2] at e1;omega
   apply zero
   unfold dc
   have e3:det L.m (eW (Y.M L) γ)=det L.m (bN (eW (Y.M L) γ) p fun l=>(Y.σ k*(if L.kd k=1 then 1 else -1))*Y.M L l (Y.N+k)):=by
    refine eL fun l j hl hj=>?_
    unfold bN
    split
    ·rename_i e
     rw[e]
     show Y.M L l (γ p)=(Y.σ k*(if L.kd k=1 then 1 else -1))*Y.M L l (Y.N+k)
     rw[e1,Lay.M_a h hk]
     by_cases el:l=k
     ·subst el
      rw[Lay.M_sl h hl h3,if_pos rfl,Int.mul_one]
     ·rw[if_neg el,Int.mul_zero,Lay.M_slo h4 h5 fun e'=>el (h.inj l k hl hk e'.1 h3 e'.2.symm)]
    ·rfl
   rw[e3,ln hp,jN hp hq hpq fun l _=>by
    unfold bN
    rw[if_pos rfl,if_neg (Ne.symm hpq)]
    show Y.M L l (Y.N+k)=Y.M L l (γ q)
    rw[e2],Int.mul_zero]
  ·refine .inr fun k hk=>?_
   by_cases hs:L.kd k≠3∧∃p,p<L.m∧γ p=Y.sl k
   ·obtain ⟨h3,p,hp,e1⟩:=hs
    obtain ⟨h4,h5⟩:=h.sl k hk h3
    have e:(sz L.m fun p=>ab (Y.M L k (γ p)))=sz L.m fun p=>(fun j=>if Y.N≤j∧j<Y.N+L.m then 0 else ab (Y.M L k j)) (γ p):=be fun q hq=>by
     show _=if Y.N≤γ q∧γ q<Y.N+L.m then 0 else ab (Y.M L k (γ q))
     split
     ·rename_i hr
      obtain ⟨i,hi⟩:∃i,γ q=Y.N+i:=⟨γ q - Y.N,by omega⟩
      rw[hi,Lay.M_a h (by omega),if_neg fun e'=>hboth ⟨k,p,q,hk,h3,hp,hq,e1,by rw[hi,e']⟩]
      rfl
     ·rfl
    rw[e]
    refine Int.le_trans (HB (f:=fun j=>if Y.N≤j∧j<Y.N+L.m then 0 else ab (Y.M L k j)) hlt hinj fun j _=>?_) (Int.le_of_eq (Dq h hk (fun j hj=>?_) ?_ (.inr ⟨h3,fun j h6 h7=>?_,fun i hi=>?_⟩)))
    ·split
     ·exact Int.le_refl _
     ·exact bB _
    ·have:=h.n
     rw[if_neg (by omega)]
    ·rw[if_neg (by unfold Lay.R;omega)]
    ·rw[if_neg (by omega)]
     by_cases ej:j=Y.sl k
     ·subst ej
      rw[Lay.M_sl h hk h3,IE h hk,if_pos rfl]
      split<;>rfl
     ·rw[if_neg ej,Lay.M_slo h6 h7 fun e'=>ej e'.2]
      rfl
    ·rw[if_pos (by omega)]
   ·have e:(sz L.m fun p=>ab (Y.M L k (γ p)))=sz L.m fun p=>(fun j=>if L.n≤j∧j<Y.N then 0 else ab (Y.M L k j)) (γ p):=be fun q hq=>by
     show _=if L.n≤γ q∧γ q<Y.N then 0 else ab (Y.M L k (γ q))
     split
     ·rename_i hr
      rw[Lay.M_slo hr.1 hr.2 fun e'=>hs ⟨e'.1,q,hq,e'.2⟩]
      rfl
     ·rfl
    rw[e]
    refine Int.le_trans (HB (f:=fun j=>if L.n≤j∧j<Y.N then 0 else ab (Y.M L k j)) hlt hinj fun j _=>?_) (Int.le_of_eq (Dq h hk (fun j hj=>?_) ?_ (.inl ⟨fun j h6 h7=>?_,fun i hi=>?_⟩)))
    ·split
     ·exact Int.le_refl _
     ·exact bB _
    ·rw[if_neg (by omega)]
    ·rw[if_neg (by unfold Lay.R;omega)]
    ·rw[if_pos ⟨h6,h7⟩]
    ·rw[if_neg (by omega),Lay.M_a h hi]
     by_cases ei:k=i
     ·rw[if_pos ei,if_pos ei.symm];rfl
     ·rw[if_neg ei,if_neg (Ne.symm ei)];rfl
 ·have:∃p q,p<L.m∧q<L.m∧γ p=γ q∧p≠q:=by
   apply Classical.byContradiction
   intro hno
   refine hinj fun p q hp hq e=>?_
   apply Classical.byContradiction
   intro hne
   exact hno ⟨p,q,hp,hq,e,hne⟩
  obtain ⟨p,q,hp,hq,e,hne⟩:=this
  apply zero
  refine jN hp hq hne fun l _=>?_
  show Y.M L l (γ p)=Y.M L l (γ q)
  rw[e]
theorem Bq (h:Y.ok L) {γ:Nat→Nat} (hlt:∀p,p<L.m→γ p<Y.w L):ab (dc L.m (Y.M L) γ)≤L.P:=by
 rcases Di h hlt with e | e
 ·have hP:=L.P_pos
  rw[e]
  simp[ab]
  omega
 ·exact Int.le_trans sj (DI fun k hk=>⟨gi fun _ _=>bB _,e k hk⟩)
theorem GN {m w:Nat} {β:Nat→Nat} {r c:Nat} (h:∀p,p<m→β p<w) (hc:c<w):∀p,p<m→upd β r c p<w:=fun p hp=>by
 unfold upd
 split
 ·exact hc
 ·exact h p hp
theorem oG (h:Y.ok L) {T:Nat→Nat→Int} {d:Int} {β:Nat→Nat} (ht:Tb L.m (Y.w L) (Y.M L) T d β):d≤L.P∧∀i j,i<L.m→j<Y.w L→ab (T i j)≤L.P:=by
 refine ⟨?_,fun i j hi hj=>by rw[ht.bound hi hj];exact Bq h (GN ht.lt hj)⟩
 obtain ⟨σ,h1,h2,_⟩:=ht.cr
 have h3:=Bq h ht.lt
 have h4:ab d=ab (dc L.m (Y.M L) β):=by
  have h5:ab σ=1:=by
   have h6:ab σ*ab σ=1:=by rw[←l5,h1];rfl
   have h7:=bB σ
   have h8:ab σ≤1:=by
    apply Int.not_lt.1
    intro h9
    have:2*2≤ab σ*ab σ:=Int.mul_le_mul (by omega) (by omega) (by omega) h7
    omega
   have:ab σ≠0:=fun e=>by rw[e] at h6;simp at h6
   omega
  have h6:ab (σ*dc L.m (Y.M L) β)=ab d:=by rw[←h2]
  rw[l5,h5,Int.one_mul] at h6
  exact h6.symm
 rw[←h4] at h3
 exact (sY.1 h3).2
end
end Dn
end Go.Proofs.YtfknoaclabfdlaaGreat

namespace Go.Proofs.YtfknoaclabfdlaaGreat
namespace Dn
theorem Bm {n:Nat} {A:Nat→Nat→Int} {i k:Nat} (hi:i<n) (hA:∀r,r<n→A r i=if r=k then 1 else 0):∀t,t≤n→det n A=det n (fun r c=>if r=k∧c≠i∧c<t then 0 else A r c)
 | 0,_=>eL fun r c _ _=>by rw[if_neg (by omega)]
 | t+1,ht=>by
  rw[Bm hi hA t (by omega)]
  obtain ⟨B,hB⟩:∃B:Nat→Nat→Int,B=fun r c=>if r=k∧c≠i∧c<t then 0 else A r c:=⟨_,rfl⟩
  rw[←hB]
  by_cases e:t=i
  ·refine eL fun r c _ _=>?_
   rw[hB]
   by_cases c1:r=k∧c≠i∧c<t
   ·simp only
    rw[if_pos c1,if_pos ⟨c1.1,c1.2.1,by omega⟩]
   ·simp only
    rw[if_neg c1,if_neg (by omega)]
  ·have e1:det n B=det n (bN B t fun r=>(if r=k then 0 else A r t)+(A k t*if r=k then 1 else 0)):=by
    refine eL fun r c _ _=>?_
    unfold bN
    by_cases c1:c=t
    ·rw[if_pos c1,hB,c1]
     simp only
     rw[if_neg (by omega)]
     by_cases c2:r=k
     ·rw[if_pos c2,if_pos c2,c2];omega
     ·rw[if_neg c2,if_neg c2];omega
    ·rw[if_neg c1]
   rw[e1,kI (u:=fun r=>if r=k then 0 else A r t) (v:=fun r=>A k t*if r=k then 1 else 0) (by omega),ln (u:=fun r=>if r=k then (1:Int) else 0) (by omega)]
   have e2:det n (bN B t fun r=>if r=k then (1:Int) else 0)=0:=by
    refine jN (show t<n by omega) hi e fun r hr=>?_
    unfold bN
    rw[if_pos rfl,if_neg (Ne.symm e),hB]
    simp only
    rw[if_neg (show ¬ (r=k∧i≠i∧i<t) from fun h=>h.2.1 rfl),hA r hr]
   rw[e2,Int.mul_zero,Int.add_zero]
   refine eL fun r c _ _=>?_
   unfold bN
   by_cases c1:c=t
   ·rw[if_pos c1,c1]
    simp only
    by_cases c2:r=k
    ·rw[if_pos c2,if_pos ⟨c2,e,by omega⟩]
    ·rw[if_neg c2,if_neg fun h=>c2 h.1]
   ·rw[if_neg c1,hB]
    by_cases c2:r=k∧c≠i∧c<t
    ·simp only
     rw[if_pos c2,if_pos ⟨c2.1,c2.2.1,by omega⟩]
    ·simp only
     rw[if_neg c2,if_neg (by omega)]
theorem Hh:∀{n k:Nat} {f:Nat→Int},k<n→f k*pz n (fun r=>if r=k then 1 else f r)=pz n f
 | 0,k,_,h=>by omega
 | n+1,k,f,h=>by
  simp only[pz]
  cases k with
  | zero =>
   rw[if_pos rfl,Int.one_mul]
   congr 1
  | succ k =>
   rw[if_neg (by omega)]
   have h1:=Hh (n:=n) (k:=k) (f:=fun i=>f (i+1)) (by omega)
   rw[←h1]
   have e:(fun i=>if i+1=k+1 then (1:Int) else f (i+1))=fun r=>if r=k then 1 else f (r+1):=by
    funext r
    by_cases c:r=k
    ·rw[if_pos c,if_pos (by omega)]
    ·rw[if_neg c,if_neg (by omega)]
   rw[e]
   grind
section
variable {L:Lin} {Y:Lay}
theorem Eh (h:Y.ok L) {T:Nat→Nat→Int} {d:Int} {β:Nat→Nat} (ht:Tb L.m (Y.w L) (Y.M L) T d β) {i k:Nat} (hi:i<L.m) (hk:k<L.m):L.F k*ab (T i (Y.N+k))≤L.P:=by
 have hw:Y.N+k<Y.w L:=by unfold Lay.w;omega
 have hF:=L.F_pos k
 rw[ht.bound hi hw]
 rcases Di h (GN ht.lt hw (r:=i)) with e | e
 ·have:=L.P_pos
  rw[e]
  simp[ab]
  omega
 ·have hcol:∀r,r<L.m→eW (Y.M L) (upd β i (Y.N+k)) r i=if r=k then 1 else 0:=fun r _=>by
   unfold eW upd
   rw[if_pos rfl,Lay.M_a h hk]
  have e1:dc L.m (Y.M L) (upd β i (Y.N+k))=_:=Bm hi hcol L.m (Nat.le_refl _)
  rw[e1]
  have e2:=sj (n:=L.m) (A:=fun r c=>if r=k∧c≠i∧c<L.m then 0 else eW (Y.M L) (upd β i (Y.N+k)) r c)
  have e3:pz L.m (fun r=>sz L.m fun c=>ab (if r=k∧c≠i∧c<L.m then 0 else eW (Y.M L) (upd β i (Y.N+k)) r c))≤pz L.m (fun r=>if r=k then 1 else L.F r):=DI fun r hr=>by
   refine ⟨gi fun _ _=>bB _,?_⟩
   by_cases c:r=k
   ·rw[if_pos c,eG hi fun l hl hne=>by rw[if_pos ⟨c,hne,hl⟩];rfl,if_neg (by simp),hcol i hi |>fun _=>hcol r hr,if_pos c]
    exact Int.le_refl _
   ·rw[if_neg c,be (g:=fun p=>ab (Y.M L r (upd β i (Y.N+k) p))) fun l _=>by rw[if_neg fun h=>c h.1];rfl]
    exact e r hr
  have e4:=Int.le_trans e2 e3
  have e5:=Int.mul_le_mul_of_nonneg_left e4 (show 0≤L.F k by omega)
  have e6:L.F k*pz L.m (fun r=>if r=k then 1 else L.F r)=L.P:=Hh hk
  rw[e6] at e5
  exact e5
end
end Dn
end Go.Proofs.YtfknoaclabfdlaaGreat

namespace Go.Proofs.YtfknoaclabfdlaaGreat
namespace Dn
section
variable {α R:Type} {F:(α→Option R)→α→Option R}
theorem wD (n:Nat) (st:Nat→α) (r:Option R) (hb:∀again i,i<n→F again (st i)=again (st (i+1))) (hf:∀again,F again (st n)=r):∀(k i m:Nat),i+k=n→k<m→iv F m (st i)=r
 | 0,i,m,h1,h2=>by
  obtain ⟨m,rfl⟩:∃m',m=m'+1:=⟨m - 1,by omega⟩
  rw[fU,show i=n by omega,hf]
 | k+1,i,m,h1,h2=>by
  obtain ⟨m,rfl⟩:∃m',m=m'+1:=⟨m - 1,by omega⟩
  rw[fU,hb _ _ (by omega)]
  exact wD n st r hb hf k (i+1) m (by omega) (by omega)
theorem mO (n:Nat) (hn:n≤1180591620717411303423) (st:Nat→α) (r:Option R) (hb:∀again i,i<n→F again (st i)=again (st (i+1))) (hf:∀again,F again (st n)=r):lpK α R F (st 0)=r :=
 wD n st r hb hf n 0 K0 (by omega) (by unfold K0;omega)
theorem cD {x:α} (n:Nat) (hn:n≤1180591620717411303423) (st:Nat→α) (r:Option R) (hx:x=st 0) (hb:∀again i,i<n→F again (st i)=again (st (i+1))) (hf:∀again,F again (st n)=r):lpK α R F x=r:=by
 rw[hx]
 exact mO n hn st r hb hf
theorem AI (I:α→Prop) (Q:R→Prop) (μ:α→Nat) (h:∀x,I x→(∃r,Q r∧∀rec,F rec x=some r)∨∃y,I y∧μ y<μ x∧∀rec,F rec x=rec y):∀(m:Nat) (x:α),I x→μ x<m→∃r,iv F m x=some r∧Q r
 | 0,_,_,hm=>by omega
 | m+1,x,hx,hm=>by
  rw[fU]
  rcases h x hx with ⟨r,h1,h2⟩ | ⟨y,h1,h2,h3⟩
  ·exact ⟨r,h2 _,h1⟩
  ·rw[h3]
   exact AI I Q μ h m y h1 (by omega)
theorem Nt (I:α→Prop) (Q:R→Prop) (μ:α→Nat) (h:∀x,I x→(∃r,Q r∧∀rec,F rec x=some r)∨∃y,I y∧μ y<μ x∧∀rec,F rec x=rec y) {x:α} (hx:I x) (hn:μ x<1180591620717411303424):∃r,lpK α R F x=some r∧Q r :=
 AI I Q μ h K0 x hx hn
theorem wl {γ:Type} (I:γ→α→Prop) (Q:R→Prop) (μ:γ→Nat) (h:∀s x,I s x→(∃r,Q r∧∀rec,F rec x=some r)∨∃s' y,I s' y∧μ s'<μ s∧∀rec,F rec x=rec y):∀(m:Nat) (s:γ) (x:α),I s x→μ s<m→∃r,iv F m x=some r∧Q r
 | 0,_,_,_,hm=>by omega
 | m+1,s,x,hx,hm=>by
  rw[fU]
  rcases h s x hx with ⟨r,h1,h2⟩ | ⟨s',y,h1,h2,h3⟩
  ·exact ⟨r,h2 _,h1⟩
  ·rw[h3]
   exact wl I Q μ h m s' y h1 (by omega)
theorem J8 {γ:Type} (I:γ→α→Prop) (Q:R→Prop) (μ:γ→Nat) (h:∀s x,I s x→(∃r,Q r∧∀rec,F rec x=some r)∨∃s' y,I s' y∧μ s'<μ s∧∀rec,F rec x=rec y) {s:γ} {x:α} (hx:I s x) (hn:μ s<1180591620717411303424):∃r,lpK α R F x=some r∧Q r :=
 wl I Q μ h K0 s x hx hn
theorem xa {γ:Type} (I:γ→α→Prop) (Q:Option R→Prop) (μ:γ→Nat) (h:∀rec s x,I s x→Q (F rec x)∨∃s' y,I s' y∧μ s'<μ s∧F rec x=rec y):∀(m:Nat) (s:γ) (x:α),I s x→μ s<m→Q (iv F m x)
 | 0,_,_,_,hm=>by omega
 | m+1,s,x,hx,hm=>by
  rw[fU]
  rcases h (iv F m) s x hx with h1 | ⟨s',y,h1,h2,h3⟩
  ·exact h1
  ·rw[h3]
   exact xa I Q μ h m s' y h1 (by omega)
theorem tF {γ:Type} (I:γ→α→Prop) (Q:Option R→Prop) (μ:γ→Nat) (h:∀rec s x,I s x→Q (F rec x)∨∃s' y,I s' y∧μ s'<μ s∧F rec x=rec y) {s:γ} {x:α} (hx:I s x) (hn:μ s<1180591620717411303424):Q (lpK α R F x) :=
 xa I Q μ h K0 s x hx hn
theorem F1 {x:α} (Q:Option R→Prop) (n:Nat) (hn:n≤1180591620717411303423) (st:Nat→α) (hx:x=st 0) (hb:∀again i,i<n→F again (st i)=again (st (i+1))) (hf:∀again,Q (F again (st n))):Q (lpK α R F x) :=
 tF (γ:=Nat) (fun i x=>i≤n∧x=st i) Q (fun i=>n - i) (fun rec i x ⟨h1,h2⟩=>by
  by_cases e:i=n
  ·subst h2;subst e;exact .inl (hf rec)
  ·exact .inr ⟨i+1,st (i+1),⟨by omega,rfl⟩,by omega,by rw[h2];exact hb rec i (by omega)⟩) (s:=0) ⟨by omega,hx⟩ (by omega)
end
theorem qQ (n:Nat) (p:Nat→Bool):(∀j,j<n→p j=false)∨∃j,j<n∧p j=true∧∀i,i<j→p i=false:=by
 induction n with
 | zero=>exact .inl fun j hj=>by omega
 | succ n ih =>
  rcases ih with h | ⟨j,h1,h2,h3⟩
  ·cases hp:p n with
   | true=>exact .inr ⟨n,by omega,hp,h⟩
   | false =>
    refine .inl fun j hj=>?_
    by_cases e:j=n
    ·rw[e];exact hp
    ·exact h j (by omega)
  ·exact .inr ⟨j,by omega,h2,h3⟩
def br {α:Type} (w:Nat) (f:Nat→α):List α:=(List.range w).map f
def pW (m w:Nat) (T:Nat→Nat→Int):List (List Int):=(List.range m).map fun i=>br w (T i)
def cY (m w:Nat) (T:Nat→Nat→Int):List (Option (List Int)):=(List.range m).map fun i=>some (br w (T i))
def gT (m w:Nat) (T:Nat→Nat→Int):List Nat×List (Option (List Int)):=(List.range m,cY m w T)
def g9 (m:Nat) (β:Nat→Nat):List Int:=br m fun i=>(β i:Int)
section
variable {α:Type} {m w:Nat} {T T':Nat→Nat→Int}
theorem aO {f:Nat→α}:(br w f).length=w:=by unfold br;rw[List.length_map,List.length_range]
theorem bt {f:Nat→α} {d:α} {j:Nat} (h:j<w):(br w f).getD j d=f j:=by
 unfold br
 rw[bf (by rw[List.length_map,List.length_range];exact h),List.getElem_map,List.getElem_range]
theorem tI {f:Nat→α} {j:Nat} (h:j<(br w f).length):(br w f)[j]=f j :=
 (List.getElem_map f (l:=List.range w) (h:=h)).trans (congrArg f (List.getElem_range _))
theorem dn {f g:Nat→α} (h:∀j,j<w→f j=g j):br w f=br w g:=by
 unfold br
 exact List.map_congr_left fun j hj=>h j (List.mem_range.1 hj)
theorem jY {f:Nat→α} {j:Nat} {x:α} (hj:j<w):(br w f).set j x=br w fun k=>if k=j then x else f k:=by
 refine List.ext_getElem (by rw[List.length_set,aO,aO]) fun i h1 h2=>?_
 have h3:i<w:=by rw[aO] at h2;exact h2
 rw[List.getElem_set,tI,tI]
 by_cases e:j=i
 ·rw[if_pos e,if_pos e.symm]
 ·rw[if_neg e,if_neg (Ne.symm e)]
theorem gb:(pW m w T).length=m:=by unfold pW;rw[List.length_map,List.length_range]
theorem mE {i:Nat} (h:i<m):(pW m w T).getD i []=br w (T i):=by
 unfold pW
 rw[bf (by rw[List.length_map,List.length_range];exact h),List.getElem_map,List.getElem_range]
theorem me:(cY m w T).length=m:=by unfold cY;rw[List.length_map,List.length_range]
theorem fJ:(gT m w T).1.length=m:=by unfold gT;exact List.length_range
theorem gd {i:Nat} (h:i<m):(gT m w T).1.getD i 0=i:=by
 unfold gT
 rw[bf (by rw[List.length_range];exact h),List.getElem_range]
theorem oO {i:Nat} (h:i<m):(cY m w T).getD i none=some (br w (T i)):=by
 unfold cY
 rw[bf (by rw[List.length_map,List.length_range];exact h),List.getElem_map,List.getElem_range]
theorem As {i:Nat} (h:i<(cY m w T).length):(cY m w T)[i]=some (br w (T i)) :=
 (List.getElem_map (fun i=>some (br w (T i))) (l:=List.range m) (h:=h)).trans (congrArg (fun i=>some (br w (T i))) (List.getElem_range _))
theorem fH {i:Nat} (h:i<m):ah (cY m w T) i=br w (T i):=by unfold ah;rw[oO h];rfl
theorem rZ {i:Nat} (h:i<m):eC (cY m w T) i=true:=by unfold eC;rw[oO h];rfl
theorem gG (h:∀i j,i<m→j<w→T i j=T' i j):cY m w T=cY m w T':=by
 unfold cY
 exact List.map_congr_left fun i hi=>by rw[dn fun j hj=>h i j (List.mem_range.1 hi) hj]
theorem im (h:∀i j,i<m→j<w→T i j=T' i j):gT m w T=gT m w T':=by unfold gT;rw[gG h]
theorem AV {i j:Nat} {x:Int} (hi:i<m) (hj:j<w):(cY m w T).set i (some ((br w (T i)).set j x))=cY m w fun k l=>if k=i∧l=j then x else T k l:=by
 rw[jY hj]
 refine List.ext_getElem (by rw[List.length_set,me,me]) fun k h1 h2=>?_
 have h3:k<m:=by rw[me] at h2;exact h2
 rw[List.getElem_set,As,As]
 by_cases e:i=k
 ·subst e
  rw[if_pos rfl]
  congr 1
  refine dn fun l _=>?_
  simp
 ·rw[if_neg e]
  congr 1
  refine dn fun l _=>?_
  rw[if_neg fun h=>e h.1.symm]
theorem fD:((gT m w T).1.all fun x=>eC (gT m w T).2 x)=true:=by
 rw[List.all_eq_true]
 intro i hi
 exact rZ (List.mem_range.1 hi)
theorem fF:(gT m w T).1.map (fun x=>ah (gT m w T).2 x)=pW m w T:=by
 unfold gT pW
 exact List.map_congr_left fun i hi=>fH (List.mem_range.1 hi)
theorem fZ {β:Nat→Nat}:(g9 m β).length=m:=aO
theorem i8 {β:Nat→Nat} {i:Nat} (h:i<m):(g9 m β).getD i 0=(β i:Int):=bt h
theorem F9 {β:Nat→Nat} {r c:Nat} (h:r<m):(g9 m β).set r (c:Int)=g9 m (upd β r c):=by
 unfold g9
 rw[jY h]
 refine dn fun k _=>?_
 unfold upd
 by_cases e:k=r
 ·rw[if_pos e,if_pos e]
 ·rw[if_neg e,if_neg e]
end
end Dn
end Go.Proofs.YtfknoaclabfdlaaGreat

namespace Go.Proofs.YtfknoaclabfdlaaGreat
noncomputable section
open Tryz Dn Dn.Sh
def bnS (s:Sy) (i:Nat):ByteArray:=(s.1.getD i bk0).1
def bwS (s:Sy) (i:Nat):Int:=(s.1.getD i bk0).2
def rnS (s:Sy) (k:Nat):ByteArray:=(s.2.getD k rp0).1
def hsS (s:Sy) (k:Nat):List Hd:=(s.2.getD k rp0).2.1
structure ValidS (s:Sy):Prop where
 bl:1≤s.1.length∧s.1.length≤6
 rl:1≤s.2.length∧s.2.length≤6
 inj:∀i j,i<s.1.length→j<s.1.length→bnS s i=bnS s j→i=j
 rinj:∀i j,i<s.2.length→j<s.2.length→rnS s i=rnS s j→i=j
 wt:∀i,i<s.1.length→0≤bwS s i∧bwS s i≤16777216
 hl:∀k,k<s.2.length→(hsS s k).length≤10
 pl:∀k h,k<s.2.length→h<(hsS s k).length→ -2≤((hsS s k).getD h hd0).2.1∧((hsS s k).getD h hd0).2.1≤2
theorem ij {n i:Nat} (h:i<n):i ∈ List.range' 0 n:=List.mem_range'.2 ⟨i,h,by omega⟩
theorem A6 {s:Sy} {h:Hd} {e:Bool} (hh:qK s h e=true): -2≤h.2.1∧h.2.1≤2:=by
 unfold qK at hh
 rw[z10] at hh
 have h2:=hh.2
 cases he:sd h.1 with
 | true=>rw[he,cT,decide_eq_true_iff] at h2;omega
 | false =>
  rw[he,cF,z10] at h2
  have h3:=h2.2
  cases e with
  | true=>rw[cT,Bool.or_eq_true,decide_eq_true_iff,decide_eq_true_iff] at h3;omega
  | false=>rw[cF,Bool.or_eq_true,Bool.or_eq_true,decide_eq_true_iff,decide_eq_true_iff,decide_eq_true_iff] at h3;omega
theorem kL {l:List ByteArray} {i j:Nat} {d:ByteArray} (h1:i<j) (h2:j≤l.length):l.getD i d ∈ l.take j:=by
 rw[bf (by omega)]
 exact List.mem_take_iff_getElem.2 ⟨i,by omega,rfl⟩
theorem iw {s:Sy} (h:fu s=true):ValidS s:=by
 unfold fu at h
 rw[z10,z10,z10,decide_eq_true_iff,List.all_eq_true,List.all_eq_true] at h
 obtain ⟨⟨h1,h2,h3,h4⟩,hb,hr,_⟩:=h
 have hb':∀i,i<s.1.length→bnS s i ∉ (s.1.map (·.fst)).take i∧0≤bwS s i∧bwS s i≤16777216:=fun i hi=>by
  have:=hb i (ij hi)
  unfold u9 ov at this
  rw[z10,z10,z10,Bool.not_eq_true',AK,decide_eq_true_iff,decide_eq_true_iff] at this
  exact this.2
 have hr':∀i,i<s.2.length→rnS s i ∉ (s.2.map (·.fst)).take i∧xh s (s.2.getD i rp0)=true:=fun i hi=>by
  have:=hr i (ij hi)
  unfold mH at this
  rw[z10,z10,Bool.not_eq_true',AK,List.mem_append] at this
  exact ⟨fun hm=>this.2.1 (.inr hm),this.2.2⟩
 have hro:∀k,k<s.2.length→(2≤(hsS s k).length∧(hsS s k).length≤10)∧∀i,i<(hsS s k).length→∃e,qK s ((hsS s k).getD i hd0) e=true:=fun k hk=>by
  have:=(hr' k hk).2
  unfold xh at this
  rw[z10,z10,decide_eq_true_iff,List.all_eq_true] at this
  exact ⟨this.1,fun i hi=>⟨_,this.2.1 i (ij hi)⟩⟩
 refine ⟨⟨h1,h2⟩,⟨h3,h4⟩,fun i j hi hj he=>?_,fun i j hi hj he=>?_,fun i hi=>(hb' i hi).2,fun k hk=>(hro k hk).1.2,fun k h hk hh=>?_⟩
 ·have e1:∀k,k<s.1.length→(s.1.map (·.fst)).getD k bk0.1=bnS s k:=fun k hk=>oS (f:=fun b:Bk=>b.1) (d:=bk0) hk bk0.1
  rcases Nat.lt_trichotomy i j with h | h | h
  ·exfalso
   apply (hb' j hj).1
   rw[←he,←e1 i hi]
   exact kL h (by rw[List.length_map];omega)
  ·exact h
  ·exfalso
   apply (hb' i hi).1
   rw[he,←e1 j hj]
   exact kL h (by rw[List.length_map];omega)
 ·have e1:∀k,k<s.2.length→(s.2.map (·.fst)).getD k rp0.1=rnS s k:=fun k hk=>oS (f:=fun b:Rp=>b.1) (d:=rp0) hk rp0.1
  rcases Nat.lt_trichotomy i j with h | h | h
  ·exfalso
   apply (hr' j hj).1
   rw[←he,←e1 i hi]
   exact kL h (by rw[List.length_map];omega)
  ·exact h
  ·exfalso
   apply (hr' i hi).1
   rw[he,←e1 j hj]
   exact kL h (by rw[List.length_map];omega)
 ·obtain ⟨e,he⟩:=(hro k hk).2 h hh
  exact A6 he
theorem Eb (s:Sy) (n:ByteArray):(fbI s n<0∧∀i,i<s.1.length→bnS s i≠n)∨∃i:Nat,i<s.1.length∧fbI s n=(i:Int)∧bnS s i=n:=by
 by_cases h:fbI s n<0
 ·refine .inl ⟨h,fun i hi he=>?_⟩
  have:=(uc (p:=fun b:Bk=>decide (b.1=n)) (l:=s.1) (i:=0) (by omega)).1 h (s.1.getD i bk0) (by rw[bf hi];exact List.getElem_mem _)
  exact of_decide_eq_false this he
 ·obtain ⟨_,h2,h3⟩:=C8 (p:=fun b:Bk=>decide (b.1=n)) (d:=bk0) (l:=s.1) (i:=0) (by omega) (Int.not_lt.1 h)
  refine .inr ⟨(fbI s n).toNat,?_,?_,?_⟩
  ·unfold fbI;omega
  ·unfold fbI at h ⊢;omega
  ·have:=z12 h3
   rw[Int.sub_zero] at this
   exact this
def lW (hs:List Hd) (n:ByteArray) (h:Nat):Int:=sz h fun t=>if (hs.getD t hd0).1=n then (hs.getD t hd0).2.1 else 0
def Mx (s:Sy) (i k:Nat):Int:=lW (hsS s k) (bnS s i) (hsS s k).length
theorem nW {hs:List Hd} {n:ByteArray} (hp:∀t,t<hs.length→ -2≤(hs.getD t hd0).2.1∧(hs.getD t hd0).2.1≤2):∀h,h≤hs.length→ -(2*(h:Int))≤lW hs n h∧lW hs n h≤2*(h:Int)
 | 0,_=>by simp[lW,sz]
 | h+1,hh=>by
  have:=nW (n:=n) hp h (by omega)
  have h2:=hp h (by omega)
  unfold lW at *
  simp only[sz]
  split<;>omega
theorem Ab {s:Sy} (hv:ValidS s) (i:Nat) {k:Nat} (hk:k<s.2.length): -20≤Mx s i k∧Mx s i k≤20:=by
 have h1:=nW (n:=bnS s i) (hs:=hsS s k) (fun t ht=>hv.pl k t hk ht) _ (Nat.le_refl _)
 have h2:=hv.hl k hk
 unfold Mx
 omega
theorem eS {i:Nat} (h:i≤1000000):IntKind.wrap .i64 ((i:Int)+1)=((i+1:Nat):Int):=by rw[aU (by omega) (by omega)];rfl
def FG (s:Sy):List (List Int):=pW s.1.length s.2.length (Mx s)
theorem qq {α:Type} {w:Nat} {f:Nat→α}:br w f++[f w]=br (w+1) f:=by
 unfold br
 rw[List.range_succ,List.map_append]
 rfl
theorem Bf {m w:Nat} {T:Nat→Nat→Int}:cY m w T++[some (br w (T m))]=cY (m+1) w T:=by
 unfold cY
 rw[List.range_succ,List.map_append]
 rfl
def Nn (T:List Nat) (x0:Sy):Option (List (List Int)×Int×Unit) :=
 af (ay x0) fun (t:Bool)=>bif !t then some ([],(1:Int),PUnit.unit) else bif decide ((0:Int)≤(↑(List.length x0.1):Int))&&dt (Int.toNat (↑(List.length x0.1):Int)) (24:Nat) then lpK (Int×(List Nat×List (Option (List Int)))×PUnit) (List (List Int)×Int×PUnit) (fun (again:Int×(List Nat×List (Option (List Int)))×PUnit→Option (List (List Int)×Int×PUnit)) (x:Int×(List Nat×List (Option (List Int)))×PUnit)=>bif decide (x.1<(↑(List.length T):Int)) then bif decide ((0:Int)≤(↑(List.length x0.2):Int))&&dt (Int.toNat (↑(List.length x0.2):Int)) (8:Nat) then bif inB x.1 (List.length x.2.1.1) then bif Nat.ble (Nat.succ (Int.toNat x.1)) (List.length x.2.1.1) then again (IntKind.wrap .i64 (x.1+(1:Int)),(List.set x.2.1.1 (Int.toNat x.1) (List.length x.2.1.2),x.2.1.2++[some (List.replicate (Int.toNat (↑(List.length x0.2):Int)) (0:Int))]),PUnit.unit) else none else none else none else lpK (Int×(List Nat×List (Option (List Int)))×PUnit) (List (List Int)×Int×PUnit) (fun (again:Int×(List Nat×List (Option (List Int)))×PUnit→Option (List (List Int)×Int×PUnit)) (x:Int×(List Nat×List (Option (List Int)))×PUnit)=>bif decide (x.1<(↑(List.length x0.2):Int)) then bif inB x.1 (List.length x0.2) then lpK (Int×(List Nat×List (Option (List Int)))×PUnit) (List (List Int)×Int×PUnit) (fun (again_1:Int×(List Nat×List (Option (List Int)))×PUnit→Option (List (List Int)×Int×PUnit)) (x_1:Int×(List Nat×List (Option (List Int)))×PUnit)=>let v10:Int:=IntKind.wrap .i64 (x_1.1+(1:Int));let v11:(List Nat×List (Option (List Int)))×PUnit:=(x_1.2.1,PUnit.unit);let v12:ByteArray×Int×Int×Int:=List.getD (List.getD x0.2 (Int.toNat x.1) ({ data:={ toList:=[] } },[],false)).2.1 (Int.toNat x_1.1) ({ data:={ toList:=[] } },(0:Int),(0:Int),(0:Int));bif decide (x_1.1<(↑(List.length (List.getD x0.2 (Int.toNat x.1) ({ data:={ toList:=[] } },[],false)).2.1):Int)) then bif inB x_1.1 (List.length (List.getD x0.2 (Int.toNat x.1) ({ data:={ toList:=[] } },[],false)).2.1) then af (bK x0 v12.1) fun (t:Int)=>bif decide (t≥(0:Int)) then bif inB t (List.length x_1.2.1.1) then bif Nat.ble (Nat.succ (Int.toNat t)) (List.length x_1.2.1.1) then bif inB x.1 (List.length (ah x_1.2.1.2 (List.getD x_1.2.1.1 (Int.toNat t) (0:Nat)))) then bif Nat.ble (Nat.succ (Int.toNat x.1)) (List.length (ah x_1.2.1.2 (List.getD x_1.2.1.1 (Int.toNat t) (0:Nat)))) then bif inB x.1 (List.length (ah x_1.2.1.2 (List.getD x_1.2.1.1 (Int.toNat t) (0:Nat)))) then bif Nat.ble (Nat.succ (Int.toNat x.1)) (List.length (ah x_1.2.1.2 (List.getD x_1.2.1.1 (Int.toNat t) (0:Nat)))) then again_1 (v10,(x_1.2.1.1,List.set x_1.2.1.2 (List.getD x_1.2.1.1 (Int.toNat t) (0:Nat)) (some (List.set (ah x_1.2.1.2 (List.getD x_1.2.1.1 (Int.toNat t) (0:Nat))) (Int.toNat x.1) (IntKind.wrap .i64 (List.getD (ah x_1.2.1.2 (List.getD x_1.2.1.1 (Int.toNat t) (0:Nat))) (Int.toNat x.1) (0:Int)+v12.2.1))))),PUnit.unit) else none else none else none else none else none else none else again_1 (v10,v11) else none else again (IntKind.wrap .i64 (x.1+(1:Int)),v11)) ((0:Int),x.2.1,PUnit.unit) else none else bif List.all x.2.1.1 fun (x_1:Nat)=>eC x.2.1.2 x_1 then some (List.map (fun (x_1:Nat)=>ah x.2.1.2 x_1) x.2.1.1,(0:Int),PUnit.unit) else none) ((0:Int),x.2.1,PUnit.unit)) ((0:Int),(T,List.replicate (Int.toNat (↑(List.length x0.1):Int)) (some [])),PUnit.unit) else none
theorem Df (s:Sy):bn s=Nn (vV Sh.ref (0:Nat) (Int.toNat (↑(List.length s.1):Int)) 0) s:=by kernel_rfl
theorem u7:∀(n k:Nat),vV Sh.ref (0:Nat) n k=(List.range n).map fun i=>k+i
 | 0,_=>rfl
 | n+1,k=>by
  rw[List.range_succ_eq_map,List.map_cons,List.map_map]
  unfold vV
  rw[u7 n (k+1)]
  have e:shS k Sh.ref (0:Nat)=k+0:=rfl
  rw[e]
  congr 1
  refine List.map_congr_left fun i _=>?_
  simp only[Function.comp]
  omega
def tg (m w:Nat) (T:Nat→Nat→Int):List Nat×List (Option (List Int)):=(br m fun k=>m+k,List.replicate m (some [])++cY m w T)
theorem G2 {n:Nat}:List.replicate n (0:Int)=br n fun _=>0:=by
 unfold br
 rw[List.map_const',List.length_range]
section
variable {m w:Nat} {T:Nat→Nat→Int}
theorem zk {i:Nat}:(List.replicate m (some ([]:List Int))++cY m w T).getD (m+i) none=(cY m w T).getD i none:=by
 rw[List.getD_eq_getElem?_getD,List.getD_eq_getElem?_getD,List.getElem?_append_right (by rw[List.length_replicate];omega),List.length_replicate,Nat.add_sub_cancel_left]
theorem Aa {i:Nat} (h:i<m):ah (List.replicate m (some ([]:List Int))++cY m w T) (m+i)=br w (T i):=by
 unfold ah
 rw[zk,oO h]
 rfl
theorem EA {i:Nat} (h:i<m):eC (List.replicate m (some ([]:List Int))++cY m w T) (m+i)=true:=by
 unfold eC
 rw[zk,oO h]
 rfl
theorem Jv {i j:Nat} {x:Int} (hi:i<m) (hj:j<w):(List.replicate m (some ([]:List Int))++cY m w T).set (m+i) (some ((br w (T i)).set j x))=List.replicate m (some [])++cY m w fun k l=>if k=i∧l=j then x else T k l:=by
 rw[List.set_append_right _ _ (by rw[List.length_replicate];omega),List.length_replicate,Nat.add_sub_cancel_left,AV hi hj]
end
theorem DG {s:Sy} (h:fu s=true):bn s=some (FG s,0,()):=by
 have hv:=iw h
 have hb:=hv.bl
 have hr:=hv.rl
 have hf:=fun n=>AO s n (show s.1.length≤1000000 by omega)
 rw[Df,u7]
 simp only[Nn,xE,h,aa,Bool.not_true,cF,z9,List.length_map,List.length_range,z7 (show (0:Int)≤(s.1.length:Nat) by omega),z7 (show (0:Int)≤(s.2.length:Nat) by omega),
  fk (show s.1.length*24≤140737488355328 by omega),fk (show s.2.length*8≤140737488355328 by omega),Bool.and_self,cT]
 obtain ⟨m,hm⟩:∃m,m=s.1.length:=⟨_,rfl⟩
 obtain ⟨w,hw⟩:∃w,w=s.2.length:=⟨_,rfl⟩
 rw[←hm] at hb ⊢
 rw[←hw] at hr ⊢
 refine cD m (by omega) (fun i=>((i:Int),(br m (fun k=>if k<i then m+k else k),List.replicate m (some [])++cY i w fun _ _=>0),PUnit.unit)) _ ?_ (fun again i hi=>?_) (fun again=>?_)
 ·have e:(List.range m).map (fun i=>0+i)=br m (fun k=>if k<0 then m+k else k):=dn (f:=fun i=>0+i) fun k _=>by rw[if_neg (by omega),Nat.zero_add]
  rw[e]
  show _=((0:Int),(_,List.replicate m (some ([]:List Int))++[]),PUnit.unit)
  rw[List.append_nil]
 ·simp only[a8,aO,z7 hi,z7 (show (i:Int)<m by omega),cT,z9,cQ (show i.succ≤m by omega),eS (show i≤1000000 by omega)]
  refine congrArg again ?_
  refine congrArg (fun p=>(((i+1:Nat):Int),p,PUnit.unit)) ?_
  rw[jY hi,List.length_append,List.length_replicate,me,G2,List.append_assoc,Bf]
  refine congrArg (fun l=>(l,_)) ?_
  refine dn fun k _=>?_
  by_cases c:k=i
  ·rw[if_pos c,if_pos (by omega)];omega
  ·rw[if_neg c]
   by_cases c2:k<i
   ·rw[if_pos c2,if_pos (by omega)]
   ·rw[if_neg c2,if_neg (by omega)]
 ·simp only[z8 (show ¬ (m:Int)<m by omega),cF]
  refine cD w (by omega) (fun k=>((k:Int),tg m w (fun i j=>if j<k then Mx s i j else 0),PUnit.unit)) _ ?_ (fun again k hk=>?_) (fun again=>?_)
  ·refine congrArg (fun p=>((0:Int),p,PUnit.unit)) ?_
   unfold tg
   refine Prod.ext (dn fun k hk=>by rw[if_pos hk]) ?_
   simp only
   rw[gG fun i j _ _=>(if_neg (show ¬ j<0 by omega)).symm]
  ·have hwk:k<s.2.length:=by omega
   have hpl:=fun t ht=>hv.pl k t hwk ht
   have hhl:=hv.hl k hwk
   have hpb:=fun n=>nW (n:=n) (hs:=hsS s k) hpl
   simp only[a8,z7 hk,z7 (show (k:Int)<w by omega),cT,z9,eS (show k≤1000000 by omega),show (List.getD s.2 k ({ data:={ toList:=[] } },[],false)).2.1=hsS s k from rfl]
   refine cD (hsS s k).length (by omega) (fun t=>((t:Int),tg m w (fun i j=>if j<k then Mx s i j else if j=k then lW (hsS s k) (bnS s i) t else 0),PUnit.unit)) _ ?_ (fun again1 t ht=>?_) (fun again1=>?_)
   ·refine congrArg (fun p=>((0:Int),p,PUnit.unit)) ?_
    unfold tg
    refine congrArg (fun c=>(_,List.replicate m (some ([]:List Int))++c)) (gG fun i j _ _=>?_)
    by_cases c1:j<k
    ·rw[if_pos c1,if_pos c1]
    ·rw[if_neg c1,if_neg c1]
     split<;>rfl
   ·obtain ⟨hd,hhd⟩:∃hd,hd=(hsS s k).getD t hd0:=⟨_,rfl⟩
    have hpt:=hpl t ht
    simp only[a8,z7 ht,z7 (show (t:Int)<(hsS s k).length by omega),cT,z9,eS (show t≤1000000 by omega),show List.getD (hsS s k) t ({ data:={ toList:=[] } },(0:Int),(0:Int),(0:Int))=(hsS s k).getD t hd0 from rfl,hf,aa]
    rw[←hhd] at hpt ⊢
    have estep:∀n,lW (hsS s k) n (t+1)=lW (hsS s k) n t+if hd.1=n then hd.2.1 else 0:=fun n=>by rw[hhd];rfl
    rcases Eb s hd.1 with ⟨h1,h2⟩ | ⟨i0,h1,h2,h3⟩
    ·rw[z8 (show ¬ fbI s hd.1≥0 by omega),cF]
     refine congrArg again1 ?_
     refine congrArg (fun p=>(((t+1:Nat):Int),p,PUnit.unit)) ?_
     unfold tg
     refine congrArg (fun c=>(_,List.replicate m (some ([]:List Int))++c)) (gG fun i j hi _=>?_)
     have e:lW (hsS s k) (bnS s i) (t+1)=lW (hsS s k) (bnS s i) t:=by
      rw[estep,if_neg fun e=>h2 i (by omega) e.symm,Int.add_zero]
     rw[e]
    ·have hi0:i0<m:=by omega
     have hTl:(br m fun k=>m+k).getD i0 0=m+i0:=bt hi0
     have hrow:=Aa (w:=w) (T:=fun i j=>if j<k then Mx s i j else if j=k then lW (hsS s k) (bnS s i) t else 0) hi0
     have hget:(br w fun j=>if j<k then Mx s i0 j else if j=k then lW (hsS s k) (bnS s i0) t else 0).getD k 0=lW (hsS s k) (bnS s i0) t:=by
      rw[bt hk,if_neg (by omega),if_pos rfl]
     have hb1:=hpb (bnS s i0) t (by omega)
     simp only[h2,z7 (show (i0:Int)≥0 by omega),cT,z9]
     unfold tg
     simp only[a8,aO,z7 hi0,cT,hTl,hrow,z7 hk,cQ (show k.succ≤w by omega),cQ (show i0.succ≤m by omega),hget]
     rw[aU (by omega) (by omega),Jv (T:=fun i j=>if j<k then Mx s i j else if j=k then lW (hsS s k) (bnS s i) t else 0) hi0 hk]
     refine congrArg again1 ?_
     refine congrArg (fun c=>(((t+1:Nat):Int),(_,List.replicate m (some ([]:List Int))++c),PUnit.unit)) (gG fun i j hi _=>?_)
     by_cases c1:j=k
     ·subst c1
      by_cases c2:i=i0
      ·subst c2
       rw[if_pos ⟨rfl,rfl⟩,if_neg (by omega),if_pos rfl,estep,if_pos h3.symm]
      ·rw[if_neg fun e=>c2 e.1,if_neg (by omega),if_pos rfl,if_neg (by omega),if_pos rfl,estep,if_neg,Int.add_zero]
       intro e
       exact c2 (hv.inj i i0 (by omega) h1 (by rw[h3,e]))
     ·rw[if_neg fun e=>c1 e.2,if_neg c1,if_neg c1]
   ·simp only[z8 (show ¬ ((hsS s k).length:Int)<(hsS s k).length by omega),cF]
    refine congrArg again ?_
    refine congrArg (fun p=>(((k+1:Nat):Int),p,PUnit.unit)) ?_
    unfold tg
    refine congrArg (fun c=>(_,List.replicate m (some ([]:List Int))++c)) (gG fun i j _ _=>?_)
    by_cases c1:j<k
    ·rw[if_pos c1,if_pos (by omega)]
    ·rw[if_neg c1]
     by_cases c2:j=k
     ·subst c2
      rw[if_pos rfl,if_pos (by omega)]
      rfl
     ·rw[if_neg c2,if_neg (by omega)]
  ·simp only[z8 (show ¬ (w:Int)<w by omega),cF]
   have hall:((tg m w fun i j=>if j<w then Mx s i j else 0).1.all fun x=>eC (tg m w fun i j=>if j<w then Mx s i j else 0).2 x)=true:=by
    rw[List.all_eq_true]
    intro x hx
    obtain ⟨i,hi,rfl⟩:=List.mem_map.1 hx
    exact EA (List.mem_range.1 hi)
   have hmap:(tg m w fun i j=>if j<w then Mx s i j else 0).1.map (fun x=>ah (tg m w fun i j=>if j<w then Mx s i j else 0).2 x)=FG s:=by
    unfold FG pW
    rw[←hm,←hw]
    unfold tg br
    rw[List.map_map]
    refine List.map_congr_left fun i hi=>?_
    have:=Aa (w:=w) (T:=fun i j=>if j<w then Mx s i j else 0) (List.mem_range.1 hi)
    exact this.trans (dn fun j hj=>if_pos hj)
   rw[hall,hmap,cT]
theorem HF {s:Sy} (h:fu s=false):bn s=some ([],1,()):=by
 rw[Df]
 simp only[Nn,xE,h,aa,Bool.not_false,cT]
open Tryz Dn Dn.Sh
def eE:List Int→List Fq→Rat→Option Rat
 | n ::l,a ::x,s=>if dz ((n:Rat)*qv a)∧dz (s+(n:Rat)*qv a) then eE l x (s+(n:Rat)*qv a) else none
 | _,_,s=>some s
def OA {R:Type} (o:Option Rat) (bad:Option R) (good:Rat→Option R):Option R:=match o with
 | some q=>good q
 | none=>bad
theorem CU {σ R:Type} {l:List Int} {x:List Fq} (hl:l.length≤x.length) {b:Nat→σ→(σ→Option R)→Option R} {f:σ→Option R} {cur:σ→Rat} {bad:Option R} {good:Rat→Option R}
  (nx:∀i s,dz (cur s+((l.getD i 0:Int):Rat)*qv (x.getD i (0,0)))→σ) (hnx:∀i s h,cur (nx i s h)=cur s+((l.getD i 0:Int):Rat)*qv (x.getD i (0,0)))
  (hb:∀i s k,i<l.length→b i s k=if h:dz (((l.getD i 0:Int):Rat)*qv (x.getD i (0,0)))∧dz (cur s+((l.getD i 0:Int):Rat)*qv (x.getD i (0,0))) then k (nx i s h.2) else bad)
  (hf:∀s,f s=good (cur s)):∀(k i:Nat) (s:σ),i+k=l.length→upF b f k i s=OA (eE (l.drop i) (x.drop i) (cur s)) bad good
 | 0,i,s,h=>by
  rw[List.drop_eq_nil_of_le (by omega)]
  exact hf s
 | k+1,i,s,h=>by
  have h1:i<l.length:=by omega
  have h2:i<x.length:=by omega
  have e1:l.getD i 0=l[i]:=bf h1
  have e2:x.getD i (0,0)=x[i]:=bf h2
  simp only[upF]
  rw[hb i s _ h1,List.drop_eq_getElem_cons h1,List.drop_eq_getElem_cons h2,eE,←e1,←e2]
  split
  ·rw[CU hl nx hnx hb hf k (i+1) _ (by omega),hnx]
  ·rfl
theorem obN {T R:Type} {t:T} {k:T→Option R}:af (some t) k=k t:=id rfl
theorem Mc {l:List Int} {x:List Fq} {e:Int} (hl:l.length≤x.length) (h0:l.length≤1000000) (hc:∀n ∈ l,-1152921504606846976≤n∧n≤1152921504606846976) (hx:∀a ∈ x,okF a) :
  bO e l x=OA (eE l x 0) (some (5,(0,1))) fun q=>some (e,prQ q):=by
 simp only[bO,iK]
 refine (l9 (α:=Int×Int×Fq×Fq×PUnit) l.length (by omega) (fun i (s:Fq×{q:Rat // dz q})=>((i:Int),e,s.1,prQ s.2.1,PUnit.unit))
  (fun i s k=>if h:dz (((l.getD i 0:Int):Rat)*qv (x.getD i (0,0)))∧dz (s.2.1+((l.getD i 0:Int):Rat)*qv (x.getD i (0,0))) then k (s.1,⟨_,h.2⟩) else some (5,(0,1))) (fun s=>some (e,prQ s.2.1)) ?_ ?_ ((0,0),⟨0,by decide⟩)).trans ?_
 ·intro again i s hi
  have hw:IntKind.wrap .i64 ((i:Int)+1)=((i+1:Nat):Int):=by rw[aU (by omega) (by omega)];rfl
  obtain ⟨w,q,hq⟩:=s
  have hn:l.getD i 0 ∈ l:=by rw[bf hi];exact List.getElem_mem _
  have ha:okF (x.getD i (0,0)):=by rw[bf (show i<x.length by omega)];exact hx _ (List.getElem_mem _)
  have hm:=HJ (tA (hc _ hn).1 (hc _ hn).2) ha
  rw[xO] at hm
  simp only[a8,z7 hi,z7 (show i<x.length by omega),z7 (show (i:Int)<l.length by omega),cT,z9,hw,qu,hm,aa]
  generalize l.getD i 0=n at *
  generalize x.getD i (0,0)=a at *
  rcases je ((n:Rat)*qv a) with ⟨f1,e1⟩ | ⟨f1,e1⟩
  ·have hA:=BK (kz hq) (kz f1)
   rw[mS,mS] at hA
   simp only[e1,decide_true,cT,hA,aa]
   rcases je (q+(n:Rat)*qv a) with ⟨f2,e2⟩ | ⟨f2,e2⟩
   ·rw[dif_pos ⟨f1,f2⟩]
    simp only[e2,decide_true,Bool.not_true,cF]
   ·rw[dif_neg fun h=>f2 h.2]
    simp only[e2]
    rfl
  ·rw[dif_neg fun h=>f1 h.1]
   simp only[e1]
   rfl
 ·intro again s
  simp only[z8 (show ¬ (l.length:Int)<l.length by omega),cF]
 ·exact CU (cur:=fun s:Fq×{q:Rat // dz q}=>s.2.1) (bad:=some (5,(0,1))) (good:=fun q=>some (e,prQ q)) hl (fun i s h=>(s.1,⟨_,h⟩)) (fun _ _ _=>rfl) (fun _ _ _ _=>rfl) (fun _=>rfl) l.length 0 ((0,0),⟨0,by decide⟩) (by omega)
theorem wz:∀{l:List Int} {x:List Fq} {s q:Rat},dz s→eE l x s=some q→dz q
 | [],_,s,q,hs,h=>by
  unfold eE at h
  injection h with h
  rw[←h];exact hs
 | _ ::_,[],s,q,hs,h=>by
  unfold eE at h
  injection h with h
  rw[←h];exact hs
 | n ::l,a ::x,s,q,hs,h=>by
  unfold eE at h
  split at h
  ·rename_i hh
   exact wz hh.2 h
  ·cases h
open Tryz Dn Dn.Sh
theorem JV {n:Int} (h:inC n=true): -1152921504606846976≤n∧n≤1152921504606846976:=by
 have:=z12 h
 omega
theorem JE {n:Int} (h:inR n=true): -1152921504606846976≤n∧n≤1152921504606846976:=by
 have:=z12 h
 omega
structure ValidP (p:Pg):Prop where
 cost:1≤p.1.length∧p.1.length≤12
 rows:p.2.length≤6
 cs:∀n ∈ p.1,inC n=true
 len:∀r ∈ p.2,r.1.length=p.1.length
 kind:∀r ∈ p.2,1≤r.2.1∧r.2.1≤3
 right:∀r ∈ p.2,inR r.2.2=true
 coefs:∀r ∈ p.2,∀n ∈ r.1,inC n=true
theorem gC {p:Pg}:nj p=true↔ValidP p:=by
 unfold nj F4
 rw[z10,z10,decide_eq_true_iff,List.all_eq_true,List.all_eq_true]
 constructor
 ·rintro ⟨⟨h1,h2,h3⟩,h4,h5⟩
  have h6:∀r ∈ p.2,r.1.length=p.1.length∧(1≤r.2.1∧r.2.1≤3)∧inR r.2.2=true∧∀n ∈ r.1,inC n=true:=fun r hr=>by
   have:=h5 r hr
   unfold s7 at this
   rw[z10,z10,z10,decide_eq_true_iff,decide_eq_true_iff,List.all_eq_true] at this
   exact this
  exact ⟨⟨h1,h2⟩,h3,h4,fun r hr=>(h6 r hr).1,fun r hr=>(h6 r hr).2.1,fun r hr=>(h6 r hr).2.2.1,fun r hr=>(h6 r hr).2.2.2⟩
 ·rintro ⟨h1,h2,h3,h4,h5,h6,h7⟩
  refine ⟨⟨h1.1,h1.2,h2⟩,h3,fun r hr=>?_⟩
  unfold s7
  rw[z10,z10,z10,decide_eq_true_iff,decide_eq_true_iff,List.all_eq_true]
  exact ⟨h4 r hr,h5 r hr,h6 r hr,h7 r hr⟩
theorem KA {a:Fq} {n:Int} (ha:okF a) (hn: -1152921504606846976≤n∧n≤1152921504606846976):eH a n=some (ug (qv a) (n:Rat)):=by
 have h:=Nh ha (tA hn.1 hn.2)
 rw[xO] at h
 simp only[eH,lX,h,aa]
theorem yg {l:List Int} {x:List Fq}:dz ((eE l x 0).getD 0):=by
 cases h:eE l x 0 with
 | none=>decide
 | some q=>exact wz (by decide) h
theorem MM {l:List Int} {x:List Fq} {e:Int} (hl:l.length≤x.length) (h0:l.length≤1000000) (hc:∀n ∈ l,inC n=true) (hx:∀a ∈ x,okF a) :
  bO e l x=some (bif (eE l x 0).isSome then e else 5,prQ ((eE l x 0).getD 0)):=by
 rw[Mc hl h0 (fun n hn=>JV (hc n hn)) hx]
 cases eE l x 0<;>rfl
def Aj (p:Pg) (x:List Fq):Bool:=p.2.all fun r=>(eE r.1 x 0).isSome
end
end Go.Proofs.YtfknoaclabfdlaaGreat

namespace Go.Proofs.YtfknoaclabfdlaaGreat
open Tryz Dn Dn.Sh
def Ok (s:Sy):List Int:=br s.1.length (bwS s)
theorem KD {s:Sy} (h:fu s=true):ci s=some (Ok s,0,()):=by
 have hv:=iw h
 have hb:=hv.bl
 simp only[ci,iH,xE,h,aa,Bool.not_true,cF]
 refine cD s.1.length (by omega) (fun i=>(br i (bwS s),(i:Int),PUnit.unit)) _ rfl (fun again i hi=>?_) (fun again=>?_)
 ·simp only[a8,z7 hi,z7 (show (i:Int)<s.1.length by omega),cT,z9,aO,fk (show (i+1)*8≤140737488355328 by omega),eS (show i≤1000000 by omega),show (List.getD s.1 i ({ data:={ toList:=[] } },(0:Int))).2=bwS s i from rfl,qq]
 ·simp only[z8 (show ¬ (s.1.length:Int)<s.1.length by omega),cF]
  rfl
def kn (s:Sy) (i:Nat):Rw:=(br s.2.length (Mx s i),(3:Int),bwS s i)
def kp (s:Sy) (c:List Int):Pg:=(c,br s.1.length (kn s))
theorem Ic {s:Sy} (h:fu s=true) (c:List Int):ce s c=some (kp s c,0,()):=by
 have hv:=iw h
 have hb:=hv.bl
 unfold ce kD
 rw[DG h,aa,KD h,aa]
 refine (cF _ _).trans ((cF _ _).trans ?_)
 unfold FG Ok
 refine cD s.1.length (by omega) (fun i=>((i:Int),c,br i (kn s),PUnit.unit)) _ rfl (fun again i hi=>?_) (fun again=>?_)
 ·simp only[a8,gb,aO,z7 hi,z7 (show (i:Int)<s.1.length by omega),cT,z9,fk (show (i+1)*40≤140737488355328 by omega),eS (show i≤1000000 by omega),mE hi,bt hi]
  rw[show (br s.2.length (Mx s i),(3:Int),bwS s i)=kn s i from rfl,qq]
 ·simp only[gb,z8 (show ¬ (s.1.length:Int)<s.1.length by omega),cF]
  rfl
theorem El {s:Sy} (h:fu s=false) (c:List Int):ce s c=some (([],[]),1,()):=by
 simp only[ce,kD,HF h,aa]
 rfl
def j7 (s:Sy):List Int:=List.replicate s.2.length 1
theorem DC (z:Int) {n:Nat} (hn:n≤1000000):cb [z] (n:Int)=some (List.replicate n z):=by
 have hm:gg (IntKind.wrap .u64 ((List.length [z]:Nat):Int)) (IntKind.wrap .u64 (n:Int))=some (0,(n:Int),()):=by
  simp only[gg,ql]
  rw[bg (by simp) (by simp),bg (by omega) (by omega),Nm (by simp) (by simp) (by omega) (by omega),aa]
  simp only[List.length_singleton]
  congr 1
  refine Prod.ext ?_ (Prod.ext ?_ rfl)
  ·show ((1:Nat):Int)*n / 18446744073709551616=0
   omega
  ·show ((1:Nat):Int)*n % 18446744073709551616=n
   omega
 have hw:IntKind.wrap .i64 (n:Int)=(n:Int):=aU (by omega) (by omega)
 simp only[cb,ii,jnT]
 rw[z8 (show ¬ (n:Int)<0 by omega),cF,hm,aa]
 have h63:decide ((n:Int)>9223372036854775807)=false:=z8 (by omega)
 have hz0:decide ((0:Int)>0)=false:=rfl
 have hz1:decide ((0:Int)≤(n:Int))=true:=z7 (by omega)
 have hfb:dt n 8=true:=fk (by omega)
 simp only[hw,hz0,h63,hz1,z9,hfb,Bool.not_false,Bool.not_true,Bool.or_true,Bool.and_self,cT,cF,List.drop_zero,List.take_zero,List.nil_append]
 refine q7 (g:=fun _=>some (List.replicate n z)) (I:=fun (x:Int×List Int×PUnit)=>∃c:Nat,x.1=c∧c≤n∧(0<n→0<c)∧x.2.1.length=n∧x.2.1.take c=List.replicate c z) (μ:=fun (x:Int×List Int×PUnit)=>n - x.1.toNat) ?_ ?_ (by simp only;omega)
 ·rintro ⟨i,row,_⟩ rec ⟨c,h1,h2,h3,h4,h5⟩ hrec
  simp only at h1 h4 h5 hrec ⊢
  subst h1
  simp only[z9,h4]
  by_cases hc:c<n
  ·have hl:(List.take (n - c) (List.take c row)).length=min (n - c) c:=by rw[List.length_take,List.length_take,h4];omega
   rw[z7 (show (c:Int)<n by omega),cT,Ip (by omega) (by omega) (by omega),Ip (by omega) (by omega) (by omega),cQ (by omega),cQ (Nat.le_refl n)]
   simp only[Bool.and_self,cT]
   rw[aU (by omega) (by omega)]
   refine hrec _ ⟨c+min (n - c) c,?_,by omega,by omega,?_,?_⟩ ?_
   ·simp only;rw[hl];omega
   ·simp only[List.length_append,List.length_drop,hl,h4,List.length_take];omega
   ·simp only
    rw[List.take_append_of_le_length (by rw[List.length_append,hl,List.length_take,h4];omega),h5,List.take_replicate,List.replicate_append_replicate,List.take_replicate]
    congr 1
    omega
   ·simp only;rw[hl];omega
  ·have:c=n:=by omega
   subst this
   rw[z8 (show ¬ (c:Int)<c by omega),cF]
   rw[←h5,List.take_of_length_le (by omega)]
 ·refine ⟨(List.take n [z]).length,rfl,by rw[List.length_take];omega,fun h=>by rw[List.length_take];simp;omega,?_,?_⟩
  ·simp only[List.length_append,List.length_drop,List.length_replicate,List.length_take,List.length_singleton];omega
  ·simp only
   rcases Nat.eq_zero_or_pos n with h | h
   ·subst h;rfl
   ·obtain ⟨m,rfl⟩:∃m,n=m+1:=⟨n - 1,by omega⟩
    simp
theorem va {s:Sy} (h:fu s=true):ax s=some (kp s (j7 s),0,()):=by
 have hr:=(iw h).rl
 simp only[ax,hH,DC 1 (show s.2.length≤1000000 by omega),aa]
 rw[show List.replicate s.2.length (1:Int)=j7 s from rfl,Ic h]
 rfl
theorem wS {s:Sy} (h:fu s=false) (hl:s.2.length≤1000000):ax s=some (([],[]),1,()):=by
 simp only[ax,hH,DC 1 hl,El h,aa]
theorem oj {α:Type} {n:Nat} {f:Nat→α} {a:α}:a ∈ br n f↔∃i,i<n∧f i=a:=by
 unfold br
 rw[List.mem_map]
 exact ⟨fun ⟨i,h1,h2⟩=>⟨i,List.mem_range.1 h1,h2⟩,fun ⟨i,h1,h2⟩=>⟨i,List.mem_range.2 h1,h2⟩⟩
theorem Il {s:Sy} (hv:ValidS s) {c:List Int} (hl:c.length=s.2.length) (hc:∀n ∈ c,inC n=true):ValidP (kp s c):=by
 have hb:=hv.bl
 have hr:=hv.rl
 refine ⟨⟨by show 1≤c.length;omega,by show c.length≤12;omega⟩,?_,hc,fun r h=>?_,fun r h=>?_,fun r h=>?_,fun r h n hn=>?_⟩
 ·show (br s.1.length (kn s)).length≤6
  rw[aO];omega
 all_goals
  obtain ⟨i,hi,rfl⟩:=oj.1 h
 ·show (br s.2.length (Mx s i)).length=c.length
  rw[aO,hl]
 ·exact ⟨by show (1:Int)≤3;omega,by show (3:Int)≤3;omega⟩
 ·have:=hv.wt i hi
  exact z7 (by show -1073741824≤bwS s i∧bwS s i≤1073741824;omega)
 ·obtain ⟨k,hk,rfl⟩:=oj.1 hn
  have:=Ab hv i hk
  exact z7 (by omega)
theorem Gk {s:Sy} (hv:ValidS s):ValidP (kp s (j7 s)):=Il hv (by unfold j7;rw[List.length_replicate]) fun n hn=>by
 rw[(List.mem_replicate.1 hn).2];rfl
def jD (s:ByteArray):Bool:=!decide ((s.size:Int)>60)
def nc (s:Sy):Bool:=decide (s.1.length≤9∧s.2.length≤9)&&(s.1.all (fun b=>jD b.1)&&s.2.all (fun r=>jD r.1&&(!decide ((r.2.1.length:Int)>13)&&r.2.1.all fun h=>jD h.1)))
theorem EF (s:Sy):eJ s=some (nc s):=by
 obtain ⟨bs,rs⟩:=s
 simp only[eJ,l8,nc]
 by_cases h0:bs.length≤9∧rs.length≤9
 ·rw[z7 h0,z8 (show ¬ (bs.length:Int)>9 by omega),z8 (show ¬ (rs.length:Int)>9 by omega)]
  simp only[Bool.not_false,Bool.not_true,Bool.or_true,cT,cF,Bool.true_and]
  refine (o0 (p:=fun b:Bk=>jD b.1) (d:=bk0) (l:=bs) (no:=some false) (yes:=some (rs.all (fun r=>jD r.1&&(!decide ((r.2.1.length:Int)>13)&&r.2.1.all fun h=>jD h.1)))) (by omega) ?_ ?_).trans ?_
  ·intro again i hi
   simp only[a8,z7 hi,z7 (show (i:Int)<bs.length by omega),cT,z9,eS (show i≤1000000 by omega),jD]
   generalize decide ((((bs.getD i bk0).1.size:Nat):Int)>60)=g
   cases g<;>rfl
  ·intro again
   simp only[z8 (show ¬ (bs.length:Int)<bs.length by omega),cF]
   refine (o0 (p:=fun r:Rp=>jD r.1&&(!decide ((r.2.1.length:Int)>13)&&r.2.1.all fun h=>jD h.1)) (d:=rp0) (l:=rs) (no:=some false) (yes:=some true) (by omega) ?_ ?_).trans ?_
   ·intro again i hi
    simp only[a8,z7 hi,z7 (show (i:Int)<rs.length by omega),cT,z9,eS (show i≤1000000 by omega)]
    simp only[jD]
    generalize decide ((((rs.getD i rp0).1.size:Nat):Int)>60)=g1
    by_cases g:((rs.getD i rp0).2.1.length:Int)>13
    ·rw[z7 g]
     cases g1<;>rfl
    ·rw[z8 g]
     cases g1 with
     | true=>rfl
     | false =>
      simp only[Bool.not_true,Bool.not_false,Bool.or_true,Bool.and_self,Bool.true_and,cT,cF]
      refine o0 (p:=fun h:Hd=>!decide (((h.1.size:Nat):Int)>60)) (d:=hd0) (l:=(rs.getD i rp0).2.1) (by omega) ?_ ?_
      ·intro again1 t ht
       simp only[a8,z7 ht,z7 (show (t:Int)<(rs.getD i rp0).2.1.length by omega),cT,z9,eS (show t≤1000000 by omega)]
       generalize decide (((((rs.getD i rp0).2.1.getD t hd0).1.size:Nat):Int)>60)=g
       cases g<;>rfl
      ·intro again1
       simp only[z8 (show ¬ ((rs.getD i rp0).2.1.length:Int)<(rs.getD i rp0).2.1.length by omega),cF]
   ·intro again
    simp only[z8 (show ¬ (rs.length:Int)<rs.length by omega),cF]
   ·cases rs.all (fun r=>jD r.1&&(!decide ((r.2.1.length:Int)>13)&&r.2.1.all fun h=>jD h.1))<;>rfl
  ·cases bs.all (fun b=>jD b.1)<;>rfl
 ·rw[z8 h0]
  by_cases g:(bs.length:Int)>9
  ·rw[z7 g];rfl
  ·rw[z8 g,z7 (show (rs.length:Int)>9 by omega)];rfl
theorem Cs {s:Sy} (h:nc s=true):s.1.length≤9∧s.2.length≤9:=by
 unfold nc at h
 rw[z10,decide_eq_true_iff] at h
 exact h.1
end Go.Proofs.YtfknoaclabfdlaaGreat

namespace Go.Proofs.YtfknoaclabfdlaaGreat
noncomputable section
open Tryz Dn Dn.Sh
def okL (x:List Fq):Bool:=x.all fun a=>decide (okF a)
theorem IT {x:List Fq} (h:x.length≤1000000):dD x=some (okL x):=by
 have hc:aj x (fun x=>cK x.1)=some (!okL x):=by
  unfold okL
  rw[←C6]
  refine Fx (p:=fun a:Fq=>!decide (okF a)) h fun a _=>?_
  simp only[cK,iG,lF,aa]
 simp only[dD,kg,hc,aa,Bool.not_not]
theorem qA {x:List Fq}:okL x=true↔∀a ∈ x,okF a:=by
 unfold okL
 rw[List.all_eq_true]
 exact ⟨fun h a ha=>z12 (h a ha),fun h a ha=>z7 (h a ha)⟩
end
end Go.Proofs.YtfknoaclabfdlaaGreat

namespace Go.Proofs.YtfknoaclabfdlaaGreat
open Tryz Dn Dn.Sh
end Go.Proofs.YtfknoaclabfdlaaGreat

namespace Go.Proofs.YtfknoaclabfdlaaGreat
open Tryz Dn Dn.Sh
def lL (p:Pg) (j:Nat):List Int:=p.2.map fun r=>r.1.getD j 0
def lb (p:Pg):List Int:=p.2.map fun r=>r.2.2
theorem zd {g:Rw→Int} {rs:List Rw} {F:(List Int×Int×PUnit→Option (List Int))→List Int×Int×PUnit→Option (List Int)} (h:rs.length≤1000000)
  (hF:∀again (i:Nat),i<rs.length→F again ((rs.take i).map g,(i:Int),PUnit.unit)=again ((rs.take i).map g++[g (rs.getD i rw0)],((i+1:Nat):Int),PUnit.unit))
  (hf:∀again,F again (rs.map g,(rs.length:Int),PUnit.unit)=some (rs.map g)):lpK (List Int×Int×PUnit) (List Int) F ([],(0:Int),PUnit.unit)=some (rs.map g):=by
 refine (l9 (α:=List Int×Int×PUnit) (σ:=Unit) rs.length (by omega) (fun i _=>((rs.take i).map g,(i:Int),PUnit.unit)) (fun i s k=>bif true then k s else none) (fun _=>some (rs.map g)) ?_ ?_ ()).trans ?_
 ·intro again i _ hi
  rw[hF again i hi,cT]
  congr 2
  rw[bf hi,List.take_succ_eq_append_getElem hi,List.map_append]
  rfl
 ·intro again _
  rw[List.take_length]
  exact hf again
 ·refine (ng (p:=fun _=>true) (r:=none) rs.length (fun _ _ _=>rfl) rs.length 0 (by omega)).trans ?_
  rw[show ((List.range' 0 rs.length).all fun _=>true)=true from List.all_eq_true.2 fun _ _=>rfl]
  rfl
theorem rc {g:Rw→Int} {rs:List Rw} {i:Nat}:((rs.take i).map g).length≤rs.length:=by
 rw[List.length_map,List.length_take];omega
theorem EI {p:Pg} {j:Nat} (hv:ValidP p) (hj:j<p.1.length):de p (j:Int)=some (lL p j):=by
 obtain ⟨c,rs⟩:=p
 unfold de jp lL
 have h6:=hv.rows
 simp only at h6 hj
 refine zd (rs:=rs) (g:=fun r=>r.1.getD j 0) (by omega) (fun again i hi=>?_) (fun again=>by simp)
 have hw:IntKind.wrap .i64 ((i:Int)+1)=((i+1:Nat):Int):=by rw[aU (by omega) (by omega)];rfl
 have hr:rs.getD i rw0 ∈ rs:=by rw[bf hi];exact List.getElem_mem _
 have hL:=hv.len _ hr
 have hT:=rc (g:=fun r=>r.1.getD j 0) (rs:=rs) (i:=i)
 simp only at hL
 simp only[a8,z7 hi,z7 (show (i:Int)<rs.length by omega),cT,z9,hw,z7 (show j<(rs.getD i rw0).1.length by omega),fk (show (((rs.take i).map fun r=>r.1.getD j 0).length+1)*8≤140737488355328 by omega)]
theorem Ey {p:Pg} (hv:ValidP p):c8 p=some (lb p):=by
 obtain ⟨c,rs⟩:=p
 unfold c8 ju lb
 have h6:=hv.rows
 simp only at h6
 refine zd (rs:=rs) (g:=fun r=>r.2.2) (by omega) (fun again i hi=>?_) (fun again=>by simp)
 have hw:IntKind.wrap .i64 ((i:Int)+1)=((i+1:Nat):Int):=by rw[aU (by omega) (by omega)];rfl
 have hT:=rc (g:=fun r=>r.2.2) (rs:=rs) (i:=i)
 simp only[a8,z7 hi,z7 (show (i:Int)<rs.length by omega),cT,z9,hw,fk (show (((rs.take i).map fun r=>r.2.2).length+1)*8≤140737488355328 by omega)]
end Go.Proofs.YtfknoaclabfdlaaGreat

namespace Go.Proofs.YtfknoaclabfdlaaGreat
open Tryz Dn Dn.Sh
def ux (k n:Int):Bool:=(decide (k≠1)||decide (n≤0))&&(decide (k≠2)||decide (0≤n))
def kE (p:Pg) (y:List Fq):Bool:=(List.range' 0 p.2.length).all fun i=>ux (p.2.getD i rw0).2.1 (y.getD i (0,0)).1
theorem BA {p:Pg} {y:List Fq} (hv:ValidP p) (hl:y.length=p.2.length):dg p y=some (kE p y):=by
 obtain ⟨c,rs⟩:=p
 unfold dg jE kE
 have h6:=hv.rows
 simp only at h6 hl ⊢
 refine (l9 (α:=Int×PUnit) (σ:=Unit) rs.length (by omega) (fun i _=>((i:Int),PUnit.unit)) (fun i s k=>bif ux (rs.getD i rw0).2.1 (y.getD i (0,0)).1 then k s else some false) (fun _=>some true) ?_ ?_ ()).trans ?_
 ·intro again i _ hi
  have hw:IntKind.wrap .i64 ((i:Int)+1)=((i+1:Nat):Int):=by rw[aU (by omega) (by omega)];rfl
  simp only[a8,z7 hi,z7 (show (i:Int)<rs.length by omega),z7 (show i<y.length by omega),cT,z9,hw]
  obtain ⟨n,hn⟩:∃n,(y.getD i (0,0)).1=n:=⟨_,rfl⟩
  obtain ⟨kd,hkd⟩:∃kd,(rs.getD i rw0).2.1=kd:=⟨_,rfl⟩
  simp only[hn,hkd,ux]
  by_cases k1:kd=1<;>by_cases k2:kd=2<;>by_cases c1:n≤0<;>by_cases c2:0≤n<;>by_cases c3:n>0<;>by_cases c4:n<0<;>first | (exfalso;omega) | simp[k1,k2,c1,c2,c3,c4]
 ·intro again s
  simp only[z8 (show ¬ (rs.length:Int)<rs.length by omega),cF]
 ·refine (ng (p:=fun i=>ux (rs.getD i rw0).2.1 (y.getD i (0,0)).1) (r:=some false) rs.length (fun _ _ _=>rfl) rs.length 0 (by omega)).trans ?_
  cases (List.range' 0 rs.length).all fun i=>ux (rs.getD i rw0).2.1 (y.getD i (0,0)).1<;>rfl
end Go.Proofs.YtfknoaclabfdlaaGreat

namespace Go.Proofs.YtfknoaclabfdlaaGreat
noncomputable section
open Tryz Dn Dn.Sh
def sX (p:Pg) (y:List Fq):Bool:=(List.range' 0 p.1.length).all fun j=>(eE (lL p j) y 0).isSome
def vf (p:Pg) (y:List Fq) (f:Nat→Int):Bool:=(List.range' 0 p.1.length).all fun j=>decide (ug ((eE (lL p j) y 0).getD 0) (f j:Rat)≤0)
theorem K1 {p:Pg} {j:Nat} (hv:ValidP p) (hj:j<p.1.length):∀n ∈ lL p j,inC n=true:=fun n hn=>by
 obtain ⟨r,hr,rfl⟩:=List.mem_map.1 hn
 rw[bf (by rw[hv.len r hr];exact hj)]
 exact hv.coefs r hr _ (List.getElem_mem _)
theorem qI {p:Pg} {j:Nat}:(lL p j).length=p.2.length:=by unfold lL;rw[List.length_map]
theorem mF {p:Pg}:(lb p).length=p.2.length:=by unfold lb;rw[List.length_map]
theorem EU {p:Pg} (hv:ValidP p):∀n ∈ lb p,inR n=true:=fun n hn=>by
 obtain ⟨r,hr,rfl⟩:=List.mem_map.1 hn
 exact hv.right r hr
theorem DY {R:Type} {n:Nat} {g h:Nat→Bool} {f:Bool×Int→Option R} {b:Nat→Bool×Int→(Bool×Int→Option R)→Option R}
  (hb:∀i s k,i<n→b i s k=k (s.1&&h i,bif g i then s.2 else 5)):∀(k i:Nat) (s:Bool×Int),i+k≤n →
  upF b f k i s=f (s.1&&(List.range' i k).all h,bif (List.range' i k).all g then s.2 else 5)
 | 0,i,s,_=>by simp[upF]
 | k+1,i,s,hi=>by
  simp only[upF,hb i s _ (by omega)]
  rw[DY hb k (i+1) _ (by omega)]
  simp only[List.range'_succ,List.all_cons,Bool.and_assoc]
  congr 2
  cases g i<;>cases (List.range' (i+1) k).all g<;>rfl
open Tryz Dn Dn.Sh
theorem NK {l:List Int} {x:List Fq} {e:Int} (hl:l.length≤x.length) (h0:l.length≤1000000) (hc:∀n ∈ l,inR n=true) (hx:∀a ∈ x,okF a) :
  bO e l x=some (bif (eE l x 0).isSome then e else 5,prQ ((eE l x 0).getD 0)):=by
 rw[Mc hl h0 (fun n hn=>JE (hc n hn)) hx]
 cases eE l x 0<;>rfl
def p5 (p:Pg) (y:List Fq):Option Rat:=eE (lb p) y 0
def FA (p:Pg) (y:List Fq):Bool:=decide (0<(prQ ((p5 p y).getD 0)).1)
def Lq (p:Pg) (y:List Fq):Bool:=FA p y&&(kE p y&&vf p y fun _=>0)
theorem AL {p:Pg} {y:List Fq} (h:y.length≤1000000):bM p y=some (bif nj p&&okL y then bif decide (y.length=p.2.length) then bif sX p y&&(p5 p y).isSome then (Lq p y,0,()) else (false,5,()) else (false,3,()) else (false,1,())):=by
 unfold bM iU
 rw[kU,obN]
 simp only[IT h,aW,fq,cT]
 cases hv:nj p with
 | false=>rfl
 | true =>
  simp only[Bool.not_true,Bool.not_false,cT]
  rw[obN]
  cases hx:okL y with
  | false=>rfl
  | true =>
   have hV:=gC.1 hv
   have hX:=qA.1 hx
   have h6:=hV.rows
   have h7:=hV.cost.2
   simp only[Bool.not_true,cF,Bool.and_self,cT]
   by_cases hl:y.length=p.2.length
   ·simp only[z7 hl,z7 (show (y.length:Int)=p.2.length by omega),Bool.not_true,cT,cF]
    refine (l9 (α:=Bool×Int×Int×PUnit) p.1.length (by omega) (fun i (s:Bool×Int)=>(s.1,(i:Int),s.2,PUnit.unit)) (fun j s k=>k (s.1&&decide (ug ((eE (lL p j) y 0).getD 0) ((0:Int):Rat)≤0),bif (eE (lL p j) y 0).isSome then s.2 else 5))
     (fun s=>some ((FA p y&&(kE p y&&s.1))&&decide ((bif (p5 p y).isSome then s.2 else 5)=0),bif (p5 p y).isSome then s.2 else 5,())) ?_ ?_ (true,0)).trans ?_
    ·intro again i s hi
     have hw:IntKind.wrap .i64 ((i:Int)+1)=((i+1:Nat):Int):=by rw[aU (by omega) (by omega)];rfl
     have h1:=MM (l:=lL p i) (x:=y) (e:=s.2) (by rw[qI];omega) (by rw[qI];omega) (K1 hV hi) hX
     have h2:=KA (n:=0) (kz (yg (l:=lL p i) (x:=y))) (by omega)
     rw[mS] at h2
     simp only[z7 (show (i:Int)<p.1.length by omega),cT,EI hV hi,h1,cB,gS,h2,aa,hw]
     cases decide (ug ((eE (lL p i) y 0).getD 0) ((0:Int):Rat)≤0)<;>cases s.1<;>rfl
    ·intro again s
     have h1:=NK (l:=lb p) (x:=y) (e:=s.2) (by rw[mF];omega) (by rw[mF];omega) (EU hV) hX
     simp only[z8 (show ¬ (p.1.length:Int)<p.1.length by omega),cF,Ey hV,h1,aa,BA hV hl]
     obtain ⟨n,hn⟩:∃n,(prQ ((eE (lb p) y 0).getD 0)).1=n:=⟨_,rfl⟩
     simp only[FA,p5,hn]
     by_cases c1:n>0
     ·simp only[z7 c1]
      cases kE p y<;>cases s.1<;>rfl
     ·simp only[z8 c1]
      cases kE p y<;>cases s.1<;>rfl
    ·rw[DY (n:=p.1.length) (g:=fun j=>(eE (lL p j) y 0).isSome) (h:=fun j=>decide (ug ((eE (lL p j) y 0).getD 0) ((0:Int):Rat)≤0)) (fun _ _ _ _=>rfl) p.1.length 0 _ (by omega)]
     rw[show ((List.range' 0 p.1.length).all fun j=>(eE (lL p j) y 0).isSome)=sX p y from rfl,show ((List.range' 0 p.1.length).all fun j=>decide (ug ((eE (lL p j) y 0).getD 0) ((0:Int):Rat)≤0))=vf p y (fun _=>0) from rfl]
     unfold Lq
     cases sX p y<;>cases (p5 p y).isSome<;>cases FA p y<;>cases kE p y<;>cases vf p y (fun _=>0)<;>rfl
   ·simp only[z8 hl,z8 (show ¬ (y.length:Int)=p.2.length by omega),Bool.not_false,cT,cF]
end
end Go.Proofs.YtfknoaclabfdlaaGreat

namespace Go.Proofs.YtfknoaclabfdlaaGreat
open Tryz Dn Dn.Sh
end Go.Proofs.YtfknoaclabfdlaaGreat

namespace Go.Proofs.YtfknoaclabfdlaaGreat
open Tryz Dn Dn.Sh
end Go.Proofs.YtfknoaclabfdlaaGreat

namespace Go.Proofs.YtfknoaclabfdlaaGreat
open Tryz Dn Dn.Sh
theorem Eg:aP=some true:=by kernel_rfl
theorem M6 (s:Sy) (y:List Fq):a9 s y=some (nc s&&decide (y.length≤10)):=by
 simp only[a9,nN,EF,aa]
 rw[show decide ((y.length:Int)≤10)=decide (y.length≤10) from decide_eq_decide.2 (by omega)]
 cases nc s<;>rfl
theorem B4 {s:Sy} (h:fu s=true) (y:List Fq):aM s y=af (bM (kp s (j7 s)) y) fun t=>some (t.1,t.2.1,()):=by
 unfold aM lf
 rw[va h,aa]
 rfl
end Go.Proofs.YtfknoaclabfdlaaGreat

namespace Go.Proofs.YtfknoaclabfdlaaGreat
open Tryz Dn Dn.Sh
def nC (x:Int):Bool×Int×Int:=(decide (x<0),hl x.natAbs)
theorem qN {x:Int} (h1: -9223372036854775808≤x) (h2:x<9223372036854775808):bL x=some (x.natAbs:Int):=jM h1 h2
theorem Dz {n:Nat}:(bif !decide ((hl n).1=0) then true else !decide ((hl n).2=0))=decide (n≠0):=by
 unfold hl
 simp only
 by_cases h:n=0
 ·subst h;rfl
 ·rw[z7 h]
  by_cases c1:((n / 18446744073709551616:Nat):Int)=0
  ·rw[z7 c1,z8 (show ¬ ((n % 18446744073709551616:Nat):Int)=0 by omega)];rfl
  ·rw[z8 c1];rfl
theorem I5 {a b:Int}:(bif !decide (decide (a<0)=decide (b<0)) then decide ((a.natAbs*b.natAbs)≠0) else false)=decide (a*b<0):=by
 by_cases ha:a<0
 ·by_cases hb:b<0
  ·have:=Int.mul_pos_of_neg_of_neg ha hb
   rw[z8 (show ¬ a*b<0 by omega)]
   simp[ha,hb]
  ·by_cases hb0:b=0
   ·subst hb0;simp
   ·have:=Int.mul_neg_of_neg_of_pos ha (show 0<b by omega)
    rw[z7 this,z7 (show a.natAbs*b.natAbs≠0 by rw[←Int.natAbs_mul];omega)]
    simp[ha,hb]
 ·by_cases ha0:a=0
  ·subst ha0;simp
  ·by_cases hb:b<0
   ·have:=Int.mul_neg_of_pos_of_neg (show 0<a by omega) hb
    rw[z7 this,z7 (show a.natAbs*b.natAbs≠0 by rw[←Int.natAbs_mul];omega)]
    simp[ha,hb]
   ·have:=Int.mul_nonneg (show 0≤a by omega) (show 0≤b by omega)
    rw[z8 (show ¬ a*b<0 by omega)]
    simp[ha,hb]
theorem o5 {a b:Int} (ha: -9223372036854775808≤a∧a<9223372036854775808) (hb: -9223372036854775808≤b∧b<9223372036854775808):bq a b=some (nC (a*b)):=by
 have e:(((a.natAbs:Nat):Int)*(b.natAbs:Int) / 18446744073709551616,((a.natAbs:Nat):Int)*(b.natAbs:Int) % 18446744073709551616,PUnit.unit)=((hl (a.natAbs*b.natAbs)).1,(hl (a.natAbs*b.natAbs)).2,PUnit.unit):=by
  rw[←Int.natCast_mul];rfl
 simp only[bq,kj,qN ha.1 ha.2,qN hb.1 hb.2,aa]
 rw[Nm (by omega) (by omega) (by omega) (by omega),aa,e]
 have h1:=Dz (n:=a.natAbs*b.natAbs)
 have h2:=I5 (a:=a) (b:=b)
 rw[←h1] at h2
 unfold nC
 rw[Int.natAbs_mul,←h2]
 generalize hl (a.natAbs*b.natAbs)=p
 obtain ⟨c,hc⟩:∃c,(decide (decide (a<0)=decide (b<0)))=c:=⟨_,rfl⟩
 obtain ⟨c1,hc1⟩:∃c,decide (p.1=0)=c:=⟨_,rfl⟩
 simp only[hc,hc1]
 cases c<;>cases c1<;>rfl
theorem uD {s t:Bool} {m n:Nat}:aw (s,hl m) (t,hl n)=some (if m<n then -1 else if m=n then 0 else 1):=by
 simp only[aw,fe]
 have e1:(hl m).1=(hl n).1↔m / 18446744073709551616=n / 18446744073709551616:=by unfold hl;simp only;omega
 have e2:(hl m).1<(hl n).1↔m / 18446744073709551616<n / 18446744073709551616:=by unfold hl;simp only;omega
 have e3:(hl m).2=(hl n).2↔m % 18446744073709551616=n % 18446744073709551616:=by unfold hl;simp only;omega
 have e4:(hl m).2<(hl n).2↔m % 18446744073709551616<n % 18446744073709551616:=by unfold hl;simp only;omega
 rw[decide_eq_decide.2 e1,decide_eq_decide.2 e2,decide_eq_decide.2 e3,decide_eq_decide.2 e4]
 generalize q1:decide (m / 18446744073709551616=n / 18446744073709551616)=c1
 generalize q2:decide (m / 18446744073709551616<n / 18446744073709551616)=c2
 generalize q3:decide (m % 18446744073709551616=n % 18446744073709551616)=c3
 generalize q4:decide (m % 18446744073709551616<n % 18446744073709551616)=c4
 cases c1<;>cases c2<;>cases c3<;>cases c4<;>simp only[decide_eq_true_iff,decide_eq_false_iff_not] at q1 q2 q3 q4 <;>
  first
  | (exfalso;omega)
  | (rw[if_pos (show m<n by omega)];rfl)
  | (rw[if_neg (show ¬ m<n by omega),if_pos (show m=n by omega)];rfl)
  | (rw[if_neg (show ¬ m<n by omega),if_neg (show ¬ m=n by omega)];rfl)
theorem I8 {x y:Int}:b9 (nC x) (nC y)=some (if x<y then -1 else if x=y then 0 else 1):=by
 have key:∀{a b:Nat} (h1:a<b↔x<y) (h2:a=b↔x=y),(if a<b then (-1:Int) else if a=b then 0 else 1)=if x<y then -1 else if x=y then 0 else 1:=fun h1 h2=>by simp only[h1,h2]
 unfold nC
 simp only[b9,gq,uD,aa]
 by_cases hx:x<0
 ·by_cases hy:y<0
  ·rw[z7 hx,z7 hy,key (by omega) (by omega)]
   rfl
  ·rw[if_pos (show x<y by omega),z7 hx,z8 hy]
   rfl
 ·by_cases hy:y<0
  ·rw[if_neg (show ¬ x<y by omega),if_neg (show ¬ x=y by omega),z8 hx,z7 hy]
   rfl
  ·rw[z8 hx,z8 hy,key (a:=x.natAbs) (b:=y.natAbs) (by omega) (by omega)]
   rfl
theorem K2 {m n:Nat} (h:m+n<340282366920938463463374607431768211456):(vW (hl m).1 (hl n).1 (nI (hl m).2 (hl n).2 0),vW (hl m).2 (hl n).2 0)=hl (m+n):=by
 have h1:=AR h
 have c1:(0:Int)≤nI (hl m).2 (hl n).2 0:=by rw[qX];omega
 have c2:nI (hl m).2 (hl n).2 0≤1:=by rw[qX];omega
 simp only[eU,kK,z7 c1,z7 c2] at h1
 exact Option.some.inj h1
theorem Dd {m n:Nat} (h:n≤m) (hm:m<340282366920938463463374607431768211456):(r8 (hl m).1 (hl n).1 (ms (hl m).2 (hl n).2 0),r8 (hl m).2 (hl n).2 0)=hl (m - n):=by
 have h1:=rO h hm
 have c1:(0:Int)≤ms (hl m).2 (hl n).2 0:=by rw[rx];omega
 have c2:ms (hl m).2 (hl n).2 0≤1:=by rw[rx];split<;>omega
 simp only[dJ,jL,z7 c1,z7 c2] at h1
 exact Option.some.inj h1
theorem Cf {m n:Nat}:(decide ((0:Int)≤ms (hl m).2 (hl n).2 0)&&decide (ms (hl m).2 (hl n).2 0≤(1:Int)))=true:=by
 rw[z7 (show (0:Int)≤ms (hl m).2 (hl n).2 0 by rw[rx];omega),z7 (show ms (hl m).2 (hl n).2 0≤1 by rw[rx];split<;>omega)]
 rfl
theorem BI {m n:Nat}:(decide ((0:Int)≤nI (hl m).2 (hl n).2 0)&&decide (nI (hl m).2 (hl n).2 0≤(1:Int)))=true:=by
 rw[z7 (show (0:Int)≤nI (hl m).2 (hl n).2 0 by rw[qX];omega),z7 (show nI (hl m).2 (hl n).2 0≤1 by rw[qX];omega)]
 rfl
theorem D6 {x y:Int} (hx:x.natAbs<85070591730234615865843651857942052864) (hy:y.natAbs<85070591730234615865843651857942052864):bo (nC x) (nC y)=some (nC (x - y)):=by
 unfold nC
 simp only[bo,fM,uD,aa,qu,Cf,BI]
 by_cases hs:decide (x<0)=decide (y<0)
 ·
  rw[z7 hs]
  simp only[Bool.not_true,cF]
  by_cases hlt:x.natAbs<y.natAbs
  ·have h1:=Dd (m:=y.natAbs) (n:=x.natAbs) (by omega) (by omega)
   have h2:=congrArg Prod.fst h1
   have h3:=congrArg Prod.snd h1
   simp only at h2 h3
   rw[if_pos hlt]
   simp only[show decide ((-1:Int)<0)=true from rfl,cT,h2,h3]
   have h4:=Dz (n:=y.natAbs - x.natAbs)
   have e1:decide (x - y<0)=(bif !decide (x<0) then decide (y.natAbs - x.natAbs≠0) else false):=by
    rw[z7 (show y.natAbs - x.natAbs≠0 by omega)]
    by_cases c:x<0
    ·have c':y<0:=by rw[z7 c] at hs;exact z12 hs.symm
     rw[z7 c,z8 (show ¬ x - y<0 by omega)];rfl
    ·have c':¬ y<0:=by rw[z8 c] at hs;exact of_decide_eq_false hs.symm
     rw[z8 c,z7 (show x - y<0 by omega)];rfl
   have e2:(x - y).natAbs=y.natAbs - x.natAbs:=by
    by_cases c:x<0
    ·have c':y<0:=by rw[z7 c] at hs;exact z12 hs.symm
     omega
    ·have c':¬ y<0:=by rw[z8 c] at hs;exact of_decide_eq_false hs.symm
     omega
   rw[e1,e2,←h4]
   generalize hl (y.natAbs - x.natAbs)=p
   obtain ⟨c,hc⟩:∃c,decide (p.1=0)=c:=⟨_,rfl⟩
   simp only[hc]
   cases decide (x<0)<;>cases c<;>rfl
  ·have h1:=Dd (m:=x.natAbs) (n:=y.natAbs) (by omega) (by omega)
   have h2:=congrArg Prod.fst h1
   have h3:=congrArg Prod.snd h1
   simp only at h2 h3
   have h0:¬ (if x.natAbs<y.natAbs then (-1:Int) else if x.natAbs=y.natAbs then 0 else 1)<0:=by
    rw[if_neg hlt]
    split<;>simp
   rw[z8 h0]
   simp only[cF,h2,h3]
   have h4:=Dz (n:=x.natAbs - y.natAbs)
   have e1:decide (x - y<0)=(bif decide (x<0) then decide (x.natAbs - y.natAbs≠0) else false):=by
    by_cases c:x<0
    ·have c':y<0:=by rw[z7 c] at hs;exact z12 hs.symm
     rw[z7 c,cond_true]
     exact decide_eq_decide.2 (by omega)
    ·have c':¬ y<0:=by rw[z8 c] at hs;exact of_decide_eq_false hs.symm
     rw[z8 c,z8 (show ¬ x - y<0 by omega)];rfl
   have e2:(x - y).natAbs=x.natAbs - y.natAbs:=by
    by_cases c:x<0
    ·have c':y<0:=by rw[z7 c] at hs;exact z12 hs.symm
     omega
    ·have c':¬ y<0:=by rw[z8 c] at hs;exact of_decide_eq_false hs.symm
     omega
   rw[e1,e2,←h4]
   generalize hl (x.natAbs - y.natAbs)=p
   obtain ⟨c,hc⟩:∃c,decide (p.1=0)=c:=⟨_,rfl⟩
   simp only[hc]
   cases decide (x<0)<;>cases c<;>rfl
 ·rw[z8 hs]
  have h1:=K2 (m:=x.natAbs) (n:=y.natAbs) (by omega)
  have h2:=congrArg Prod.fst h1
  have h3:=congrArg Prod.snd h1
  simp only at h2 h3
  simp only[Bool.not_false,cT,h2,h3]
  have h4:=Dz (n:=y.natAbs)
  by_cases c:x<0
  ·have c':¬ y<0:=fun c'=>hs (by rw[z7 c,z7 c'])
   rw[z7 c,z8 c',z7 (show x - y<0 by omega),show (x - y).natAbs=x.natAbs+y.natAbs by omega]
   generalize hl y.natAbs=p
   obtain ⟨d,hd⟩:∃d,decide (p.1=0)=d:=⟨_,rfl⟩
   simp only[hd]
   cases d<;>rfl
  ·have c':y<0:=by
    apply Classical.byContradiction
    intro c'
    exact hs (by rw[z8 c,z8 c'])
   rw[z8 c,z7 c',z8 (show ¬ x - y<0 by omega),show (x - y).natAbs=x.natAbs+y.natAbs by omega]
   generalize hl y.natAbs=p
   obtain ⟨d,hd⟩:∃d,decide (p.1=0)=d:=⟨_,rfl⟩
   simp only[hd]
   cases d<;>rfl
theorem HA {d q:Int} (hd:0<d) (hd2:d<9223372036854775808) (hq:q.natAbs<9223372036854775808):bE (nC (d*q)) d=some q:=by
 unfold nC
 simp only[bE,fR]
 have e:(d*q).natAbs=d.natAbs*q.natAbs:=Int.natAbs_mul _ _
 have hdn:(d.natAbs:Int)=d:=by omega
 have h1:(d*q).natAbs / 18446744073709551616<d.natAbs:=by
  rw[e]
  refine (Nat.div_lt_iff_lt_mul (by omega)).2 ?_
  exact Nat.mul_lt_mul_of_pos_left (by omega) (by omega)
 have h2:=Bi (h:=(d*q).natAbs / 18446744073709551616) (l:=(d*q).natAbs % 18446744073709551616) (y:=d.natAbs) h1 (by omega) (by omega)
 have h3:(d*q).natAbs / 18446744073709551616*18446744073709551616+(d*q).natAbs % 18446744073709551616=(d*q).natAbs:=by omega
 rw[h3,e,Nat.mul_div_cancel_left _ (by omega)] at h2
 have h4:IntKind.wrap .u64 d=(d.natAbs:Int):=by rw[bg (by omega) (by omega)];omega
 rw[h4]
 unfold hl
 simp only
 rw[e,h2,aa]
 simp only
 rw[aU (x:=(q.natAbs:Int)) (by omega) (by omega)]
 by_cases c:q<0
 ·rw[z7 (show d*q<0 from Int.mul_neg_of_pos_of_neg hd c),cond_true,aU (by omega) (by omega)]
  congr 1
  omega
 ·rw[z8 (show ¬ d*q<0 by have:=Int.mul_nonneg (show 0≤d by omega) (show 0≤q by omega);omega),cond_false]
  congr 1
  omega
end Go.Proofs.YtfknoaclabfdlaaGreat

namespace Go.Proofs.YtfknoaclabfdlaaGreat
open Tryz Dn Dn.Sh
theorem aY {i:Nat} (h:i≤1000000):IntKind.wrap .i64 ((i:Int)+1)=((i+1:Nat):Int):=by rw[aU (by omega) (by omega)];rfl
def mid (T:Nat→Nat→Int) (d:Int) (r c i j:Nat):Nat→Nat→Int:=fun k l=>if k≠r∧(k<i∨(k=i∧l<j)) then piv T d r c k l else T k l
theorem Lz {T:Nat→Nat→Int} {d:Int} {r c i j l:Nat}:mid T d r c i j r l=T r l:=if_neg fun h=>h.1 rfl
theorem zY {T:Nat→Nat→Int} {d:Int} {r c i j l:Nat} (h:j≤l):mid T d r c i j i l=T i l:=by
 unfold mid
 rw[if_neg fun h=>by omega]
theorem GG {T:Nat→Nat→Int} {d:Int} {r c k l:Nat}:T k l=mid T d r c 0 0 k l:=by
 unfold mid
 rw[if_neg fun h=>by omega]
def yq (T:Nat→Nat→Int) (i j:Nat):Nat→Nat→Int:=fun k l=>if k<i∨(k=i∧l<j) then - T k l else T k l
theorem Es {T:Nat→Nat→Int} {i j l:Nat} (h:j≤l):yq T i j i l=T i l:=by
 unfold yq
 rw[if_neg fun h=>by omega]
theorem Fo {T:Nat→Nat→Int} {k l:Nat}:T k l=yq T 0 0 k l:=by
 unfold yq
 rw[if_neg fun h=>by omega]
theorem iP {m w:Nat} {T:Nat→Nat→Int}:(gT m w T).2=cY m w T:=rfl
theorem Da {m w:Nat} {T T':Nat→Nat→Int} {i j:Nat} {x:Int} (hi:i<m) (hj:j<w) (h:∀k l,k<m→l<w→(if k=i∧l=j then x else T k l)=T' k l) :
  ((gT m w T).1,(cY m w T).set i (some ((br w (T i)).set j x)))=gT m w T':=by
 rw[AV hi hj,gG h]
 rfl
structure PivOk (m w:Nat) (T:Nat→Nat→Int) (d:Int) (r c:Nat):Prop where
 hm:m≤1000
 hw:w≤1000
 hr:r<m
 hc:c<w
 hd:0<d∧d<4611686018427387904
 b:∀i j,i<m→j<w→(T i j).natAbs<4611686018427387904
 q:∀i j,i<m→i≠r→j<w→d*piv T d r c i j=T r c*T i j - T i c*T r j
 qb:∀i j,i<m→i≠r→j<w→(piv T d r c i j).natAbs<4611686018427387904
theorem iy {x:Int} (h:x.natAbs<4611686018427387904): -9223372036854775808≤x∧x<9223372036854775808:=by omega
theorem zC {x y:Int} (hx:x.natAbs<4611686018427387904) (hy:y.natAbs<4611686018427387904):(x*y).natAbs<85070591730234615865843651857942052864:=by
 rw[Int.natAbs_mul]
 exact Nat.lt_of_le_of_lt (Nat.mul_le_mul (Nat.le_of_lt_succ (n:=4611686018427387903) hx) (Nat.le_of_lt_succ (n:=4611686018427387903) hy)) (by decide)
theorem vt {m w:Nat} {T:Nat→Nat→Int} {d:Int} {β:Nat→Nat} {r c:Nat} {x3 x4:List Int} {x5 x6:Int} (h:PivOk m w T d r c) :
  aF (gT m w T) d (g9 m β) x3 x4 x5 x6 (r:Int) (c:Int)=some (gT m w (nJ T d r c),sg (T r c)*T r c,g9 m (upd β r c),x3,x4,x5,x6,()):=by
 obtain ⟨hm,hw,hr,hc,hd,hb,hq,hqb⟩:=h
 unfold aF gt
 simp only[fJ,gd hr,iP,fH hr,aO,bt hc,a8,z9,z7 hr,z7 hc,cQ (show Nat.succ r≤m from hr),cQ (show Nat.succ c≤w from hc),cT,F9 hr,fZ]
 refine cD m (by omega) (fun i=>((i:Int),gT m w (mid T d r c i 0),PUnit.unit)) _ (by rw[im fun k l _ _=>GG];rfl) (fun again i hi=>?_) (fun again=>?_)
 ·simp only[fJ,gd hi,iP,fH hi,aO,bt hc,a8,z9,z7 hi,z7 hc,z7 (show (i:Int)<m by omega),cQ (show Nat.succ i≤m from hi),cQ (show Nat.succ c≤w from hc),cT,rZ hi,aY (show i≤1000000 by omega)]
  by_cases e:i=r
  ·rw[z7 (show (i:Int)=r by omega),cond_true]
   congr 3
   refine im fun k l _ _=>?_
   unfold mid
   by_cases c1:k≠r∧(k<i∨(k=i∧l<0))
   ·rw[if_pos c1,if_pos (by omega)]
   ·rw[if_neg c1,if_neg (by omega)]
  ·rw[z8 (show ¬ (i:Int)=r by omega),cond_false]
   refine mO w (by omega) (fun j=>((j:Int),gT m w (mid T d r c i j),PUnit.unit)) _ (fun again2 j hj=>?_) (fun again2=>?_)
   ·have t1:=o5 (iy (hb i j hi hj)) (iy (hb r c hr hc))
    have t2:=o5 (iy (hb i c hi hc)) (iy (hb r j hr hj))
    have t3:=D6 (zC (hb i j hi hj) (hb r c hr hc)) (zC (hb i c hi hc) (hb r j hr hj))
    have t4:bE (nC (T i j*T r c - T i c*T r j)) d=some (piv T d r c i j):=by
     rw[Int.mul_comm (T i j),←hq i j hi e hj]
     exact HA hd.1 (by omega) (by have:=hqb i j hi e hj;omega)
    simp only[fJ,gd hi,gd hr,iP,fH hi,fH hr,aO,bt hc,bt hj,a8,z9,z7 hi,z7 hj,z7 hr,z7 hc,z7 (show (j:Int)<w by omega),
     cQ (show Nat.succ j≤w from hj),cQ (show Nat.succ r≤m from hr),cT,Lz,zY (Nat.le_refl j),zY (Nat.zero_le c),t1,t2,t3,t4,aa,aY (show j≤1000000 by omega)]
    congr 3
    refine Da hi hj fun k l hk hl=>?_
    unfold mid
    by_cases c0:k=i∧l=j
    ·rw[if_pos c0,if_pos (by omega),c0.1,c0.2]
    ·rw[if_neg c0]
     by_cases c1:k≠r∧(k<i∨(k=i∧l<j))
     ·rw[if_pos c1,if_pos (by omega)]
     ·rw[if_neg c1,if_neg (by omega)]
   ·simp only[gd hi,iP,fH hi,aO,z8 (show ¬ (w:Int)<w by omega),cF]
    congr 3
    refine im fun k l hk hl=>?_
    unfold mid
    by_cases c1:k≠r∧(k<i∨(k=i∧l<w))
    ·rw[if_pos c1,if_pos (by omega)]
    ·rw[if_neg c1,if_neg (by omega)]
 ·simp only[fJ,z8 (show ¬ (m:Int)<m by omega),cF]
  by_cases hneg:T r c<0
  ·rw[z7 hneg,cond_true]
   refine cD m (by omega) (fun i=>((i:Int),gT m w (yq (mid T d r c m 0) i 0),PUnit.unit)) _ (by rw[im fun k l _ _=>Fo];rfl) (fun again i hi=>?_) (fun again=>?_)
   ·simp only[fJ,gd hi,iP,fH hi,aO,a8,z9,z7 hi,z7 (show (i:Int)<m by omega),cQ (show Nat.succ i≤m from hi),cT,rZ hi,aY (show i≤1000000 by omega)]
    refine mO w (by omega) (fun j=>((j:Int),gT m w (yq (mid T d r c m 0) i j),PUnit.unit)) _ (fun again2 j hj=>?_) (fun again2=>?_)
    ·have hbb:(mid T d r c m 0 i j).natAbs<4611686018427387904:=by
      unfold mid
      split
      ·rename_i hh;exact hqb i j hi hh.1 hj
      ·exact hb i j hi hj
     simp only[fJ,gd hi,iP,fH hi,aO,bt hj,a8,z9,z7 hi,z7 hj,z7 (show (j:Int)<w by omega),
      cQ (show Nat.succ j≤w from hj),cT,Es (Nat.le_refl j),aY (show j≤1000000 by omega),aU (show -9223372036854775808≤0 - mid T d r c m 0 i j by omega) (by omega)]
     congr 3
     refine Da hi hj fun k l hk hl=>?_
     unfold yq
     by_cases c0:k=i∧l=j
     ·rw[if_pos c0,if_pos (by omega),c0.1,c0.2]
      omega
     ·rw[if_neg c0]
      by_cases c1:k<i∨(k=i∧l<j)
      ·rw[if_pos c1,if_pos (by omega)]
      ·rw[if_neg c1,if_neg (by omega)]
    ·simp only[gd hi,iP,fH hi,aO,z8 (show ¬ (w:Int)<w by omega),cF]
     congr 3
     refine im fun k l hk hl=>?_
     unfold yq
     by_cases c1:k<i∨(k=i∧l<w)
     ·rw[if_pos c1,if_pos (by omega)]
     ·rw[if_neg c1,if_neg (by omega)]
   ·have hrc:=hb r c hr hc
    simp only[fJ,z8 (show ¬ (m:Int)<m by omega),cF,aU (show -9223372036854775808≤0 - T r c by omega) (by omega)]
    have e1:sg (T r c)= -1:=by unfold sg;rw[if_pos hneg]
    congr 2
    ·refine im fun k l hk hl=>?_
     unfold yq mid nJ
     rw[if_pos (by omega),e1]
     by_cases c0:k=r
     ·rw[if_neg (by omega),if_pos c0,c0];omega
     ·rw[if_pos (by omega),if_neg c0];omega
    ·rw[e1]
     congr 1
     omega
  ·rw[z8 hneg,cond_false]
   have e1:sg (T r c)=1:=by unfold sg;rw[if_neg hneg]
   congr 2
   ·refine im fun k l hk hl=>?_
    unfold mid nJ
    rw[e1,Int.one_mul]
    by_cases c0:k=r
    ·rw[if_neg (by omega),if_pos c0,c0]
    ·rw[if_pos (by omega),if_neg c0]
   ·rw[e1,Int.one_mul]
end Go.Proofs.YtfknoaclabfdlaaGreat

namespace Go.Proofs.YtfknoaclabfdlaaGreat
open Tryz Dn Dn.Sh
theorem qc {x y z p q r:Int} (hp:0<p) (hq:0<q) (hr:0<r) (h1:x*q≤y*p) (h2:y*r≤z*q):x*r≤z*p:=by
 refine wB hq ?_
 have a1:=z11 h1 (Int.le_of_lt hr)
 have a2:=z11 h2 (Int.le_of_lt hp)
 calc q*(x*r)=x*q*r:=by grind
  _≤y*p*r:=a1
  _=y*r*p:=by grind
  _≤z*q*p:=a2
  _=q*(z*p):=by grind
theorem Hl {x y z p q r:Int} (hp:0<p) (hq:0<q) (hr:0<r) (h1:x*q≤y*p) (h2:y*r≤z*q) (h:x*r=z*p):x*q=y*p∧y*r=z*q:=by
 have h3:=qc hq hr hp h2 (by rw[h];exact Int.le_refl _)
 have h4:=qc (x:=z) (y:=x) (z:=y) (p:=r) (q:=p) (r:=q) hr hp hq (by rw[h];exact Int.le_refl _) h1
 exact ⟨Int.le_antisymm h1 h3,Int.le_antisymm h2 h4⟩
theorem vp {m w:Nat} {T:Nat→Nat→Int} {d:Int} {β:Nat→Nat} {c R:Nat} {x1:Int} {x3 x4:List Int} {x5:Int} (hm:m≤1000) (hc:c<w) (hR:R<w) (hb:∀i j,i<m→j<w→(T i j).natAbs<4611686018427387904) :
  ∃b,aA (pW m w T,x1,g9 m β,x3,x4,x5,(R:Int)) (c:Int)=some b∧((b= -1∧∀i,i<m→T i c≤0)∨∃r:Nat,b=r∧Dn.Leaves m R ⟨T,d,β⟩ c r):=by
 unfold aA fL
 refine Nt (fun (x:Int×Int×PUnit)=>∃i:Nat,i≤m∧x.2.1=i∧((x.1= -1∧∀k,k<i→T k c≤0)∨∃r:Nat,x.1=r∧Dn.Leaves i R ⟨T,d,β⟩ c r)) _ (fun x=>((m:Int) - x.2.1).toNat) ?_ ⟨0,by omega,rfl,.inl ⟨rfl,fun k hk=>by omega⟩⟩ (by simp only;omega)
 rintro ⟨b,_,_⟩ ⟨i,hi,rfl,hI⟩
 simp only at hI
 by_cases hlt:i<m
 ·have gR:=mE (w:=w) (T:=T) hlt
  have ext:∀r,Dn.Leaves i R ⟨T,d,β⟩ c r→(0<T i c→T r R*T i c≤T i R*T r c∧(T r R*T i c=T i R*T r c→β r≤β i))→Dn.Leaves (i+1) R ⟨T,d,β⟩ c r:=fun r h hn=>by
   refine ⟨by have:=h.lt;omega,h.pos,fun k hk hp=>?_,fun k hk hp he=>?_⟩
   ·by_cases e:k=i
    ·subst e;exact (hn hp).1
    ·exact h.le k (by omega) hp
   ·by_cases e:k=i
    ·subst e;exact (hn hp).2 he
    ·exact h.tie k (by omega) hp he
  right
  by_cases hpos:T i c≤0
  ·refine ⟨(b,((i+1:Nat):Int),PUnit.unit),⟨i+1,by omega,rfl,?_⟩,by simp only;omega,fun rec=>?_⟩
   ·rcases hI with ⟨h1,h2⟩ | ⟨r,h1,h2⟩
    ·exact .inl ⟨h1,fun k hk=>by
      by_cases e:k=i
      ·rw[e];exact hpos
      ·exact h2 k (by omega)⟩
    ·exact .inr ⟨r,h1,ext r h2 fun h=>by omega⟩
   ·simp only[gb,a8,z9,z7 hlt,z7 (show (i:Int)<m by omega),gR,aO,bt hc,z7 hc,z7 hpos,cT,aY (show i≤1000000 by omega)]
  ·rcases hI with ⟨h1,h2⟩ | ⟨r,h1,h2⟩
   ·refine ⟨((i:Int),((i+1:Nat):Int),PUnit.unit),⟨i+1,by omega,rfl,.inr ⟨i,rfl,⟨by omega,show 0<T i c by omega,fun k hk hp=>?_,fun k hk hp _=>?_⟩⟩⟩,by simp only;omega,fun rec=>?_⟩
    ·by_cases e:k=i
     ·subst e;exact Int.le_refl _
     ·have h3:=h2 k (by omega)
      have hp:0<T k c:=hp
      omega
    ·by_cases e:k=i
     ·subst e;exact Nat.le_refl _
     ·have h3:=h2 k (by omega)
      have hp:0<T k c:=hp
      omega
    ·simp only[gb,a8,z9,z7 hlt,z7 (show (i:Int)<m by omega),gR,aO,bt hc,z7 hc,z8 hpos,z7 (show b<0 by omega),cT,cF,aY (show i≤1000000 by omega)]
   ·subst h1
    have hr:r<m:=by have:=h2.lt;omega
    have gr:=mE (w:=w) (T:=T) hr
    have t1:=o5 (iy (hb i R hlt hR)) (iy (hb r c hr hc))
    have t2:=o5 (iy (hb r R hr hR)) (iy (hb i c hlt hc))
    have hpr:0<T r c:=h2.pos
    refine ⟨(if T i R*T r c<T r R*T i c∨(T i R*T r c=T r R*T i c∧β i<β r) then (i:Int) else (r:Int),((i+1:Nat):Int),PUnit.unit),⟨i+1,by omega,rfl,.inr ?_⟩,by simp only;omega,fun rec=>?_⟩
    ·simp only
     by_cases hq:T i R*T r c<T r R*T i c∨(T i R*T r c=T r R*T i c∧β i<β r)
     ·rw[if_pos hq]
      have hle:T i R*T r c≤T r R*T i c:=by rcases hq with h | h<;>omega
      have hpi:0<T i c:=by omega
      refine ⟨i,rfl,⟨by omega,hpi,fun k hk hp=>?_,fun k hk hp he=>?_⟩⟩
      ·have hp:0<T k c:=hp
       by_cases e:k=i
       ·subst e;exact Int.le_refl _
       ·exact qc hpi hpr hp hle (h2.le k (by omega) hp)
      ·have hp:0<T k c:=hp
       have he:T i R*T k c=T k R*T i c:=he
       by_cases e:k=i
       ·subst e;exact Nat.le_refl _
       ·obtain ⟨e1,e2⟩:=Hl hpi hpr hp hle (h2.le k (by omega) hp) he
        have h3:β r≤β k:=h2.tie k (by omega) hp e2
        show β i≤β k
        rcases hq with h | h<;>omega
     ·rw[if_neg hq]
      have h3:=fun h=>hq (.inl h)
      refine ⟨r,rfl,ext r h2 fun hp=>⟨by omega,fun he=>?_⟩⟩
      have h4:=fun h=>hq (.inr ⟨he.symm,h⟩)
      omega
    ·simp only[gb,a8,z9,z7 hlt,z7 hr,z7 (show (i:Int)<m by omega),gR,gr,aO,bt hc,bt hR,z7 hc,z7 hR,z8 hpos,z8 (show ¬ (r:Int)<0 by omega),cT,cF,aY (show i≤1000000 by omega),
      t1,t2,aa,I8,fZ,i8 hlt,i8 hr]
     by_cases c1:T i R*T r c<T r R*T i c
     ·rw[if_pos c1,if_pos (.inl c1)]
      generalize decide ((β i:Int)<β r)=bb
      cases bb<;>rfl
     ·by_cases c2:T i R*T r c=T r R*T i c
      ·rw[if_neg c1,if_pos c2]
       by_cases c3:β i<β r
       ·rw[if_pos (.inr ⟨c2,c3⟩),z7 (show (β i:Int)<β r by omega)]
        rfl
       ·rw[if_neg (by rintro (h | h)<;>omega),z8 (show ¬ (β i:Int)<β r by omega)]
        rfl
      ·rw[if_neg c1,if_neg c2,if_neg (by rintro (h | h)<;>omega)]
       generalize decide ((β i:Int)<β r)=bb
       cases bb<;>rfl
 ·left
  have e:i=m:=by omega
  subst e
  refine ⟨b,hI,fun rec=>?_⟩
  simp only[gb,z8 (show ¬ (i:Int)<i by omega),cF]
end Go.Proofs.YtfknoaclabfdlaaGreat

namespace Go.Proofs.YtfknoaclabfdlaaGreat
open Tryz Dn Dn.Sh
theorem gY {n:Nat} {f:Nat→Int} {B:Int} (h:∀i,i<n→ -B≤f i∧f i≤B): -(n*B)≤sz n f∧sz n f≤n*B:=by
 induction n with
 | zero=>simp[sz]
 | succ n ih =>
  have h1:=ih fun i hi=>h i (by omega)
  have h2:=h n (by omega)
  simp only[sz]
  rw[show ((n+1:Nat):Int)*B=n*B+B by rw[show ((n+1:Nat):Int)=(n:Int)+1 by omega,Int.add_mul,Int.one_mul]]
  omega
theorem pD {m w:Nat} {T:Nat→Nat→Int} {β:Nat→Nat} {N j:Nat} {x1 x6:Int} {x3 x4:List Int} (hm:m≤1000) (hj:j<w) (hb:∀i,i<m→ -1125899906842624≤T i j∧T i j≤1125899906842624) :
  av (pW m w T,x1,g9 m β,x3,x4,(N:Int),x6) (j:Int)=some (sz m fun i=>du N (β i)*T i j):=by
 unfold av eQ
 have hterm:∀i,i<m→ -1125899906842624≤du N (β i)*T i j∧du N (β i)*T i j≤1125899906842624:=fun i hi=>by
  have:=hb i hi
  unfold du
  split<;>omega
 refine mO m (by omega) (fun i=>(sz i (fun k=>du N (β k)*T k j),(i:Int),PUnit.unit)) _ (fun again i hi=>?_) (fun again=>?_)
 ·have h1:=gY (n:=i) (f:=fun k=>du N (β k)*T k j) (B:=1125899906842624) fun k hk=>hterm k (by omega)
  have h2:=hterm i hi
  have hi2:(i:Int)≤1000:=by omega
  have h3:(i:Int)*1125899906842624≤1000*1125899906842624:=z11 hi2 (by omega)
  simp only[gb,fZ,a8,z9,z7 hi,z7 (show (i:Int)<m by omega),mE hi,i8 hi,aO,bt hj,z7 hj,cT,aY (show i≤1000000 by omega)]
  have hT:=hb i hi
  by_cases e:N≤β i
  ·have e1:du N (β i)*T i j=T i j:=by unfold du;rw[if_pos e];omega
   rw[z7 (show (β i:Int)≥N by omega),cond_true,aU (by omega) (by omega)]
   simp only[sz,e1]
  ·have e1:du N (β i)*T i j=0:=by unfold du;rw[if_neg e];omega
   rw[z8 (show ¬ (β i:Int)≥N by omega),cond_false]
   simp only[sz,e1,Int.add_zero]
 ·simp only[gb,z8 (show ¬ (m:Int)<m by omega),cF]
def ig (cs:List Int) (j:Nat):Int:=cs.getD j 0
theorem tC {M:List (List Int)} {x1:Int} {x2 x3 cs:List Int} {x5 x6:Int} {j:Nat}:aI (M,x1,x2,x3,cs,x5,x6) (j:Int)=some (ig cs j):=by
 unfold ig
 simp only[aI,gF,a8,z9]
 by_cases h:j<cs.length
 ·rw[z7 h,z7 (show (j:Int)<cs.length by omega)];rfl
 ·rw[z8 (show ¬ (j:Int)<cs.length by omega),cond_false,List.getD_eq_getElem?_getD,List.getElem?_eq_none (by omega)];rfl
theorem Bt {m w:Nat} {T:Nat→Nat→Int} {d:Int} {β:Nat→Nat} {j:Nat} {x3 cs:List Int} {x5 x6:Int} (hm:m≤1000) (hj:j<w) (hd: -1125899906842624≤ig cs j*d∧ig cs j*d≤1125899906842624)
  (hb:∀i,i<m→ -1125899906842624≤ig cs (β i)*T i j∧ig cs (β i)*T i j≤1125899906842624) :
  bx (pW m w T,d,g9 m β,x3,cs,x5,x6) (j:Int)=some (zr m (ig cs) ⟨T,d,β⟩ j):=by
 unfold bx fK
 rw[tC,obN]
 refine cD m (by omega) (fun i=>(ig cs j*d - sz i (fun k=>ig cs (β k)*T k j),(i:Int),PUnit.unit)) _ ?_ (fun again i hi=>?_) (fun again=>?_)
 ·simp only[sz,Int.sub_zero]
  rw[aU (by omega) (by omega)]
  rfl
 ·have h1:=gY (n:=i) (f:=fun k=>ig cs (β k)*T k j) (B:=1125899906842624) fun k hk=>hb k (by omega)
  have h2:=hb i hi
  have hi2:(i:Int)≤1000:=by omega
  have h3:(i:Int)*1125899906842624≤1000*1125899906842624:=z11 hi2 (by omega)
  simp only[gb,fZ,a8,z9,z7 hi,z7 (show (i:Int)<m by omega),mE hi,i8 hi,aO,bt hj,z7 hj,cT,aY (show i≤1000000 by omega),tC,aa]
  rw[aU (x:=ig cs (β i)*T i j) (by omega) (by omega),aU (by omega) (by omega)]
  simp only[sz]
  congr 2
  omega
 ·simp only[gb,z8 (show ¬ (m:Int)<m by omega),cF]
  rfl
end Go.Proofs.YtfknoaclabfdlaaGreat

namespace Go.Proofs.YtfknoaclabfdlaaGreat
open Tryz Dn Dn.Sh
structure Bnd (L:Lin) (Y:Lay):Prop where
 ok:Y.ok L
 m:L.m≤12
 w:Y.w L≤64
 P:L.F0*L.P≤17592186044416
theorem nQ {x:Int}:ab x=x.natAbs:=rfl
section
variable {L:Lin} {Y:Lay}
theorem Bnd.P' (h:Bnd L Y):L.P≤17592186044416:=by
 have h1:=L.F0_pos
 have h2:=L.P_pos
 have h3:1*L.P≤L.F0*L.P:=z11 h1 (by omega)
 have:=h.P
 omega
theorem Bnd.tab (h:Bnd L Y) {T:Nat→Nat→Int} {d:Int} {β:Nat→Nat} (ht:Tb L.m (Y.w L) (Y.M L) T d β):(0<d∧d≤17592186044416)∧∀i j,i<L.m→j<Y.w L→(T i j).natAbs≤17592186044416:=by
 obtain ⟨h1,h2⟩:=oG h.ok ht
 have h3:=h.P'
 refine ⟨⟨ht.dpos,by omega⟩,fun i j hi hj=>?_⟩
 have:=h2 i j hi hj
 rw[nQ] at this
 omega
theorem G5 (j:Nat):(bR L j).natAbs≤L.F0 - 1:=by
 unfold bR Lin.F0
 have h0:0≤sz L.n fun j=>ab (L.c j):=gi fun j _=>bB _
 split
 ·rename_i hj
  have h1:(sz L.n fun i=>if i=j then ab (L.c j) else 0)≤sz L.n fun j=>ab (L.c j):=my fun i _=>by
   by_cases e:i=j
   ·rw[if_pos e,e];exact Int.le_refl _
   ·rw[if_neg e];exact bB _
  rw[eG hj fun i _ hne=>if_neg hne,if_pos rfl,nQ] at h1
  omega
 ·simp only[Int.natAbs_zero]
  omega
theorem Bnd.cost (h:Bnd L Y) {x:Int} (hx:(x.natAbs:Int)≤L.P) (j:Nat): -17592186044416≤bR L j*x∧bR L j*x≤17592186044416:=by
 have h1:=G5 (L:=L) j
 have h2:((bR L j*x).natAbs:Int)≤L.F0*L.P:=by
  rw[Int.natAbs_mul,Int.natCast_mul]
  refine Int.le_trans (Int.mul_le_mul (show ((bR L j).natAbs:Int)≤L.F0 by omega) hx (by omega) (by omega)) (Int.le_refl _)
 have:=h.P
 omega
theorem Bnd.tabP (h:Bnd L Y) {T:Nat→Nat→Int} {d:Int} {β:Nat→Nat} (ht:Tb L.m (Y.w L) (Y.M L) T d β):(d.natAbs:Int)≤L.P∧∀i j,i<L.m→j<Y.w L→((T i j).natAbs:Int)≤L.P:=by
 obtain ⟨h1,h2⟩:=oG h.ok ht
 have:=ht.dpos
 exact ⟨by omega,fun i j hi hj=>h2 i j hi hj⟩
theorem Mm (x:Int) (y:Int):(sg x*y).natAbs=y.natAbs:=by unfold sg;split<;>omega
theorem Bnd.piv (h:Bnd L Y) {T:Nat→Nat→Int} {d:Int} {β:Nat→Nat} (ht:Tb L.m (Y.w L) (Y.M L) T d β) {r c:Nat} (hr:r<L.m) (hc:c<Y.w L) (he:T r c≠0):PivOk L.m (Y.w L) T d r c:=by
 obtain ⟨h1,h2⟩:=h.tab ht
 obtain ⟨h3,h4⟩:=h.tab (ht.step hr hc he)
 have:=h.m
 have:=h.w
 refine ⟨by omega,by omega,hr,hc,by omega,fun i j hi hj=>by have:=h2 i j hi hj;omega,fun i j hi hne hj=>jI ht hr hi (Ne.symm hne) hc hj,fun i j hi hne hj=>?_⟩
 have h5:=h4 i j hi hj
 unfold nJ at h5
 rw[if_neg hne,Mm] at h5
 omega
def AZ (L:Lin) (Y:Lay) (S:Sx):Prop:=∀i,i<L.m→Y.N≤S.β i→(∀j,j<Y.N→S.T i j=0)∧S.T i (Y.R L)=0
theorem AZ.art (S:Sx) (h:AZ L Y S):zh L.m Y.N S (Y.R L):=fun i hi hN=>(h i hi hN).2
theorem AZ.col (S:Sx) (h:AZ L Y S) {q:Nat} (hq:q<Y.N):zh L.m Y.N S q:=fun i hi hN=>(h i hi hN).1 q hq
def kw (S:Sx) (r c:Nat):Sx:=⟨nJ S.T S.d r c,sg (S.T r c)*S.T r c,upd S.β r c⟩
theorem zt {m w:Nat} {S:Sx} {r c:Nat} (hp:0<S.T r c):StepAt m w S (kw S r c) r c:=by
 have e:sg (S.T r c)=1:=by unfold sg;rw[if_neg (by omega)]
 refine ⟨fun i j _ _=>?_,?_,fun i _=>rfl⟩
 ·show nJ S.T S.d r c i j=_
  unfold nJ
  rw[e,Int.one_mul]
 ·show sg (S.T r c)*S.T r c=_
  rw[e,Int.one_mul]
theorem AZ.step {S:Sx} (h:AZ L Y S) {r c:Nat} (hc:c<Y.N):AZ L Y (kw S r c):=fun i hi hN=>by
 have hb:(kw S r c).β i=upd S.β r c i:=rfl
 rw[hb] at hN
 unfold upd at hN
 by_cases e:i=r
 ·rw[if_pos e] at hN;omega
 ·rw[if_neg e] at hN
  obtain ⟨h1,h2⟩:=h i hi hN
  have hT:∀j,(kw S r c).T i j=sg (S.T r c)*Dn.piv S.T S.d r c i j:=fun j=>by
   show nJ S.T S.d r c i j=_
   unfold nJ
   rw[if_neg e]
  have hz:∀j,S.T i j=0→Dn.piv S.T S.d r c i j=0:=fun j hj=>by
   unfold Dn.piv
   rw[hj,h1 c hc,Int.mul_zero,Int.zero_mul,Int.sub_zero,Int.zero_ediv]
  exact ⟨fun j hj=>by rw[hT,hz j (h1 j hj),Int.mul_zero],by rw[hT,hz _ h2,Int.mul_zero]⟩
abbrev l4 (L:Lin) (Y:Lay) (x3 cs:List Int) (S:Sx):(List Nat×List (Option (List Int)))×Int×List Int×List Int×List Int×Int×Int×PUnit:=(gT L.m (Y.w L) S.T,S.d,g9 L.m S.β,x3,cs,(Y.N:Int),((Y.R L:Nat):Int),PUnit.unit)
theorem CT (h:Bnd L Y) (hp:(Y.w L) ^ L.m≤1180591620717411303424) {x3 cs:List Int} (hcs:∀j,ig cs j=bR L j) {S:Sx} (hv:Y.Val L S) (ha:AZ L Y S) :
  ∃S' ok,bp (gT L.m (Y.w L) S.T) S.d (g9 L.m S.β) x3 cs (Y.N:Int) ((Y.R L:Nat):Int)=some (gT L.m (Y.w L) S'.T,S'.d,g9 L.m S'.β,x3,cs,(Y.N:Int),((Y.R L:Nat):Int),ok,())∧Y.Val L S'∧AZ L Y S' ∧
   (ok=true→∀j,j<Y.N→0≤zr L.m (bR L) S' j)∧(ok=false→∃q,q<Y.N∧zr L.m (bR L) S' q<0∧∀i,i<L.m→S'.T i q≤0):=by
 have hcs':ig cs=bR L:=funext hcs
 have hm:=h.m
 have hw:=h.w
 have hN:Y.N≤Y.R L:=by unfold Lay.R;omega
 have hRw:Y.R L<Y.w L:=by unfold Lay.R Lay.w;omega
 unfold bp fG
 have fin:∀{x:Option ((List Nat×List (Option (List Int)))×Int×List Int×List Int×List Int×Int×Int×Bool×Unit)},(∃r,x=some r∧∃S' ok,r=(gT L.m (Y.w L) S'.T,S'.d,g9 L.m S'.β,x3,cs,(Y.N:Int),((Y.R L:Nat):Int),ok,PUnit.unit)∧Y.Val L S'∧AZ L Y S' ∧
   (ok=true→∀j,j<Y.N→0≤zr L.m (bR L) S' j)∧(ok=false→∃q,q<Y.N∧zr L.m (bR L) S' q<0∧∀i,i<L.m→S'.T i q≤0))→∃S' ok,x=some (gT L.m (Y.w L) S'.T,S'.d,g9 L.m S'.β,x3,cs,(Y.N:Int),((Y.R L:Nat):Int),ok,())∧Y.Val L S'∧AZ L Y S' ∧
   (ok=true→∀j,j<Y.N→0≤zr L.m (bR L) S' j)∧(ok=false→∃q,q<Y.N∧zr L.m (bR L) S' q<0∧∀i,i<L.m→S'.T i q≤0):=by
  rintro x ⟨r,h1,S',ok,rfl,h3⟩
  exact ⟨S',ok,h1,h3⟩
 refine fin (J8 (γ:=Sx) (I:=fun (S:Sx) x=>x=l4 L Y x3 cs S∧Y.Val L S∧AZ L Y S)
  (Q:=fun r=>∃S' ok,r=(gT L.m (Y.w L) S'.T,S'.d,g9 L.m S'.β,x3,cs,(Y.N:Int),((Y.R L:Nat):Int),ok,PUnit.unit)∧Y.Val L S'∧AZ L Y S' ∧
   (ok=true→∀j,j<Y.N→0≤zr L.m (bR L) S' j)∧(ok=false→∃q,q<Y.N∧zr L.m (bR L) S' q<0∧∀i,i<L.m→S'.T i q≤0))
  (μ:=fun S=>left L.m (Y.w L) Y.N (Y.R L) (Y.M L) (bR L) S) ?_ (s:=S) ⟨rfl,hv,ha⟩ (Nat.lt_of_lt_of_le (DV (by unfold Lay.w;omega) S) hp))
 rintro S _ ⟨rfl,hv,ha⟩
 obtain ⟨hd,hb⟩:=h.tabP hv.tb
 have hred:∀j,j<Y.N→bx (pW L.m (Y.w L) S.T,S.d,g9 L.m S.β,x3,cs,(Y.N:Int),((Y.R L:Nat):Int)) (j:Int)=some (zr L.m (bR L) S j):=fun j hj=>by
  have hjw:j<Y.w L:=by omega
  have:=Bt (m:=L.m) (w:=Y.w L) (T:=S.T) (d:=S.d) (β:=S.β) (j:=j) (x3:=x3) (cs:=cs) (x5:=(Y.N:Int)) (x6:=((Y.R L:Nat):Int)) (by omega) hjw
   (by rw[hcs'];have:=h.cost hd j;omega) (fun i hi=>by rw[hcs'];have:=h.cost (hb i j hi hjw) (S.β i);omega)
  rw[this,hcs']
 rcases qQ Y.N (fun j=>decide (zr L.m (bR L) S j<0)) with hnone | ⟨q,hq,hneg,hleast⟩
 ·left
  refine ⟨_,⟨S,true,rfl,hv,ha,fun _ j hj=>by have:=of_decide_eq_false (hnone j hj);omega,fun e=>by cases e⟩,fun rec=>?_⟩
  refine mO Y.N (by omega) (fun j=>((-1:Int),(j:Int),PUnit.unit)) _ (fun again j hj=>?_) (fun again=>?_)
  ·simp only[aW,cT,z7 (show (j:Int)<Y.N by omega),show decide ((-1:Int)<0)=true from rfl,fD,fF,hred j hj,aa,hnone j hj,cF,aY (show j≤1000000 by omega)]
  ·simp only[aW,cT,cF,z8 (show ¬ (Y.N:Int)<Y.N by omega),show decide ((-1:Int)<0)=true from rfl]
 ·have hneg:=z12 hneg
  have hqw:q<Y.w L:=by omega
  have hent:Enters L.m Y.N (bR L) S q:=⟨hq,hneg,fun j hj=>by have:=of_decide_eq_false (hleast j hj);omega⟩
  have hbb:∀i j,i<L.m→j<Y.w L→(S.T i j).natAbs<4611686018427387904:=fun i j hi hj=>by have:=(h.tab hv.tb).2 i j hi hj;omega
  obtain ⟨b,hl1,hl2⟩:=vp (m:=L.m) (w:=Y.w L) (T:=S.T) (d:=S.d) (β:=S.β) (c:=q) (R:=Y.R L) (x1:=S.d) (x3:=x3) (x4:=cs) (x5:=(Y.N:Int)) (by omega) hqw hRw hbb
  have search:∀{R:Type} {F:(Int×Int×PUnit→Option R)→Int×Int×PUnit→Option R} {res:Option R},(∀again j,j<q→F again ((-1:Int),(j:Int),PUnit.unit)=again ((-1:Int),((j+1:Nat):Int),PUnit.unit)) →
    (∀again,F again ((-1:Int),(q:Int),PUnit.unit)=again ((q:Int),((q+1:Nat):Int),PUnit.unit))→(∀again,F again ((q:Int),((q+1:Nat):Int),PUnit.unit)=res)→lpK (Int×Int×PUnit) R F ((-1:Int),(0:Int),PUnit.unit)=res:=fun h1 h2 h3=>by
   refine cD (q+1) (by omega) (fun j=>if j≤q then ((-1:Int),(j:Int),PUnit.unit) else ((q:Int),(j:Int),PUnit.unit)) _ (by rw[if_pos (by omega)];rfl) (fun again j hj=>?_) (fun again=>?_)
   ·by_cases e:j=q
    ·subst e
     rw[if_pos (by omega),if_neg (by omega)]
     exact h2 again
    ·rw[if_pos (by omega),if_pos (by omega)]
     exact h1 again j (by omega)
   ·rw[if_neg (by omega)]
    exact h3 again
  rcases hl2 with ⟨e,hno⟩ | ⟨r,e,hlv⟩
  ·subst e
   left
   refine ⟨_,⟨S,false,rfl,hv,ha,fun e=>(by cases e),fun _=>⟨q,hq,hneg,hno⟩⟩,fun rec=>?_⟩
   refine search (fun again j hj=>?_) (fun again=>?_) (fun again=>?_)
   ·simp only[aW,cT,z7 (show (j:Int)<Y.N by omega),show decide ((-1:Int)<0)=true from rfl,fD,fF,hred j (by omega),aa,hleast j hj,cF,aY (show j≤1000000 by omega)]
   ·simp only[aW,cT,z7 (show (q:Int)<Y.N by omega),show decide ((-1:Int)<0)=true from rfl,fD,fF,hred q hq,aa,z7 hneg,aY (show q≤1000000 by omega)]
   ·simp only[aW,cT,z8 (show ¬ (q:Int)<0 by omega),jt,Bool.and_false,cF,fD,fF,hl1,aa,show decide ((-1:Int)<0)=true from rfl]
  ·subst e
   right
   have hpr:0<S.T r q:=hlv.pos
   have hr:=hlv.lt
   have hs:=zt (m:=L.m) (w:=Y.w L) hpr
   refine ⟨kw S r q,l4 L Y x3 cs (kw S r q),⟨rfl,hv.stepAt hRw hqw (by omega) hlv hs,ha.step hq⟩,w9 (Lay.art h.ok).1 (Lay.art h.ok).2 hN hRw hv ⟨hent,hlv,hs⟩,fun rec=>?_⟩
   refine search (fun again j hj=>?_) (fun again=>?_) (fun again=>?_)
   ·simp only[aW,cT,z7 (show (j:Int)<Y.N by omega),show decide ((-1:Int)<0)=true from rfl,fD,fF,hred j (by omega),aa,hleast j hj,cF,aY (show j≤1000000 by omega)]
   ·simp only[aW,cT,z7 (show (q:Int)<Y.N by omega),show decide ((-1:Int)<0)=true from rfl,fD,fF,hred q hq,aa,z7 hneg,aY (show q≤1000000 by omega)]
   ·simp only[aW,cT,z8 (show ¬ (q:Int)<0 by omega),jt,Bool.and_false,cF,fD,fF,hl1,aa,z8 (show ¬ (r:Int)<0 by omega),vt (h.piv hv.tb hr hqw (show S.T r q≠0 by omega))]
    rfl
end
end Go.Proofs.YtfknoaclabfdlaaGreat

namespace Go.Proofs.YtfknoaclabfdlaaGreat
open Tryz Dn Dn.Sh
section
variable {L:Lin} {Y:Lay}
theorem Val.flat {S:Sx} (hv:Y.Val L S) {r c:Nat} (hr:r<L.m) (hc:c<Y.N) (he:S.T r c≠0) (h0:S.T r (Y.R L)=0):Y.Val L (kw S r c):=by
 have hcw:c<Y.w L:=by unfold Lay.w;omega
 have hRw:Y.R L<Y.w L:=by unfold Lay.R Lay.w;omega
 have hd:=hv.tb.dpos
 refine ⟨hv.tb.step hr hcw he,fun i hi=>?_,fun i hi=>?_⟩
 ·show 0≤nJ S.T S.d r c i (Y.R L)
  unfold nJ
  by_cases e:i=r
  ·rw[if_pos e,h0,Int.mul_zero];exact Int.le_refl _
  ·rw[if_neg e]
   have h1:=jI hv.tb hr hi (Ne.symm e) hcw hRw
   rw[h0,Int.mul_zero,Int.sub_zero] at h1
   have h2:0≤sg (S.T r c)*S.T r c*S.T i (Y.R L):=Int.mul_nonneg (Int.le_of_lt (FN he)) (hv.feas i hi)
   rw[Int.mul_assoc,←h1] at h2
   have h3:sg (S.T r c)*(S.d*Dn.piv S.T S.d r c i (Y.R L))=S.d*(sg (S.T r c)*Dn.piv S.T S.d r c i (Y.R L)):=by grind
   rw[h3] at h2
   exact Int.nonneg_of_mul_nonneg_right h2 hd
 ·show upd S.β r c i≠_
  unfold upd
  split
  ·unfold Lay.R;omega
  ·exact hv.ne i hi
theorem Ap {T:Nat→Nat→Int} {d:Int} {r c i j:Nat} (h1:T i j=0) (h2:T i c=0∨T r j=0):Dn.piv T d r c i j=0:=by
 unfold Dn.piv
 rw[h1,Int.mul_zero]
 rcases h2 with h | h
 ·rw[h,Int.zero_mul,Int.sub_zero,Int.zero_ediv]
 ·rw[h,Int.mul_zero,Int.sub_zero,Int.zero_ediv]
structure Swp (L:Lin) (Y:Lay) (i:Nat) (S:Sx):Prop where
 val:Y.Val L S
 right:∀k,k<L.m→Y.N≤S.β k→S.T k (Y.R L)=0
 rows:∀k,k<L.m→k<i→Y.N≤S.β k→∀j,j<Y.N→S.T k j=0
theorem Swp.step {i:Nat} {S:Sx} (h:Swp L Y i S) {j:Nat} (hi:i<L.m) (hj:j<Y.N) (hN:Y.N≤S.β i) (he:S.T i j≠0):Swp L Y i (kw S i j):=by
 have h0:=h.right i hi hN
 have up:∀k,k≠i→(kw S i j).β k=S.β k:=fun k hk=>by
  show upd S.β i j k=_
  unfold upd
  rw[if_neg hk]
 have ui:(kw S i j).β i=j:=by
  show upd S.β i j i=_
  unfold upd
  rw[if_pos rfl]
 have hT:∀k l,k≠i→(kw S i j).T k l=sg (S.T i j)*Dn.piv S.T S.d i j k l:=fun k l hk=>by
  show nJ S.T S.d i j k l=_
  unfold nJ
  rw[if_neg hk]
 refine ⟨Val.flat h.val hi hj he h0,fun k hk hb=>?_,fun k hk hlt hb l hl=>?_⟩
 ·have e:k≠i:=fun e=>by rw[e,ui] at hb;omega
  rw[up k e] at hb
  rw[hT k _ e,Ap (h.right k hk hb) (.inr h0),Int.mul_zero]
 ·have e:k≠i:=by omega
  rw[up k e] at hb
  rw[hT k _ e,Ap (h.rows k hk hlt hb l hl) (.inl (h.rows k hk hlt hb j hj)),Int.mul_zero]
def yY (L:Lin) (Y:Lay) (x3 cs:List Int) (o:Option ((List Nat×List (Option (List Int)))×Int×List Int×List Int×List Int×Int×Int×Bool×Unit)):Prop :=
 ∃S' ok,o=some (gT L.m (Y.w L) S'.T,S'.d,g9 L.m S'.β,x3,cs,(Y.N:Int),((Y.R L:Nat):Int),ok,PUnit.unit)∧Y.Val L S' ∧
   (ok=true→AZ L Y S')∧(ok=false→(∀j,j<Y.N→0≤zr L.m (du Y.N) S' j)∧0<sz L.m fun i=>du Y.N (S'.β i)*S'.T i (Y.R L))
theorem Aq (h:Bnd L Y) (hp:(Y.w L) ^ L.m≤1180591620717411303424) {x3 cs:List Int} {S:Sx} (hv:Y.Val L S) :
  yY L Y x3 cs (aL (gT L.m (Y.w L) S.T) S.d (g9 L.m S.β) x3 cs (Y.N:Int) ((Y.R L:Nat):Int)):=by
 have hm:=h.m
 have hw:=h.w
 have hN:Y.N≤Y.R L:=by unfold Lay.R;omega
 have hRw:Y.R L<Y.w L:=by unfold Lay.R Lay.w;omega
 unfold aL gv
 refine tF (γ:=Sx) (I:=fun (S:Sx) x=>x=l4 L Y x3 cs S∧Y.Val L S)
  (Q:=yY L Y x3 cs)
  (μ:=fun S=>left L.m (Y.w L) Y.N (Y.R L) (Y.M L) (du Y.N) S) ?_ (s:=S) ⟨rfl,hv⟩ (Nat.lt_of_lt_of_le (DV (by unfold Lay.w;omega) S) hp)
 rintro rec S _ ⟨rfl,hv⟩
 obtain ⟨hd,hb⟩:=h.tab hv.tb
 have hbb:∀i j,i<L.m→j<Y.w L→(S.T i j).natAbs<4611686018427387904:=fun i j hi hj=>by have:=hb i j hi hj;omega
 have hart:∀j,j<Y.w L→av (pW L.m (Y.w L) S.T,S.d,g9 L.m S.β,x3,cs,(Y.N:Int),((Y.R L:Nat):Int)) (j:Int)=some (sz L.m fun i=>du Y.N (S.β i)*S.T i j):=fun j hj =>
  pD (by omega) hj fun i hi=>by have:=hb i j hi hj;omega
 have hz:∀j,j<Y.N→zr L.m (du Y.N) S j= - sz L.m fun i=>du Y.N (S.β i)*S.T i j:=fun j hj=>by
  unfold zr
  rw[show du Y.N j=0 from if_neg (by omega),Int.zero_mul,Int.zero_sub]
 rcases qQ Y.N (fun j=>decide ((sz L.m fun i=>du Y.N (S.β i)*S.T i j)>0)) with hnone | ⟨q,hq,hneg,hleast⟩
 ·left
  have search:∀{R:Type} {F:(Int×Int×PUnit→Option R)→Int×Int×PUnit→Option R} {Q:Option R→Prop},(∀again j,j<Y.N→F again ((-1:Int),(j:Int),PUnit.unit)=again ((-1:Int),((j+1:Nat):Int),PUnit.unit)) →
    (∃res,Q res∧∀again,F again ((-1:Int),(Y.N:Int),PUnit.unit)=res)→Q (lpK (Int×Int×PUnit) R F ((-1:Int),(0:Int),PUnit.unit)):=fun {R} {F} {Q} h1 h3=>by
   obtain ⟨res,h4,h5⟩:=h3
   have e:lpK (Int×Int×PUnit) R F ((-1:Int),(0:Int),PUnit.unit)=res:=cD Y.N (by omega) (fun j=>((-1:Int),(j:Int),PUnit.unit)) res rfl h1 h5
   rw[e]
   exact h4
  refine search (Q:=yY L Y x3 cs) (fun again j hj=>?_) ?_
  ·simp only[aW,cT,z7 (show (j:Int)<Y.N by omega),show decide ((-1:Int)<0)=true from rfl,fD,fF,hart j (by omega),aa,hnone j hj,cF,aY (show j≤1000000 by omega)]
  ·simp only[aW,cT,cF,z8 (show ¬ (Y.N:Int)<Y.N by omega),show decide ((-1:Int)<0)=true from rfl,fD,fF,hart _ hRw,aa]
   have hzr:∀j,j<Y.N→0≤zr L.m (du Y.N) S j:=fun j hj=>by
    rw[hz j hj]
    have:=of_decide_eq_false (hnone j hj)
    omega
   by_cases hpos:(sz L.m fun i=>du Y.N (S.β i)*S.T i (Y.R L))>0
   ·rw[z7 hpos]
    simp only[cT]
    exact ⟨_,⟨S,false,rfl,hv,fun e=>(by cases e),fun _=>⟨hzr,hpos⟩⟩,fun _=>rfl⟩
   ·rw[z8 hpos]
    simp only[cF]
    refine ⟨_,?_,fun _=>rfl⟩
    have hnn:∀i,i<L.m→0≤du Y.N (S.β i)*S.T i (Y.R L):=fun i hi=>Int.mul_nonneg (by unfold du;split<;>omega) (hv.feas i hi)
    have hS:Swp L Y 0 S:=by
     refine ⟨hv,fun k hk hNk=>?_,fun k _ h0=>by omega⟩
     have h1:(sz L.m fun i=>if i=k then du Y.N (S.β k)*S.T k (Y.R L) else 0)≤sz L.m fun i=>du Y.N (S.β i)*S.T i (Y.R L):=my fun i hi=>by
      by_cases e:i=k
      ·rw[if_pos e,e];exact Int.le_refl _
      ·rw[if_neg e];exact hnn i hi
     rw[eG hk fun i _ hne=>if_neg hne,if_pos rfl] at h1
     have h2:=hnn k hk
     have h3:du Y.N (S.β k)=1:=if_pos hNk
     rw[h3,Int.one_mul] at h1 h2
     omega
    refine tF (γ:=Nat×Sx) (I:=fun g x=>x=((g.1:Int),l4 L Y x3 cs g.2)∧g.1≤L.m∧Swp L Y g.1 g.2)
     (Q:=yY L Y x3 cs)
     (μ:=fun g=>L.m - g.1) ?_ (s:=(0,S)) ⟨rfl,by omega,hS⟩ (by simp only;omega)
    rintro rec2 ⟨i,S⟩ _ ⟨rfl,hi,hS⟩
    simp only at hi hS
    by_cases hlt:i<L.m
    ·right
     simp only[fJ,z7 (show (i:Int)<L.m by omega),cT]
     have inner:∀{R:Type} {F:(Int×(List Nat×List (Option (List Int)))×Int×List Int×List Int×List Int×Int×Int×PUnit→Option R)→Int×(List Nat×List (Option (List Int)))×Int×List Int×List Int×List Int×Int×Int×PUnit→Option R} {k:(Int×(List Nat×List (Option (List Int)))×Int×List Int×List Int×List Int×Int×Int×PUnit→Option R)},
       (∀again (j:Nat) S,Swp L Y i S→j≤Y.N→(j<Y.N→Y.N≤S.β i→S.T i j=0→F again ((j:Int),l4 L Y x3 cs S)=again (((j+1:Nat):Int),l4 L Y x3 cs S))∧(j<Y.N→Y.N≤S.β i→S.T i j≠0→F again ((j:Int),l4 L Y x3 cs S)=again (((j+1:Nat):Int),l4 L Y x3 cs (kw S i j))) ∧
        (¬ (j<Y.N∧Y.N≤S.β i)→F again ((j:Int),l4 L Y x3 cs S)=k (((i+1:Nat):Int),l4 L Y x3 cs S))) →
       ∃S',Swp L Y (i+1) S'∧lpK _ R F ((0:Int),l4 L Y x3 cs S)=k (((i+1:Nat):Int),l4 L Y x3 cs S'):=fun {R} {F} {k} hF=>by
      refine tF (γ:=Nat×Sx) (I:=fun g x=>x=((g.1:Int),l4 L Y x3 cs g.2)∧g.1≤Y.N∧Swp L Y i g.2∧(Y.N≤g.2.β i→∀l,l<g.1→g.2.T i l=0))
       (Q:=fun o=>∃S',Swp L Y (i+1) S'∧o=k (((i+1:Nat):Int),l4 L Y x3 cs S')) (μ:=fun g=>Y.N - g.1) ?_ (s:=(0,S)) ⟨rfl,by omega,hS,fun _ l hl=>by omega⟩ (by simp only;omega)
      rintro rec3 ⟨j,S⟩ _ ⟨rfl,hj,hS,hz⟩
      simp only at hj hS hz
      obtain ⟨f1,f2,f3⟩:=hF rec3 j S hS hj
      by_cases hc:j<Y.N∧Y.N≤S.β i
      ·right
       by_cases h0:S.T i j=0
       ·refine ⟨(j+1,S),_,⟨rfl,by simp only;omega,hS,fun hN l hl=>?_⟩,by simp only;omega,f1 hc.1 hc.2 h0⟩
        simp only at hl
        by_cases e:l=j
        ·rw[e];exact h0
        ·exact hz hN l (by omega)
       ·refine ⟨(j+1,kw S i j),_,⟨rfl,by simp only;omega,hS.step hlt hc.1 hc.2 h0,fun hN=>?_⟩,by simp only;omega,f2 hc.1 hc.2 h0⟩
        have e:(kw S i j).β i=j:=by
         show upd S.β i j i=_
         unfold upd
         rw[if_pos rfl]
        rw[e] at hN
        omega
      ·left
       refine ⟨S,⟨hS.val,hS.right,fun k hk hlt' hN l hl=>?_⟩,f3 hc⟩
       by_cases e:k=i
       ·subst e
        exact hz hN l (by omega)
       ·exact hS.rows k hk (by omega) hN l hl
     have fin:∀{o},(∃S',Swp L Y (i+1) S'∧o=rec2 (((i+1:Nat):Int),l4 L Y x3 cs S'))→∃(g:Nat×Sx) (y:_),(y=((g.1:Int),l4 L Y x3 cs g.2)∧g.1≤L.m∧Swp L Y g.1 g.2)∧L.m - g.1<L.m - i∧o=rec2 y:=by
      rintro o ⟨S',h1,h2⟩
      exact ⟨(i+1,S'),_,⟨rfl,by simp only;omega,h1⟩,by simp only;omega,h2⟩
     refine fin (inner (fun again j S hS hj=>⟨fun c1 c2 c3=>?_,fun c1 c2 c3=>?_,fun c1=>?_⟩))
     ·have hjw:j<Y.w L:=by omega
      simp only[l4,z7 (show (j:Int)<Y.N by omega),fZ,a8,z9,z7 hlt,cQ (show Nat.succ i≤L.m from hlt),i8 hlt,z7 (show (S.β i:Int)≥Y.N by omega),Bool.not_true,Bool.or_true,Bool.and_self,cT,fJ,gd hlt,iP,fH hlt,aO,bt hjw,z7 hjw,cQ (show Nat.succ j≤Y.w L from hjw),z7 c3,cF,aY (show j≤1000000 by omega)]
     ·have hjw:j<Y.w L:=by omega
      simp only[l4,z7 (show (j:Int)<Y.N by omega),fZ,a8,z9,z7 hlt,cQ (show Nat.succ i≤L.m from hlt),i8 hlt,z7 (show (S.β i:Int)≥Y.N by omega),Bool.not_true,Bool.not_false,Bool.or_true,Bool.and_self,cT,fJ,gd hlt,iP,fH hlt,aO,bt hjw,z7 hjw,cQ (show Nat.succ j≤Y.w L from hjw),z8 c3,cF,aY (show j≤1000000 by omega),
       vt (h.piv hS.val.tb hlt hjw c3),aa]
      rfl
     ·by_cases c2:j<Y.N
      ·simp only[l4,z7 (show (j:Int)<Y.N by omega),fZ,a8,z9,z7 hlt,cQ (show Nat.succ i≤L.m from hlt),i8 hlt,z8 (show ¬ (S.β i:Int)≥Y.N by omega),Bool.not_true,Bool.or_true,Bool.and_self,cT,cF,aY (show i≤1000000 by omega)]
      ·simp only[l4,z8 (show ¬ (j:Int)<Y.N by omega),Bool.not_false,Bool.true_or,Bool.and_self,cT,cF,aY (show i≤1000000 by omega)]
    ·left
     have e:i=L.m:=by omega
     subst e
     simp only[fJ,z8 (show ¬ (L.m:Int)<L.m by omega),cF]
     exact ⟨S,true,rfl,hS.val,fun _ k hk hN=>⟨hS.rows k hk hk hN,hS.right k hk hN⟩,fun e=>by cases e⟩
 ·have hneg:=z12 hneg
  have hqw:q<Y.w L:=by omega
  have hent:Enters L.m Y.N (du Y.N) S q:=⟨hq,by rw[hz q hq];omega,fun j hj=>by rw[hz j (by omega)];have:=of_decide_eq_false (hleast j hj);omega⟩
  obtain ⟨b,hl1,hl2⟩:=vp (m:=L.m) (w:=Y.w L) (T:=S.T) (d:=S.d) (β:=S.β) (c:=q) (R:=Y.R L) (x1:=S.d) (x3:=x3) (x4:=cs) (x5:=(Y.N:Int)) (by omega) hqw hRw hbb
  rcases hl2 with ⟨e,hno⟩ | ⟨r,e,hlv⟩
  ·exfalso
   have h1:(sz L.m fun i=>du Y.N (S.β i)*S.T i q)≤sz L.m fun _=>0:=my fun i hi=>by
    have:=hno i hi
    unfold du
    split<;>omega
   rw[fE (f:=fun _=>0) fun _ _=>rfl] at h1
   omega
  ·subst e
   right
   have hpr:0<S.T r q:=hlv.pos
   have hr:=hlv.lt
   have hs:=zt (m:=L.m) (w:=Y.w L) hpr
   refine ⟨kw S r q,l4 L Y x3 cs (kw S r q),⟨rfl,hv.stepAt hRw hqw (by omega) hlv hs⟩,w9 (Lay.art h.ok).1 (Lay.art h.ok).2 hN hRw hv ⟨hent,hlv,hs⟩,?_⟩
   refine cD (q+1) (by omega) (fun j=>if j≤q then ((-1:Int),(j:Int),PUnit.unit) else ((q:Int),(j:Int),PUnit.unit)) _ (by rw[if_pos (by omega)];rfl) (fun again j hj=>?_) (fun again=>?_)
   ·by_cases e:j=q
    ·subst e
     rw[if_pos (by omega),if_neg (by omega)]
     simp only[aW,cT,z7 (show (j:Int)<Y.N by omega),show decide ((-1:Int)<0)=true from rfl,fD,fF,hart j hqw,aa,z7 hneg,aY (show j≤1000000 by omega)]
    ·rw[if_pos (by omega),if_pos (by omega)]
     simp only[aW,cT,z7 (show (j:Int)<Y.N by omega),show decide ((-1:Int)<0)=true from rfl,fD,fF,hart j (by omega),aa,hleast j (by omega),cF,aY (show j≤1000000 by omega)]
   ·rw[if_neg (by omega)]
    simp only[aW,cT,z8 (show ¬ (q:Int)<0 by omega),jt,Bool.and_false,cF,fD,fF,hl1,aa,show decide ((-1:Int)<0)=true from rfl,vt (h.piv hv.tb hr hqw (show S.T r q≠0 by omega))]
    rfl
open Tryz Dn Dn.Sh
def an (p:Pg):Lin:=⟨p.1.length,p.2.length,fun k j=>(p.2.getD k rw0).1.getD j 0,fun k=>(p.2.getD k rw0).2.2,fun j=>p.1.getD j 0,fun k=>(p.2.getD k rw0).2.1⟩
def eP (p:Pg):Nat→Nat
 | 0=>0
 | k+1=>eP p k+if (p.2.getD k rw0).2.1=3 then 0 else 1
def aq (p:Pg):Lay:=⟨p.1.length+eP p p.2.length,fun k=>p.1.length+eP p k,fun k=>if (p.2.getD k rw0).2.2<0 then -1 else 1⟩
theorem pb {p:Pg}:∀k,eP p k≤k
 | 0=>Nat.le_refl _
 | k+1=>by
  have:=pb (p:=p) k
  simp only[eP]
  split<;>omega
theorem tJ {p:Pg} {k:Nat}:∀{l:Nat},k<l→(p.2.getD k rw0).2.1≠3→eP p k<eP p l
 | 0,h,_=>by omega
 | l+1,h,h3=>by
  simp only[eP]
  by_cases e:k=l
  ·subst e
   rw[if_neg h3];omega
  ·have:=tJ (l:=l) (by omega) h3
   split<;>omega
theorem kJ {p:Pg} (hv:ValidP p):(aq p).ok (an p):=by
 have row:∀k,k<p.2.length→p.2.getD k rw0 ∈ p.2:=fun k hk=>by rw[bf hk];exact List.getElem_mem _
 refine ⟨Nat.le_add_right _ _,fun k hk=>?_,fun k hk h3=>⟨Nat.le_add_right _ _,?_⟩,fun k l hk hl h3 h4 e=>?_,fun k _=>?_,fun k _=>?_⟩
 ·have:=hv.kind _ (row k hk)
  show (p.2.getD k rw0).2.1=1∨(p.2.getD k rw0).2.1=2∨(p.2.getD k rw0).2.1=3
  omega
 ·have:=tJ (p:=p) (k:=k) (l:=p.2.length) hk h3
  show p.1.length+eP p k<p.1.length+eP p p.2.length
  omega
 ·have e:p.1.length+eP p k=p.1.length+eP p l:=e
  rcases Nat.lt_trichotomy k l with h | h | h
  ·have:=tJ (p:=p) h h3;omega
  ·exact h
  ·have:=tJ (p:=p) h h4;omega
 ·show (if (p.2.getD k rw0).2.2<0 then (-1:Int) else 1)=1∨(if (p.2.getD k rw0).2.2<0 then (-1:Int) else 1)= -1
  split<;>omega
 ·show 0≤(if (p.2.getD k rw0).2.2<0 then (-1:Int) else 1)*(p.2.getD k rw0).2.2
  split<;>omega
theorem vm {p:Pg} (hv:ValidP p):(aq p).w (an p)≤25∧(an p).m≤6:=by
 have h1:=pb (p:=p) p.2.length
 have h2:=hv.rows
 have h3:=hv.cost.2
 refine ⟨?_,h2⟩
 show p.1.length+eP p p.2.length+p.2.length+1≤25
 omega
theorem kW {α:Type} {w:Nat} {f:Nat→α}:br w f++[f w]=br (w+1) f:=by
 unfold br
 rw[List.range_succ,List.map_append]
 rfl
theorem BM {m w:Nat} {T:Nat→Nat→Int}:cY m w T++[some (br w (T m))]=cY (m+1) w T:=by
 unfold cY
 rw[List.range_succ,List.map_append]
 rfl
theorem Ij {l:List Int} {w:Nat} (h:l.length≤w):List.take 0 (List.replicate w (0:Int))++List.take w l++List.drop (0+(List.take w l).length) (List.replicate w 0)=br w fun j=>l.getD j 0:=by
 rw[List.take_of_length_le h]
 refine List.ext_getElem (by rw[aO];simp;omega) fun i h1 h2=>?_
 rw[tI]
 have hi:i<w:=by rw[aO] at h2;exact h2
 by_cases e:i<l.length
 ·rw[bf e,List.getElem_append_left (by simp;exact e)]
  simp
 ·rw[List.getElem_append_right (by simp;omega),List.getD_eq_getElem?_getD,List.getElem?_eq_none (by omega)]
  simp
abbrev St:=Int×Int×(List Nat×List (Option (List Int)))×Int×List Int×List Int×List Int×Int×Int×PUnit
def Kg {R:Type} (p:Pg) (again:St→Option R) (x:St) (x_1:Int×List Int×PUnit):Option R :=
 let v21:List Int×PUnit:=(x_1.2.1,PUnit.unit);jnK (Int×List Int×PUnit) R (fun (x_2:Int×List Int×PUnit)=>bif inB (IntKind.wrap .i64 (x.2.2.2.2.2.2.2.1+x.2.1)) (List.length x_2.2.1) then bif Nat.ble (Nat.succ (Int.toNat (IntKind.wrap .i64 (x.2.2.2.2.2.2.2.1+x.2.1)))) (List.length x_2.2.1) then bif dt (List.length x.2.2.1.1+(1:Nat)) (24:Nat) then bif dt (List.length x.2.2.2.2.2.1+(1:Nat)) (8:Nat) then bif dt (List.length x.2.2.2.2.1+(1:Nat)) (8:Nat) then again (x_1.1,IntKind.wrap .i64 (x.2.1+(1:Int)),(x.2.2.1.1++[List.length x.2.2.1.2+(0:Nat)],x.2.2.1.2++[some (List.set x_2.2.1 (Int.toNat (IntKind.wrap .i64 (x.2.2.2.2.2.2.2.1+x.2.1))) (1:Int))]),x.2.2.2.1,x.2.2.2.2.1++[(IntKind.wrap .i64 (x.2.2.2.2.2.2.2.1+x.2.1))],x.2.2.2.2.2.1++[x_2.1],x.2.2.2.2.2.2.1,x.2.2.2.2.2.2.2.1,x.2.2.2.2.2.2.2.2.1,PUnit.unit) else none else none else none else none else none) fun (j:Int×List Int×PUnit→Option R)=>bif decide ((List.getD p.2 (Int.toNat x.2.1) ([],(0:Int),(0:Int))).2.2<(0:Int)) then lpK (Int×List Int×PUnit) R (fun (again:Int×List Int×PUnit→Option R) (x:Int×List Int×PUnit) =>
 let v25:Bool:=inB x.1 (List.length x.2.1);
 let v26:Bool:=Nat.ble (Nat.succ (Int.toNat x.1)) (List.length x.2.1);
 bif decide (x.1<(↑(List.length x_1.2.1):Int)) then bif v25 then bif v26 then bif v25 then bif v26 then again (IntKind.wrap .i64 (x.1+(1:Int)),List.set x.2.1 (Int.toNat x.1) (IntKind.wrap .i64 ((0:Int) - List.getD x.2.1 (Int.toNat x.1) (0:Int))),PUnit.unit) else none else none else none else none else j ((-1:Int),x.2.1,PUnit.unit)) ((0:Int),v21) else j ((1:Int),v21)
def KN {R:Type} (p:Pg) (again k:St→Option R) (x:St):Option R :=
 let v12:Int:=IntKind.wrap .i64 (x.1+(1:Int));
 let v13:List Int×Int×Int:=List.getD p.2 (Int.toNat x.2.1) ([],(0:Int),(0:Int));
 let v14:List Int:=List.replicate (Int.toNat (IntKind.wrap .i64 (x.2.2.2.2.2.2.2.2.1+(1:Int)))) (0:Int);
 let v15:Bool:=inB x.1 (Int.toNat (IntKind.wrap .i64 (x.2.2.2.2.2.2.2.2.1+(1:Int))));
 let v16:Bool:=Nat.ble (Nat.succ (Int.toNat x.1)) (Int.toNat (IntKind.wrap .i64 (x.2.2.2.2.2.2.2.2.1+(1:Int))));
 let v17:Int:=IntKind.wrap .i64 (x.2.2.2.2.2.2.2.1+x.2.1);
 let v18:List Int:=List.take (Int.toNat (IntKind.wrap .i64 (x.2.2.2.2.2.2.2.2.1+(1:Int)))) v13.1;
 let v19:List Int:=List.set (List.take (0:Nat) v14++v18++List.drop ((0:Nat)+List.length v18) v14) (Int.toNat x.2.2.2.2.2.2.2.2.1) v13.2.2;
 bif decide (x.2.1<(↑(List.length p.2):Int)) then bif inB x.2.1 (List.length p.2) then bif decide ((0:Int)≤IntKind.wrap .i64 (x.2.2.2.2.2.2.2.2.1+(1:Int)))&&dt (Int.toNat (IntKind.wrap .i64 (x.2.2.2.2.2.2.2.2.1+(1:Int)))) (8:Nat) then bif inB x.2.2.2.2.2.2.2.2.1 (Int.toNat (IntKind.wrap .i64 (x.2.2.2.2.2.2.2.2.1+(1:Int)))) then bif Nat.ble (Nat.succ (Int.toNat x.2.2.2.2.2.2.2.2.1)) (Int.toNat (IntKind.wrap .i64 (x.2.2.2.2.2.2.2.2.1+(1:Int)))) then jnK (Int×List Int×PUnit) R (Kg p again x) fun (j:Int×List Int×PUnit→Option R)=>bif decide (v13.2.1=(1:Int)) then bif v15 then bif v16 then j (v12,List.set v19 (Int.toNat x.1) (1:Int),PUnit.unit) else none else none else jnK (Int×List Int×PUnit) R (fun (x:Int×List Int×PUnit)=>j (x.1,x.2.1,PUnit.unit)) fun (j:Int×List Int×PUnit→Option R)=>bif decide (v13.2.1=(2:Int)) then bif v15 then bif v16 then j (v12,List.set v19 (Int.toNat x.1) (-1:Int),PUnit.unit) else none else none else j (x.1,v19,PUnit.unit) else none else none else none else none else k x
theorem Dh {p:Pg} (hv:ValidP p) {R:Type} {again:St→Option R} {i:Nat} (hi:i<p.2.length) {f:Nat→Int} {s s0:Int}
  (hf:∀k,k<(aq p).w (an p)→f k=if k=(aq p).R (an p) then (an p).b i else if (an p).kd i≠3∧k=(aq p).sl i then (if (an p).kd i=1 then 1 else -1) else (p.2.getD i rw0).1.getD k 0) :
  Kg p again (s0,(i:Int),(List.range i,cY i ((aq p).w (an p)) ((aq p).M (an p))),1,g9 i (fun k=>(aq p).N+k),br i (aq p).σ,p.1,((aq p).N:Int),(((aq p).R (an p):Nat):Int),PUnit.unit) (s,br ((aq p).w (an p)) f,PUnit.unit) =
   again (s,((i+1:Nat):Int),(List.range (i+1),cY (i+1) ((aq p).w (an p)) ((aq p).M (an p))),1,g9 (i+1) (fun k=>(aq p).N+k),br (i+1) (aq p).σ,p.1,((aq p).N:Int),(((aq p).R (an p):Nat):Int),PUnit.unit):=by
 obtain ⟨h1,h2⟩:=vm hv
 have hr:p.2.getD i rw0 ∈ p.2:=by rw[bf hi];exact List.getElem_mem _
 have hR:=hv.right _ hr
 have hl:=hv.len _ hr
 have hc:=hv.coefs _ hr
 have hn:=hv.cost.2
 have hbb:∀k,k<(aq p).w (an p)→ -1073741824≤f k∧f k≤1073741824:=fun k hk=>by
  rw[hf k hk]
  split
  ·exact z12 hR
  ·split
   ·split<;>omega
   ·by_cases e:k<(p.2.getD i rw0).1.length
    ·have:=z12 (hc ((p.2.getD i rw0).1.getD k 0) (by rw[bf e];exact List.getElem_mem _))
     omega
    ·rw[List.getD_eq_getElem?_getD,List.getElem?_eq_none (by omega)]
     simp
 obtain ⟨w,hw⟩:∃w,w=(aq p).w (an p):=⟨_,rfl⟩
 have hNi:(aq p).N+i<w:=by rw[hw];show (aq p).N+i<(aq p).N+p.2.length+1;omega
 have hNw:(aq p).N+p.2.length+1=w:=hw.symm
 have hm6:p.2.length≤6:=h2
 rw[←hw] at hf hbb h1 ⊢
 have fin:∀(σ:Int),σ=(aq p).σ i→(List.range i++[(cY i w ((aq p).M (an p))).length+0],cY i w ((aq p).M (an p))++[some ((br w fun k=>σ*f k).set ((aq p).N+i) 1)])=(List.range (i+1),cY (i+1) w ((aq p).M (an p))):=fun σ hσ=>by
  rw[me,Nat.add_zero,←List.range_succ,jY hNi,←BM]
  congr 3
  congr 1
  refine dn fun k hk=>?_
  have hok:=kJ hv
  unfold Lay.M
  rw[hf k hk,hσ]
  have hNn:(an p).n≤(aq p).N:=hok.n
  have hRe:(aq p).R (an p)=(aq p).N+p.2.length:=rfl
  have hme:(an p).m=p.2.length:=rfl
  rw[hRe,hme]
  by_cases c1:k<(an p).n
  ·rw[if_neg (by omega),if_neg (by omega),if_pos c1,if_neg]
   ·rfl
   ·rintro ⟨e1,e2⟩
    have:=(hok.sl i hi e1).1
    omega
  ·rw[if_neg c1]
   by_cases c2:k<(aq p).N
   ·rw[if_neg (by omega),if_neg (by omega),if_pos c2]
    by_cases c3:(an p).kd i≠3∧k=(aq p).sl i
    ·rw[if_pos c3,if_pos c3]
    ·rw[if_neg c3,if_neg c3,List.getD_eq_getElem?_getD,List.getElem?_eq_none (by rw[hl];exact Nat.not_lt.1 c1)]
     simp
   ·rw[if_neg c2]
    by_cases c3:k<(aq p).N+p.2.length
    ·rw[if_pos c3]
     by_cases c4:k=(aq p).N+i
     ·rw[if_pos c4,if_pos c4]
     ·rw[if_neg c4,if_neg c4,if_neg (by omega),if_neg]
      ·rw[List.getD_eq_getElem?_getD,List.getElem?_eq_none (by rw[hl];exact Nat.not_lt.1 c1)]
       simp
      ·rintro ⟨e1,e2⟩
       have:=(hok.sl i hi e1).2
       omega
    ·rw[if_neg c3,if_neg (by omega),if_pos (by omega)]
 have hadd:IntKind.wrap .i64 (((aq p).N:Int)+(i:Int))=(((aq p).N+i:Nat):Int):=by rw[aU (by omega) (by omega)];rfl
 have hg:∀{n k:Nat},n≤1000→k≤24→dt n k=true:=fun {n k} h1 h2=>fk (Nat.le_trans (Nat.mul_le_mul h1 h2) (by decide))
 have tail:∀(σ:Int),σ=(aq p).σ i→(bif inB (IntKind.wrap .i64 (((aq p).N:Int)+(i:Int))) (br w fun k=>σ*f k).length then bif Nat.ble (Nat.succ (Int.toNat (IntKind.wrap .i64 (((aq p).N:Int)+(i:Int))))) (br w fun k=>σ*f k).length then
   bif dt ((List.range i).length+1) 24 then bif dt ((br i (aq p).σ).length+1) 8 then bif dt ((g9 i fun k=>(aq p).N+k).length+1) 8 then
   again (s,IntKind.wrap .i64 ((i:Int)+1),(List.range i++[(cY i w ((aq p).M (an p))).length+0],cY i w ((aq p).M (an p))++[some ((br w fun k=>σ*f k).set (Int.toNat (IntKind.wrap .i64 (((aq p).N:Int)+(i:Int)))) 1)]),1,
    (g9 i fun k=>(aq p).N+k)++[IntKind.wrap .i64 (((aq p).N:Int)+(i:Int))],br i (aq p).σ++[σ],p.1,((aq p).N:Int),(((aq p).R (an p):Nat):Int),PUnit.unit) else none else none else none else none else none) =
   again (s,((i+1:Nat):Int),(List.range (i+1),cY (i+1) w ((aq p).M (an p))),1,g9 (i+1) (fun k=>(aq p).N+k),br (i+1) (aq p).σ,p.1,((aq p).N:Int),(((aq p).R (an p):Nat):Int),PUnit.unit):=fun σ hσ=>by
  rw[hadd,z9,fin σ hσ,aO,a8,z7 hNi,cQ hNi,List.length_range,aO,fZ,hg (by omega) (by omega),hg (by omega) (by omega),aY (show i≤1000000 by omega),hσ,kW]
  simp only[cT]
  rw[show (g9 i fun k=>(aq p).N+k)++[(((aq p).N+i:Nat):Int)]=g9 (i+1) (fun k=>(aq p).N+k) from kW (f:=fun k=>(((aq p).N+k:Nat):Int))]
 unfold Kg
 simp only[qu,z9]
 by_cases hneg:(p.2.getD i rw0).2.2<0
 ·have hs:(aq p).σ i= -1:=if_pos hneg
  rw[z7 hneg,cond_true]
  refine cD w (by omega) (fun k=>((k:Int),br w (fun j=>if j<k then -1*f j else f j),PUnit.unit)) _ ?_ (fun again2 k hk=>?_) (fun again2=>?_)
  ·rw[dn (f:=fun j=>if j<0 then -1*f j else f j) (g:=f) fun j _=>if_neg (by omega)];rfl
  ·have hb:=hbb k hk
   simp only[aO,a8,z9,z7 hk,z7 (show (k:Int)<w by omega),cQ (show Nat.succ k≤w from hk),bt hk,cT,if_neg (Nat.lt_irrefl k),aY (show k≤1000000 by omega),aU (show -9223372036854775808≤0 - f k by omega) (by omega),jY hk]
   congr 3
   refine dn fun j _=>?_
   by_cases c:j=k
   ·rw[if_pos c,if_pos (by omega),c];omega
   ·rw[if_neg c]
    by_cases c2:j<k
    ·rw[if_pos c2,if_pos (by omega)]
    ·rw[if_neg c2,if_neg (by omega)]
  ·simp only[aO,z8 (show ¬ (w:Int)<w by omega),cF]
   rw[dn (f:=fun j=>if j<w then -1*f j else f j) (g:=fun j=> -1*f j) fun j hj=>if_pos hj]
   have:=tail (-1) hs.symm
   simp only[aO] at this
   exact this
 ·have hs:(aq p).σ i=1:=if_neg hneg
  rw[z8 hneg,cond_false]
  have:=tail 1 hs.symm
  rw[dn (f:=fun j=>1*f j) (g:=f) fun j _=>Int.one_mul _] at this
  exact this
theorem Fg {p:Pg} (hv:ValidP p) {R:Type} {k:St→Option R} :
  lpK St R (fun again x=>KN p again k x) ((p.1.length:Int),(0:Int),([],[]),(1:Int),[],[],p.1,((aq p).N:Int),(((aq p).R (an p):Nat):Int),PUnit.unit) =
   k (((aq p).N:Int),(p.2.length:Int),gT p.2.length ((aq p).w (an p)) ((aq p).M (an p)),1,g9 p.2.length (fun k=>(aq p).N+k),br p.2.length (aq p).σ,p.1,((aq p).N:Int),(((aq p).R (an p):Nat):Int),PUnit.unit):=by
 obtain ⟨h1,h2⟩:=vm hv
 have hok:=kJ hv
 have hm6:p.2.length≤6:=h2
 obtain ⟨w,hw⟩:∃w,w=(aq p).w (an p):=⟨_,rfl⟩
 have hR1:(aq p).R (an p)+1=w:=by rw[hw]
 refine cD p.2.length (by omega) (fun i=>(((p.1.length+eP p i:Nat):Int),(i:Int),(List.range i,cY i ((aq p).w (an p)) ((aq p).M (an p))),1,g9 i (fun k=>(aq p).N+k),br i (aq p).σ,p.1,((aq p).N:Int),(((aq p).R (an p):Nat):Int),PUnit.unit)) _ rfl (fun again i hi=>?_) (fun again=>?_)
 ·have hr:p.2.getD i rw0 ∈ p.2:=by rw[bf hi];exact List.getElem_mem _
  have hl:=hv.len _ hr
  have hkd:=hv.kind _ hr
  have hN:p.1.length≤(aq p).N:=hok.n
  have hNR:(aq p).N+p.2.length=(aq p).R (an p):=rfl
  have hRw:(aq p).R (an p)<w:=by omega
  rw[←hw] at h1
  have hsl:(aq p).sl i=p.1.length+eP p i:=rfl
  have hcs:=pb (p:=p) i
  unfold KN
  simp only[aY (show (aq p).R (an p)≤1000000 by omega),hR1,z9,a8,z7 hi,z7 (show (i:Int)<p.2.length by omega),z7 (show (0:Int)≤(w:Nat) by omega),fk (show w*8≤140737488355328 by omega),z7 hRw,cQ (show Nat.succ ((aq p).R (an p))≤w from hRw),Bool.and_self,cT,qu,Ij (show (p.2.getD i rw0).1.length≤w by omega),jY hRw]
  by_cases k3:(p.2.getD i rw0).2.1=3
  ·have ec:eP p (i+1)=eP p i:=by simp only[eP,if_pos k3,Nat.add_zero]
   rw[ec,z8 (show ¬ (p.2.getD i rw0).2.1=1 by omega),z8 (show ¬ (p.2.getD i rw0).2.1=2 by omega)]
   simp only[cF]
   have:=Dh hv (again:=again) (s0:=((p.1.length+eP p i:Nat):Int)) (s:=((p.1.length+eP p i:Nat):Int)) hi (f:=fun k=>if k=(aq p).R (an p) then (p.2.getD i rw0).2.2 else (p.2.getD i rw0).1.getD k 0) (fun k hk=>by
    show (if k=(aq p).R (an p) then (p.2.getD i rw0).2.2 else (p.2.getD i rw0).1.getD k 0)=if k=(aq p).R (an p) then (p.2.getD i rw0).2.2 else _
    by_cases c:k=(aq p).R (an p)
    ·rw[if_pos c,if_pos c]
    ·rw[if_neg c,if_neg c,if_neg]
     rintro ⟨e,_⟩
     exact e k3)
   rw[←hw] at this
   exact this
  ·have hslN:(aq p).sl i<(aq p).N:=(hok.sl i hi k3).2
   have hslw:p.1.length+eP p i<w:=by omega
   have ec:eP p (i+1)=eP p i+1:=by simp only[eP,if_neg k3]
   rw[ec]
   have step:∀(v:Int),v=(if (an p).kd i=1 then 1 else -1)→Kg p again ((((p.1.length+eP p i:Nat):Int)),(i:Int),(List.range i,cY i ((aq p).w (an p)) ((aq p).M (an p))),1,g9 i (fun k=>(aq p).N+k),br i (aq p).σ,p.1,((aq p).N:Int),(((aq p).R (an p):Nat):Int),PUnit.unit)
     (((p.1.length+eP p i+1:Nat):Int),(br w fun k=>if k=(aq p).R (an p) then (p.2.getD i rw0).2.2 else (p.2.getD i rw0).1.getD k 0).set (p.1.length+eP p i) v,PUnit.unit)=again (((p.1.length+(eP p i+1):Nat):Int),((i+1:Nat):Int),(List.range (i+1),cY (i+1) ((aq p).w (an p)) ((aq p).M (an p))),1,g9 (i+1) (fun k=>(aq p).N+k),br (i+1) (aq p).σ,p.1,((aq p).N:Int),(((aq p).R (an p):Nat):Int),PUnit.unit):=fun v hvv=>by
    rw[jY hslw]
    have:=Dh hv (again:=again) (s0:=((p.1.length+eP p i:Nat):Int)) (s:=((p.1.length+eP p i+1:Nat):Int)) hi (f:=fun k=>if k=p.1.length+eP p i then v else if k=(aq p).R (an p) then (p.2.getD i rw0).2.2 else (p.2.getD i rw0).1.getD k 0) (fun k hk=>by
     show (if k=p.1.length+eP p i then v else if k=(aq p).R (an p) then (p.2.getD i rw0).2.2 else (p.2.getD i rw0).1.getD k 0)=if k=(aq p).R (an p) then (p.2.getD i rw0).2.2 else _
     by_cases c:k=(aq p).R (an p)
     ·rw[if_pos c,if_pos c,if_neg (by omega)]
     ·rw[if_neg c,if_neg c]
      by_cases c2:k=p.1.length+eP p i
      ·rw[if_pos c2,if_pos ⟨k3,c2⟩,hvv]
      ·rw[if_neg c2,if_neg fun h=>c2 h.2])
    rw[←hw] at this ⊢
    exact this
   by_cases k1:(p.2.getD i rw0).2.1=1
   ·have:=step 1 (if_pos (show (an p).kd i=1 from k1)).symm
    rw[←hw] at this
    rw[z7 k1]
    simp only[cT,z7 hslw,cQ (show Nat.succ (p.1.length+eP p i)≤w from hslw),aY (show p.1.length+eP p i≤1000000 by omega)]
    exact this
   ·have k2:(p.2.getD i rw0).2.1=2:=by omega
    have:=step (-1) (if_neg (show ¬ (an p).kd i=1 from k1)).symm
    rw[←hw] at this
    rw[z8 k1,z7 k2]
    simp only[cT,cF,z7 hslw,cQ (show Nat.succ (p.1.length+eP p i)≤w from hslw),aY (show p.1.length+eP p i≤1000000 by omega)]
    exact this
 ·unfold KN
  simp only[z8 (show ¬ (p.2.length:Int)<p.2.length by omega),cF]
  rfl
theorem xj {p:Pg} (hv:ValidP p) {R:Type} {F:(Int×Int×PUnit→Option R)→Int×Int×PUnit→Option R} (Q:Option R→Prop)
  (hF:∀again (i:Nat) (s:Int),i<p.2.length→F again (s,(i:Int),PUnit.unit)=bif !decide ((p.2.getD i rw0).2.1=3) then again (IntKind.wrap .i64 (s+1),((i+1:Nat):Int),PUnit.unit) else again (s,((i+1:Nat):Int),PUnit.unit))
  (hf:∀again,Q (F again (((eP p p.2.length:Nat):Int),(p.2.length:Int),PUnit.unit))):Q (lpK (Int×Int×PUnit) R F ((0:Int),(0:Int),PUnit.unit)):=by
 have hm:=hv.rows
 refine F1 Q p.2.length (by omega) (fun i=>(((eP p i:Nat):Int),(i:Int),PUnit.unit)) rfl (fun again i hi=>?_) hf
 rw[hF again i _ hi]
 have:=pb (p:=p) i
 by_cases k3:(p.2.getD i rw0).2.1=3
 ·rw[z7 k3]
  simp only[eP,if_pos k3,Nat.add_zero,Bool.not_true,cF]
 ·rw[z8 k3]
  simp only[eP,if_neg k3,Bool.not_false,cT,aY (show eP p i≤1000000 by omega)]
theorem uU {p:Pg} (hv:ValidP p) {R:Type} {k:St→Option R} (Q:Option R→Prop)
  (h:Q (k (((aq p).N:Int),(p.2.length:Int),gT p.2.length ((aq p).w (an p)) ((aq p).M (an p)),1,g9 p.2.length (fun k=>(aq p).N+k),br p.2.length (aq p).σ,p.1,((aq p).N:Int),(((aq p).R (an p):Nat):Int),PUnit.unit))) :
  Q (lpK St R (fun again x=>KN p again k x) ((p.1.length:Int),(0:Int),([],[]),(1:Int),[],[],p.1,((aq p).N:Int),(((aq p).R (an p):Nat):Int),PUnit.unit)):=by
 rw[Fg hv]
 exact h
end
end Go.Proofs.YtfknoaclabfdlaaGreat

namespace Go.Proofs.YtfknoaclabfdlaaGreat
open Tryz Dn Dn.Sh
def fac (L:Lin):Nat→Int
 | 0=>L.F0
 | k+1=>L.F k
def pp (f:Nat→Int):Nat→Int
 | 0=>1
 | n+1=>pp f n*f n
def mx (f:Nat→Int):Nat→Int
 | 0=>f 0
 | n+1=>max (mx f n) (f (n+1))
def gB (L:Lin):Prop:=pp (fac L) (L.m+1)≤17592186044416∧pp (fac L) (L.m+1)*mx (fac L) L.m≤144115188075855872
instance (L:Lin):Decidable (gB L):=by unfold gB;infer_instance
theorem xI (L:Lin) (k:Nat):1≤fac L k:=by
 cases k with
 | zero=>exact L.F0_pos
 | succ k=>exact L.F_pos k
theorem AH {f:Nat→Int}:∀{n:Nat},pp f (n+1)=f 0*pz n fun i=>f (i+1)
 | 0=>by simp[pp,pz]
 | n+1=>by
  have e:∀{n:Nat} {g:Nat→Int},pz (n+1) g=pz n g*g n:=by
   intro n
   induction n with
   | zero=>intro g;simp[pz]
   | succ n ih =>
    intro g
    have h:=ih (g:=fun i=>g (i+1))
    rw[pz,h,pz,Int.mul_assoc]
  rw[pp,AH (n:=n),e,Int.mul_assoc]
theorem OZ (L:Lin):pp (fac L) (L.m+1)=L.F0*L.P:=AH
theorem vq {f:Nat→Int} (h:∀i,1≤f i):∀n,1≤pp f n
 | 0=>by simp[pp]
 | n+1=>by
  have h1:=vq h n
  have h2:=Int.mul_le_mul h1 (h n) (by omega) (by omega)
  simp only[pp]
  omega
theorem Db {f:Nat→Int} (h:∀i,1≤f i) {n:Nat}:∀{k:Nat},pp f n≤pp f (n+k)
 | 0=>Int.le_refl _
 | k+1=>by
  have h1:=Db h (n:=n) (k:=k)
  have h2:=vq h (n+k)
  have h3:pp f (n+k)*1≤pp f (n+k)*f (n+k):=Int.mul_le_mul_of_nonneg_left (h _) (by omega)
  rw[←Nat.add_assoc]
  simp only[pp]
  omega
theorem LM {f:Nat→Int} {n:Nat}:∀{i:Nat},i≤n→f i≤mx f n:=by
 induction n with
 | zero=>intro i h;rw[show i=0 by omega];exact Int.le_refl _
 | succ n ih =>
  intro i h
  simp only[mx]
  by_cases e:i=n+1
  ·rw[e];omega
  ·have:=ih (i:=i) (by omega)
   omega
theorem LV {f:Nat→Int} {B:Int}:∀{n:Nat},(∀i,i≤n→f i≤B)→mx f n≤B
 | 0,h=>h 0 (by omega)
 | n+1,h=>by
  have h1:=LV (n:=n) fun i hi=>h i (by omega)
  have h2:=h (n+1) (by omega)
  simp only[mx]
  omega
theorem vw {l:List Int} (h:∀n ∈ l,inC n=true) (j:Nat):ab (l.getD j 0)≤1048576:=by
 rw[sY]
 by_cases e:j<l.length
 ·exact z12 (h _ (by rw[bf e];exact List.getElem_mem _))
 ·rw[List.getD_eq_getElem?_getD,List.getElem?_eq_none (by omega)]
  simp
theorem rL {l:List Int} (h:∀n ∈ l,inC n=true) {n:Nat} (hn:n≤12):0≤sz n (fun j=>ab (l.getD j 0))∧sz n (fun j=>ab (l.getD j 0))≤12582912:=by
 refine ⟨gi fun _ _=>bB _,?_⟩
 have h1:=(gY (n:=n) (f:=fun j=>ab (l.getD j 0)) (B:=1048576) fun j _=>⟨by have:=bB (l.getD j 0);omega,vw h j⟩).2
 omega
theorem Fy {p:Pg} (hv:ValidP p) {k:Nat} (hk:k≤p.2.length):fac (an p) k≤2147483648:=by
 have hn:=hv.cost.2
 cases k with
 | zero =>
  have:=rL hv.cs hn
  show 1+sz p.1.length (fun j=>ab (p.1.getD j 0))≤_
  omega
 | succ k =>
  have hr:p.2.getD k rw0 ∈ p.2:=by rw[bf (show k<p.2.length by omega)];exact List.getElem_mem _
  have h1:=rL (hv.coefs _ hr) hn
  have h2:=z12 (hv.right _ hr)
  have h3:ab (p.2.getD k rw0).2.2≤1073741824:=sY.2 h2
  show 1+ab (p.2.getD k rw0).2.2+sz p.1.length (fun j=>ab ((p.2.getD k rw0).1.getD j 0))≤_
  omega
theorem Br {l:List Int} {more:Int} (h:∀n ∈ l,inC n=true) (hl:l.length≤12) (hm:inR more=true):cE l more=some (1+ab more+sz l.length fun j=>ab (l.getD j 0)):=by
 have hm:=z12 hm
 have hma:ab more≤1073741824:=sY.2 hm
 have hma0:=bB more
 unfold cE js
 rw[qN (by omega) (by omega),obN]
 have e0:((more.natAbs:Nat):Int)=ab more:=rfl
 refine cD l.length (by omega) (fun i=>(1+ab more+sz i (fun j=>ab (l.getD j 0)),(i:Int),PUnit.unit)) _ ?_ (fun again i hi=>?_) (fun again=>?_)
 ·rw[e0,aU (x:=ab more) (by omega) (by omega),aU (by omega) (by omega)]
  simp only[sz,Int.add_zero]
  rfl
 ·have h1:=vw h i
  have h0:=bB (l.getD i 0)
  have h2:=rL h (n:=i) (by omega)
  have h3: -1048576≤l.getD i 0∧l.getD i 0≤1048576:=sY.1 h1
  have e1:((l.getD i 0).natAbs:Int)=ab (l.getD i 0):=rfl
  simp only[a8,z9,z7 hi,z7 (show (i:Int)<l.length by omega),cT,qN (show -9223372036854775808≤l.getD i 0 by omega) (by omega),aa,e1,aY (show i≤1000000 by omega)]
  rw[aU (x:=ab (l.getD i 0)) (by omega) (by omega),aU (by omega) (by omega)]
  simp only[sz]
  congr 2
  omega
 ·simp only[z8 (show ¬ (l.length:Int)<l.length by omega),cF]
theorem K6 {n:Nat} {f:Nat→Int} (hn:n≤1000):df (br (n+1) f)=some (mx f n):=by
 unfold df jj
 simp only[qu,aO,z8 (show ¬ ((n+1:Nat):Int)<1 by omega),cF,show inB (0:Int) (n+1)=true from r9 (by omega) (by omega),cT,bt (show 0<n+1 by omega)]
 refine cD n (by omega) (fun i=>(mx f i,((i+1:Nat):Int),PUnit.unit)) _ rfl (fun again i hi=>?_) (fun again=>?_)
 ·simp only[z7 (show ((i+1:Nat):Int)<(n+1:Nat) by omega),a8,z7 (show i+1<n+1 by omega),z9,cT,bt (show i+1<n+1 by omega),JC,aY (show i+1≤1000000 by omega)]
  rfl
 ·simp only[z8 (show ¬ ((n+1:Nat):Int)<(n+1:Nat) by omega),cF]
theorem BV {a b c:Int} (hc:0<c):a≤b / c↔a*c≤b:=Int.le_ediv_iff_mul_le hc
theorem CG {a b c:Int} (hc:0<c):a>b / c↔b<a*c:=Int.ediv_lt_iff_lt_mul hc
theorem qz {p:Pg} (hv:ValidP p):bV p=some (decide (gB (an p))):=by
 have hm:=hv.rows
 have hn:=hv.cost.2
 unfold bV lk
 rw[Br hv.cs hn (by decide),obN]
 obtain ⟨f,hf⟩:∃f,f=fac (an p):=⟨_,rfl⟩
 have hpos:∀i,1≤f i:=fun i=>by rw[hf];exact xI _ i
 have hsm:∀k,k≤p.2.length→f k≤2147483648:=fun k hk=>by rw[hf];exact Fy hv hk
 have hF:gB (an p)=(pp f (p.2.length+1)≤17592186044416∧pp f (p.2.length+1)*mx f p.2.length≤144115188075855872):=by rw[hf];rfl
 refine cD p.2.length (by omega) (fun i=>(br (i+1) f,(i:Int),PUnit.unit)) _ ?_ (fun again i hi=>?_) (fun again=>?_)
 ·rw[hf]
  show _=([fac (an p) 0],(0:Int),PUnit.unit)
  congr 2
 ·have hr:p.2.getD i rw0 ∈ p.2:=by rw[bf hi];exact List.getElem_mem _
  have h1:=Br (hv.coefs _ hr) (by rw[hv.len _ hr];exact hn) (hv.right _ hr)
  simp only[a8,z9,z7 hi,z7 (show (i:Int)<p.2.length by omega),cT,h1,aa,aO,fk (show (i+1+1)*8≤140737488355328 by omega),aY (show i≤1000000 by omega)]
  have e:f (i+1)=1+ab (p.2.getD i rw0).2.2+sz (p.2.getD i rw0).1.length (fun j=>ab ((p.2.getD i rw0).1.getD j 0)):=by
   rw[hf,hv.len _ hr]
   rfl
  rw[←e,kW]
 ·simp only[z8 (show ¬ (p.2.length:Int)<p.2.length by omega),cF,aO,K6 (show p.2.length≤1000 by omega),aa]
  have hmx:1≤mx f p.2.length∧mx f p.2.length≤2147483648:=⟨Int.le_trans (hpos 0) (LM (by omega)),LV hsm⟩
  have round:∀{R:Type} {a b:Option R} (i:Nat),i<p.2.length+1→(bif nzB (f i) then bif decide (pp f i>IntKind.wrap .i64 (Int.tdiv 17592186044416 (f i))) then a else b else none)=bif decide (pp f (i+1)>17592186044416) then a else b:=fun i hi=>by
   have h1:=hpos i
   have h2:=hsm i (by omega)
   rw[ly (by omega),cond_true,Int.tdiv_eq_ediv_of_nonneg (by omega)]
   have h3:0≤17592186044416 / f i:=Int.ediv_nonneg (by omega) (by omega)
   have h4:17592186044416 / f i≤17592186044416:=Int.ediv_le_self _ (by omega)
   rw[aU (by omega) (by omega),decide_eq_decide.2 (CG (a:=pp f i) (show 0<f i by omega))]
   rfl
  rcases qQ (p.2.length+1) (fun i=>decide (pp f (i+1)>17592186044416)) with hnone | ⟨q,hq,hbig,hleast⟩
  ·have hall:∀i,i≤p.2.length+1→pp f i≤17592186044416:=fun i hi=>by
    cases i with
    | zero=>simp[pp]
    | succ i=>have:=of_decide_eq_false (hnone i (by omega));omega
   refine cD (p.2.length+1) (by omega) (fun i=>(pp f i,(i:Int),PUnit.unit)) _ rfl (fun again i hi=>?_) (fun again=>?_)
   ·have h2:=hall (i+1) (by omega)
    have h3:=vq hpos (i+1)
    simp only[z7 (show (i:Int)<(p.2.length+1:Nat) by omega),a8,z7 hi,z9,bt hi,cQ (show Nat.succ i≤p.2.length+1 from hi),cT,round i hi,hnone i hi,cF,aY (show i≤1000000 by omega)]
    rw[aU (x:=pp f i*f i) (by simp only[pp] at h2 h3;omega) (by simp only[pp] at h2;omega)]
    rfl
   ·simp only[z8 (show ¬ ((p.2.length+1:Nat):Int)<(p.2.length+1:Nat) by omega),cF]
    rw[ly (by omega),cond_true,Int.tdiv_eq_ediv_of_nonneg (by omega)]
    have h3:0≤144115188075855872 / mx f p.2.length:=Int.ediv_nonneg (by omega) (by omega)
    have h4:144115188075855872 / mx f p.2.length≤144115188075855872:=Int.ediv_le_self _ (by omega)
    rw[aU (by omega) (by omega)]
    congr 1
    refine decide_eq_decide.2 ?_
    rw[BV (a:=pp f (p.2.length+1)) (show 0<mx f p.2.length by omega),hF]
    exact ⟨fun h=>⟨hall _ (by omega),h⟩,fun h=>h.2⟩
  ·have hlow:∀i,i≤q→pp f i≤17592186044416:=fun i hi=>by
    cases i with
    | zero=>simp[pp]
    | succ i=>have:=of_decide_eq_false (hleast i (by omega));omega
   refine cD q (by omega) (fun i=>(pp f i,(i:Int),PUnit.unit)) _ rfl (fun again i hi=>?_) (fun again=>?_)
   ·have h2:=hlow (i+1) (by omega)
    have h3:=vq hpos (i+1)
    simp only[z7 (show (i:Int)<(p.2.length+1:Nat) by omega),a8,z7 (show i<p.2.length+1 by omega),z9,bt (show i<p.2.length+1 by omega),cQ (show Nat.succ i≤p.2.length+1 by omega),cT,round i (by omega),hleast i hi,cF,aY (show i≤1000000 by omega)]
    rw[aU (x:=pp f i*f i) (by simp only[pp] at h2 h3;omega) (by simp only[pp] at h2;omega)]
    rfl
   ·simp only[z7 (show (q:Int)<(p.2.length+1:Nat) by omega),a8,z7 hq,z9,bt hq,cQ (show Nat.succ q≤p.2.length+1 from hq),cT,round q hq,hbig]
    congr 1
    refine (z8 ?_).symm
    rw[hF]
    rintro ⟨h1,_⟩
    have h2:=z12 hbig
    have h3:=Db hpos (n:=q+1) (k:=p.2.length - q)
    rw[show q+1+(p.2.length - q)=p.2.length+1 by omega] at h3
    omega
theorem vh {p:Pg} (hv:ValidP p) (hf:gB (an p)):Bnd (an p) (aq p):=by
 obtain ⟨h1,h2⟩:=vm hv
 refine ⟨kJ hv,by omega,by omega,?_⟩
 rw[←OZ]
 exact hf.1
theorem Ja {p:Pg} (hf:gB (an p)) {k:Nat} (hk:k≤p.2.length):(an p).F0*(an p).P*fac (an p) k≤144115188075855872:=by
 rw[←OZ]
 have h1:=LM (f:=fac (an p)) hk
 have h2:=vq (xI (an p)) ((an p).m+1)
 have h3:=Int.mul_le_mul_of_nonneg_left h1 (show 0≤pp (fac (an p)) ((an p).m+1) by omega)
 exact Int.le_trans h3 hf.2
end Go.Proofs.YtfknoaclabfdlaaGreat

namespace Go.Proofs.YtfknoaclabfdlaaGreat
noncomputable section
open Tryz Dn Dn.Sh
theorem rV {p:Pg} (j:Nat):ig p.1 j=bR (an p) j:=by
 unfold bR ig
 by_cases h:j<(an p).n
 ·rw[if_pos h];rfl
 ·rw[if_neg h,List.getD_eq_getElem?_getD,List.getElem?_eq_none (Nat.not_lt.1 h)];rfl
theorem Hw {n d:Int} (hd:d≠0) (hn:n.natAbs≤1152921504606846976) (hd2:d.natAbs≤1152921504606846976):r0 (CI n d)=(prQ ((n:Rat) / d),0,()):=by
 obtain ⟨m1,m2,m3⟩:=DK (s:=decide (n<0) !=decide (d<0)) (n:=n.natAbs) (d:=d.natAbs) (by omega)
 obtain ⟨m4,m5⟩:=Dv (s:=decide (n<0) !=decide (d<0)) m2 m3
 have hf:dz (CI n d):=by
  unfold dz CI
  rw[m1,m4,m5]
  have a1:n.natAbs / Nat.gcd n.natAbs d.natAbs≤n.natAbs:=Nat.div_le_self _ _
  have a2:d.natAbs / Nat.gcd n.natAbs d.natAbs≤d.natAbs:=Nat.div_le_self _ _
  refine ⟨?_,by rw[←m5] at *;omega⟩
  unfold sgn
  generalize n.natAbs / Nat.gcd n.natAbs d.natAbs=p at *
  split<;>omega
 unfold r0
 rw[if_pos hf,y5 hd]
theorem rE {n d:Int} (hd:d≠0) (hn:n.natAbs≤1152921504606846976) (hd2:d.natAbs≤1152921504606846976):dz ((n:Rat) / d):=by
 have h:=Hw hd hn hd2
 rw[y5 hd] at h
 rcases je ((n:Rat) / d) with ⟨h1,_⟩ | ⟨_,h2⟩
 ·exact h1
 ·rw[h2] at h
  exact absurd (show (5:Int)=0 from congrArg (fun x:Fq×Int×Unit=>x.2.1) h) (by decide)
theorem tP {M:List (List Int)} {d n:Int} {x2 x3 cs:List Int} {x5 x6:Int} (hd:0<d∧d≤17592186044416) (hn:n.natAbs≤1152921504606846976):aG (M,d,x2,x3,cs,x5,x6) n=some (prQ ((n:Rat) / (d:Rat))):=by
 simp only[aG,gJ,Lh (show -9223372036854775808≤n by omega) (by omega) (show -9223372036854775808≤d by omega) (by omega),aa,if_neg (show ¬ d=0 by omega)]
 rw[y5 (by omega)]
 unfold r0
 rw[if_pos (rE (by omega) hn (by omega))]
theorem JH {n:Nat}:List.replicate n (0:Int)=br n fun _=>0:=by
 refine List.ext_getElem (by rw[aO];simp) fun i h1 h2=>?_
 rw[tI,List.getElem_replicate]
theorem xy {p:Pg} (k:Nat) (x:Int):((aq p).σ k*x).natAbs=x.natAbs:=by
 show ((if (p.2.getD k rw0).2.2<0 then (-1:Int) else 1)*x).natAbs=_
 split<;>omega
theorem Az {m w:Nat} {T:Nat→Nat→Int}:((gT m w T).1.all fun x=>eC (cY m w T) x)=true:=fD
theorem zz {m w:Nat} {T:Nat→Nat→Int}:(gT m w T).1.map (fun x=>ah (cY m w T) x)=pW m w T:=fF
abbrev xL (p:Pg) (S:Sx):List Fq:=br p.1.length fun j=>prQ (yZ (an p).m ((aq p).R (an p)) S j)
abbrev yL (p:Pg) (wc:Nat→Int) (S:Sx):List Fq:=br p.2.length fun k=>prQ (n6 (an p).m (aq p).N wc S (aq p).σ k)
def PH (p:Pg) (S:Sx):Int:=sz (an p).m fun i=>bR (an p) (S.β i)*S.T i ((aq p).R (an p))
abbrev Cq (p:Pg) (S:Sx):Rat:=(PH p S:Rat) / (S.d:Rat)
structure Infeas (p:Pg) (S:Sx):Prop where
 val:(aq p).Val (an p) S
 zr:∀j,j<(aq p).N→0≤zr (an p).m (du (aq p).N) S j
 pos:0<sz (an p).m fun i=>du (aq p).N (S.β i)*S.T i ((aq p).R (an p))
structure ga (p:Pg) (S:Sx) (q:Nat):Prop where
 val:(aq p).Val (an p) S
 az:AZ (an p) (aq p) S
 lt:q<(aq p).N
 neg:zr (an p).m (bR (an p)) S q<0
 no:∀i,i<(an p).m→S.T i q≤0
structure Opt (p:Pg) (S:Sx):Prop where
 val:(aq p).Val (an p) S
 az:AZ (an p) (aq p) S
 zr:∀j,j<(aq p).N→0≤zr (an p).m (bR (an p)) S j
abbrev wq:Fq×List Fq×List Fq:=((0,0),[],[])
def uz (p:Pg) (o:Option ((Fq×List Fq×List Fq)×Int×Unit)):Prop :=
 (∃S,Infeas p S∧o=some (wq,22,()))∨(∃S q,ga p S q∧o=some (wq,21,()))∨∃S,Opt p S∧o=some ((prQ (Cq p S),xL p S,yL p (bR (an p)) S),0,())
theorem obQ {T R:Type} {Q:Option R→Prop} {o:Option T} {t:T} {k:T→Option R} (h:o=some t) (hk:Q (k t)):Q (af o k):=by
 rw[h]
 exact hk
theorem IA {p:Pg} (hv:ValidP p) (hf:gB (an p)):uz p (aK p):=by
 have hB:=vh hv hf
 obtain ⟨hw25,hm6'⟩:=vm hv
 have hm6:p.2.length≤6:=hm6'
 have hn:=hv.cost.2
 have hok:=kJ hv
 have hpow:(aq p).w (an p) ^ (an p).m≤1180591620717411303424:=Nat.le_trans (Nat.pow_le_pow_left (show _≤64 by omega) _) (Nat.le_trans (Nat.pow_le_pow_right (by omega) hm6') (by decide))
 have hcnt:=pb (p:=p) p.2.length
 have hNe:IntKind.wrap .i64 ((p.1.length:Int)+(eP p p.2.length:Nat))=((aq p).N:Int):=by rw[aU (by omega) (by omega)];rfl
 have hRe:IntKind.wrap .i64 (((aq p).N:Int)+(p.2.length:Int))=(((aq p).R (an p):Nat):Int):=by
  have:(aq p).N=p.1.length+eP p p.2.length:=rfl
  rw[aU (by omega) (by omega)];rfl
 unfold aK hO
 rw[kU,obN,gC.2 hv]
 simp only[Bool.not_true,cF]
 rw[qz hv,obN,z7 hf]
 simp only[Bool.not_true,cF]
 refine xj hv (uz p) (fun again i s hi=>?_) (fun again=>?_)
 ·simp only[z7 (show (i:Int)<p.2.length by omega),a8,z7 hi,z9,cT,aY (show i≤1000000 by omega)]
 simp only[z8 (show ¬ (p.2.length:Int)<p.2.length by omega),cF,aX,fX,fk (show (0+p.1.length)*8≤140737488355328 by omega),cT,aa,hNe,hRe]
 refine uU hv (uz p) ?_
 obtain ⟨S,ok,h1,hvS,h2,h3⟩:=Aq hB hpow (x3:=br p.2.length (aq p).σ) (cs:=p.1) (Lay.first hok)
 refine obQ (Q:=uz p) h1 ?_
 cases ok with
 | false =>
  simp only[Bool.not_false,cT]
  exact .inl ⟨S,⟨hvS,(h3 rfl).1,(h3 rfl).2⟩,rfl⟩
 | true =>
  simp only[Bool.not_true,cF]
  obtain ⟨S,ok,h1,hvS,haS,h2,h3⟩:=CT hB hpow (x3:=br p.2.length (aq p).σ) rV hvS (h2 rfl)
  refine obQ (Q:=uz p) h1 ?_
  cases ok with
  | false =>
   simp only[Bool.not_false,cT]
   obtain ⟨q,e1,e2,e3⟩:=h3 rfl
   exact .inr (.inl ⟨S,q,⟨hvS,haS,e1,e2,e3⟩,rfl⟩)
  | true =>
   simp only[Bool.not_true,cF,z9,z7 (show (0:Int)≤(p.1.length:Nat) by omega),fk (show p.1.length*8≤140737488355328 by omega),Bool.and_self,cT,JH]
   refine .inr (.inr ⟨S,⟨hvS,haS,h2 rfl⟩,?_⟩)
   obtain ⟨⟨d1,d2⟩,hb⟩:=hB.tab hvS.tb
   obtain ⟨_,hbP⟩:=hB.tabP hvS.tb
   have hRw:(aq p).R (an p)<(aq p).w (an p):=by unfold Lay.R Lay.w;omega
   have hm:(an p).m=p.2.length:=rfl
   have hcR:∀i,i<(an p).m→ -17592186044416≤bR (an p) (S.β i)*S.T i ((aq p).R (an p))∧bR (an p) (S.β i)*S.T i ((aq p).R (an p))≤17592186044416:=fun i hi=>hB.cost (hbP i _ hi hRw) _
   have hTR:∀i,i<(an p).m→ -17592186044416≤S.T i ((aq p).R (an p))∧S.T i ((aq p).R (an p))≤17592186044416:=fun i hi=>by have:=hb i _ hi hRw;omega
   refine cD (an p).m (by omega) (fun i=>(sz i (fun k=>bR (an p) (S.β k)*S.T k ((aq p).R (an p))),(i:Int),br p.1.length (fun j=>sz i fun k=>if S.β k=j then S.T k ((aq p).R (an p)) else 0),PUnit.unit)) _ rfl (fun again i hi=>?_) (fun again=>?_)
   ·have hiR:=hcR i hi
    have hs:=gY (n:=i) (f:=fun k=>bR (an p) (S.β k)*S.T k ((aq p).R (an p))) (B:=17592186044416) fun k hk=>hcR k (by omega)
    have h3:(i:Int)*17592186044416≤6*17592186044416:=z11 (by omega) (by omega)
    simp only[fZ,a8,z9,z7 hi,z7 (show (i:Int)<(an p).m by omega),cQ (show Nat.succ i≤(an p).m from hi),i8 hi,cT,Az,zz,tC,rV,aa,fJ,gd hi,iP,fH hi,aO,bt hRw,z7 hRw,cQ (show Nat.succ ((aq p).R (an p))≤(aq p).w (an p) from hRw),aY (show i≤1000000 by omega)]
    rw[aU (x:=bR (an p) (S.β i)*S.T i ((aq p).R (an p))) (by omega) (by omega),aU (by omega) (by omega)]
    by_cases c:S.β i<p.1.length
    ·simp only[z7 (show (S.β i:Int)<p.1.length by omega),z7 c,cQ (show Nat.succ (S.β i)≤p.1.length from c),cT,jY c]
     congr 3
     congr 1
     refine dn fun j _=>?_
     by_cases e:j=S.β i
     ·subst e
      rw[if_pos rfl]
      simp only[sz]
      rw[fE fun k hk=>if_neg fun e=>by have:=hvS.tb.inj (show k<(an p).m by omega) hi e;omega,if_pos trivial,Int.zero_add]
     ·rw[if_neg e]
      simp only[sz]
      rw[if_neg (Ne.symm e),Int.add_zero]
    ·simp only[z8 (show ¬ (S.β i:Int)<p.1.length by omega),cF]
     congr 3
     congr 1
     refine dn fun j hj=>?_
     simp only[sz]
     rw[if_neg (by omega),Int.add_zero]
   have hsV:=gY (n:=(an p).m) (f:=fun k=>bR (an p) (S.β k)*S.T k ((aq p).R (an p))) (B:=17592186044416) hcR
   have h6:((an p).m:Int)*17592186044416≤6*17592186044416:=z11 (by omega) (by omega)
   simp only[fZ,z8 (show ¬ ((an p).m:Int)<(an p).m by omega),cF,fD,fF,cT,tP ⟨d1,d2⟩ (show (sz (an p).m fun k=>bR (an p) (S.β k)*S.T k ((aq p).R (an p))).natAbs≤1152921504606846976 by omega),aa,aO]
   refine cD p.1.length (by omega) (fun j=>((j:Int),prQ (Cq p S),br j (fun j=>prQ (yZ (an p).m ((aq p).R (an p)) S j)),[],PUnit.unit)) _ rfl (fun again j hj=>?_) (fun again=>?_)
   ·have hx:=gY (n:=(an p).m) (f:=fun k=>if S.β k=j then S.T k ((aq p).R (an p)) else 0) (B:=17592186044416) fun k hk=>by
     have:=hTR k hk
     split<;>omega
    simp only[a8,z9,z7 hj,z7 (show (j:Int)<p.1.length by omega),cQ (show Nat.succ j≤p.1.length from hj),bt hj,cT,tP ⟨d1,d2⟩ (show (sz (an p).m fun k=>if S.β k=j then S.T k ((aq p).R (an p)) else 0).natAbs≤1152921504606846976 by omega),aa,aO,fk (show (j+1)*16≤140737488355328 by omega),aY (show j≤1000000 by omega)]
    rw[show prQ (((sz (an p).m fun k=>if S.β k=j then S.T k ((aq p).R (an p)) else 0:Int):Rat) / (S.d:Rat))=(fun j=>prQ (yZ (an p).m ((aq p).R (an p)) S j)) j from rfl,kW]
   simp only[z8 (show ¬ (p.1.length:Int)<p.1.length by omega),cF]
   refine cD p.2.length (by omega) (fun k=>((k:Int),prQ (Cq p S),xL p S,br k (fun k=>prQ (n6 (an p).m (aq p).N (bR (an p)) S (aq p).σ k)),PUnit.unit)) _ rfl (fun again k hk=>?_) (fun again=>?_)
   ·have hNk:(aq p).N+k<(aq p).w (an p):=by unfold Lay.w;omega
    have hcN:∀i,i<(an p).m→ -17592186044416≤bR (an p) (S.β i)*S.T i ((aq p).N+k)∧bR (an p) (S.β i)*S.T i ((aq p).N+k)≤17592186044416:=fun i hi=>hB.cost (hbP i _ hi hNk) _
    have hNke:IntKind.wrap .i64 (((aq p).N:Int)+(k:Int))=(((aq p).N+k:Nat):Int):=by rw[aU (by omega) (by omega)];rfl
    simp only[z7 (show (k:Int)<p.2.length by omega),cT,hNke]
    refine cD (an p).m (by omega) (fun i=>(sz i (fun i=>bR (an p) (S.β i)*S.T i ((aq p).N+k)),(i:Int),PUnit.unit)) _ rfl (fun again2 i hi=>?_) (fun again2=>?_)
    ·have hiR:=hcN i hi
     have hs:=gY (n:=i) (f:=fun i=>bR (an p) (S.β i)*S.T i ((aq p).N+k)) (B:=17592186044416) fun k hk=>hcN k (by omega)
     have h3:(i:Int)*17592186044416≤6*17592186044416:=z11 (by omega) (by omega)
     simp only[fZ,a8,z9,z7 hi,z7 (show (i:Int)<(an p).m by omega),cQ (show Nat.succ i≤(an p).m from hi),i8 hi,cT,Az,zz,tC,rV,aa,fJ,gd hi,iP,fH hi,aO,bt hNk,z7 hNk,cQ (show Nat.succ ((aq p).N+k)≤(aq p).w (an p) from hNk),aY (show i≤1000000 by omega)]
     rw[aU (x:=bR (an p) (S.β i)*S.T i ((aq p).N+k)) (by omega) (by omega),aU (by omega) (by omega)]
     rfl
    ·have hs:=gY (n:=(an p).m) (f:=fun i=>bR (an p) (S.β i)*S.T i ((aq p).N+k)) (B:=17592186044416) hcN
     have hab:=xy (p:=p) k (sz (an p).m fun i=>bR (an p) (S.β i)*S.T i ((aq p).N+k))
     simp only[fZ,z8 (show ¬ ((an p).m:Int)<(an p).m by omega),cF,aO,a8,z9,z7 hk,cQ (show Nat.succ k≤p.2.length from hk),bt hk,cT,fD,fF,aU (x:=(aq p).σ k*sz (an p).m fun i=>bR (an p) (S.β i)*S.T i ((aq p).N+k)) (by omega) (by omega),tP ⟨d1,d2⟩ (show ((aq p).σ k*sz (an p).m fun i=>bR (an p) (S.β i)*S.T i ((aq p).N+k)).natAbs≤1152921504606846976 by omega),aa,fk (show (k+1)*16≤140737488355328 by omega),aY (show k≤1000000 by omega)]
     rw[show prQ ((((aq p).σ k*sz (an p).m fun i=>bR (an p) (S.β i)*S.T i ((aq p).N+k):Int):Rat) / (S.d:Rat))=(fun k=>prQ (n6 (an p).m (aq p).N (bR (an p)) S (aq p).σ k)) k from rfl,kW]
   ·simp only[z8 (show ¬ (p.2.length:Int)<p.2.length by omega),cF]
end
end Go.Proofs.YtfknoaclabfdlaaGreat

namespace Go.Proofs.YtfknoaclabfdlaaGreat
open Tryz Dn Dn.Sh
def tx (p:Pg) (o:Option (List Fq×Int×Unit)):Prop :=
 (∃S,Infeas p S∧o=some (yL p (du (aq p).N) S,0,()))∨∃S,(aq p).Val (an p) S∧AZ (an p) (aq p) S∧o=some ([],12,())
theorem Fl {p:Pg} (hv:ValidP p) (hf:gB (an p)):tx p (bT p):=by
 have hB:=vh hv hf
 obtain ⟨hw25,hm6'⟩:=vm hv
 have hm6:p.2.length≤6:=hm6'
 have hn:=hv.cost.2
 have hok:=kJ hv
 have hpow:(aq p).w (an p) ^ (an p).m≤1180591620717411303424:=Nat.le_trans (Nat.pow_le_pow_left (show _≤64 by omega) _) (Nat.le_trans (Nat.pow_le_pow_right (by omega) hm6') (by decide))
 have hcnt:=pb (p:=p) p.2.length
 have hNe:IntKind.wrap .i64 ((p.1.length:Int)+(eP p p.2.length:Nat))=((aq p).N:Int):=by rw[aU (by omega) (by omega)];rfl
 have hRe:IntKind.wrap .i64 (((aq p).N:Int)+(p.2.length:Int))=(((aq p).R (an p):Nat):Int):=by
  have:(aq p).N=p.1.length+eP p p.2.length:=rfl
  rw[aU (by omega) (by omega)];rfl
 unfold bT fI
 rw[kU,obN,gC.2 hv]
 simp only[Bool.not_true,cF]
 rw[qz hv,obN,z7 hf]
 simp only[Bool.not_true,cF]
 refine xj hv (tx p) (fun again i s hi=>?_) (fun again=>?_)
 ·simp only[z7 (show (i:Int)<p.2.length by omega),a8,z7 hi,z9,cT,aY (show i≤1000000 by omega)]
 simp only[z8 (show ¬ (p.2.length:Int)<p.2.length by omega),cF,aX,fX,fk (show (0+p.1.length)*8≤140737488355328 by omega),cT,aa,hNe,hRe]
 refine uU hv (tx p) ?_
 obtain ⟨S,ok,h1,hvS,h2,h3⟩:=Aq hB hpow (x3:=br p.2.length (aq p).σ) (cs:=p.1) (Lay.first hok)
 refine obQ (Q:=tx p) h1 ?_
 cases ok with
 | true =>
  simp only[cT]
  exact .inr ⟨S,hvS,h2 rfl,rfl⟩
 | false =>
  simp only[cF]
  refine .inl ⟨S,⟨hvS,(h3 rfl).1,(h3 rfl).2⟩,?_⟩
  obtain ⟨⟨d1,d2⟩,hb⟩:=hB.tab hvS.tb
  have hm:(an p).m=p.2.length:=rfl
  refine cD p.2.length (by omega) (fun k=>(br k (fun k=>prQ (n6 (an p).m (aq p).N (du (aq p).N) S (aq p).σ k)),(k:Int),PUnit.unit)) _ rfl (fun again k hk=>?_) (fun again=>?_)
  ·have hNk:(aq p).N+k<(aq p).w (an p):=by unfold Lay.w;omega
   have hNke:IntKind.wrap .i64 (((aq p).N:Int)+(k:Int))=(((aq p).N+k:Nat):Int):=by
    have:(aq p).N=p.1.length+eP p p.2.length:=rfl
    rw[aU (by omega) (by omega)];rfl
   have hbk:∀i,i<(an p).m→ -1125899906842624≤S.T i ((aq p).N+k)∧S.T i ((aq p).N+k)≤1125899906842624:=fun i hi=>by have:=hb i _ hi hNk;omega
   have hbk2:∀i,i<(an p).m→ -17592186044416≤du (aq p).N (S.β i)*S.T i ((aq p).N+k)∧du (aq p).N (S.β i)*S.T i ((aq p).N+k)≤17592186044416:=fun i hi=>by
    have:=hb i _ hi hNk
    unfold du
    split<;>omega
   have hs:=gY (n:=(an p).m) (f:=fun i=>du (aq p).N (S.β i)*S.T i ((aq p).N+k)) (B:=17592186044416) hbk2
   have h6:((an p).m:Int)*17592186044416≤6*17592186044416:=z11 (by omega) (by omega)
   have hab:=xy (p:=p) k (sz (an p).m fun i=>du (aq p).N (S.β i)*S.T i ((aq p).N+k))
   simp only[z7 (show (k:Int)<p.2.length by omega),cT,hNke,aO,a8,z9,z7 hk,cQ (show Nat.succ k≤p.2.length from hk),bt hk,fD,fF,pD (show (an p).m≤1000 by omega) hNk hbk,aa,
    aU (x:=(aq p).σ k*sz (an p).m fun i=>du (aq p).N (S.β i)*S.T i ((aq p).N+k)) (by omega) (by omega),tP ⟨d1,d2⟩ (show ((aq p).σ k*sz (an p).m fun i=>du (aq p).N (S.β i)*S.T i ((aq p).N+k)).natAbs≤1152921504606846976 by omega),fk (show (k+1)*16≤140737488355328 by omega),aY (show k≤1000000 by omega)]
   rw[show prQ ((((aq p).σ k*sz (an p).m fun i=>du (aq p).N (S.β i)*S.T i ((aq p).N+k):Int):Rat) / (S.d:Rat))=(fun k=>prQ (n6 (an p).m (aq p).N (du (aq p).N) S (aq p).σ k)) k from rfl,kW]
  ·simp only[z8 (show ¬ (p.2.length:Int)<p.2.length by omega),cF]
end Go.Proofs.YtfknoaclabfdlaaGreat

namespace Go.Proofs.YtfknoaclabfdlaaGreat
open Tryz Dn Dn.Sh
end Go.Proofs.YtfknoaclabfdlaaGreat

namespace Go.Proofs.YtfknoaclabfdlaaGreat
open Tryz Dn Dn.Sh
def vX (x:List Fq) (j:Nat):Rat:=qv (x.getD j (0,0))
theorem zA {f:Nat→Rat}:∀{n:Nat},sq (n+1) f=f 0+sq n fun i=>f (i+1)
 | 0=>by simp only[sq];grind
 | n+1=>by
  rw[sq,zA (n:=n)]
  simp only[sq]
  grind
theorem zo:∀{l:List Int} {x:List Fq} {s q:Rat},l.length≤x.length→eE l x s=some q→q=s+sq l.length fun j=>((l.getD j 0:Int):Rat)*vX x j
 | [],x,s,q,_,h=>by
  unfold eE at h
  injection h with h
  simp only[List.length_nil,sq]
  grind
 | n ::l,[],s,q,hl,h=>by simp at hl
 | n ::l,a ::x,s,q,hl,h=>by
  unfold eE at h
  split at h
  ·have h1:=zo (l:=l) (x:=x) (by simpa using hl) h
   rw[List.length_cons,zA,h1]
   have e1:∀j,(n ::l).getD (j+1) 0=l.getD j 0:=fun j=>rfl
   have e2:∀j,vX (a ::x) (j+1)=vX x j:=fun j=>rfl
   simp only[e1,e2]
   have e3:((n ::l).getD 0 0:Int)=n:=rfl
   have e4:vX (a ::x) 0=qv a:=rfl
   rw[e3,e4]
   grind
  ·cases h
theorem oE {l:List Int} {x:List Fq} (hl:l.length≤x.length) (h:(eE l x 0).isSome=true):(eE l x 0).getD 0=sq l.length fun j=>((l.getD j 0:Int):Rat)*vX x j:=by
 cases hq:eE l x 0 with
 | none=>rw[hq] at h;cases h
 | some q =>
  have:=zo hl hq
  rw[Option.getD_some,this]
  grind
theorem DH {a b:Rat}:ug a b≤0↔a≤b:=by
 unfold ug
 by_cases h:a<b
 ·rw[if_pos h]
  exact ⟨fun _=>Rat.le_of_lt h,fun _=>by omega⟩
 ·rw[if_neg h]
  by_cases h2:a=b
  ·rw[if_pos h2]
   exact ⟨fun _=>by rw[h2];exact Rat.le_refl,fun _=>by omega⟩
  ·rw[if_neg h2]
   refine ⟨fun h3=>by omega,fun h3=>?_⟩
   exact (h (Rat.lt_of_le_of_ne h3 h2)).elim
theorem C1 {α:Type} {P:α→Bool} {l:List α} (d:α):l.all P=true↔∀k,k<l.length→P (l.getD k d)=true:=by
 rw[←sB (p:=P) d,List.all_eq_true]
 exact ⟨fun h k hk=>h k (List.mem_range'.2 ⟨k,hk,by omega⟩),fun h i hi=>by obtain ⟨k,hk,rfl⟩:=List.mem_range'.1 hi;exact h _ (by omega)⟩
theorem Cp {p:Pg} {y:List Fq} (hy:∀a ∈ y,okF a) (hl:y.length=p.2.length):kE p y=true↔(an p).Sgn (vX y):=by
 have hpos:∀j,j<y.length→((0≤(y.getD j (0,0)).1↔0≤vX y j)∧((y.getD j (0,0)).1≤0↔vX y j≤0)):=fun j hj=>by
  have hok:=hy (y.getD j (0,0)) (by rw[bf hj];exact List.getElem_mem _)
  have h1:=lr hok
  have h2:=Ku hok
  have h3:=Ae hok
  refine ⟨h1.symm,?_⟩
  unfold vX
  constructor
  ·intro h
   by_cases c:(y.getD j (0,0)).1=0
   ·rw[h3.2 c];exact Rat.le_refl
   ·exact Rat.le_of_lt (h2.2 (by omega))
  ·intro h
   apply Int.not_lt.1
   intro h4
   have h5:=h1.2 (by omega)
   have h6:=h3.1 (Rat.le_antisymm h h5)
   omega
 unfold kE
 rw[List.all_eq_true]
 have key:∀k,k<p.2.length→(ux (p.2.getD k rw0).2.1 (y.getD k (0,0)).1=true↔((an p).kd k=1→vX y k≤0)∧((an p).kd k=2→0≤vX y k)):=fun k hk=>by
  obtain ⟨h1,h2⟩:=hpos k (by omega)
  unfold ux
  have e1:(an p).kd k=(p.2.getD k rw0).2.1:=rfl
  rw[e1,z10,Bool.or_eq_true,Bool.or_eq_true,decide_eq_true_iff,decide_eq_true_iff,decide_eq_true_iff,decide_eq_true_iff,h1,h2]
  constructor
  ·rintro ⟨a1,a2⟩
   exact ⟨fun e=>a1.resolve_left fun h=>h e,fun e=>a2.resolve_left fun h=>h e⟩
  ·rintro ⟨a1,a2⟩
   refine ⟨?_,?_⟩
   ·by_cases c:(p.2.getD k rw0).2.1=1
    ·exact .inr (a1 c)
    ·exact .inl c
   ·by_cases c:(p.2.getD k rw0).2.1=2
    ·exact .inr (a2 c)
    ·exact .inl c
 constructor
 ·intro h
  exact ⟨fun k hk=>((key k hk).1 (h k (List.mem_range'.2 ⟨k,hk,by omega⟩))).1,fun k hk=>((key k hk).1 (h k (List.mem_range'.2 ⟨k,hk,by omega⟩))).2⟩
 ·rintro ⟨h1,h2⟩ i hi
  obtain ⟨k,hk,rfl⟩:=List.mem_range'.1 hi
  simp only[Nat.one_mul,Nat.zero_add]
  exact (key k hk).2 ⟨h1 k hk,h2 k hk⟩
theorem Lo {p:Pg} {y:List Fq} (hl:y.length=p.2.length) {j:Nat} (h:(eE (lL p j) y 0).isSome=true):(eE (lL p j) y 0).getD 0=(an p).col (vX y) j:=by
 rw[oE (by rw[qI];omega) h,qI]
 refine eB fun k hk=>?_
 unfold lL
 have hk:k<p.2.length:=hk
 rw[bf (show k<(p.2.map fun r=>r.1.getD j 0).length by rw[List.length_map];exact hk),List.getElem_map]
 show _=(((p.2.getD k rw0).1.getD j 0:Int):Rat)*_
 rw[bf hk]
theorem Fs {p:Pg} {y:List Fq} (hl:y.length=p.2.length) (h:(p5 p y).isSome=true):(p5 p y).getD 0=(an p).rhs (vX y):=by
 unfold p5 at h ⊢
 rw[oE (by rw[mF];omega) h,mF]
 refine eB fun k hk=>?_
 unfold lb
 have hk:k<p.2.length:=hk
 rw[bf (show k<(p.2.map fun r=>r.2.2).length by rw[List.length_map];exact hk),List.getElem_map]
 show _=(((p.2.getD k rw0).2.2:Int):Rat)*_
 rw[bf hk]
theorem Lj {p:Pg} {x:List Fq} (hl:x.length=p.1.length) (h:(eE p.1 x 0).isSome=true):(eE p.1 x 0).getD 0=(an p).val (vX x):=by
 rw[oE (by omega) h]
 rfl
theorem D7 {p:Pg} {y:List Fq} {f:Nat→Int} (hl:y.length=p.2.length) (hf:sX p y=true):vf p y f=true↔∀j,j<p.1.length→(an p).col (vX y) j≤(f j:Rat):=by
 unfold sX at hf
 rw[List.all_eq_true] at hf
 unfold vf
 rw[List.all_eq_true]
 have hc:∀j,j<p.1.length→(eE (lL p j) y 0).getD 0=(an p).col (vX y) j:=fun j hj=>Lo hl (hf j (List.mem_range'.2 ⟨j,hj,by omega⟩))
 constructor
 ·intro h j hj
  have:=h j (List.mem_range'.2 ⟨j,hj,by omega⟩)
  rw[decide_eq_true_iff,DH,hc j hj] at this
  exact this
 ·intro h i hi
  obtain ⟨k,hk,rfl⟩:=List.mem_range'.1 hi
  simp only[Nat.one_mul,Nat.zero_add]
  rw[decide_eq_true_iff,DH,hc k hk]
  exact h k hk
theorem Bb {p:Pg} {y:List Fq} (hy:∀a ∈ y,okF a) (hly:y.length=p.2.length) (f3:sX p y=true) (f4:(p5 p y).isSome=true) :
  Lq p y=true↔(an p).Ref (vX y):=by
 have hfit:dz ((p5 p y).getD 0):=by
  unfold p5
  exact yg
 have hp:FA p y=true↔0<(an p).rhs (vX y):=by
  unfold FA
  rw[decide_eq_true_iff,←Fs hly f4]
  have h1:=lr (kz hfit)
  have h2:=Ae (kz hfit)
  rw[mS] at h1 h2
  constructor
  ·intro h
   exact Rat.lt_of_le_of_ne (h1.2 (by omega)) fun e=>by have:=h2.1 e.symm;omega
  ·intro h
   have a1:=h1.1 (Rat.le_of_lt h)
   have a2:¬ (prQ ((p5 p y).getD 0)).1=0:=fun e=>by rw[h2.2 e] at h;exact Rat.lt_irrefl h
   omega
 unfold Lq
 simp only[z10]
 rw[hp,Cp hy hly,D7 hly f3]
 constructor
 ·rintro ⟨a1,a2,a3⟩
  exact ⟨a2,fun j hj=>by have:=a3 j hj;simpa using this,a1⟩
 ·rintro ⟨a1,a2,a3⟩
  exact ⟨a3,a1,fun j hj=>by have:=a2 j hj;simpa using this⟩
end Go.Proofs.YtfknoaclabfdlaaGreat

namespace Go.Proofs.YtfknoaclabfdlaaGreat
open Tryz Dn Dn.Sh
theorem ve {f:Nat→Int}:∀{n:Nat},sz (n+1) f=f 0+sz n fun i=>f (i+1)
 | 0=>by simp[sz]
 | n+1=>by
  rw[sz,ve (n:=n)]
  simp only[sz]
  omega
theorem EX {α:Type} {n:Nat} {f:Nat→α}:br (n+1) f=f 0 ::br n fun i=>f (i+1):=by
 unfold br
 rw[List.range_succ_eq_map,List.map_cons,List.map_map]
 rfl
theorem t7 {d B:Int} (hd:0<d∧d≤1152921504606846976) (hB:B≤1152921504606846976):∀{l:List Int} {X:Nat→Int} {s:Int},(∀j,j<l.length→ab (l.getD j 0*X j)≤B)→(∀i,i≤l.length→ab (s+sz i fun j=>l.getD j 0*X j)≤B) →
  eE l (br l.length fun j=>prQ ((X j:Rat) / (d:Rat))) ((s:Rat) / (d:Rat))=some (((s+sz l.length fun j=>l.getD j 0*X j:Int):Rat) / (d:Rat))
 | [],X,s,_,_=>by
  unfold eE
  simp[sz]
 | n ::l,X,s,h1,h2=>by
  have e1:∀j,(n ::l).getD (j+1) 0=l.getD j 0:=fun j=>rfl
  have e0:((n ::l).getD 0 0:Int)=n:=rfl
  have a1:=h1 0 (by simp)
  have a2:=h2 1 (by simp)
  simp only[sz,e0,Int.zero_add] at a1 a2
  rw[List.length_cons,EX]
  unfold eE
  rw[mS]
  have q1:(n:Rat)*((X 0:Rat) / (d:Rat))=((n*X 0:Int):Rat) / (d:Rat):=by rw[Rat.intCast_mul];grind
  have q2:(s:Rat) / (d:Rat)+((n*X 0:Int):Rat) / (d:Rat)=((s+n*X 0:Int):Rat) / (d:Rat):=by rw[Rat.intCast_add];grind
  have b1:(n*X 0).natAbs≤1152921504606846976:=by rw[nQ] at a1;omega
  have b2:(s+n*X 0).natAbs≤1152921504606846976:=by rw[nQ] at a2;omega
  rw[q1,q2,if_pos ⟨rE (by omega) b1 (by omega),rE (by omega) b2 (by omega)⟩]
  have ih:=t7 hd hB (l:=l) (X:=fun j=>X (j+1)) (s:=s+n*X 0) (fun j hj=>h1 (j+1) (by simpa using hj)) (fun i hi=>by
   have:=h2 (i+1) (by simpa using hi)
   rw[ve] at this
   simp only[e1,e0] at this
   rw[←Int.add_assoc] at this
   exact this)
  rw[ih]
  congr 3
  rw[ve]
  simp only[e1,e0]
  omega
theorem Bu {n i:Nat} {a X:Nat→Int} {B:Int} (hi:i≤n) (hB:0≤B) (hX:∀j,j<n→ab (X j)≤B):ab (sz i fun j=>a j*X j)≤(sz n fun j=>ab (a j))*B:=by
 refine Int.le_trans yz ?_
 have h1:(sz i fun j=>ab (a j*X j))≤sz i fun j=>ab (a j)*B:=my fun j hj=>by
  rw[l5]
  exact Int.mul_le_mul_of_nonneg_left (hX j (by omega)) (bB _)
 refine Int.le_trans h1 ?_
 rw[yO]
 refine z11 ?_ hB
 obtain ⟨k,rfl⟩:∃k,n=i+k:=⟨n - i,by omega⟩
 rw[uO]
 have:0≤sz k fun l=>ab (a (i+l)):=gi fun _ _=>bB _
 omega
theorem Dc {n j:Nat} {f:Nat→Int} (hj:j<n) (hf:∀i,i<n→0≤f i):f j≤sz n f:=by
 have h1:(sz n fun i=>if i=j then f j else 0)≤sz n f:=my fun i hi=>by
  by_cases e:i=j
  ·rw[if_pos e,e];exact Int.le_refl _
  ·rw[if_neg e];exact hf i hi
 rw[eG hj fun i _ hne=>if_neg hne,if_pos rfl] at h1
 exact h1
theorem CA {n j:Nat} {a X:Nat→Int} {B:Int} (hj:j<n) (hB:0≤B) (hX:∀j,j<n→ab (X j)≤B):ab (a j*X j)≤(sz n fun j=>ab (a j))*B:=by
 rw[l5]
 refine Int.le_trans (Int.mul_le_mul_of_nonneg_left (hX j hj) (bB _)) (z11 ?_ hB)
 exact Dc (f:=fun j=>ab (a j)) hj fun _ _=>bB _
theorem GX {l:List Int} {X:Nat→Int} {d B:Int} (hd:0<d∧d≤1152921504606846976) (hB:0≤B) (hX:∀j,j<l.length→ab (X j)≤B) (h:(sz l.length fun j=>ab (l.getD j 0))*B≤1152921504606846976) :
  (eE l (br l.length fun j=>prQ ((X j:Rat) / (d:Rat))) 0).isSome=true:=by
 have h0:(0:Rat)=((0:Int):Rat) / (d:Rat):=by rw[show ((0:Int):Rat)=0 from rfl,Rat.div_def,Rat.zero_mul]
 rw[h0,t7 hd h (fun j hj=>CA (a:=fun j=>l.getD j 0) hj hB hX) (fun i hi=>by rw[Int.zero_add];exact Bu (a:=fun j=>l.getD j 0) hi hB hX)]
 rfl
theorem CV {l:List Int} {X:Nat→Int} {d B:Int} (hd:0<d∧d≤1152921504606846976) (hB:0≤B) (hX:∀j,j<l.length→ab (l.getD j 0*X j)≤B) (h:(l.length:Int)*B≤1152921504606846976) (hB2:B≤1152921504606846976) :
  (eE l (br l.length fun j=>prQ ((X j:Rat) / (d:Rat))) 0).isSome=true:=by
 have h0:(0:Rat)=((0:Int):Rat) / (d:Rat):=by rw[show ((0:Int):Rat)=0 from rfl,Rat.div_def,Rat.zero_mul]
 have hsum:∀i,i≤l.length→ab (0+sz i fun j=>l.getD j 0*X j)≤1152921504606846976:=fun i hi=>by
  rw[Int.zero_add]
  have h1:=gY (n:=i) (f:=fun j=>l.getD j 0*X j) (B:=B) fun j hj=>sY.1 (hX j (by omega))
  have h2:(i:Int)*B≤l.length*B:=z11 (by omega) hB
  refine sY.2 ⟨?_,?_⟩<;>omega
 rw[h0,t7 hd (Int.le_refl _) (fun j hj=>Int.le_trans (hX j hj) hB2) hsum]
 rfl
section
variable {p:Pg} {S:Sx}
theorem CY (hB:Bnd (an p) (aq p)) (hv:(aq p).Val (an p) S) (j:Nat):0≤rY (an p).m ((aq p).R (an p)) S j∧rY (an p).m ((aq p).R (an p)) S j≤(an p).P:=by
 refine ⟨lU hv j,?_⟩
 have hRw:(aq p).R (an p)<(aq p).w (an p):=by unfold Lay.R Lay.w;omega
 obtain ⟨_,hb⟩:=hB.tabP hv.tb
 unfold rY
 by_cases h:∃i,i<(an p).m∧S.β i=j
 ·obtain ⟨i,hi,e⟩:=h
  rw[eG hi fun k hk hne=>if_neg fun e2=>hne (hv.tb.inj hk hi (by rw[e,e2])),if_pos e]
  have:=hb i _ hi hRw
  omega
 ·rw[fE fun i hi=>if_neg fun e=>h ⟨i,hi,e⟩]
  have:=(an p).P_pos
  omega
theorem G9 (k:Nat) (x:Int):ab ((aq p).σ k*x)=ab x:=by
 rw[nQ,nQ,xy]
theorem DP (hB:Bnd (an p) (aq p)) (hv:(aq p).Val (an p) S) {wc:Nat→Int} {W:Int} (hW:∀j,ab (wc j)≤W) {k:Nat} (hk:k<(an p).m):(an p).F k*ab (ky (an p).m (aq p).N wc S (aq p).σ k)≤12*(W*(an p).P):=by
 have hF:=(an p).F_pos k
 have hW0:0≤W:=Int.le_trans (bB _) (hW 0)
 have hP:=(an p).P_pos
 have hm:=hB.m
 unfold ky
 rw[G9]
 have h1:ab (sz (an p).m fun i=>wc (S.β i)*S.T i ((aq p).N+k))≤sz (an p).m fun i=>W*ab (S.T i ((aq p).N+k)):=Int.le_trans yz (my fun i _=>by
  rw[l5]
  exact z11 (hW _) (bB _))
 have h2:(an p).F k*(sz (an p).m fun i=>W*ab (S.T i ((aq p).N+k)))=sz (an p).m fun i=>W*((an p).F k*ab (S.T i ((aq p).N+k))):=by
  rw[←fc]
  exact be fun i _=>by grind
 have h3:(sz (an p).m fun i=>W*((an p).F k*ab (S.T i ((aq p).N+k))))≤sz (an p).m fun _=>W*(an p).P:=my fun i hi=>Int.mul_le_mul_of_nonneg_left (Eh hB.ok hv.tb hi hk) hW0
 have h4:∀n:Nat,(sz n fun _=>W*(an p).P)=n*(W*(an p).P):=fun n=>by
  induction n with
  | zero=>simp[sz]
  | succ n ih =>
   simp only[sz]
   rw[ih,show ((n+1:Nat):Int)=(n:Int)+1 by omega,Int.add_mul,Int.one_mul]
 have h5:0≤W*(an p).P:=Int.mul_nonneg hW0 (by omega)
 have h6:((an p).m:Int)*(W*(an p).P)≤12*(W*(an p).P):=z11 (by omega) h5
 have h7:=Int.mul_le_mul_of_nonneg_left h1 (show 0≤(an p).F k by omega)
 rw[h2] at h7
 rw[h4] at h3
 omega
theorem GY (k j:Nat) (hj:j<(an p).n):ab ((an p).A k j)≤(an p).F k∧ab ((an p).b k)≤(an p).F k:=by
 have h1:=Dc (n:=(an p).n) (f:=fun j=>ab ((an p).A k j)) hj fun _ _=>bB _
 have h2:=bB ((an p).b k)
 have h3:=bB ((an p).A k j)
 unfold Lin.F
 omega
theorem Nv (hV:ValidP p) (hB:Bnd (an p) (aq p)) (hv:(aq p).Val (an p) S) {wc:Nat→Int} {W:Int} (hW:∀j,ab (wc j)≤W) (hWP:W*(an p).P≤17592186044416):sX p (yL p wc S)=true∧(p5 p (yL p wc S)).isSome=true:=by
 obtain ⟨⟨d1,d2⟩,hb⟩:=hB.tab hv.tb
 have hm:=hV.rows
 have hn:=hV.cost
 have term:∀(k:Nat) (a:Int),k<p.2.length→ab a≤(an p).F k→ab (a*ky (an p).m (aq p).N wc S (aq p).σ k)≤211106232532992:=fun k a hk ha=>by
  have h1:=DP hB hv hW (k:=k) hk
  rw[l5]
  have h2:=z11 ha (bB (ky (an p).m (aq p).N wc S (aq p).σ k))
  omega
 have gen:∀{l:List Int},l.length=p.2.length→(∀k,k<p.2.length→ab (l.getD k 0)≤(an p).F k)→(eE l (yL p wc S) 0).isSome=true:=fun {l} hl hF=>by
  have h1:=CV (l:=l) (X:=fun k=>ky (an p).m (aq p).N wc S (aq p).σ k) (d:=S.d) (B:=211106232532992) ⟨d1,by omega⟩ (by omega) (fun k hk=>term k _ (by omega) (hF k (by omega))) (by omega) (by omega)
  rw[hl] at h1
  exact h1
 constructor
 ·unfold sX
  rw[List.all_eq_true]
  intro i hi
  obtain ⟨j,hj,rfl⟩:=List.mem_range'.1 hi
  simp only[Nat.one_mul,Nat.zero_add]
  refine gen qI fun k hk=>?_
  have:(lL p j).getD k 0=(an p).A k j:=by
   unfold lL
   rw[bf (show k<(p.2.map fun r=>r.1.getD j 0).length by rw[List.length_map];exact hk),List.getElem_map]
   show _=(p.2.getD k rw0).1.getD j 0
   rw[bf hk]
  rw[this]
  exact (GY k j hj).1
 ·unfold p5
  refine gen mF fun k hk=>?_
  have:(lb p).getD k 0=(an p).b k:=by
   unfold lb
   rw[bf (show k<(p.2.map fun r=>r.2.2).length by rw[List.length_map];exact hk),List.getElem_map]
   show _=(p.2.getD k rw0).2.2
   rw[bf hk]
  rw[this]
  exact (GY k 0 hn.1).2
theorem Ms (hV:ValidP p) (hf:gB (an p)) (hv:(aq p).Val (an p) S):Aj p (xL p S)=true∧(eE p.1 (xL p S) 0).isSome=true:=by
 have hB:=vh hV hf
 obtain ⟨⟨d1,d2⟩,hb⟩:=hB.tab hv.tb
 have hm:=hV.rows
 have hP:=(an p).P_pos
 have hF0:=(an p).F0_pos
 have hx:∀j,ab (rY (an p).m ((aq p).R (an p)) S j)≤(an p).P:=fun j=>by
  have:=CY hB hv j
  exact sY.2 ⟨by omega,this.2⟩
 have gen:∀{l:List Int} {k:Nat},l.length=p.1.length→k≤p.2.length→(sz p.1.length fun j=>ab (l.getD j 0))≤fac (an p) k→(eE l (xL p S) 0).isSome=true:=fun {l k} hl hk hF=>by
  have h2:=Ja hf hk
  have h3:1*((an p).P*fac (an p) k)≤(an p).F0*((an p).P*fac (an p) k):=z11 hF0 (Int.mul_nonneg (by omega) (by have:=xI (an p) k;omega))
  have h5:=Int.mul_assoc (an p).F0 (an p).P (fac (an p) k)
  have h4:=z11 hF (show 0≤(an p).P by omega)
  rw[Int.mul_comm (fac (an p) k)] at h4
  have h1:=GX (l:=l) (X:=fun j=>rY (an p).m ((aq p).R (an p)) S j) (d:=S.d) (B:=(an p).P) ⟨d1,by omega⟩ (by omega) (fun j _=>hx j) (by rw[hl];omega)
  rw[hl] at h1
  exact h1
 constructor
 ·unfold Aj
  rw[C1 rw0]
  intro k hk
  have hr:p.2.getD k rw0 ∈ p.2:=by rw[bf hk];exact List.getElem_mem _
  refine gen (k:=k+1) (hV.len _ hr) (by omega) ?_
  show _≤1+ab (p.2.getD k rw0).2.2+sz p.1.length (fun j=>ab ((p.2.getD k rw0).1.getD j 0))
  have:=bB (p.2.getD k rw0).2.2
  omega
 ·refine gen (k:=0) rfl (by omega) ?_
  show _≤1+sz p.1.length (fun j=>ab (p.1.getD j 0))
  omega
theorem Dg (N j:Nat):ab (du N j)≤1:=by unfold du;split<;>simp[ab]
theorem Bs {n:Nat} {f:Nat→Rat} {j:Nat} (hj:j<n):vX (br n fun j=>prQ (f j)) j=f j:=by
 unfold vX
 rw[bt hj,mS]
theorem DT {n:Nat} {f:Nat→Rat} (h:∀j,j<n→dz (f j)):∀a ∈ br n (fun j=>prQ (f j)),okF a:=fun a ha=>by
 unfold br at ha
 obtain ⟨j,hj,rfl⟩:=List.mem_map.1 ha
 exact kz (h j (List.mem_range.1 hj))
theorem OE (hV:ValidP p) (hf:gB (an p)) (hv:(aq p).Val (an p) S):∀a ∈ xL p S,okF a:=DT fun j _=>by
 have hB:=vh hV hf
 obtain ⟨⟨d1,d2⟩,_⟩:=hB.tab hv.tb
 have:=CY hB hv j
 have:=hB.P'
 exact rE (by omega) (by omega) (by omega)
theorem NR (hV:ValidP p) (hB:Bnd (an p) (aq p)) (hv:(aq p).Val (an p) S) {wc:Nat→Int} {W:Int} (hW:∀j,ab (wc j)≤W) (hWP:W*(an p).P≤17592186044416):∀a ∈ yL p wc S,okF a:=DT fun k hk=>by
 obtain ⟨⟨d1,d2⟩,_⟩:=hB.tab hv.tb
 have h1:=DP hB hv hW (k:=k) hk
 have h2:=(an p).F_pos k
 have h3:1*ab (ky (an p).m (aq p).N wc S (aq p).σ k)≤(an p).F k*ab (ky (an p).m (aq p).N wc S (aq p).σ k):=z11 h2 (bB _)
 have h4:ab (ky (an p).m (aq p).N wc S (aq p).σ k)≤211106232532992:=by omega
 rw[nQ] at h4
 exact rE (by omega) (by omega) (by omega)
theorem Dn.Lin.Feas.congr {L:Lin} {x x':Nat→Rat} (h:∀j,j<L.n→x j=x' j) (hx:L.Feas x):L.Feas x':=by
 have hr:∀k,L.row x' k=L.row x k:=fun k=>eB fun j hj=>by rw[h j hj]
 exact ⟨fun j hj=>by rw[←h j hj];exact hx.pos j hj,fun k hk h2=>by rw[hr];exact hx.most k hk h2,fun k hk h2=>by rw[hr];exact hx.least k hk h2⟩
theorem Dn.Lin.Sgn.congr {L:Lin} {y y':Nat→Rat} (h:∀k,k<L.m→y k=y' k) (hy:L.Sgn y):L.Sgn y' :=
 ⟨fun k hk e=>by rw[←h k hk];exact hy.most k hk e,fun k hk e=>by rw[←h k hk];exact hy.least k hk e⟩
theorem Dn.Lin.col_congr {L:Lin} {y y':Nat→Rat} (h:∀k,k<L.m→y k=y' k) (j:Nat):L.col y' j=L.col y j:=eB fun k hk=>by rw[h k hk]
theorem Dn.Lin.rhs_congr {L:Lin} {y y':Nat→Rat} (h:∀k,k<L.m→y k=y' k):L.rhs y'=L.rhs y:=eB fun k hk=>by rw[h k hk]
theorem Dn.Lin.val_congr {L:Lin} {x x':Nat→Rat} (h:∀j,j<L.n→x j=x' j):L.val x'=L.val x:=eB fun j hj=>by rw[h j hj]
theorem Ka (hV:ValidP p) (hf:gB (an p)) (ho:Opt p S):(an p).Feas (vX (xL p S))∧(an p).Dual (vX (yL p (bR (an p)) S))∧(an p).val (vX (xL p S))=Cq p S∧(an p).rhs (vX (yL p (bR (an p)) S))=Cq p S:=by
 have hok:=kJ hV
 have ex:∀j,j<(an p).n→yZ (an p).m ((aq p).R (an p)) S j=vX (xL p S) j:=fun j hj=>(Bs hj).symm
 have ey:∀k,k<(an p).m→n6 (an p).m (aq p).N (bR (an p)) S (aq p).σ k=vX (yL p (bR (an p)) S) k:=fun k hk=>(Bs hk).symm
 have h1:=qo hok ho.val (ho.az.art S)
 have h2:=BG hok ho.val ho.zr
 obtain ⟨h3,h4⟩:=zX hok ho.val
 refine ⟨h1.congr ex,⟨h2.toSgn.congr ey,fun j hj=>?_⟩,?_,?_⟩
 ·rw[Lin.col_congr ey];exact h2.col j hj
 ·rw[Lin.val_congr ex];exact h3
 ·rw[Lin.rhs_congr ey];exact h4
theorem qm (hV:ValidP p) (ho:Infeas p S):(an p).Ref (vX (yL p (du (aq p).N) S)):=by
 have hok:=kJ hV
 have ey:∀k,k<(an p).m→n6 (an p).m (aq p).N (du (aq p).N) S (aq p).σ k=vX (yL p (du (aq p).N) S) k:=fun k hk=>(Bs hk).symm
 have h2:=D8 hok ho.val ho.zr ho.pos
 refine ⟨h2.toSgn.congr ey,fun j hj=>?_,?_⟩
 ·rw[Lin.col_congr ey];exact h2.col j hj
 ·rw[Lin.rhs_congr ey];exact h2.rhs
theorem xD (hV:ValidP p) (hf:gB (an p)) (ho:Infeas p S):bM p (yL p (du (aq p).N) S)=some (true,0,()):=by
 have hB:=vh hV hf
 have hm:=hV.rows
 have hWP:1*(an p).P≤17592186044416:=by have:=hB.P';omega
 have hy:=NR (wc:=du (aq p).N) hV hB ho.val (Dg _) hWP
 have hly:(yL p (du (aq p).N) S).length=p.2.length:=aO
 obtain ⟨f3,f4⟩:=Nv (wc:=du (aq p).N) hV hB ho.val (Dg _) hWP
 have hc:=(Bb hy hly f3 f4).2 (qm hV ho)
 rw[AL (by omega),gC.2 hV,qA.2 hy,z7 hly,f3,f4,hc]
 rfl
end
end Go.Proofs.YtfknoaclabfdlaaGreat

namespace Go.Proofs.YtfknoaclabfdlaaGreat
open Tryz Dn Dn.Sh
def PB (p:Pg) (y:List Fq) (e:Int):Prop :=
 (e=1∧y=[]∧nj p=false)∨(e=5∧y=[]∧ValidP p∧¬ gB (an p))∨(e=12∧y=[]∧ValidP p∧gB (an p)∧∃x,(an p).Feas x) ∨
 (e=0∧ValidP p∧gB (an p)∧y.length=p.2.length∧bM p y=some (true,0,())∧∃y,(an p).Ref y)
theorem EQ {p:Pg} (h:ValidP p) (hf:¬ gB (an p)):aK p=some (wq,5,()):=by
 unfold aK hO
 rw[kU,obN,gC.2 h]
 simp only[Bool.not_true,cF]
 rw[qz h,obN,z8 hf]
 rfl
theorem CJ {p:Pg} (h:nj p=false):bT p=some ([],1,()):=by
 unfold bT fI
 rw[kU,obN,h]
 rfl
theorem CK {p:Pg} (h:ValidP p) (hf:¬ gB (an p)):bT p=some ([],5,()):=by
 unfold bT fI
 rw[kU,obN,gC.2 h]
 simp only[Bool.not_true,cF]
 rw[qz h,obN,z8 hf]
 rfl
theorem BT (p:Pg):∃y e,bT p=some (y,e,())∧PB p y e:=by
 cases hv:nj p with
 | false=>exact ⟨_,_,CJ hv,.inl ⟨rfl,rfl,hv⟩⟩
 | true =>
  have hV:=gC.1 hv
  by_cases hf:gB (an p)
  ·rcases Fl hV hf with ⟨S,h1,h2⟩ | ⟨S,h1,h2,h3⟩
   ·exact ⟨_,_,h2,.inr (.inr (.inr ⟨rfl,hV,hf,aO,xD hV hf h1,_,qm hV h1⟩))⟩
   ·exact ⟨_,_,h3,.inr (.inr (.inl ⟨rfl,rfl,hV,hf,_,qo (kJ hV) h1 (h2.art S)⟩))⟩
  ·exact ⟨_,_,CK hV hf,.inr (.inl ⟨rfl,rfl,hV,hf⟩)⟩
end Go.Proofs.YtfknoaclabfdlaaGreat

namespace Go.Proofs.YtfknoaclabfdlaaGreat
open Tryz Dn Dn.Sh
end Go.Proofs.YtfknoaclabfdlaaGreat

namespace Go.Proofs.YtfknoaclabfdlaaGreat
open Tryz Dn Dn.Sh
structure BndR (L:Lin) (Y:Lay):Prop where
 ok:Y.ok L
 m:L.m≤6
 w:Y.w L≤25
 P:L.F0*L.P≤536870912
section
variable {L:Lin} {Y:Lay}
theorem BndR.P' (h:BndR L Y):L.P≤536870912:=by
 have h1:=L.F0_pos
 have h2:=L.P_pos
 have h3:1*L.P≤L.F0*L.P:=z11 h1 (by omega)
 have:=h.P
 omega
theorem BndR.tab (h:BndR L Y) {T:Nat→Nat→Int} {d:Int} {β:Nat→Nat} (ht:Tb L.m (Y.w L) (Y.M L) T d β):(0<d∧d≤536870912)∧∀i j,i<L.m→j<Y.w L→(T i j).natAbs≤536870912∧((T i j).natAbs:Int)≤L.P:=by
 obtain ⟨h1,h2⟩:=oG h.ok ht
 have h3:=h.P'
 refine ⟨⟨ht.dpos,by omega⟩,fun i j hi hj=>?_⟩
 have:=h2 i j hi hj
 rw[nQ] at this
 omega
structure Wc (L:Lin) (Y:Lay) (wc:Nat→Int):Prop where
 small:∀j x,(x.natAbs:Int)≤L.P→ -536870912≤wc j*x∧wc j*x≤536870912
end
end Go.Proofs.YtfknoaclabfdlaaGreat

namespace Go.Proofs.YtfknoaclabfdlaaGreat
open Tryz Dn Dn.Sh
section
variable {L:Lin} {Y:Lay}
theorem Swp.next {i:Nat} {S:Sx} (h:Swp L Y i S) (hr:Y.N≤S.β i→∀j,j<Y.N→S.T i j=0):Swp L Y (i+1) S :=
 ⟨h.val,h.right,fun k hk hlt hb j hj=>by
  by_cases e:k=i
  ·subst e;exact hr hb j hj
  ·exact h.rows k hk (by omega) hb j hj⟩
end
end Go.Proofs.YtfknoaclabfdlaaGreat

namespace Go.Proofs.YtfknoaclabfdlaaGreat
open Tryz Dn Dn.Sh
section
variable {p:Pg}
end
end Go.Proofs.YtfknoaclabfdlaaGreat

namespace Go.Proofs.YtfknoaclabfdlaaGreat
open Tryz Dn Dn.Sh
section
variable {L:Lin} {Y:Lay}
end
end Go.Proofs.YtfknoaclabfdlaaGreat

namespace Go.Proofs.YtfknoaclabfdlaaGreat
open Tryz Dn Dn.Sh
end Go.Proofs.YtfknoaclabfdlaaGreat

namespace Go.Proofs.YtfknoaclabfdlaaGreat
open Tryz Dn Dn.Sh
def Qn (p:Pg) (a:Fq×List Fq×List Fq) (e:Int):Prop :=
 (e=5∧a=wq∧¬ gB (an p))∨(e=22∧a=wq∧gB (an p)∧∃y,(an p).Ref y) ∨
 (e=21∧a=wq∧gB (an p)∧(∃x,(an p).Feas x)∧∃r,(an p).Ray r) ∨
 (e=0∧gB (an p)∧∃v,a.1=prQ v∧dz v∧a.2.1.length=p.1.length∧(∀x ∈ a.2.1,okF x)∧Aj p a.2.1=true∧(eE p.1 a.2.1 0).isSome=true∧(an p).Feas (vX a.2.1)∧(∃y,(an p).Dual y∧(an p).rhs y=v)∧(an p).val (vX a.2.1)=v)
theorem Mu {p:Pg} (hV:ValidP p):∃a e,aK p=some (a,e,())∧Qn p a e:=by
 by_cases hf:gB (an p)
 ·have hok:=kJ hV
  rcases IA hV hf with ⟨S,h1,h2⟩ | ⟨S,q,h1,h2⟩ | ⟨S,h1,h2⟩
  ·exact ⟨_,_,h2,.inr (.inl ⟨rfl,rfl,hf,_,qm hV h1⟩)⟩
  ·exact ⟨_,_,h2,.inr (.inr (.inl ⟨rfl,rfl,hf,⟨_,qo hok h1.val (h1.az.art S)⟩,_,Fz hok h1.val h1.lt (h1.az.col S h1.lt) h1.neg h1.no⟩))⟩
  ·obtain ⟨a1,a2,a3,a4⟩:=Ka hV hf h1
   obtain ⟨f1,f2⟩:=Ms hV hf h1.val
   have hl:(xL p S).length=p.1.length:=aO
   have hv:=Lj (p:=p) (x:=xL p S) hl f2
   have hq:dz (Cq p S):=by
    rw[←a3,←hv]
    exact yg
   exact ⟨_,_,h2,.inr (.inr (.inr ⟨rfl,hf,Cq p S,rfl,hq,hl,OE hV hf h1.val,f1,f2,a1,⟨_,a2,a4⟩,a3⟩))⟩
 ·exact ⟨_,_,EQ hV hf,.inl ⟨rfl,rfl,hf⟩⟩
theorem LN {f:(Fq×Unit)→Option Bool} {p:Fq→Bool} {l:List Fq} (hl:l.length≤1000000) (h:∀a,a ∈ l→f (a,())=some (p a)):aj l f=some (l.any p):=by
 simp only[aj,dQ]
 have e:bi l f=some (ka p l 0):=by
  unfold bi eX
  exact mY (f:=f) (d:=(0,0)) hl h
 rw[e,aa,yy]
theorem KR (s:Sy) (c:List Int) (hl:c.length=s.2.length):an (kp s c)=⟨s.2.length,s.1.length,fun k j=>((br s.1.length (kn s)).getD k rw0).1.getD j 0,fun k=>((br s.1.length (kn s)).getD k rw0).2.2,fun j=>c.getD j 0,fun k=>((br s.1.length (kn s)).getD k rw0).2.1⟩:=by
 unfold an kp
 simp only[hl,aO]
def EqS (s:Sy) (x:Nat→Rat):Prop:=∀i,i<s.1.length→(sq s.2.length fun j=>((Mx s i j:Int):Rat)*x j)=((bwS s i:Int):Rat)
theorem EO {s:Sy} {c:List Int} (hl:c.length=s.2.length) {x:Nat→Rat}:(an (kp s c)).Feas x↔(∀j,j<s.2.length→0≤x j)∧EqS s x:=by
 rw[KR s c hl]
 have er:∀i,i<s.1.length→(⟨s.2.length,s.1.length,fun k j=>((br s.1.length (kn s)).getD k rw0).1.getD j 0,fun k=>((br s.1.length (kn s)).getD k rw0).2.2,fun j=>c.getD j 0,fun k=>((br s.1.length (kn s)).getD k rw0).2.1⟩:Lin).row x i=sq s.2.length fun j=>((Mx s i j:Int):Rat)*x j:=fun i hi=>by
  unfold Lin.row
  refine eB fun j hj=>?_
  simp only[bt hi,kn,bt hj]
 constructor
 ·rintro ⟨h1,h2,h3⟩
  refine ⟨h1,fun i hi=>?_⟩
  have hk:((br s.1.length (kn s)).getD i rw0).2.1=3:=by rw[bt hi];rfl
  have hb:((br s.1.length (kn s)).getD i rw0).2.2=bwS s i:=by rw[bt hi];rfl
  have a1:=h2 i hi (by simp only[hk];omega)
  have a2:=h3 i hi (by simp only[hk];omega)
  rw[er i hi] at a1 a2
  simp only[hb] at a1 a2
  exact Rat.le_antisymm a1 a2
 ·rintro ⟨h1,h2⟩
  refine ⟨h1,fun i hi _=>?_,fun i hi _=>?_⟩
  ·have hb:((br s.1.length (kn s)).getD i rw0).2.2=bwS s i:=by rw[bt hi];rfl
   rw[er i hi,h2 i hi]
   simp only[hb]
   exact Rat.le_refl
  ·have hb:((br s.1.length (kn s)).getD i rw0).2.2=bwS s i:=by rw[bt hi];rfl
   rw[er i hi,h2 i hi]
   simp only[hb]
   exact Rat.le_refl
theorem mj {s:Sy}:(j7 s).length=s.2.length:=by unfold j7;rw[List.length_replicate]
theorem FW {s:Sy} (h:fu s=true) {a:Fq×List Fq×List Fq} {e:Int} (hs:aK (kp s (j7 s))=some (a,e,())):aJ s=some (bif decide (e=0) then a.2.1 else [],e,()):=by
 unfold aJ kx
 rw[va h,aa,hs]
 by_cases he:e=0
 ·subst he;rfl
 ·simp only[z8 he,aa]
  rfl
theorem E8 {s:Sy} (h:fu s=false) (hl:s.2.length≤1000000):aJ s=some ([],1,()):=by
 unfold aJ kx
 rw[wS h hl]
 rfl
theorem Bv {s:Sy} (h:fu s=true) {y:List Fq} {e:Int} (hs:bT (kp s (j7 s))=some (y,e,())):bI s=some (y,e,()):=by
 unfold bI iW
 rw[va h,aa,hs]
 rfl
theorem Av {s:Sy} (h:fu s=false) (hl:s.2.length≤1000000):bI s=some ([],1,()):=by
 unfold bI iW
 rw[wS h hl]
 rfl
end Go.Proofs.YtfknoaclabfdlaaGreat

namespace Go.Proofs.YtfknoaclabfdlaaGreat
noncomputable section
open Tryz Dn Dn.Sh
theorem JR {a:Fq} (ha:okF a):okF (-a.1,a.2)∧qv (-a.1,a.2)= - qv a:=by
 obtain ⟨⟨a1,a2⟩,⟨a3,a4⟩,a5⟩:=ha
 refine ⟨⟨⟨a1,a2⟩,⟨by simp only;omega,by simp only;omega⟩,by simpa using a5⟩,?_⟩
 simp only[qv]
 rw[Rat.neg_mkRat]
theorem JS {a b:Fq} (ha:okF a) (hb:okF b):gn a b=some (r0 (qv a - qv b)):=by
 obtain ⟨h2,h3⟩:=JR hb
 have hb':=hb
 obtain ⟨_,⟨b1,b2⟩,_⟩:=hb'
 have hw:IntKind.wrap .i64 (0 - b.1)= -b.1:=by rw[aU (by omega) (by omega)];omega
 simp only[gn,n3,lF,z7 ha,z7 hb,aa,Bool.not_true,Bool.not_false,Bool.or_true,cT,cF]
 rw[hw,BK ha h2,aa,h3,←Rat.sub_eq_add_neg]
theorem Mj (n:Int):cf n=some (n,1):=id rfl
theorem Hk {q:Rat} {n:Int} {a:Fq} (hq:dz q) (hn: -1152921504606846976≤n∧n≤1152921504606846976) (ha:okF a) :
  dj (prQ q) n a=some (if dz ((n:Rat)*qv a)∧dz (q+(n:Rat)*qv a) then (prQ (q+(n:Rat)*qv a),0,()) else ((0,0),5,())):=by
 have hm:=HJ (tA hn.1 hn.2) ha
 rw[xO] at hm
 simp only[dj,lh,Mj,aa,hm]
 rcases je ((n:Rat)*qv a) with ⟨f1,e1⟩ | ⟨f1,e1⟩
 ·have hA:=BK (kz hq) (kz f1)
  rw[mS,mS] at hA
  simp only[e1,decide_true,Bool.not_true,cF,hA,aa]
  rcases je (q+(n:Rat)*qv a) with ⟨f2,e2⟩ | ⟨f2,e2⟩
  ·rw[if_pos ⟨f1,f2⟩,e2]
  ·rw[if_neg fun h=>f2 h.2,e2]
 ·rw[if_neg fun h=>f1 h.1]
  simp only[e1]
  rfl
theorem FO {α R:Type} {F:(α→Option R)→α→Option R} {x:α} (n:Nat) (hn:n≤1180591620717411303423) (st:Nat→α) (p:Nat→Bool) {bad good:Option R} (hx:x=st 0) (hb:∀again i,i<n→F again (st i)=bif p i then again (st (i+1)) else bad) (hf:∀again,F again (st n)=good) :
  lpK α R F x=bif (List.range' 0 n).all p then good else bad:=by
 rw[hx]
 rcases qQ n (fun i=>!p i) with h | ⟨q,h1,h2,h3⟩
 ·have e:(List.range' 0 n).all p=true:=List.all_eq_true.2 fun i hi=>by
   obtain ⟨k,hk,rfl⟩:=List.mem_range'.1 hi
   have:=h (0+1*k) (by omega)
   simpa using this
  rw[e,cT]
  refine mO n hn st _ (fun again i hi=>?_) hf
  have:=h i hi
  rw[hb again i hi,show p i=true by simpa using this,cT]
 ·have e:(List.range' 0 n).all p=false:=by
   rw[Bool.eq_false_iff]
   intro hh
   rw[List.all_eq_true] at hh
   have:=hh q (ij h1)
   rw[this] at h2
   cases h2
  rw[e,cF]
  refine mO q (by omega) st _ (fun again i hi=>?_) (fun again=>?_)
  ·have:=h3 i hi
   rw[hb again i (by omega),show p i=true by simpa using this,cT]
  ·rw[hb again q h1,show p q=false by simpa using h2,cF]
def B3 (s:Sy) (l:List Fq) (i:Nat):Option Rat:=eE (br s.2.length (Mx s i)) l 0
def rz (s:Sy) (l:List Fq) (i:Nat):Rat:=((bwS s i:Int):Rat) - (B3 s l i).getD 0
def Cv (s:Sy) (l:List Fq) (i:Nat):Bool:=(B3 s l i).isSome&&decide (dz (rz s l i))
theorem rT {s:Sy} (h:fu s=true) {l:List Fq} (hl:l.length≤1000000):cN s l=some (bif okL l then bif decide (l.length=s.2.length) then (FG s,0,()) else ([],3,()) else ([],1,())):=by
 have hc:aj l (fun x=>cM x.1)=some (!okL l):=by
  rw[LN (p:=fun a=>!decide (okF a)) hl (fun a _=>by simp only[cM,iQ,lF,aa])]
  congr 1
  unfold okL
  rw[Bool.eq_iff_iff,Bool.not_eq_true',List.any_eq_true]
  constructor
  ·rintro ⟨a,ha,h1⟩
   rw[Bool.eq_false_iff]
   intro hh
   rw[List.all_eq_true] at hh
   rw[hh a ha] at h1
   cases h1
  ·intro hh
   rw[Bool.eq_false_iff] at hh
   apply Classical.byContradiction
   intro hn
   apply hh
   rw[List.all_eq_true]
   intro a ha
   cases hd:decide (okF a) with
   | true=>rfl
   | false=>exact (hn ⟨a,ha,by rw[hd];rfl⟩).elim
 unfold cN kc
 rw[DG h,aa,hc,aa]
 rw[show decide ((l.length:Int)=s.2.length)=decide (l.length=s.2.length) from decide_eq_decide.2 (by omega)]
 cases okL l with
 | false=>rfl
 | true=>cases decide (l.length=s.2.length)<;>rfl
theorem K8 {s:Sy} (h:fu s=true) {l:List Fq} (ho:∀a ∈ l,okF a) (hlen:l.length=s.2.length) :
  bh s l=bif (List.range' 0 s.1.length).all (Cv s l) then some (br s.1.length fun i=>prQ (rz s l i),0,()) else some ([],5,()):=by
 have hV:=iw h
 have hb:=hV.bl
 have hr:=hV.rl
 have hz:cf 0=some (prQ 0):=rfl
 unfold bh eA
 rw[rT h (by omega),aa,qA.2 ho,z7 hlen]
 simp only[cT,decide_true,Bool.not_true,cF]
 unfold FG
 refine FO s.1.length (by omega) (fun i=>(br i (fun i=>prQ (rz s l i)),(0:Int),(i:Int),PUnit.unit)) (Cv s l) rfl (fun again i hi=>?_) (fun again=>?_)
 ·obtain ⟨out,hout⟩:∃out,out=br i (fun i=>prQ (rz s l i)):=⟨_,rfl⟩
  have hol:out.length=i:=by rw[hout,aO]
  have hnx:br (i+1) (fun i=>prQ (rz s l i))=out++[prQ (rz s l i)]:=by rw[hout,qq]
  simp only[hnx,←hout]
  have hM:(pW s.1.length s.2.length (Mx s)).getD i []=br s.2.length (Mx s i):=mE hi
  have hwt:=hV.wt i hi
  have hlr:(br s.2.length (Mx s i)).length=s.2.length:=aO
  simp only[gb,a8,z7 hi,z7 (show (i:Int)<s.1.length by omega),cT,z9,hM,hz,aa]
  refine (l9 (α:=Int×Fq×PUnit) (br s.2.length (Mx s i)).length (by omega) (fun k (q:{q:Rat // dz q})=>((k:Int),prQ q.1,PUnit.unit))
   (fun k q K=>if h:dz ((((br s.2.length (Mx s i)).getD k 0:Int):Rat)*qv (l.getD k (0,0)))∧dz (q.1+(((br s.2.length (Mx s i)).getD k 0:Int):Rat)*qv (l.getD k (0,0))) then K ⟨_,h.2⟩ else some ([],5,()))
   (fun q=>bif decide (dz (((bwS s i:Int):Rat) - q.1)) then again (out++[prQ (((bwS s i:Int):Rat) - q.1)],0,((i+1:Nat):Int),PUnit.unit) else some ([],5,())) ?_ ?_ ⟨0,by decide⟩).trans ?_
  ·intro again1 k q hk
   rw[hlr] at hk
   obtain ⟨q,hq⟩:=q
   have hkl:k<l.length:=by omega
   have ha:okF (l.getD k (0,0)):=by rw[bf hkl];exact ho _ (List.getElem_mem _)
   have hg:(br s.2.length (Mx s i)).getD k 0=Mx s i k:=bt hk
   have hbd:=Ab hV i hk
   have hp:=Hk (n:=Mx s i k) hq (by omega) ha
   simp only[a8,aO,z7 hk,z7 hkl,z7 (show (k:Int)<l.length by omega),cT,z9,hg,hp,aa,eS (show k≤1000000 by omega)]
   by_cases c:dz ((Mx s i k:Rat)*qv (l.getD k (0,0)))∧dz (q+(Mx s i k:Rat)*qv (l.getD k (0,0)))
   ·rw[dif_pos c,if_pos c]
    simp only[decide_true,Bool.not_true,cF]
   ·rw[dif_neg c,if_neg c]
    rfl
  ·intro again1 q
   obtain ⟨q,hq⟩:=q
   have hS:=JS (tA (n:=bwS s i) (by omega) (by omega)) (kz hq)
   rw[xO,mS] at hS
   have hwS:cf (List.getD s.1 i ({ data:={ toList:=[] } },(0:Int))).2=some (bwS s i,1):=rfl
   simp only[hlr,hlen,z8 (show ¬ (s.2.length:Int)<s.2.length by omega),cF,hwS,aa,hS]
   rcases je (((bwS s i:Int):Rat) - q) with ⟨f2,e2⟩ | ⟨f2,e2⟩
   ·rw[z7 f2]
    simp only[e2,decide_true,Bool.not_true,cF,cT,eS (show i≤1000000 by omega),fk (show (out.length+1)*16≤140737488355328 by omega)]
   ·rw[z8 f2]
    simp only[e2]
    rfl
  ·rw[CU (cur:=fun q:{q:Rat // dz q}=>q.1) (bad:=some ([],5,())) (good:=fun q=>bif decide (dz (((bwS s i:Int):Rat) - q)) then again (out++[prQ (((bwS s i:Int):Rat) - q)],0,((i+1:Nat):Int),PUnit.unit) else some ([],5,())) (l:=br s.2.length (Mx s i)) (x:=l) (by omega) (fun k q h=>⟨_,h⟩) (fun _ _ _=>rfl) (fun _ _ _ _=>rfl) (fun _=>rfl) (br s.2.length (Mx s i)).length 0 ⟨0,by decide⟩ (by omega)]
   simp only[List.drop_zero]
   rw[show eE (br s.2.length (Mx s i)) l 0=B3 s l i from rfl]
   unfold Cv rz
   cases hq:B3 s l i with
   | none=>rfl
   | some q=>rfl
 ·simp only[gb,z8 (show ¬ (s.1.length:Int)<s.1.length by omega),cF,decide_true,Bool.not_true]
open Tryz Dn Dn.Sh
def eqB (s:Sy) (l:List Fq):Bool:=(List.range' 0 s.1.length).all fun i=>decide (rz s l i=0)
def rR (s:Sy) (l:List Fq):Bool:=(List.range' 0 s.1.length).all (Cv s l)
theorem De {q:Rat}:(prQ q).1=0↔q=0:=Rat.num_eq_zero
theorem FD {s:Sy} (h:fu s=true) {l:List Fq} (hl:l.length≤1000000):bD s l=some (bif okL l then bif decide (l.length=s.2.length) then bif rR s l then (eqB s l,0,()) else (false,5,()) else (false,3,()) else (false,1,())):=by
 unfold bD km
 cases ho:okL l with
 | false =>
  have hr:bh s l=some ([],1,()):=by
   unfold bh eA
   rw[rT h hl,aa,ho]
   rfl
  rw[hr]
  rfl
 | true =>
  by_cases hn:l.length=s.2.length
  ·have hb:=(iw h).bl
   rw[K8 h (qA.1 ho) hn,z7 hn]
   rw[show ((List.range' 0 s.1.length).all (Cv s l))=rR s l from rfl]
   cases hr:rR s l with
   | false=>rfl
   | true =>
    have hc:aj (br s.1.length fun i=>prQ (rz s l i)) (fun x=>cL x.1)=some (!eqB s l):=by
     rw[LN (p:=fun a=>!decide (a.1=0)) (by rw[aO];omega) (fun a _=>by simp only[cL,iY])]
     congr 1
     unfold eqB
     rw[Bool.eq_iff_iff,List.any_eq_true,Bool.not_eq_true',Bool.eq_false_iff,Ne,List.all_eq_true]
     constructor
     ·rintro ⟨a,ha,h1⟩ hh
      obtain ⟨i,hi,rfl⟩:=oj.1 ha
      have:=z12 (hh i (ij hi))
      rw[z7 (De.2 this)] at h1
      cases h1
     ·intro hh
      apply Classical.byContradiction
      intro hn
      apply hh
      intro i hi
      obtain ⟨k,hk,rfl⟩:=List.mem_range'.1 hi
      refine z7 (Classical.byContradiction fun h0=>hn ⟨prQ (rz s l (0+1*k)),oj.2 ⟨_,by omega,rfl⟩,?_⟩)
      rw[z8 fun e=>h0 (De.1 e)]
      rfl
    simp only[cT,aa,decide_true,Bool.not_true,cF,hc,Bool.not_not]
  ·have hr:bh s l=some ([],3,()):=by
    unfold bh eA
    rw[rT h hl,aa,ho,z8 hn]
    rfl
   rw[hr,z8 hn]
   rfl
theorem Ke {s:Sy} {l:List Fq} (hn:l.length=s.2.length) (hr:rR s l=true):eqB s l=true↔EqS s (vX l):=by
 unfold rR at hr
 unfold eqB
 rw[List.all_eq_true] at hr ⊢
 have e:∀i,i<s.1.length→rz s l i=((bwS s i:Int):Rat) - sq s.2.length fun j=>((Mx s i j:Int):Rat)*vX l j:=fun i hi=>by
  have h1:=hr i (ij hi)
  unfold Cv at h1
  rw[z10] at h1
  have h2:=oE (l:=br s.2.length (Mx s i)) (x:=l) (by rw[aO];omega) h1.1
  unfold rz B3
  rw[h2,aO]
  congr 1
  exact eB fun j hj=>by rw[bt hj]
 constructor
 ·intro h i hi
  have h1:=z12 (h i (ij hi))
  rw[e i hi] at h1
  grind
 ·intro h i hi
  obtain ⟨k,hk,rfl⟩:=List.mem_range'.1 hi
  refine z7 ?_
  have h1:=h (0+1*k) (by omega)
  rw[e _ (by omega),h1]
  grind
theorem Cg {s:Sy} (h:fu s=true) {c:List Int} (hc:c.length=s.2.length) {l:List Fq} (ho:∀a ∈ l,okF a) (hn:l.length=s.2.length) (hf:Aj (kp s c) l=true) (hF:(an (kp s c)).Feas (vX l)):bD s l=some (true,0,()):=by
 have hr:=(iw h).rl
 obtain ⟨hpos,hE⟩:=(EO hc).1 hF
 have hsome:∀i,i<s.1.length→(B3 s l i).isSome=true:=fun i hi=>by
  unfold Aj at hf
  rw[List.all_eq_true] at hf
  exact hf (kn s i) (oj.2 ⟨i,hi,rfl⟩)
 have h0:∀i,i<s.1.length→rz s l i=0:=fun i hi=>by
  have h2:=oE (l:=br s.2.length (Mx s i)) (x:=l) (by rw[aO];omega) (hsome i hi)
  unfold rz B3
  rw[h2,aO,eB (g:=fun j=>((Mx s i j:Int):Rat)*vX l j) fun j hj=>by rw[bt hj],hE i hi]
  grind
 have hall:rR s l=true:=List.all_eq_true.2 fun i hi=>by
  obtain ⟨k,hk,rfl⟩:=List.mem_range'.1 hi
  unfold Cv
  rw[hsome _ (by omega),h0 _ (by omega)]
  rfl
 rw[FD h (by omega),qA.2 ho,z7 hn,hall,(Ke hn hall).2 hE]
 rfl
theorem J2 (l:List Fq) (hl:l.length≤1000000):bz l=some (l.all fun a=>!decide (a.1<0)):=by
 simp only[bz,jA]
 refine (o0 (p:=fun a:Fq=>!decide (a.1<0)) (d:=(0,0)) (l:=l) (no:=some false) (yes:=some true) hl ?_ ?_).trans ?_
 ·intro again i hi
  simp only[a8,z7 hi,z7 (show (i:Int)<l.length by omega),cT,z9,eS (show i≤1000000 by omega)]
  cases decide ((l.getD i (0,0)).1<0)<;>rfl
 ·intro again
  simp only[z8 (show ¬ (l.length:Int)<l.length by omega),cF]
 ·cases l.all (fun a=>!decide (a.1<0))<;>rfl
theorem JD {l:List Fq} (ho:∀a ∈ l,okF a):(l.all fun a=>!decide (a.1<0))=true↔∀j,j<l.length→0≤vX l j:=by
 rw[C1 (0,0)]
 constructor
 ·intro h j hj
  have h1:=h j hj
  rw[Bool.not_eq_true',decide_eq_false_iff_not] at h1
  exact (lr (ho _ (by rw[bf hj];exact List.getElem_mem _))).2 (by omega)
 ·intro h j hj
  have h1:=(lr (ho (l.getD j (0,0)) (by rw[bf hj];exact List.getElem_mem _))).1 (h j hj)
  rw[Bool.not_eq_true',decide_eq_false_iff_not]
  omega
theorem Cm {s:Sy} {r:Nat→Rat} (h:(an (kp s (j7 s))).Ray r):False:=by
 have h1:=h.val
 have h2:0≤(an (kp s (j7 s))).val r:=EC fun j hj=>by
  have hj':j<s.2.length:=by have:j<(j7 s).length:=hj;rw[mj] at this;exact this
  have e:(an (kp s (j7 s))).c j=1:=by
   show (j7 s).getD j 0=1
   rw[bf (by rw[mj];exact hj')]
   unfold j7
   exact List.getElem_replicate _
  rw[e]
  have:=h.pos j hj
  grind
 grind
theorem B1 (s:Sy):jm s=some true:=by
 have hi:∀e0:Bool,(!e0||e0)=true:=fun e0=>by cases e0<;>rfl
 have hj:∀e0:Bool,(e0||!e0)=true:=fun e0=>by cases e0<;>rfl
 simp only[jm,ic,Eg,M6,aa,Bool.not_true,cF,List.length_nil,z7 (show 0≤10 by omega),Bool.and_true]
 cases hs:nc s with
 | false=>rfl
 | true =>
  have hl:=Cs hs
  simp only[Bool.not_true,cF]
  cases hv:fu s with
  | false =>
   simp only[E8 hv (show s.2.length≤1000000 by omega),Av hv (show s.2.length≤1000000 by omega),aa]
   rfl
  | true =>
   have hV:=iw hv
   have hr:=hV.rl
   have hp:=Gk hV
   obtain ⟨a,e,h1,h2⟩:=Mu hp
   obtain ⟨y,f,h3,h4⟩:=BT (kp s (j7 s))
   simp only[FW hv h1,Bv hv h3,aa]
   have hvp:=gC.2 hp
   rcases h2 with ⟨rfl,rfl,hf⟩ | ⟨rfl,rfl,hf,y0,hy0⟩ | ⟨_,_,_,_,r,hr⟩ | ⟨rfl,hf,v,_,_,hlen,ho,hfx,_,hF,_⟩
   ·rcases h4 with ⟨_,_,h⟩ | ⟨rfl,rfl,_⟩ | ⟨_,_,_,h,_⟩ | ⟨_,_,h,_⟩
    ·rw[hvp] at h;cases h
    ·rfl
    ·exact (hf h).elim
    ·exact (hf h).elim
   ·rcases h4 with ⟨_,_,h⟩ | ⟨_,_,_,h⟩ | ⟨_,_,_,_,x,hx⟩ | ⟨rfl,_,_,hly,hR,_⟩
    ·rw[hvp] at h;cases h
    ·exact (h hf).elim
    ·exact (hy0.none hx).elim
    ·have hpv:aM s y=some (true,0,()):=by
      rw[B4 hv,hR]
      rfl
     simp only[hpv,aa]
     rfl
   ·exact (Cm hr).elim
   ·rcases h4 with ⟨_,_,h⟩ | ⟨_,_,_,h⟩ | ⟨rfl,rfl,_⟩ | ⟨_,_,_,_,_,y1,hy1⟩
    ·rw[hvp] at h;cases h
    ·exact (h hf).elim
    ·have hlen':a.2.1.length=s.2.length:=hlen.trans mj
     have hc:=Cg hv mj ho hlen' hfx hF
     have hpos:(a.2.1.all fun a=>!decide (a.1<0))=true:=(JD ho).2 fun j hj=>hF.pos j (by show j<(j7 s).length;rw[mj];omega)
     simp only[decide_true,cT,hc,J2 a.2.1 (show a.2.1.length≤1000000 by omega),hpos,aa]
     rfl
    ·exact (hy1.none hF).elim
end
end Go.Proofs.YtfknoaclabfdlaaGreat
