/- Linear programs over the rationals: what points and multipliers prove; and what tables of the simplex method prove. How great the numbers of a program's tables may get: the product of the rows' factors. Tables of programs: how great the numbers of the artificial columns may get. Tables of numbers as lists of rows, and loops over them. Systems: the matrix of both programs. Programs: sums of numbers times fractions. Programs: which points are feasible, as the program tells it. Systems: their programs, as both programs make them. Programs: feasible points and values, in both programs. The law ProgramForms. Programs: columns and right sides. Programs: the signs of multipliers. Programs: sums of columns below numbers; refutations. Programs: refutations, as the program tells them. Programs: refutations, as they are specified. Programs: refutations are the same in both programs. Systems: the law SlackPrograms. Programs: products of two numbers, their differences and quotients. Programs: a step of the table. Programs: the row that leaves, the sums of artificial rows, and the reduced costs. Programs: the sums of artificial rows, and the reduced costs. Programs: improving a table to the least value. Programs: finding a feasible basis. Programs: the first table. Programs: which programs fit. Programs: what Solve answers. Programs: what Farkas answers. Programs: answers that are proved, in both programs. Programs: points, multipliers and refutations are those of the theory. Programs: the sums of what the solver returns fit, so that its answers are accepted. Programs: what the solver says of a program; the law ProgramBeats. Programs, as they are specified: the layout of the table, and a step of it. Programs, as they are specified: steps until the last row has no negative number. Programs, as they are specified: artificial variables leave the basis. Programs, as they are specified: the first table. Programs, as they are specified: the least value. Programs: the law ProgramSolves. Systems: what the solver says of their programs. Systems: the law SlackLeast. -/
import Derived.KernelRfl
import Derived.Test.YtfknoaclabfdlaaGreatMgN

namespace Go.Proofs.YtfknoaclabfdlaaGreat
namespace Dn
def sq:Nat->(Nat->Rat)->Rat
 | 0,_=>0
 | n+1,f=>sq n f+f n
theorem iR:∀{n:Nat} {f g:Nat->Rat},(∀i,i<n->f i=g i)->sq n f=sq n g
 | 0,_,_,_=>rfl
 | n+1,f,g,h=>by
  simp only[sq]
  rw[iR (n:=n) fun i hi=>h i (by omega),h n (by omega)]
theorem KB:∀{n:Nat} {f g:Nat->Rat},sq n (fun i=>f i+g i)=sq n f+sq n g
 | 0,_,_=>by simp only[sq];grind
 | n+1,f,g=>by
  simp only[sq]
  rw[KB]
  grind
theorem Ae:∀{n:Nat} {c:Rat} {f:Nat->Rat},sq n (fun i=>c*f i)=c*sq n f
 | 0,c,_=>by simp[sq]
 | n+1,c,f=>by
  simp only[sq]
  rw[Ae]
  grind
theorem vP:∀{n:Nat} {f:Nat->Rat},(∀i,i<n->f i=0)->sq n f=0
 | 0,_,_=>rfl
 | n+1,f,h=>by
  simp only[sq]
  rw[vP fun i hi=>h i (by omega),h n (by omega)]
  grind
theorem Br:∀{n:Nat} {f g:Nat->Rat},(∀i,i<n->f i<=g i)->sq n f<=sq n g
 | 0,_,_,_=>Rat.le_refl
 | n+1,f,g,h=>by
  simp only[sq]
  have:=Br (n:=n) fun i hi=>h i (by omega)
  have:=h n (by omega)
  grind
theorem FB:∀{m n:Nat} {f:Nat->Nat->Rat},sq m (fun i=>sq n (fun j=>f i j))=sq n (fun j=>sq m (fun i=>f i j))
 | 0,n,f=>by
  simp only[sq]
  exact (vP fun _ _=>rfl).symm
 | m+1,n,f=>by
  simp only[sq]
  rw[FB,KB]
theorem A0:∀{n:Nat} {f:Nat->Int},sq n (fun i=>(f i:Rat))=((sz n f:Int):Rat)
 | 0,_=>rfl
 | n+1,f=>by
  simp only[sq,sz]
  rw[A0,Rat.intCast_add]
structure Lin where
 n:Nat
 m:Nat
 A:Nat->Nat->Int
 b:Nat->Int
 c:Nat->Int
 kd:Nat->Int
def Lin.row (L:Lin) (x:Nat->Rat) (k:Nat):Rat:=sq L.n fun j=>(L.A k j:Rat)*x j
def Lin.col (L:Lin) (y:Nat->Rat) (j:Nat):Rat:=sq L.m fun k=>(L.A k j:Rat)*y k
def Lin.val (L:Lin) (x:Nat->Rat):Rat:=sq L.n fun j=>(L.c j:Rat)*x j
def Lin.rhs (L:Lin) (y:Nat->Rat):Rat:=sq L.m fun k=>(L.b k:Rat)*y k
structure Lin.Feas (L:Lin) (x:Nat->Rat):Prop where
 pos:∀j,j<L.n->0<=x j
 most:∀k,k<L.m->L.kd k≠2->L.row x k<=L.b k
 least:∀k,k<L.m->L.kd k≠1->(L.b k:Rat)<=L.row x k
structure Lin.Sgn (L:Lin) (y:Nat->Rat):Prop where
 most:∀k,k<L.m->L.kd k=1->y k<=0
 least:∀k,k<L.m->L.kd k=2->0<=y k
structure Lin.Dual (L:Lin) (y:Nat->Rat):Prop extends L.Sgn y where
 col:∀j,j<L.n->L.col y j<=L.c j
structure Lin.Ref (L:Lin) (y:Nat->Rat):Prop extends L.Sgn y where
 col:∀j,j<L.n->L.col y j<=0
 rhs:0<L.rhs y
structure Lin.Ray (L:Lin) (r:Nat->Rat):Prop where
 pos:∀j,j<L.n->0<=r j
 most:∀k,k<L.m->L.kd k≠2->L.row r k<=0
 least:∀k,k<L.m->L.kd k≠1->0<=L.row r k
 val:L.val r<0
section
variable {L:Lin}
theorem Lin.swap (x y:Nat->Rat):sq L.n (fun j=>L.col y j*x j)=sq L.m (fun k=>y k*L.row x k):=by
 have e1:sq L.n (fun j=>L.col y j*x j)=sq L.n (fun j=>sq L.m fun k=>(L.A k j:Rat)*y k*x j):=iR fun j _=>by
  unfold Lin.col
  rw[<-Ae (c:=x j) |>fun h=>(by rw[h];grind:(sq L.m fun k=>x j*((L.A k j:Rat)*y k))=sq L.m (fun k=>(L.A k j:Rat)*y k)*x j)]
  exact iR fun k _=>by grind
 rw[e1,FB]
 refine iR fun k _=>?_
 unfold Lin.row
 rw[<-Ae]
 exact iR fun j _=>by grind
theorem RH {y r b:Rat} (h:(y<=0/\r<=b)\/(0<=y/\b<=r)\/r=b):b*y<=y*r:=by
 rcases h with ⟨h1,h2⟩ | ⟨h1,h2⟩ | h
 ·have:0<=(-y)*(b - r):=Rat.mul_nonneg (by grind) (by grind)
  grind
 ·have:0<=y*(r - b):=Rat.mul_nonneg h1 (by grind)
  grind
 ·subst h;grind
theorem Lin.Sgn.rows {x y:Nat->Rat} (h:L.Sgn y) {b:Nat->Rat} (h1:∀k,k<L.m->L.kd k≠2->L.row x k<=b k) (h2:∀k,k<L.m->L.kd k≠1->b k<=L.row x k):sq L.m (fun k=>b k*y k)<=sq L.m (fun k=>y k*L.row x k):=Br fun k hk=>by
 apply RH
 by_cases e1:L.kd k=1
 ·exact .inl ⟨h.most k hk e1,h1 k hk (by omega)⟩
 ·by_cases e2:L.kd k=2
  ·exact .inr (.inl ⟨h.least k hk e2,h2 k hk e1⟩)
  ·have a1:=h1 k hk e2
   have a2:=h2 k hk e1
   exact .inr (.inr (Rat.le_antisymm a1 a2))
theorem Lin.weak {x y:Nat->Rat} (hx:L.Feas x) (hy:L.Dual y):L.rhs y<=L.val x:=by
 have h1:=hy.rows (x:=x) (b:=fun k=>(L.b k:Rat)) hx.most hx.least
 rw[<-L.swap x y] at h1
 refine Rat.le_trans h1 (Br fun j hj=>?_)
 exact Rat.mul_le_mul_of_nonneg_right (hy.col j hj) (hx.pos j hj)
theorem Lin.Ref.none {x y:Nat->Rat} (hy:L.Ref y) (hx:L.Feas x):False:=by
 have h1:=hy.rows (x:=x) (b:=fun k=>(L.b k:Rat)) hx.most hx.least
 rw[<-L.swap x y] at h1
 have h2:sq L.n (fun j=>L.col y j*x j)<=sq L.n (fun _=>0):=Br fun j hj=>by
  have:0<=(-L.col y j)*x j:=Rat.mul_nonneg (by have:=hy.col j hj;grind) (hx.pos j hj)
  grind
 rw[vP (f:=fun _=>0) fun _ _=>rfl] at h2
 have h3:=hy.rhs
 unfold Lin.rhs at h3
 grind
theorem Lin.Ray.none {r y:Nat->Rat} (hr:L.Ray r) (hy:L.Dual y):False:=by
 have h1:=hy.rows (x:=r) (b:=fun _=>0) hr.most hr.least
 rw[<-L.swap r y,vP (f:=fun k=>0*y k) fun k _=>by grind] at h1
 have h2:sq L.n (fun j=>L.col y j*r j)<=L.val r:=Br fun j hj=>Rat.mul_le_mul_of_nonneg_right (hy.col j hj) (hr.pos j hj)
 have h3:=hr.val
 grind
end
structure Lay where
 N:Nat
 sl:Nat->Nat
 σ:Nat->Int
def Lay.M (Y:Lay) (L:Lin) (k j:Nat):Int :=
 if j<L.n then Y.σ k*L.A k j else if j<Y.N then (if L.kd k≠3/\j=Y.sl k then Y.σ k*(if L.kd k=1 then 1 else -1) else 0) else if j<Y.N+L.m then (if j=Y.N+k then 1 else 0) else Y.σ k*L.b k
structure Lay.ok (Y:Lay) (L:Lin):Prop where
 n:L.n<=Y.N
 kd:∀k,k<L.m->L.kd k=1\/L.kd k=2\/L.kd k=3
 sl:∀k,k<L.m->L.kd k≠3->L.n<=Y.sl k/\Y.sl k<Y.N
 inj:∀k l,k<L.m->l<L.m->L.kd k≠3->L.kd l≠3->Y.sl k=Y.sl l->k=l
 sg:∀k,k<L.m->Y.σ k=1\/Y.σ k= -1
 b:∀k,k<L.m->0<=Y.σ k*L.b k
abbrev Lay.R (Y:Lay) (L:Lin):Nat:=Y.N+L.m
abbrev Lay.w (Y:Lay) (L:Lin):Nat:=Y.N+L.m+1
section
variable {L:Lin} {Y:Lay}
theorem Lay.M_x {k j:Nat} (hj:j<L.n):Y.M L k j=Y.σ k*L.A k j:=by unfold Lay.M;rw[if_pos hj]
theorem Lay.M_sl (h:Y.ok L) {k:Nat} (hk:k<L.m) (h3:L.kd k≠3):Y.M L k (Y.sl k)=Y.σ k*(if L.kd k=1 then 1 else -1):=by
 obtain ⟨h1,h2⟩:=h.sl k hk h3
 unfold Lay.M
 rw[if_neg (by omega),if_pos h2,if_pos ⟨h3,rfl⟩]
theorem Lay.M_slo {k j:Nat} (h1:L.n<=j) (h2:j<Y.N) (h:¬ (L.kd k≠3/\j=Y.sl k)):Y.M L k j=0:=by
 unfold Lay.M
 rw[if_neg (by omega),if_pos h2,if_neg h]
theorem Lay.M_a (h:Y.ok L) {k i:Nat} (hi:i<L.m):Y.M L k (Y.N+i)=if k=i then 1 else 0:=by
 have:=h.n
 unfold Lay.M
 rw[if_neg (by omega),if_neg (by omega),if_pos (by omega)]
 by_cases e:k=i
 ·rw[if_pos e,if_pos (by omega)]
 ·rw[if_neg e,if_neg (by omega)]
theorem Lay.M_R (h:Y.ok L) {k:Nat}:Y.M L k (Y.R L)=Y.σ k*L.b k:=by
 have:=h.n
 unfold Lay.M Lay.R
 rw[if_neg (by omega),if_neg (by omega),if_neg (by omega)]
theorem Lay.ss (h:Y.ok L) {k:Nat} (hk:k<L.m):Y.σ k*Y.σ k=1:=by
 rcases h.sg k hk with e | e<;>rw[e]<;>rfl
theorem Lay.ss' (h:Y.ok L) {k:Nat} (hk:k<L.m) (x:Int):Y.σ k*(Y.σ k*x)=x:=by rw[<-Int.mul_assoc,Lay.ss h hk,Int.one_mul]
abbrev Lay.Val (Y:Lay) (L:Lin) (S:Sx):Prop:=Dn.Val L.m (Y.w L) Y.N (Y.R L) (Y.M L) S
theorem Lay.art (h:Y.ok L):(∀i,i<L.m->Y.N+i<Y.w L)/\∀k,k<L.m->∀i,i<L.m->Y.M L k (Y.N+i)=if k=i then 1 else 0 :=
 ⟨fun i hi=>by unfold Lay.w;omega,fun k _ i hi=>Lay.M_a h hi⟩
theorem Lay.first (h:Y.ok L):Y.Val L ⟨Y.M L,1,fun i=>Y.N+i⟩:=by
 refine ⟨Tb.first (Lay.art h).1 (Lay.art h).2,fun i hi=>?_,fun i hi=>?_⟩
 ·show 0<=Y.M L i (Y.R L)
  rw[Lay.M_R h]
  exact h.b i hi
 ·show Y.N+i≠Y.N+L.m
  omega
def uG (m R:Nat) (S:Sx) (j:Nat):Int:=sz m fun i=>if S.β i=j then S.T i R else 0
theorem mS {S:Sx} (hv:Y.Val L S) (j:Nat):0<=uG L.m (Y.R L) S j:=i9 fun i hi=>by
 split
 ·exact hv.feas i hi
 ·exact Int.le_refl _
theorem um {m n:Nat} {β:Nat->Nat} {t f:Nat->Int}:(sz m fun i=>if β i<n then t i*f (β i) else 0)=sz n fun j=>f j*sz m fun i=>if β i=j then t i else 0:=by
 have e:∀i,i<m->(if β i<n then t i*f (β i) else 0)=sz n fun j=>if β i=j then t i*f j else 0:=fun i _=>by
  by_cases h:β i<n
  ·rw[if_pos h,fb h fun j _ hne=>if_neg (Ne.symm hne),if_pos rfl]
  ·rw[if_neg h,fW fun j hj=>if_neg (by omega)]
 rw[bg e,tW]
 refine bg fun j _=>?_
 rw[<-ga]
 refine bg fun i _=>?_
 split
 ·rw[Int.mul_comm]
 ·rw[Int.mul_zero]
def Cf (m N:Nat) (S:Sx) (q:Nat):Prop:=∀i,i<m->N<=S.β i->S.T i q=0
theorem My (h:Y.ok L) {S:Sx} (hv:Y.Val L S) {q k:Nat} (hq:q<Y.w L) (hk:k<L.m) (ha:Cf L.m Y.N S q) :
  S.d*(Y.σ k*Y.M L k q)=(sz L.n fun j=>L.A k j*sz L.m fun i=>if S.β i=j then S.T i q else 0)+(if L.kd k≠3 then (if L.kd k=1 then 1 else -1)*sz L.m (fun i=>if S.β i=Y.sl k then S.T i q else 0) else 0):=by
 have h1:=hv.tb.co k hk q hq
 have e1:∀i,i<L.m->S.T i q*Y.M L k (S.β i)=(if S.β i<L.n then S.T i q*(Y.σ k*L.A k (S.β i)) else 0)+(if L.kd k≠3 then (Y.σ k*(if L.kd k=1 then 1 else -1))*(if S.β i=Y.sl k then S.T i q else 0) else 0):=fun i hi=>by
  by_cases c1:S.β i<L.n
  ·rw[if_pos c1,Lay.M_x c1]
   by_cases c2:L.kd k≠3
   ·rw[if_pos c2,if_neg (show ¬ S.β i=Y.sl k by have:=(h.sl k hk c2).1;omega)];omega
   ·rw[if_neg c2];omega
  ·rw[if_neg c1]
   by_cases c3:S.β i<Y.N
   ·by_cases c4:L.kd k≠3/\S.β i=Y.sl k
    ·rw[c4.2,Lay.M_sl h hk c4.1,if_pos c4.1,if_pos rfl,Int.mul_comm];omega
    ·rw[Lay.M_slo (by omega) c3 c4]
     by_cases c2:L.kd k≠3
     ·rw[if_pos c2,if_neg (show ¬ S.β i=Y.sl k from fun e=>c4 ⟨c2,e⟩)];omega
     ·rw[if_neg c2];omega
   ·rw[ha i hi (by omega)]
    by_cases c2:L.kd k≠3
    ·rw[if_pos c2,if_neg (show ¬ S.β i=Y.sl k by have:=(h.sl k hk c2).2;omega)];omega
    ·rw[if_neg c2];omega
 rw[bg e1,pW,um (f:=fun j=>Y.σ k*L.A k j)] at h1
 have e2:(sz L.m fun i=>if L.kd k≠3 then (Y.σ k*(if L.kd k=1 then 1 else -1))*(if S.β i=Y.sl k then S.T i q else 0) else 0)=Y.σ k*(if L.kd k≠3 then (if L.kd k=1 then 1 else -1)*sz L.m (fun i=>if S.β i=Y.sl k then S.T i q else 0) else 0):=by
  by_cases c2:L.kd k≠3
  ·simp only[c2,not_false_eq_true,if_true,ne_eq]
   rw[ga,Int.mul_assoc]
  ·have c2:L.kd k=3:=by omega
   simp only[c2,ne_eq,not_true_eq_false,if_false]
   rw[fW fun _ _=>rfl,Int.mul_zero]
 have e3:(sz L.n fun j=>Y.σ k*L.A k j*sz L.m fun i=>if S.β i=j then S.T i q else 0)=Y.σ k*sz L.n fun j=>L.A k j*sz L.m fun i=>if S.β i=j then S.T i q else 0:=by
  rw[<-ga]
  exact bg fun j _=>by rw[Int.mul_assoc]
 rw[e2,e3,<-Int.mul_add] at h1
 have h2:=Lay.ss h hk
 have:S.d*(Y.σ k*Y.M L k q)=Y.σ k*(S.d*Y.M L k q):=by grind
 rw[this,h1,<-Int.mul_assoc,h2,Int.one_mul]
theorem Au {x y d:Int} (hd:0<d) (h:x<=y*d):(x:Rat) / (d:Rat)<=(y:Rat):=by
 have hd':(0:Rat)<(d:Rat):=by have:=Rat.intCast_lt_intCast.2 hd;simpa using this
 have h':(x:Rat)<=(y:Rat)*(d:Rat):=by rw[<-Rat.intCast_mul];exact Rat.intCast_le_intCast.2 h
 refine Rat.le_of_mul_le_mul_right ?_ hd'
 have:(x:Rat) / (d:Rat)*(d:Rat)=(x:Rat):=by grind
 rw[this]
 exact h'
theorem EK {x y d:Int} (hd:0<d) (h:y*d<=x):(y:Rat)<=(x:Rat) / (d:Rat):=by
 have hd':(0:Rat)<(d:Rat):=by have:=Rat.intCast_lt_intCast.2 hd;simpa using this
 have h':(y:Rat)*(d:Rat)<=(x:Rat):=by rw[<-Rat.intCast_mul];exact Rat.intCast_le_intCast.2 h
 refine Rat.le_of_mul_le_mul_right ?_ hd'
 have:(x:Rat) / (d:Rat)*(d:Rat)=(x:Rat):=by grind
 rw[this]
 exact h'
theorem OC {x d:Rat} (hx:0<x) (hd:0<d):0<x / d:=by
 have e:x / d*d=x:=by grind
 refine Rat.not_le.1 fun h=>?_
 have h1:=Rat.mul_le_mul_of_nonneg_right h (Rat.le_of_lt hd)
 rw[e,Rat.zero_mul] at h1
 exact Rat.not_le.2 hx h1
theorem qP {n:Nat} {a X:Nat->Int} {d:Int} (hd:0<d):sq n (fun j=>(a j:Rat)*((X j:Rat) / (d:Rat)))=((sz n fun j=>a j*X j:Int):Rat) / (d:Rat):=by
 have hd':(0:Rat)<(d:Rat):=by have:=Rat.intCast_lt_intCast.2 hd;simpa using this
 have e:sq n (fun j=>(a j:Rat)*((X j:Rat) / (d:Rat)))=sq n (fun j=>(1 / (d:Rat))*((a j*X j:Int):Rat)):=iR fun j _=>by
  rw[Rat.intCast_mul]
  grind
 rw[e,Ae,A0]
 grind
def AW (m R:Nat) (S:Sx) (j:Nat):Rat:=(uG m R S j:Rat) / (S.d:Rat)
theorem oJ (h:Y.ok L) {S:Sx} (hv:Y.Val L S) (ha:Cf L.m Y.N S (Y.R L)):L.Feas (AW L.m (Y.R L) S):=by
 have hd:=hv.tb.dpos
 have row:∀k,k<L.m->S.d*L.b k=(sz L.n fun j=>L.A k j*uG L.m (Y.R L) S j)+(if L.kd k≠3 then (if L.kd k=1 then 1 else -1)*uG L.m (Y.R L) S (Y.sl k) else 0):=fun k hk=>by
  have h1:=My h hv (q:=Y.R L) (by unfold Lay.R Lay.w;omega) hk ha
  rw[Lay.M_R h,Lay.ss' h hk] at h1
  exact h1
 have rowq:∀k,L.row (AW L.m (Y.R L) S) k=((sz L.n fun j=>L.A k j*uG L.m (Y.R L) S j:Int):Rat) / (S.d:Rat):=fun k=>qP hd
 refine ⟨fun j _=>?_,fun k hk h2=>?_,fun k hk h1=>?_⟩
 ·have:=EK (x:=uG L.m (Y.R L) S j) (y:=0) hd (by rw[Int.zero_mul];exact mS hv j)
  simpa [AW] using this
 ·rw[rowq]
  have h3:=row k hk
  have h4:=mS hv (Y.sl k)
  refine Au hd ?_
  rw[Int.mul_comm,h3]
  rcases h.kd k hk with e | e | e
  ·simp[e];omega
  ·exact (h2 e).elim
  ·simp[e]
 ·rw[rowq]
  have h3:=row k hk
  have h4:=mS hv (Y.sl k)
  refine EK hd ?_
  rw[Int.mul_comm,h3]
  rcases h.kd k hk with e | e | e
  ·exact (h1 e).elim
  ·simp[e];omega
  ·simp[e]
def rC (m N:Nat) (wc:Nat->Int) (S:Sx) (σ:Nat->Int) (k:Nat):Int:=σ k*sz m fun i=>wc (S.β i)*S.T i (N+k)
def sF (m N:Nat) (wc:Nat->Int) (S:Sx) (σ:Nat->Int) (k:Nat):Rat:=(rC m N wc S σ k:Rat) / (S.d:Rat)
theorem Pz (h:Y.ok L) {S:Sx} (hv:Y.Val L S) {wc:Nat->Int} {j:Nat} (hj:j<L.n):zr L.m wc S j=wc j*S.d - sz L.m fun k=>L.A k j*rC L.m Y.N wc S Y.σ k:=by
 have hw:j<Y.w L:=by have:=h.n;unfold Lay.w;omega
 rw[tN hv.tb (Lay.art h).1 (Lay.art h).2 hw]
 congr 1
 refine bg fun k hk=>?_
 rw[Lay.M_x hj]
 unfold rC
 grind
theorem Fy (h:Y.ok L) {S:Sx} (hv:Y.Val L S) {wc:Nat->Int} {k:Nat} (hk:k<L.m) (h3:L.kd k≠3):zr L.m wc S (Y.sl k)=wc (Y.sl k)*S.d - (if L.kd k=1 then 1 else -1)*rC L.m Y.N wc S Y.σ k:=by
 obtain ⟨h1,h2⟩:=h.sl k hk h3
 rw[tN hv.tb (Lay.art h).1 (Lay.art h).2 (by unfold Lay.w;omega)]
 congr 1
 rw[fb hk fun l hl hne=>by rw[Lay.M_slo h1 h2 fun e=>hne (h.inj l k hl hk e.1 h3 e.2.symm),Int.mul_zero],Lay.M_sl h hk h3]
 unfold rC
 grind
theorem Gg (h:Y.ok L) {S:Sx} (hv:Y.Val L S) {wc:Nat->Int}:zr L.m wc S (Y.R L)=wc (Y.R L)*S.d - sz L.m fun k=>L.b k*rC L.m Y.N wc S Y.σ k:=by
 rw[tN hv.tb (Lay.art h).1 (Lay.art h).2 (by unfold Lay.R Lay.w;omega)]
 congr 1
 refine bg fun k hk=>?_
 rw[Lay.M_R h]
 unfold rC
 grind
theorem yS (h:Y.ok L) {S:Sx} (hv:Y.Val L S) {wc:Nat->Int} (hw:∀j,L.n<=j->j<Y.N->wc j=0) (hz:∀j,j<Y.N->0<=zr L.m wc S j):L.Sgn (sF L.m Y.N wc S Y.σ):=by
 have hd:=hv.tb.dpos
 refine ⟨fun k hk e=>?_,fun k hk e=>?_⟩
 ·obtain ⟨h1,h2⟩:=h.sl k hk (by omega)
  have h3:=Fy h hv (wc:=wc) hk (by omega)
  have h4:=hz _ h2
  rw[h3,hw _ h1 h2,if_pos e] at h4
  have:=Au (x:=rC L.m Y.N wc S Y.σ k) (y:=0) hd (by omega)
  simpa [sF] using this
 ·obtain ⟨h1,h2⟩:=h.sl k hk (by omega)
  have h3:=Fy h hv (wc:=wc) hk (by omega)
  have h4:=hz _ h2
  rw[h3,hw _ h1 h2,if_neg (by omega)] at h4
  have:=EK (x:=rC L.m Y.N wc S Y.σ k) (y:=0) hd (by omega)
  simpa [sF] using this
def bm (L:Lin) (j:Nat):Int:=if j<L.n then L.c j else 0
theorem wD (h:Y.ok L) {S:Sx} (hv:Y.Val L S) (hz:∀j,j<Y.N->0<=zr L.m (bm L) S j):L.Dual (sF L.m Y.N (bm L) S Y.σ):=by
 have hd:=hv.tb.dpos
 refine ⟨yS h hv (fun j h1 _=>if_neg (by omega)) hz,fun j hj=>?_⟩
 have h1:=hz j (by have:=h.n;omega)
 rw[Pz h hv hj] at h1
 have e:L.col (sF L.m Y.N (bm L) S Y.σ) j=((sz L.m fun k=>L.A k j*rC L.m Y.N (bm L) S Y.σ k:Int):Rat) / (S.d:Rat):=qP hd
 rw[e]
 have e2:bm L j=L.c j:=if_pos hj
 rw[e2] at h1
 exact Au hd (by omega)
theorem vl (h:Y.ok L) {S:Sx} (hv:Y.Val L S):L.val (AW L.m (Y.R L) S)=((sz L.m fun i=>bm L (S.β i)*S.T i (Y.R L):Int):Rat) / (S.d:Rat)/\L.rhs (sF L.m Y.N (bm L) S Y.σ)=((sz L.m fun i=>bm L (S.β i)*S.T i (Y.R L):Int):Rat) / (S.d:Rat):=by
 have hd:=hv.tb.dpos
 constructor
 ·have e:L.val (AW L.m (Y.R L) S)=((sz L.n fun j=>L.c j*uG L.m (Y.R L) S j:Int):Rat) / (S.d:Rat):=qP hd
  rw[e]
  congr 2
  rw[show (sz L.n fun j=>L.c j*uG L.m (Y.R L) S j)=sz L.n fun j=>L.c j*sz L.m fun i=>if S.β i=j then S.T i (Y.R L) else 0 from rfl,<-um (f:=L.c)]
  refine bg fun i _=>?_
  unfold bm
  split
  ·rw[Int.mul_comm]
  ·rw[Int.zero_mul]
 ·have e:L.rhs (sF L.m Y.N (bm L) S Y.σ)=((sz L.m fun k=>L.b k*rC L.m Y.N (bm L) S Y.σ k:Int):Rat) / (S.d:Rat):=qP hd
  rw[e]
  congr 2
  have h1:=Gg h hv (wc:=bm L)
  have e0:bm L (Y.R L)=0:=if_neg (by have:=h.n;unfold Lay.R;omega)
  unfold zr at h1
  rw[e0] at h1
  omega
def ef (N:Nat) (j:Nat):Int:=if N<=j then 1 else 0
theorem ze (h:Y.ok L) {S:Sx} (hv:Y.Val L S) (hz:∀j,j<Y.N->0<=zr L.m (ef Y.N) S j) (hp:0<sz L.m fun i=>ef Y.N (S.β i)*S.T i (Y.R L)):L.Ref (sF L.m Y.N (ef Y.N) S Y.σ):=by
 have hd:=hv.tb.dpos
 refine ⟨yS h hv (fun j _ h2=>if_neg (by omega)) hz,fun j hj=>?_,?_⟩
 ·have h1:=hz j (by have:=h.n;omega)
  rw[Pz h hv hj] at h1
  have e:L.col (sF L.m Y.N (ef Y.N) S Y.σ) j=((sz L.m fun k=>L.A k j*rC L.m Y.N (ef Y.N) S Y.σ k:Int):Rat) / (S.d:Rat):=qP hd
  have e2:ef Y.N j=0:=if_neg (by have:=h.n;omega)
  rw[e2] at h1
  have:=Au (x:=sz L.m fun k=>L.A k j*rC L.m Y.N (ef Y.N) S Y.σ k) (y:=0) hd (by omega)
  rw[e]
  simpa using this
 ·have e:L.rhs (sF L.m Y.N (ef Y.N) S Y.σ)=((sz L.m fun k=>L.b k*rC L.m Y.N (ef Y.N) S Y.σ k:Int):Rat) / (S.d:Rat):=qP hd
  have h1:=Gg h hv (wc:=ef Y.N)
  unfold zr at h1
  have h2:0<sz L.m fun k=>L.b k*rC L.m Y.N (ef Y.N) S Y.σ k:=by omega
  rw[e]
  have hd':(0:Rat)<(S.d:Rat):=by have:=Rat.intCast_lt_intCast.2 hd;simpa using this
  have h2':(0:Rat)<((sz L.m fun k=>L.b k*rC L.m Y.N (ef Y.N) S Y.σ k:Int):Rat):=by have:=Rat.intCast_lt_intCast.2 h2;simpa using this
  exact OC h2' hd'
def ng (m:Nat) (S:Sx) (q j:Nat):Int:=(if j=q then S.d else 0) - sz m fun i=>if S.β i=j then S.T i q else 0
theorem yY (h:Y.ok L) {S:Sx} (hv:Y.Val L S) {q:Nat} (hq:q<Y.N) (ha:Cf L.m Y.N S q) (hz:zr L.m (bm L) S q<0) (hno:∀i,i<L.m->S.T i q<=0):L.Ray (fun j=>(ng L.m S q j:Rat)):=by
 have hd:=hv.tb.dpos
 have hqw:q<Y.w L:=by unfold Lay.w;omega
 have pos:∀j,0<=ng L.m S q j:=fun j=>by
  unfold ng
  have h1:(sz L.m fun i=>if S.β i=j then S.T i q else 0)<=sz L.m fun _=>0:=nJ fun i hi=>by
   split
   ·exact hno i hi
   ·exact Int.le_refl _
  rw[fW (f:=fun _=>0) fun _ _=>rfl] at h1
  split<;>omega
 have row:∀k,k<L.m->(sz L.n fun j=>L.A k j*ng L.m S q j)=(if L.kd k≠3 then -(if L.kd k=1 then 1 else -1)*ng L.m S q (Y.sl k) else 0):=fun k hk=>by
  have h1:=My h hv hqw hk ha
  have e1:(sz L.n fun j=>L.A k j*ng L.m S q j)=(if q<L.n then L.A k q*S.d else 0) - sz L.n fun j=>L.A k j*sz L.m fun i=>if S.β i=j then S.T i q else 0:=by
   have e0:(if q<L.n then L.A k q*S.d else 0)=sz L.n fun j=>if j=q then L.A k q*S.d else 0:=by
    by_cases e:q<L.n
    ·rw[if_pos e,fb e fun j _ hne=>if_neg hne,if_pos rfl]
    ·rw[if_neg e,fW fun j hj=>if_neg (by omega)]
   rw[e0,<-wX]
   refine bg fun j _=>?_
   unfold ng
   by_cases e:j=q
   ·subst e;rw[if_pos rfl,if_pos rfl];grind
   ·rw[if_neg e,if_neg e];grind
  rw[e1]
  by_cases c1:q<L.n
  ·rw[if_pos c1]
   rw[Lay.M_x c1,Lay.ss' h hk] at h1
   by_cases c2:L.kd k≠3
   ·rw[if_pos c2] at h1 ⊢
    unfold ng
    rw[if_neg (show ¬ Y.sl k=q by have:=(h.sl k hk c2).1;omega)]
    grind
   ·rw[if_neg c2] at h1 ⊢
    grind
  ·rw[if_neg c1]
   by_cases c2:L.kd k≠3
   ·rw[if_pos c2] at h1 ⊢
    unfold ng
    by_cases c3:Y.sl k=q
    ·rw[if_pos c3]
     rw[<-c3] at h1 ⊢
     rw[Lay.M_sl h hk c2,Lay.ss' h hk] at h1
     rcases h.kd k hk with e | e | e
     ·simp[e] at h1 ⊢;omega
     ·simp[e] at h1 ⊢;omega
     ·exact (c2 e).elim
    ·rw[if_neg c3]
     rw[Lay.M_slo (by omega) hq fun e=>c3 e.2.symm] at h1
     rcases h.kd k hk with e | e | e
     ·simp[e] at h1 ⊢;omega
     ·simp[e] at h1 ⊢;omega
     ·exact (c2 e).elim
   ·rw[if_neg c2] at h1 ⊢
    rw[Lay.M_slo (by omega) hq fun e=>c2 e.1] at h1
    omega
 have cast:∀a:Nat->Int,sq L.n (fun j=>(a j:Rat)*(ng L.m S q j:Rat))=((sz L.n fun j=>a j*ng L.m S q j:Int):Rat):=fun a=>by
  rw[<-A0]
  exact iR fun j _=>by rw[Rat.intCast_mul]
 refine ⟨fun j _=>by have:=Rat.intCast_le_intCast.2 (pos j);simpa using this,fun k hk h2=>?_,fun k hk h1=>?_,?_⟩
 ·have e:L.row (fun j=>(ng L.m S q j:Rat)) k=((sz L.n fun j=>L.A k j*ng L.m S q j:Int):Rat):=cast _
  rw[e,row k hk]
  have h4:=pos (Y.sl k)
  have h5:(if L.kd k≠3 then -(if L.kd k=1 then 1 else -1)*ng L.m S q (Y.sl k) else 0)<=0:=by
   rcases h.kd k hk with e | e | e
   ·simp[e];omega
   ·exact (h2 e).elim
   ·simp[e]
  have:=Rat.intCast_le_intCast.2 h5
  simpa using this
 ·have e:L.row (fun j=>(ng L.m S q j:Rat)) k=((sz L.n fun j=>L.A k j*ng L.m S q j:Int):Rat):=cast _
  rw[e,row k hk]
  have h4:=pos (Y.sl k)
  have h5:0<=(if L.kd k≠3 then -(if L.kd k=1 then 1 else -1)*ng L.m S q (Y.sl k) else 0):=by
   rcases h.kd k hk with e | e | e
   ·exact (h1 e).elim
   ·simp[e];omega
   ·simp[e]
  have:=Rat.intCast_le_intCast.2 h5
  simpa using this
 ·have e:L.val (fun j=>(ng L.m S q j:Rat))=((sz L.n fun j=>L.c j*ng L.m S q j:Int):Rat):=cast _
  rw[e]
  have e2:(sz L.n fun j=>L.c j*ng L.m S q j)=zr L.m (bm L) S q:=by
   unfold zr
   have e3:(sz L.m fun i=>bm L (S.β i)*S.T i q)=sz L.n fun j=>L.c j*sz L.m fun i=>if S.β i=j then S.T i q else 0:=by
    rw[<-um (f:=L.c)]
    refine bg fun i _=>?_
    unfold bm
    split
    ·rw[Int.mul_comm]
    ·rw[Int.zero_mul]
   rw[e3]
   have e4:bm L q*S.d=sz L.n fun j=>if j=q then L.c j*S.d else 0:=by
    unfold bm
    by_cases c:q<L.n
    ·rw[if_pos c,fb c fun j _ hne=>if_neg hne,if_pos rfl]
    ·rw[if_neg c,fW fun j hj=>if_neg (by omega),Int.zero_mul]
   rw[e4,<-wX]
   refine bg fun j _=>?_
   unfold ng
   by_cases c:j=q
   ·rw[if_pos c,if_pos c];grind
   ·rw[if_neg c,if_neg c];grind
  rw[e2]
  have:=Rat.intCast_lt_intCast.2 hz
  simpa using this
end
theorem xr {a b:Nat} {f:Nat->Int}:sz (a+b) f=sz a f+sz b fun i=>f (a+i):=by
 induction b with
 | zero=>simp[sz]
 | succ b ih =>
  rw[show a+(b+1)=a+b+1 by omega,sz,sz,ih]
  omega
theorem Mf {m w:Nat} {γ:Nat->Nat} {f:Nat->Int} (hlt:∀p,p<m->γ p<w) (hinj:∀p q,p<m->q<m->γ p=γ q->p=q) (hf:∀j,j<w->0<=f j):(sz m fun p=>f (γ p))<=sz w f:=by
 have e:(sz m fun p=>f (γ p))=sz w fun j=>f j*sz m fun p=>if γ p=j then 1 else 0:=by
  rw[bg (g:=fun p=>sz w fun j=>if γ p=j then f j else 0) fun p hp=>by
   rw[fb (hlt p hp) fun j _ hne=>if_neg (Ne.symm hne),if_pos rfl],tW]
  refine bg fun j _=>?_
  rw[<-ga]
  refine bg fun p _=>?_
  split<;>omega
 rw[e]
 refine nJ fun j hj=>?_
 have hc:(sz m fun p=>if γ p=j then (1:Int) else 0)<=1:=by
  by_cases h:∃p,p<m/\γ p=j
  ·obtain ⟨p,hp,rfl⟩:=h
   rw[fb hp fun q hq hne=>if_neg fun e'=>hne (hinj q p hq hp e'),if_pos rfl]
   exact Int.le_refl _
  ·rw[fW fun p hp=>if_neg fun e'=>h ⟨p,hp,e'⟩]
   omega
 have:=Int.mul_le_mul_of_nonneg_left hc (hf j hj)
 omega
def Lin.F (L:Lin) (k:Nat):Int:=1+ab (L.b k)+sz L.n fun j=>ab (L.A k j)
def Lin.F0 (L:Lin):Int:=1+sz L.n fun j=>ab (L.c j)
theorem Lin.F_pos (L:Lin) (k:Nat):1<=L.F k:=by
 have h1:=cH (L.b k)
 have h2:0<=sz L.n fun j=>ab (L.A k j):=i9 fun j _=>cH _
 unfold Lin.F
 omega
theorem Lin.F0_pos (L:Lin):1<=L.F0:=by
 have h2:0<=sz L.n fun j=>ab (L.c j):=i9 fun j _=>cH _
 unfold Lin.F0
 omega
def Lin.P (L:Lin):Int:=pz L.m L.F
theorem Jb:∀{n:Nat} {f:Nat->Int},(∀i,i<n->1<=f i)->1<=pz n f
 | 0,_,_=>by simp[pz]
 | n+1,f,h=>by
  simp only[pz]
  have h1:=h 0 (by omega)
  have h2:=Jb (n:=n) (f:=fun i=>f (i+1)) fun i hi=>h (i+1) (by omega)
  have:=Int.mul_le_mul h1 h2 (by omega) (by omega)
  omega
theorem Lin.P_pos (L:Lin):1<=L.P:=Jb fun k _=>L.F_pos k
section
variable {L:Lin} {Y:Lay}
theorem Ke (h:Y.ok L) {k:Nat} (hk:k<L.m) (x:Int):ab (Y.σ k*x)=ab x:=by
 rw[qB]
 rcases h.sg k hk with e | e<;>rw[e]<;>simp[ab]
theorem FK (h:Y.ok L) {k:Nat} (hk:k<L.m) {f:Nat->Int} (h1:∀j,j<L.n->f j=ab (Y.M L k j)) (hR:f (Y.R L)=ab (Y.M L k (Y.R L)))
  (h2:((∀j,L.n<=j->j<Y.N->f j=0)/\∀i,i<L.m->f (Y.N+i)=if i=k then 1 else 0)\/(L.kd k≠3/\(∀j,L.n<=j->j<Y.N->f j=if j=Y.sl k then 1 else 0)/\∀i,i<L.m->f (Y.N+i)=0)) :
  sz (Y.w L) f=L.F k:=by
 have hn:=h.n
 have e:Y.w L=(L.n+(Y.N - L.n))+L.m+1:=by unfold Lay.w;omega
 rw[e,sz,xr,xr,show L.n+(Y.N - L.n)+L.m=Y.R L by unfold Lay.R;omega,hR,Lay.M_R h,Ke h hk]
 have e1:sz L.n f=sz L.n fun j=>ab (L.A k j):=bg fun j hj=>by rw[h1 j hj,Lay.M_x hj,Ke h hk]
 rw[e1,show L.n+(Y.N - L.n)=Y.N by omega]
 unfold Lin.F
 rcases h2 with ⟨h3,h4⟩ | ⟨h3,h4,h5⟩
 ·rw[fW fun i hi=>h3 (L.n+i) (by omega) (by omega),fb hk fun i hi hne=>by rw[h4 i hi,if_neg hne],h4 k hk,if_pos rfl]
  omega
 ·obtain ⟨h6,h7⟩:=h.sl k hk h3
  have a1:(sz (Y.N - L.n) fun i=>f (L.n+i))=1:=by
   rw[fb (k:=Y.sl k - L.n) (by omega) fun i hi hne=>by rw[h4 _ (by omega) (by omega),if_neg (by omega)],h4 _ (by omega) (by omega),if_pos (by omega)]
  have a2:(sz L.m fun i=>f (Y.N+i))=0:=fW fun i hi=>h5 i hi
  rw[a1,a2]
  omega
theorem O5 (h:Y.ok L) {γ:Nat->Nat} (hlt:∀p,p<L.m->γ p<Y.w L):dc L.m (Y.M L) γ=0\/∀k,k<L.m->(sz L.m fun p=>ab (Y.M L k (γ p)))<=L.F k:=by
 have zero:dc L.m (Y.M L) γ=0->dc L.m (Y.M L) γ=0\/∀k,k<L.m->(sz L.m fun p=>ab (Y.M L k (γ p)))<=L.F k:=fun e=>.inl e
 by_cases hinj:∀p q,p<L.m->q<L.m->γ p=γ q->p=q
 ·by_cases hboth:∃k p q,k<L.m/\L.kd k≠3/\p<L.m/\q<L.m/\γ p=Y.sl k/\γ q=Y.N+k
  ·obtain ⟨k,p,q,hk,h3,hp,hq,e1,e2⟩:=hboth
   obtain ⟨h4,h5⟩:=h.sl k hk h3
   have hpq:p≠q:=fun e=>by rw[e,e2] at e1;omega
   apply zero
   unfold dc
   have e3:det L.m (ia (Y.M L) γ)=det L.m (cA (ia (Y.M L) γ) p fun l=>(Y.σ k*(if L.kd k=1 then 1 else -1))*Y.M L l (Y.N+k)):=by
    refine iW fun l j hl hj=>?_
    unfold cA
    split
    ·rename_i e
     rw[e]
     show Y.M L l (γ p)=(Y.σ k*(if L.kd k=1 then 1 else -1))*Y.M L l (Y.N+k)
     rw[e1,Lay.M_a h hk]
     by_cases el:l=k
     ·subst el
      rw[Lay.M_sl h hl h3,if_pos rfl,Int.mul_one]
     ·rw[if_neg el,Int.mul_zero,Lay.M_slo h4 h5 fun e'=>el (h.inj l k hl hk e'.1 h3 e'.2.symm)]
    ·rfl
   rw[e3,ny hp,lK hp hq hpq fun l _=>by
    unfold cA
    rw[if_pos rfl,if_neg (Ne.symm hpq)]
    show Y.M L l (Y.N+k)=Y.M L l (γ q)
    rw[e2],Int.mul_zero]
  ·refine .inr fun k hk=>?_
   by_cases hs:L.kd k≠3/\∃p,p<L.m/\γ p=Y.sl k
   ·obtain ⟨h3,p,hp,e1⟩:=hs
    obtain ⟨h4,h5⟩:=h.sl k hk h3
    have e:(sz L.m fun p=>ab (Y.M L k (γ p)))=sz L.m fun p=>(fun j=>if Y.N<=j/\j<Y.N+L.m then 0 else ab (Y.M L k j)) (γ p):=bg fun q hq=>by
     show _=if Y.N<=γ q/\γ q<Y.N+L.m then 0 else ab (Y.M L k (γ q))
     split
     ·rename_i hr
      obtain ⟨i,hi⟩:∃i,γ q=Y.N+i:=⟨γ q - Y.N,by omega⟩
      rw[hi,Lay.M_a h (by omega),if_neg fun e'=>hboth ⟨k,p,q,hk,h3,hp,hq,e1,by rw[hi,e']⟩]
      rfl
     ·rfl
    rw[e]
    refine Int.le_trans (Mf (f:=fun j=>if Y.N<=j/\j<Y.N+L.m then 0 else ab (Y.M L k j)) hlt hinj fun j _=>?_) (Int.le_of_eq (FK h hk (fun j hj=>?_) ?_ (.inr ⟨h3,fun j h6 h7=>?_,fun i hi=>?_⟩)))
    ·split
     ·exact Int.le_refl _
     ·exact cH _
    ·have:=h.n
     rw[if_neg (by omega)]
    ·rw[if_neg (by unfold Lay.R;omega)]
    ·rw[if_neg (by omega)]
     by_cases ej:j=Y.sl k
     ·subst ej
      rw[Lay.M_sl h hk h3,Ke h hk,if_pos rfl]
      split<;>rfl
     ·rw[if_neg ej,Lay.M_slo h6 h7 fun e'=>ej e'.2]
      rfl
    ·rw[if_pos (by omega)]
   ·have e:(sz L.m fun p=>ab (Y.M L k (γ p)))=sz L.m fun p=>(fun j=>if L.n<=j/\j<Y.N then 0 else ab (Y.M L k j)) (γ p):=bg fun q hq=>by
     show _=if L.n<=γ q/\γ q<Y.N then 0 else ab (Y.M L k (γ q))
     split
     ·rename_i hr
      rw[Lay.M_slo hr.1 hr.2 fun e'=>hs ⟨e'.1,q,hq,e'.2⟩]
      rfl
     ·rfl
    rw[e]
    refine Int.le_trans (Mf (f:=fun j=>if L.n<=j/\j<Y.N then 0 else ab (Y.M L k j)) hlt hinj fun j _=>?_) (Int.le_of_eq (FK h hk (fun j hj=>?_) ?_ (.inl ⟨fun j h6 h7=>?_,fun i hi=>?_⟩)))
    ·split
     ·exact Int.le_refl _
     ·exact cH _
    ·rw[if_neg (by omega)]
    ·rw[if_neg (by unfold Lay.R;omega)]
    ·rw[if_pos ⟨h6,h7⟩]
    ·rw[if_neg (by omega),Lay.M_a h hi]
     by_cases ei:k=i
     ·rw[if_pos ei,if_pos ei.symm];rfl
     ·rw[if_neg ei,if_neg (Ne.symm ei)];rfl
 ·have:∃p q,p<L.m/\q<L.m/\γ p=γ q/\p≠q:=by
   apply Classical.byContradiction
   intro hno
   refine hinj fun p q hp hq e=>?_
   apply Classical.byContradiction
   intro hne
   exact hno ⟨p,q,hp,hq,e,hne⟩
  obtain ⟨p,q,hp,hq,e,hne⟩:=this
  apply zero
  refine lK hp hq hne fun l _=>?_
  show Y.M L l (γ p)=Y.M L l (γ q)
  rw[e]
theorem CR (h:Y.ok L) {γ:Nat->Nat} (hlt:∀p,p<L.m->γ p<Y.w L):ab (dc L.m (Y.M L) γ)<=L.P:=by
 rcases O5 h hlt with e | e
 ·have hP:=L.P_pos
  rw[e]
  simp[ab]
  omega
 ·exact Int.le_trans yJ (L1 fun k hk=>⟨i9 fun _ _=>cH _,e k hk⟩)
theorem Q0 {m w:Nat} {β:Nat->Nat} {r c:Nat} (h:∀p,p<m->β p<w) (hc:c<w):∀p,p<m->upd β r c p<w:=fun p hp=>by
 unfold upd
 split
 ·exact hc
 ·exact h p hp
theorem kM (h:Y.ok L) {T:Nat->Nat->Int} {d:Int} {β:Nat->Nat} (ht:Tb L.m (Y.w L) (Y.M L) T d β):d<=L.P/\∀i j,i<L.m->j<Y.w L->ab (T i j)<=L.P:=by
 refine ⟨?_,fun i j hi hj=>by rw[ht.bound hi hj];exact CR h (Q0 ht.lt hj)⟩
 obtain ⟨σ,h1,h2,_⟩:=ht.cr
 have h3:=CR h ht.lt
 have h4:ab d=ab (dc L.m (Y.M L) β):=by
  have h5:ab σ=1:=by
   have h6:ab σ*ab σ=1:=by rw[<-qB,h1];rfl
   have h7:=cH σ
   have h8:ab σ<=1:=by
    apply Int.not_lt.1
    intro h9
    have:2*2<=ab σ*ab σ:=Int.mul_le_mul (by omega) (by omega) (by omega) h7
    omega
   have:ab σ≠0:=fun e=>by rw[e] at h6;simp at h6
   omega
  have h6:ab (σ*dc L.m (Y.M L) β)=ab d:=by rw[<-h2]
  rw[qB,h5,Int.one_mul] at h6
  exact h6.symm
 rw[<-h4] at h3
 exact (rP.1 h3).2
end
section
variable {L:Lin} {Y:Lay}
end
section
variable {α R:Type} {F:(α->Option R)->α->Option R}
theorem yZ (n:Nat) (st:Nat->α) (r:Option R) (hb:∀again i,i<n->F again (st i)=again (st (i+1))) (hf:∀again,F again (st n)=r):∀(k i m:Nat),i+k=n->k<m->jC F m (st i)=r
 | 0,i,m,h1,h2=>by
  obtain ⟨m,rfl⟩:∃m',m=m'+1:=⟨m - 1,by omega⟩
  rw[ij,show i=n by omega,hf]
 | k+1,i,m,h1,h2=>by
  obtain ⟨m,rfl⟩:∃m',m=m'+1:=⟨m - 1,by omega⟩
  rw[ij,hb _ _ (by omega)]
  exact yZ n st r hb hf k (i+1) m (by omega) (by omega)
theorem tu (n:Nat) (hn:n<=1180591620717411303423) (st:Nat->α) (r:Option R) (hb:∀again i,i<n->F again (st i)=again (st (i+1))) (hf:∀again,F again (st n)=r):lpK α R F (st 0)=r :=
 yZ n st r hb hf n 0 K0 (by omega) (by unfold K0;omega)
theorem bf {x:α} (n:Nat) (hn:n<=1180591620717411303423) (st:Nat->α) (r:Option R) (hx:x=st 0) (hb:∀again i,i<n->F again (st i)=again (st (i+1))) (hf:∀again,F again (st n)=r):lpK α R F x=r:=by
 rw[hx]
 exact tu n hn st r hb hf
theorem Ch (I:α->Prop) (Q:R->Prop) (μ:α->Nat) (h:∀x,I x->(∃r,Q r/\∀rec,F rec x=some r)\/∃y,I y/\μ y<μ x/\∀rec,F rec x=rec y):∀(m:Nat) (x:α),I x->μ x<m->∃r,jC F m x=some r/\Q r
 | 0,_,_,hm=>by omega
 | m+1,x,hx,hm=>by
  rw[ij]
  rcases h x hx with ⟨r,h1,h2⟩ | ⟨y,h1,h2,h3⟩
  ·exact ⟨r,h2 _,h1⟩
  ·rw[h3]
   exact Ch I Q μ h m y h1 (by omega)
theorem QE (I:α->Prop) (Q:R->Prop) (μ:α->Nat) (h:∀x,I x->(∃r,Q r/\∀rec,F rec x=some r)\/∃y,I y/\μ y<μ x/\∀rec,F rec x=rec y) {x:α} (hx:I x) (hn:μ x<1180591620717411303424):∃r,lpK α R F x=some r/\Q r :=
 Ch I Q μ h K0 x hx hn
theorem zw {γ:Type} (I:γ->α->Prop) (Q:R->Prop) (μ:γ->Nat) (h:∀s x,I s x->(∃r,Q r/\∀rec,F rec x=some r)\/∃s' y,I s' y/\μ s'<μ s/\∀rec,F rec x=rec y):∀(m:Nat) (s:γ) (x:α),I s x->μ s<m->∃r,jC F m x=some r/\Q r
 | 0,_,_,_,hm=>by omega
 | m+1,s,x,hx,hm=>by
  rw[ij]
  rcases h s x hx with ⟨r,h1,h2⟩ | ⟨s',y,h1,h2,h3⟩
  ·exact ⟨r,h2 _,h1⟩
  ·rw[h3]
   exact zw I Q μ h m s' y h1 (by omega)
theorem N2 {γ:Type} (I:γ->α->Prop) (Q:R->Prop) (μ:γ->Nat) (h:∀s x,I s x->(∃r,Q r/\∀rec,F rec x=some r)\/∃s' y,I s' y/\μ s'<μ s/\∀rec,F rec x=rec y) {s:γ} {x:α} (hx:I s x) (hn:μ s<1180591620717411303424):∃r,lpK α R F x=some r/\Q r :=
 zw I Q μ h K0 s x hx hn
theorem zg {γ:Type} (I:γ->α->Prop) (Q:Option R->Prop) (μ:γ->Nat) (h:∀rec s x,I s x->Q (F rec x)\/∃s' y,I s' y/\μ s'<μ s/\F rec x=rec y):∀(m:Nat) (s:γ) (x:α),I s x->μ s<m->Q (jC F m x)
 | 0,_,_,_,hm=>by omega
 | m+1,s,x,hx,hm=>by
  rw[ij]
  rcases h (jC F m) s x hx with h1 | ⟨s',y,h1,h2,h3⟩
  ·exact h1
  ·rw[h3]
   exact zg I Q μ h m s' y h1 (by omega)
theorem rc {γ:Type} (I:γ->α->Prop) (Q:Option R->Prop) (μ:γ->Nat) (h:∀rec s x,I s x->Q (F rec x)\/∃s' y,I s' y/\μ s'<μ s/\F rec x=rec y) {s:γ} {x:α} (hx:I s x) (hn:μ s<1180591620717411303424):Q (lpK α R F x) :=
 zg I Q μ h K0 s x hx hn
theorem pX {x:α} (Q:Option R->Prop) (n:Nat) (hn:n<=1180591620717411303423) (st:Nat->α) (hx:x=st 0) (hb:∀again i,i<n->F again (st i)=again (st (i+1))) (hf:∀again,Q (F again (st n))):Q (lpK α R F x) :=
 rc (γ:=Nat) (fun i x=>i<=n/\x=st i) Q (fun i=>n - i) (fun rec i x ⟨h1,h2⟩=>by
  by_cases e:i=n
  ·subst h2;subst e;exact .inl (hf rec)
  ·exact .inr ⟨i+1,st (i+1),⟨by omega,rfl⟩,by omega,by rw[h2];exact hb rec i (by omega)⟩) (s:=0) ⟨by omega,hx⟩ (by omega)
theorem FJ {x:α} (Q:Option R->Prop) (n:Nat) (hn:n<=1180591620717411303423) (I:Nat->α->Prop) (hx:I 0 x) (hb:∀again i x,i<n->I i x->∃y,I (i+1) y/\F again x=again y) (hf:∀again x,I n x->Q (F again x)):Q (lpK α R F x) :=
 rc (γ:=Nat) (fun i x=>i<=n/\I i x) Q (fun i=>n - i) (fun rec i x ⟨h1,h2⟩=>by
  by_cases e:i=n
  ·subst e;exact .inl (hf rec x h2)
  ·obtain ⟨y,h3,h4⟩:=hb rec i x (by omega) h2
   exact .inr ⟨i+1,y,⟨by omega,h3⟩,by omega,h4⟩) (s:=0) ⟨by omega,hx⟩ (by omega)
end
theorem nU (n:Nat) (p:Nat->Bool):(∀j,j<n->p j=false)\/∃j,j<n/\p j=true/\∀i,i<j->p i=false:=by
 induction n with
 | zero=>exact .inl fun j hj=>by omega
 | succ n ih =>
  rcases ih with h | ⟨j,h1,h2,h3⟩
  ·cases hp:p n with
   | true=>exact .inr ⟨n,by omega,hp,h⟩
   | false =>
    refine .inl fun j hj=>?_
    by_cases e:j=n
    ·rw[e];exact hp
    ·exact h j (by omega)
  ·exact .inr ⟨j,by omega,h2,h3⟩
def bO {α:Type} (w:Nat) (f:Nat->α):List α:=(List.range w).map f
def tg (m w:Nat) (T:Nat->Nat->Int):List (List Int):=(List.range m).map fun i=>bO w (T i)
def dn (m w:Nat) (T:Nat->Nat->Int):List (Option (List Int)):=(List.range m).map fun i=>some (bO w (T i))
def gy (m w:Nat) (T:Nat->Nat->Int):List Nat×List (Option (List Int)):=(List.range m,dn m w T)
def fF (m:Nat) (β:Nat->Nat):List Int:=bO m fun i=>(β i:Int)
section
variable {α:Type} {m w:Nat} {T T':Nat->Nat->Int}
theorem av {f:Nat->α}:(bO w f).length=w:=by unfold bO;rw[List.length_map,List.length_range]
theorem aZ {f:Nat->α} {d:α} {j:Nat} (h:j<w):(bO w f).getD j d=f j:=by
 unfold bO
 rw[bR (by rw[List.length_map,List.length_range];exact h),List.getElem_map,List.getElem_range]
theorem vT {f:Nat->α} {j:Nat} (h:j<(bO w f).length):(bO w f)[j]=f j :=
 (List.getElem_map f (l:=List.range w) (h:=h)).trans (congrArg f (List.getElem_range _))
theorem bB {f g:Nat->α} (h:∀j,j<w->f j=g j):bO w f=bO w g:=by
 unfold bO
 exact List.map_congr_left fun j hj=>h j (List.mem_range.1 hj)
theorem eP {f:Nat->α} {j:Nat} {x:α} (_:j<w):(bO w f).set j x=bO w fun k=>if k=j then x else f k:=by
 refine List.ext_getElem (by rw[List.length_set,av,av]) fun i h1 h2=>?_
 have h3:i<w:=by rw[av] at h2;exact h2
 rw[List.getElem_set,vT,vT]
 by_cases e:j=i
 ·rw[if_pos e,if_pos e.symm]
 ·rw[if_neg e,if_neg (Ne.symm e)]
theorem iT:(tg m w T).length=m:=by unfold tg;rw[List.length_map,List.length_range]
theorem nD {i:Nat} (h:i<m):(tg m w T).getD i []=bO w (T i):=by
 unfold tg
 rw[bR (by rw[List.length_map,List.length_range];exact h),List.getElem_map,List.getElem_range]
theorem jD:(dn m w T).length=m:=by unfold dn;rw[List.length_map,List.length_range]
theorem cP:(gy m w T).1.length=m:=by unfold gy;exact List.length_range
theorem cK {i:Nat} (h:i<m):(gy m w T).1.getD i 0=i:=by
 unfold gy
 rw[bR (by rw[List.length_range];exact h),List.getElem_range]
theorem q6 {i:Nat} (h:i<m):(dn m w T).getD i none=some (bO w (T i)):=by
 unfold dn
 rw[bR (by rw[List.length_map,List.length_range];exact h),List.getElem_map,List.getElem_range]
theorem Cn {i:Nat} (h:i<(dn m w T).length):(dn m w T)[i]=some (bO w (T i)) :=
 (List.getElem_map (fun i=>some (bO w (T i))) (l:=List.range m) (h:=h)).trans (congrArg (fun i=>some (bO w (T i))) (List.getElem_range _))
theorem cd {i:Nat} (h:i<m):ai (dn m w T) i=bO w (T i):=by unfold ai;rw[q6 h];rfl
theorem i7 {i:Nat} (h:i<m):fG (dn m w T) i=true:=by unfold fG;rw[q6 h];rfl
theorem gV (h:∀i j,i<m->j<w->T i j=T' i j):dn m w T=dn m w T':=by
 unfold dn
 exact List.map_congr_left fun i hi=>by rw[bB fun j hj=>h i j (List.mem_range.1 hi) hj]
theorem dL (h:∀i j,i<m->j<w->T i j=T' i j):gy m w T=gy m w T':=by unfold gy;rw[gV h]
theorem Bo {i j:Nat} {x:Int} (_:i<m) (hj:j<w):(dn m w T).set i (some ((bO w (T i)).set j x))=dn m w fun k l=>if k=i/\l=j then x else T k l:=by
 rw[eP hj]
 refine List.ext_getElem (by rw[List.length_set,jD,jD]) fun k h1 h2=>?_
 have h3:k<m:=by rw[jD] at h2;exact h2
 rw[List.getElem_set,Cn,Cn]
 by_cases e:i=k
 ·subst e
  rw[if_pos rfl]
  congr 1
  refine bB fun l _=>?_
  simp
 ·rw[if_neg e]
  congr 1
  refine bB fun l _=>?_
  rw[if_neg fun h=>e h.1.symm]
theorem g9:((gy m w T).1.all fun x=>fG (gy m w T).2 x)=true:=by
 rw[List.all_eq_true]
 intro i hi
 exact i7 (List.mem_range.1 hi)
theorem ik:(gy m w T).1.map (fun x=>ai (gy m w T).2 x)=tg m w T:=by
 unfold gy tg
 exact List.map_congr_left fun i hi=>cd (List.mem_range.1 hi)
theorem fg {β:Nat->Nat}:(fF m β).length=m:=av
theorem gN {β:Nat->Nat} {i:Nat} (h:i<m):(fF m β).getD i 0=(β i:Int):=aZ h
theorem xH {β:Nat->Nat} {r c:Nat} (h:r<m):(fF m β).set r (c:Int)=fF m (upd β r c):=by
 unfold fF
 rw[eP h]
 refine bB fun k _=>?_
 unfold upd
 by_cases e:k=r
 ·rw[if_pos e,if_pos e]
 ·rw[if_neg e,if_neg e]
end
end Dn
end Go.Proofs.YtfknoaclabfdlaaGreat

namespace Go.Proofs.YtfknoaclabfdlaaGreat
noncomputable section
open Tryz Dn Dn.Sh
def bnS (s:Sy) (i:Nat):ByteArray:=(s.1.getD i bk0).1
def bwS (s:Sy) (i:Nat):Int:=(s.1.getD i bk0).2
def rnS (s:Sy) (k:Nat):ByteArray:=(s.2.getD k rp0).1
def hsS (s:Sy) (k:Nat):List Hd:=(s.2.getD k rp0).2.1
structure ValidS (s:Sy):Prop where
 bl:1<=s.1.length/\s.1.length<=6
 rl:1<=s.2.length/\s.2.length<=6
 inj:∀i j,i<s.1.length->j<s.1.length->bnS s i=bnS s j->i=j
 rinj:∀i j,i<s.2.length->j<s.2.length->rnS s i=rnS s j->i=j
 wt:∀i,i<s.1.length->0<=bwS s i/\bwS s i<=16777216
 hl:∀k,k<s.2.length->(hsS s k).length<=10
 pl:∀k h,k<s.2.length->h<(hsS s k).length-> -2<=((hsS s k).getD h hd0).2.1/\((hsS s k).getD h hd0).2.1<=2
theorem ol {n i:Nat} (h:i<n):i ∈ List.range' 0 n:=List.mem_range'.2 ⟨i,h,by omega⟩
theorem Co {s:Sy} {h:Hd} {e:Bool} (hh:mL s h e=true): -2<=h.2.1/\h.2.1<=2:=by
 unfold mL at hh
 rw[z10] at hh
 have h2:=hh.2
 cases he:ov h.1 with
 | true=>rw[he,cT,decide_eq_true_iff] at h2;omega
 | false =>
  rw[he,cF,z10] at h2
  have h3:=h2.2
  cases e with
  | true=>rw[cT,Bool.or_eq_true,decide_eq_true_iff,decide_eq_true_iff] at h3;omega
  | false=>rw[cF,Bool.or_eq_true,Bool.or_eq_true,decide_eq_true_iff,decide_eq_true_iff,decide_eq_true_iff] at h3;omega
theorem lH {l:List ByteArray} {i j:Nat} {d:ByteArray} (h1:i<j) (h2:j<=l.length):l.getD i d ∈ l.take j:=by
 rw[bR (by omega)]
 exact List.mem_take_iff_getElem.2 ⟨i,by omega,rfl⟩
theorem fR {s:Sy} (h:fc s=true):ValidS s:=by
 unfold fc at h
 rw[z10,z10,z10,decide_eq_true_iff,List.all_eq_true,List.all_eq_true] at h
 obtain ⟨⟨h1,h2,h3,h4⟩,hb,hr,_⟩:=h
 have hb':∀i,i<s.1.length->bnS s i ∉ (s.1.map (·.fst)).take i/\0<=bwS s i/\bwS s i<=16777216:=fun i hi=>by
  have:=hb i (ol hi)
  unfold pT pE at this
  rw[z10,z10,z10,Bool.not_eq_true',s8,decide_eq_true_iff,decide_eq_true_iff] at this
  exact this.2
 have hr':∀i,i<s.2.length->rnS s i ∉ (s.2.map (·.fst)).take i/\sU s (s.2.getD i rp0)=true:=fun i hi=>by
  have:=hr i (ol hi)
  unfold jp at this
  rw[z10,z10,Bool.not_eq_true',s8,List.mem_append] at this
  exact ⟨fun hm=>this.2.1 (.inr hm),this.2.2⟩
 have hro:∀k,k<s.2.length->(2<=(hsS s k).length/\(hsS s k).length<=10)/\∀i,i<(hsS s k).length->∃e,mL s ((hsS s k).getD i hd0) e=true:=fun k hk=>by
  have:=(hr' k hk).2
  unfold sU at this
  rw[z10,z10,decide_eq_true_iff,List.all_eq_true] at this
  exact ⟨this.1,fun i hi=>⟨_,this.2.1 i (ol hi)⟩⟩
 refine ⟨⟨h1,h2⟩,⟨h3,h4⟩,fun i j hi hj he=>?_,fun i j hi hj he=>?_,fun i hi=>(hb' i hi).2,fun k hk=>(hro k hk).1.2,fun k h hk hh=>?_⟩
 ·have e1:∀k,k<s.1.length->(s.1.map (·.fst)).getD k bk0.1=bnS s k:=fun k hk=>qW (f:=fun b:Bk=>b.1) (d:=bk0) hk bk0.1
  rcases Nat.lt_trichotomy i j with h | h | h
  ·exfalso
   apply (hb' j hj).1
   rw[<-he,<-e1 i hi]
   exact lH h (by rw[List.length_map];omega)
  ·exact h
  ·exfalso
   apply (hb' i hi).1
   rw[he,<-e1 j hj]
   exact lH h (by rw[List.length_map];omega)
 ·have e1:∀k,k<s.2.length->(s.2.map (·.fst)).getD k rp0.1=rnS s k:=fun k hk=>qW (f:=fun b:Rp=>b.1) (d:=rp0) hk rp0.1
  rcases Nat.lt_trichotomy i j with h | h | h
  ·exfalso
   apply (hr' j hj).1
   rw[<-he,<-e1 i hi]
   exact lH h (by rw[List.length_map];omega)
  ·exact h
  ·exfalso
   apply (hr' i hi).1
   rw[he,<-e1 j hj]
   exact lH h (by rw[List.length_map];omega)
 ·obtain ⟨e,he⟩:=(hro k hk).2 h hh
  exact Co he
theorem HC (s:Sy) (n:ByteArray):(fbI s n<0/\∀i,i<s.1.length->bnS s i≠n)\/∃i:Nat,i<s.1.length/\fbI s n=(i:Int)/\bnS s i=n:=by
 by_cases h:fbI s n<0
 ·refine .inl ⟨h,fun i hi he=>?_⟩
  have:=(tj (p:=fun b:Bk=>decide (b.1=n)) (l:=s.1) (i:=0) (by omega)).1 h (s.1.getD i bk0) (by rw[bR hi];exact List.getElem_mem _)
  exact of_decide_eq_false this he
 ·obtain ⟨_,h2,h3⟩:=zO (p:=fun b:Bk=>decide (b.1=n)) (d:=bk0) (l:=s.1) (i:=0) (by omega) (Int.not_lt.1 h)
  refine .inr ⟨(fbI s n).toNat,?_,?_,?_⟩
  ·unfold fbI;omega
  ·unfold fbI at h ⊢;omega
  ·have:=z12 h3
   rw[Int.sub_zero] at this
   exact this
theorem uM (s:Sy) (n:ByteArray):(frI s n<0/\∀i,i<s.2.length->rnS s i≠n)\/∃i:Nat,i<s.2.length/\frI s n=(i:Int)/\rnS s i=n:=by
 by_cases h:frI s n<0
 ·refine .inl ⟨h,fun i hi he=>?_⟩
  have:=(tj (p:=fun b:Rp=>decide (b.1=n)) (l:=s.2) (i:=0) (by omega)).1 h (s.2.getD i rp0) (by rw[bR hi];exact List.getElem_mem _)
  exact of_decide_eq_false this he
 ·obtain ⟨_,h2,h3⟩:=zO (p:=fun b:Rp=>decide (b.1=n)) (d:=rp0) (l:=s.2) (i:=0) (by omega) (Int.not_lt.1 h)
  refine .inr ⟨(frI s n).toNat,?_,?_,?_⟩
  ·unfold frI;omega
  ·unfold frI at h ⊢;omega
  ·have:=z12 h3
   rw[Int.sub_zero] at this
   exact this
def kN (hs:List Hd) (n:ByteArray) (h:Nat):Int:=sz h fun t=>if (hs.getD t hd0).1=n then (hs.getD t hd0).2.1 else 0
def Mx (s:Sy) (i k:Nat):Int:=kN (hsS s k) (bnS s i) (hsS s k).length
theorem mH {hs:List Hd} {n:ByteArray} (hp:∀t,t<hs.length-> -2<=(hs.getD t hd0).2.1/\(hs.getD t hd0).2.1<=2):∀h,h<=hs.length-> -(2*(h:Int))<=kN hs n h/\kN hs n h<=2*(h:Int)
 | 0,_=>by simp[kN,sz]
 | h+1,hh=>by
  have:=mH (n:=n) hp h (by omega)
  have h2:=hp h (by omega)
  unfold kN at *
  simp only[sz]
  split<;>omega
theorem J3 {s:Sy} (hv:ValidS s) (i:Nat) {k:Nat} (hk:k<s.2.length): -20<=Mx s i k/\Mx s i k<=20:=by
 have h1:=mH (n:=bnS s i) (hs:=hsS s k) (fun t ht=>hv.pl k t hk ht) _ (Nat.le_refl _)
 have h2:=hv.hl k hk
 unfold Mx
 omega
theorem dt {i:Nat} (h:i<=1000000):IntKind.wrap .i64 ((i:Int)+1)=((i+1:Nat):Int):=by rw[aB (by omega) (by omega)];rfl
theorem Jm {s:Sy} (hv:ValidS s) (i:Nat) {k:Nat} (hk:k<s.2.length):fV (s.2.getD k rp0) (bnS s i)=some (Mx s i k):=by
 have hp:=fun t ht=>hv.pl k t hk ht
 have hl:=hv.hl k hk
 have hb:=mH (n:=bnS s i) (hs:=hsS s k) hp
 unfold Mx
 unfold hsS at hp hl hb ⊢
 generalize s.2.getD k rp0=r at hp hl hb ⊢
 obtain ⟨nm,hs,ha⟩:=r
 simp only at hp hl hb ⊢
 simp only[fV,oe,jH]
 refine bf hs.length (by omega) (fun t=>(kN hs (bnS s i) t,(t:Int),PUnit.unit)) _ rfl (fun again t ht=>?_) (fun again=>?_)
 ·have h1:=hb t (by omega)
  have h2:=hb (t+1) (by omega)
  have e:kN hs (bnS s i) (t+1)=kN hs (bnS s i) t+if (hs.getD t hd0).1=bnS s i then (hs.getD t hd0).2.1 else 0:=rfl
  simp only[ay,z7 ht,z7 (show (t:Int)<hs.length by omega),cT,z9,dt (show t<=1000000 by omega),show List.getD hs t ({ data:={ toList:=[] } },(0:Int),(0:Int),(0:Int))=hs.getD t hd0 from rfl]
  rw[e] at h2 ⊢
  by_cases c:(hs.getD t hd0).1=bnS s i
  ·rw[if_pos c] at h2 ⊢
   rw[z7 c,cT,aB (by omega) (by omega)]
  ·rw[if_neg c,z8 c,cF,Int.add_zero]
 ·simp only[z8 (show ¬ (hs.length:Int)<hs.length by omega),cF]
def Gs (s:Sy):List (List Int):=tg s.1.length s.2.length (Mx s)
theorem oM {α:Type} {w:Nat} {f:Nat->α}:bO w f++[f w]=bO (w+1) f:=by
 unfold bO
 rw[List.range_succ,List.map_append]
 rfl
theorem uV {m w:Nat} {T:Nat->Nat->Int}:dn m w T++[some (bO w (T m))]=dn (m+1) w T:=by
 unfold dn
 rw[List.range_succ,List.map_append]
 rfl
theorem JG {s:Sy} (hv:ValidS s):e8 s=some (Gs s):=by
 have hb:=hv.bl
 have hr:=hv.rl
 simp only[e8,my]
 refine bf s.1.length (by omega) (fun i=>(gy i s.2.length (Mx s),(i:Int),PUnit.unit)) _ rfl (fun again i hi=>?_) (fun again=>?_)
 ·simp only[ay,z7 hi,z7 (show (i:Int)<s.1.length by omega),cT,z9]
  refine bf s.2.length (by omega) (fun k=>(bO k (Mx s i),(k:Int),PUnit.unit)) _ rfl (fun again1 k hk=>?_) (fun again1=>?_)
  ·have hp:fV (s.2.getD k ({ data:={ toList:=[] } },[],false)) (s.1.getD i ({ data:={ toList:=[] } },(0:Int))).1=some (Mx s i k):=Jm hv i hk
   simp only[ay,z7 hk,z7 (show (k:Int)<s.2.length by omega),cT,z9,hp,af,av,dQ (show (k+1)*8<=140737488355328 by omega),dt (show k<=1000000 by omega),oM]
  ·simp only[z8 (show ¬ (s.2.length:Int)<s.2.length by omega),cF,cP,dQ (show (i+1)*24<=140737488355328 by omega),cT,dt (show i<=1000000 by omega)]
   unfold gy
   rw[jD,Nat.add_zero,<-List.range_succ,uV]
 ·simp only[z8 (show ¬ (s.1.length:Int)<s.1.length by omega),cF]
  rw[g9,ik,cT]
  rfl
def QQ (T:List Nat) (x0:Sy):Option (List (List Int)×Int×Unit) :=
 ah (aK x0) fun (t:Bool)=>bif !t then some ([],(1:Int),PUnit.unit) else bif decide ((0:Int)<=(↑(List.length x0.1):Int))&&eh (Int.toNat (↑(List.length x0.1):Int)) (24:Nat) then lpK (Int×(List Nat×List (Option (List Int)))×PUnit) (List (List Int)×Int×PUnit) (fun (again:Int×(List Nat×List (Option (List Int)))×PUnit->Option (List (List Int)×Int×PUnit)) (x:Int×(List Nat×List (Option (List Int)))×PUnit)=>bif decide (x.1<(↑(List.length T):Int)) then bif decide ((0:Int)<=(↑(List.length x0.2):Int))&&eh (Int.toNat (↑(List.length x0.2):Int)) (8:Nat) then bif inB x.1 (List.length x.2.1.1) then bif Nat.ble (Nat.succ (Int.toNat x.1)) (List.length x.2.1.1) then again (IntKind.wrap .i64 (x.1+(1:Int)),(List.set x.2.1.1 (Int.toNat x.1) (List.length x.2.1.2),x.2.1.2++[some (List.replicate (Int.toNat (↑(List.length x0.2):Int)) (0:Int))]),PUnit.unit) else none else none else none else lpK (Int×(List Nat×List (Option (List Int)))×PUnit) (List (List Int)×Int×PUnit) (fun (again:Int×(List Nat×List (Option (List Int)))×PUnit->Option (List (List Int)×Int×PUnit)) (x:Int×(List Nat×List (Option (List Int)))×PUnit)=>bif decide (x.1<(↑(List.length x0.2):Int)) then bif inB x.1 (List.length x0.2) then lpK (Int×(List Nat×List (Option (List Int)))×PUnit) (List (List Int)×Int×PUnit) (fun (again_1:Int×(List Nat×List (Option (List Int)))×PUnit->Option (List (List Int)×Int×PUnit)) (x_1:Int×(List Nat×List (Option (List Int)))×PUnit)=>let v10:Int:=IntKind.wrap .i64 (x_1.1+(1:Int));let v11:(List Nat×List (Option (List Int)))×PUnit:=(x_1.2.1,PUnit.unit);let v12:ByteArray×Int×Int×Int:=List.getD (List.getD x0.2 (Int.toNat x.1) ({ data:={ toList:=[] } },[],false)).2.1 (Int.toNat x_1.1) ({ data:={ toList:=[] } },(0:Int),(0:Int),(0:Int));bif decide (x_1.1<(↑(List.length (List.getD x0.2 (Int.toNat x.1) ({ data:={ toList:=[] } },[],false)).2.1):Int)) then bif inB x_1.1 (List.length (List.getD x0.2 (Int.toNat x.1) ({ data:={ toList:=[] } },[],false)).2.1) then ah (ci x0 v12.1) fun (t:Int)=>bif decide (t>=(0:Int)) then bif inB t (List.length x_1.2.1.1) then bif Nat.ble (Nat.succ (Int.toNat t)) (List.length x_1.2.1.1) then bif inB x.1 (List.length (ai x_1.2.1.2 (List.getD x_1.2.1.1 (Int.toNat t) (0:Nat)))) then bif Nat.ble (Nat.succ (Int.toNat x.1)) (List.length (ai x_1.2.1.2 (List.getD x_1.2.1.1 (Int.toNat t) (0:Nat)))) then bif inB x.1 (List.length (ai x_1.2.1.2 (List.getD x_1.2.1.1 (Int.toNat t) (0:Nat)))) then bif Nat.ble (Nat.succ (Int.toNat x.1)) (List.length (ai x_1.2.1.2 (List.getD x_1.2.1.1 (Int.toNat t) (0:Nat)))) then again_1 (v10,(x_1.2.1.1,List.set x_1.2.1.2 (List.getD x_1.2.1.1 (Int.toNat t) (0:Nat)) (some (List.set (ai x_1.2.1.2 (List.getD x_1.2.1.1 (Int.toNat t) (0:Nat))) (Int.toNat x.1) (IntKind.wrap .i64 (List.getD (ai x_1.2.1.2 (List.getD x_1.2.1.1 (Int.toNat t) (0:Nat))) (Int.toNat x.1) (0:Int)+v12.2.1))))),PUnit.unit) else none else none else none else none else none else none else again_1 (v10,v11) else none else again (IntKind.wrap .i64 (x.1+(1:Int)),v11)) ((0:Int),x.2.1,PUnit.unit) else none else bif List.all x.2.1.1 fun (x_1:Nat)=>fG x.2.1.2 x_1 then some (List.map (fun (x_1:Nat)=>ai x.2.1.2 x_1) x.2.1.1,(0:Int),PUnit.unit) else none) ((0:Int),x.2.1,PUnit.unit)) ((0:Int),(T,List.replicate (Int.toNat (↑(List.length x0.1):Int)) (some [])),PUnit.unit) else none
theorem Fv (s:Sy):ct s=QQ (x9 Sh.ref (0:Nat) (Int.toNat (↑(List.length s.1):Int)) 0) s:=by kernel_rfl
theorem wM:∀(n k:Nat),x9 Sh.ref (0:Nat) n k=(List.range n).map fun i=>k+i
 | 0,_=>rfl
 | n+1,k=>by
  rw[List.range_succ_eq_map,List.map_cons,List.map_map]
  unfold x9
  rw[wM n (k+1)]
  have e:shS k Sh.ref (0:Nat)=k+0:=rfl
  rw[e]
  congr 1
  refine List.map_congr_left fun i _=>?_
  simp only[Function.comp]
  omega
def vJ (m w:Nat) (T:Nat->Nat->Int):List Nat×List (Option (List Int)):=(bO m fun k=>m+k,List.replicate m (some [])++dn m w T)
theorem Mc {n:Nat}:List.replicate n (0:Int)=bO n fun _=>0:=by
 unfold bO
 rw[List.map_const',List.length_range]
section
variable {m w:Nat} {T:Nat->Nat->Int}
theorem CQ {i:Nat}:(List.replicate m (some ([]:List Int))++dn m w T).getD (m+i) none=(dn m w T).getD i none:=by
 rw[List.getD_eq_getElem?_getD,List.getD_eq_getElem?_getD,List.getElem?_append_right (by rw[List.length_replicate];omega),List.length_replicate,Nat.add_sub_cancel_left]
theorem Bw {i:Nat} (h:i<m):ai (List.replicate m (some ([]:List Int))++dn m w T) (m+i)=bO w (T i):=by
 unfold ai
 rw[CQ,q6 h]
 rfl
theorem GJ {i:Nat} (h:i<m):fG (List.replicate m (some ([]:List Int))++dn m w T) (m+i)=true:=by
 unfold fG
 rw[CQ,q6 h]
 rfl
theorem Ig {i j:Nat} {x:Int} (hi:i<m) (hj:j<w):(List.replicate m (some ([]:List Int))++dn m w T).set (m+i) (some ((bO w (T i)).set j x))=List.replicate m (some [])++dn m w fun k l=>if k=i/\l=j then x else T k l:=by
 rw[List.set_append_right _ _ (by rw[List.length_replicate];omega),List.length_replicate,Nat.add_sub_cancel_left,Bo hi hj]
end
theorem NG {s:Sy} (h:fc s=true):ct s=some (Gs s,0,()):=by
 have hv:=fR h
 have hb:=hv.bl
 have hr:=hv.rl
 have hf:=fun n=>CJ s n (show s.1.length<=1000000 by omega)
 rw[Fv,wM]
 simp only[QQ,lQ,h,af,Bool.not_true,cF,z9,List.length_map,List.length_range,z7 (show (0:Int)<=(s.1.length:Nat) by omega),z7 (show (0:Int)<=(s.2.length:Nat) by omega),
  dQ (show s.1.length*24<=140737488355328 by omega),dQ (show s.2.length*8<=140737488355328 by omega),Bool.and_self,cT]
 obtain ⟨m,hm⟩:∃m,m=s.1.length:=⟨_,rfl⟩
 obtain ⟨w,hw⟩:∃w,w=s.2.length:=⟨_,rfl⟩
 rw[<-hm] at hb ⊢
 rw[<-hw] at hr ⊢
 refine bf m (by omega) (fun i=>((i:Int),(bO m (fun k=>if k<i then m+k else k),List.replicate m (some [])++dn i w fun _ _=>0),PUnit.unit)) _ ?_ (fun again i hi=>?_) (fun again=>?_)
 ·have e:(List.range m).map (fun i=>0+i)=bO m (fun k=>if k<0 then m+k else k):=bB (f:=fun i=>0+i) fun k _=>by rw[if_neg (by omega),Nat.zero_add]
  rw[e]
  show _=((0:Int),(_,List.replicate m (some ([]:List Int))++[]),PUnit.unit)
  rw[List.append_nil]
 ·simp only[ay,av,z7 hi,z7 (show (i:Int)<m by omega),cT,z9,aH (show i.succ<=m by omega),dt (show i<=1000000 by omega)]
  refine congrArg again ?_
  refine congrArg (fun p=>(((i+1:Nat):Int),p,PUnit.unit)) ?_
  rw[eP hi,List.length_append,List.length_replicate,jD,Mc,List.append_assoc,uV]
  refine congrArg (fun l=>(l,_)) ?_
  refine bB fun k _=>?_
  by_cases c:k=i
  ·rw[if_pos c,if_pos (by omega)];omega
  ·rw[if_neg c]
   by_cases c2:k<i
   ·rw[if_pos c2,if_pos (by omega)]
   ·rw[if_neg c2,if_neg (by omega)]
 ·simp only[z8 (show ¬ (m:Int)<m by omega),cF]
  refine bf w (by omega) (fun k=>((k:Int),vJ m w (fun i j=>if j<k then Mx s i j else 0),PUnit.unit)) _ ?_ (fun again k hk=>?_) (fun again=>?_)
  ·refine congrArg (fun p=>((0:Int),p,PUnit.unit)) ?_
   unfold vJ
   refine Prod.ext (bB fun k hk=>by rw[if_pos hk]) ?_
   simp only
   rw[gV fun i j _ _=>(if_neg (show ¬ j<0 by omega)).symm]
  ·have hwk:k<s.2.length:=by omega
   have hpl:=fun t ht=>hv.pl k t hwk ht
   have hhl:=hv.hl k hwk
   have hpb:=fun n=>mH (n:=n) (hs:=hsS s k) hpl
   simp only[ay,z7 hk,z7 (show (k:Int)<w by omega),cT,z9,dt (show k<=1000000 by omega),show (List.getD s.2 k ({ data:={ toList:=[] } },[],false)).2.1=hsS s k from rfl]
   refine bf (hsS s k).length (by omega) (fun t=>((t:Int),vJ m w (fun i j=>if j<k then Mx s i j else if j=k then kN (hsS s k) (bnS s i) t else 0),PUnit.unit)) _ ?_ (fun again1 t ht=>?_) (fun again1=>?_)
   ·refine congrArg (fun p=>((0:Int),p,PUnit.unit)) ?_
    unfold vJ
    refine congrArg (fun c=>(_,List.replicate m (some ([]:List Int))++c)) (gV fun i j _ _=>?_)
    by_cases c1:j<k
    ·rw[if_pos c1,if_pos c1]
    ·rw[if_neg c1,if_neg c1]
     split<;>rfl
   ·obtain ⟨hd,hhd⟩:∃hd,hd=(hsS s k).getD t hd0:=⟨_,rfl⟩
    have hpt:=hpl t ht
    simp only[ay,z7 ht,z7 (show (t:Int)<(hsS s k).length by omega),cT,z9,dt (show t<=1000000 by omega),show List.getD (hsS s k) t ({ data:={ toList:=[] } },(0:Int),(0:Int),(0:Int))=(hsS s k).getD t hd0 from rfl,hf,af]
    rw[<-hhd] at hpt ⊢
    have estep:∀n,kN (hsS s k) n (t+1)=kN (hsS s k) n t+if hd.1=n then hd.2.1 else 0:=fun n=>by rw[hhd];rfl
    rcases HC s hd.1 with ⟨h1,h2⟩ | ⟨i0,h1,h2,h3⟩
    ·rw[z8 (show ¬ fbI s hd.1>=0 by omega),cF]
     refine congrArg again1 ?_
     refine congrArg (fun p=>(((t+1:Nat):Int),p,PUnit.unit)) ?_
     unfold vJ
     refine congrArg (fun c=>(_,List.replicate m (some ([]:List Int))++c)) (gV fun i j hi _=>?_)
     have e:kN (hsS s k) (bnS s i) (t+1)=kN (hsS s k) (bnS s i) t:=by
      rw[estep,if_neg fun e=>h2 i (by omega) e.symm,Int.add_zero]
     rw[e]
    ·have hi0:i0<m:=by omega
     have hTl:(bO m fun k=>m+k).getD i0 0=m+i0:=aZ hi0
     have hrow:=Bw (w:=w) (T:=fun i j=>if j<k then Mx s i j else if j=k then kN (hsS s k) (bnS s i) t else 0) hi0
     have hget:(bO w fun j=>if j<k then Mx s i0 j else if j=k then kN (hsS s k) (bnS s i0) t else 0).getD k 0=kN (hsS s k) (bnS s i0) t:=by
      rw[aZ hk,if_neg (by omega),if_pos rfl]
     have hb1:=hpb (bnS s i0) t (by omega)
     simp only[h2,z7 (show (i0:Int)>=0 by omega),cT,z9]
     unfold vJ
     simp only[ay,av,z7 hi0,cT,hTl,hrow,z7 hk,aH (show k.succ<=w by omega),aH (show i0.succ<=m by omega),hget]
     rw[aB (by omega) (by omega),Ig (T:=fun i j=>if j<k then Mx s i j else if j=k then kN (hsS s k) (bnS s i) t else 0) hi0 hk]
     refine congrArg again1 ?_
     refine congrArg (fun c=>(((t+1:Nat):Int),(_,List.replicate m (some ([]:List Int))++c),PUnit.unit)) (gV fun i j hi _=>?_)
     by_cases c1:j=k
     ·subst c1
      by_cases c2:i=i0
      ·subst c2
       rw[if_pos ⟨rfl,rfl⟩,if_neg (by omega),if_pos rfl,estep,if_pos h3.symm]
      ·rw[if_neg fun e=>c2 e.1,if_neg (by omega),if_pos rfl,if_neg (by omega),if_pos rfl,estep,if_neg,Int.add_zero]
       intro e
       exact c2 (hv.inj i i0 (by omega) h1 (by rw[h3,e]))
     ·rw[if_neg fun e=>c1 e.2,if_neg c1,if_neg c1]
   ·simp only[z8 (show ¬ ((hsS s k).length:Int)<(hsS s k).length by omega),cF]
    refine congrArg again ?_
    refine congrArg (fun p=>(((k+1:Nat):Int),p,PUnit.unit)) ?_
    unfold vJ
    refine congrArg (fun c=>(_,List.replicate m (some ([]:List Int))++c)) (gV fun i j _ _=>?_)
    by_cases c1:j<k
    ·rw[if_pos c1,if_pos (by omega)]
    ·rw[if_neg c1]
     by_cases c2:j=k
     ·subst c2
      rw[if_pos rfl,if_pos (by omega)]
      rfl
     ·rw[if_neg c2,if_neg (by omega)]
  ·simp only[z8 (show ¬ (w:Int)<w by omega),cF]
   have hall:((vJ m w fun i j=>if j<w then Mx s i j else 0).1.all fun x=>fG (vJ m w fun i j=>if j<w then Mx s i j else 0).2 x)=true:=by
    rw[List.all_eq_true]
    intro x hx
    obtain ⟨i,hi,rfl⟩:=List.mem_map.1 hx
    exact GJ (List.mem_range.1 hi)
   have hmap:(vJ m w fun i j=>if j<w then Mx s i j else 0).1.map (fun x=>ai (vJ m w fun i j=>if j<w then Mx s i j else 0).2 x)=Gs s:=by
    unfold Gs tg
    rw[<-hm,<-hw]
    unfold vJ bO
    rw[List.map_map]
    refine List.map_congr_left fun i hi=>?_
    have:=Bw (w:=w) (T:=fun i j=>if j<w then Mx s i j else 0) (List.mem_range.1 hi)
    exact this.trans (bB fun j hj=>if_pos hj)
   rw[hall,hmap,cT]
theorem JW {s:Sy} (h:fc s=false):ct s=some ([],1,()):=by
 rw[Fv]
 simp only[QQ,lQ,h,af,Bool.not_false,cT]
def jI:List Int->List Fq->Rat->Option Rat
 | n ::l,a ::x,s=>if fZ ((n:Rat)*qv a)/\fZ (s+(n:Rat)*qv a) then jI l x (s+(n:Rat)*qv a) else none
 | _,_,s=>some s
def TM {R:Type} (o:Option Rat) (bad:Option R) (good:Rat->Option R):Option R:=match o with
 | some q=>good q
 | none=>bad
theorem Ly {σ R:Type} {l:List Int} {x:List Fq} (hl:l.length<=x.length) {b:Nat->σ->(σ->Option R)->Option R} {f:σ->Option R} {cur:σ->Rat} {bad:Option R} {good:Rat->Option R}
  (nx:∀i s,fZ (cur s+((l.getD i 0:Int):Rat)*qv (x.getD i (0,0)))->σ) (hnx:∀i s h,cur (nx i s h)=cur s+((l.getD i 0:Int):Rat)*qv (x.getD i (0,0)))
  (hb:∀i s k,i<l.length->b i s k=if h:fZ (((l.getD i 0:Int):Rat)*qv (x.getD i (0,0)))/\fZ (cur s+((l.getD i 0:Int):Rat)*qv (x.getD i (0,0))) then k (nx i s h.2) else bad)
  (hf:∀s,f s=good (cur s)):∀(k i:Nat) (s:σ),i+k=l.length->upF b f k i s=TM (jI (l.drop i) (x.drop i) (cur s)) bad good
 | 0,i,s,h=>by
  rw[List.drop_eq_nil_of_le (by omega)]
  exact hf s
 | k+1,i,s,h=>by
  have h1:i<l.length:=by omega
  have h2:i<x.length:=by omega
  have e1:l.getD i 0=l[i]:=bR h1
  have e2:x.getD i (0,0)=x[i]:=bR h2
  simp only[upF]
  rw[hb i s _ h1,List.drop_eq_getElem_cons h1,List.drop_eq_getElem_cons h2,jI,<-e1,<-e2]
  split
  ·rw[Ly hl nx hnx hb hf k (i+1) _ (by omega),hnx]
  ·rfl
theorem obN {T R:Type} {t:T} {k:T->Option R}:ah (some t) k=k t:=id rfl
theorem yn:∀{l:List Int} {x:List Fq} {s q:Rat},fZ s->jI l x s=some q->fZ q
 | [],_,s,q,hs,h=>by
  unfold jI at h
  injection h with h
  rw[<-h];exact hs
 | _ ::_,[],s,q,hs,h=>by
  unfold jI at h
  injection h with h
  rw[<-h];exact hs
 | n ::l,a ::x,s,q,hs,h=>by
  unfold jI at h
  split at h
  ·rename_i hh
   exact yn hh.2 h
  ·cases h
structure ValidP (p:Pg):Prop where
 cost:1<=p.1.length/\p.1.length<=12
 rows:p.2.length<=6
 cs:∀n ∈ p.1,inC n=true
 len:∀r ∈ p.2,r.1.length=p.1.length
 kind:∀r ∈ p.2,1<=r.2.1/\r.2.1<=3
 right:∀r ∈ p.2,inR r.2.2=true
 coefs:∀r ∈ p.2,∀n ∈ r.1,inC n=true
theorem xT {p:Pg}:zU p=true↔ValidP p:=by
 unfold zU II
 rw[z10,z10,decide_eq_true_iff,List.all_eq_true,List.all_eq_true]
 constructor
 ·rintro ⟨⟨h1,h2,h3⟩,h4,h5⟩
  have h6:∀r ∈ p.2,r.1.length=p.1.length/\(1<=r.2.1/\r.2.1<=3)/\inR r.2.2=true/\∀n ∈ r.1,inC n=true:=fun r hr=>by
   have:=h5 r hr
   unfold uU at this
   rw[z10,z10,z10,decide_eq_true_iff,decide_eq_true_iff,List.all_eq_true] at this
   exact this
  exact ⟨⟨h1,h2⟩,h3,h4,fun r hr=>(h6 r hr).1,fun r hr=>(h6 r hr).2.1,fun r hr=>(h6 r hr).2.2.1,fun r hr=>(h6 r hr).2.2.2⟩
 ·rintro ⟨h1,h2,h3,h4,h5,h6,h7⟩
  refine ⟨⟨h1.1,h1.2,h2⟩,h3,fun r hr=>?_⟩
  unfold uU
  rw[z10,z10,z10,decide_eq_true_iff,decide_eq_true_iff,List.all_eq_true]
  exact ⟨h4 r hr,h5 r hr,h6 r hr,h7 r hr⟩
theorem Oa {l:List Int} {x:List Fq}:fZ ((jI l x 0).getD 0):=by
 cases h:jI l x 0 with
 | none=>decide
 | some q=>exact yn (by decide) h
def KP (p:Pg) (x:List Fq):Bool:=p.2.all fun r=>(jI r.1 x 0).isSome
end
end Go.Proofs.YtfknoaclabfdlaaGreat

namespace Go.Proofs.YtfknoaclabfdlaaGreat
open Tryz Dn Dn.Sh
def RU (s:Sy):List Int:=bO s.1.length (bwS s)
theorem OP {s:Sy} (h:fc s=true):cR s=some (RU s,0,()):=by
 have hv:=fR h
 have hb:=hv.bl
 simp only[cR,jT,lQ,h,af,Bool.not_true,cF]
 refine bf s.1.length (by omega) (fun i=>(bO i (bwS s),(i:Int),PUnit.unit)) _ rfl (fun again i hi=>?_) (fun again=>?_)
 ·simp only[ay,z7 hi,z7 (show (i:Int)<s.1.length by omega),cT,z9,av,dQ (show (i+1)*8<=140737488355328 by omega),dt (show i<=1000000 by omega),show (List.getD s.1 i ({ data:={ toList:=[] } },(0:Int))).2=bwS s i from rfl,oM]
 ·simp only[z8 (show ¬ (s.1.length:Int)<s.1.length by omega),cF]
  rfl
def tU (s:Sy) (i:Nat):Rw:=(bO s.2.length (Mx s i),(3:Int),bwS s i)
def ce (s:Sy) (c:List Int):Pg:=(c,bO s.1.length (tU s))
theorem BP {s:Sy} (h:fc s=true) (c:List Int):cO s c=some (ce s c,0,()):=by
 have hv:=fR h
 have hb:=hv.bl
 unfold cO lM
 rw[NG h,af,OP h,af]
 refine (cF _ _).trans ((cF _ _).trans ?_)
 unfold Gs RU
 refine bf s.1.length (by omega) (fun i=>((i:Int),c,bO i (tU s),PUnit.unit)) _ rfl (fun again i hi=>?_) (fun again=>?_)
 ·simp only[ay,iT,av,z7 hi,z7 (show (i:Int)<s.1.length by omega),cT,z9,dQ (show (i+1)*40<=140737488355328 by omega),dt (show i<=1000000 by omega),nD hi,aZ hi]
  rw[show (bO s.2.length (Mx s i),(3:Int),bwS s i)=tU s i from rfl,oM]
 ·simp only[iT,z8 (show ¬ (s.1.length:Int)<s.1.length by omega),cF]
  rfl
theorem G5 {s:Sy} (h:fc s=false) (c:List Int):cO s c=some (([],[]),1,()):=by
 simp only[cO,lM,JW h,af]
 rfl
theorem ky {s:Sy} (h:fc s=true) (c:List Int):au s c=some (ce s c):=by
 have hv:=fR h
 have hb:=hv.bl
 simp only[au,lh,JG hv,af]
 unfold Gs
 refine bf s.1.length (by omega) (fun i=>((i:Int),c,bO i (tU s),PUnit.unit)) _ rfl (fun again i hi=>?_) (fun again=>?_)
 ·simp only[ay,iT,z7 hi,z7 (show (i:Int)<s.1.length by omega),cT,z9,av,dQ (show (i+1)*40<=140737488355328 by omega),dt (show i<=1000000 by omega),nD hi]
  rw[show (bO s.2.length (Mx s i),(3:Int),(List.getD s.1 i ({ data:={ toList:=[] } },(0:Int))).2)=tU s i from rfl,oM]
 ·simp only[z8 (show ¬ (s.1.length:Int)<s.1.length by omega),cF]
  rfl
def fM (s:Sy):List Int:=List.replicate s.2.length 1
def gX (s:Sy) (k:Nat) (c:Int):List Int:=(List.replicate s.2.length 0).set k c
theorem xd (s:Sy) (hl:s.2.length<=1000000):bo s=some (fM s):=by
 simp only[bo,oH]
 refine bf s.2.length (by omega) (fun i=>(List.replicate i 1,(i:Int),PUnit.unit)) _ rfl (fun again i hi=>?_) (fun again=>?_)
 ·simp only[z7 (show (i:Int)<s.2.length by omega),cT,List.length_replicate,dQ (show (i+1)*8<=140737488355328 by omega),dt (show i<=1000000 by omega)]
  rw[List.replicate_succ']
 ·simp only[z8 (show ¬ (s.2.length:Int)<s.2.length by omega),cF]
  rfl
theorem sV {s:Sy} {k:Nat} (hl:s.2.length<=1000000) (hk:k<s.2.length) (c:Int):bS s (k:Int) c=some (gX s k c):=by
 simp only[bS,oI,z9,z7 (show (0:Int)<=(s.2.length:Nat) by omega),dQ (show s.2.length*8<=140737488355328 by omega),Bool.and_self,cT,ay,z7 hk,aH (show k.succ<=s.2.length by omega)]
 rfl
theorem AH {s:Sy} {k:Nat} (h:fc s=true) (hk:k<s.2.length) (c:Int):dE s (k:Int) c=some (ce s (gX s k c),0,()):=by
 have hr:=(fR h).rl
 simp only[dE,qx,z9,z7 (show (0:Int)<=(s.2.length:Nat) by omega),dQ (show s.2.length*8<=140737488355328 by omega),Bool.and_self,cT,ay,z7 hk,aH (show k.succ<=s.2.length by omega)]
 rw[show List.set (List.replicate s.2.length (0:Int)) k c=gX s k c from rfl,BP h]
 rfl
theorem Gd (z:Int) {n:Nat} (hn:n<=1000000):cJ [z] (n:Int)=some (List.replicate n z):=by
 have hm:ip (IntKind.wrap .u64 ((List.length [z]:Nat):Int)) (IntKind.wrap .u64 (n:Int))=some (0,(n:Int),()):=by
  simp only[ip,sy]
  rw[bN (by simp) (by simp),bN (by omega) (by omega),Qx (by simp) (by simp) (by omega) (by omega),af]
  simp only[List.length_singleton]
  congr 1
  refine Prod.ext ?_ (Prod.ext ?_ rfl)
  ·show ((1:Nat):Int)*n / 18446744073709551616=0
   omega
  ·show ((1:Nat):Int)*n % 18446744073709551616=n
   omega
 have hw:IntKind.wrap .i64 (n:Int)=(n:Int):=aB (by omega) (by omega)
 simp only[cJ,jx,jnT]
 rw[z8 (show ¬ (n:Int)<0 by omega),cF,hm,af]
 have h63:decide ((n:Int)>9223372036854775807)=false:=z8 (by omega)
 have hz0:decide ((0:Int)>0)=false:=rfl
 have hz1:decide ((0:Int)<=(n:Int))=true:=z7 (by omega)
 have hfb:eh n 8=true:=dQ (by omega)
 simp only[hw,hz0,h63,hz1,z9,hfb,Bool.not_false,Bool.not_true,Bool.or_true,Bool.and_self,cT,cF,List.drop_zero,List.take_zero,List.nil_append]
 refine jh (g:=fun _=>some (List.replicate n z)) (I:=fun (x:Int×List Int×PUnit)=>∃c:Nat,x.1=c/\c<=n/\(0<n->0<c)/\x.2.1.length=n/\x.2.1.take c=List.replicate c z) (μ:=fun (x:Int×List Int×PUnit)=>n - x.1.toNat) ?_ ?_ (by simp only;omega)
 ·rintro ⟨i,row,_⟩ rec ⟨c,h1,h2,h3,h4,h5⟩ hrec
  simp only at h1 h4 h5 hrec ⊢
  subst h1
  simp only[z9,h4]
  by_cases hc:c<n
  ·have hl:(List.take (n - c) (List.take c row)).length=min (n - c) c:=by rw[List.length_take,List.length_take,h4];omega
   rw[z7 (show (c:Int)<n by omega),cT,JK (by omega) (by omega) (by omega),JK (by omega) (by omega) (by omega),aH (by omega),aH (Nat.le_refl n)]
   simp only[Bool.and_self,cT]
   rw[aB (by omega) (by omega)]
   refine hrec _ ⟨c+min (n - c) c,?_,by omega,by omega,?_,?_⟩ ?_
   ·simp only;rw[hl];omega
   ·simp only[List.length_append,List.length_drop,hl,h4,List.length_take];omega
   ·simp only
    rw[List.take_append_of_le_length (by rw[List.length_append,hl,List.length_take,h4];omega),h5,List.take_replicate,List.replicate_append_replicate,List.take_replicate]
    congr 1
    omega
   ·simp only;rw[hl];omega
  ·have:c=n:=by omega
   subst this
   rw[z8 (show ¬ (c:Int)<c by omega),cF]
   rw[<-h5,List.take_of_length_le (by omega)]
 ·refine ⟨(List.take n [z]).length,rfl,by rw[List.length_take];omega,fun h=>by rw[List.length_take];simp;omega,?_,?_⟩
  ·simp only[List.length_append,List.length_drop,List.length_replicate,List.length_take,List.length_singleton];omega
  ·simp only
   rcases Nat.eq_zero_or_pos n with h | h
   ·subst h;rfl
   ·obtain ⟨m,rfl⟩:∃m,n=m+1:=⟨n - 1,by omega⟩
    simp
theorem KL {s:Sy} (h:fc s=true):aR s=some (ce s (fM s),0,()):=by
 have hr:=(fR h).rl
 simp only[aR,jo,Gd 1 (show s.2.length<=1000000 by omega),af]
 rw[show List.replicate s.2.length (1:Int)=fM s from rfl,BP h]
 rfl
theorem Hw {s:Sy} (h:fc s=false) (hl:s.2.length<=1000000):aR s=some (([],[]),1,()):=by
 simp only[aR,jo,Gd 1 hl,G5 h,af]
theorem CX {α:Type} {n:Nat} {f:Nat->α} {a:α}:a ∈ bO n f↔∃i,i<n/\f i=a:=by
 unfold bO
 rw[List.mem_map]
 exact ⟨fun ⟨i,h1,h2⟩=>⟨i,List.mem_range.1 h1,h2⟩,fun ⟨i,h1,h2⟩=>⟨i,List.mem_range.2 h1,h2⟩⟩
theorem Df {s:Sy} (hv:ValidS s) {c:List Int} (hl:c.length=s.2.length) (hc:∀n ∈ c,inC n=true):ValidP (ce s c):=by
 have hb:=hv.bl
 have hr:=hv.rl
 refine ⟨⟨by show 1<=c.length;omega,by show c.length<=12;omega⟩,?_,hc,fun r h=>?_,fun r h=>?_,fun r h=>?_,fun r h n hn=>?_⟩
 ·show (bO s.1.length (tU s)).length<=6
  rw[av];omega
 all_goals
  obtain ⟨i,hi,rfl⟩:=CX.1 h
 ·show (bO s.2.length (Mx s i)).length=c.length
  rw[av,hl]
 ·exact ⟨by show (1:Int)<=3;omega,by show (3:Int)<=3;omega⟩
 ·have:=hv.wt i hi
  exact z7 (by show -1073741824<=bwS s i/\bwS s i<=1073741824;omega)
 ·obtain ⟨k,hk,rfl⟩:=CX.1 hn
  have:=J3 hv i hk
  exact z7 (by omega)
theorem Kv {s:Sy} (hv:ValidS s):ValidP (ce s (fM s)):=Df hv (by unfold fM;rw[List.length_replicate]) fun n hn=>by
 rw[(List.mem_replicate.1 hn).2];rfl
theorem fw {s:Sy} {k:Nat} {c:Int}:(gX s k c).length=s.2.length:=by unfold gX;rw[List.length_set,List.length_replicate]
theorem zi {s:Sy} {k j:Nat} {c:Int} (hj:j<s.2.length):(gX s k c).getD j 0=if k=j then c else 0:=by
 unfold gX
 rw[bR (by rw[List.length_set,List.length_replicate];exact hj),List.getElem_set]
 split
 ·rfl
 ·exact List.getElem_replicate _
theorem qt {s:Sy} (hv:ValidS s) {k:Nat} {c:Int} (hc:inC c=true):ValidP (ce s (gX s k c)):=Df hv fw fun n hn=>by
 unfold gX at hn
 rcases List.mem_or_eq_of_mem_set hn with h | h
 ·rw[(List.mem_replicate.1 h).2];rfl
 ·rw[h];exact hc
def kh (s:ByteArray):Bool:=!decide ((s.size:Int)>60)
def pg (s:Sy):Bool:=decide (s.1.length<=9/\s.2.length<=9)&&(s.1.all (fun b=>kh b.1)&&s.2.all (fun r=>kh r.1&&(!decide ((r.2.1.length:Int)>13)&&r.2.1.all fun h=>kh h.1)))
theorem Gx (s:Sy):fN s=some (pg s):=by
 obtain ⟨bs,rs⟩:=s
 simp only[fN,nv,pg]
 by_cases h0:bs.length<=9/\rs.length<=9
 ·rw[z7 h0,z8 (show ¬ (bs.length:Int)>9 by omega),z8 (show ¬ (rs.length:Int)>9 by omega)]
  simp only[Bool.not_false,Bool.not_true,Bool.or_true,cT,cF,Bool.true_and]
  refine (uo (p:=fun b:Bk=>kh b.1) (d:=bk0) (l:=bs) (no:=some false) (yes:=some (rs.all (fun r=>kh r.1&&(!decide ((r.2.1.length:Int)>13)&&r.2.1.all fun h=>kh h.1)))) (by omega) ?_ ?_).trans ?_
  ·intro again i hi
   simp only[ay,z7 hi,z7 (show (i:Int)<bs.length by omega),cT,z9,dt (show i<=1000000 by omega),kh]
   generalize decide ((((bs.getD i bk0).1.size:Nat):Int)>60)=g
   cases g<;>rfl
  ·intro again
   simp only[z8 (show ¬ (bs.length:Int)<bs.length by omega),cF]
   refine (uo (p:=fun r:Rp=>kh r.1&&(!decide ((r.2.1.length:Int)>13)&&r.2.1.all fun h=>kh h.1)) (d:=rp0) (l:=rs) (no:=some false) (yes:=some true) (by omega) ?_ ?_).trans ?_
   ·intro again i hi
    simp only[ay,z7 hi,z7 (show (i:Int)<rs.length by omega),cT,z9,dt (show i<=1000000 by omega)]
    simp only[kh]
    generalize decide ((((rs.getD i rp0).1.size:Nat):Int)>60)=g1
    by_cases g:((rs.getD i rp0).2.1.length:Int)>13
    ·rw[z7 g]
     cases g1<;>rfl
    ·rw[z8 g]
     cases g1 with
     | true=>rfl
     | false =>
      simp only[Bool.not_true,Bool.not_false,Bool.or_true,Bool.and_self,Bool.true_and,cT,cF]
      refine uo (p:=fun h:Hd=>!decide (((h.1.size:Nat):Int)>60)) (d:=hd0) (l:=(rs.getD i rp0).2.1) (by omega) ?_ ?_
      ·intro again1 t ht
       simp only[ay,z7 ht,z7 (show (t:Int)<(rs.getD i rp0).2.1.length by omega),cT,z9,dt (show t<=1000000 by omega)]
       generalize decide (((((rs.getD i rp0).2.1.getD t hd0).1.size:Nat):Int)>60)=g
       cases g<;>rfl
      ·intro again1
       simp only[z8 (show ¬ ((rs.getD i rp0).2.1.length:Int)<(rs.getD i rp0).2.1.length by omega),cF]
   ·intro again
    simp only[z8 (show ¬ (rs.length:Int)<rs.length by omega),cF]
   ·cases rs.all (fun r=>kh r.1&&(!decide ((r.2.1.length:Int)>13)&&r.2.1.all fun h=>kh h.1))<;>rfl
  ·cases bs.all (fun b=>kh b.1)<;>rfl
 ·rw[z8 h0]
  by_cases g:(bs.length:Int)>9
  ·rw[z7 g];rfl
  ·rw[z8 g,z7 (show (rs.length:Int)>9 by omega)];rfl
theorem D5 {s:Sy} (h:pg s=true):s.1.length<=9/\s.2.length<=9:=by
 unfold pg at h
 rw[z10,decide_eq_true_iff] at h
 exact h.1
theorem GY:aY=some true:=by kernel_rfl
theorem QC (s:Sy) (y:List Fq):br s y=some (pg s&&decide (y.length<=10)):=by
 simp only[br,qo,Gx,af]
 rw[show decide ((y.length:Int)<=10)=decide (y.length<=10) from decide_eq_decide.2 (by omega)]
 cases pg s<;>rfl
def pC (x:Int):Bool×Int×Int:=(decide (x<0),hl x.natAbs)
theorem tK {x:Int} (h1: -9223372036854775808<=x) (h2:x<9223372036854775808):cg x=some (x.natAbs:Int):=rp h1 h2
theorem Fh {n:Nat}:(bif !decide ((hl n).1=0) then true else !decide ((hl n).2=0))=decide (n≠0):=by
 unfold hl
 simp only
 by_cases h:n=0
 ·subst h;rfl
 ·rw[z7 h]
  by_cases c1:((n / 18446744073709551616:Nat):Int)=0
  ·rw[z7 c1,z8 (show ¬ ((n % 18446744073709551616:Nat):Int)=0 by omega)];rfl
  ·rw[z8 c1];rfl
theorem Ij {a b:Int}:(bif !decide (decide (a<0)=decide (b<0)) then decide ((a.natAbs*b.natAbs)≠0) else false)=decide (a*b<0):=by
 by_cases ha:a<0
 ·by_cases hb:b<0
  ·have:=Int.mul_pos_of_neg_of_neg ha hb
   rw[z8 (show ¬ a*b<0 by omega)]
   simp[ha,hb]
  ·by_cases hb0:b=0
   ·subst hb0;simp
   ·have:=Int.mul_neg_of_neg_of_pos ha (show 0<b by omega)
    rw[z7 this,z7 (show a.natAbs*b.natAbs≠0 by rw[<-Int.natAbs_mul];omega)]
    simp[ha,hb]
 ·by_cases ha0:a=0
  ·subst ha0;simp
  ·by_cases hb:b<0
   ·have:=Int.mul_neg_of_pos_of_neg (show 0<a by omega) hb
    rw[z7 this,z7 (show a.natAbs*b.natAbs≠0 by rw[<-Int.natAbs_mul];omega)]
    simp[ha,hb]
   ·have:=Int.mul_nonneg (show 0<=a by omega) (show 0<=b by omega)
    rw[z8 (show ¬ a*b<0 by omega)]
    simp[ha,hb]
theorem qN {a b:Int} (ha: -9223372036854775808<=a/\a<9223372036854775808) (hb: -9223372036854775808<=b/\b<9223372036854775808):bJ a b=some (pC (a*b)):=by
 have e:(((a.natAbs:Nat):Int)*(b.natAbs:Int) / 18446744073709551616,((a.natAbs:Nat):Int)*(b.natAbs:Int) % 18446744073709551616,PUnit.unit)=((hl (a.natAbs*b.natAbs)).1,(hl (a.natAbs*b.natAbs)).2,PUnit.unit):=by
  rw[<-Int.natCast_mul];rfl
 simp only[bJ,lg,tK ha.1 ha.2,tK hb.1 hb.2,af]
 rw[Qx (by omega) (by omega) (by omega) (by omega),af,e]
 have h1:=Fh (n:=a.natAbs*b.natAbs)
 have h2:=Ij (a:=a) (b:=b)
 rw[<-h1] at h2
 unfold pC
 rw[Int.natAbs_mul,<-h2]
 generalize hl (a.natAbs*b.natAbs)=p
 obtain ⟨c,hc⟩:∃c,(decide (decide (a<0)=decide (b<0)))=c:=⟨_,rfl⟩
 obtain ⟨c1,hc1⟩:∃c,decide (p.1=0)=c:=⟨_,rfl⟩
 simp only[hc,hc1]
 cases c<;>cases c1<;>rfl
theorem xW {s t:Bool} {m n:Nat}:aE (s,hl m) (t,hl n)=some (if m<n then -1 else if m=n then 0 else 1):=by
 simp only[aE,gd]
 have e1:(hl m).1=(hl n).1↔m / 18446744073709551616=n / 18446744073709551616:=by unfold hl;simp only;omega
 have e2:(hl m).1<(hl n).1↔m / 18446744073709551616<n / 18446744073709551616:=by unfold hl;simp only;omega
 have e3:(hl m).2=(hl n).2↔m % 18446744073709551616=n % 18446744073709551616:=by unfold hl;simp only;omega
 have e4:(hl m).2<(hl n).2↔m % 18446744073709551616<n % 18446744073709551616:=by unfold hl;simp only;omega
 rw[decide_eq_decide.2 e1,decide_eq_decide.2 e2,decide_eq_decide.2 e3,decide_eq_decide.2 e4]
 generalize q1:decide (m / 18446744073709551616=n / 18446744073709551616)=c1
 generalize q2:decide (m / 18446744073709551616<n / 18446744073709551616)=c2
 generalize q3:decide (m % 18446744073709551616=n % 18446744073709551616)=c3
 generalize q4:decide (m % 18446744073709551616<n % 18446744073709551616)=c4
 cases c1<;>cases c2<;>cases c3<;>cases c4<;>simp only[decide_eq_true_iff,decide_eq_false_iff_not] at q1 q2 q3 q4 <;>
  first
  | (exfalso;omega)
  | (rw[if_pos (show m<n by omega)];rfl)
  | (rw[if_neg (show ¬ m<n by omega),if_pos (show m=n by omega)];rfl)
  | (rw[if_neg (show ¬ m<n by omega),if_neg (show ¬ m=n by omega)];rfl)
theorem Iz {x y:Int}:cI (pC x) (pC y)=some (if x<y then -1 else if x=y then 0 else 1):=by
 have key:∀{a b:Nat} (h1:a<b↔x<y) (h2:a=b↔x=y),(if a<b then (-1:Int) else if a=b then 0 else 1)=if x<y then -1 else if x=y then 0 else 1:=fun h1 h2=>by simp only[h1,h2]
 unfold pC
 simp only[cI,iy,xW,af]
 by_cases hx:x<0
 ·by_cases hy:y<0
  ·rw[z7 hx,z7 hy,key (by omega) (by omega)]
   rfl
  ·rw[if_pos (show x<y by omega),z7 hx,z8 hy]
   rfl
 ·by_cases hy:y<0
  ·rw[if_neg (show ¬ x<y by omega),if_neg (show ¬ x=y by omega),z8 hx,z7 hy]
   rfl
  ·rw[z8 hx,z8 hy,key (a:=x.natAbs) (b:=y.natAbs) (by omega) (by omega)]
   rfl
theorem Oq {m n:Nat} (h:m+n<340282366920938463463374607431768211456):(xY (hl m).1 (hl n).1 (pF (hl m).2 (hl n).2 0),xY (hl m).2 (hl n).2 0)=hl (m+n):=by
 have h1:=Cm h
 have c1:(0:Int)<=pF (hl m).2 (hl n).2 0:=by rw[uc];omega
 have c2:pF (hl m).2 (hl n).2 0<=1:=by rw[uc];omega
 simp only[fT,lJ,z7 c1,z7 c2] at h1
 exact Option.some.inj h1
theorem FX {m n:Nat} (h:n<=m) (hm:m<340282366920938463463374607431768211456):(ud (hl m).1 (hl n).1 (nL (hl m).2 (hl n).2 0),ud (hl m).2 (hl n).2 0)=hl (m - n):=by
 have h1:=uE h hm
 have c1:(0:Int)<=nL (hl m).2 (hl n).2 0:=by rw[s9];omega
 have c2:nL (hl m).2 (hl n).2 0<=1:=by rw[s9];split<;>omega
 simp only[eO,kH,z7 c1,z7 c2] at h1
 exact Option.some.inj h1
theorem E4 {m n:Nat}:(decide ((0:Int)<=nL (hl m).2 (hl n).2 0)&&decide (nL (hl m).2 (hl n).2 0<=(1:Int)))=true:=by
 rw[z7 (show (0:Int)<=nL (hl m).2 (hl n).2 0 by rw[s9];omega),z7 (show nL (hl m).2 (hl n).2 0<=1 by rw[s9];split<;>omega)]
 rfl
theorem DK {m n:Nat}:(decide ((0:Int)<=pF (hl m).2 (hl n).2 0)&&decide (pF (hl m).2 (hl n).2 0<=(1:Int)))=true:=by
 rw[z7 (show (0:Int)<=pF (hl m).2 (hl n).2 0 by rw[uc];omega),z7 (show pF (hl m).2 (hl n).2 0<=1 by rw[uc];omega)]
 rfl
theorem Hg {x y:Int} (hx:x.natAbs<85070591730234615865843651857942052864) (hy:y.natAbs<85070591730234615865843651857942052864):bF (pC x) (pC y)=some (pC (x - y)):=by
 unfold pC
 simp only[bF,gP,xW,af,qS,E4,DK]
 by_cases hs:decide (x<0)=decide (y<0)
 ·
  rw[z7 hs]
  simp only[Bool.not_true,cF]
  by_cases hlt:x.natAbs<y.natAbs
  ·have h1:=FX (m:=y.natAbs) (n:=x.natAbs) (by omega) (by omega)
   have h2:=congrArg Prod.fst h1
   have h3:=congrArg Prod.snd h1
   simp only at h2 h3
   rw[if_pos hlt]
   simp only[show decide ((-1:Int)<0)=true from rfl,cT,h2,h3]
   have h4:=Fh (n:=y.natAbs - x.natAbs)
   have e1:decide (x - y<0)=(bif !decide (x<0) then decide (y.natAbs - x.natAbs≠0) else false):=by
    rw[z7 (show y.natAbs - x.natAbs≠0 by omega)]
    by_cases c:x<0
    ·have c':y<0:=by rw[z7 c] at hs;exact z12 hs.symm
     rw[z7 c,z8 (show ¬ x - y<0 by omega)];rfl
    ·have c':¬ y<0:=by rw[z8 c] at hs;exact of_decide_eq_false hs.symm
     rw[z8 c,z7 (show x - y<0 by omega)];rfl
   have e2:(x - y).natAbs=y.natAbs - x.natAbs:=by
    by_cases c:x<0
    ·have c':y<0:=by rw[z7 c] at hs;exact z12 hs.symm
     omega
    ·have c':¬ y<0:=by rw[z8 c] at hs;exact of_decide_eq_false hs.symm
     omega
   rw[e1,e2,<-h4]
   generalize hl (y.natAbs - x.natAbs)=p
   obtain ⟨c,hc⟩:∃c,decide (p.1=0)=c:=⟨_,rfl⟩
   simp only[hc]
   cases decide (x<0)<;>cases c<;>rfl
  ·have h1:=FX (m:=x.natAbs) (n:=y.natAbs) (by omega) (by omega)
   have h2:=congrArg Prod.fst h1
   have h3:=congrArg Prod.snd h1
   simp only at h2 h3
   have h0:¬ (if x.natAbs<y.natAbs then (-1:Int) else if x.natAbs=y.natAbs then 0 else 1)<0:=by
    rw[if_neg hlt]
    split<;>simp
   rw[z8 h0]
   simp only[cF,h2,h3]
   have h4:=Fh (n:=x.natAbs - y.natAbs)
   have e1:decide (x - y<0)=(bif decide (x<0) then decide (x.natAbs - y.natAbs≠0) else false):=by
    by_cases c:x<0
    ·have c':y<0:=by rw[z7 c] at hs;exact z12 hs.symm
     rw[z7 c,cond_true]
     exact decide_eq_decide.2 (by omega)
    ·have c':¬ y<0:=by rw[z8 c] at hs;exact of_decide_eq_false hs.symm
     rw[z8 c,z8 (show ¬ x - y<0 by omega)];rfl
   have e2:(x - y).natAbs=x.natAbs - y.natAbs:=by
    by_cases c:x<0
    ·have c':y<0:=by rw[z7 c] at hs;exact z12 hs.symm
     omega
    ·have c':¬ y<0:=by rw[z8 c] at hs;exact of_decide_eq_false hs.symm
     omega
   rw[e1,e2,<-h4]
   generalize hl (x.natAbs - y.natAbs)=p
   obtain ⟨c,hc⟩:∃c,decide (p.1=0)=c:=⟨_,rfl⟩
   simp only[hc]
   cases decide (x<0)<;>cases c<;>rfl
 ·rw[z8 hs]
  have h1:=Oq (m:=x.natAbs) (n:=y.natAbs) (by omega)
  have h2:=congrArg Prod.fst h1
  have h3:=congrArg Prod.snd h1
  simp only at h2 h3
  simp only[Bool.not_false,cT,h2,h3]
  have h4:=Fh (n:=y.natAbs)
  by_cases c:x<0
  ·have c':¬ y<0:=fun c'=>hs (by rw[z7 c,z7 c'])
   rw[z7 c,z8 c',z7 (show x - y<0 by omega),show (x - y).natAbs=x.natAbs+y.natAbs by omega]
   generalize hl y.natAbs=p
   obtain ⟨d,hd⟩:∃d,decide (p.1=0)=d:=⟨_,rfl⟩
   simp only[hd]
   cases d<;>rfl
  ·have c':y<0:=by
    apply Classical.byContradiction
    intro c'
    exact hs (by rw[z8 c,z8 c'])
   rw[z8 c,z7 c',z8 (show ¬ x - y<0 by omega),show (x - y).natAbs=x.natAbs+y.natAbs by omega]
   generalize hl y.natAbs=p
   obtain ⟨d,hd⟩:∃d,decide (p.1=0)=d:=⟨_,rfl⟩
   simp only[hd]
   cases d<;>rfl
theorem LN {d q:Int} (hd:0<d) (hd2:d<9223372036854775808) (hq:q.natAbs<9223372036854775808):cb (pC (d*q)) d=some q:=by
 unfold pC
 simp only[cb,ig]
 have e:(d*q).natAbs=d.natAbs*q.natAbs:=Int.natAbs_mul _ _
 have hdn:(d.natAbs:Int)=d:=by omega
 have h1:(d*q).natAbs / 18446744073709551616<d.natAbs:=by
  rw[e]
  refine (Nat.div_lt_iff_lt_mul (by omega)).2 ?_
  exact Nat.mul_lt_mul_of_pos_left (by omega) (by omega)
 have h2:=BN (h:=(d*q).natAbs / 18446744073709551616) (l:=(d*q).natAbs % 18446744073709551616) (y:=d.natAbs) h1 (by omega) (by omega)
 have h3:(d*q).natAbs / 18446744073709551616*18446744073709551616+(d*q).natAbs % 18446744073709551616=(d*q).natAbs:=by omega
 rw[h3,e,Nat.mul_div_cancel_left _ (by omega)] at h2
 have h4:IntKind.wrap .u64 d=(d.natAbs:Int):=by rw[bN (by omega) (by omega)];omega
 rw[h4]
 unfold hl
 simp only
 rw[e,h2,af]
 simp only
 rw[aB (x:=(q.natAbs:Int)) (by omega) (by omega)]
 by_cases c:q<0
 ·rw[z7 (show d*q<0 from Int.mul_neg_of_pos_of_neg hd c),cond_true,aB (by omega) (by omega)]
  congr 1
  omega
 ·rw[z8 (show ¬ d*q<0 by have:=Int.mul_nonneg (show 0<=d by omega) (show 0<=q by omega);omega),cond_false]
  congr 1
  omega
theorem ax {i:Nat} (h:i<=1000000):IntKind.wrap .i64 ((i:Int)+1)=((i+1:Nat):Int):=by rw[aB (by omega) (by omega)];rfl
def mid (T:Nat->Nat->Int) (d:Int) (r c i j:Nat):Nat->Nat->Int:=fun k l=>if k≠r/\(k<i\/(k=i/\l<j)) then piv T d r c k l else T k l
theorem OU {T:Nat->Nat->Int} {d:Int} {r c i j l:Nat}:mid T d r c i j r l=T r l:=if_neg fun h=>h.1 rfl
theorem BM {T:Nat->Nat->Int} {d:Int} {r c i j l:Nat} (h:j<=l):mid T d r c i j i l=T i l:=by
 unfold mid
 rw[if_neg fun h=>by omega]
theorem KQ {T:Nat->Nat->Int} {d:Int} {r c k l:Nat}:T k l=mid T d r c 0 0 k l:=by
 unfold mid
 rw[if_neg fun h=>by omega]
def AG (T:Nat->Nat->Int) (i j:Nat):Nat->Nat->Int:=fun k l=>if k<i\/(k=i/\l<j) then - T k l else T k l
theorem GG {T:Nat->Nat->Int} {i j l:Nat} (h:j<=l):AG T i j i l=T i l:=by
 unfold AG
 rw[if_neg fun h=>by omega]
theorem GF {T:Nat->Nat->Int} {k l:Nat}:T k l=AG T 0 0 k l:=by
 unfold AG
 rw[if_neg fun h=>by omega]
theorem dX {m w:Nat} {T:Nat->Nat->Int}:(gy m w T).2=dn m w T:=rfl
theorem tL {m w:Nat} {T T':Nat->Nat->Int} {i j:Nat} {x:Int} (hi:i<m) (hj:j<w) (h:∀k l,k<m->l<w->(if k=i/\l=j then x else T k l)=T' k l) :
  ((gy m w T).1,(dn m w T).set i (some ((bO w (T i)).set j x)))=gy m w T':=by
 rw[Bo hi hj,gV h]
 rfl
structure PivOk (m w:Nat) (T:Nat->Nat->Int) (d:Int) (r c:Nat):Prop where
 hm:m<=1000
 hw:w<=1000
 hr:r<m
 hc:c<w
 hd:0<d/\d<4611686018427387904
 b:∀i j,i<m->j<w->(T i j).natAbs<4611686018427387904
 q:∀i j,i<m->i≠r->j<w->d*piv T d r c i j=T r c*T i j - T i c*T r j
 qb:∀i j,i<m->i≠r->j<w->(piv T d r c i j).natAbs<4611686018427387904
theorem jG {x:Int} (h:x.natAbs<4611686018427387904): -9223372036854775808<=x/\x<9223372036854775808:=by omega
theorem Dd {x y:Int} (hx:x.natAbs<4611686018427387904) (hy:y.natAbs<4611686018427387904):(x*y).natAbs<85070591730234615865843651857942052864:=by
 rw[Int.natAbs_mul]
 exact Nat.lt_of_le_of_lt (Nat.mul_le_mul (Nat.le_of_lt_succ (n:=4611686018427387903) hx) (Nat.le_of_lt_succ (n:=4611686018427387903) hy)) (by decide)
theorem xI {m w:Nat} {T:Nat->Nat->Int} {d:Int} {β:Nat->Nat} {r c:Nat} {x3 x4:List Int} {x5 x6:Int} (h:PivOk m w T d r c) :
  aO (gy m w T) d (fF m β) x3 x4 x5 x6 (r:Int) (c:Int)=some (gy m w (nA T d r c),sg (T r c)*T r c,fF m (upd β r c),x3,x4,x5,x6,()):=by
 obtain ⟨hm,hw,hr,hc,hd,hb,hq,hqb⟩:=h
 unfold aO iE
 simp only[cP,cK hr,dX,cd hr,av,aZ hc,ay,z9,z7 hr,z7 hc,aH (show Nat.succ r<=m from hr),aH (show Nat.succ c<=w from hc),cT,xH hr,fg]
 refine bf m (by omega) (fun i=>((i:Int),gy m w (mid T d r c i 0),PUnit.unit)) _ (by rw[dL fun k l _ _=>KQ];rfl) (fun again i hi=>?_) (fun again=>?_)
 ·simp only[cP,cK hi,dX,cd hi,av,aZ hc,ay,z9,z7 hi,z7 hc,z7 (show (i:Int)<m by omega),aH (show Nat.succ i<=m from hi),aH (show Nat.succ c<=w from hc),cT,i7 hi,ax (show i<=1000000 by omega)]
  by_cases e:i=r
  ·rw[z7 (show (i:Int)=r by omega),cond_true]
   congr 3
   refine dL fun k l _ _=>?_
   unfold mid
   by_cases c1:k≠r/\(k<i\/(k=i/\l<0))
   ·rw[if_pos c1,if_pos (by omega)]
   ·rw[if_neg c1,if_neg (by omega)]
  ·rw[z8 (show ¬ (i:Int)=r by omega),cond_false]
   refine tu w (by omega) (fun j=>((j:Int),gy m w (mid T d r c i j),PUnit.unit)) _ (fun again2 j hj=>?_) (fun again2=>?_)
   ·have t1:=qN (jG (hb i j hi hj)) (jG (hb r c hr hc))
    have t2:=qN (jG (hb i c hi hc)) (jG (hb r j hr hj))
    have t3:=Hg (Dd (hb i j hi hj) (hb r c hr hc)) (Dd (hb i c hi hc) (hb r j hr hj))
    have t4:cb (pC (T i j*T r c - T i c*T r j)) d=some (piv T d r c i j):=by
     rw[Int.mul_comm (T i j),<-hq i j hi e hj]
     exact LN hd.1 (by omega) (by have:=hqb i j hi e hj;omega)
    simp only[cP,cK hr,dX,cd hi,cd hr,av,aZ hj,ay,z9,z7 hj,z7 hr,z7 (show (j:Int)<w by omega),
     aH (show Nat.succ j<=w from hj),aH (show Nat.succ r<=m from hr),cT,OU,BM (Nat.le_refl j),BM (Nat.zero_le c),t1,t2,t3,t4,af,ax (show j<=1000000 by omega)]
    congr 3
    refine tL hi hj fun k l hk hl=>?_
    unfold mid
    by_cases c0:k=i/\l=j
    ·rw[if_pos c0,if_pos (by omega),c0.1,c0.2]
    ·rw[if_neg c0]
     by_cases c1:k≠r/\(k<i\/(k=i/\l<j))
     ·rw[if_pos c1,if_pos (by omega)]
     ·rw[if_neg c1,if_neg (by omega)]
   ·simp only[dX,cd hi,av,z8 (show ¬ (w:Int)<w by omega),cF]
    congr 3
    refine dL fun k l hk hl=>?_
    unfold mid
    by_cases c1:k≠r/\(k<i\/(k=i/\l<w))
    ·rw[if_pos c1,if_pos (by omega)]
    ·rw[if_neg c1,if_neg (by omega)]
 ·simp only[cP,z8 (show ¬ (m:Int)<m by omega),cF]
  by_cases hneg:T r c<0
  ·rw[z7 hneg,cond_true]
   refine bf m (by omega) (fun i=>((i:Int),gy m w (AG (mid T d r c m 0) i 0),PUnit.unit)) _ (by rw[dL fun k l _ _=>GF];rfl) (fun again i hi=>?_) (fun again=>?_)
   ·simp only[cP,cK hi,dX,cd hi,av,ay,z9,z7 hi,z7 (show (i:Int)<m by omega),aH (show Nat.succ i<=m from hi),cT,i7 hi,ax (show i<=1000000 by omega)]
    refine tu w (by omega) (fun j=>((j:Int),gy m w (AG (mid T d r c m 0) i j),PUnit.unit)) _ (fun again2 j hj=>?_) (fun again2=>?_)
    ·have hbb:(mid T d r c m 0 i j).natAbs<4611686018427387904:=by
      unfold mid
      split
      ·rename_i hh;exact hqb i j hi hh.1 hj
      ·exact hb i j hi hj
     simp only[dX,cd hi,av,aZ hj,ay,z9,z7 hj,z7 (show (j:Int)<w by omega),
      aH (show Nat.succ j<=w from hj),cT,GG (Nat.le_refl j),ax (show j<=1000000 by omega),aB (show -9223372036854775808<=0 - mid T d r c m 0 i j by omega) (by omega)]
     congr 3
     refine tL hi hj fun k l hk hl=>?_
     unfold AG
     by_cases c0:k=i/\l=j
     ·rw[if_pos c0,if_pos (by omega),c0.1,c0.2]
      omega
     ·rw[if_neg c0]
      by_cases c1:k<i\/(k=i/\l<j)
      ·rw[if_pos c1,if_pos (by omega)]
      ·rw[if_neg c1,if_neg (by omega)]
    ·simp only[dX,cd hi,av,z8 (show ¬ (w:Int)<w by omega),cF]
     congr 3
     refine dL fun k l hk hl=>?_
     unfold AG
     by_cases c1:k<i\/(k=i/\l<w)
     ·rw[if_pos c1,if_pos (by omega)]
     ·rw[if_neg c1,if_neg (by omega)]
   ·have hrc:=hb r c hr hc
    simp only[cP,z8 (show ¬ (m:Int)<m by omega),cF,aB (show -9223372036854775808<=0 - T r c by omega) (by omega)]
    have e1:sg (T r c)= -1:=by unfold sg;rw[if_pos hneg]
    congr 2
    ·refine dL fun k l hk hl=>?_
     unfold AG mid nA
     rw[if_pos (by omega),e1]
     by_cases c0:k=r
     ·rw[if_neg (by omega),if_pos c0,c0];omega
     ·rw[if_pos (by omega),if_neg c0];omega
    ·rw[e1]
     congr 1
     omega
  ·rw[z8 hneg,cond_false]
   have e1:sg (T r c)=1:=by unfold sg;rw[if_neg hneg]
   congr 2
   ·refine dL fun k l hk hl=>?_
    unfold mid nA
    rw[e1,Int.one_mul]
    by_cases c0:k=r
    ·rw[if_neg (by omega),if_pos c0,c0]
    ·rw[if_pos (by omega),if_neg c0]
   ·rw[e1,Int.one_mul]
theorem oj {x y z p q r:Int} (hp:0<p) (hq:0<q) (hr:0<r) (h1:x*q<=y*p) (h2:y*r<=z*q):x*r<=z*p:=by
 refine yM hq ?_
 have a1:=z11 h1 (Int.le_of_lt hr)
 have a2:=z11 h2 (Int.le_of_lt hp)
 calc q*(x*r)=x*q*r:=by grind
  _<=y*p*r:=a1
  _=y*r*p:=by grind
  _<=z*q*p:=a2
  _=q*(z*p):=by grind
theorem Bh {x y z p q r:Int} (hp:0<p) (hq:0<q) (hr:0<r) (h1:x*q<=y*p) (h2:y*r<=z*q) (h:x*r=z*p):x*q=y*p/\y*r=z*q:=by
 have h3:=oj hq hr hp h2 (by rw[h];exact Int.le_refl _)
 have h4:=oj (x:=z) (y:=x) (z:=y) (p:=r) (q:=p) (r:=q) hr hp hq (by rw[h];exact Int.le_refl _) h1
 exact ⟨Int.le_antisymm h1 h3,Int.le_antisymm h2 h4⟩
theorem xD {m w:Nat} {T:Nat->Nat->Int} {d:Int} {β:Nat->Nat} {c R:Nat} {x1:Int} {x3 x4:List Int} {x5:Int} (hm:m<=1000) (hc:c<w) (hR:R<w) (hb:∀i j,i<m->j<w->(T i j).natAbs<4611686018427387904) :
  ∃b,aL (tg m w T,x1,fF m β,x3,x4,x5,(R:Int)) (c:Int)=some b/\((b= -1/\∀i,i<m->T i c<=0)\/∃r:Nat,b=r/\Dn.Leaves m R ⟨T,d,β⟩ c r):=by
 unfold aL gM
 refine QE (fun (x:Int×Int×PUnit)=>∃i:Nat,i<=m/\x.2.1=i/\((x.1= -1/\∀k,k<i->T k c<=0)\/∃r:Nat,x.1=r/\Dn.Leaves i R ⟨T,d,β⟩ c r)) _ (fun x=>((m:Int) - x.2.1).toNat) ?_ ⟨0,by omega,rfl,.inl ⟨rfl,fun k hk=>by omega⟩⟩ (by simp only;omega)
 rintro ⟨b,_,_⟩ ⟨i,hi,rfl,hI⟩
 simp only at hI
 by_cases hlt:i<m
 ·have gR:=nD (w:=w) (T:=T) hlt
  have ext:∀r,Dn.Leaves i R ⟨T,d,β⟩ c r->(0<T i c->T r R*T i c<=T i R*T r c/\(T r R*T i c=T i R*T r c->β r<=β i))->Dn.Leaves (i+1) R ⟨T,d,β⟩ c r:=fun r h hn=>by
   refine ⟨by have:=h.lt;omega,h.pos,fun k hk hp=>?_,fun k hk hp he=>?_⟩
   ·by_cases e:k=i
    ·subst e;exact (hn hp).1
    ·exact h.le k (by omega) hp
   ·by_cases e:k=i
    ·subst e;exact (hn hp).2 he
    ·exact h.tie k (by omega) hp he
  right
  by_cases hpos:T i c<=0
  ·refine ⟨(b,((i+1:Nat):Int),PUnit.unit),⟨i+1,by omega,rfl,?_⟩,by simp only;omega,fun rec=>?_⟩
   ·rcases hI with ⟨h1,h2⟩ | ⟨r,h1,h2⟩
    ·exact .inl ⟨h1,fun k hk=>by
      by_cases e:k=i
      ·rw[e];exact hpos
      ·exact h2 k (by omega)⟩
    ·exact .inr ⟨r,h1,ext r h2 fun h=>by omega⟩
   ·simp only[iT,ay,z9,z7 hlt,z7 (show (i:Int)<m by omega),gR,av,aZ hc,z7 hc,z7 hpos,cT,ax (show i<=1000000 by omega)]
  ·rcases hI with ⟨h1,h2⟩ | ⟨r,h1,h2⟩
   ·refine ⟨((i:Int),((i+1:Nat):Int),PUnit.unit),⟨i+1,by omega,rfl,.inr ⟨i,rfl,⟨by omega,show 0<T i c by omega,fun k hk hp=>?_,fun k hk hp _=>?_⟩⟩⟩,by simp only;omega,fun rec=>?_⟩
    ·by_cases e:k=i
     ·subst e;exact Int.le_refl _
     ·have h3:=h2 k (by omega)
      have hp:0<T k c:=hp
      omega
    ·by_cases e:k=i
     ·subst e;exact Nat.le_refl _
     ·have h3:=h2 k (by omega)
      have hp:0<T k c:=hp
      omega
    ·simp only[iT,ay,z9,z7 hlt,z7 (show (i:Int)<m by omega),gR,av,aZ hc,z7 hc,z8 hpos,z7 (show b<0 by omega),cT,cF,ax (show i<=1000000 by omega)]
   ·subst h1
    have hr:r<m:=by have:=h2.lt;omega
    have gr:=nD (w:=w) (T:=T) hr
    have t1:=qN (jG (hb i R hlt hR)) (jG (hb r c hr hc))
    have t2:=qN (jG (hb r R hr hR)) (jG (hb i c hlt hc))
    have hpr:0<T r c:=h2.pos
    refine ⟨(if T i R*T r c<T r R*T i c\/(T i R*T r c=T r R*T i c/\β i<β r) then (i:Int) else (r:Int),((i+1:Nat):Int),PUnit.unit),⟨i+1,by omega,rfl,.inr ?_⟩,by simp only;omega,fun rec=>?_⟩
    ·simp only
     by_cases hq:T i R*T r c<T r R*T i c\/(T i R*T r c=T r R*T i c/\β i<β r)
     ·rw[if_pos hq]
      have hle:T i R*T r c<=T r R*T i c:=by rcases hq with h | h<;>omega
      have hpi:0<T i c:=by omega
      refine ⟨i,rfl,⟨by omega,hpi,fun k hk hp=>?_,fun k hk hp he=>?_⟩⟩
      ·have hp:0<T k c:=hp
       by_cases e:k=i
       ·subst e;exact Int.le_refl _
       ·exact oj hpi hpr hp hle (h2.le k (by omega) hp)
      ·have hp:0<T k c:=hp
       have he:T i R*T k c=T k R*T i c:=he
       by_cases e:k=i
       ·subst e;exact Nat.le_refl _
       ·obtain ⟨e1,e2⟩:=Bh hpi hpr hp hle (h2.le k (by omega) hp) he
        have h3:β r<=β k:=h2.tie k (by omega) hp e2
        show β i<=β k
        rcases hq with h | h<;>omega
     ·rw[if_neg hq]
      have h3:=fun h=>hq (.inl h)
      refine ⟨r,rfl,ext r h2 fun hp=>⟨by omega,fun he=>?_⟩⟩
      have h4:=fun h=>hq (.inr ⟨he.symm,h⟩)
      omega
    ·simp only[iT,ay,z9,z7 hlt,z7 hr,z7 (show (i:Int)<m by omega),gR,gr,av,aZ hc,aZ hR,z7 hc,z7 hR,z8 hpos,z8 (show ¬ (r:Int)<0 by omega),cT,cF,ax (show i<=1000000 by omega),
      t1,t2,af,Iz,fg,gN hlt,gN hr]
     by_cases c1:T i R*T r c<T r R*T i c
     ·rw[if_pos c1,if_pos (.inl c1)]
      generalize decide ((β i:Int)<β r)=bb
      cases bb<;>rfl
     ·by_cases c2:T i R*T r c=T r R*T i c
      ·rw[if_neg c1,if_pos c2]
       by_cases c3:β i<β r
       ·rw[if_pos (.inr ⟨c2,c3⟩),z7 (show (β i:Int)<β r by omega)]
        rfl
       ·rw[if_neg (by rintro (h | h)<;>omega),z8 (show ¬ (β i:Int)<β r by omega)]
        rfl
      ·rw[if_neg c1,if_neg c2,if_neg (by rintro (h | h)<;>omega)]
       generalize decide ((β i:Int)<β r)=bb
       cases bb<;>rfl
 ·left
  have e:i=m:=by omega
  subst e
  refine ⟨b,hI,fun rec=>?_⟩
  simp only[iT,z8 (show ¬ (i:Int)<i by omega),cF]
theorem iv {n:Nat} {f:Nat->Int} {B:Int} (h:∀i,i<n-> -B<=f i/\f i<=B): -(n*B)<=sz n f/\sz n f<=n*B:=by
 induction n with
 | zero=>simp[sz]
 | succ n ih =>
  have h1:=ih fun i hi=>h i (by omega)
  have h2:=h n (by omega)
  simp only[sz]
  rw[show ((n+1:Nat):Int)*B=n*B+B by rw[show ((n+1:Nat):Int)=(n:Int)+1 by omega,Int.add_mul,Int.one_mul]]
  omega
theorem yd {m w:Nat} {T:Nat->Nat->Int} {β:Nat->Nat} {N j:Nat} {x1 x6:Int} {x3 x4:List Int} (hm:m<=1000) (hj:j<w) (hb:∀i,i<m-> -1125899906842624<=T i j/\T i j<=1125899906842624) :
  aI (tg m w T,x1,fF m β,x3,x4,(N:Int),x6) (j:Int)=some (sz m fun i=>ef N (β i)*T i j):=by
 unfold aI fS
 have hterm:∀i,i<m-> -1125899906842624<=ef N (β i)*T i j/\ef N (β i)*T i j<=1125899906842624:=fun i hi=>by
  have:=hb i hi
  unfold ef
  split<;>omega
 refine tu m (by omega) (fun i=>(sz i (fun k=>ef N (β k)*T k j),(i:Int),PUnit.unit)) _ (fun again i hi=>?_) (fun again=>?_)
 ·have h1:=iv (n:=i) (f:=fun k=>ef N (β k)*T k j) (B:=1125899906842624) fun k hk=>hterm k (by omega)
  have h2:=hterm i hi
  have hi2:(i:Int)<=1000:=by omega
  have h3:(i:Int)*1125899906842624<=1000*1125899906842624:=z11 hi2 (by omega)
  simp only[iT,fg,ay,z9,z7 hi,z7 (show (i:Int)<m by omega),nD hi,gN hi,av,aZ hj,z7 hj,cT,ax (show i<=1000000 by omega)]
  have hT:=hb i hi
  by_cases e:N<=β i
  ·have e1:ef N (β i)*T i j=T i j:=by unfold ef;rw[if_pos e];omega
   rw[z7 (show (β i:Int)>=N by omega),cond_true,aB (by omega) (by omega)]
   simp only[sz,e1]
  ·have e1:ef N (β i)*T i j=0:=by unfold ef;rw[if_neg e];omega
   rw[z8 (show ¬ (β i:Int)>=N by omega),cond_false]
   simp only[sz,e1,Int.add_zero]
 ·simp only[iT,z8 (show ¬ (m:Int)<m by omega),cF]
def jr (cs:List Int) (j:Nat):Int:=cs.getD j 0
theorem vV {M:List (List Int)} {x1:Int} {x2 x3 cs:List Int} {x5 x6:Int} {j:Nat}:aP (M,x1,x2,x3,cs,x5,x6) (j:Int)=some (jr cs j):=by
 unfold jr
 simp only[aP,iV,ay,z9]
 by_cases h:j<cs.length
 ·rw[z7 h,z7 (show (j:Int)<cs.length by omega)];rfl
 ·rw[z8 (show ¬ (j:Int)<cs.length by omega),cond_false,List.getD_eq_getElem?_getD,List.getElem?_eq_none (by omega)];rfl
theorem Ep {m w:Nat} {T:Nat->Nat->Int} {d:Int} {β:Nat->Nat} {j:Nat} {x3 cs:List Int} {x5 x6:Int} (hm:m<=1000) (hj:j<w) (hd: -1125899906842624<=jr cs j*d/\jr cs j*d<=1125899906842624)
  (hb:∀i,i<m-> -1125899906842624<=jr cs (β i)*T i j/\jr cs (β i)*T i j<=1125899906842624) :
  bQ (tg m w T,d,fF m β,x3,cs,x5,x6) (j:Int)=some (zr m (jr cs) ⟨T,d,β⟩ j):=by
 unfold bQ gQ
 rw[vV,obN]
 refine bf m (by omega) (fun i=>(jr cs j*d - sz i (fun k=>jr cs (β k)*T k j),(i:Int),PUnit.unit)) _ ?_ (fun again i hi=>?_) (fun again=>?_)
 ·simp only[sz,Int.sub_zero]
  rw[aB (by omega) (by omega)]
  rfl
 ·have h1:=iv (n:=i) (f:=fun k=>jr cs (β k)*T k j) (B:=1125899906842624) fun k hk=>hb k (by omega)
  have h2:=hb i hi
  have hi2:(i:Int)<=1000:=by omega
  have h3:(i:Int)*1125899906842624<=1000*1125899906842624:=z11 hi2 (by omega)
  simp only[iT,fg,ay,z9,z7 hi,z7 (show (i:Int)<m by omega),nD hi,gN hi,av,aZ hj,z7 hj,cT,ax (show i<=1000000 by omega),vV,af]
  rw[aB (x:=jr cs (β i)*T i j) (by omega) (by omega),aB (by omega) (by omega)]
  simp only[sz]
  congr 2
  omega
 ·simp only[iT,z8 (show ¬ (m:Int)<m by omega),cF]
  rfl
structure Bnd (L:Lin) (Y:Lay):Prop where
 ok:Y.ok L
 m:L.m<=12
 w:Y.w L<=64
 P:L.F0*L.P<=17592186044416
theorem wC {x:Int}:ab x=x.natAbs:=rfl
section
variable {L:Lin} {Y:Lay}
theorem Bnd.P' (h:Bnd L Y):L.P<=17592186044416:=by
 have h1:=L.F0_pos
 have h2:=L.P_pos
 have h3:1*L.P<=L.F0*L.P:=z11 h1 (by omega)
 have:=h.P
 omega
theorem Bnd.tab (h:Bnd L Y) {T:Nat->Nat->Int} {d:Int} {β:Nat->Nat} (ht:Tb L.m (Y.w L) (Y.M L) T d β):(0<d/\d<=17592186044416)/\∀i j,i<L.m->j<Y.w L->(T i j).natAbs<=17592186044416:=by
 obtain ⟨h1,h2⟩:=kM h.ok ht
 have h3:=h.P'
 refine ⟨⟨ht.dpos,by omega⟩,fun i j hi hj=>?_⟩
 have:=h2 i j hi hj
 rw[wC] at this
 omega
theorem Bm (j:Nat):(bm L j).natAbs<=L.F0 - 1:=by
 unfold bm Lin.F0
 have h0:0<=sz L.n fun j=>ab (L.c j):=i9 fun j _=>cH _
 split
 ·rename_i hj
  have h1:(sz L.n fun i=>if i=j then ab (L.c j) else 0)<=sz L.n fun j=>ab (L.c j):=nJ fun i _=>by
   by_cases e:i=j
   ·rw[if_pos e,e];exact Int.le_refl _
   ·rw[if_neg e];exact cH _
  rw[fb hj fun i _ hne=>if_neg hne,if_pos rfl,wC] at h1
  omega
 ·simp only[Int.natAbs_zero]
  omega
theorem Bnd.cost (h:Bnd L Y) {x:Int} (hx:(x.natAbs:Int)<=L.P) (j:Nat): -17592186044416<=bm L j*x/\bm L j*x<=17592186044416:=by
 have h1:=Bm (L:=L) j
 have h2:((bm L j*x).natAbs:Int)<=L.F0*L.P:=by
  rw[Int.natAbs_mul,Int.natCast_mul]
  refine Int.le_trans (Int.mul_le_mul (show ((bm L j).natAbs:Int)<=L.F0 by omega) hx (by omega) (by omega)) (Int.le_refl _)
 have:=h.P
 omega
theorem Bnd.tabP (h:Bnd L Y) {T:Nat->Nat->Int} {d:Int} {β:Nat->Nat} (ht:Tb L.m (Y.w L) (Y.M L) T d β):(d.natAbs:Int)<=L.P/\∀i j,i<L.m->j<Y.w L->((T i j).natAbs:Int)<=L.P:=by
 obtain ⟨h1,h2⟩:=kM h.ok ht
 have:=ht.dpos
 exact ⟨by omega,fun i j hi hj=>h2 i j hi hj⟩
theorem Q7 (x:Int) (y:Int):(sg x*y).natAbs=y.natAbs:=by unfold sg;split<;>omega
theorem Bnd.piv (h:Bnd L Y) {T:Nat->Nat->Int} {d:Int} {β:Nat->Nat} (ht:Tb L.m (Y.w L) (Y.M L) T d β) {r c:Nat} (hr:r<L.m) (hc:c<Y.w L) (he:T r c≠0):PivOk L.m (Y.w L) T d r c:=by
 obtain ⟨h1,h2⟩:=h.tab ht
 obtain ⟨h3,h4⟩:=h.tab (ht.step hr hc he)
 have:=h.m
 have:=h.w
 refine ⟨by omega,by omega,hr,hc,by omega,fun i j hi hj=>by have:=h2 i j hi hj;omega,fun i j hi hne hj=>ja ht hr hi (Ne.symm hne) hc hj,fun i j hi hne hj=>?_⟩
 have h5:=h4 i j hi hj
 unfold nA at h5
 rw[if_neg hne,Q7] at h5
 omega
def AZ (L:Lin) (Y:Lay) (S:Sx):Prop:=∀i,i<L.m->Y.N<=S.β i->(∀j,j<Y.N->S.T i j=0)/\S.T i (Y.R L)=0
theorem AZ.art (S:Sx) (h:AZ L Y S):Cf L.m Y.N S (Y.R L):=fun i hi hN=>(h i hi hN).2
theorem AZ.col (S:Sx) (h:AZ L Y S) {q:Nat} (hq:q<Y.N):Cf L.m Y.N S q:=fun i hi hN=>(h i hi hN).1 q hq
def dP (S:Sx) (r c:Nat):Sx:=⟨nA S.T S.d r c,sg (S.T r c)*S.T r c,upd S.β r c⟩
theorem tI {m w:Nat} {S:Sx} {r c:Nat} (hp:0<S.T r c):StepAt m w S (dP S r c) r c:=by
 have e:sg (S.T r c)=1:=by unfold sg;rw[if_neg (by omega)]
 refine ⟨fun i j _ _=>?_,?_,fun i _=>rfl⟩
 ·show nA S.T S.d r c i j=_
  unfold nA
  rw[e,Int.one_mul]
 ·show sg (S.T r c)*S.T r c=_
  rw[e,Int.one_mul]
theorem AZ.step {S:Sx} (h:AZ L Y S) {r c:Nat} (hc:c<Y.N):AZ L Y (dP S r c):=fun i hi hN=>by
 have hb:(dP S r c).β i=upd S.β r c i:=rfl
 rw[hb] at hN
 unfold upd at hN
 by_cases e:i=r
 ·rw[if_pos e] at hN;omega
 ·rw[if_neg e] at hN
  obtain ⟨h1,h2⟩:=h i hi hN
  have hT:∀j,(dP S r c).T i j=sg (S.T r c)*Dn.piv S.T S.d r c i j:=fun j=>by
   show nA S.T S.d r c i j=_
   unfold nA
   rw[if_neg e]
  have hz:∀j,S.T i j=0->Dn.piv S.T S.d r c i j=0:=fun j hj=>by
   unfold Dn.piv
   rw[hj,h1 c hc,Int.mul_zero,Int.zero_mul,Int.sub_zero,Int.zero_ediv]
  exact ⟨fun j hj=>by rw[hT,hz j (h1 j hj),Int.mul_zero],by rw[hT,hz _ h2,Int.mul_zero]⟩
abbrev nj (L:Lin) (Y:Lay) (x3 cs:List Int) (S:Sx):(List Nat×List (Option (List Int)))×Int×List Int×List Int×List Int×Int×Int×PUnit:=(gy L.m (Y.w L) S.T,S.d,fF L.m S.β,x3,cs,(Y.N:Int),((Y.R L:Nat):Int),PUnit.unit)
theorem EW (h:Bnd L Y) (hp:(Y.w L) ^ L.m<=1180591620717411303424) {x3 cs:List Int} (hcs:∀j,jr cs j=bm L j) {S:Sx} (hv:Y.Val L S) (ha:AZ L Y S) :
  ∃S' ok,bH (gy L.m (Y.w L) S.T) S.d (fF L.m S.β) x3 cs (Y.N:Int) ((Y.R L:Nat):Int)=some (gy L.m (Y.w L) S'.T,S'.d,fF L.m S'.β,x3,cs,(Y.N:Int),((Y.R L:Nat):Int),ok,())/\Y.Val L S'/\AZ L Y S' /\
   (ok=true->∀j,j<Y.N->0<=zr L.m (bm L) S' j)/\(ok=false->∃q,q<Y.N/\zr L.m (bm L) S' q<0/\∀i,i<L.m->S'.T i q<=0):=by
 have hcs':jr cs=bm L:=funext hcs
 have hm:=h.m
 have hw:=h.w
 have hN:Y.N<=Y.R L:=by unfold Lay.R;omega
 have hRw:Y.R L<Y.w L:=by unfold Lay.R Lay.w;omega
 unfold bH gT
 have fin:∀{x:Option ((List Nat×List (Option (List Int)))×Int×List Int×List Int×List Int×Int×Int×Bool×Unit)},(∃r,x=some r/\∃S' ok,r=(gy L.m (Y.w L) S'.T,S'.d,fF L.m S'.β,x3,cs,(Y.N:Int),((Y.R L:Nat):Int),ok,PUnit.unit)/\Y.Val L S'/\AZ L Y S' /\
   (ok=true->∀j,j<Y.N->0<=zr L.m (bm L) S' j)/\(ok=false->∃q,q<Y.N/\zr L.m (bm L) S' q<0/\∀i,i<L.m->S'.T i q<=0))->∃S' ok,x=some (gy L.m (Y.w L) S'.T,S'.d,fF L.m S'.β,x3,cs,(Y.N:Int),((Y.R L:Nat):Int),ok,())/\Y.Val L S'/\AZ L Y S' /\
   (ok=true->∀j,j<Y.N->0<=zr L.m (bm L) S' j)/\(ok=false->∃q,q<Y.N/\zr L.m (bm L) S' q<0/\∀i,i<L.m->S'.T i q<=0):=by
  rintro x ⟨r,h1,S',ok,rfl,h3⟩
  exact ⟨S',ok,h1,h3⟩
 refine fin (N2 (γ:=Sx) (I:=fun (S:Sx) x=>x=nj L Y x3 cs S/\Y.Val L S/\AZ L Y S)
  (Q:=fun r=>∃S' ok,r=(gy L.m (Y.w L) S'.T,S'.d,fF L.m S'.β,x3,cs,(Y.N:Int),((Y.R L:Nat):Int),ok,PUnit.unit)/\Y.Val L S'/\AZ L Y S' /\
   (ok=true->∀j,j<Y.N->0<=zr L.m (bm L) S' j)/\(ok=false->∃q,q<Y.N/\zr L.m (bm L) S' q<0/\∀i,i<L.m->S'.T i q<=0))
  (μ:=fun S=>left L.m (Y.w L) Y.N (Y.R L) (Y.M L) (bm L) S) ?_ (s:=S) ⟨rfl,hv,ha⟩ (Nat.lt_of_lt_of_le (AO (by unfold Lay.w;omega) S) hp))
 rintro S _ ⟨rfl,hv,ha⟩
 obtain ⟨hd,hb⟩:=h.tabP hv.tb
 have hred:∀j,j<Y.N->bQ (tg L.m (Y.w L) S.T,S.d,fF L.m S.β,x3,cs,(Y.N:Int),((Y.R L:Nat):Int)) (j:Int)=some (zr L.m (bm L) S j):=fun j hj=>by
  have hjw:j<Y.w L:=by omega
  have:=Ep (m:=L.m) (w:=Y.w L) (T:=S.T) (d:=S.d) (β:=S.β) (j:=j) (x3:=x3) (cs:=cs) (x5:=(Y.N:Int)) (x6:=((Y.R L:Nat):Int)) (by omega) hjw
   (by rw[hcs'];have:=h.cost hd j;omega) (fun i hi=>by rw[hcs'];have:=h.cost (hb i j hi hjw) (S.β i);omega)
  rw[this,hcs']
 rcases nU Y.N (fun j=>decide (zr L.m (bm L) S j<0)) with hnone | ⟨q,hq,hneg,hleast⟩
 ·left
  refine ⟨_,⟨S,true,rfl,hv,ha,fun _ j hj=>by have:=of_decide_eq_false (hnone j hj);omega,fun e=>by cases e⟩,fun rec=>?_⟩
  refine tu Y.N (by omega) (fun j=>((-1:Int),(j:Int),PUnit.unit)) _ (fun again j hj=>?_) (fun again=>?_)
  ·simp only[aX,cT,z7 (show (j:Int)<Y.N by omega),show decide ((-1:Int)<0)=true from rfl,g9,ik,hred j hj,af,hnone j hj,cF,ax (show j<=1000000 by omega)]
  ·simp only[aX,cT,cF,z8 (show ¬ (Y.N:Int)<Y.N by omega),show decide ((-1:Int)<0)=true from rfl]
 ·have hneg:=z12 hneg
  have hqw:q<Y.w L:=by omega
  have hent:Enters L.m Y.N (bm L) S q:=⟨hq,hneg,fun j hj=>by have:=of_decide_eq_false (hleast j hj);omega⟩
  have hbb:∀i j,i<L.m->j<Y.w L->(S.T i j).natAbs<4611686018427387904:=fun i j hi hj=>by have:=(h.tab hv.tb).2 i j hi hj;omega
  obtain ⟨b,hl1,hl2⟩:=xD (m:=L.m) (w:=Y.w L) (T:=S.T) (d:=S.d) (β:=S.β) (c:=q) (R:=Y.R L) (x1:=S.d) (x3:=x3) (x4:=cs) (x5:=(Y.N:Int)) (by omega) hqw hRw hbb
  have search:∀{R:Type} {F:(Int×Int×PUnit->Option R)->Int×Int×PUnit->Option R} {res:Option R},(∀again j,j<q->F again ((-1:Int),(j:Int),PUnit.unit)=again ((-1:Int),((j+1:Nat):Int),PUnit.unit)) ->
    (∀again,F again ((-1:Int),(q:Int),PUnit.unit)=again ((q:Int),((q+1:Nat):Int),PUnit.unit))->(∀again,F again ((q:Int),((q+1:Nat):Int),PUnit.unit)=res)->lpK (Int×Int×PUnit) R F ((-1:Int),(0:Int),PUnit.unit)=res:=fun h1 h2 h3=>by
   refine bf (q+1) (by omega) (fun j=>if j<=q then ((-1:Int),(j:Int),PUnit.unit) else ((q:Int),(j:Int),PUnit.unit)) _ (by rw[if_pos (by omega)];rfl) (fun again j hj=>?_) (fun again=>?_)
   ·by_cases e:j=q
    ·subst e
     rw[if_pos (by omega),if_neg (by omega)]
     exact h2 again
    ·rw[if_pos (by omega),if_pos (by omega)]
     exact h1 again j (by omega)
   ·rw[if_neg (by omega)]
    exact h3 again
  rcases hl2 with ⟨e,hno⟩ | ⟨r,e,hlv⟩
  ·subst e
   left
   refine ⟨_,⟨S,false,rfl,hv,ha,fun e=>(by cases e),fun _=>⟨q,hq,hneg,hno⟩⟩,fun rec=>?_⟩
   refine search (fun again j hj=>?_) (fun again=>?_) (fun again=>?_)
   ·simp only[aX,cT,z7 (show (j:Int)<Y.N by omega),show decide ((-1:Int)<0)=true from rfl,g9,ik,hred j (by omega),af,hleast j hj,cF,ax (show j<=1000000 by omega)]
   ·simp only[aX,cT,z7 (show (q:Int)<Y.N by omega),show decide ((-1:Int)<0)=true from rfl,g9,ik,hred q hq,af,z7 hneg,ax (show q<=1000000 by omega)]
   ·simp only[aX,cT,z8 (show ¬ (q:Int)<0 by omega),jt,Bool.and_false,cF,g9,ik,hl1,af,show decide ((-1:Int)<0)=true from rfl]
  ·subst e
   right
   have hpr:0<S.T r q:=hlv.pos
   have hr:=hlv.lt
   have hs:=tI (m:=L.m) (w:=Y.w L) hpr
   refine ⟨dP S r q,nj L Y x3 cs (dP S r q),⟨rfl,hv.stepAt hRw hqw (by omega) hlv hs,ha.step hq⟩,uj (Lay.art h.ok).1 (Lay.art h.ok).2 hN hRw hv ⟨hent,hlv,hs⟩,fun rec=>?_⟩
   refine search (fun again j hj=>?_) (fun again=>?_) (fun again=>?_)
   ·simp only[aX,cT,z7 (show (j:Int)<Y.N by omega),show decide ((-1:Int)<0)=true from rfl,g9,ik,hred j (by omega),af,hleast j hj,cF,ax (show j<=1000000 by omega)]
   ·simp only[aX,cT,z7 (show (q:Int)<Y.N by omega),show decide ((-1:Int)<0)=true from rfl,g9,ik,hred q hq,af,z7 hneg,ax (show q<=1000000 by omega)]
   ·simp only[aX,cT,z8 (show ¬ (q:Int)<0 by omega),jt,Bool.and_false,cF,g9,ik,hl1,af,z8 (show ¬ (r:Int)<0 by omega),xI (h.piv hv.tb hr hqw (show S.T r q≠0 by omega))]
    rfl
end
section
variable {L:Lin} {Y:Lay}
theorem Val.flat {S:Sx} (hv:Y.Val L S) {r c:Nat} (hr:r<L.m) (hc:c<Y.N) (he:S.T r c≠0) (h0:S.T r (Y.R L)=0):Y.Val L (dP S r c):=by
 have hcw:c<Y.w L:=by unfold Lay.w;omega
 have hRw:Y.R L<Y.w L:=by unfold Lay.R Lay.w;omega
 have hd:=hv.tb.dpos
 refine ⟨hv.tb.step hr hcw he,fun i hi=>?_,fun i hi=>?_⟩
 ·show 0<=nA S.T S.d r c i (Y.R L)
  unfold nA
  by_cases e:i=r
  ·rw[if_pos e,h0,Int.mul_zero];exact Int.le_refl _
  ·rw[if_neg e]
   have h1:=ja hv.tb hr hi (Ne.symm e) hcw hRw
   rw[h0,Int.mul_zero,Int.sub_zero] at h1
   have h2:0<=sg (S.T r c)*S.T r c*S.T i (Y.R L):=Int.mul_nonneg (Int.le_of_lt (Kq he)) (hv.feas i hi)
   rw[Int.mul_assoc,<-h1] at h2
   have h3:sg (S.T r c)*(S.d*Dn.piv S.T S.d r c i (Y.R L))=S.d*(sg (S.T r c)*Dn.piv S.T S.d r c i (Y.R L)):=by grind
   rw[h3] at h2
   exact Int.nonneg_of_mul_nonneg_right h2 hd
 ·show upd S.β r c i≠_
  unfold upd
  split
  ·unfold Lay.R;omega
  ·exact hv.ne i hi
theorem Db {T:Nat->Nat->Int} {d:Int} {r c i j:Nat} (h1:T i j=0) (h2:T i c=0\/T r j=0):Dn.piv T d r c i j=0:=by
 unfold Dn.piv
 rw[h1,Int.mul_zero]
 rcases h2 with h | h
 ·rw[h,Int.zero_mul,Int.sub_zero,Int.zero_ediv]
 ·rw[h,Int.mul_zero,Int.sub_zero,Int.zero_ediv]
structure Swp (L:Lin) (Y:Lay) (i:Nat) (S:Sx):Prop where
 val:Y.Val L S
 right:∀k,k<L.m->Y.N<=S.β k->S.T k (Y.R L)=0
 rows:∀k,k<L.m->k<i->Y.N<=S.β k->∀j,j<Y.N->S.T k j=0
theorem Swp.step {i:Nat} {S:Sx} (h:Swp L Y i S) {j:Nat} (hi:i<L.m) (hj:j<Y.N) (hN:Y.N<=S.β i) (he:S.T i j≠0):Swp L Y i (dP S i j):=by
 have h0:=h.right i hi hN
 have up:∀k,k≠i->(dP S i j).β k=S.β k:=fun k hk=>by
  show upd S.β i j k=_
  unfold upd
  rw[if_neg hk]
 have ui:(dP S i j).β i=j:=by
  show upd S.β i j i=_
  unfold upd
  rw[if_pos rfl]
 have hT:∀k l,k≠i->(dP S i j).T k l=sg (S.T i j)*Dn.piv S.T S.d i j k l:=fun k l hk=>by
  show nA S.T S.d i j k l=_
  unfold nA
  rw[if_neg hk]
 refine ⟨Val.flat h.val hi hj he h0,fun k hk hb=>?_,fun k hk hlt hb l hl=>?_⟩
 ·have e:k≠i:=fun e=>by rw[e,ui] at hb;omega
  rw[up k e] at hb
  rw[hT k _ e,Db (h.right k hk hb) (.inr h0),Int.mul_zero]
 ·have e:k≠i:=by omega
  rw[up k e] at hb
  rw[hT k _ e,Db (h.rows k hk hlt hb l hl) (.inl (h.rows k hk hlt hb j hj)),Int.mul_zero]
def zZ (L:Lin) (Y:Lay) (x3 cs:List Int) (o:Option ((List Nat×List (Option (List Int)))×Int×List Int×List Int×List Int×Int×Int×Bool×Unit)):Prop :=
 ∃S' ok,o=some (gy L.m (Y.w L) S'.T,S'.d,fF L.m S'.β,x3,cs,(Y.N:Int),((Y.R L:Nat):Int),ok,PUnit.unit)/\Y.Val L S' /\
   (ok=true->AZ L Y S')/\(ok=false->(∀j,j<Y.N->0<=zr L.m (ef Y.N) S' j)/\0<sz L.m fun i=>ef Y.N (S'.β i)*S'.T i (Y.R L))
theorem Mb (h:Bnd L Y) (hp:(Y.w L) ^ L.m<=1180591620717411303424) {x3 cs:List Int} {S:Sx} (hv:Y.Val L S) :
  zZ L Y x3 cs (bq (gy L.m (Y.w L) S.T) S.d (fF L.m S.β) x3 cs (Y.N:Int) ((Y.R L:Nat):Int)):=by
 have hm:=h.m
 have hw:=h.w
 have hN:Y.N<=Y.R L:=by unfold Lay.R;omega
 have hRw:Y.R L<Y.w L:=by unfold Lay.R Lay.w;omega
 unfold bq iz
 refine rc (γ:=Sx) (I:=fun (S:Sx) x=>x=nj L Y x3 cs S/\Y.Val L S)
  (Q:=zZ L Y x3 cs)
  (μ:=fun S=>left L.m (Y.w L) Y.N (Y.R L) (Y.M L) (ef Y.N) S) ?_ (s:=S) ⟨rfl,hv⟩ (Nat.lt_of_lt_of_le (AO (by unfold Lay.w;omega) S) hp)
 rintro rec S _ ⟨rfl,hv⟩
 obtain ⟨hd,hb⟩:=h.tab hv.tb
 have hbb:∀i j,i<L.m->j<Y.w L->(S.T i j).natAbs<4611686018427387904:=fun i j hi hj=>by have:=hb i j hi hj;omega
 have hart:∀j,j<Y.w L->aI (tg L.m (Y.w L) S.T,S.d,fF L.m S.β,x3,cs,(Y.N:Int),((Y.R L:Nat):Int)) (j:Int)=some (sz L.m fun i=>ef Y.N (S.β i)*S.T i j):=fun j hj =>
  yd (by omega) hj fun i hi=>by have:=hb i j hi hj;omega
 have hz:∀j,j<Y.N->zr L.m (ef Y.N) S j= - sz L.m fun i=>ef Y.N (S.β i)*S.T i j:=fun j hj=>by
  unfold zr
  rw[show ef Y.N j=0 from if_neg (by omega),Int.zero_mul,Int.zero_sub]
 rcases nU Y.N (fun j=>decide ((sz L.m fun i=>ef Y.N (S.β i)*S.T i j)>0)) with hnone | ⟨q,hq,hneg,hleast⟩
 ·left
  have search:∀{R:Type} {F:(Int×Int×PUnit->Option R)->Int×Int×PUnit->Option R} {Q:Option R->Prop},(∀again j,j<Y.N->F again ((-1:Int),(j:Int),PUnit.unit)=again ((-1:Int),((j+1:Nat):Int),PUnit.unit)) ->
    (∃res,Q res/\∀again,F again ((-1:Int),(Y.N:Int),PUnit.unit)=res)->Q (lpK (Int×Int×PUnit) R F ((-1:Int),(0:Int),PUnit.unit)):=fun {R} {F} {Q} h1 h3=>by
   obtain ⟨res,h4,h5⟩:=h3
   have e:lpK (Int×Int×PUnit) R F ((-1:Int),(0:Int),PUnit.unit)=res:=bf Y.N (by omega) (fun j=>((-1:Int),(j:Int),PUnit.unit)) res rfl h1 h5
   rw[e]
   exact h4
  refine search (Q:=zZ L Y x3 cs) (fun again j hj=>?_) ?_
  ·simp only[aX,cT,z7 (show (j:Int)<Y.N by omega),show decide ((-1:Int)<0)=true from rfl,g9,ik,hart j (by omega),af,hnone j hj,cF,ax (show j<=1000000 by omega)]
  ·simp only[aX,cT,cF,z8 (show ¬ (Y.N:Int)<Y.N by omega),show decide ((-1:Int)<0)=true from rfl,g9,ik,hart _ hRw,af]
   have hzr:∀j,j<Y.N->0<=zr L.m (ef Y.N) S j:=fun j hj=>by
    rw[hz j hj]
    have:=of_decide_eq_false (hnone j hj)
    omega
   by_cases hpos:(sz L.m fun i=>ef Y.N (S.β i)*S.T i (Y.R L))>0
   ·rw[z7 hpos]
    simp only[cT]
    exact ⟨_,⟨S,false,rfl,hv,fun e=>(by cases e),fun _=>⟨hzr,hpos⟩⟩,fun _=>rfl⟩
   ·rw[z8 hpos]
    simp only[cF]
    refine ⟨_,?_,fun _=>rfl⟩
    have hnn:∀i,i<L.m->0<=ef Y.N (S.β i)*S.T i (Y.R L):=fun i hi=>Int.mul_nonneg (by unfold ef;split<;>omega) (hv.feas i hi)
    have hS:Swp L Y 0 S:=by
     refine ⟨hv,fun k hk hNk=>?_,fun k _ h0=>by omega⟩
     have h1:(sz L.m fun i=>if i=k then ef Y.N (S.β k)*S.T k (Y.R L) else 0)<=sz L.m fun i=>ef Y.N (S.β i)*S.T i (Y.R L):=nJ fun i hi=>by
      by_cases e:i=k
      ·rw[if_pos e,e];exact Int.le_refl _
      ·rw[if_neg e];exact hnn i hi
     rw[fb hk fun i _ hne=>if_neg hne,if_pos rfl] at h1
     have h2:=hnn k hk
     have h3:ef Y.N (S.β k)=1:=if_pos hNk
     rw[h3,Int.one_mul] at h1 h2
     omega
    refine rc (γ:=Nat×Sx) (I:=fun g x=>x=((g.1:Int),nj L Y x3 cs g.2)/\g.1<=L.m/\Swp L Y g.1 g.2)
     (Q:=zZ L Y x3 cs)
     (μ:=fun g=>L.m - g.1) ?_ (s:=(0,S)) ⟨rfl,by omega,hS⟩ (by simp only;omega)
    rintro rec2 ⟨i,S⟩ _ ⟨rfl,hi,hS⟩
    simp only at hi hS
    by_cases hlt:i<L.m
    ·right
     simp only[cP,z7 (show (i:Int)<L.m by omega),cT]
     have inner:∀{R:Type} {F:(Int×(List Nat×List (Option (List Int)))×Int×List Int×List Int×List Int×Int×Int×PUnit->Option R)->Int×(List Nat×List (Option (List Int)))×Int×List Int×List Int×List Int×Int×Int×PUnit->Option R} {k:(Int×(List Nat×List (Option (List Int)))×Int×List Int×List Int×List Int×Int×Int×PUnit->Option R)},
       (∀again (j:Nat) S,Swp L Y i S->j<=Y.N->(j<Y.N->Y.N<=S.β i->S.T i j=0->F again ((j:Int),nj L Y x3 cs S)=again (((j+1:Nat):Int),nj L Y x3 cs S))/\(j<Y.N->Y.N<=S.β i->S.T i j≠0->F again ((j:Int),nj L Y x3 cs S)=again (((j+1:Nat):Int),nj L Y x3 cs (dP S i j))) /\
        (¬ (j<Y.N/\Y.N<=S.β i)->F again ((j:Int),nj L Y x3 cs S)=k (((i+1:Nat):Int),nj L Y x3 cs S))) ->
       ∃S',Swp L Y (i+1) S'/\lpK _ R F ((0:Int),nj L Y x3 cs S)=k (((i+1:Nat):Int),nj L Y x3 cs S'):=fun {R} {F} {k} hF=>by
      refine rc (γ:=Nat×Sx) (I:=fun g x=>x=((g.1:Int),nj L Y x3 cs g.2)/\g.1<=Y.N/\Swp L Y i g.2/\(Y.N<=g.2.β i->∀l,l<g.1->g.2.T i l=0))
       (Q:=fun o=>∃S',Swp L Y (i+1) S'/\o=k (((i+1:Nat):Int),nj L Y x3 cs S')) (μ:=fun g=>Y.N - g.1) ?_ (s:=(0,S)) ⟨rfl,by omega,hS,fun _ l hl=>by omega⟩ (by simp only;omega)
      rintro rec3 ⟨j,S⟩ _ ⟨rfl,hj,hS,hz⟩
      simp only at hj hS hz
      obtain ⟨f1,f2,f3⟩:=hF rec3 j S hS hj
      by_cases hc:j<Y.N/\Y.N<=S.β i
      ·right
       by_cases h0:S.T i j=0
       ·refine ⟨(j+1,S),_,⟨rfl,by simp only;omega,hS,fun hN l hl=>?_⟩,by simp only;omega,f1 hc.1 hc.2 h0⟩
        simp only at hl
        by_cases e:l=j
        ·rw[e];exact h0
        ·exact hz hN l (by omega)
       ·refine ⟨(j+1,dP S i j),_,⟨rfl,by simp only;omega,hS.step hlt hc.1 hc.2 h0,fun hN=>?_⟩,by simp only;omega,f2 hc.1 hc.2 h0⟩
        have e:(dP S i j).β i=j:=by
         show upd S.β i j i=_
         unfold upd
         rw[if_pos rfl]
        rw[e] at hN
        omega
      ·left
       refine ⟨S,⟨hS.val,hS.right,fun k hk hlt' hN l hl=>?_⟩,f3 hc⟩
       by_cases e:k=i
       ·subst e
        exact hz hN l (by omega)
       ·exact hS.rows k hk (by omega) hN l hl
     have fin:∀{o},(∃S',Swp L Y (i+1) S'/\o=rec2 (((i+1:Nat):Int),nj L Y x3 cs S'))->∃(g:Nat×Sx) (y:_),(y=((g.1:Int),nj L Y x3 cs g.2)/\g.1<=L.m/\Swp L Y g.1 g.2)/\L.m - g.1<L.m - i/\o=rec2 y:=by
      rintro o ⟨S',h1,h2⟩
      exact ⟨(i+1,S'),_,⟨rfl,by simp only;omega,h1⟩,by simp only;omega,h2⟩
     refine fin (inner (fun again j S hS hj=>⟨fun c1 c2 c3=>?_,fun c1 c2 c3=>?_,fun c1=>?_⟩))
     ·have hjw:j<Y.w L:=by omega
      simp only[nj,z7 (show (j:Int)<Y.N by omega),fg,ay,z9,z7 hlt,aH (show Nat.succ i<=L.m from hlt),gN hlt,z7 (show (S.β i:Int)>=Y.N by omega),Bool.not_true,Bool.or_true,Bool.and_self,cT,cP,cK hlt,dX,cd hlt,av,aZ hjw,z7 hjw,aH (show Nat.succ j<=Y.w L from hjw),z7 c3,cF,ax (show j<=1000000 by omega)]
     ·have hjw:j<Y.w L:=by omega
      simp only[nj,z7 (show (j:Int)<Y.N by omega),fg,ay,z9,z7 hlt,aH (show Nat.succ i<=L.m from hlt),gN hlt,z7 (show (S.β i:Int)>=Y.N by omega),Bool.not_true,Bool.not_false,Bool.or_true,Bool.and_self,cT,cP,cK hlt,dX,cd hlt,av,aZ hjw,z7 hjw,aH (show Nat.succ j<=Y.w L from hjw),z8 c3,ax (show j<=1000000 by omega),
       xI (h.piv hS.val.tb hlt hjw c3),af]
      rfl
     ·by_cases c2:j<Y.N
      ·simp only[nj,z7 (show (j:Int)<Y.N by omega),fg,ay,z9,z7 hlt,aH (show Nat.succ i<=L.m from hlt),gN hlt,z8 (show ¬ (S.β i:Int)>=Y.N by omega),Bool.not_true,Bool.or_true,Bool.and_self,cT,cF,ax (show i<=1000000 by omega)]
      ·simp only[nj,z8 (show ¬ (j:Int)<Y.N by omega),Bool.not_false,Bool.true_or,Bool.and_self,cT,cF,ax (show i<=1000000 by omega)]
    ·left
     have e:i=L.m:=by omega
     subst e
     simp only[cP,z8 (show ¬ (L.m:Int)<L.m by omega),cF]
     exact ⟨S,true,rfl,hS.val,fun _ k hk hN=>⟨hS.rows k hk hk hN,hS.right k hk hN⟩,fun e=>by cases e⟩
 ·have hneg:=z12 hneg
  have hqw:q<Y.w L:=by omega
  have hent:Enters L.m Y.N (ef Y.N) S q:=⟨hq,by rw[hz q hq];omega,fun j hj=>by rw[hz j (by omega)];have:=of_decide_eq_false (hleast j hj);omega⟩
  obtain ⟨b,hl1,hl2⟩:=xD (m:=L.m) (w:=Y.w L) (T:=S.T) (d:=S.d) (β:=S.β) (c:=q) (R:=Y.R L) (x1:=S.d) (x3:=x3) (x4:=cs) (x5:=(Y.N:Int)) (by omega) hqw hRw hbb
  rcases hl2 with ⟨e,hno⟩ | ⟨r,e,hlv⟩
  ·exfalso
   have h1:(sz L.m fun i=>ef Y.N (S.β i)*S.T i q)<=sz L.m fun _=>0:=nJ fun i hi=>by
    have:=hno i hi
    unfold ef
    split<;>omega
   rw[fW (f:=fun _=>0) fun _ _=>rfl] at h1
   omega
  ·subst e
   right
   have hpr:0<S.T r q:=hlv.pos
   have hr:=hlv.lt
   have hs:=tI (m:=L.m) (w:=Y.w L) hpr
   refine ⟨dP S r q,nj L Y x3 cs (dP S r q),⟨rfl,hv.stepAt hRw hqw (by omega) hlv hs⟩,uj (Lay.art h.ok).1 (Lay.art h.ok).2 hN hRw hv ⟨hent,hlv,hs⟩,?_⟩
   refine bf (q+1) (by omega) (fun j=>if j<=q then ((-1:Int),(j:Int),PUnit.unit) else ((q:Int),(j:Int),PUnit.unit)) _ (by rw[if_pos (by omega)];rfl) (fun again j hj=>?_) (fun again=>?_)
   ·by_cases e:j=q
    ·subst e
     rw[if_pos (by omega),if_neg (by omega)]
     simp only[aX,cT,z7 (show (j:Int)<Y.N by omega),show decide ((-1:Int)<0)=true from rfl,g9,ik,hart j hqw,af,z7 hneg,ax (show j<=1000000 by omega)]
    ·rw[if_pos (by omega),if_pos (by omega)]
     simp only[aX,cT,z7 (show (j:Int)<Y.N by omega),show decide ((-1:Int)<0)=true from rfl,g9,ik,hart j (by omega),af,hleast j (by omega),cF,ax (show j<=1000000 by omega)]
   ·rw[if_neg (by omega)]
    simp only[aX,cT,z8 (show ¬ (q:Int)<0 by omega),jt,Bool.and_false,cF,g9,ik,hl1,af,xI (h.piv hv.tb hr hqw (show S.T r q≠0 by omega))]
    rfl
open Tryz Dn Dn.Sh
def aj (p:Pg):Lin:=⟨p.1.length,p.2.length,fun k j=>(p.2.getD k rw0).1.getD j 0,fun k=>(p.2.getD k rw0).2.2,fun j=>p.1.getD j 0,fun k=>(p.2.getD k rw0).2.1⟩
def gm (p:Pg):Nat->Nat
 | 0=>0
 | k+1=>gm p k+if (p.2.getD k rw0).2.1=3 then 0 else 1
def aG (p:Pg):Lay:=⟨p.1.length+gm p p.2.length,fun k=>p.1.length+gm p k,fun k=>if (p.2.getD k rw0).2.2<0 then -1 else 1⟩
theorem tR {p:Pg}:∀k,gm p k<=k
 | 0=>Nat.le_refl _
 | k+1=>by
  have:=tR (p:=p) k
  simp only[gm]
  split<;>omega
theorem vN {p:Pg} {k:Nat}:∀{l:Nat},k<l->(p.2.getD k rw0).2.1≠3->gm p k<gm p l
 | 0,h,_=>by omega
 | l+1,h,h3=>by
  simp only[gm]
  by_cases e:k=l
  ·subst e
   rw[if_neg h3];omega
  ·have:=vN (l:=l) (by omega) h3
   split<;>omega
theorem ow {p:Pg} (hv:ValidP p):(aG p).ok (aj p):=by
 have row:∀k,k<p.2.length->p.2.getD k rw0 ∈ p.2:=fun k hk=>by rw[bR hk];exact List.getElem_mem _
 refine ⟨Nat.le_add_right _ _,fun k hk=>?_,fun k hk h3=>⟨Nat.le_add_right _ _,?_⟩,fun k l hk hl h3 h4 e=>?_,fun k _=>?_,fun k _=>?_⟩
 ·have:=hv.kind _ (row k hk)
  show (p.2.getD k rw0).2.1=1\/(p.2.getD k rw0).2.1=2\/(p.2.getD k rw0).2.1=3
  omega
 ·have:=vN (p:=p) (k:=k) (l:=p.2.length) hk h3
  show p.1.length+gm p k<p.1.length+gm p p.2.length
  omega
 ·have e:p.1.length+gm p k=p.1.length+gm p l:=e
  rcases Nat.lt_trichotomy k l with h | h | h
  ·have:=vN (p:=p) h h3;omega
  ·exact h
  ·have:=vN (p:=p) h h4;omega
 ·show (if (p.2.getD k rw0).2.2<0 then (-1:Int) else 1)=1\/(if (p.2.getD k rw0).2.2<0 then (-1:Int) else 1)= -1
  split<;>omega
 ·show 0<=(if (p.2.getD k rw0).2.2<0 then (-1:Int) else 1)*(p.2.getD k rw0).2.2
  split<;>omega
theorem Ah {p:Pg} (hv:ValidP p):(aG p).w (aj p)<=25/\(aj p).m<=6:=by
 have h1:=tR (p:=p) p.2.length
 have h2:=hv.rows
 have h3:=hv.cost.2
 refine ⟨?_,h2⟩
 show p.1.length+gm p p.2.length+p.2.length+1<=25
 omega
theorem kj {α:Type} {w:Nat} {f:Nat->α}:bO w f++[f w]=bO (w+1) f:=by
 unfold bO
 rw[List.range_succ,List.map_append]
 rfl
theorem sD {m w:Nat} {T:Nat->Nat->Int}:dn m w T++[some (bO w (T m))]=dn (m+1) w T:=by
 unfold dn
 rw[List.range_succ,List.map_append]
 rfl
theorem JD {l:List Int} {w:Nat} (h:l.length<=w):List.take 0 (List.replicate w (0:Int))++List.take w l++List.drop (0+(List.take w l).length) (List.replicate w 0)=bO w fun j=>l.getD j 0:=by
 rw[List.take_of_length_le h]
 refine List.ext_getElem (by rw[av];simp;omega) fun i h1 h2=>?_
 rw[vT]
 have hi:i<w:=by rw[av] at h2;exact h2
 by_cases e:i<l.length
 ·rw[bR e,List.getElem_append_left (by simp;exact e)]
  simp
 ·rw[List.getElem_append_right (by simp;omega),List.getD_eq_getElem?_getD,List.getElem?_eq_none (by omega)]
  simp
abbrev St:=Int×Int×(List Nat×List (Option (List Int)))×Int×List Int×List Int×List Int×Int×Int×PUnit
def OY {R:Type} (p:Pg) (again:St->Option R) (x:St) (x_1:Int×List Int×PUnit):Option R :=
 let v21:List Int×PUnit:=(x_1.2.1,PUnit.unit);jnK (Int×List Int×PUnit) R (fun (x_2:Int×List Int×PUnit)=>bif inB (IntKind.wrap .i64 (x.2.2.2.2.2.2.2.1+x.2.1)) (List.length x_2.2.1) then bif Nat.ble (Nat.succ (Int.toNat (IntKind.wrap .i64 (x.2.2.2.2.2.2.2.1+x.2.1)))) (List.length x_2.2.1) then bif eh (List.length x.2.2.1.1+(1:Nat)) (24:Nat) then bif eh (List.length x.2.2.2.2.2.1+(1:Nat)) (8:Nat) then bif eh (List.length x.2.2.2.2.1+(1:Nat)) (8:Nat) then again (x_1.1,IntKind.wrap .i64 (x.2.1+(1:Int)),(x.2.2.1.1++[List.length x.2.2.1.2+(0:Nat)],x.2.2.1.2++[some (List.set x_2.2.1 (Int.toNat (IntKind.wrap .i64 (x.2.2.2.2.2.2.2.1+x.2.1))) (1:Int))]),x.2.2.2.1,x.2.2.2.2.1++[(IntKind.wrap .i64 (x.2.2.2.2.2.2.2.1+x.2.1))],x.2.2.2.2.2.1++[x_2.1],x.2.2.2.2.2.2.1,x.2.2.2.2.2.2.2.1,x.2.2.2.2.2.2.2.2.1,PUnit.unit) else none else none else none else none else none) fun (j:Int×List Int×PUnit->Option R)=>bif decide ((List.getD p.2 (Int.toNat x.2.1) ([],(0:Int),(0:Int))).2.2<(0:Int)) then lpK (Int×List Int×PUnit) R (fun (again:Int×List Int×PUnit->Option R) (x:Int×List Int×PUnit) =>
 let v25:Bool:=inB x.1 (List.length x.2.1);
 let v26:Bool:=Nat.ble (Nat.succ (Int.toNat x.1)) (List.length x.2.1);
 bif decide (x.1<(↑(List.length x_1.2.1):Int)) then bif v25 then bif v26 then bif v25 then bif v26 then again (IntKind.wrap .i64 (x.1+(1:Int)),List.set x.2.1 (Int.toNat x.1) (IntKind.wrap .i64 ((0:Int) - List.getD x.2.1 (Int.toNat x.1) (0:Int))),PUnit.unit) else none else none else none else none else j ((-1:Int),x.2.1,PUnit.unit)) ((0:Int),v21) else j ((1:Int),v21)
def NK {R:Type} (p:Pg) (again k:St->Option R) (x:St):Option R :=
 let v12:Int:=IntKind.wrap .i64 (x.1+(1:Int));
 let v13:List Int×Int×Int:=List.getD p.2 (Int.toNat x.2.1) ([],(0:Int),(0:Int));
 let v14:List Int:=List.replicate (Int.toNat (IntKind.wrap .i64 (x.2.2.2.2.2.2.2.2.1+(1:Int)))) (0:Int);
 let v15:Bool:=inB x.1 (Int.toNat (IntKind.wrap .i64 (x.2.2.2.2.2.2.2.2.1+(1:Int))));
 let v16:Bool:=Nat.ble (Nat.succ (Int.toNat x.1)) (Int.toNat (IntKind.wrap .i64 (x.2.2.2.2.2.2.2.2.1+(1:Int))));
 let _:Int:=IntKind.wrap .i64 (x.2.2.2.2.2.2.2.1+x.2.1);
 let v18:List Int:=List.take (Int.toNat (IntKind.wrap .i64 (x.2.2.2.2.2.2.2.2.1+(1:Int)))) v13.1;
 let v19:List Int:=List.set (List.take (0:Nat) v14++v18++List.drop ((0:Nat)+List.length v18) v14) (Int.toNat x.2.2.2.2.2.2.2.2.1) v13.2.2;
 bif decide (x.2.1<(↑(List.length p.2):Int)) then bif inB x.2.1 (List.length p.2) then bif decide ((0:Int)<=IntKind.wrap .i64 (x.2.2.2.2.2.2.2.2.1+(1:Int)))&&eh (Int.toNat (IntKind.wrap .i64 (x.2.2.2.2.2.2.2.2.1+(1:Int)))) (8:Nat) then bif inB x.2.2.2.2.2.2.2.2.1 (Int.toNat (IntKind.wrap .i64 (x.2.2.2.2.2.2.2.2.1+(1:Int)))) then bif Nat.ble (Nat.succ (Int.toNat x.2.2.2.2.2.2.2.2.1)) (Int.toNat (IntKind.wrap .i64 (x.2.2.2.2.2.2.2.2.1+(1:Int)))) then jnK (Int×List Int×PUnit) R (OY p again x) fun (j:Int×List Int×PUnit->Option R)=>bif decide (v13.2.1=(1:Int)) then bif v15 then bif v16 then j (v12,List.set v19 (Int.toNat x.1) (1:Int),PUnit.unit) else none else none else jnK (Int×List Int×PUnit) R (fun (x:Int×List Int×PUnit)=>j (x.1,x.2.1,PUnit.unit)) fun (j:Int×List Int×PUnit->Option R)=>bif decide (v13.2.1=(2:Int)) then bif v15 then bif v16 then j (v12,List.set v19 (Int.toNat x.1) (-1:Int),PUnit.unit) else none else none else j (x.1,v19,PUnit.unit) else none else none else none else none else k x
theorem FN {p:Pg} (hv:ValidP p) {R:Type} {again:St->Option R} {i:Nat} (hi:i<p.2.length) {f:Nat->Int} {s s0:Int}
  (hf:∀k,k<(aG p).w (aj p)->f k=if k=(aG p).R (aj p) then (aj p).b i else if (aj p).kd i≠3/\k=(aG p).sl i then (if (aj p).kd i=1 then 1 else -1) else (p.2.getD i rw0).1.getD k 0) :
  OY p again (s0,(i:Int),(List.range i,dn i ((aG p).w (aj p)) ((aG p).M (aj p))),1,fF i (fun k=>(aG p).N+k),bO i (aG p).σ,p.1,((aG p).N:Int),(((aG p).R (aj p):Nat):Int),PUnit.unit) (s,bO ((aG p).w (aj p)) f,PUnit.unit) =
   again (s,((i+1:Nat):Int),(List.range (i+1),dn (i+1) ((aG p).w (aj p)) ((aG p).M (aj p))),1,fF (i+1) (fun k=>(aG p).N+k),bO (i+1) (aG p).σ,p.1,((aG p).N:Int),(((aG p).R (aj p):Nat):Int),PUnit.unit):=by
 obtain ⟨h1,h2⟩:=Ah hv
 have hr:p.2.getD i rw0 ∈ p.2:=by rw[bR hi];exact List.getElem_mem _
 have hR:=hv.right _ hr
 have hl:=hv.len _ hr
 have hc:=hv.coefs _ hr
 have hn:=hv.cost.2
 have hbb:∀k,k<(aG p).w (aj p)-> -1073741824<=f k/\f k<=1073741824:=fun k hk=>by
  rw[hf k hk]
  split
  ·exact z12 hR
  ·split
   ·split<;>omega
   ·by_cases e:k<(p.2.getD i rw0).1.length
    ·have:=z12 (hc ((p.2.getD i rw0).1.getD k 0) (by rw[bR e];exact List.getElem_mem _))
     omega
    ·rw[List.getD_eq_getElem?_getD,List.getElem?_eq_none (by omega)]
     simp
 obtain ⟨w,hw⟩:∃w,w=(aG p).w (aj p):=⟨_,rfl⟩
 have hNi:(aG p).N+i<w:=by rw[hw];show (aG p).N+i<(aG p).N+p.2.length+1;omega
 have hNw:(aG p).N+p.2.length+1=w:=hw.symm
 have hm6:p.2.length<=6:=h2
 rw[<-hw] at hf hbb h1 ⊢
 have fin:∀(σ:Int),σ=(aG p).σ i->(List.range i++[(dn i w ((aG p).M (aj p))).length+0],dn i w ((aG p).M (aj p))++[some ((bO w fun k=>σ*f k).set ((aG p).N+i) 1)])=(List.range (i+1),dn (i+1) w ((aG p).M (aj p))):=fun σ hσ=>by
  rw[jD,Nat.add_zero,<-List.range_succ,eP hNi,<-sD]
  congr 3
  congr 1
  refine bB fun k hk=>?_
  have hok:=ow hv
  unfold Lay.M
  rw[hf k hk,hσ]
  have hNn:(aj p).n<=(aG p).N:=hok.n
  have hRe:(aG p).R (aj p)=(aG p).N+p.2.length:=rfl
  have hme:(aj p).m=p.2.length:=rfl
  rw[hRe,hme]
  by_cases c1:k<(aj p).n
  ·rw[if_neg (by omega),if_neg (by omega),if_pos c1,if_neg]
   ·rfl
   ·rintro ⟨e1,e2⟩
    have:=(hok.sl i hi e1).1
    omega
  ·rw[if_neg c1]
   by_cases c2:k<(aG p).N
   ·rw[if_neg (by omega),if_neg (by omega),if_pos c2]
    by_cases c3:(aj p).kd i≠3/\k=(aG p).sl i
    ·rw[if_pos c3,if_pos c3]
    ·rw[if_neg c3,if_neg c3,List.getD_eq_getElem?_getD,List.getElem?_eq_none (by rw[hl];exact Nat.not_lt.1 c1)]
     simp
   ·rw[if_neg c2]
    by_cases c3:k<(aG p).N+p.2.length
    ·rw[if_pos c3]
     by_cases c4:k=(aG p).N+i
     ·rw[if_pos c4,if_pos c4]
     ·rw[if_neg c4,if_neg c4,if_neg (by omega),if_neg]
      ·rw[List.getD_eq_getElem?_getD,List.getElem?_eq_none (by rw[hl];exact Nat.not_lt.1 c1)]
       simp
      ·rintro ⟨e1,e2⟩
       have:=(hok.sl i hi e1).2
       omega
    ·rw[if_neg c3,if_neg (by omega),if_pos (by omega)]
 have hadd:IntKind.wrap .i64 (((aG p).N:Int)+(i:Int))=(((aG p).N+i:Nat):Int):=by rw[aB (by omega) (by omega)];rfl
 have hg:∀{n k:Nat},n<=1000->k<=24->eh n k=true:=fun {n k} h1 h2=>dQ (Nat.le_trans (Nat.mul_le_mul h1 h2) (by decide))
 have tail:∀(σ:Int),σ=(aG p).σ i->(bif inB (IntKind.wrap .i64 (((aG p).N:Int)+(i:Int))) (bO w fun k=>σ*f k).length then bif Nat.ble (Nat.succ (Int.toNat (IntKind.wrap .i64 (((aG p).N:Int)+(i:Int))))) (bO w fun k=>σ*f k).length then
   bif eh ((List.range i).length+1) 24 then bif eh ((bO i (aG p).σ).length+1) 8 then bif eh ((fF i fun k=>(aG p).N+k).length+1) 8 then
   again (s,IntKind.wrap .i64 ((i:Int)+1),(List.range i++[(dn i w ((aG p).M (aj p))).length+0],dn i w ((aG p).M (aj p))++[some ((bO w fun k=>σ*f k).set (Int.toNat (IntKind.wrap .i64 (((aG p).N:Int)+(i:Int)))) 1)]),1,
    (fF i fun k=>(aG p).N+k)++[IntKind.wrap .i64 (((aG p).N:Int)+(i:Int))],bO i (aG p).σ++[σ],p.1,((aG p).N:Int),(((aG p).R (aj p):Nat):Int),PUnit.unit) else none else none else none else none else none) =
   again (s,((i+1:Nat):Int),(List.range (i+1),dn (i+1) w ((aG p).M (aj p))),1,fF (i+1) (fun k=>(aG p).N+k),bO (i+1) (aG p).σ,p.1,((aG p).N:Int),(((aG p).R (aj p):Nat):Int),PUnit.unit):=fun σ hσ=>by
  rw[hadd,z9,fin σ hσ,av,ay,z7 hNi,aH hNi,List.length_range,av,fg,hg (by omega) (by omega),hg (by omega) (by omega),ax (show i<=1000000 by omega),hσ,kj]
  simp only[cT]
  rw[show (fF i fun k=>(aG p).N+k)++[(((aG p).N+i:Nat):Int)]=fF (i+1) (fun k=>(aG p).N+k) from kj (f:=fun k=>(((aG p).N+k:Nat):Int))]
 unfold OY
 simp only[qS,z9]
 by_cases hneg:(p.2.getD i rw0).2.2<0
 ·have hs:(aG p).σ i= -1:=if_pos hneg
  rw[z7 hneg,cond_true]
  refine bf w (by omega) (fun k=>((k:Int),bO w (fun j=>if j<k then -1*f j else f j),PUnit.unit)) _ ?_ (fun again2 k hk=>?_) (fun again2=>?_)
  ·rw[bB (f:=fun j=>if j<0 then -1*f j else f j) (g:=f) fun j _=>if_neg (by omega)];rfl
  ·have hb:=hbb k hk
   simp only[av,ay,z9,z7 hk,z7 (show (k:Int)<w by omega),aH (show Nat.succ k<=w from hk),aZ hk,cT,if_neg (Nat.lt_irrefl k),ax (show k<=1000000 by omega),aB (show -9223372036854775808<=0 - f k by omega) (by omega),eP hk]
   congr 3
   refine bB fun j _=>?_
   by_cases c:j=k
   ·rw[if_pos c,if_pos (by omega),c];omega
   ·rw[if_neg c]
    by_cases c2:j<k
    ·rw[if_pos c2,if_pos (by omega)]
    ·rw[if_neg c2,if_neg (by omega)]
  ·simp only[av,z8 (show ¬ (w:Int)<w by omega),cF]
   rw[bB (f:=fun j=>if j<w then -1*f j else f j) (g:=fun j=> -1*f j) fun j hj=>if_pos hj]
   have:=tail (-1) hs.symm
   simp only[av] at this
   exact this
 ·have hs:(aG p).σ i=1:=if_neg hneg
  rw[z8 hneg,cond_false]
  have:=tail 1 hs.symm
  rw[bB (f:=fun j=>1*f j) (g:=f) fun j _=>Int.one_mul _] at this
  exact this
theorem Gt {p:Pg} (hv:ValidP p) {R:Type} {k:St->Option R} :
  lpK St R (fun again x=>NK p again k x) ((p.1.length:Int),(0:Int),([],[]),(1:Int),[],[],p.1,((aG p).N:Int),(((aG p).R (aj p):Nat):Int),PUnit.unit) =
   k (((aG p).N:Int),(p.2.length:Int),gy p.2.length ((aG p).w (aj p)) ((aG p).M (aj p)),1,fF p.2.length (fun k=>(aG p).N+k),bO p.2.length (aG p).σ,p.1,((aG p).N:Int),(((aG p).R (aj p):Nat):Int),PUnit.unit):=by
 obtain ⟨h1,h2⟩:=Ah hv
 have hok:=ow hv
 have hm6:p.2.length<=6:=h2
 obtain ⟨w,hw⟩:∃w,w=(aG p).w (aj p):=⟨_,rfl⟩
 have hR1:(aG p).R (aj p)+1=w:=by rw[hw]
 refine bf p.2.length (by omega) (fun i=>(((p.1.length+gm p i:Nat):Int),(i:Int),(List.range i,dn i ((aG p).w (aj p)) ((aG p).M (aj p))),1,fF i (fun k=>(aG p).N+k),bO i (aG p).σ,p.1,((aG p).N:Int),(((aG p).R (aj p):Nat):Int),PUnit.unit)) _ rfl (fun again i hi=>?_) (fun again=>?_)
 ·have hr:p.2.getD i rw0 ∈ p.2:=by rw[bR hi];exact List.getElem_mem _
  have hl:=hv.len _ hr
  have hkd:=hv.kind _ hr
  have hN:p.1.length<=(aG p).N:=hok.n
  have hNR:(aG p).N+p.2.length=(aG p).R (aj p):=rfl
  have hRw:(aG p).R (aj p)<w:=by omega
  rw[<-hw] at h1
  have hsl:(aG p).sl i=p.1.length+gm p i:=rfl
  have hcs:=tR (p:=p) i
  unfold NK
  simp only[ax (show (aG p).R (aj p)<=1000000 by omega),hR1,z9,ay,z7 hi,z7 (show (i:Int)<p.2.length by omega),z7 (show (0:Int)<=(w:Nat) by omega),dQ (show w*8<=140737488355328 by omega),z7 hRw,aH (show Nat.succ ((aG p).R (aj p))<=w from hRw),Bool.and_self,cT,qS,JD (show (p.2.getD i rw0).1.length<=w by omega),eP hRw]
  by_cases k3:(p.2.getD i rw0).2.1=3
  ·have ec:gm p (i+1)=gm p i:=by simp only[gm,if_pos k3,Nat.add_zero]
   rw[ec,z8 (show ¬ (p.2.getD i rw0).2.1=1 by omega),z8 (show ¬ (p.2.getD i rw0).2.1=2 by omega)]
   simp only[cF]
   have:=FN hv (again:=again) (s0:=((p.1.length+gm p i:Nat):Int)) (s:=((p.1.length+gm p i:Nat):Int)) hi (f:=fun k=>if k=(aG p).R (aj p) then (p.2.getD i rw0).2.2 else (p.2.getD i rw0).1.getD k 0) (fun k hk=>by
    show (if k=(aG p).R (aj p) then (p.2.getD i rw0).2.2 else (p.2.getD i rw0).1.getD k 0)=if k=(aG p).R (aj p) then (p.2.getD i rw0).2.2 else _
    by_cases c:k=(aG p).R (aj p)
    ·rw[if_pos c,if_pos c]
    ·rw[if_neg c,if_neg c,if_neg]
     rintro ⟨e,_⟩
     exact e k3)
   rw[<-hw] at this
   exact this
  ·have hslN:(aG p).sl i<(aG p).N:=(hok.sl i hi k3).2
   have hslw:p.1.length+gm p i<w:=by omega
   have ec:gm p (i+1)=gm p i+1:=by simp only[gm,if_neg k3]
   rw[ec]
   have step:∀(v:Int),v=(if (aj p).kd i=1 then 1 else -1)->OY p again ((((p.1.length+gm p i:Nat):Int)),(i:Int),(List.range i,dn i ((aG p).w (aj p)) ((aG p).M (aj p))),1,fF i (fun k=>(aG p).N+k),bO i (aG p).σ,p.1,((aG p).N:Int),(((aG p).R (aj p):Nat):Int),PUnit.unit)
     (((p.1.length+gm p i+1:Nat):Int),(bO w fun k=>if k=(aG p).R (aj p) then (p.2.getD i rw0).2.2 else (p.2.getD i rw0).1.getD k 0).set (p.1.length+gm p i) v,PUnit.unit)=again (((p.1.length+(gm p i+1):Nat):Int),((i+1:Nat):Int),(List.range (i+1),dn (i+1) ((aG p).w (aj p)) ((aG p).M (aj p))),1,fF (i+1) (fun k=>(aG p).N+k),bO (i+1) (aG p).σ,p.1,((aG p).N:Int),(((aG p).R (aj p):Nat):Int),PUnit.unit):=fun v hvv=>by
    rw[eP hslw]
    have:=FN hv (again:=again) (s0:=((p.1.length+gm p i:Nat):Int)) (s:=((p.1.length+gm p i+1:Nat):Int)) hi (f:=fun k=>if k=p.1.length+gm p i then v else if k=(aG p).R (aj p) then (p.2.getD i rw0).2.2 else (p.2.getD i rw0).1.getD k 0) (fun k hk=>by
     show (if k=p.1.length+gm p i then v else if k=(aG p).R (aj p) then (p.2.getD i rw0).2.2 else (p.2.getD i rw0).1.getD k 0)=if k=(aG p).R (aj p) then (p.2.getD i rw0).2.2 else _
     by_cases c:k=(aG p).R (aj p)
     ·rw[if_pos c,if_pos c,if_neg (by omega)]
     ·rw[if_neg c,if_neg c]
      by_cases c2:k=p.1.length+gm p i
      ·rw[if_pos c2,if_pos ⟨k3,c2⟩,hvv]
      ·rw[if_neg c2,if_neg fun h=>c2 h.2])
    rw[<-hw] at this ⊢
    exact this
   by_cases k1:(p.2.getD i rw0).2.1=1
   ·have:=step 1 (if_pos (show (aj p).kd i=1 from k1)).symm
    rw[<-hw] at this
    rw[z7 k1]
    simp only[cT,z7 hslw,aH (show Nat.succ (p.1.length+gm p i)<=w from hslw),ax (show p.1.length+gm p i<=1000000 by omega)]
    exact this
   ·have k2:(p.2.getD i rw0).2.1=2:=by omega
    have:=step (-1) (if_neg (show ¬ (aj p).kd i=1 from k1)).symm
    rw[<-hw] at this
    rw[z8 k1,z7 k2]
    simp only[cT,cF,z7 hslw,aH (show Nat.succ (p.1.length+gm p i)<=w from hslw),ax (show p.1.length+gm p i<=1000000 by omega)]
    exact this
 ·unfold NK
  simp only[z8 (show ¬ (p.2.length:Int)<p.2.length by omega),cF]
  rfl
theorem Ho {p:Pg} (hv:ValidP p) {R:Type} {F:(Int×Int×PUnit->Option R)->Int×Int×PUnit->Option R} (Q:Option R->Prop)
  (hF:∀again (i:Nat) (s:Int),i<p.2.length->F again (s,(i:Int),PUnit.unit)=bif !decide ((p.2.getD i rw0).2.1=3) then again (IntKind.wrap .i64 (s+1),((i+1:Nat):Int),PUnit.unit) else again (s,((i+1:Nat):Int),PUnit.unit))
  (hf:∀again,Q (F again (((gm p p.2.length:Nat):Int),(p.2.length:Int),PUnit.unit))):Q (lpK (Int×Int×PUnit) R F ((0:Int),(0:Int),PUnit.unit)):=by
 have hm:=hv.rows
 refine pX Q p.2.length (by omega) (fun i=>(((gm p i:Nat):Int),(i:Int),PUnit.unit)) rfl (fun again i hi=>?_) hf
 rw[hF again i _ hi]
 have:=tR (p:=p) i
 by_cases k3:(p.2.getD i rw0).2.1=3
 ·rw[z7 k3]
  simp only[gm,if_pos k3,Nat.add_zero,Bool.not_true,cF]
 ·rw[z8 k3]
  simp only[gm,if_neg k3,Bool.not_false,cT,ax (show gm p i<=1000000 by omega)]
theorem DW {p:Pg} (hv:ValidP p) {R:Type} {k:St->Option R} (Q:Option R->Prop)
  (h:Q (k (((aG p).N:Int),(p.2.length:Int),gy p.2.length ((aG p).w (aj p)) ((aG p).M (aj p)),1,fF p.2.length (fun k=>(aG p).N+k),bO p.2.length (aG p).σ,p.1,((aG p).N:Int),(((aG p).R (aj p):Nat):Int),PUnit.unit))) :
  Q (lpK St R (fun again x=>NK p again k x) ((p.1.length:Int),(0:Int),([],[]),(1:Int),[],[],p.1,((aG p).N:Int),(((aG p).R (aj p):Nat):Int),PUnit.unit)):=by
 rw[Gt hv]
 exact h
end
end Go.Proofs.YtfknoaclabfdlaaGreat

namespace Go.Proofs.YtfknoaclabfdlaaGreat
open Tryz Dn Dn.Sh
def fac (L:Lin):Nat->Int
 | 0=>L.F0
 | k+1=>L.F k
def pp (f:Nat->Int):Nat->Int
 | 0=>1
 | n+1=>pp f n*f n
def mx (f:Nat->Int):Nat->Int
 | 0=>f 0
 | n+1=>max (mx f n) (f (n+1))
def eJ (L:Lin):Prop:=pp (fac L) (L.m+1)<=17592186044416/\pp (fac L) (L.m+1)*mx (fac L) L.m<=144115188075855872
instance (L:Lin):Decidable (eJ L):=by unfold eJ;infer_instance
theorem pk (L:Lin) (k:Nat):1<=fac L k:=by
 cases k with
 | zero=>exact L.F0_pos
 | succ k=>exact L.F_pos k
theorem BI {f:Nat->Int}:∀{n:Nat},pp f (n+1)=f 0*pz n fun i=>f (i+1)
 | 0=>by simp[pp,pz]
 | n+1=>by
  have e:∀{n:Nat} {g:Nat->Int},pz (n+1) g=pz n g*g n:=by
   intro n
   induction n with
   | zero=>intro g;simp[pz]
   | succ n ih =>
    intro g
    have h:=ih (g:=fun i=>g (i+1))
    rw[pz,h,pz,Int.mul_assoc]
  rw[pp,BI (n:=n),e,Int.mul_assoc]
theorem Ot (L:Lin):pp (fac L) (L.m+1)=L.F0*L.P:=BI
theorem om {f:Nat->Int} (h:∀i,1<=f i):∀n,1<=pp f n
 | 0=>by simp[pp]
 | n+1=>by
  have h1:=om h n
  have h2:=Int.mul_le_mul h1 (h n) (by omega) (by omega)
  simp only[pp]
  omega
theorem AX {f:Nat->Int} (h:∀i,1<=f i) {n:Nat}:∀{k:Nat},pp f n<=pp f (n+k)
 | 0=>Int.le_refl _
 | k+1=>by
  have h1:=AX h (n:=n) (k:=k)
  have h2:=om h (n+k)
  have h3:pp f (n+k)*1<=pp f (n+k)*f (n+k):=Int.mul_le_mul_of_nonneg_left (h _) (by omega)
  rw[<-Nat.add_assoc]
  simp only[pp]
  omega
theorem FP {f:Nat->Int} {n:Nat}:∀{i:Nat},i<=n->f i<=mx f n:=by
 induction n with
 | zero=>intro i h;rw[show i=0 by omega];exact Int.le_refl _
 | succ n ih =>
  intro i h
  simp only[mx]
  by_cases e:i=n+1
  ·rw[e];omega
  ·have:=ih (i:=i) (by omega)
   omega
theorem H8 {f:Nat->Int} {B:Int}:∀{n:Nat},(∀i,i<=n->f i<=B)->mx f n<=B
 | 0,h=>h 0 (by omega)
 | n+1,h=>by
  have h1:=H8 (n:=n) fun i hi=>h i (by omega)
  have h2:=h (n+1) (by omega)
  simp only[mx]
  omega
theorem l7 {l:List Int} (h:∀n ∈ l,inC n=true) (j:Nat):ab (l.getD j 0)<=1048576:=by
 rw[rP]
 by_cases e:j<l.length
 ·exact z12 (h _ (by rw[bR e];exact List.getElem_mem _))
 ·rw[List.getD_eq_getElem?_getD,List.getElem?_eq_none (by omega)]
  simp
theorem nT {l:List Int} (h:∀n ∈ l,inC n=true) {n:Nat} (hn:n<=12):0<=sz n (fun j=>ab (l.getD j 0))/\sz n (fun j=>ab (l.getD j 0))<=12582912:=by
 refine ⟨i9 fun _ _=>cH _,?_⟩
 have h1:=(iv (n:=n) (f:=fun j=>ab (l.getD j 0)) (B:=1048576) fun j _=>⟨by have:=cH (l.getD j 0);omega,l7 h j⟩).2
 omega
theorem ug {p:Pg} (hv:ValidP p) {k:Nat} (hk:k<=p.2.length):fac (aj p) k<=2147483648:=by
 have hn:=hv.cost.2
 cases k with
 | zero =>
  have:=nT hv.cs hn
  show 1+sz p.1.length (fun j=>ab (p.1.getD j 0))<=_
  omega
 | succ k =>
  have hr:p.2.getD k rw0 ∈ p.2:=by rw[bR (show k<p.2.length by omega)];exact List.getElem_mem _
  have h1:=nT (hv.coefs _ hr) hn
  have h2:=z12 (hv.right _ hr)
  have h3:ab (p.2.getD k rw0).2.2<=1073741824:=rP.2 h2
  show 1+ab (p.2.getD k rw0).2.2+sz p.1.length (fun j=>ab ((p.2.getD k rw0).1.getD j 0))<=_
  omega
theorem Ct {l:List Int} {more:Int} (h:∀n ∈ l,inC n=true) (hl:l.length<=12) (hm:inR more=true):dw l more=some (1+ab more+sz l.length fun j=>ab (l.getD j 0)):=by
 have hm:=z12 hm
 have hma:ab more<=1073741824:=rP.2 hm
 have hma0:=cH more
 unfold dw kp
 rw[tK (by omega) (by omega),obN]
 have e0:((more.natAbs:Nat):Int)=ab more:=rfl
 refine bf l.length (by omega) (fun i=>(1+ab more+sz i (fun j=>ab (l.getD j 0)),(i:Int),PUnit.unit)) _ ?_ (fun again i hi=>?_) (fun again=>?_)
 ·rw[e0,aB (x:=ab more) (by omega) (by omega),aB (by omega) (by omega)]
  simp only[sz,Int.add_zero]
  rfl
 ·have h1:=l7 h i
  have h0:=cH (l.getD i 0)
  have h2:=nT h (n:=i) (by omega)
  have h3: -1048576<=l.getD i 0/\l.getD i 0<=1048576:=rP.1 h1
  have e1:((l.getD i 0).natAbs:Int)=ab (l.getD i 0):=rfl
  simp only[ay,z9,z7 hi,z7 (show (i:Int)<l.length by omega),cT,tK (show -9223372036854775808<=l.getD i 0 by omega) (by omega),af,e1,ax (show i<=1000000 by omega)]
  rw[aB (x:=ab (l.getD i 0)) (by omega) (by omega),aB (by omega) (by omega)]
  simp only[sz]
  congr 2
  omega
 ·simp only[z8 (show ¬ (l.length:Int)<l.length by omega),cF]
theorem NT {n:Nat} {f:Nat->Int} (hn:n<=1000):dU (bO (n+1) f)=some (mx f n):=by
 unfold dU kA
 simp only[qS,av,z8 (show ¬ ((n+1:Nat):Int)<1 by omega),cF,show inB (0:Int) (n+1)=true from po (by omega) (by omega),cT,aZ (show 0<n+1 by omega)]
 refine bf n (by omega) (fun i=>(mx f i,((i+1:Nat):Int),PUnit.unit)) _ rfl (fun again i hi=>?_) (fun again=>?_)
 ·simp only[z7 (show ((i+1:Nat):Int)<(n+1:Nat) by omega),ay,z7 (show i+1<n+1 by omega),z9,cT,aZ (show i+1<n+1 by omega),Fw,ax (show i+1<=1000000 by omega)]
  rfl
 ·simp only[z8 (show ¬ ((n+1:Nat):Int)<(n+1:Nat) by omega),cF]
theorem wB {a b c:Int} (hc:0<c):a<=b / c↔a*c<=b:=Int.le_ediv_iff_mul_le hc
theorem xF {a b c:Int} (hc:0<c):a>b / c↔b<a*c:=Int.ediv_lt_iff_lt_mul hc
theorem Bd {p:Pg} (hv:ValidP p):cY p=some (decide (eJ (aj p))):=by
 have hm:=hv.rows
 have hn:=hv.cost.2
 unfold cY l8
 rw[Ct hv.cs hn (by decide),obN]
 obtain ⟨f,hf⟩:∃f,f=fac (aj p):=⟨_,rfl⟩
 have hpos:∀i,1<=f i:=fun i=>by rw[hf];exact pk _ i
 have hsm:∀k,k<=p.2.length->f k<=2147483648:=fun k hk=>by rw[hf];exact ug hv hk
 have hF:eJ (aj p)=(pp f (p.2.length+1)<=17592186044416/\pp f (p.2.length+1)*mx f p.2.length<=144115188075855872):=by rw[hf];rfl
 refine bf p.2.length (by omega) (fun i=>(bO (i+1) f,(i:Int),PUnit.unit)) _ ?_ (fun again i hi=>?_) (fun again=>?_)
 ·rw[hf]
  show _=([fac (aj p) 0],(0:Int),PUnit.unit)
  congr 2
 ·have hr:p.2.getD i rw0 ∈ p.2:=by rw[bR hi];exact List.getElem_mem _
  have h1:=Ct (hv.coefs _ hr) (by rw[hv.len _ hr];exact hn) (hv.right _ hr)
  simp only[ay,z9,z7 hi,z7 (show (i:Int)<p.2.length by omega),cT,h1,af,av,dQ (show (i+1+1)*8<=140737488355328 by omega),ax (show i<=1000000 by omega)]
  have e:f (i+1)=1+ab (p.2.getD i rw0).2.2+sz (p.2.getD i rw0).1.length (fun j=>ab ((p.2.getD i rw0).1.getD j 0)):=by
   rw[hf,hv.len _ hr]
   rfl
  rw[<-e,kj]
 ·simp only[z8 (show ¬ (p.2.length:Int)<p.2.length by omega),cF,av,NT (show p.2.length<=1000 by omega),af]
  have hmx:1<=mx f p.2.length/\mx f p.2.length<=2147483648:=⟨Int.le_trans (hpos 0) (FP (by omega)),H8 hsm⟩
  have round:∀{R:Type} {a b:Option R} (i:Nat),i<p.2.length+1->(bif nzB (f i) then bif decide (pp f i>IntKind.wrap .i64 (Int.tdiv 17592186044416 (f i))) then a else b else none)=bif decide (pp f (i+1)>17592186044416) then a else b:=fun i hi=>by
   have h1:=hpos i
   have h2:=hsm i (by omega)
   rw[kD (by omega),cond_true,Int.tdiv_eq_ediv_of_nonneg (by omega)]
   have h3:0<=17592186044416 / f i:=Int.ediv_nonneg (by omega) (by omega)
   have h4:17592186044416 / f i<=17592186044416:=Int.ediv_le_self _ (by omega)
   rw[aB (by omega) (by omega),decide_eq_decide.2 (xF (a:=pp f i) (show 0<f i by omega))]
   rfl
  rcases nU (p.2.length+1) (fun i=>decide (pp f (i+1)>17592186044416)) with hnone | ⟨q,hq,hbig,hleast⟩
  ·have hall:∀i,i<=p.2.length+1->pp f i<=17592186044416:=fun i hi=>by
    cases i with
    | zero=>simp[pp]
    | succ i=>have:=of_decide_eq_false (hnone i (by omega));omega
   refine bf (p.2.length+1) (by omega) (fun i=>(pp f i,(i:Int),PUnit.unit)) _ rfl (fun again i hi=>?_) (fun again=>?_)
   ·have h2:=hall (i+1) (by omega)
    have h3:=om hpos (i+1)
    simp only[z7 (show (i:Int)<(p.2.length+1:Nat) by omega),ay,z7 hi,z9,aZ hi,aH (show Nat.succ i<=p.2.length+1 from hi),cT,round i hi,hnone i hi,cF,ax (show i<=1000000 by omega)]
    rw[aB (x:=pp f i*f i) (by simp only[pp] at h2 h3;omega) (by simp only[pp] at h2;omega)]
    rfl
   ·simp only[z8 (show ¬ ((p.2.length+1:Nat):Int)<(p.2.length+1:Nat) by omega),cF]
    rw[kD (by omega),cond_true,Int.tdiv_eq_ediv_of_nonneg (by omega)]
    have h3:0<=144115188075855872 / mx f p.2.length:=Int.ediv_nonneg (by omega) (by omega)
    have h4:144115188075855872 / mx f p.2.length<=144115188075855872:=Int.ediv_le_self _ (by omega)
    rw[aB (by omega) (by omega)]
    congr 1
    refine decide_eq_decide.2 ?_
    rw[wB (a:=pp f (p.2.length+1)) (show 0<mx f p.2.length by omega),hF]
    exact ⟨fun h=>⟨hall _ (by omega),h⟩,fun h=>h.2⟩
  ·have hlow:∀i,i<=q->pp f i<=17592186044416:=fun i hi=>by
    cases i with
    | zero=>simp[pp]
    | succ i=>have:=of_decide_eq_false (hleast i (by omega));omega
   refine bf q (by omega) (fun i=>(pp f i,(i:Int),PUnit.unit)) _ rfl (fun again i hi=>?_) (fun again=>?_)
   ·have h2:=hlow (i+1) (by omega)
    have h3:=om hpos (i+1)
    simp only[z7 (show (i:Int)<(p.2.length+1:Nat) by omega),ay,z7 (show i<p.2.length+1 by omega),z9,aZ (show i<p.2.length+1 by omega),aH (show Nat.succ i<=p.2.length+1 by omega),cT,round i (by omega),hleast i hi,cF,ax (show i<=1000000 by omega)]
    rw[aB (x:=pp f i*f i) (by simp only[pp] at h2 h3;omega) (by simp only[pp] at h2;omega)]
    rfl
   ·simp only[z7 (show (q:Int)<(p.2.length+1:Nat) by omega),ay,z7 hq,z9,aZ hq,aH (show Nat.succ q<=p.2.length+1 from hq),cT,round q hq,hbig]
    congr 1
    refine (z8 ?_).symm
    rw[hF]
    rintro ⟨h1,_⟩
    have h2:=z12 hbig
    have h3:=AX hpos (n:=q+1) (k:=p.2.length - q)
    rw[show q+1+(p.2.length - q)=p.2.length+1 by omega] at h3
    omega
theorem Dk {p:Pg} (hv:ValidP p) (hf:eJ (aj p)):Bnd (aj p) (aG p):=by
 obtain ⟨h1,h2⟩:=Ah hv
 refine ⟨ow hv,by omega,by omega,?_⟩
 rw[<-Ot]
 exact hf.1
theorem JX {p:Pg} (hf:eJ (aj p)) {k:Nat} (hk:k<=p.2.length):(aj p).F0*(aj p).P*fac (aj p) k<=144115188075855872:=by
 rw[<-Ot]
 have h1:=FP (f:=fac (aj p)) hk
 have h2:=om (pk (aj p)) ((aj p).m+1)
 have h3:=Int.mul_le_mul_of_nonneg_left h1 (show 0<=pp (fac (aj p)) ((aj p).m+1) by omega)
 exact Int.le_trans h3 hf.2
end Go.Proofs.YtfknoaclabfdlaaGreat

namespace Go.Proofs.YtfknoaclabfdlaaGreat
noncomputable section
open Tryz Dn Dn.Sh
theorem uv {p:Pg} (j:Nat):jr p.1 j=bm (aj p) j:=by
 unfold bm jr
 by_cases h:j<(aj p).n
 ·rw[if_pos h];rfl
 ·rw[if_neg h,List.getD_eq_getElem?_getD,List.getElem?_eq_none (Nat.not_lt.1 h)];rfl
theorem IB {n d:Int} (hd:d≠0) (hn:n.natAbs<=1152921504606846976) (hd2:d.natAbs<=1152921504606846976):te (BH n d)=(prQ ((n:Rat) / d),0,()):=by
 obtain ⟨m1,m2,m3⟩:=Ak (s:=decide (n<0) !=decide (d<0)) (n:=n.natAbs) (d:=d.natAbs) (by omega)
 obtain ⟨m4,m5⟩:=FE (s:=decide (n<0) !=decide (d<0)) m2 m3
 have hf:fZ (BH n d):=by
  unfold fZ BH
  rw[m1,m4,m5]
  have a1:n.natAbs / Nat.gcd n.natAbs d.natAbs<=n.natAbs:=Nat.div_le_self _ _
  have a2:d.natAbs / Nat.gcd n.natAbs d.natAbs<=d.natAbs:=Nat.div_le_self _ _
  refine ⟨?_,by rw[<-m5] at *;omega⟩
  unfold sgn
  generalize n.natAbs / Nat.gcd n.natAbs d.natAbs=p at *
  split<;>omega
 unfold te
 rw[if_pos hf,wg hd]
theorem tF {n d:Int} (hd:d≠0) (hn:n.natAbs<=1152921504606846976) (hd2:d.natAbs<=1152921504606846976):fZ ((n:Rat) / d):=by
 have h:=IB hd hn hd2
 rw[wg hd] at h
 rcases wV ((n:Rat) / d) with ⟨h1,_⟩ | ⟨_,h2⟩
 ·exact h1
 ·rw[h2] at h
  exact absurd (show (5:Int)=0 from congrArg (fun x:Fq×Int×Unit=>x.2.1) h) (by decide)
theorem zY {M:List (List Int)} {d n:Int} {x2 x3 cs:List Int} {x5 x6:Int} (hd:0<d/\d<=17592186044416) (hn:n.natAbs<=1152921504606846976):be (M,d,x2,x3,cs,x5,x6) n=some (prQ ((n:Rat) / (d:Rat))):=by
 simp only[be,iU,OI (show -9223372036854775808<=n by omega) (by omega) (show -9223372036854775808<=d by omega) (by omega),af,if_neg (show ¬ d=0 by omega)]
 rw[wg (by omega)]
 unfold te
 rw[if_pos (tF (by omega) hn (by omega))]
theorem zK {n:Nat}:List.replicate n (0:Int)=bO n fun _=>0:=by
 refine List.ext_getElem (by rw[av];simp) fun i h1 h2=>?_
 rw[vT,List.getElem_replicate]
theorem O7 {p:Pg} (k:Nat) (x:Int):((aG p).σ k*x).natAbs=x.natAbs:=by
 show ((if (p.2.getD k rw0).2.2<0 then (-1:Int) else 1)*x).natAbs=_
 split<;>omega
theorem Il {m w:Nat} {T:Nat->Nat->Int}:((gy m w T).1.all fun x=>fG (dn m w T) x)=true:=g9
theorem Iu {m w:Nat} {T:Nat->Nat->Int}:(gy m w T).1.map (fun x=>ai (dn m w T) x)=tg m w T:=ik
abbrev xL (p:Pg) (S:Sx):List Fq:=bO p.1.length fun j=>prQ (AW (aj p).m ((aG p).R (aj p)) S j)
abbrev yL (p:Pg) (wc:Nat->Int) (S:Sx):List Fq:=bO p.2.length fun k=>prQ (sF (aj p).m (aG p).N wc S (aG p).σ k)
def UH (p:Pg) (S:Sx):Int:=sz (aj p).m fun i=>bm (aj p) (S.β i)*S.T i ((aG p).R (aj p))
abbrev EQ (p:Pg) (S:Sx):Rat:=(UH p S:Rat) / (S.d:Rat)
structure Infeas (p:Pg) (S:Sx):Prop where
 val:(aG p).Val (aj p) S
 zr:∀j,j<(aG p).N->0<=zr (aj p).m (ef (aG p).N) S j
 pos:0<sz (aj p).m fun i=>ef (aG p).N (S.β i)*S.T i ((aG p).R (aj p))
structure iq (p:Pg) (S:Sx) (q:Nat):Prop where
 val:(aG p).Val (aj p) S
 az:AZ (aj p) (aG p) S
 lt:q<(aG p).N
 neg:zr (aj p).m (bm (aj p)) S q<0
 no:∀i,i<(aj p).m->S.T i q<=0
structure Opt (p:Pg) (S:Sx):Prop where
 val:(aG p).Val (aj p) S
 az:AZ (aj p) (aG p) S
 zr:∀j,j<(aG p).N->0<=zr (aj p).m (bm (aj p)) S j
abbrev pt:Fq×List Fq×List Fq:=((0,0),[],[])
def xy (p:Pg) (o:Option ((Fq×List Fq×List Fq)×Int×Unit)):Prop :=
 (∃S,Infeas p S/\o=some (pt,22,()))\/(∃S q,iq p S q/\o=some (pt,21,()))\/∃S,Opt p S/\o=some ((prQ (EQ p S),xL p S,yL p (bm (aj p)) S),0,())
theorem obQ {T R:Type} {Q:Option R->Prop} {o:Option T} {t:T} {k:T->Option R} (h:o=some t) (hk:Q (k t)):Q (ah o k):=by
 rw[h]
 exact hk
theorem J2 {p:Pg} (hv:ValidP p) (hf:eJ (aj p)):xy p (aA p):=by
 have hB:=Dk hv hf
 obtain ⟨hw25,hm6'⟩:=Ah hv
 have hm6:p.2.length<=6:=hm6'
 have hn:=hv.cost.2
 have hok:=ow hv
 have hpow:(aG p).w (aj p) ^ (aj p).m<=1180591620717411303424:=Nat.le_trans (Nat.pow_le_pow_left (show _<=64 by omega) _) (Nat.le_trans (Nat.pow_le_pow_right (by omega) hm6') (by decide))
 have hcnt:=tR (p:=p) p.2.length
 have hNe:IntKind.wrap .i64 ((p.1.length:Int)+(gm p p.2.length:Nat))=((aG p).N:Int):=by rw[aB (by omega) (by omega)];rfl
 have hRe:IntKind.wrap .i64 (((aG p).N:Int)+(p.2.length:Int))=(((aG p).R (aj p):Nat):Int):=by
  have:(aG p).N=p.1.length+gm p p.2.length:=rfl
  rw[aB (by omega) (by omega)];rfl
 unfold aA jq
 rw[zb,obN,xT.2 hv]
 simp only[Bool.not_true,cF]
 rw[Bd hv,obN,z7 hf]
 simp only[Bool.not_true,cF]
 refine Ho hv (xy p) (fun again i s hi=>?_) (fun again=>?_)
 ·simp only[z7 (show (i:Int)<p.2.length by omega),ay,z7 hi,z9,cT,ax (show i<=1000000 by omega)]
 simp only[z8 (show ¬ (p.2.length:Int)<p.2.length by omega),cF,cf,js,dQ (show (0+p.1.length)*8<=140737488355328 by omega),cT,af,hNe,hRe]
 refine DW hv (xy p) ?_
 obtain ⟨S,ok,h1,hvS,h2,h3⟩:=Mb hB hpow (x3:=bO p.2.length (aG p).σ) (cs:=p.1) (Lay.first hok)
 refine obQ (Q:=xy p) h1 ?_
 cases ok with
 | false =>
  simp only[Bool.not_false,cT]
  exact .inl ⟨S,⟨hvS,(h3 rfl).1,(h3 rfl).2⟩,rfl⟩
 | true =>
  simp only[Bool.not_true,cF]
  obtain ⟨S,ok,h1,hvS,haS,h2,h3⟩:=EW hB hpow (x3:=bO p.2.length (aG p).σ) uv hvS (h2 rfl)
  refine obQ (Q:=xy p) h1 ?_
  cases ok with
  | false =>
   simp only[Bool.not_false,cT]
   obtain ⟨q,e1,e2,e3⟩:=h3 rfl
   exact .inr (.inl ⟨S,q,⟨hvS,haS,e1,e2,e3⟩,rfl⟩)
  | true =>
   simp only[Bool.not_true,cF,z9,z7 (show (0:Int)<=(p.1.length:Nat) by omega),dQ (show p.1.length*8<=140737488355328 by omega),Bool.and_self,cT,zK]
   refine .inr (.inr ⟨S,⟨hvS,haS,h2 rfl⟩,?_⟩)
   obtain ⟨⟨d1,d2⟩,hb⟩:=hB.tab hvS.tb
   obtain ⟨_,hbP⟩:=hB.tabP hvS.tb
   have hRw:(aG p).R (aj p)<(aG p).w (aj p):=by unfold Lay.R Lay.w;omega
   have hm:(aj p).m=p.2.length:=rfl
   have hcR:∀i,i<(aj p).m-> -17592186044416<=bm (aj p) (S.β i)*S.T i ((aG p).R (aj p))/\bm (aj p) (S.β i)*S.T i ((aG p).R (aj p))<=17592186044416:=fun i hi=>hB.cost (hbP i _ hi hRw) _
   have hTR:∀i,i<(aj p).m-> -17592186044416<=S.T i ((aG p).R (aj p))/\S.T i ((aG p).R (aj p))<=17592186044416:=fun i hi=>by have:=hb i _ hi hRw;omega
   refine bf (aj p).m (by omega) (fun i=>(sz i (fun k=>bm (aj p) (S.β k)*S.T k ((aG p).R (aj p))),(i:Int),bO p.1.length (fun j=>sz i fun k=>if S.β k=j then S.T k ((aG p).R (aj p)) else 0),PUnit.unit)) _ rfl (fun again i hi=>?_) (fun again=>?_)
   ·have hiR:=hcR i hi
    have hs:=iv (n:=i) (f:=fun k=>bm (aj p) (S.β k)*S.T k ((aG p).R (aj p))) (B:=17592186044416) fun k hk=>hcR k (by omega)
    have h3:(i:Int)*17592186044416<=6*17592186044416:=z11 (by omega) (by omega)
    simp only[fg,ay,z9,z7 hi,z7 (show (i:Int)<(aj p).m by omega),aH (show Nat.succ i<=(aj p).m from hi),gN hi,cT,Il,Iu,vV,uv,af,cP,cK hi,dX,cd hi,av,aZ hRw,z7 hRw,aH (show Nat.succ ((aG p).R (aj p))<=(aG p).w (aj p) from hRw),ax (show i<=1000000 by omega)]
    rw[aB (x:=bm (aj p) (S.β i)*S.T i ((aG p).R (aj p))) (by omega) (by omega),aB (by omega) (by omega)]
    by_cases c:S.β i<p.1.length
    ·simp only[z7 (show (S.β i:Int)<p.1.length by omega),z7 c,aH (show Nat.succ (S.β i)<=p.1.length from c),cT,eP c]
     congr 3
     congr 1
     refine bB fun j _=>?_
     by_cases e:j=S.β i
     ·subst e
      rw[if_pos rfl]
      simp only[sz]
      rw[fW fun k hk=>if_neg fun e=>by have:=hvS.tb.inj (show k<(aj p).m by omega) hi e;omega,if_pos trivial,Int.zero_add]
     ·rw[if_neg e]
      simp only[sz]
      rw[if_neg (Ne.symm e),Int.add_zero]
    ·simp only[z8 (show ¬ (S.β i:Int)<p.1.length by omega),cF]
     congr 3
     congr 1
     refine bB fun j hj=>?_
     simp only[sz]
     rw[if_neg (by omega),Int.add_zero]
   have hsV:=iv (n:=(aj p).m) (f:=fun k=>bm (aj p) (S.β k)*S.T k ((aG p).R (aj p))) (B:=17592186044416) hcR
   have h6:((aj p).m:Int)*17592186044416<=6*17592186044416:=z11 (by omega) (by omega)
   simp only[fg,z8 (show ¬ ((aj p).m:Int)<(aj p).m by omega),cF,g9,ik,cT,zY ⟨d1,d2⟩ (show (sz (aj p).m fun k=>bm (aj p) (S.β k)*S.T k ((aG p).R (aj p))).natAbs<=1152921504606846976 by omega),af,av]
   refine bf p.1.length (by omega) (fun j=>((j:Int),prQ (EQ p S),bO j (fun j=>prQ (AW (aj p).m ((aG p).R (aj p)) S j)),[],PUnit.unit)) _ rfl (fun again j hj=>?_) (fun again=>?_)
   ·have hx:=iv (n:=(aj p).m) (f:=fun k=>if S.β k=j then S.T k ((aG p).R (aj p)) else 0) (B:=17592186044416) fun k hk=>by
     have:=hTR k hk
     split<;>omega
    simp only[ay,z9,z7 hj,z7 (show (j:Int)<p.1.length by omega),aH (show Nat.succ j<=p.1.length from hj),aZ hj,cT,zY ⟨d1,d2⟩ (show (sz (aj p).m fun k=>if S.β k=j then S.T k ((aG p).R (aj p)) else 0).natAbs<=1152921504606846976 by omega),af,av,dQ (show (j+1)*16<=140737488355328 by omega),ax (show j<=1000000 by omega)]
    rw[show prQ (((sz (aj p).m fun k=>if S.β k=j then S.T k ((aG p).R (aj p)) else 0:Int):Rat) / (S.d:Rat))=(fun j=>prQ (AW (aj p).m ((aG p).R (aj p)) S j)) j from rfl,kj]
   simp only[z8 (show ¬ (p.1.length:Int)<p.1.length by omega),cF]
   refine bf p.2.length (by omega) (fun k=>((k:Int),prQ (EQ p S),xL p S,bO k (fun k=>prQ (sF (aj p).m (aG p).N (bm (aj p)) S (aG p).σ k)),PUnit.unit)) _ rfl (fun again k hk=>?_) (fun again=>?_)
   ·have hNk:(aG p).N+k<(aG p).w (aj p):=by unfold Lay.w;omega
    have hcN:∀i,i<(aj p).m-> -17592186044416<=bm (aj p) (S.β i)*S.T i ((aG p).N+k)/\bm (aj p) (S.β i)*S.T i ((aG p).N+k)<=17592186044416:=fun i hi=>hB.cost (hbP i _ hi hNk) _
    have hNke:IntKind.wrap .i64 (((aG p).N:Int)+(k:Int))=(((aG p).N+k:Nat):Int):=by rw[aB (by omega) (by omega)];rfl
    simp only[z7 (show (k:Int)<p.2.length by omega),cT,hNke]
    refine bf (aj p).m (by omega) (fun i=>(sz i (fun i=>bm (aj p) (S.β i)*S.T i ((aG p).N+k)),(i:Int),PUnit.unit)) _ rfl (fun again2 i hi=>?_) (fun again2=>?_)
    ·have hiR:=hcN i hi
     have hs:=iv (n:=i) (f:=fun i=>bm (aj p) (S.β i)*S.T i ((aG p).N+k)) (B:=17592186044416) fun k hk=>hcN k (by omega)
     have h3:(i:Int)*17592186044416<=6*17592186044416:=z11 (by omega) (by omega)
     simp only[ay,z9,z7 hi,z7 (show (i:Int)<(aj p).m by omega),aH (show Nat.succ i<=(aj p).m from hi),gN hi,cT,vV,uv,af,cP,cK hi,dX,cd hi,av,aZ hNk,z7 hNk,aH (show Nat.succ ((aG p).N+k)<=(aG p).w (aj p) from hNk),ax (show i<=1000000 by omega)]
     rw[aB (x:=bm (aj p) (S.β i)*S.T i ((aG p).N+k)) (by omega) (by omega),aB (by omega) (by omega)]
     rfl
    ·have hs:=iv (n:=(aj p).m) (f:=fun i=>bm (aj p) (S.β i)*S.T i ((aG p).N+k)) (B:=17592186044416) hcN
     have hab:=O7 (p:=p) k (sz (aj p).m fun i=>bm (aj p) (S.β i)*S.T i ((aG p).N+k))
     simp only[z8 (show ¬ ((aj p).m:Int)<(aj p).m by omega),cF,av,ay,z9,z7 hk,aH (show Nat.succ k<=p.2.length from hk),aZ hk,cT,aB (x:=(aG p).σ k*sz (aj p).m fun i=>bm (aj p) (S.β i)*S.T i ((aG p).N+k)) (by omega) (by omega),zY ⟨d1,d2⟩ (show ((aG p).σ k*sz (aj p).m fun i=>bm (aj p) (S.β i)*S.T i ((aG p).N+k)).natAbs<=1152921504606846976 by omega),af,dQ (show (k+1)*16<=140737488355328 by omega),ax (show k<=1000000 by omega)]
     rw[show prQ ((((aG p).σ k*sz (aj p).m fun i=>bm (aj p) (S.β i)*S.T i ((aG p).N+k):Int):Rat) / (S.d:Rat))=(fun k=>prQ (sF (aj p).m (aG p).N (bm (aj p)) S (aG p).σ k)) k from rfl,kj]
   ·simp only[z8 (show ¬ (p.2.length:Int)<p.2.length by omega),cF]
end
end Go.Proofs.YtfknoaclabfdlaaGreat

namespace Go.Proofs.YtfknoaclabfdlaaGreat
open Tryz Dn Dn.Sh
def vX (x:List Fq) (j:Nat):Rat:=qv (x.getD j (0,0))
theorem Dc {f:Nat->Rat}:∀{n:Nat},sq (n+1) f=f 0+sq n fun i=>f (i+1)
 | 0=>by simp only[sq];grind
 | n+1=>by
  rw[sq,Dc (n:=n)]
  simp only[sq]
  grind
theorem BZ:∀{l:List Int} {x:List Fq} {s q:Rat},l.length<=x.length->jI l x s=some q->q=s+sq l.length fun j=>((l.getD j 0:Int):Rat)*vX x j
 | [],x,s,q,_,h=>by
  unfold jI at h
  injection h with h
  simp only[List.length_nil,sq]
  grind
 | n ::l,[],s,q,hl,h=>by simp at hl
 | n ::l,a ::x,s,q,hl,h=>by
  unfold jI at h
  split at h
  ·have h1:=BZ (l:=l) (x:=x) (by simpa using hl) h
   rw[List.length_cons,Dc,h1]
   have e1:∀j,(n ::l).getD (j+1) 0=l.getD j 0:=fun j=>rfl
   have e2:∀j,vX (a ::x) (j+1)=vX x j:=fun j=>rfl
   simp only[e1,e2]
   have e3:((n ::l).getD 0 0:Int)=n:=rfl
   have e4:vX (a ::x) 0=qv a:=rfl
   rw[e3,e4]
   grind
  ·cases h
theorem Mr {l:List Int} {x:List Fq} (hl:l.length<=x.length) (h:(jI l x 0).isSome=true):(jI l x 0).getD 0=sq l.length fun j=>((l.getD j 0:Int):Rat)*vX x j:=by
 cases hq:jI l x 0 with
 | none=>rw[hq] at h;cases h
 | some q =>
  have:=BZ hl hq
  rw[Option.getD_some,this]
  grind
theorem Pd {α:Type} {P:α->Bool} {l:List α} (d:α):l.all P=true↔∀k,k<l.length->P (l.getD k d)=true:=by
 rw[<-uQ (p:=P) d,List.all_eq_true]
 exact ⟨fun h k hk=>h k (List.mem_range'.2 ⟨k,hk,by omega⟩),fun h i hi=>by obtain ⟨k,hk,rfl⟩:=List.mem_range'.1 hi;exact h _ (by omega)⟩
theorem Fu {p:Pg} {x:List Fq} (hl:x.length=p.1.length) (h:(jI p.1 x 0).isSome=true):(jI p.1 x 0).getD 0=(aj p).val (vX x):=by
 rw[Mr (by omega) h]
 rfl
theorem xn {f:Nat->Int}:∀{n:Nat},sz (n+1) f=f 0+sz n fun i=>f (i+1)
 | 0=>by simp[sz]
 | n+1=>by
  rw[sz,xn (n:=n)]
  simp only[sz]
  omega
theorem Hv {α:Type} {n:Nat} {f:Nat->α}:bO (n+1) f=f 0 ::bO n fun i=>f (i+1):=by
 unfold bO
 rw[List.range_succ_eq_map,List.map_cons,List.map_map]
 rfl
theorem CN {d B:Int} (hd:0<d/\d<=1152921504606846976) (hB:B<=1152921504606846976):∀{l:List Int} {X:Nat->Int} {s:Int},(∀j,j<l.length->ab (l.getD j 0*X j)<=B)->(∀i,i<=l.length->ab (s+sz i fun j=>l.getD j 0*X j)<=B) ->
  jI l (bO l.length fun j=>prQ ((X j:Rat) / (d:Rat))) ((s:Rat) / (d:Rat))=some (((s+sz l.length fun j=>l.getD j 0*X j:Int):Rat) / (d:Rat))
 | [],X,s,_,_=>by
  unfold jI
  simp[sz]
 | n ::l,X,s,h1,h2=>by
  have e1:∀j,(n ::l).getD (j+1) 0=l.getD j 0:=fun j=>rfl
  have e0:((n ::l).getD 0 0:Int)=n:=rfl
  have a1:=h1 0 (by simp)
  have a2:=h2 1 (by simp)
  simp only[sz,e0,Int.zero_add] at a1 a2
  rw[List.length_cons,Hv]
  unfold jI
  rw[Eh]
  have q1:(n:Rat)*((X 0:Rat) / (d:Rat))=((n*X 0:Int):Rat) / (d:Rat):=by rw[Rat.intCast_mul];grind
  have q2:(s:Rat) / (d:Rat)+((n*X 0:Int):Rat) / (d:Rat)=((s+n*X 0:Int):Rat) / (d:Rat):=by rw[Rat.intCast_add];grind
  have b1:(n*X 0).natAbs<=1152921504606846976:=by rw[wC] at a1;omega
  have b2:(s+n*X 0).natAbs<=1152921504606846976:=by rw[wC] at a2;omega
  rw[q1,q2,if_pos ⟨tF (by omega) b1 (by omega),tF (by omega) b2 (by omega)⟩]
  have ih:=CN hd hB (l:=l) (X:=fun j=>X (j+1)) (s:=s+n*X 0) (fun j hj=>h1 (j+1) (by simpa using hj)) (fun i hi=>by
   have:=h2 (i+1) (by simpa using hi)
   rw[xn] at this
   simp only[e1,e0] at this
   rw[<-Int.add_assoc] at this
   exact this)
  rw[ih]
  congr 3
  rw[xn]
  simp only[e1,e0]
  omega
theorem Dt {n i:Nat} {a X:Nat->Int} {B:Int} (hi:i<=n) (hB:0<=B) (hX:∀j,j<n->ab (X j)<=B):ab (sz i fun j=>a j*X j)<=(sz n fun j=>ab (a j))*B:=by
 refine Int.le_trans Ek ?_
 have h1:(sz i fun j=>ab (a j*X j))<=sz i fun j=>ab (a j)*B:=nJ fun j hj=>by
  rw[qB]
  exact Int.mul_le_mul_of_nonneg_left (hX j (by omega)) (cH _)
 refine Int.le_trans h1 ?_
 rw[AB]
 refine z11 ?_ hB
 obtain ⟨k,rfl⟩:∃k,n=i+k:=⟨n - i,by omega⟩
 rw[xr]
 have:0<=sz k fun l=>ab (a (i+l)):=i9 fun _ _=>cH _
 omega
theorem Oo {n j:Nat} {f:Nat->Int} (hj:j<n) (hf:∀i,i<n->0<=f i):f j<=sz n f:=by
 have h1:(sz n fun i=>if i=j then f j else 0)<=sz n f:=nJ fun i hi=>by
  by_cases e:i=j
  ·rw[if_pos e,e];exact Int.le_refl _
  ·rw[if_neg e];exact hf i hi
 rw[fb hj fun i _ hne=>if_neg hne,if_pos rfl] at h1
 exact h1
theorem DU {n j:Nat} {a X:Nat->Int} {B:Int} (hj:j<n) (hB:0<=B) (hX:∀j,j<n->ab (X j)<=B):ab (a j*X j)<=(sz n fun j=>ab (a j))*B:=by
 rw[qB]
 refine Int.le_trans (Int.mul_le_mul_of_nonneg_left (hX j hj) (cH _)) (z11 ?_ hB)
 exact Oo (f:=fun j=>ab (a j)) hj fun _ _=>cH _
theorem IE {l:List Int} {X:Nat->Int} {d B:Int} (hd:0<d/\d<=1152921504606846976) (hB:0<=B) (hX:∀j,j<l.length->ab (X j)<=B) (h:(sz l.length fun j=>ab (l.getD j 0))*B<=1152921504606846976) :
  (jI l (bO l.length fun j=>prQ ((X j:Rat) / (d:Rat))) 0).isSome=true:=by
 have h0:(0:Rat)=((0:Int):Rat) / (d:Rat):=by rw[show ((0:Int):Rat)=0 from rfl,Rat.div_def,Rat.zero_mul]
 rw[h0,CN hd h (fun j hj=>DU (a:=fun j=>l.getD j 0) hj hB hX) (fun i hi=>by rw[Int.zero_add];exact Dt (a:=fun j=>l.getD j 0) hi hB hX)]
 rfl
section
variable {p:Pg} {S:Sx}
theorem FZ (hB:Bnd (aj p) (aG p)) (hv:(aG p).Val (aj p) S) (j:Nat):0<=uG (aj p).m ((aG p).R (aj p)) S j/\uG (aj p).m ((aG p).R (aj p)) S j<=(aj p).P:=by
 refine ⟨mS hv j,?_⟩
 have hRw:(aG p).R (aj p)<(aG p).w (aj p):=by unfold Lay.R Lay.w;omega
 obtain ⟨_,hb⟩:=hB.tabP hv.tb
 unfold uG
 by_cases h:∃i,i<(aj p).m/\S.β i=j
 ·obtain ⟨i,hi,e⟩:=h
  rw[fb hi fun k hk hne=>if_neg fun e2=>hne (hv.tb.inj hk hi (by rw[e,e2])),if_pos e]
  have:=hb i _ hi hRw
  omega
 ·rw[fW fun i hi=>if_neg fun e=>h ⟨i,hi,e⟩]
  have:=(aj p).P_pos
  omega
theorem Rc (hV:ValidP p) (hf:eJ (aj p)) (hv:(aG p).Val (aj p) S):KP p (xL p S)=true/\(jI p.1 (xL p S) 0).isSome=true:=by
 have hB:=Dk hV hf
 obtain ⟨⟨d1,d2⟩,hb⟩:=hB.tab hv.tb
 have hm:=hV.rows
 have hP:=(aj p).P_pos
 have hF0:=(aj p).F0_pos
 have hx:∀j,ab (uG (aj p).m ((aG p).R (aj p)) S j)<=(aj p).P:=fun j=>by
  have:=FZ hB hv j
  exact rP.2 ⟨by omega,this.2⟩
 have gen:∀{l:List Int} {k:Nat},l.length=p.1.length->k<=p.2.length->(sz p.1.length fun j=>ab (l.getD j 0))<=fac (aj p) k->(jI l (xL p S) 0).isSome=true:=fun {l k} hl hk hF=>by
  have h2:=JX hf hk
  have h3:1*((aj p).P*fac (aj p) k)<=(aj p).F0*((aj p).P*fac (aj p) k):=z11 hF0 (Int.mul_nonneg (by omega) (by have:=pk (aj p) k;omega))
  have h5:=Int.mul_assoc (aj p).F0 (aj p).P (fac (aj p) k)
  have h4:=z11 hF (show 0<=(aj p).P by omega)
  rw[Int.mul_comm (fac (aj p) k)] at h4
  have h1:=IE (l:=l) (X:=fun j=>uG (aj p).m ((aG p).R (aj p)) S j) (d:=S.d) (B:=(aj p).P) ⟨d1,by omega⟩ (by omega) (fun j _=>hx j) (by rw[hl];omega)
  rw[hl] at h1
  exact h1
 constructor
 ·unfold KP
  rw[Pd rw0]
  intro k hk
  have hr:p.2.getD k rw0 ∈ p.2:=by rw[bR hk];exact List.getElem_mem _
  refine gen (k:=k+1) (hV.len _ hr) (by omega) ?_
  show _<=1+ab (p.2.getD k rw0).2.2+sz p.1.length (fun j=>ab ((p.2.getD k rw0).1.getD j 0))
  have:=cH (p.2.getD k rw0).2.2
  omega
 ·refine gen (k:=0) rfl (by omega) ?_
  show _<=1+sz p.1.length (fun j=>ab (p.1.getD j 0))
  omega
theorem EC {n:Nat} {f:Nat->Rat} {j:Nat} (hj:j<n):vX (bO n fun j=>prQ (f j)) j=f j:=by
 unfold vX
 rw[aZ hj,Eh]
theorem M9 {n:Nat} {f:Nat->Rat} (h:∀j,j<n->fZ (f j)):∀a ∈ bO n (fun j=>prQ (f j)),okF a:=fun a ha=>by
 unfold bO at ha
 obtain ⟨j,hj,rfl⟩:=List.mem_map.1 ha
 exact Ga (h j (List.mem_range.1 hj))
theorem Tj (hV:ValidP p) (hf:eJ (aj p)) (hv:(aG p).Val (aj p) S):∀a ∈ xL p S,okF a:=M9 fun j _=>by
 have hB:=Dk hV hf
 obtain ⟨⟨d1,d2⟩,_⟩:=hB.tab hv.tb
 have:=FZ hB hv j
 have:=hB.P'
 exact tF (by omega) (by omega) (by omega)
theorem Dn.Lin.Feas.congr {L:Lin} {x x':Nat->Rat} (h:∀j,j<L.n->x j=x' j) (hx:L.Feas x):L.Feas x':=by
 have hr:∀k,L.row x' k=L.row x k:=fun k=>iR fun j hj=>by rw[h j hj]
 exact ⟨fun j hj=>by rw[<-h j hj];exact hx.pos j hj,fun k hk h2=>by rw[hr];exact hx.most k hk h2,fun k hk h2=>by rw[hr];exact hx.least k hk h2⟩
theorem Dn.Lin.Sgn.congr {L:Lin} {y y':Nat->Rat} (h:∀k,k<L.m->y k=y' k) (hy:L.Sgn y):L.Sgn y' :=
 ⟨fun k hk e=>by rw[<-h k hk];exact hy.most k hk e,fun k hk e=>by rw[<-h k hk];exact hy.least k hk e⟩
theorem Dn.Lin.col_congr {L:Lin} {y y':Nat->Rat} (h:∀k,k<L.m->y k=y' k) (j:Nat):L.col y' j=L.col y j:=iR fun k hk=>by rw[h k hk]
theorem Dn.Lin.rhs_congr {L:Lin} {y y':Nat->Rat} (h:∀k,k<L.m->y k=y' k):L.rhs y'=L.rhs y:=iR fun k hk=>by rw[h k hk]
theorem Dn.Lin.val_congr {L:Lin} {x x':Nat->Rat} (h:∀j,j<L.n->x j=x' j):L.val x'=L.val x:=iR fun j hj=>by rw[h j hj]
theorem NO (hV:ValidP p) (_:eJ (aj p)) (ho:Opt p S):(aj p).Feas (vX (xL p S))/\(aj p).Dual (vX (yL p (bm (aj p)) S))/\(aj p).val (vX (xL p S))=EQ p S/\(aj p).rhs (vX (yL p (bm (aj p)) S))=EQ p S:=by
 have hok:=ow hV
 have ex:∀j,j<(aj p).n->AW (aj p).m ((aG p).R (aj p)) S j=vX (xL p S) j:=fun j hj=>(EC hj).symm
 have ey:∀k,k<(aj p).m->sF (aj p).m (aG p).N (bm (aj p)) S (aG p).σ k=vX (yL p (bm (aj p)) S) k:=fun k hk=>(EC hk).symm
 have h1:=oJ hok ho.val (ho.az.art S)
 have h2:=wD hok ho.val ho.zr
 obtain ⟨h3,h4⟩:=vl hok ho.val
 refine ⟨h1.congr ex,⟨h2.toSgn.congr ey,fun j hj=>?_⟩,?_,?_⟩
 ·rw[Lin.col_congr ey];exact h2.col j hj
 ·rw[Lin.val_congr ex];exact h3
 ·rw[Lin.rhs_congr ey];exact h4
theorem DY (hV:ValidP p) (ho:Infeas p S):(aj p).Ref (vX (yL p (ef (aG p).N) S)):=by
 have hok:=ow hV
 have ey:∀k,k<(aj p).m->sF (aj p).m (aG p).N (ef (aG p).N) S (aG p).σ k=vX (yL p (ef (aG p).N) S) k:=fun k hk=>(EC hk).symm
 have h2:=ze hok ho.val ho.zr ho.pos
 refine ⟨h2.toSgn.congr ey,fun j hj=>?_,?_⟩
 ·rw[Lin.col_congr ey];exact h2.col j hj
 ·rw[Lin.rhs_congr ey];exact h2.rhs
end
theorem GZ {p:Pg} (h:ValidP p) (hf:¬ eJ (aj p)):aA p=some (pt,5,()):=by
 unfold aA jq
 rw[zb,obN,xT.2 h]
 simp only[Bool.not_true,cF]
 rw[Bd h,obN,z8 hf]
 rfl
def bD (p:Pg):Lay:=⟨p.1.length+p.2.length,fun k=>p.1.length+k,fun k=>if (p.2.getD k rw0).2.2<0 then -1 else 1⟩
theorem ua {p:Pg} (hv:ValidP p):(bD p).ok (aj p):=by
 have row:∀k,k<p.2.length->p.2.getD k rw0 ∈ p.2:=fun k hk=>by rw[bR hk];exact List.getElem_mem _
 refine ⟨Nat.le_add_right _ _,fun k hk=>?_,fun k hk h3=>⟨Nat.le_add_right _ _,?_⟩,fun k l hk hl h3 h4 e=>?_,fun k _=>?_,fun k _=>?_⟩
 ·have:=hv.kind _ (row k hk)
  show (p.2.getD k rw0).2.1=1\/(p.2.getD k rw0).2.1=2\/(p.2.getD k rw0).2.1=3
  omega
 ·have hk:k<p.2.length:=hk
  show p.1.length+k<p.1.length+p.2.length
  omega
 ·have e:p.1.length+k=p.1.length+l:=e
  omega
 ·show (if (p.2.getD k rw0).2.2<0 then (-1:Int) else 1)=1\/(if (p.2.getD k rw0).2.2<0 then (-1:Int) else 1)= -1
  split<;>omega
 ·show 0<=(if (p.2.getD k rw0).2.2<0 then (-1:Int) else 1)*(p.2.getD k rw0).2.2
  split<;>omega
def mD (m:Nat) (T:Nat->Nat->Int) (z:Nat->Int):Nat->Nat->Int:=fun i j=>if i=m then z j else T i j
theorem fu {m:Nat} {T:Nat->Nat->Int} {z:Nat->Int} {j:Nat}:mD m T z m j=z j:=if_pos rfl
theorem cB {m i:Nat} {T:Nat->Nat->Int} {z:Nat->Int} {j:Nat} (h:i<m):mD m T z i j=T i j:=if_neg (by omega)
def yf (T Q:Nat->Nat->Int) (r i j:Nat):Nat->Nat->Int:=fun k l=>if k≠r/\(k<i\/(k=i/\l<j)) then Q k l else T k l
theorem Ii {T Q:Nat->Nat->Int} {r i j l:Nat}:yf T Q r i j r l=T r l:=if_neg fun h=>h.1 rfl
theorem zt {T Q:Nat->Nat->Int} {r i j l:Nat} (h:j<=l):yf T Q r i j i l=T i l:=by
 unfold yf
 rw[if_neg fun h=>by omega]
theorem D9 {d q:Int} (hd:0<d):Int.tdiv (d*q) d=q:=by
 rw[Int.mul_comm]
 exact Int.mul_tdiv_cancel _ (by omega)
theorem ta {x y:Int} (hx:x.natAbs<4294967296) (hy:y.natAbs<=1073741824): -4611686018427387904<x*y/\x*y<4611686018427387904:=by
 have h:(x*y).natAbs<4611686018427387904:=by
  rw[Int.natAbs_mul]
  exact Nat.lt_of_le_of_lt (Nat.mul_le_mul (Nat.le_of_lt_succ (n:=4294967295) hx) hy) (by decide)
 omega
theorem zn {m w:Nat} {T Q:Nat->Nat->Int} {d:Int} {bs:List Int} {x3:Int} {r c:Nat} (hm:m<=1000) (hw:w<=1000) (hr:r<m) (hrb:r<bs.length) (hc:c<w) (hd:0<d/\d<=1073741824)
  (hb:∀i j,i<m->j<w->(T i j).natAbs<4294967296) (hbr:∀j,j<w->(T r j).natAbs<=1073741824)
  (hq:∀i j,i<m->i≠r->j<w->d*Q i j=T i j*T r c - T i c*T r j) (hqb:∀i j,i<m->i≠r->j<w->(Q i j).natAbs<4294967296) :
  cn (gy m w T) bs d x3 (r:Int) (c:Int)=some (gy m w (fun i j=>if i=r then T r j else Q i j),bs.set r (c:Int),T r c,x3,()):=by
 unfold cn np
 simp only[cP,cK hr,dX,cd hr,av,aZ hc,ay,z9,z7 hr,z7 hc,z7 hrb,aH (show Nat.succ r<=m from hr),aH (show Nat.succ c<=w from hc),aH (show Nat.succ r<=bs.length from hrb),cT]
 refine bf m (by omega) (fun i=>((i:Int),gy m w (yf T Q r i 0),PUnit.unit)) _ ?_ (fun again i hi=>?_) (fun again=>?_)
 ·rw[dL (T:=T) (T':=yf T Q r 0 0) fun k l _ _=>(if_neg fun h=>by omega).symm];rfl
 ·simp only[cP,cK hi,dX,cd hi,av,aZ hc,ay,z9,z7 hi,z7 hc,z7 (show (i:Int)<m by omega),aH (show Nat.succ i<=m from hi),aH (show Nat.succ c<=w from hc),cT,ax (show i<=1000000 by omega)]
  by_cases e:i=r
  ·rw[z7 (show (i:Int)=r by omega),cond_true]
   congr 3
   refine dL fun k l _ _=>?_
   unfold yf
   by_cases c1:k≠r/\(k<i\/(k=i/\l<0))
   ·rw[if_pos c1,if_pos (by omega)]
   ·rw[if_neg c1,if_neg (by omega)]
  ·rw[z8 (show ¬ (i:Int)=r by omega),cond_false]
   refine bf w (by omega) (fun j=>((j:Int),gy m w (yf T Q r i j),PUnit.unit)) _ rfl (fun again2 j hj=>?_) (fun again2=>?_)
   ·have p1:=ta (hb i j hi hj) (hbr c hc)
    have p2:=ta (hb i c hi hc) (hbr j hj)
    have q1:=hqb i j hi e hj
    simp only[cP,cK hi,cK hr,dX,i7 hi,cd hi,cd hr,av,aZ hj,ay,z9,z7 hi,z7 hj,z7 hr,z7 (show (j:Int)<w by omega),
     aH (show Nat.succ i<=m from hi),aH (show Nat.succ j<=w from hj),aH (show Nat.succ r<=m from hr),cT,Ii,zt (Nat.le_refl j),zt (Nat.zero_le c),kD (show d≠0 by omega),ax (show j<=1000000 by omega)]
    rw[aB (x:=T i j*T r c) (by omega) (by omega),aB (x:=T i c*T r j) (by omega) (by omega),aB (x:=T i j*T r c - T i c*T r j) (by omega) (by omega),<-hq i j hi e hj,D9 hd.1,aB (x:=Q i j) (by omega) (by omega)]
    congr 3
    refine tL hi hj fun k l hk hl=>?_
    unfold yf
    by_cases c0:k=i/\l=j
    ·rw[if_pos c0,if_pos (by omega),c0.1,c0.2]
    ·rw[if_neg c0]
     by_cases c1:k≠r/\(k<i\/(k=i/\l<j))
     ·rw[if_pos c1,if_pos (by omega)]
     ·rw[if_neg c1,if_neg (by omega)]
   ·simp only[cP,cK hi,dX,i7 hi,cd hi,av,ay,z9,z7 hi,aH (show Nat.succ i<=m from hi),cT,z8 (show ¬ (w:Int)<w by omega),cF]
    congr 3
    refine dL fun k l hk hl=>?_
    unfold yf
    by_cases c1:k≠r/\(k<i\/(k=i/\l<w))
    ·rw[if_pos c1,if_pos (by omega)]
    ·rw[if_neg c1,if_neg (by omega)]
 ·simp only[cP,z8 (show ¬ (m:Int)<m by omega),cF]
  congr 2
  refine dL fun k l hk hl=>?_
  unfold yf
  by_cases c0:k=r
  ·rw[if_neg (by omega),if_pos c0,c0]
  ·rw[if_pos (by omega),if_neg c0]
structure BndR (L:Lin) (Y:Lay):Prop where
 ok:Y.ok L
 m:L.m<=6
 w:Y.w L<=25
 P:L.F0*L.P<=536870912
section
variable {L:Lin} {Y:Lay}
theorem BndR.P' (h:BndR L Y):L.P<=536870912:=by
 have h1:=L.F0_pos
 have h2:=L.P_pos
 have h3:1*L.P<=L.F0*L.P:=z11 h1 (by omega)
 have:=h.P
 omega
theorem BndR.tab (h:BndR L Y) {T:Nat->Nat->Int} {d:Int} {β:Nat->Nat} (ht:Tb L.m (Y.w L) (Y.M L) T d β):(0<d/\d<=536870912)/\∀i j,i<L.m->j<Y.w L->(T i j).natAbs<=536870912/\((T i j).natAbs:Int)<=L.P:=by
 obtain ⟨h1,h2⟩:=kM h.ok ht
 have h3:=h.P'
 refine ⟨⟨ht.dpos,by omega⟩,fun i j hi hj=>?_⟩
 have:=h2 i j hi hj
 rw[wC] at this
 omega
structure Wc (L:Lin) (Y:Lay) (wc:Nat->Int):Prop where
 small:∀j x,(x.natAbs:Int)<=L.P-> -536870912<=wc j*x/\wc j*x<=536870912
theorem LB (h:BndR L Y):Wc L Y (bm L):=⟨fun j x hx=>by
 have h1:=Bm (L:=L) j
 have h2:((bm L j*x).natAbs:Int)<=L.F0*L.P:=by
  rw[Int.natAbs_mul,Int.natCast_mul]
  exact Int.mul_le_mul (show ((bm L j).natAbs:Int)<=L.F0 by omega) hx (by omega) (by omega)
 have:=h.P
 omega⟩
def nq (N m j:Nat):Int:=if N<=j/\j<N+m then 1 else 0
theorem F4 (h:BndR L Y):Wc L Y (nq Y.N L.m):=⟨fun j x hx=>by
 have:=h.P'
 unfold nq
 split<;>omega⟩
theorem tY (h:BndR L Y) {wc:Nat->Int} (hw:Wc L Y wc) {S:Sx} (ht:Tb L.m (Y.w L) (Y.M L) S.T S.d S.β) {j:Nat} (hj:j<Y.w L):(zr L.m wc S j).natAbs<4294967296:=by
 obtain ⟨hd,hb⟩:=h.tab ht
 have h1:=kM h.ok ht
 have h2:=hw.small j S.d (by omega)
 have h3:=iv (n:=L.m) (f:=fun i=>wc (S.β i)*S.T i j) (B:=536870912) fun i hi=>hw.small _ _ (hb i j hi hj).2
 have h4:(L.m:Int)*536870912<=6*536870912:=z11 (by have:=h.m;omega) (by omega)
 unfold zr
 omega
abbrev t7 (L:Lin) (Y:Lay) (wc:Nat->Int) (S:Sx):=gy (L.m+1) (Y.w L) (mD L.m S.T (zr L.m wc S))
theorem Hc {S:Sx} {r c:Nat} (hp:0<S.T r c):(dP S r c).d=S.T r c/\∀i j,(dP S r c).T i j=if i=r then S.T r j else piv S.T S.d r c i j:=by
 have e:sg (S.T r c)=1:=by unfold sg;rw[if_neg (by omega)]
 constructor
 ·show sg (S.T r c)*S.T r c=_
  rw[e,Int.one_mul]
 ·intro i j
  show nA S.T S.d r c i j=_
  unfold nA
  rw[e,Int.one_mul]
theorem Bv (h:BndR L Y) {wc:Nat->Int} (hw:Wc L Y wc) {S:Sx} (ht:Tb L.m (Y.w L) (Y.M L) S.T S.d S.β) {x3:Int} {r c:Nat} (hr:r<L.m) (hc:c<Y.w L) (hp:0<S.T r c) :
  cn (t7 L Y wc S) (fF L.m S.β) S.d x3 (r:Int) (c:Int)=some (t7 L Y wc (dP S r c),fF L.m (dP S r c).β,(dP S r c).d,x3,()):=by
 obtain ⟨hd,hb⟩:=h.tab ht
 have hm:=h.m
 have hww:=h.w
 obtain ⟨e1,e2⟩:=Hc hp
 have ht':Tb L.m (Y.w L) (Y.M L) (dP S r c).T (dP S r c).d (dP S r c).β:=ht.step hr hc (by omega)
 obtain ⟨_,hb'⟩:=h.tab ht'
 have hz:=fun j (hj:j<Y.w L)=>tY h hw ht hj
 have hz':=fun j (hj:j<Y.w L)=>tY h hw ht' hj
 have hstep:=tI (m:=L.m) (w:=Y.w L) hp
 rw[zn (Q:=mD L.m (dP S r c).T (zr L.m wc (dP S r c))) (by omega) (by omega) (show r<L.m+1 by omega) (by rw[fg];exact hr) hc ⟨hd.1,by omega⟩ (fun i j hi hj=>?_) (fun j hj=>?_) (fun i j hi hne hj=>?_) (fun i j hi hne hj=>?_)]
 ·rw[xH hr,e1,cB hr]
  congr 2
  refine dL fun i j hi hj=>?_
  by_cases e:i=r
  ·rw[if_pos e,e,cB hr,cB hr,e2,if_pos rfl]
  ·rw[if_neg e]
 ·by_cases e:i=L.m
  ·rw[e,fu];exact hz j hj
  ·rw[cB (by omega)];have:=(hb i j (by omega) hj).1;omega
 ·rw[cB hr];have:=(hb r j hr hj).1;omega
 ·rw[cB hr,cB hr]
  by_cases e:i=L.m
  ·rw[e,fu,fu,fu,A2 ht hr hc hj hstep]
   grind
  ·rw[cB (by omega),cB (by omega),cB (by omega),e2,if_neg hne,ja ht hr (show i<L.m by omega) (Ne.symm hne) hc hj]
   grind
 ·by_cases e:i=L.m
  ·rw[e,fu];exact hz' j hj
  ·rw[cB (by omega)];have:=(hb' i j (by omega) hj).1;omega
abbrev StR:=(List Nat×List (Option (List Int)))×List Int×Int×Int×(List Nat×List (Option (List Int)))×List Int×Int×Int×PUnit
abbrev Kh (L:Lin) (Y:Lay) (wc:Nat->Int) (S:Sx):StR:=(t7 L Y wc S,fF L.m S.β,S.d,(Y.N:Int),([],[]),[],0,0,PUnit.unit)
def HY (L:Lin) (Y:Lay) (wc:Nat->Int) (K:Sx->Prop) (o:Option ((List Nat×List (Option (List Int)))×List Int×Int×Int×Bool×Unit)):Prop :=
 ∃S' ok,o=some (t7 L Y wc S',fF L.m S'.β,S'.d,(Y.N:Int),ok,PUnit.unit)/\Y.Val L S'/\K S' /\
  (ok=true->∀j,j<Y.N->0<=zr L.m wc S' j)/\(ok=false->∃q,q<Y.N/\zr L.m wc S' q<0/\∀i,i<L.m->S'.T i q<=0)
theorem EY {m R':Nat} {T:Nat->Nat->Int} {d:Int} {β:Nat->Nat} {c:Nat} {R:Type} {F:(Int×Int×PUnit->Option R)->Int×Int×PUnit->Option R} (Q:Option R->Prop) (hm:m<=1000)
  (h1:∀again (i:Nat) (b:Int),i<m->T i c<=0->F again (b,(i:Int),PUnit.unit)=again (b,((i+1:Nat):Int),PUnit.unit))
  (h2:∀again (i:Nat),i<m->¬ T i c<=0->F again ((-1:Int),(i:Int),PUnit.unit)=again ((i:Int),((i+1:Nat):Int),PUnit.unit))
  (h3:∀again (i r:Nat),i<m->r<m->¬ T i c<=0->0<T r c->F again ((r:Int),(i:Int),PUnit.unit)=again (if T i R'*T r c<T r R'*T i c\/(T i R'*T r c=T r R'*T i c/\β i<β r) then (i:Int) else (r:Int),((i+1:Nat):Int),PUnit.unit))
  (hend:∀again (b:Int),((b= -1/\∀i,i<m->T i c<=0)\/∃r:Nat,b=r/\Dn.Leaves m R' ⟨T,d,β⟩ c r)->Q (F again (b,(m:Int),PUnit.unit))):Q (lpK (Int×Int×PUnit) R F ((-1:Int),(0:Int),PUnit.unit)):=by
 refine FJ Q m (by omega) (fun i (x:Int×Int×PUnit)=>∃b,x=(b,(i:Int),PUnit.unit)/\((b= -1/\∀k,k<i->T k c<=0)\/∃r:Nat,b=r/\Dn.Leaves i R' ⟨T,d,β⟩ c r)) ⟨-1,rfl,.inl ⟨rfl,fun k hk=>by omega⟩⟩ ?_ ?_
 ·rintro again i _ hlt ⟨b,rfl,hI⟩
  have ext:∀r,Dn.Leaves i R' ⟨T,d,β⟩ c r->(0<T i c->T r R'*T i c<=T i R'*T r c/\(T r R'*T i c=T i R'*T r c->β r<=β i))->Dn.Leaves (i+1) R' ⟨T,d,β⟩ c r:=fun r h hn=>by
   refine ⟨by have:=h.lt;omega,h.pos,fun k hk hp=>?_,fun k hk hp he=>?_⟩
   ·by_cases e:k=i
    ·subst e;exact (hn hp).1
    ·exact h.le k (by omega) hp
   ·by_cases e:k=i
    ·subst e;exact (hn hp).2 he
    ·exact h.tie k (by omega) hp he
  by_cases hpos:T i c<=0
  ·refine ⟨_,⟨b,rfl,?_⟩,h1 again i b hlt hpos⟩
   rcases hI with ⟨e1,e2⟩ | ⟨r,e1,e2⟩
   ·refine .inl ⟨e1,fun k hk=>?_⟩
    by_cases e:k=i
    ·rw[e];exact hpos
    ·exact e2 k (by omega)
   ·exact .inr ⟨r,e1,ext r e2 fun h=>by omega⟩
  ·rcases hI with ⟨e1,e2⟩ | ⟨r,e1,e2⟩
   ·subst e1
    refine ⟨_,⟨_,rfl,.inr ⟨i,rfl,⟨by omega,show 0<T i c by omega,fun k hk hp=>?_,fun k hk hp _=>?_⟩⟩⟩,h2 again i hlt hpos⟩
    ·by_cases e:k=i
     ·subst e;exact Int.le_refl _
     ·have h3:=e2 k (by omega)
      have hp:0<T k c:=hp
      omega
    ·by_cases e:k=i
     ·subst e;exact Nat.le_refl _
     ·have h3:=e2 k (by omega)
      have hp:0<T k c:=hp
      omega
   ·subst e1
    have hpr:0<T r c:=e2.pos
    have hr:r<m:=by have:=e2.lt;omega
    refine ⟨_,⟨_,rfl,.inr ?_⟩,h3 again i r hlt hr hpos hpr⟩
    by_cases hq:T i R'*T r c<T r R'*T i c\/(T i R'*T r c=T r R'*T i c/\β i<β r)
    ·rw[if_pos hq]
     have hle:T i R'*T r c<=T r R'*T i c:=by rcases hq with h | h<;>omega
     have hpi:0<T i c:=by omega
     refine ⟨i,rfl,⟨by omega,hpi,fun k hk hp=>?_,fun k hk hp he=>?_⟩⟩
     ·have hp:0<T k c:=hp
      by_cases e:k=i
      ·subst e;exact Int.le_refl _
      ·exact oj hpi hpr hp hle (e2.le k (by omega) hp)
     ·have hp:0<T k c:=hp
      have he:T i R'*T k c=T k R'*T i c:=he
      by_cases e:k=i
      ·subst e;exact Nat.le_refl _
      ·obtain ⟨_,t2⟩:=Bh hpi hpr hp hle (e2.le k (by omega) hp) he
       have h3:β r<=β k:=e2.tie k (by omega) hp t2
       show β i<=β k
       rcases hq with h | h<;>omega
    ·rw[if_neg hq]
     have h3:=fun h=>hq (.inl h)
     refine ⟨r,rfl,ext r e2 fun hp=>⟨by omega,fun he=>?_⟩⟩
     have h4:=fun h=>hq (.inr ⟨he.symm,h⟩)
     omega
 ·rintro again _ ⟨b,rfl,hI⟩
  exact hend again b hI
theorem FM (h:BndR L Y) {wc:Nat->Int} (hw:Wc L Y wc) {K:Sx->Prop} (hK:∀S r c,K S->r<L.m->c<Y.N->K (dP S r c)) {S:Sx} (hv:Y.Val L S) (hk:K S) :
  HY L Y wc K (fQ (t7 L Y wc S) (fF L.m S.β) S.d (Y.N:Int)):=by
 have hm:=h.m
 have hww:=h.w
 have hN:Y.N<=Y.R L:=by unfold Lay.R;omega
 have hRw:Y.R L<Y.w L:=by unfold Lay.R Lay.w;omega
 have hpow:(Y.w L) ^ L.m<=1180591620717411303424:=Nat.le_trans (Nat.pow_le_pow_left (show _<=64 by omega) _) (Nat.le_trans (Nat.pow_le_pow_right (by omega) hm) (by decide))
 have hi:∀e0:Bool,(!e0||e0)=true:=fun e0=>by cases e0<;>rfl
 unfold fQ qy
 refine rc (γ:=Sx) (I:=fun (S:Sx) x=>x=Kh L Y wc S/\Y.Val L S/\K S) (Q:=HY L Y wc K) (μ:=fun S=>left L.m (Y.w L) Y.N (Y.R L) (Y.M L) wc S) ?_ (s:=S) ⟨rfl,hv,hk⟩ (Nat.lt_of_lt_of_le (AO (by unfold Lay.w;omega) S) hpow)
 rintro rec S _ ⟨rfl,hv,hk⟩
 obtain ⟨hd,hb⟩:=h.tab hv.tb
 have hlast:IntKind.wrap .i64 (((L.m+1:Nat):Int) - 1)=((L.m:Nat):Int):=by rw[aB (by omega) (by omega)];omega
 have hright:IntKind.wrap .i64 (((Y.w L:Nat):Int) - 1)=((Y.R L:Nat):Int):=by rw[aB (by omega) (by omega)];unfold Lay.w Lay.R;omega
 have hg:∀j,j<Y.N->(bO (Y.w L) (mD L.m S.T (zr L.m wc S) L.m)).getD j 0=zr L.m wc S j:=fun j hj=>by rw[aZ (by omega),fu]
 rcases nU Y.N (fun j=>decide (zr L.m wc S j<0)) with hnone | ⟨q,hq,hneg,hleast⟩
 ·refine pX (fun o=>HY L Y wc K o\/∃(s':Sx) (y:StR),(y=Kh L Y wc s'/\Y.Val L s'/\K s')/\left L.m (Y.w L) Y.N (Y.R L) (Y.M L) wc s'<left L.m (Y.w L) Y.N (Y.R L) (Y.M L) wc S/\o=rec y) Y.N (by omega) (fun j=>((j:Int),PUnit.unit)) rfl (fun again j hj=>?_) (fun again=>?_)
  ·have h0:=of_decide_eq_false (hnone j hj)
   have hjw:j<Y.w L:=by omega
   simp only[cP,hlast,z7 (show (j:Int)<Y.N by omega),ay,z9,z7 (show L.m<L.m+1 by omega),aH (show Nat.succ L.m<=L.m+1 by omega),cK (show L.m<L.m+1 by omega),dX,cd (show L.m<L.m+1 by omega),av,z7 hjw,aH (show Nat.succ j<=Y.w L from hjw),hg j hj,z7 (show zr L.m wc S j>=0 by omega),Bool.not_true,Bool.false_or,Bool.true_and,cT,ax (show j<=1000000 by omega)]
  ·left
   simp only[z8 (show ¬ (Y.N:Int)<Y.N by omega),Bool.not_false,Bool.true_or,Bool.true_and,cT,cF,decide_true]
   exact ⟨S,true,rfl,hv,hk,fun _ j hj=>by have:=of_decide_eq_false (hnone j hj);omega,fun e=>by cases e⟩
 ·have hneg:=z12 hneg
  have hqw:q<Y.w L:=by omega
  have hent:Enters L.m Y.N wc S q:=⟨hq,hneg,fun j hj=>by have:=of_decide_eq_false (hleast j hj);omega⟩
  refine pX (fun o=>HY L Y wc K o\/∃(s':Sx) (y:StR),(y=Kh L Y wc s'/\Y.Val L s'/\K s')/\left L.m (Y.w L) Y.N (Y.R L) (Y.M L) wc s'<left L.m (Y.w L) Y.N (Y.R L) (Y.M L) wc S/\o=rec y) q (by omega) (fun j=>((j:Int),PUnit.unit)) rfl (fun again j hj=>?_) (fun again=>?_)
  ·have h0:=of_decide_eq_false (hleast j hj)
   have hjw:j<Y.w L:=by omega
   simp only[cP,hlast,z7 (show (j:Int)<Y.N by omega),ay,z9,z7 (show L.m<L.m+1 by omega),aH (show Nat.succ L.m<=L.m+1 by omega),cK (show L.m<L.m+1 by omega),dX,cd (show L.m<L.m+1 by omega),av,z7 hjw,aH (show Nat.succ j<=Y.w L from hjw),hg j (by omega),z7 (show zr L.m wc S j>=0 by omega),Bool.not_true,Bool.false_or,Bool.true_and,cT,ax (show j<=1000000 by omega)]
  ·simp only[Kh,cP,hlast,z7 (show (q:Int)<Y.N by omega),ay,z9,z7 (show L.m<L.m+1 by omega),aH (show Nat.succ L.m<=L.m+1 by omega),cK (show L.m<L.m+1 by omega),dX,cd (show L.m<L.m+1 by omega),av,z7 hqw,aH (show Nat.succ q<=Y.w L from hqw),hg q hq,z8 (show ¬ zr L.m wc S q>=0 by omega),Bool.not_true,Bool.false_or,Bool.true_and,cT,cF,z8 (show ¬ (q:Int)=Y.N by omega),show inB (0:Int) (L.m+1)=true from po (by omega) (by omega),aH (show 1<=L.m+1 by omega),cK (show 0<L.m+1 by omega),i7 (show 0<L.m+1 by omega),cd (show 0<L.m+1 by omega),hright]
   refine EY (m:=L.m) (R':=Y.R L) (T:=S.T) (d:=S.d) (β:=S.β) (c:=q) (fun o=>HY L Y wc K o\/∃(s':Sx) (y:StR),(y=Kh L Y wc s'/\Y.Val L s'/\K s')/\left L.m (Y.w L) Y.N (Y.R L) (Y.M L) wc s'<left L.m (Y.w L) Y.N (Y.R L) (Y.M L) wc S/\o=rec y) (by omega) (fun again2 i b hi' hle=>?_) (fun again2 i hi' hle=>?_) (fun again2 i r hi' hr' hle hpr=>?_) (fun again2 b hres=>?_)
   ·simp only[z7 (show (i:Int)<L.m by omega),ay,z9,z7 (show i<L.m+1 by omega),aH (show Nat.succ i<=L.m+1 by omega),cK (show i<L.m+1 by omega),cd (show i<L.m+1 by omega),av,z7 hqw,aH (show Nat.succ q<=Y.w L from hqw),aZ hqw,cB hi',z7 hle,cT,ax (show i<=1000000 by omega)]
   ·simp only[z7 (show (i:Int)<L.m by omega),ay,z9,z7 (show i<L.m+1 by omega),aH (show Nat.succ i<=L.m+1 by omega),cK (show i<L.m+1 by omega),cd (show i<L.m+1 by omega),av,z7 hqw,aH (show Nat.succ q<=Y.w L from hqw),aZ hqw,cB hi',z8 hle,show decide ((-1:Int)<0)=true from rfl,cT,cF,ax (show i<=1000000 by omega)]
   ·have b1:=ta (x:=S.T i (Y.R L)) (y:=S.T r q) (by have:=(hb i _ hi' hRw).1;omega) (by have:=(hb r _ hr' hqw).1;omega)
    have b2:=ta (x:=S.T r (Y.R L)) (y:=S.T i q) (by have:=(hb r _ hr' hRw).1;omega) (by have:=(hb i _ hi' hqw).1;omega)
    simp only[z7 (show (i:Int)<L.m by omega),ay,z9,z7 (show i<L.m+1 by omega),z7 (show r<L.m+1 by omega),aH (show Nat.succ i<=L.m+1 by omega),aH (show Nat.succ r<=L.m+1 by omega),cK (show i<L.m+1 by omega),cK (show r<L.m+1 by omega),cd (show i<L.m+1 by omega),cd (show r<L.m+1 by omega),av,z7 hqw,z7 hRw,aH (show Nat.succ q<=Y.w L from hqw),aH (show Nat.succ (Y.R L)<=Y.w L from hRw),aZ hqw,aZ hRw,cB hi',cB hr',z8 hle,z8 (show ¬ (r:Int)<0 by omega),cT,cF,ax (show i<=1000000 by omega),fg,z7 hi',z7 hr',aH (show Nat.succ i<=L.m from hi'),aH (show Nat.succ r<=L.m from hr'),gN hi',gN hr',aB (x:=S.T i (Y.R L)*S.T r q) (by omega) (by omega),aB (x:=S.T r (Y.R L)*S.T i q) (by omega) (by omega),Bool.or_true,Bool.and_true]
    by_cases c1:S.T i (Y.R L)*S.T r q<S.T r (Y.R L)*S.T i q
    ·rw[if_pos (.inl c1),z7 c1]
     generalize decide (S.T i (Y.R L)*S.T r q=S.T r (Y.R L)*S.T i q)=bb
     generalize decide ((S.β i:Int)<S.β r)=b2
     cases bb<;>cases b2<;>rfl
    ·rw[z8 c1]
     by_cases c2:S.T i (Y.R L)*S.T r q=S.T r (Y.R L)*S.T i q
     ·rw[z7 c2]
      by_cases c3:S.β i<S.β r
      ·rw[if_pos (.inr ⟨c2,c3⟩),z7 (show (S.β i:Int)<S.β r by omega)]
       rfl
      ·rw[if_neg (by rintro (h | h)<;>omega),z8 (show ¬ (S.β i:Int)<S.β r by omega)]
       rfl
     ·rw[z8 c2,if_neg (by rintro (h | h)<;>omega)]
      generalize decide ((S.β i:Int)<S.β r)=b2
      cases b2<;>rfl
   ·simp only[z8 (show ¬ (L.m:Int)<L.m by omega),cF]
    rcases hres with ⟨e,hno⟩ | ⟨r,e,hlv⟩
    ·subst e
     left
     simp only[show decide ((-1:Int)<0)=true from rfl,cT]
     exact ⟨S,false,rfl,hv,hk,fun e=>(by cases e),fun _=>⟨q,hq,hneg,hno⟩⟩
    ·subst e
     right
     have hpr:0<S.T r q:=hlv.pos
     have hr:=hlv.lt
     have hs:=tI (m:=L.m) (w:=Y.w L) hpr
     simp only[z8 (show ¬ (r:Int)<0 by omega),cF]
     rw[Bv h hw hv.tb hr hqw hpr]
     exact ⟨dP S r q,_,⟨rfl,hv.stepAt hRw hqw (by omega) hlv hs,hK S r q hk hr hq⟩,uj (Lay.art h.ok).1 (Lay.art h.ok).2 hN hRw hv ⟨hent,hlv,hs⟩,rfl⟩
end
section
variable {L:Lin} {Y:Lay}
theorem JR {m w:Nat} {M:Nat->Nat->Int} {wc:Nat->Int} {S:Sx} (h:Tb m w M S.T S.d S.β) {r c j:Nat} (hr:r<m) (hc:c<w) (hj:j<w):S.d*zr m wc (dP S r c) j=sg (S.T r c)*(S.T r c*zr m wc S j - zr m wc S c*S.T r j):=by
 have h1:=A2 (wc:=wc) (S':=⟨fun i j=>if i=r then S.T r j else piv S.T S.d r c i j,S.T r c,upd S.β r c⟩) h hr hc hj ⟨fun _ _ _ _=>rfl,rfl,fun _ _=>rfl⟩
 have h2:zr m wc (dP S r c) j=sg (S.T r c)*zr m wc ⟨fun i j=>if i=r then S.T r j else piv S.T S.d r c i j,S.T r c,upd S.β r c⟩ j:=by
  unfold zr
  rw[Int.mul_sub,<-ga]
  have e:∀i,wc ((dP S r c).β i)*(dP S r c).T i j=sg (S.T r c)*(wc (upd S.β r c i)*if i=r then S.T r j else piv S.T S.d r c i j):=fun i=>by
   show wc (upd S.β r c i)*(sg (S.T r c)*if i=r then S.T r j else piv S.T S.d r c i j)=_
   grind
  rw[bg fun i _=>e i]
  show wc j*(sg (S.T r c)*S.T r c) - _=_
  grind
 rw[h2,<-h1]
 grind
def CB (T:Nat->Nat->Int) (r w:Nat):Nat->Nat->Int:=fun i j=>if i=r/\j<w then - T i j else T i j
theorem nS {T:Nat->Nat->Int} {r w j:Nat} (hj:j<w):CB T r w r j= - T r j:=if_pos ⟨rfl,hj⟩
theorem AI {T:Nat->Nat->Int} {r w i j:Nat} (h:i≠r):CB T r w i j=T i j:=if_neg fun e=>h e.1
theorem Ob (h:BndR L Y) {wc:Nat->Int} (hw:Wc L Y wc) {S:Sx} (ht:Tb L.m (Y.w L) (Y.M L) S.T S.d S.β) {x3:Int} {r c:Nat} (hr:r<L.m) (hc:c<Y.w L) (hp:S.T r c<0) :
  cn (gy (L.m+1) (Y.w L) (CB (mD L.m S.T (zr L.m wc S)) r (Y.w L))) (fF L.m S.β) S.d x3 (r:Int) (c:Int)=some (t7 L Y wc (dP S r c),fF L.m (dP S r c).β,(dP S r c).d,x3,()):=by
 obtain ⟨hd,hb⟩:=h.tab ht
 have hm:=h.m
 have hww:=h.w
 have es:sg (S.T r c)= -1:=by unfold sg;rw[if_pos hp]
 have e2:∀i j,(dP S r c).T i j= -1*(if i=r then S.T r j else piv S.T S.d r c i j):=fun i j=>by
  show sg (S.T r c)*(if i=r then S.T r j else piv S.T S.d r c i j)=_
  rw[es]
 have ed:(dP S r c).d= - S.T r c:=by
  show sg (S.T r c)*S.T r c=_
  rw[es];omega
 have ht':Tb L.m (Y.w L) (Y.M L) (dP S r c).T (dP S r c).d (dP S r c).β:=ht.step hr hc (by omega)
 obtain ⟨_,hb'⟩:=h.tab ht'
 have hz:=fun j (hj:j<Y.w L)=>tY h hw ht hj
 have hz':=fun j (hj:j<Y.w L)=>tY h hw ht' hj
 have hrm:r≠L.m:=by omega
 rw[zn (Q:=mD L.m (dP S r c).T (zr L.m wc (dP S r c))) (by omega) (by omega) (show r<L.m+1 by omega) (by rw[fg];exact hr) hc ⟨hd.1,by omega⟩ (fun i j hi hj=>?_) (fun j hj=>?_) (fun i j hi hne hj=>?_) (fun i j hi hne hj=>?_)]
 ·rw[xH hr,ed,nS hc,cB hr]
  congr 2
  refine dL fun i j hi hj=>?_
  by_cases e:i=r
  ·rw[if_pos e,e,nS hj,cB hr,cB hr,e2,if_pos rfl];omega
  ·rw[if_neg e]
 ·by_cases e:i=r
  ·rw[e,nS hj,cB hr];have:=(hb r j hr hj).1;omega
  ·rw[AI e]
   by_cases e:i=L.m
   ·rw[e,fu];exact hz j hj
   ·rw[cB (by omega)];have:=(hb i j (by omega) hj).1;omega
 ·rw[nS hj,cB hr];have:=(hb r j hr hj).1;omega
 ·rw[nS hc,nS hj,AI hne,AI hne,cB hr,cB hr]
  by_cases e:i=L.m
  ·rw[e,fu,fu,fu,JR ht hr hc hj,es]
   grind
  ·have:=ja ht hr (show i<L.m by omega) (Ne.symm hne) hc hj
   rw[cB (by omega),cB (by omega),cB (by omega),e2,if_neg hne]
   grind
 ·by_cases e:i=L.m
  ·rw[e,fu];exact hz' j hj
  ·rw[cB (by omega)];have:=(hb' i j (by omega) hj).1;omega
theorem Swp.next {i:Nat} {S:Sx} (h:Swp L Y i S) (hr:Y.N<=S.β i->∀j,j<Y.N->S.T i j=0):Swp L Y (i+1) S :=
 ⟨h.val,h.right,fun k hk hlt hb j hj=>by
  by_cases e:k=i
  ·subst e;exact hr hb j hj
  ·exact h.rows k hk (by omega) hb j hj⟩
abbrev StO:=Int×(List Nat×List (Option (List Int)))×List Int×Int×Int×PUnit
def TT (L:Lin) (Y:Lay) (wc:Nat->Int) (o:Option ((List Nat×List (Option (List Int)))×List Int×Int×Int×Unit)):Prop :=
 ∃S',o=some (t7 L Y wc S',fF L.m S'.β,S'.d,(Y.N:Int),PUnit.unit)/\Y.Val L S'/\AZ L Y S'
theorem MZ (h:BndR L Y) {wc:Nat->Int} (hw:Wc L Y wc) {S:Sx} (hS:Swp L Y 0 S):TT L Y wc (gg (t7 L Y wc S) (fF L.m S.β) S.d (Y.N:Int)):=by
 have hm:=h.m
 have hww:=h.w
 have hNw:Y.N<=Y.w L:=by unfold Lay.w;omega
 have hi:∀e0:Bool,(!e0||e0)=true:=fun e0=>by cases e0<;>rfl
 unfold gg qH
 refine FJ (TT L Y wc) L.m (by omega) (fun i (x:StO)=>∃S,x=((i:Int),t7 L Y wc S,fF L.m S.β,S.d,(Y.N:Int),PUnit.unit)/\Swp L Y i S) ⟨S,rfl,hS⟩ ?_ ?_
 ·rintro again i _ hlt ⟨S,rfl,hS⟩
  have him:i<L.m+1:=by omega
  obtain ⟨hd,hb⟩:=h.tab hS.val.tb
  have fin:∀{o},(∃S',Swp L Y (i+1) S'/\o=again (((i+1:Nat):Int),t7 L Y wc S',fF L.m S'.β,S'.d,(Y.N:Int),PUnit.unit))->∃(y:StO),(∃S,y=(((i+1:Nat):Int),t7 L Y wc S,fF L.m S.β,S.d,(Y.N:Int),PUnit.unit)/\Swp L Y (i+1) S)/\o=again y:=by
   rintro o ⟨S',h1,h2⟩
   exact ⟨_,⟨S',rfl,h1⟩,h2⟩
  simp only[fg,z7 (show (i:Int)<L.m by omega),ay,z9,z7 hlt,aH (show Nat.succ i<=L.m from hlt),gN hlt,cT,cP,z7 him,aH (show Nat.succ i<=L.m+1 from him),cK him,dX,cd him,av,ax (show i<=1000000 by omega)]
  by_cases hbas:S.β i<Y.N
  ·rw[z7 (show (S.β i:Int)<Y.N by omega)]
   simp only[cT]
   exact fin ⟨S,hS.next fun h=>by omega,rfl⟩
  ·rw[z8 (show ¬ (S.β i:Int)<Y.N by omega)]
   simp only[cF]
   have hg:∀j,j<Y.N->(bO (Y.w L) (mD L.m S.T (zr L.m wc S) i)).getD j 0=S.T i j:=fun j hj=>by rw[aZ (by omega),cB hlt]
   rcases nU Y.N (fun j=>decide (S.T i j≠0)) with hnone | ⟨q,hq,hne,hleast⟩
   ·refine fin ⟨S,hS.next fun _ j hj=>by simpa using of_decide_eq_false (hnone j hj),?_⟩
    refine bf Y.N (by omega) (fun j=>((j:Int),PUnit.unit)) _ rfl (fun again2 j hj=>?_) (fun again2=>?_)
    ·have h0:S.T i j=0:=by simpa using of_decide_eq_false (hnone j hj)
     have hjw:j<Y.w L:=by omega
     simp only[z7 (show (j:Int)<Y.N by omega),ay,z7 hjw,z9,aH (show Nat.succ j<=Y.w L from hjw),hg j hj,z7 h0,Bool.not_true,Bool.false_or,Bool.true_and,cT,ax (show j<=1000000 by omega)]
    ·simp only[z8 (show ¬ (Y.N:Int)<Y.N by omega),Bool.not_false,Bool.true_or,Bool.true_and,cT,cF,decide_true]
   ·have hne:=z12 hne
    have hqw:q<Y.w L:=by omega
    have hst:=hS.step hlt hq (by omega) hne
    have hbi:(dP S i q).β i=q:=by
     show upd S.β i q i=_
     unfold upd
     rw[if_pos rfl]
    refine fin ⟨dP S i q,hst.next fun h=>by omega,?_⟩
    refine bf q (by omega) (fun j=>((j:Int),PUnit.unit)) _ rfl (fun again2 j hj=>?_) (fun again2=>?_)
    ·have h0:S.T i j=0:=by simpa using of_decide_eq_false (hleast j hj)
     have hjw:j<Y.w L:=by omega
     simp only[z7 (show (j:Int)<Y.N by omega),ay,z7 hjw,z9,aH (show Nat.succ j<=Y.w L from hjw),hg j (by omega),z7 h0,Bool.not_true,Bool.false_or,Bool.true_and,cT,ax (show j<=1000000 by omega)]
    ·simp only[z7 (show (q:Int)<Y.N by omega),ay,z7 hqw,z9,aH (show Nat.succ q<=Y.w L from hqw),hg q hq,z8 hne,Bool.not_true,Bool.false_or,Bool.true_and,cT,cF,z8 (show ¬ (q:Int)=Y.N by omega)]
     by_cases hneg:S.T i q<0
     ·rw[z7 hneg]
      simp only[cT]
      refine bf (Y.w L) (by omega) (fun l=>((l:Int),gy (L.m+1) (Y.w L) (CB (mD L.m S.T (zr L.m wc S)) i l),PUnit.unit)) _ ?_ (fun again3 l hl=>?_) (fun again3=>?_)
      ·unfold t7
       rw[dL (T:=mD L.m S.T (zr L.m wc S)) (T':=CB (mD L.m S.T (zr L.m wc S)) i 0) fun k l _ _=>(if_neg fun h=>by omega).symm];rfl
      ·have hbl:=(hb i l hlt hl).1
       have e0:CB (mD L.m S.T (zr L.m wc S)) i l i l=S.T i l:=by
        unfold CB
        rw[if_neg (by omega),cB hlt]
       simp only[cP,cK him,dX,i7 him,cd him,av,aZ hl,ay,z9,z7 him,z7 hl,z7 (show (l:Int)<Y.w L by omega),aH (show Nat.succ i<=L.m+1 from him),aH (show Nat.succ l<=Y.w L from hl),cT,e0,aB (show -9223372036854775808<=0 - S.T i l by omega) (by omega),ax (show l<=1000000 by omega)]
       congr 3
       refine tL him hl fun k l' _ _=>?_
       unfold CB
       by_cases c0:k=i/\l'=l
       ·rw[if_pos c0,if_pos (by omega),c0.1,c0.2,cB hlt];omega
       ·rw[if_neg c0]
        by_cases c1:k=i/\l'<l
        ·rw[if_pos c1,if_pos (by omega)]
        ·rw[if_neg c1,if_neg (by omega)]
      ·simp only[cP,cK him,dX,i7 him,cd him,av,ay,z9,z7 him,aH (show Nat.succ i<=L.m+1 from him),cT,z8 (show ¬ (Y.w L:Int)<Y.w L by omega),cF]
       rw[Ob h hw hS.val.tb hlt hqw hneg]
       rfl
     ·rw[z8 hneg]
      simp only[cF]
      rw[Bv h hw hS.val.tb hlt hqw (by omega)]
      rfl
 ·rintro again _ ⟨S,rfl,hS⟩
  simp only[fg,z8 (show ¬ (L.m:Int)<L.m by omega),cF]
  exact ⟨S,rfl,hS.val,fun k hk hN=>⟨hS.rows k hk hk hN,hS.right k hk hN⟩⟩
end
theorem kn {w:Nat} {g z:Nat->Int} {R:Type} {F:(Int×List Int×PUnit->Option R)->Int×List Int×PUnit->Option R} {res:Option R} (hw:w<=1000)
  (hb:∀k,k<w-> -4611686018427387904<=z k - g k/\z k - g k<=4611686018427387904)
  (hF:∀again (k:Nat) (h:Nat->Int),k<w->F again ((k:Int),bO w h,PUnit.unit)=again (((k+1:Nat):Int),(bO w h).set k (IntKind.wrap .i64 (h k - g k)),PUnit.unit))
  (hend:∀again,F again ((w:Int),bO w (fun k=>z k - g k),PUnit.unit)=res):lpK (Int×List Int×PUnit) R F ((0:Int),bO w z,PUnit.unit)=res:=by
 refine bf w (by omega) (fun k=>((k:Int),bO w (fun j=>if j<k then z j - g j else z j),PUnit.unit)) _ ?_ (fun again k hk=>?_) (fun again=>?_)
 ·rw[bB (f:=fun j=>if j<0 then z j - g j else z j) (g:=z) fun j _=>if_neg (by omega)];rfl
 ·have:=hb k hk
  rw[hF again k _ hk]
  simp only[if_neg (Nat.lt_irrefl k)]
  rw[aB (by omega) (by omega),eP hk]
  congr 3
  refine bB fun j _=>?_
  by_cases c:j=k
  ·rw[if_pos c,if_pos (by omega),c]
  ·rw[if_neg c]
   by_cases c2:j<k
   ·rw[if_pos c2,if_pos (by omega)]
   ·rw[if_neg c2,if_neg (by omega)]
 ·rw[bB (f:=fun j=>if j<w then z j - g j else z j) (g:=fun k=>z k - g k) fun j hj=>if_pos hj]
  exact hend again
theorem w7 {w:Nat} {f:Nat->Int} {R:Type} {F:(Int×List Int×PUnit->Option R)->Int×List Int×PUnit->Option R} {res:Option R} (hw:w<=1000)
  (hb:∀k,k<w-> -4611686018427387904<=f k/\f k<=4611686018427387904)
  (hF:∀again (k:Nat) (h:Nat->Int),k<w->F again ((k:Int),bO w h,PUnit.unit)=again (((k+1:Nat):Int),(bO w h).set k (IntKind.wrap .i64 (0 - h k)),PUnit.unit))
  (hend:∀again,F again ((w:Int),bO w (fun k=> -1*f k),PUnit.unit)=res):lpK (Int×List Int×PUnit) R F ((0:Int),bO w f,PUnit.unit)=res:=by
 refine bf w (by omega) (fun k=>((k:Int),bO w (fun j=>if j<k then -1*f j else f j),PUnit.unit)) _ ?_ (fun again k hk=>?_) (fun again=>?_)
 ·rw[bB (f:=fun j=>if j<0 then -1*f j else f j) (g:=f) fun j _=>if_neg (by omega)];rfl
 ·have:=hb k hk
  rw[hF again k _ hk]
  simp only[if_neg (Nat.lt_irrefl k)]
  rw[aB (by omega) (by omega),eP hk]
  congr 3
  refine bB fun j _=>?_
  by_cases c:j=k
  ·rw[if_pos c,if_pos (by omega),c];omega
  ·rw[if_neg c]
   by_cases c2:j<k
   ·rw[if_pos c2,if_pos (by omega)]
   ·rw[if_neg c2,if_neg (by omega)]
 ·rw[bB (f:=fun j=>if j<w then -1*f j else f j) (g:=fun k=> -1*f k) fun j hj=>if_pos hj]
  exact hend again
theorem LJ {x:Int} (h: -1073741824<=x/\x<=1073741824): -4611686018427387904<=x/\x<=4611686018427387904:=by omega
theorem EH {x z:Int} (h: -1073741824<=x/\x<=1073741824) (h2: -8589934592<=z/\z<=8589934592): -4611686018427387904<=z - x/\z - x<=4611686018427387904:=by omega
theorem EL {x z:Int} (h: -1073741824<=x/\x<=1073741824) (h2: -8589934592<=z/\z<=8589934592): -4611686018427387904<=z - -1*x/\z - -1*x<=4611686018427387904:=by omega
section
variable {p:Pg}
def oq (p:Pg) (i k:Nat):Int:=if k=(bD p).R (aj p) then (aj p).b i else if (aj p).kd i≠3/\k=(bD p).sl i then (if (aj p).kd i=1 then 1 else -1) else (p.2.getD i rw0).1.getD k 0
theorem Dx (hv:ValidP p) {i k:Nat} (hi:i<p.2.length) (hk:k<(bD p).w (aj p)):(bD p).M (aj p) i k=if k=(bD p).N+i then 1 else (bD p).σ i*oq p i k:=by
 have hr:p.2.getD i rw0 ∈ p.2:=by rw[bR hi];exact List.getElem_mem _
 have hl:=hv.len _ hr
 have hok:=ua hv
 have hNn:(aj p).n<=(bD p).N:=hok.n
 have hRe:(bD p).R (aj p)=(bD p).N+p.2.length:=rfl
 have hme:(aj p).m=p.2.length:=rfl
 have hk:k<(bD p).N+p.2.length+1:=hk
 unfold Lay.M oq
 rw[hRe,hme]
 by_cases c1:k<(aj p).n
 ·rw[if_pos c1,if_neg (by omega),if_neg (by omega),if_neg]
  ·rfl
  ·rintro ⟨e1,e2⟩
   have:=(hok.sl i hi e1).1
   omega
 ·rw[if_neg c1]
  by_cases c2:k<(bD p).N
  ·rw[if_pos c2]
   have n1:¬ k=(bD p).N+i:=by omega
   have n2:¬ k=(bD p).N+p.2.length:=by omega
   by_cases c3:(aj p).kd i≠3/\k=(bD p).sl i
   ·rw[if_pos c3,if_neg n1,if_neg n2,if_pos c3]
   ·rw[if_neg c3,if_neg n1,if_neg n2,if_neg c3,List.getD_eq_getElem?_getD,List.getElem?_eq_none (by rw[hl];exact Nat.not_lt.1 c1)]
    simp
  ·rw[if_neg c2]
   by_cases c3:k<(bD p).N+p.2.length
   ·rw[if_pos c3]
    by_cases c4:k=(bD p).N+i
    ·rw[if_pos c4,if_pos c4]
    ·rw[if_neg c4,if_neg c4,if_neg (by omega),if_neg]
     ·rw[List.getD_eq_getElem?_getD,List.getElem?_eq_none (by rw[hl];exact Nat.not_lt.1 c1)]
      simp
     ·rintro ⟨e1,e2⟩
      have:=(hok.sl i hi e1).2
      omega
   ·rw[if_neg c3,if_neg (by omega),if_pos (by omega)]
theorem wo (hv:ValidP p) {i k:Nat} (hi:i<p.2.length): -1073741824<=oq p i k/\oq p i k<=1073741824:=by
 have hr:p.2.getD i rw0 ∈ p.2:=by rw[bR hi];exact List.getElem_mem _
 have hR:=hv.right _ hr
 unfold oq
 split
 ·exact z12 hR
 ·split
  ·split<;>omega
  ·have:=rP.1 (l7 (hv.coefs _ hr) k)
   omega
theorem Vv (i:Nat):(bD p).σ i=1\/(bD p).σ i= -1:=by
 show (if (p.2.getD i rw0).2.2<0 then (-1:Int) else 1)=1\/(if (p.2.getD i rw0).2.2<0 then (-1:Int) else 1)= -1
 split<;>omega
def mI (p:Pg) (i k:Nat):Int:= - sz i fun r=>(bD p).σ r*oq p r k
theorem BK (hv:ValidP p) {i k:Nat} (hi:i<=p.2.length): -8589934592<=mI p i k/\mI p i k<=8589934592:=by
 have h1:=iv (n:=i) (f:=fun r=>(bD p).σ r*oq p r k) (B:=1073741824) fun r hr=>by
  have:=wo hv (i:=r) (k:=k) (by omega)
  rcases Vv (p:=p) r with e | e<;>rw[e]<;>omega
 have h2:=hv.rows
 have h3:(i:Int)*1073741824<=6*1073741824:=z11 (by omega) (by omega)
 unfold mI
 omega
theorem LX (hv:ValidP p) {k:Nat} (hk:k<(bD p).w (aj p)):mI p p.2.length k=zr (aj p).m (nq (bD p).N (aj p).m) ⟨(bD p).M (aj p),1,fun i=>(bD p).N+i⟩ k:=by
 have hok:=ua hv
 have hme:(aj p).m=p.2.length:=rfl
 unfold zr mI
 rw[hme]
 have e1:(sz p.2.length fun i=>nq (bD p).N p.2.length ((bD p).N+i)*(bD p).M (aj p) i k)=sz p.2.length fun i=>(bD p).M (aj p) i k:=bg fun i hi=>by
  unfold nq
  rw[if_pos (by omega),Int.one_mul]
 show _=nq (bD p).N p.2.length k*1 - sz p.2.length fun i=>nq (bD p).N p.2.length ((bD p).N+i)*(bD p).M (aj p) i k
 rw[e1]
 by_cases c:(bD p).N<=k/\k<(bD p).N+p.2.length
 ·obtain ⟨i,hi,e⟩:∃i,i<p.2.length/\k=(bD p).N+i:=⟨k - (bD p).N,by omega,by omega⟩
  have hk0:∀r,r<p.2.length->r≠i->(bD p).σ r*oq p r k=0/\(bD p).M (aj p) r k=0:=fun r hr hne=>by
   have h1:=Dx hv hr hk
   have h2:=Lay.M_a hok (k:=r) (i:=i) hi
   rw[<-e,if_neg hne] at h2
   rw[if_neg (by omega),h2] at h1
   exact ⟨h1.symm,h2⟩
  have hi0:(bD p).σ i*oq p i k=0:=by
   have hr:p.2.getD i rw0 ∈ p.2:=by rw[bR hi];exact List.getElem_mem _
   have hl:=hv.len _ hr
   have hRe:(bD p).R (aj p)=(bD p).N+p.2.length:=rfl
   have hNn:p.1.length<=(bD p).N:=hok.n
   unfold oq
   rw[hRe,if_neg (by omega),if_neg,List.getD_eq_getElem?_getD,List.getElem?_eq_none (by omega)]
   ·simp
   ·rintro ⟨e1,e2⟩
    have:=(hok.sl i hi e1).2
    omega
  have hM:=Lay.M_a hok (k:=i) (i:=i) hi
  rw[<-e,if_pos rfl] at hM
  rw[fW fun r hr=>by
   by_cases e:r=i
   ·rw[e];exact hi0
   ·exact (hk0 r hr e).1,fb hi fun r hr hne=>(hk0 r hr hne).2,hM]
  unfold nq
  rw[if_pos c]
  omega
 ·have e2:(sz p.2.length fun i=>(bD p).M (aj p) i k)=sz p.2.length fun r=>(bD p).σ r*oq p r k:=bg fun r hr=>by rw[Dx hv hr hk,if_neg (by omega)]
  rw[e2]
  unfold nq
  rw[if_neg c]
  omega
theorem HX (hv:ValidP p):eM p=some (t7 (aj p) (bD p) (nq (bD p).N (aj p).m) ⟨(bD p).M (aj p),1,fun i=>(bD p).N+i⟩,fF (aj p).m (fun i=>(bD p).N+i),1,((bD p).N:Int),()):=by
 have hm:=hv.rows
 have hn:=hv.cost
 have hok:=ua hv
 obtain ⟨w,hw⟩:∃w,w=(bD p).w (aj p):=⟨_,rfl⟩
 obtain ⟨Rr,hRr⟩:∃R,R=(bD p).R (aj p):=⟨_,rfl⟩
 obtain ⟨N,hN⟩:∃N,N=(bD p).N:=⟨_,rfl⟩
 have hNv:N=p.1.length+p.2.length:=hN
 have hRv:Rr=p.1.length+2*p.2.length:=by rw[hRr];show p.1.length+p.2.length+p.2.length=_;omega
 have hwv:w=Rr+1:=by rw[hw,hRr]
 have e3:IntKind.wrap .i64 ((p.1.length:Int)+(p.2.length:Int))=(N:Int):=by rw[aB (by omega) (by omega)];omega
 have e4:IntKind.wrap .i64 ((p.1.length:Int)+IntKind.wrap .i64 (2*(p.2.length:Int)))=(Rr:Int):=by rw[aB (x:=2*(p.2.length:Int)) (by omega) (by omega),aB (by omega) (by omega)];omega
 have hRw:Rr<w:=by omega
 unfold eM nh
 simp only[e3,e4,ax (show Rr<=1000000 by omega),<-hwv,z9,z7 (show (0:Int)<=(w:Nat) by omega),dQ (show w*8<=140737488355328 by omega),Bool.and_self,cT,zK]
 refine bf p.2.length (by omega) (fun i=>((i:Int),(List.range i,dn i w ((bD p).M (aj p))),fF i (fun k=>N+k),(1:Int),(N:Int),bO w (mI p i),PUnit.unit)) _ ?_ (fun again i hi=>?_) (fun again=>?_)
 ·rw[bB (f:=mI p 0) (g:=fun _=>0) fun k _=>by simp[mI,sz]]
  rfl
 ·have hr:p.2.getD i rw0 ∈ p.2:=by rw[bR hi];exact List.getElem_mem _
  have hl:=hv.len _ hr
  have hkd:=hv.kind _ hr
  have hNi:N+i<w:=by omega
  have hsl:p.1.length+i<w:=by omega
  have h9:IntKind.wrap .i64 ((N:Int)+(i:Int))=((N+i:Nat):Int):=by rw[aB (by omega) (by omega)];rfl
  have h11:IntKind.wrap .i64 ((p.1.length:Int)+(i:Int))=((p.1.length+i:Nat):Int):=by rw[aB (by omega) (by omega)];rfl
  simp only[z7 (show (i:Int)<p.2.length by omega),ay,z9,z7 hi,cT,qS,h9,h11,List.length_range,jD,dQ (show (i+1)*24<=140737488355328 by omega),fg,dQ (show (i+1)*8<=140737488355328 by omega),ax (show i<=1000000 by omega)]
  refine bf (p.2.getD i rw0).1.length (by omega) (fun j=>((j:Int),bO w (fun k=>if k<j then (p.2.getD i rw0).1.getD k 0 else 0),PUnit.unit)) _ ?_ (fun again2 j hj=>?_) (fun again2=>?_)
  ·rw[bB (f:=fun k=>if k<0 then (p.2.getD i rw0).1.getD k 0 else 0) (g:=fun _=>0) fun k _=>if_neg (by omega)];rfl
  ·have hjw:j<w:=by omega
   simp only[z7 (show (j:Int)<(p.2.getD i rw0).1.length by omega),ay,z9,z7 hj,av,z7 hjw,aH (show Nat.succ j<=w from hjw),cT,eP hjw,ax (show j<=1000000 by omega)]
   congr 3
   refine bB fun k _=>?_
   by_cases c:k=j
   ·rw[if_pos c,if_pos (by omega),c]
   ·rw[if_neg c]
    by_cases c2:k<j
    ·rw[if_pos c2,if_pos (by omega)]
    ·rw[if_neg c2,if_neg (by omega)]
  ·simp only[z8 (show ¬ ((p.2.getD i rw0).1.length:Int)<(p.2.getD i rw0).1.length by omega),cF]
   rw[bB (f:=fun k=>if k<(p.2.getD i rw0).1.length then (p.2.getD i rw0).1.getD k 0 else 0) (g:=fun k=>(p.2.getD i rw0).1.getD k 0) fun k _=>by
    by_cases c:k<(p.2.getD i rw0).1.length
    ·rw[if_pos c]
    ·rw[if_neg c,List.getD_eq_getElem?_getD,List.getElem?_eq_none (by omega)]
     rfl]
   simp only[av,z7 hsl,aH (show Nat.succ (p.1.length+i)<=w from hsl),z7 hRw,aH (show Nat.succ Rr<=w from hRw),cT,List.length_set]
   have fin:∀(σ:Int) (f:Nat->Int),σ=(bD p).σ i->(∀k,k<w->f k=oq p i k) ->
     again (((i+1:Nat):Int),(List.range i++[i+0],dn i w ((bD p).M (aj p))++[some ((bO w fun k=>σ*f k).set (N+i) 1)]),fF i (fun k=>N+k)++[((N+i:Nat):Int)],(1:Int),(N:Int),bO w (fun k=>mI p i k - σ*f k),PUnit.unit) =
     again (((i+1:Nat):Int),(List.range (i+1),dn (i+1) w ((bD p).M (aj p))),fF (i+1) (fun k=>N+k),(1:Int),(N:Int),bO w (mI p (i+1)),PUnit.unit):=fun σ f hσ hf=>by
    rw[eP hNi,show List.range i++[i+0]=List.range (i+1) from by rw[Nat.add_zero,<-List.range_succ],<-sD,show (fF i fun k=>N+k)++[((N+i:Nat):Int)]=fF (i+1) (fun k=>N+k) from kj (f:=fun k=>((N+k:Nat):Int))]
    rw[bB (f:=fun k=>if k=N+i then 1 else σ*f k) (g:=(bD p).M (aj p) i) fun k hk=>by rw[Dx hv hi (by rw[<-hw];exact hk),<-hN,<-hσ,hf k hk]]
    rw[bB (f:=fun k=>mI p i k - σ*f k) (g:=mI p (i+1)) fun k hk=>by
     unfold mI
     simp only[sz]
     rw[hf k hk,hσ]
     omega]
   have tail:∀{R:Type} (f:Nat->Int),(∀k,k<w->f k=oq p i k)->∀k,k<w-> -1073741824<=f k/\f k<=1073741824:=fun f hf k hk=>by rw[hf k hk];exact wo hv hi
   have hbl:=fun k=>BK hv (i:=i) (k:=k) (by omega)
   by_cases k1:(p.2.getD i rw0).2.1=1
   ·have hf:∀k,k<w->(if k=Rr then (p.2.getD i rw0).2.2 else if k=p.1.length+i then 1 else (p.2.getD i rw0).1.getD k 0)=oq p i k:=fun k _=>by
     unfold oq
     rw[<-hRr]
     by_cases c:k=Rr
     ·rw[if_pos c,if_pos c];rfl
     ·rw[if_neg c,if_neg c]
      by_cases c2:k=p.1.length+i
      ·rw[if_pos c2,if_pos ⟨show (p.2.getD i rw0).2.1≠3 by omega,c2⟩,if_pos (show (aj p).kd i=1 from k1)]
      ·rw[if_neg c2,if_neg fun h=>c2 h.2]
    have hb:=tail (R:=Unit) _ hf
    rw[z7 k1,z8 (show ¬ (p.2.getD i rw0).2.1=2 by omega)]
    simp only[cT,cF,eP hsl,eP hRw]
    by_cases hneg:(p.2.getD i rw0).2.2<0
    ·have hσ:(-1:Int)=(bD p).σ i:=(if_pos hneg).symm
     rw[z7 hneg]
     simp only[cT]
     refine w7 (by omega) (fun k hk=>LJ (hb k hk)) (fun again3 k h hk=>?_) (fun again3=>?_)
     ·simp only[av,z7 (show (k:Int)<w by omega),ay,z9,z7 hk,aH (show Nat.succ k<=w from hk),cT,aZ hk,ax (show k<=1000000 by omega)]
     ·simp only[av,z8 (show ¬ (w:Int)<w by omega),cF]
      refine kn (by omega) (fun k hk=>EL (hb k hk) (hbl k)) (fun again4 k h hk=>?_) (fun again4=>?_)
      ·simp only[av,z7 (show (k:Int)<w by omega),ay,z9,z7 hk,aH (show Nat.succ k<=w from hk),cT,aZ hk,ax (show k<=1000000 by omega)]
      ·simp only[av,z8 (show ¬ (w:Int)<w by omega),cF,z7 hNi,aH (show Nat.succ (N+i)<=w from hNi),cT]
       exact fin (-1) _ hσ hf
    ·have hσ:(1:Int)=(bD p).σ i:=(if_neg hneg).symm
     rw[z8 hneg]
     simp only[cF]
     refine kn (by omega) (fun k hk=>EH (hb k hk) (hbl k)) (fun again4 k h hk=>?_) (fun again4=>?_)
     ·simp only[av,z7 (show (k:Int)<w by omega),ay,z9,z7 hk,aH (show Nat.succ k<=w from hk),cT,aZ hk,ax (show k<=1000000 by omega)]
     ·simp only[av,z8 (show ¬ (w:Int)<w by omega),cF,z7 hNi,aH (show Nat.succ (N+i)<=w from hNi),cT]
      have:=fin 1 _ hσ hf
      simp only[Int.one_mul] at this
      exact this
   ·by_cases k2:(p.2.getD i rw0).2.1=2
    ·have hf:∀k,k<w->(if k=Rr then (p.2.getD i rw0).2.2 else if k=p.1.length+i then -1 else (p.2.getD i rw0).1.getD k 0)=oq p i k:=fun k _=>by
      unfold oq
      rw[<-hRr]
      by_cases c:k=Rr
      ·rw[if_pos c,if_pos c];rfl
      ·rw[if_neg c,if_neg c]
       by_cases c2:k=p.1.length+i
       ·rw[if_pos c2,if_pos ⟨show (p.2.getD i rw0).2.1≠3 by omega,c2⟩,if_neg (show ¬ (aj p).kd i=1 from k1)]
       ·rw[if_neg c2,if_neg fun h=>c2 h.2]
     have hb:=tail (R:=Unit) _ hf
     rw[z8 k1,z7 k2]
     simp only[cT,cF,eP hsl,eP hRw]
     by_cases hneg:(p.2.getD i rw0).2.2<0
     ·have hσ:(-1:Int)=(bD p).σ i:=(if_pos hneg).symm
      rw[z7 hneg]
      simp only[cT]
      refine w7 (by omega) (fun k hk=>LJ (hb k hk)) (fun again3 k h hk=>?_) (fun again3=>?_)
      ·simp only[av,z7 (show (k:Int)<w by omega),ay,z9,z7 hk,aH (show Nat.succ k<=w from hk),cT,aZ hk,ax (show k<=1000000 by omega)]
      ·simp only[av,z8 (show ¬ (w:Int)<w by omega),cF]
       refine kn (by omega) (fun k hk=>EL (hb k hk) (hbl k)) (fun again4 k h hk=>?_) (fun again4=>?_)
       ·simp only[av,z7 (show (k:Int)<w by omega),ay,z9,z7 hk,aH (show Nat.succ k<=w from hk),cT,aZ hk,ax (show k<=1000000 by omega)]
       ·simp only[av,z8 (show ¬ (w:Int)<w by omega),cF,z7 hNi,aH (show Nat.succ (N+i)<=w from hNi),cT]
        exact fin (-1) _ hσ hf
     ·have hσ:(1:Int)=(bD p).σ i:=(if_neg hneg).symm
      rw[z8 hneg]
      simp only[cF]
      refine kn (by omega) (fun k hk=>EH (hb k hk) (hbl k)) (fun again4 k h hk=>?_) (fun again4=>?_)
      ·simp only[av,z7 (show (k:Int)<w by omega),ay,z9,z7 hk,aH (show Nat.succ k<=w from hk),cT,aZ hk,ax (show k<=1000000 by omega)]
      ·simp only[av,z8 (show ¬ (w:Int)<w by omega),cF,z7 hNi,aH (show Nat.succ (N+i)<=w from hNi),cT]
       have:=fin 1 _ hσ hf
       simp only[Int.one_mul] at this
       exact this
    ·have hf:∀k,k<w->(if k=Rr then (p.2.getD i rw0).2.2 else (p.2.getD i rw0).1.getD k 0)=oq p i k:=fun k _=>by
      unfold oq
      rw[<-hRr]
      by_cases c:k=Rr
      ·rw[if_pos c,if_pos c];rfl
      ·rw[if_neg c,if_neg c,if_neg]
       rintro ⟨e,_⟩
       have e:(p.2.getD i rw0).2.1≠3:=e
       omega
     have hb:=tail (R:=Unit) _ hf
     rw[z8 k1,z8 k2]
     simp only[cF,eP hRw]
     by_cases hneg:(p.2.getD i rw0).2.2<0
     ·have hσ:(-1:Int)=(bD p).σ i:=(if_pos hneg).symm
      rw[z7 hneg]
      simp only[cT]
      refine w7 (by omega) (fun k hk=>LJ (hb k hk)) (fun again3 k h hk=>?_) (fun again3=>?_)
      ·simp only[av,z7 (show (k:Int)<w by omega),ay,z9,z7 hk,aH (show Nat.succ k<=w from hk),cT,aZ hk,ax (show k<=1000000 by omega)]
      ·simp only[av,z8 (show ¬ (w:Int)<w by omega),cF]
       refine kn (by omega) (fun k hk=>EL (hb k hk) (hbl k)) (fun again4 k h hk=>?_) (fun again4=>?_)
       ·simp only[av,z7 (show (k:Int)<w by omega),ay,z9,z7 hk,aH (show Nat.succ k<=w from hk),cT,aZ hk,ax (show k<=1000000 by omega)]
       ·simp only[av,z8 (show ¬ (w:Int)<w by omega),cF,z7 hNi,aH (show Nat.succ (N+i)<=w from hNi),cT]
        exact fin (-1) _ hσ hf
     ·have hσ:(1:Int)=(bD p).σ i:=(if_neg hneg).symm
      rw[z8 hneg]
      simp only[cF]
      refine kn (by omega) (fun k hk=>EH (hb k hk) (hbl k)) (fun again4 k h hk=>?_) (fun again4=>?_)
      ·simp only[av,z7 (show (k:Int)<w by omega),ay,z9,z7 hk,aH (show Nat.succ k<=w from hk),cT,aZ hk,ax (show k<=1000000 by omega)]
      ·simp only[av,z8 (show ¬ (w:Int)<w by omega),cF,z7 hNi,aH (show Nat.succ (N+i)<=w from hNi),cT]
       have:=fin 1 _ hσ hf
       simp only[Int.one_mul] at this
       exact this
 ·simp only[z8 (show ¬ (p.2.length:Int)<p.2.length by omega),cF,List.length_range,jD,dQ (show (p.2.length+1)*24<=140737488355328 by omega),cT,Nat.add_zero]
  rw[<-List.range_succ,hN]
  have e:dn p.2.length w ((bD p).M (aj p))++[some (bO w (mI p p.2.length))]=dn (p.2.length+1) w (mD p.2.length ((bD p).M (aj p)) (zr (aj p).m (nq (bD p).N (aj p).m) ⟨(bD p).M (aj p),1,fun i=>(bD p).N+i⟩)):=by
   rw[<-sD,gV (T:=mD p.2.length _ _) (T':=(bD p).M (aj p)) fun i j hi _=>cB hi]
   congr 3
   refine bB fun k hk=>?_
   rw[fu]
   exact LX hv (by rw[<-hw];exact hk)
  rw[e,hw]
  rfl
end
section
variable {L:Lin} {Y:Lay}
theorem zu {S:Sx} (hv:Y.Val L S) {i:Nat} (hi:i<L.m):nq Y.N L.m (S.β i)=ef Y.N (S.β i):=by
 have h1:=hv.tb.lt i hi
 have h2:=hv.ne i hi
 unfold nq ef
 unfold Lay.R at h2
 unfold Lay.w at h1
 by_cases c:Y.N<=S.β i
 ·rw[if_pos c,if_pos ⟨c,by omega⟩]
 ·rw[if_neg c,if_neg fun h=>c h.1]
theorem FA {S:Sx} (hv:Y.Val L S) {j:Nat} (hj:j<Y.N):zr L.m (nq Y.N L.m) S j=zr L.m (ef Y.N) S j:=by
 unfold zr
 rw[bg fun i hi=>by rw[zu hv hi],show nq Y.N L.m j=0 from if_neg (by omega),show ef Y.N j=0 from if_neg (by omega)]
theorem GA {S:Sx} (hv:Y.Val L S):zr L.m (nq Y.N L.m) S (Y.R L)= - sz L.m fun i=>ef Y.N (S.β i)*S.T i (Y.R L):=by
 unfold zr
 rw[bg fun i hi=>by rw[zu hv hi],show nq Y.N L.m (Y.R L)=0 from if_neg (by unfold Lay.R;omega),Int.zero_mul,Int.zero_sub]
theorem Rl {S:Sx} (hv:Y.Val L S) (h:¬ 0<sz L.m fun i=>ef Y.N (S.β i)*S.T i (Y.R L)):Swp L Y 0 S:=by
 have hnn:∀i,i<L.m->0<=ef Y.N (S.β i)*S.T i (Y.R L):=fun i hi=>Int.mul_nonneg (by unfold ef;split<;>omega) (hv.feas i hi)
 refine ⟨hv,fun k hk hNk=>?_,fun k _ h0=>by omega⟩
 have h1:(sz L.m fun i=>if i=k then ef Y.N (S.β k)*S.T k (Y.R L) else 0)<=sz L.m fun i=>ef Y.N (S.β i)*S.T i (Y.R L):=nJ fun i hi=>by
  by_cases e:i=k
  ·rw[if_pos e,e];exact Int.le_refl _
  ·rw[if_neg e];exact hnn i hi
 rw[fb hk fun i _ hne=>if_neg hne,if_pos rfl] at h1
 have h2:=hnn k hk
 have h3:ef Y.N (S.β k)=1:=if_pos hNk
 rw[h3,Int.one_mul] at h1 h2
 omega
end
def qn (p:Pg) (o:Option (Fq×Int×Unit)):Prop :=
 ((∃y,(aj p).Ref y)/\o=some ((0,0),22,()))\/((∃x,(aj p).Feas x)/\(∃r,(aj p).Ray r)/\o=some ((0,0),21,())) \/
 ∃v x y,(aj p).Feas x/\(aj p).Dual y/\(aj p).val x=v/\(aj p).rhs y=v/\o=some (prQ v,0,())
theorem Oc {p:Pg} (hv:ValidP p) (hs:(aj p).F0*(aj p).P<=536870912):BndR (aj p) (bD p):=by
 have h2:=hv.rows
 have h3:=hv.cost.2
 refine ⟨ua hv,h2,?_,hs⟩
 show p.1.length+p.2.length+p.2.length+1<=25
 omega
theorem xU {p:Pg} (hv:ValidP p) (hs:(aj p).F0*(aj p).P<=536870912):qn p (bz p):=by
 have hB:=Oc hv hs
 have hok:=ua hv
 have hm:=hB.m
 have hww:=hB.w
 have hn:=hv.cost
 have hRw:(bD p).R (aj p)<(bD p).w (aj p):=by unfold Lay.R Lay.w;omega
 have hw1:(bD p).w (aj p)=(bD p).R (aj p)+1:=rfl
 have hNR:(bD p).N<=(bD p).R (aj p):=by unfold Lay.R;omega
 have hlast:IntKind.wrap .i64 ((((aj p).m+1:Nat):Int) - 1)=(((aj p).m:Nat):Int):=by rw[aB (by omega) (by omega)];omega
 have hright:IntKind.wrap .i64 ((((bD p).w (aj p):Nat):Int) - 1)=(((bD p).R (aj p):Nat):Int):=by rw[aB (by omega) (by omega)];omega
 unfold bz m8
 refine obQ (Q:=qn p) (HX hv) ?_
 obtain ⟨S,ok,h1,hvS,_,h2,h3⟩:=FM hB (F4 hB) (K:=fun _=>True) (fun _ _ _ _ _ _=>trivial) (Lay.first hok) trivial
 refine obQ (Q:=qn p) h1 ?_
 simp only[cP,hlast,show inB (0:Int) ((aj p).m+1)=true from po (by omega) (by omega),aH (show 1<=(aj p).m+1 by omega),cK (show 0<(aj p).m+1 by omega),dX,i7 (show 0<(aj p).m+1 by omega),cd (show 0<(aj p).m+1 by omega),av,hright,ay,z9,z7 (show (aj p).m<(aj p).m+1 by omega),aH (show Nat.succ (aj p).m<=(aj p).m+1 by omega),cK (show (aj p).m<(aj p).m+1 by omega),cd (show (aj p).m<(aj p).m+1 by omega),z7 hRw,aH (show Nat.succ ((bD p).R (aj p))<=(bD p).w (aj p) from hRw),aZ hRw,fu,GA hvS,cT]
 have hzr:∀j,j<(bD p).N->0<=zr (aj p).m (ef (bD p).N) S j:=fun j hj=>by
  rw[<-FA hvS hj]
  cases ok with
  | true=>exact h2 rfl j hj
  | false =>
   obtain ⟨q,hq,hneg,hno⟩:=h3 rfl
   exfalso
   rw[FA hvS hq] at hneg
   unfold zr at hneg
   rw[show ef (bD p).N q=0 from if_neg (by omega)] at hneg
   have h1:(sz (aj p).m fun i=>ef (bD p).N (S.β i)*S.T i q)<=sz (aj p).m fun _=>0:=nJ fun i hi=>by
    have:=hno i hi
    unfold ef
    split<;>omega
   rw[fW (f:=fun _=>0) fun _ _=>rfl] at h1
   omega
 by_cases hpos:0<sz (aj p).m fun i=>ef (bD p).N (S.β i)*S.T i ((bD p).R (aj p))
 ·rw[z7 (show (-sz (aj p).m fun i=>ef (bD p).N (S.β i)*S.T i ((bD p).R (aj p)))<0 by omega)]
  simp only[cT]
  exact .inl ⟨⟨_,ze hok hvS hzr hpos⟩,rfl⟩
 ·rw[z8 (show ¬ (-sz (aj p).m fun i=>ef (bD p).N (S.β i)*S.T i ((bD p).R (aj p)))<0 by omega)]
  simp only[cF]
  obtain ⟨S2,g1,hv2,ha2⟩:=MZ hB (F4 hB) (Rl hvS hpos)
  refine obQ (Q:=qn p) g1 ?_
  obtain ⟨hd,hb⟩:=hB.tab hv2.tb
  obtain ⟨hdP,_⟩:=kM hok hv2.tb
  have hwc:=LB hB
  simp only[ax (show (bD p).R (aj p)<=1000000 by omega),<-hw1,z9,z7 (show (0:Int)<=((bD p).w (aj p):Nat) by omega),dQ (show (bD p).w (aj p)*8<=140737488355328 by omega),Bool.and_self,cT,zK]
  refine pX (qn p) p.1.length (by omega) (fun j=>((j:Int),bO ((bD p).w (aj p)) (fun k=>if k<j then p.1.getD k 0 else 0),PUnit.unit)) ?_ (fun again j hj=>?_) (fun again=>?_)
  ·rw[bB (f:=fun k=>if k<0 then p.1.getD k 0 else 0) (g:=fun _=>0) fun k _=>if_neg (by omega)];rfl
  ·have hjw:j<(bD p).w (aj p):=by
    have:(bD p).N=p.1.length+p.2.length:=rfl
    omega
   simp only[z7 (show (j:Int)<p.1.length by omega),ay,z9,z7 hj,av,z7 hjw,aH (show Nat.succ j<=(bD p).w (aj p) from hjw),cT,eP hjw,ax (show j<=1000000 by omega)]
   congr 3
   refine bB fun k _=>?_
   by_cases c:k=j
   ·rw[if_pos c,if_pos (by omega),c]
   ·rw[if_neg c]
    by_cases c2:k<j
    ·rw[if_pos c2,if_pos (by omega)]
    ·rw[if_neg c2,if_neg (by omega)]
  ·simp only[z8 (show ¬ (p.1.length:Int)<p.1.length by omega),cF]
   rw[bB (f:=fun k=>if k<p.1.length then p.1.getD k 0 else 0) (g:=bm (aj p)) fun k _=>rfl]
   have hg:∀k,k<(bD p).w (aj p)->(bO ((bD p).w (aj p)) (bm (aj p))).getD k 0=bm (aj p) k:=fun k hk=>aZ hk
   refine pX (qn p) ((bD p).w (aj p)) (by omega) (fun k=>((k:Int),gy ((aj p).m+1) ((bD p).w (aj p)) (mD (aj p).m S2.T (fun l=>if l<k then zr (aj p).m (bm (aj p)) S2 l else zr (aj p).m (nq (bD p).N (aj p).m) S2 l)),PUnit.unit)) ?_ (fun again2 k hk=>?_) (fun again2=>?_)
   ·unfold t7
    rw[dL (T:=mD (aj p).m S2.T (zr (aj p).m (nq (bD p).N (aj p).m) S2)) (T':=mD (aj p).m S2.T (fun l=>if l<0 then zr (aj p).m (bm (aj p)) S2 l else zr (aj p).m (nq (bD p).N (aj p).m) S2 l)) fun i j _ _=>by
     unfold mD
     split
     ·exact (if_neg (by omega)).symm
     ·rfl]
    rfl
   ·have hck:=hwc.small k S2.d (by omega)
    have hci:∀i,i<(aj p).m-> -536870912<=bm (aj p) (S2.β i)*S2.T i k/\bm (aj p) (S2.β i)*S2.T i k<=536870912:=fun i hi=>hwc.small _ _ (hb i k hi hk).2
    simp only[z7 (show (k:Int)<=((bD p).R (aj p):Nat) by omega),ay,z9,av,z7 hk,aH (show Nat.succ k<=(bD p).w (aj p) from hk),cT,hg k hk,aB (x:=bm (aj p) k*S2.d) (by omega) (by omega),ax (show k<=1000000 by omega)]
    refine bf (aj p).m (by omega) (fun i=>(bm (aj p) k*S2.d - sz i (fun i=>bm (aj p) (S2.β i)*S2.T i k),(i:Int),PUnit.unit)) _ (by simp only[sz,Int.sub_zero];rfl) (fun again3 i hi=>?_) (fun again3=>?_)
    ·have hs':=iv (n:=i) (f:=fun i=>bm (aj p) (S2.β i)*S2.T i k) (B:=536870912) fun i' hi'=>hci i' (by omega)
     have h3:(i:Int)*536870912<=6*536870912:=z11 (by omega) (by omega)
     have hbi:S2.β i<(bD p).w (aj p):=hv2.tb.lt i hi
     have hii:=hci i hi
     simp only[z7 (show (i:Int)<((aj p).m:Nat) by omega),fg,ay,z9,z7 hi,aH (show Nat.succ i<=(aj p).m from hi),gN hi,z7 hbi,aH (show Nat.succ (S2.β i)<=(bD p).w (aj p) from hbi),cP,z7 (show i<(aj p).m+1 by omega),aH (show Nat.succ i<=(aj p).m+1 by omega),cK (show i<(aj p).m+1 by omega),dX,cd (show i<(aj p).m+1 by omega),av,z7 hk,aH (show Nat.succ k<=(bD p).w (aj p) from hk),hg _ hbi,aZ hk,cB hi,cT,ax (show i<=1000000 by omega)]
     rw[aB (x:=bm (aj p) (S2.β i)*S2.T i k) (by omega) (by omega),aB (by omega) (by omega)]
     simp only[sz]
     congr 2
     omega
    ·simp only[z8 (show ¬ (((aj p).m:Nat):Int)<((aj p).m:Nat) by omega),cF,cP,ay,z9,z7 (show (aj p).m<(aj p).m+1 by omega),aH (show Nat.succ (aj p).m<=(aj p).m+1 by omega),cK (show (aj p).m<(aj p).m+1 by omega),dX,cd (show (aj p).m<(aj p).m+1 by omega),av,z7 hk,aH (show Nat.succ k<=(bD p).w (aj p) from hk),cT]
     congr 3
     refine tL (show (aj p).m<(aj p).m+1 by omega) hk fun i l _ _=>?_
     unfold mD
     by_cases c0:i=(aj p).m
     ·by_cases c1:l=k
      ·rw[if_pos ⟨c0,c1⟩,if_pos c0]
       simp only
       rw[if_pos (by omega),c1]
       rfl
      ·rw[if_neg fun h=>c1 h.2,if_pos c0,if_pos c0]
       simp only
       by_cases c2:l<k
       ·rw[if_pos c2,if_pos (by omega)]
       ·rw[if_neg c2,if_neg (by omega)]
     ·rw[if_neg fun h=>c0 h.1,if_neg c0,if_neg c0]
   ·simp only[z8 (show ¬ (((bD p).w (aj p):Nat):Int)<=((bD p).R (aj p):Nat) by omega),cF]
    rw[dL (T:=mD (aj p).m S2.T (fun l=>if l<(bD p).w (aj p) then zr (aj p).m (bm (aj p)) S2 l else zr (aj p).m (nq (bD p).N (aj p).m) S2 l)) (T':=mD (aj p).m S2.T (zr (aj p).m (bm (aj p)) S2)) fun i j _ hj=>by
     unfold mD
     split
     ·exact if_pos hj
     ·rfl]
    obtain ⟨S3,ok3,k1,hv3,ha3,k2,k3⟩:=FM hB hwc (K:=AZ (aj p) (bD p)) (fun S r c h hr hc=>h.step hc) hv2 ha2
    refine obQ (Q:=qn p) k1 ?_
    cases ok3 with
    | false =>
     simp only[Bool.not_false,cT]
     obtain ⟨q,e1,e2,e3⟩:=k3 rfl
     exact .inr (.inl ⟨⟨_,oJ hok hv3 (ha3.art S3)⟩,⟨_,yY hok hv3 e1 (ha3.col S3 e1) e2 e3⟩,rfl⟩)
    | true =>
     have hz3:=k2 rfl
     obtain ⟨hd3,hb3⟩:=hB.tab hv3.tb
     have hzR:zr (aj p).m (bm (aj p)) S3 ((bD p).R (aj p))= - sz (aj p).m fun i=>bm (aj p) (S3.β i)*S3.T i ((bD p).R (aj p)):=by
      unfold zr
      rw[show bm (aj p) ((bD p).R (aj p))=0 from if_neg (by have:=hok.n;omega),Int.zero_mul,Int.zero_sub]
     have hs':=iv (n:=(aj p).m) (f:=fun i=>bm (aj p) (S3.β i)*S3.T i ((bD p).R (aj p))) (B:=536870912) fun i hi=>hwc.small _ _ (hb3 i _ hi hRw).2
     have h3:((aj p).m:Int)*536870912<=6*536870912:=z11 (by omega) (by omega)
     simp only[Bool.not_true,cF,cP,z7 (show (aj p).m<(aj p).m+1 by omega),aH (show Nat.succ (aj p).m<=(aj p).m+1 by omega),cK (show (aj p).m<(aj p).m+1 by omega),dX,cd (show (aj p).m<(aj p).m+1 by omega),av,z7 hRw,aH (show Nat.succ ((bD p).R (aj p))<=(bD p).w (aj p) from hRw),cT,aZ hRw,fu,hzR]
     rw[show (0:Int) - -(sz (aj p).m fun i=>bm (aj p) (S3.β i)*S3.T i ((bD p).R (aj p)))=sz (aj p).m fun i=>bm (aj p) (S3.β i)*S3.T i ((bD p).R (aj p)) by omega,aB (by omega) (by omega),LS (by omega) (by omega) (by omega) (by omega),af]
     obtain ⟨v1,v2⟩:=vl hok hv3
     refine .inr (.inr ⟨_,_,_,oJ hok hv3 (ha3.art S3),wD hok hv3 hz3,v1,v2,?_⟩)
     rw[if_neg (by omega),wg (by omega)]
     unfold te
     rw[if_pos (tF (by omega) (by omega) (by omega))]
theorem w5 {x:Int} (h1: -4611686018427387904<=x) (h2:x<4611686018427387904):eG x=some (ab x):=by
 simp only[eG,oW]
 rw[aB (by omega) (by omega)]
 congr 1
 unfold ab
 split<;>omega
theorem vE {p:Pg} (hv:ValidP p):b7 p=some (bO (p.2.length+1) (fac (aj p))):=by
 have hm:=hv.rows
 have hn:=hv.cost.2
 unfold b7 lr
 refine bf p.1.length (by omega) (fun i=>(1+sz i (fun j=>ab (p.1.getD j 0)),(i:Int),PUnit.unit)) _ rfl (fun again i hi=>?_) (fun again=>?_)
 ·have h1:=l7 hv.cs i
  have h0:=cH (p.1.getD i 0)
  have h2:=nT hv.cs (n:=i) (by omega)
  have h3: -1048576<=p.1.getD i 0/\p.1.getD i 0<=1048576:=rP.1 h1
  simp only[ay,z9,z7 hi,z7 (show (i:Int)<p.1.length by omega),cT,w5 (show -4611686018427387904<=p.1.getD i 0 by omega) (by omega),af,ax (show i<=1000000 by omega)]
  rw[aB (by omega) (by omega)]
  simp only[sz]
  congr 2
  omega
 ·simp only[z8 (show ¬ (p.1.length:Int)<p.1.length by omega),cF]
  refine bf p.2.length (by omega) (fun i=>(bO (i+1) (fac (aj p)),(i:Int),PUnit.unit)) _ rfl (fun again2 i hi=>?_) (fun again2=>?_)
  ·have hr:p.2.getD i rw0 ∈ p.2:=by rw[bR hi];exact List.getElem_mem _
   have hl:=hv.len _ hr
   have hR: -1073741824<=(p.2.getD i rw0).2.2/\(p.2.getD i rw0).2.2<=1073741824:=z12 (hv.right _ hr)
   have hRa:ab (p.2.getD i rw0).2.2<=1073741824:=rP.2 hR
   have hRb:=cH (p.2.getD i rw0).2.2
   have hsz:eG (p.2.getD i rw0).2.2=some (ab (p.2.getD i rw0).2.2):=w5 (by omega) (by omega)
   simp only[z7 (show (i:Int)<p.2.length by omega),ay,z9,z7 hi,cT,hsz,af]
   rw[aB (x:=1+ab (p.2.getD i rw0).2.2) (by omega) (by omega)]
   refine bf p.1.length (by omega) (fun j=>(1+ab (p.2.getD i rw0).2.2+sz j (fun j=>ab ((p.2.getD i rw0).1.getD j 0)),(j:Int),PUnit.unit)) _ (by simp only[sz,Int.add_zero];rfl) (fun again3 j hj=>?_) (fun again3=>?_)
   ·have h1:=l7 (hv.coefs _ hr) j
    have h0:=cH ((p.2.getD i rw0).1.getD j 0)
    have h2:=nT (hv.coefs _ hr) (n:=j) (by omega)
    have h3: -1048576<=(p.2.getD i rw0).1.getD j 0/\(p.2.getD i rw0).1.getD j 0<=1048576:=rP.1 h1
    have hsz2:eG ((p.2.getD i rw0).1.getD j 0)=some (ab ((p.2.getD i rw0).1.getD j 0)):=w5 (by omega) (by omega)
    simp only[z7 (show (j:Int)<p.1.length by omega),ay,z9,z7 (show j<(p.2.getD i rw0).1.length by omega),cT,hsz2,af,ax (show j<=1000000 by omega)]
    rw[aB (by omega) (by omega)]
    simp only[sz]
    congr 2
    omega
   ·simp only[z8 (show ¬ (p.1.length:Int)<p.1.length by omega),cF,av,dQ (show (i+1+1)*8<=140737488355328 by omega),cT,ax (show i<=1000000 by omega)]
    rw[show 1+ab (p.2.getD i rw0).2.2+sz p.1.length (fun j=>ab ((p.2.getD i rw0).1.getD j 0))=fac (aj p) (i+1) from rfl,kj]
  ·simp only[z8 (show ¬ (p.2.length:Int)<p.2.length by omega),cF]
theorem vc {n:Nat} {f:Nat->Int} {most:Int} (hn:n<=1000) (hf:∀i,1<=f i) (_:∀i,i<n->f i<=2147483648) (h0:1<=most) (h1:most<=17592186044416):b6 (bO n f) most=some (if pp f n<=most then (pp f n,true,()) else (0,false,())):=by
 unfold b6 li
 have round:∀{R:Type} {a b:Option R} (i:Nat),i<n->pp f i<=most->(bif nzB (pp f i) then bif decide (f i>IntKind.wrap .i64 (Int.tdiv most (pp f i))) then a else b else none)=bif decide (pp f (i+1)>most) then a else b:=fun i hi hle=>by
  have h2:=om hf i
  rw[kD (by omega),cond_true,Int.tdiv_eq_ediv_of_nonneg (by omega)]
  have h3:0<=most / pp f i:=Int.ediv_nonneg (by omega) (by omega)
  have h4:most / pp f i<=most:=Int.ediv_le_self _ (by omega)
  have e:decide (f i>most / pp f i)=decide (pp f (i+1)>most):=decide_eq_decide.2 (by
   rw[xF (a:=f i) (show 0<pp f i by omega),Int.mul_comm]
   exact Iff.rfl)
  rw[aB (by omega) (by omega),e]
 rcases nU n (fun i=>decide (pp f (i+1)>most)) with hnone | ⟨q,hq,hbig,hleast⟩
 ·have hall:∀i,i<=n->pp f i<=most:=fun i hi=>by
   cases i with
   | zero=>simp only[pp];omega
   | succ i=>have:=of_decide_eq_false (hnone i (by omega));omega
  rw[if_pos (hall n (Nat.le_refl _))]
  refine bf n (by omega) (fun i=>(pp f i,(i:Int),PUnit.unit)) _ rfl (fun again i hi=>?_) (fun again=>?_)
  ·have h2:=hall (i+1) (by omega)
   have h3:=om hf (i+1)
   simp only[z7 (show (i:Int)<(n:Nat) by omega),ay,av,z7 hi,z9,aZ hi,cT,round i hi (hall i (by omega)),hnone i hi,cF,ax (show i<=1000000 by omega)]
   rw[aB (x:=pp f i*f i) (by simp only[pp] at h2 h3;omega) (by simp only[pp] at h2;omega)]
   rfl
  ·simp only[av,z8 (show ¬ (n:Int)<n by omega),cF]
 ·have hlow:∀i,i<=q->pp f i<=most:=fun i hi=>by
   cases i with
   | zero=>simp only[pp];omega
   | succ i=>have:=of_decide_eq_false (hleast i (by omega));omega
  have h2:=z12 hbig
  have h3:=AX hf (n:=q+1) (k:=n - (q+1))
  rw[show q+1+(n - (q+1))=n by omega] at h3
  rw[if_neg (by omega)]
  refine bf q (by omega) (fun i=>(pp f i,(i:Int),PUnit.unit)) _ rfl (fun again i hi=>?_) (fun again=>?_)
  ·have h2:=hlow (i+1) (by omega)
   have h3:=om hf (i+1)
   simp only[z7 (show (i:Int)<(n:Nat) by omega),ay,av,z7 (show i<n by omega),z9,aZ (show i<n by omega),cT,round i (by omega) (hlow i (by omega)),hleast i hi,cF,ax (show i<=1000000 by omega)]
   rw[aB (x:=pp f i*f i) (by simp only[pp] at h2 h3;omega) (by simp only[pp] at h2;omega)]
   rfl
  ·simp only[z7 (show (q:Int)<(n:Nat) by omega),ay,av,z7 hq,z9,aZ hq,cT,round q hq (hlow q (by omega)),hbig]
theorem Gp {p:Pg} (hv:ValidP p):fO p=some (decide ((aj p).F0*(aj p).P<=536870912)):=by
 have hm:=hv.rows
 have h1:=vc (n:=p.2.length+1) (f:=fac (aj p)) (most:=536870912) (by omega) (pk _) (fun i hi=>ug hv (by omega)) (by omega) (by omega)
 simp only[fO,nn,vE hv,h1,af]
 rw[show pp (fac (aj p)) (p.2.length+1)=(aj p).F0*(aj p).P from Ot _]
 by_cases c:(aj p).F0*(aj p).P<=536870912
 ·rw[if_pos c,z7 c]
 ·rw[if_neg c,z8 c]
theorem BL {p:Pg} (hv:ValidP p):cX p=some (decide (eJ (aj p))):=by
 have hm:=hv.rows
 have h1:=vc (n:=p.2.length+1) (f:=fac (aj p)) (most:=17592186044416) (by omega) (pk _) (fun i hi=>ug hv (by omega)) (by omega) (by omega)
 obtain ⟨f,hf⟩:∃f,f=fac (aj p):=⟨_,rfl⟩
 have hpos:∀i,1<=f i:=fun i=>by rw[hf];exact pk _ i
 have hF:eJ (aj p)=(pp f (p.2.length+1)<=17592186044416/\pp f (p.2.length+1)*mx f p.2.length<=144115188075855872):=by rw[hf];rfl
 simp only[cX,oQ,vE hv,h1,af]
 rw[<-hf]
 refine bf (p.2.length+1) (by omega) (fun i=>((match i with | 0=>0 | i+1=>mx f i),(i:Int),PUnit.unit)) _ rfl (fun again i hi=>?_) (fun again=>?_)
 ·simp only[av,z7 (show (i:Int)<(p.2.length+1:Nat) by omega),ay,z7 hi,z9,aZ hi,cT,Fw,ax (show i<=1000000 by omega)]
  cases i with
  | zero =>
   simp only[mx]
   have:=hpos 0
   congr 2
   omega
  | succ i=>simp only[mx]
 ·have hmx:1<=mx f p.2.length:=Int.le_trans (hpos 0) (FP (by omega))
  have hP:=om hpos (p.2.length+1)
  simp only[av,z8 (show ¬ ((p.2.length+1:Nat):Int)<(p.2.length+1:Nat) by omega),cF]
  by_cases c:pp f (p.2.length+1)<=17592186044416
  ·rw[if_pos c]
   simp only[Bool.not_true,Bool.false_or,Bool.true_and,cT,kD (show pp f (p.2.length+1)≠0 by omega)]
   rw[Int.tdiv_eq_ediv_of_nonneg (by omega)]
   have h3:0<=144115188075855872 / pp f (p.2.length+1):=Int.ediv_nonneg (by omega) (by omega)
   have h4:144115188075855872 / pp f (p.2.length+1)<=144115188075855872:=Int.ediv_le_self _ (by omega)
   rw[aB (by omega) (by omega)]
   congr 1
   refine decide_eq_decide.2 ?_
   rw[wB (a:=mx f p.2.length) (show 0<pp f (p.2.length+1) by omega),hF,Int.mul_comm]
   exact ⟨fun h=>⟨c,h⟩,fun h=>h.2⟩
  ·rw[if_neg c]
   rw[z8 (show ¬ eJ (aj p) by rw[hF];exact fun h=>c h.1)]
   rfl
def yg (p:Pg) (a:Fq×List Fq×List Fq) (e:Int):Prop :=
 (e=5/\a=pt/\¬ eJ (aj p))\/(e=22/\a=pt/\eJ (aj p)/\∃y,(aj p).Ref y) \/
 (e=21/\a=pt/\eJ (aj p)/\(∃x,(aj p).Feas x)/\∃r,(aj p).Ray r) \/
 (e=0/\eJ (aj p)/\∃v,a.1=prQ v/\fZ v/\a.2.1.length=p.1.length/\(∀x ∈ a.2.1,okF x)/\KP p a.2.1=true/\(jI p.1 a.2.1 0).isSome=true/\(aj p).Feas (vX a.2.1)/\(∃y,(aj p).Dual y/\(aj p).rhs y=v)/\(aj p).val (vX a.2.1)=v)
theorem K8 {p:Pg} (hV:ValidP p):∃a e,aA p=some (a,e,())/\yg p a e:=by
 by_cases hf:eJ (aj p)
 ·have hok:=ow hV
  rcases J2 hV hf with ⟨S,h1,h2⟩ | ⟨S,q,h1,h2⟩ | ⟨S,h1,h2⟩
  ·exact ⟨_,_,h2,.inr (.inl ⟨rfl,rfl,hf,_,DY hV h1⟩)⟩
  ·exact ⟨_,_,h2,.inr (.inr (.inl ⟨rfl,rfl,hf,⟨_,oJ hok h1.val (h1.az.art S)⟩,_,yY hok h1.val h1.lt (h1.az.col S h1.lt) h1.neg h1.no⟩))⟩
  ·obtain ⟨a1,a2,a3,a4⟩:=NO hV hf h1
   obtain ⟨f1,f2⟩:=Rc hV hf h1.val
   have hl:(xL p S).length=p.1.length:=av
   have hv:=Fu (p:=p) (x:=xL p S) hl f2
   have hq:fZ (EQ p S):=by
    rw[<-a3,<-hv]
    exact Oa
   exact ⟨_,_,h2,.inr (.inr (.inr ⟨rfl,hf,EQ p S,rfl,hq,hl,Tj hV hf h1.val,f1,f2,a1,⟨_,a2,a4⟩,a3⟩))⟩
 ·exact ⟨_,_,GZ hV hf,.inl ⟨rfl,rfl,hf⟩⟩
theorem TU {f:(Fq×Unit)->Option Bool} {p:Fq->Bool} {l:List Fq} (hl:l.length<=1000000) (h:∀a,a ∈ l->f (a,())=some (p a)):ap l f=some (l.any p):=by
 simp only[ap,gD]
 have e:bZ l f=some (j4 p l 0):=by
  unfold bZ iH
  exact mn (f:=f) (d:=(0,0)) hl h
 rw[e,af,Af]
theorem N1 {x:List Fq} (hl:x.length<=1000) (hx:∀a ∈ x,okF a):cD x=TM (jI (List.replicate x.length 1) x 0) (some ((0,0),5,())) fun q=>some (prQ q,0,()):=by
 have hc:ap x (fun x=>fI x.1)=some false:=by
  rw[TU (p:=fun a=>!decide (okF a)) (by omega) (fun a _=>by simp only[fI,m0,wN,af])]
  congr 1
  rw[List.any_eq_false]
  intro a ha h
  rw[z7 (hx a ha)] at h
  cases h
 obtain ⟨l,hll⟩:∃l,l=List.replicate x.length (1:Int):=⟨_,rfl⟩
 have hlen:l.length=x.length:=by rw[hll,List.length_replicate]
 have h1:∀i,i<l.length->l.getD i 0=1:=fun i hi=>by
  rw[bR hi]
  subst hll
  exact List.getElem_replicate _
 simp only[cD,pP,hc,af,cF,z8 (show ¬ (x.length:Int)>1000 by omega)]
 rw[<-hll]
 refine (nt (α:=Int×Fq×Fq×PUnit) l.length (by omega) (fun i (s:Fq×{q:Rat // fZ q})=>((i:Int),s.1,prQ s.2.1,PUnit.unit))
  (fun i s k=>if h:fZ (((l.getD i 0:Int):Rat)*qv (x.getD i (0,0)))/\fZ (s.2.1+((l.getD i 0:Int):Rat)*qv (x.getD i (0,0))) then k (s.1,⟨_,h.2⟩) else some ((0,0),5,())) (fun s=>some (prQ s.2.1,0,())) ?_ ?_ ((0,0),⟨0,by decide⟩)).trans ?_
 ·intro again i s hi
  obtain ⟨w,q,hq⟩:=s
  have hix:i<x.length:=by omega
  have ha:okF (x.getD i (0,0)):=by rw[bR hix];exact hx _ (List.getElem_mem _)
  simp only[ay,z7 hix,z7 (show (i:Int)<x.length by omega),cT,z9,dt (show i<=1000000 by omega),h1 i hi]
  have hA:=Qp (Ga hq) ha
  rw[Eh] at hA
  have e1:((1:Int):Rat)*qv (x.getD i (0,0))=qv (x.getD i (0,0)):=by rw[show ((1:Int):Rat)=1 from rfl,Rat.one_mul]
  have f1:fZ (qv (x.getD i (0,0))):=Kf ha
  simp only[hA,af,e1]
  rcases wV (q+qv (x.getD i (0,0))) with ⟨f2,e2⟩ | ⟨f2,e2⟩
  ·rw[dif_pos ⟨f1,f2⟩]
   simp only[e2,decide_true,Bool.not_true,cF]
  ·rw[dif_neg fun h=>f2 h.2]
   simp only[e2]
   rfl
 ·intro again s
  simp only[hlen,z8 (show ¬ (x.length:Int)<x.length by omega),cF]
 ·exact Ly (cur:=fun s:Fq×{q:Rat // fZ q}=>s.2.1) (bad:=some ((0,0),5,())) (good:=fun q=>some (prQ q,0,())) (by omega) (fun i s h=>(s.1,⟨_,h⟩)) (fun _ _ _=>rfl) (fun _ _ _ _=>rfl) (fun _=>rfl) l.length 0 ((0,0),⟨0,by decide⟩) (by omega)
theorem qZ (s:Sy) (c:List Int) (hl:c.length=s.2.length):aj (ce s c)=⟨s.2.length,s.1.length,fun k j=>((bO s.1.length (tU s)).getD k rw0).1.getD j 0,fun k=>((bO s.1.length (tU s)).getD k rw0).2.2,fun j=>c.getD j 0,fun k=>((bO s.1.length (tU s)).getD k rw0).2.1⟩:=by
 unfold aj ce
 simp only[hl,av]
theorem OG {s:Sy} {c c':List Int} (hl:c.length=s.2.length) (hl':c'.length=s.2.length) {y:Nat->Rat} (h:(aj (ce s c)).Ref y):(aj (ce s c')).Ref y:=by
 rw[qZ s c hl] at h
 rw[qZ s c' hl']
 exact ⟨⟨h.most,h.least⟩,h.col,h.rhs⟩
theorem Pw {s:Sy} {c:List Int}:(aj (ce s c)).F0=1+sz c.length fun j=>ab (c.getD j 0):=rfl
theorem MM {s:Sy} {c c':List Int} (hl:c.length=s.2.length) (hl':c'.length=s.2.length) (h:(aj (ce s c)).F0=(aj (ce s c')).F0):fac (aj (ce s c))=fac (aj (ce s c')):=by
 funext k
 cases k with
 | zero=>exact h
 | succ k =>
  simp only[fac]
  rw[qZ s c hl,qZ s c' hl']
  rfl
theorem R6 {s:Sy} {c c':List Int} (hl:c.length=s.2.length) (hl':c'.length=s.2.length):(aj (ce s c)).P=(aj (ce s c')).P:=by
 rw[qZ s c hl,qZ s c' hl']
 rfl
theorem tc {s:Sy} {c c':List Int} (hl:c.length=s.2.length) (hl':c'.length=s.2.length) (h:(aj (ce s c)).F0=(aj (ce s c')).F0):eJ (aj (ce s c))↔eJ (aj (ce s c')):=by
 unfold eJ
 rw[MM hl hl' h,show (aj (ce s c)).m=(aj (ce s c')).m from rfl]
theorem B4 {s:Sy} {k:Nat} {c:Int} (hk:k<s.2.length) (hc:ab c=1):(aj (ce s (gX s k c))).F0=2:=by
 rw[Pw,fw,fb (k:=k) hk fun i hi hne=>?_,zi hk,if_pos rfl,hc]
 ·rfl
 ·rw[zi hi,if_neg (Ne.symm hne)]
  rfl
theorem JP {s:Sy}:(aj (ce s (fM s))).F0=1+s.2.length:=by
 have h:∀n:Nat,(sz n fun _=>(1:Int))=n:=fun n=>by
  induction n with
  | zero=>rfl
  | succ n ih=>simp only[sz,ih];omega
 rw[Pw]
 have e:(fM s).length=s.2.length:=by unfold fM;rw[List.length_replicate]
 rw[e,bg (g:=fun _=>1) fun i hi=>?_,h]
 unfold fM
 rw[bR (by rw[List.length_replicate];exact hi),List.getElem_replicate]
 rfl
theorem yr {s:Sy}:(fM s).length=s.2.length:=by unfold fM;rw[List.length_replicate]
theorem AF:∀{n:Nat} {f:Nat->Int},(∀i,1<=f i)->1<=pz n f
 | 0,_,_=>Int.le_refl _
 | n+1,f,h=>by
  simp only[pz]
  have:=Int.mul_le_mul (h 0) (AF (n:=n) (f:=fun i=>f (i+1)) fun i=>h (i+1)) (by omega) (by have:=h 0;omega)
  omega
theorem PR:∀{n k:Nat} {f:Nat->Int},(∀i,1<=f i)->k<n->f k<=pz n f
 | n+1,0,f,h,_=>by
  simp only[pz]
  have:=Int.mul_le_mul_of_nonneg_left (AF (n:=n) (f:=fun i=>f (i+1)) fun i=>h (i+1)) (show 0<=f 0 by have:=h 0;omega)
  omega
 | n+1,k+1,f,h,hk=>by
  simp only[pz]
  have h2:=PR (n:=n) (k:=k) (f:=fun i=>f (i+1)) (fun i=>h (i+1)) (by omega)
  have:=z11 (h 0) (show 0<=pz n fun i=>f (i+1) by have:=AF (n:=n) (f:=fun i=>f (i+1)) fun i=>h (i+1);omega)
  omega
theorem EO {p:Pg} (h2:2<=(aj p).F0) (h3:(aj p).F0<=1000) (hs:(aj p).F0*(aj p).P<=536870912):eJ (aj p):=by
 have hm:mx (fac (aj p)) (aj p).m<=268435456:=H8 fun i hi=>by
  cases i with
  | zero=>show (aj p).F0<=_;omega
  | succ i =>
   show (aj p).F i<=_
   have h4:=PR (n:=(aj p).m) (k:=i) (f:=(aj p).F) (fun i=>(aj p).F_pos i) (by omega)
   have h5:(2:Int)*(aj p).P<=(aj p).F0*(aj p).P:=z11 h2 (by have:=(aj p).P_pos;omega)
   have h6:(aj p).P=pz (aj p).m (aj p).F:=rfl
   omega
 have hP:=(aj p).P_pos
 have h7:0<=(aj p).F0*(aj p).P:=Int.mul_nonneg (by omega) (by omega)
 unfold eJ
 rw[Ot]
 refine ⟨by omega,?_⟩
 have h8:1<=mx (fac (aj p)) (aj p).m:=Int.le_trans (pk _ 0) (FP (by omega))
 have:=Int.mul_le_mul hs hm (by omega) (by omega)
 omega
theorem L2 {s:Sy} (h:fc s=true) {a:Fq×List Fq×List Fq} {e:Int} (hs:aA (ce s (fM s))=some (a,e,())):aW s=some (bif decide (e=0) then a.2.1 else [],e,()):=by
 unfold aW lF
 rw[KL h,af,hs]
 by_cases he:e=0
 ·subst he;rfl
 ·simp only[z8 he,af]
  rfl
theorem GK {s:Sy} (h:fc s=false) (hl:s.2.length<=1000000):aW s=some ([],1,()):=by
 unfold aW lF
 rw[Hw h hl]
 rfl
theorem Py (s:Sy) (n:ByteArray) (hl:s.2.length<=1000000):bW s.2 (fun x=>eD x.1 n)=some (frI s n):=by
 simp only[eD,lk,jH]
 unfold bW iA
 exact mn (f:=fun x:Rp×Unit=>some (decide (x.1.1=n))) (p:=fun r:Rp=>decide (r.1=n)) (d:=rp0) hl (fun a _=>rfl)
theorem Dy {s:Sy} (h:fc s=false) (n:ByteArray):bi s n=some ((0,0),1,()):=by
 unfold bi jl
 rw[lQ,af,h]
 rfl
theorem BR {s:Sy} (h:fc s=true) {n:ByteArray} (hn:frI s n<0):bi s n=some ((0,0),9,()):=by
 have hr:=(fR h).rl
 unfold bi jl
 rw[lQ,af,h,Py s n (by omega),af,z7 hn]
 rfl
theorem HK {s:Sy} (h:fc s=true) {n:ByteArray} {k:Nat} (hn:frI s n=(k:Int)) (hk:k<s.2.length) {a:Fq×List Fq×List Fq} {e:Int} (hs:aA (ce s (gX s k 1))=some (a,e,())):bi s n=some (bif decide (e=0) then a.1 else (0,0),e,()):=by
 have hr:=(fR h).rl
 unfold bi jl
 rw[lQ,af,h,Py s n (by omega),af,hn,z8 (show ¬ (k:Int)<0 by omega),AH h hk]
 by_cases he:e=0
 ·subst he
  simp only[Bool.not_true,cF,af,hs]
  rfl
 ·simp only[Bool.not_true,cF,af,hs,z8 he]
  rfl
def jd (s:Sy) (z:Nat->Bool):Nat->List ByteArray
 | 0=>[]
 | k+1=>if z k then jd s z k++[rnS s k] else jd s z k
theorem oY {s:Sy} {z:Nat->Bool}:∀k,(jd s z k).length<=k
 | 0=>Nat.le_refl _
 | k+1=>by
  have:=oY (s:=s) (z:=z) k
  simp only[jd]
  split
  ·rw[List.length_append,List.length_singleton];omega
  ·omega
theorem tl {s:Sy} {z z':Nat->Bool}:∀{k:Nat},(∀j,j<k->z j=z' j)->jd s z k=jd s z' k
 | 0,_=>rfl
 | k+1,h=>by
  simp only[jd]
  rw[h k (by omega),tl fun j hj=>h j (by omega)]
theorem Ew {s:Sy} (h:fc s=false):aV s=some ([],1,()):=by
 unfold aV jm
 rw[lQ,af,h]
 rfl
theorem G2 {s:Sy} (h:fc s=true) {A:Nat->Fq×List Fq×List Fq} {E:Nat->Int} (hs:∀k,k<s.2.length->aA (ce s (gX s k (-1)))=some (A k,E k,())) (hE:∀k,k<s.2.length->E k=0\/E k=21) :
  aV s=some (jd s (fun k=>decide (E k=0)&&decide ((A k).1.1=0)) s.2.length,0,()):=by
 have hr:=(fR h).rl
 unfold aV jm
 rw[lQ,af,h]
 simp only[Bool.not_true,cF]
 refine bf s.2.length (by omega) (fun k=>(jd s (fun k=>decide (E k=0)&&decide ((A k).1.1=0)) k,(k:Int),PUnit.unit)) _ rfl (fun again k hk=>?_) (fun again=>?_)
 ·have hlen:=oY (s:=s) (z:=fun k=>decide (E k=0)&&decide ((A k).1.1=0)) k
  simp only[ay,z7 hk,z7 (show (k:Int)<s.2.length by omega),cT,z9,AH h hk,af,hs k hk,dt (show k<=1000000 by omega),decide_true,Bool.not_true,cF]
  simp only[jd]
  have d1:decide ((0:Int)=21)=false:=rfl
  rcases hE k hk with e | e
  ·by_cases c:(A k).1.1=0
   ·rw[if_pos (by rw[z7 c,z7 e];rfl)]
    simp only[e,d1,decide_true,Bool.not_true,cF,z7 c,cT,dQ (show ((jd s (fun k=>decide (E k=0)&&decide ((A k).1.1=0)) k).length+1)*16<=140737488355328 by omega)]
    rfl
   ·rw[if_neg (by rw[z8 c,Bool.and_false];exact Bool.false_ne_true)]
    simp only[e,d1,decide_true,Bool.not_true,cF,z8 c]
  ·rw[if_neg (by rw[z10];exact fun h=>absurd (z12 h.1) (by omega))]
   simp only[e,decide_true,cT]
 ·simp only[z8 (show ¬ (s.2.length:Int)<s.2.length by omega),cF]
theorem wH {s:Sy} (h:fc s=true) {A:Nat->Fq×List Fq×List Fq} {e:Int} (he:e≠0/\e≠21) (hs:∀k,k<s.2.length->aA (ce s (gX s k (-1)))=some (A k,e,())):aV s=some ([],e,()):=by
 have hr:=(fR h).rl
 unfold aV jm
 rw[lQ,af,h]
 simp only[Bool.not_true,cF]
 refine bf 0 (by omega) (fun k=>([],(k:Int),PUnit.unit)) _ rfl (fun again k hk=>absurd hk (by omega)) (fun again=>?_)
 have h1:=AH h (k:=0) (by omega) (-1)
 have h2:=hs 0 (by omega)
 simp only[ay,z7 (show 0<s.2.length by omega),z7 (show ((0:Nat):Int)<s.2.length by omega),cT,h1,af,h2,decide_true,Bool.not_true,cF,z8 he.1,z8 he.2,Bool.not_false]
theorem PN {P:Nat->Pg} {n:Nat} (h:∀k,k<n->ValidP (P k)):∃(A:Nat->Fq×List Fq×List Fq) (E:Nat->Int),∀k,k<n->aA (P k)=some (A k,E k,())/\yg (P k) (A k) (E k):=by
 refine ⟨fun k=>((aA (P k)).getD (pt,0,())).1,fun k=>((aA (P k)).getD (pt,0,())).2.1,fun k hk=>?_⟩
 obtain ⟨a,e,h1,h2⟩:=K8 (h k hk)
 show aA (P k)=some (((aA (P k)).getD (pt,0,())).1,((aA (P k)).getD (pt,0,())).2.1,())/\yg (P k) ((aA (P k)).getD (pt,0,())).1 ((aA (P k)).getD (pt,0,())).2.1
 rw[h1]
 exact ⟨rfl,h2⟩
theorem Iq {α:Type} [DecidableEq α] (d:α) {l m:List α} (h:l.length=m.length):(List.range' 0 l.length).all (fun i=>decide (l.getD i d=m.getD i d))=decide (l=m):=by
 rw[Bool.eq_iff_iff,decide_eq_true_iff,List.all_eq_true]
 constructor
 ·intro hh
  refine List.ext_getElem h fun i h1 h2=>?_
  have:=z12 (hh i (ol h1))
  rw[bR h1,bR h2] at this
  exact this
 ·rintro rfl i _
  exact z7 rfl
theorem I5 {α:Type} [DecidableEq α] (d:α) {l m:List α} (h:l.length=m.length) (hl:l.length<=1000000) {F:(Int×PUnit->Option Bool)->Int×PUnit->Option Bool}
  (hb:∀again (i:Nat),i<l.length->F again ((i:Int),PUnit.unit)=bif decide (l.getD i d=m.getD i d) then again (((i+1:Nat):Int),PUnit.unit) else some false) (hf:∀again,F again ((l.length:Int),PUnit.unit)=some true) :
  lpK (Int×PUnit) Bool F ((0:Int),PUnit.unit)=some (decide (l=m)):=by
 refine (nt (α:=Int×PUnit) l.length (by omega) (fun i (_:Unit)=>((i:Int),PUnit.unit)) (fun i s k=>bif decide (l.getD i d=m.getD i d) then k s else some false) (fun _=>some true) ?_ ?_ ()).trans ?_
 ·intro again i _ hi
  exact hb again i hi
 ·intro again _
  exact hf again
 ·rw[mU l.length (fun i k _=>rfl) l.length 0 (by omega),Iq d h]
  cases decide (l=m)<;>rfl
theorem OX (l m:List ByteArray) (hl:l.length<=1000000):bG l m=some (decide (l=m)):=by
 simp only[bG,j5,jH]
 by_cases h:l.length=m.length
 ·rw[z7 (show (l.length:Int)=m.length by omega)]
  simp only[Bool.not_true,cF]
  refine I5 { data:={ toList:=[] } } h hl (fun again i hi=>?_) (fun again=>?_)
  ·simp only[ay,z7 hi,z7 (show i<m.length by omega),z7 (show (i:Int)<l.length by omega),cT,z9,dt (show i<=1000000 by omega)]
   cases decide (List.getD l i { data:={ toList:=[] } }=List.getD m i { data:={ toList:=[] } })<;>rfl
  ·simp only[z8 (show ¬ (l.length:Int)<l.length by omega),cF]
 ·rw[z8 (show ¬ (l.length:Int)=m.length by omega),z8 fun e=>h (by rw[e])]
  rfl
theorem MR (a b:Fq):(decide (a.1=b.1)&&(decide (a.2=b.2)&&true))=decide (a=b):=by
 rw[Bool.eq_iff_iff,z10,Bool.and_true,decide_eq_true_iff,decide_eq_true_iff,decide_eq_true_iff]
 exact ⟨fun h=>Prod.ext h.1 h.2,fun h=>by rw[h];exact ⟨rfl,rfl⟩⟩
theorem EV {p:Pg} {a:Fq×List Fq×List Fq} {e:Int} (hs:yg p a e) (hf:eJ (aj p)) {o:Option (Fq×Int×Unit)} (hl:qn p o):(e=0\/e=21\/e=22)/\o=some (bif decide (e=0) then a.1 else (0,0),e,()):=by
 rcases hs with ⟨_,_,h⟩ | ⟨rfl,rfl,_,y,hy⟩ | ⟨rfl,rfl,_,⟨x,hx⟩,r,hr⟩ | ⟨rfl,_,v,h1,_,_,_,_,_,hx,⟨y,hy,hyv⟩,hxv⟩
 ·exact (h hf).elim
 ·rcases hl with ⟨_,h⟩ | ⟨⟨x,hx⟩,_⟩ | ⟨_,x,_,hx,_⟩
  ·exact ⟨.inr (.inr rfl),h⟩
  ·exact (hy.none hx).elim
  ·exact (hy.none hx).elim
 ·rcases hl with ⟨⟨y,hy⟩,_⟩ | ⟨_,_,h⟩ | ⟨_,_,y,_,hy,_⟩
  ·exact (hy.none hx).elim
  ·exact ⟨.inr (.inl rfl),h⟩
  ·exact (hr.none hy).elim
 ·rcases hl with ⟨⟨y',hy'⟩,_⟩ | ⟨_,⟨r,hr⟩,_⟩ | ⟨v0,x0,y0,hx0,hy0,hx0v,hy0v,h⟩
  ·exact (hy'.none hx).elim
  ·exact (hr.none hy).elim
  ·have hvv:v=v0:=by
    have w1:=Lin.weak hx hy0
    have w2:=Lin.weak hx0 hy
    rw[hxv,hy0v] at w1
    rw[hx0v,hyv] at w2
    exact Rat.le_antisymm w2 w1
   refine ⟨.inl rfl,?_⟩
   rw[h,h1,hvv]
   rfl
theorem Dm {s:Sy} (h:fc s=true) {V:Nat->Fq} {E:Nat->Int} (hs:∀k,k<s.2.length->bz (ce s (gX s k (-1)))=some (V k,E k,())) (hE:∀k,k<s.2.length->E k=0\/E k=21) :
  eq s=some (jd s (fun k=>decide (E k=0)&&decide (V k=(0,1))) s.2.length,0,()):=by
 have hr:=(fR h).rl
 unfold eq kG
 refine bf s.2.length (by omega) (fun k=>(jd s (fun k=>decide (E k=0)&&decide (V k=(0,1))) k,(k:Int),PUnit.unit)) _ rfl (fun again k hk=>?_) (fun again=>?_)
 ·have hlen:=oY (s:=s) (z:=fun k=>decide (E k=0)&&decide (V k=(0,1))) k
  simp only[ay,z7 hk,z7 (show (k:Int)<s.2.length by omega),cT,z9,sV (show s.2.length<=1000000 by omega) hk,ky h,af,hs k hk,dt (show k<=1000000 by omega)]
  simp only[jd]
  have d1:decide ((0:Int)=22)=false:=rfl
  have d2:decide ((21:Int)=22)=false:=rfl
  have d3:decide ((21:Int)=0)=false:=rfl
  rcases hE k hk with e | e
  ·have hfe:=MR (V k) (0,1)
   simp only at hfe
   by_cases c:V k=(0,1)
   ·rw[if_pos (by rw[z7 c,z7 e];rfl)]
    simp only[e,d1,decide_true,cT,Ab,af,cF,Bool.not_true,Bool.or_true,Bool.and_self,hfe,z7 c,dQ (show ((jd s (fun k=>decide (E k=0)&&decide (V k=(0,1))) k).length+1)*16<=140737488355328 by omega)]
    rfl
   ·rw[if_neg (by rw[z8 c,Bool.and_false];exact Bool.false_ne_true)]
    simp only[e,d1,decide_true,cT,Ab,af,cF,Bool.not_true,Bool.or_true,Bool.and_self,hfe,z8 c]
  ·rw[if_neg (by rw[z10];exact fun h=>absurd (z12 h.1) (by omega))]
   simp only[e,d2,d3,cF,af,Bool.not_false,Bool.true_or,Bool.and_self,cT]
 ·simp only[z8 (show ¬ (s.2.length:Int)<s.2.length by omega),cF]
theorem Cr {s:Sy} (h:fc s=true) {V:Nat->Fq} (hs:∀k,k<s.2.length->bz (ce s (gX s k (-1)))=some (V k,22,())):eq s=some ([],22,()):=by
 have hr:=(fR h).rl
 unfold eq kG
 refine bf 0 (by omega) (fun k=>([],(k:Int),PUnit.unit)) _ rfl (fun again k hk=>absurd hk (by omega)) (fun again=>?_)
 have h1:=sV (s:=s) (k:=0) (by omega) (by omega) (-1)
 have h2:=hs 0 (by omega)
 simp only[z7 (show ((0:Nat):Int)<s.2.length by omega),cT,h1,ky h,af,h2,decide_true]
theorem yg.gap {s:Sy} {c c':List Int} (hl:c.length=s.2.length) (hl':c'.length=s.2.length) {a a':Fq×List Fq×List Fq} {e e':Int} (h:yg (ce s c) a e) (h':yg (ce s c') a' e') (hf:eJ (aj (ce s c))) (hf':eJ (aj (ce s c'))):e=22↔e'=22:=by
 have key:∀{c c':List Int} (_:c.length=s.2.length) (_:c'.length=s.2.length) {a a':Fq×List Fq×List Fq} {e e':Int},yg (ce s c) a e->yg (ce s c') a' e'->eJ (aj (ce s c'))->e=22->e'=22:=fun {c c'} hl hl' {a a' e e'} h h' hf' he=>by
  subst he
  rcases h with ⟨h,_⟩ | ⟨_,_,_,y,hy⟩ | ⟨h,_⟩ | ⟨h,_⟩
  ·omega
  ·have hy':=OG (c':=c') hl hl' hy
   rcases h' with ⟨_,_,h⟩ | ⟨h,_⟩ | ⟨_,_,_,⟨x,hx⟩,_⟩ | ⟨_,_,_,_,_,_,_,_,_,hx,_⟩
   ·exact (h hf').elim
   ·exact h
   ·exact (hy'.none hx).elim
   ·exact (hy'.none hx).elim
  ·omega
  ·omega
 exact ⟨key hl hl' h h' hf',key hl' hl h' h hf⟩
theorem E8 (s:Sy) (rope:ByteArray):kE s rope=some true:=by
 have hi:∀e0:Bool,(!e0||e0)=true:=fun e0=>by cases e0<;>rfl
 have hj:∀e0:Bool,(e0||!e0)=true:=fun e0=>by cases e0<;>rfl
 have hnn:∀e0:Bool,(!!e0)=e0:=fun e0=>by cases e0<;>rfl
 simp only[kE,ju,GY,QC,af,Bool.not_true,cF,List.length_nil,z7 (show 0<=10 by omega),Bool.and_true,KZ,qS]
 cases hs:pg s with
 | false=>rfl
 | true =>
  have hl:=D5 hs
  by_cases hy:((rope.size:Nat):Int)>60
  ·rw[z7 hy]
   rfl
  ·rw[z8 hy]
   simp only[Bool.not_true,Bool.not_false,Bool.or_true,cF,cT]
   cases hv:fc s with
   | false =>
    simp only[GK hv (show s.2.length<=1000000 by omega),Dy hv,Ew hv,af]
    rfl
   | true =>
    have hV:=fR hv
    have hr:=hV.rl
    have hp1:=Kv hV
    obtain ⟨a,e,h1,h2⟩:=K8 hp1
    obtain ⟨A,E,hAE⟩:=PN (P:=fun k=>ce s (gX s k (-1))) (n:=s.2.length) fun k _=>qt hV (by rfl)
    obtain ⟨B,G,hBG⟩:=PN (P:=fun k=>ce s (gX s k 1)) (n:=s.2.length) fun k _=>qt hV (by rfl)
    have hF1:∀k,k<s.2.length->(aj (ce s (gX s k 1))).F0=2:=fun k hk=>B4 hk rfl
    have hFm:∀k,k<s.2.length->(aj (ce s (gX s k (-1)))).F0=2:=fun k hk=>B4 hk rfl
    have hone:eC s=some (decide (eJ (aj (ce s (gX s 0 1))))):=by
     have h0:=sV (s:=s) (k:=0) (by omega) (by omega) 1
     unfold eC kZ
     rw[show bS s 0 1=some (gX s 0 1) from h0,af,ky hv,af,BL (qt hV (by rfl)),af]
    have hfits:gF s=some (decide (eJ (aj (ce s (fM s))))):=by
     unfold gF oU
     rw[xd s (by omega),af,ky hv,af,BL hp1,af]
    have hsmall:fJ s=some (decide ((aj (ce s (fM s))).F0*(aj (ce s (fM s))).P<=536870912)):=by
     unfold fJ m9
     rw[xd s (by omega),af,ky hv,af,Gp hp1,af]
    obtain ⟨x,f,hlst,hneg,hpos⟩:∃x f,bi s rope=some (x,f,())/\(frI s rope<0->x=(0,0)/\f=9)/\∀k,k<s.2.length->frI s rope=(k:Int)->x=(bif decide (G k=0) then (B k).1 else (0,0))/\f=G k:=by
     rcases uM s rope with ⟨c1,_⟩ | ⟨k,c1,c2,_⟩
     ·exact ⟨_,_,BR hv c1,fun _=>⟨rfl,rfl⟩,fun k _ h=>by omega⟩
     ·refine ⟨_,_,HK hv c2 c1 (hBG k c1).1,fun h=>by omega,fun k' _ h=>?_⟩
      have:k'=k:=by omega
      subst this
      exact ⟨rfl,rfl⟩
    simp only[L2 hv h1,hlst,af,yR s rope (show s.2.length<=1000000 by omega),hfits,hone,hsmall,xd s (show s.2.length<=1000000 by omega),ky hv]
    by_cases hfo:eJ (aj (ce s (gX s 0 1)))
    ·have hfk1:∀k,k<s.2.length->eJ (aj (ce s (gX s k 1))):=fun k hk=>(tc fw fw (by rw[hF1 0 (by omega),hF1 k hk])).1 hfo
     have hfkm:∀k,k<s.2.length->eJ (aj (ce s (gX s k (-1)))):=fun k hk=>(tc fw fw (by rw[hF1 0 (by omega),hFm k hk])).1 hfo
     have hfi:∀k,k<s.2.length->(E k=22↔E 0=22):=fun k hk=>(hAE k hk).2.gap fw fw (hAE 0 (by omega)).2 (hfkm k hk) (hfkm 0 (by omega))
     have hcase:∀k,k<s.2.length->E k=0\/E k=21\/E k=22:=fun k hk=>by
      rcases (hAE k hk).2 with ⟨_,_,h⟩ | ⟨h,_⟩ | ⟨h,_⟩ | ⟨h,_⟩
      ·exact (h (hfkm k hk)).elim
      ·exact .inr (.inr h)
      ·exact .inr (.inl h)
      ·exact .inl h
     obtain ⟨n,g,hsl,hng⟩:∃n g,aV s=some (n,g,())/\((g=22/\n=[]/\∀k,k<s.2.length->E k=22)\/(g=0/\n=jd s (fun k=>decide (E k=0)&&decide ((A k).1.1=0)) s.2.length/\∀k,k<s.2.length->E k=0\/E k=21)):=by
      by_cases c:E 0=22
      ·have hall:∀k,k<s.2.length->E k=22:=fun k hk=>(hfi k hk).2 c
       exact ⟨_,_,wH hv (e:=22) (by omega) (A:=A) fun k hk=>by rw[(hAE k hk).1,hall k hk],.inl ⟨rfl,rfl,hall⟩⟩
      ·have hall:∀k,k<s.2.length->E k=0\/E k=21:=fun k hk=>by
        rcases hcase k hk with h | h | h
        ·exact .inl h
        ·exact .inr h
        ·exact (c ((hfi k hk).1 h)).elim
       exact ⟨_,_,G2 hv (fun k hk=>(hAE k hk).1) hall,.inr ⟨rfl,rfl,hall⟩⟩
     rw[z7 hfo]
     simp only[hsl,af,Bool.not_true,cF]
     by_cases hsm:(aj (ce s (fM s))).F0*(aj (ce s (fM s))).P<=536870912
     ·
      have hF0:(aj (ce s (fM s))).F0=1+s.2.length:=JP
      have hff:=EO (p:=ce s (fM s)) (by omega) (by omega) hsm
      obtain ⟨hee,hle⟩:=EV h2 hff (xU hp1 hsm)
      have hsmk:∀{c:List Int},c.length=s.2.length->(aj (ce s c)).F0=2->(aj (ce s c)).F0*(aj (ce s c)).P<=536870912:=fun {c} hlc hc=>by
       have e1:(aj (ce s c)).P=(aj (ce s (fM s))).P:=R6 hlc yr
       rw[hc,e1]
       have hP:=(aj (ce s (fM s))).P_pos
       have:(2:Int)*(aj (ce s (fM s))).P<=(aj (ce s (fM s))).F0*(aj (ce s (fM s))).P:=z11 (by omega) (by omega)
       omega
      have hlk:=fun k (hk:k<s.2.length)=>EV (hBG k hk).2 (hfk1 k hk) (xU (qt hV (by rfl)) (hsmk fw (hF1 k hk)))
      have hlm:=fun k (hk:k<s.2.length)=>EV (hAE k hk).2 (hfkm k hk) (xU (qt hV (by rfl)) (hsmk fw (hFm k hk)))
      have hrs:eq s=some (n,g,()):=by
       rcases hng with ⟨rfl,rfl,hall⟩ | ⟨rfl,rfl,hall⟩
       ·exact Cr hv (V:=fun k=>bif decide (E k=0) then (A k).1 else (0,0)) fun k hk=>by rw[(hlm k hk).2,hall k hk]
       ·rw[Dm hv (fun k hk=>(hlm k hk).2) hall]
        congr 2
        refine tl fun k hk=>?_
        rcases (hAE k hk).2 with ⟨h,_⟩ | ⟨h,_⟩ | ⟨h,_⟩ | ⟨h,_,v,hv1,_⟩
        ·rw[h];rfl
        ·rw[h];rfl
        ·rw[h];rfl
        ·rw[h,hv1]
         simp only[decide_true,cT,Bool.true_and]
         refine decide_eq_decide.2 ?_
         constructor
         ·intro e;rw[e]
         ·intro e
          have h0:v=0:=Rat.num_eq_zero.1 e
          rw[h0];rfl
      have htot:e=0->cD a.2.1=some (a.1,0,())/\a.2.1.length=s.2.length:=fun he=>by
       rcases h2 with ⟨h,_⟩ | ⟨h,_⟩ | ⟨h,_⟩ | ⟨_,_,v,hv1,_,hlen,hok,_,hsum,_,_,hval⟩
       ·omega
       ·omega
       ·omega
       ·have hlen':a.2.1.length=s.2.length:=hlen.trans yr
        refine ⟨?_,hlen'⟩
        rw[N1 (by omega) hok,hlen']
        have hvs:=Fu (p:=ce s (fM s)) hlen hsum
        rw[hval] at hvs
        have hsum':(jI (fM s) a.2.1 0).isSome=true:=hsum
        have hvs':(jI (fM s) a.2.1 0).getD 0=v:=hvs
        rw[show List.replicate s.2.length (1:Int)=fM s from rfl]
        cases hq:jI (fM s) a.2.1 0 with
        | none=>rw[hq] at hsum';cases hsum'
        | some q =>
         rw[hq] at hvs'
         have hvs':q=v:=hvs'
         rw[hvs',hv1]
         rfl
      have hfr:frI s rope<0\/∃k,k<s.2.length/\frI s rope=(k:Int):=by
       rcases uM s rope with ⟨c,_⟩ | ⟨k,c1,c2,_⟩
       ·exact .inl c
       ·exact .inr ⟨k,c1,c2⟩
      have hlst:∀k,k<s.2.length->frI s rope=(k:Int)->fK s (frI s rope)=some (x,f,()):=fun k hk he=>by
       obtain ⟨g1,g2⟩:=hpos k hk he
       unfold fK ni
       rw[he,sV (by omega) hk,af,ky hv,af,(hlk k hk).2,g1,g2]
       rfl
      rw[z7 hsm,z7 hff]
      simp only[hle,hrs,af,hi,hj,hnn,Bool.not_true,Bool.not_false,cF,cT,decide_true,Bool.and_self,Bool.false_and,Bool.or_true,Bool.true_or,OX n n (show n.length<=1000000 by
       rcases hng with ⟨_,rfl,_⟩ | ⟨_,rfl,_⟩
       ·simp
       ·have:=oY (s:=s) (z:=fun k=>decide (E k=0)&&decide ((A k).1.1=0)) s.2.length
        omega)]
      by_cases he:e=0
      ·subst he
       obtain ⟨t1,t2⟩:=htot rfl
       simp only[decide_true,cT,t1,t2,af]
       rcases hfr with c | ⟨k,hk,c⟩
       ·obtain ⟨rfl,rfl⟩:=hneg c
        simp[c]
       ·simp[show ¬ frI s rope<0 by omega,hlst k hk c,af]
      ·rw[z8 he]
       rcases hfr with c | ⟨k,hk,c⟩
       ·obtain ⟨rfl,rfl⟩:=hneg c
        simp[c]
       ·simp[show ¬ frI s rope<0 by omega,hlst k hk c,af]
     ·rw[z8 hsm]
      have he5:¬ eJ (aj (ce s (fM s)))->e=5:=fun hn=>by
       rcases h2 with ⟨h,_⟩ | ⟨_,_,h,_⟩ | ⟨_,_,h,_⟩ | ⟨_,h,_⟩
       ·exact h
       ·exact (hn h).elim
       ·exact (hn h).elim
       ·exact (hn h).elim
      have hfr:(frI s rope<0/\x=(0,0)/\f=9)\/¬ frI s rope<0:=by
       by_cases c:frI s rope<0
       ·exact .inl ⟨c,hneg c⟩
       ·exact .inr c
      by_cases hff:eJ (aj (ce s (fM s)))
      ·rw[z7 hff]
       rcases hfr with ⟨c,rfl,rfl⟩ | c
       ·simp[c]
       ·simp[c]
      ·rw[z8 hff]
       have h5:=he5 hff
       subst h5
       rcases hfr with ⟨c,rfl,rfl⟩ | c
       ·simp[c]
       ·simp[c]
    ·
     have hnk1:∀k,k<s.2.length->¬ eJ (aj (ce s (gX s k 1))):=fun k hk h=>hfo ((tc fw fw (by rw[hF1 0 (by omega),hF1 k hk])).2 h)
     have hnkm:∀k,k<s.2.length->¬ eJ (aj (ce s (gX s k (-1)))):=fun k hk h=>hfo ((tc fw fw (by rw[hF1 0 (by omega),hFm k hk])).2 h)
     have big:∀{p:Pg} {a:Fq×List Fq×List Fq} {e:Int},yg p a e->¬ eJ (aj p)->e=5:=fun {p a e} h2 hn=>by
      rcases h2 with ⟨h,_⟩ | ⟨_,_,h,_⟩ | ⟨_,_,h,_⟩ | ⟨_,h,_⟩
      ·exact h
      ·exact (hn h).elim
      ·exact (hn h).elim
      ·exact (hn h).elim
     have hsl:aV s=some ([],5,()):=wH hv (e:=5) (by omega) (A:=A) fun k hk=>by rw[(hAE k hk).1,big (hAE k hk).2 (hnkm k hk)]
     have hfr:(frI s rope<0/\x=(0,0)/\f=9)\/(¬ frI s rope<0/\x=(0,0)/\f=5):=by
      rcases uM s rope with ⟨c,_⟩ | ⟨k,c1,c2,_⟩
      ·exact .inl ⟨c,hneg c⟩
      ·obtain ⟨g1,g2⟩:=hpos k c1 c2
       have hg:=big (hBG k c1).2 (hnk1 k c1)
       refine .inr ⟨by omega,?_,by rw[g2,hg]⟩
       rw[g1,hg]
       rfl
     rw[z8 hfo]
     simp only[hsl,af]
     by_cases hff:eJ (aj (ce s (fM s)))
     ·rw[z7 hff]
      rcases hfr with ⟨c,rfl,rfl⟩ | ⟨c,rfl,rfl⟩
      ·simp[c]
      ·simp[c]
     ·rw[z8 hff]
      have h5:=big h2 hff
      subst h5
      rcases hfr with ⟨c,rfl,rfl⟩ | ⟨c,rfl,rfl⟩
      ·simp[c]
      ·simp[c]
end Go.Proofs.YtfknoaclabfdlaaGreat
