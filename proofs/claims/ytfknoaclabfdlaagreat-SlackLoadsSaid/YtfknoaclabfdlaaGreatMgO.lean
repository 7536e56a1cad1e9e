/- Linear programs over the rationals: what points and multipliers prove; and what tables of the simplex method prove. How great the numbers of a program's tables may get: the product of the rows' factors. Tables of programs: how great the numbers of the artificial columns may get. Tables of numbers as lists of rows, and loops over them. Systems: the matrix of both programs. Programs: sums of numbers times fractions. Programs: which points are feasible, as the program tells it. Systems: their programs, as both programs make them. Programs: feasible points and values, in both programs. The law ProgramForms. Programs: columns and right sides. Programs: the signs of multipliers. Programs: sums of columns below numbers; refutations. Programs: refutations, as the program tells them. Programs: refutations, as they are specified. Programs: refutations are the same in both programs. Systems: the law SlackPrograms. Programs: products of two numbers, their differences and quotients. Programs: a step of the table. Programs: the row that leaves, the sums of artificial rows, and the reduced costs. Programs: the sums of artificial rows, and the reduced costs. Programs: improving a table to the least value. Programs: finding a feasible basis. Programs: the first table. Programs: which programs fit. Programs: what Solve answers. Programs: what Farkas answers. Programs: answers that are proved, in both programs. Programs: points, multipliers and refutations are those of the theory. Programs: the sums of what the solver returns fit, so that its answers are accepted. Programs: what the solver says of a program; the law ProgramBeats. Programs, as they are specified: the layout of the table, and a step of it. Programs, as they are specified: steps until the last row has no negative number. Programs, as they are specified: artificial variables leave the basis. Programs, as they are specified: the first table. Programs, as they are specified: the least value. Programs: the law ProgramSolves. Systems: what the solver says of their programs. Systems: equilibria, as the program checks them. Systems: the law SlackHolds. Systems: the law SlackBounds. Systems: the law SlackLeast. Elimination: a step of two products and a quotient, and tables of rows that change places. Elimination: the theory; a matrix beside a unit matrix, and its table. Elimination: what the program's function answers. Elimination: how great the numbers are, and what a finished table proves. Elimination: what linear.Solve answers. Systems: the law SlackOnly. Systems with other weights. Systems: copies, and doubled weights. r15: a function that makes a system of the caller's own, and the law that changes two of them. Systems: the law SlackLoads. -/
import Derived.KernelRfl
import Derived.Test.YtfknoaclabfdlaaGreatMgN

namespace Go.Proofs.YtfknoaclabfdlaaGreat
namespace Dn
def sq:Nat->(Nat->Rat)->Rat
 | 0,_=>0
 | n+1,f=>sq n f+f n
theorem dh:∀{n:Nat} {f g:Nat->Rat},(∀i,i<n->f i=g i)->sq n f=sq n g
 | 0,_,_,_=>rfl
 | n+1,f,g,h=>by
  simp only[sq]
  rw[dh (n:=n) fun i hi=>h i (by omega),h n (by omega)]
theorem Mh:∀{n:Nat} {f g:Nat->Rat},sq n (fun i=>f i+g i)=sq n f+sq n g
 | 0,_,_=>by simp only[sq];grind
 | n+1,f,g=>by
  simp only[sq]
  rw[Mh]
  grind
theorem qf:∀{n:Nat} {c:Rat} {f:Nat->Rat},sq n (fun i=>c*f i)=c*sq n f
 | 0,c,_=>by simp[sq]
 | n+1,c,f=>by
  simp only[sq]
  rw[qf]
  grind
theorem lw:∀{n:Nat} {f:Nat->Rat},(∀i,i<n->f i=0)->sq n f=0
 | 0,_,_=>rfl
 | n+1,f,h=>by
  simp only[sq]
  rw[lw fun i hi=>h i (by omega),h n (by omega)]
  grind
theorem xK:∀{n:Nat} {f g:Nat->Rat},(∀i,i<n->f i<=g i)->sq n f<=sq n g
 | 0,_,_,_=>Rat.le_refl
 | n+1,f,g,h=>by
  simp only[sq]
  have:=xK (n:=n) fun i hi=>h i (by omega)
  have:=h n (by omega)
  grind
theorem Ik {n:Nat} {f:Nat->Rat} (h:∀i,i<n->0<=f i):0<=sq n f:=by
 have:=xK (n:=n) (f:=fun _=>0) (g:=f) h
 rwa [lw fun _ _=>rfl] at this
theorem AA:∀{m n:Nat} {f:Nat->Nat->Rat},sq m (fun i=>sq n (fun j=>f i j))=sq n (fun j=>sq m (fun i=>f i j))
 | 0,n,f=>by
  simp only[sq]
  exact (lw fun _ _=>rfl).symm
 | m+1,n,f=>by
  simp only[sq]
  rw[AA,Mh]
theorem tD:∀{n:Nat} {f:Nat->Int},sq n (fun i=>(f i:Rat))=((sz n f:Int):Rat)
 | 0,_=>rfl
 | n+1,f=>by
  simp only[sq,sz]
  rw[tD,Rat.intCast_add]
structure Lin where
 n:Nat
 m:Nat
 A:Nat->Nat->Int
 b:Nat->Int
 c:Nat->Int
 kd:Nat->Int
def Lin.row (L:Lin) (x:Nat->Rat) (k:Nat):Rat:=sq L.n fun j=>(L.A k j:Rat)*x j
def Lin.col (L:Lin) (y:Nat->Rat) (j:Nat):Rat:=sq L.m fun k=>(L.A k j:Rat)*y k
def Lin.val (L:Lin) (x:Nat->Rat):Rat:=sq L.n fun j=>(L.c j:Rat)*x j
def Lin.rhs (L:Lin) (y:Nat->Rat):Rat:=sq L.m fun k=>(L.b k:Rat)*y k
structure Lin.Feas (L:Lin) (x:Nat->Rat):Prop where
 pos:∀j,j<L.n->0<=x j
 most:∀k,k<L.m->L.kd k≠2->L.row x k<=L.b k
 least:∀k,k<L.m->L.kd k≠1->(L.b k:Rat)<=L.row x k
structure Lin.Sgn (L:Lin) (y:Nat->Rat):Prop where
 most:∀k,k<L.m->L.kd k=1->y k<=0
 least:∀k,k<L.m->L.kd k=2->0<=y k
structure Lin.Dual (L:Lin) (y:Nat->Rat):Prop extends L.Sgn y where
 col:∀j,j<L.n->L.col y j<=L.c j
structure Lin.Ref (L:Lin) (y:Nat->Rat):Prop extends L.Sgn y where
 col:∀j,j<L.n->L.col y j<=0
 rhs:0<L.rhs y
structure Lin.Ray (L:Lin) (r:Nat->Rat):Prop where
 pos:∀j,j<L.n->0<=r j
 most:∀k,k<L.m->L.kd k≠2->L.row r k<=0
 least:∀k,k<L.m->L.kd k≠1->0<=L.row r k
 val:L.val r<0
section
variable {L:Lin}
theorem Lin.swap (x y:Nat->Rat):sq L.n (fun j=>L.col y j*x j)=sq L.m (fun k=>y k*L.row x k):=by
 have e1:sq L.n (fun j=>L.col y j*x j)=sq L.n (fun j=>sq L.m fun k=>(L.A k j:Rat)*y k*x j):=dh fun j _=>by
  unfold Lin.col
  rw[<-qf (c:=x j) |>fun h=>(by rw[h];grind:(sq L.m fun k=>x j*((L.A k j:Rat)*y k))=sq L.m (fun k=>(L.A k j:Rat)*y k)*x j)]
  exact dh fun k _=>by grind
 rw[e1,AA]
 refine dh fun k _=>?_
 unfold Lin.row
 rw[<-qf]
 exact dh fun j _=>by grind
theorem SS {y r b:Rat} (h:(y<=0/\r<=b)\/(0<=y/\b<=r)\/r=b):b*y<=y*r:=by
 rcases h with ⟨h1,h2⟩ | ⟨h1,h2⟩ | h
 ·have:0<=(-y)*(b - r):=Rat.mul_nonneg (by grind) (by grind)
  grind
 ·have:0<=y*(r - b):=Rat.mul_nonneg h1 (by grind)
  grind
 ·subst h;grind
theorem Lin.Sgn.rows {x y:Nat->Rat} (h:L.Sgn y) {b:Nat->Rat} (h1:∀k,k<L.m->L.kd k≠2->L.row x k<=b k) (h2:∀k,k<L.m->L.kd k≠1->b k<=L.row x k):sq L.m (fun k=>b k*y k)<=sq L.m (fun k=>y k*L.row x k):=xK fun k hk=>by
 apply SS
 by_cases e1:L.kd k=1
 ·exact .inl ⟨h.most k hk e1,h1 k hk (by omega)⟩
 ·by_cases e2:L.kd k=2
  ·exact .inr (.inl ⟨h.least k hk e2,h2 k hk e1⟩)
  ·have a1:=h1 k hk e2
   have a2:=h2 k hk e1
   exact .inr (.inr (Rat.le_antisymm a1 a2))
theorem Lin.weak {x y:Nat->Rat} (hx:L.Feas x) (hy:L.Dual y):L.rhs y<=L.val x:=by
 have h1:=hy.rows (x:=x) (b:=fun k=>(L.b k:Rat)) hx.most hx.least
 rw[<-L.swap x y] at h1
 refine Rat.le_trans h1 (xK fun j hj=>?_)
 exact Rat.mul_le_mul_of_nonneg_right (hy.col j hj) (hx.pos j hj)
theorem Lin.Ref.none {x y:Nat->Rat} (hy:L.Ref y) (hx:L.Feas x):False:=by
 have h1:=hy.rows (x:=x) (b:=fun k=>(L.b k:Rat)) hx.most hx.least
 rw[<-L.swap x y] at h1
 have h2:sq L.n (fun j=>L.col y j*x j)<=sq L.n (fun _=>0):=xK fun j hj=>by
  have:0<=(-L.col y j)*x j:=Rat.mul_nonneg (by have:=hy.col j hj;grind) (hx.pos j hj)
  grind
 rw[lw (f:=fun _=>0) fun _ _=>rfl] at h2
 have h3:=hy.rhs
 unfold Lin.rhs at h3
 grind
theorem Lin.Ray.none {r y:Nat->Rat} (hr:L.Ray r) (hy:L.Dual y):False:=by
 have h1:=hy.rows (x:=r) (b:=fun _=>0) hr.most hr.least
 rw[<-L.swap r y,lw (f:=fun k=>0*y k) fun k _=>by grind] at h1
 have h2:sq L.n (fun j=>L.col y j*r j)<=L.val r:=xK fun j hj=>Rat.mul_le_mul_of_nonneg_right (hy.col j hj) (hr.pos j hj)
 have h3:=hr.val
 grind
end
structure Lay where
 N:Nat
 sl:Nat->Nat
 σ:Nat->Int
def Lay.M (Y:Lay) (L:Lin) (k j:Nat):Int :=
 if j<L.n then Y.σ k*L.A k j else if j<Y.N then (if L.kd k≠3/\j=Y.sl k then Y.σ k*(if L.kd k=1 then 1 else -1) else 0) else if j<Y.N+L.m then (if j=Y.N+k then 1 else 0) else Y.σ k*L.b k
structure Lay.ok (Y:Lay) (L:Lin):Prop where
 n:L.n<=Y.N
 kd:∀k,k<L.m->L.kd k=1\/L.kd k=2\/L.kd k=3
 sl:∀k,k<L.m->L.kd k≠3->L.n<=Y.sl k/\Y.sl k<Y.N
 inj:∀k l,k<L.m->l<L.m->L.kd k≠3->L.kd l≠3->Y.sl k=Y.sl l->k=l
 sg:∀k,k<L.m->Y.σ k=1\/Y.σ k= -1
 b:∀k,k<L.m->0<=Y.σ k*L.b k
abbrev Lay.R (Y:Lay) (L:Lin):Nat:=Y.N+L.m
abbrev Lay.w (Y:Lay) (L:Lin):Nat:=Y.N+L.m+1
section
variable {L:Lin} {Y:Lay}
theorem Lay.M_x {k j:Nat} (hj:j<L.n):Y.M L k j=Y.σ k*L.A k j:=by unfold Lay.M;rw[if_pos hj]
theorem Lay.M_sl (h:Y.ok L) {k:Nat} (hk:k<L.m) (h3:L.kd k≠3):Y.M L k (Y.sl k)=Y.σ k*(if L.kd k=1 then 1 else -1):=by
 obtain ⟨h1,h2⟩:=h.sl k hk h3
 unfold Lay.M
 rw[if_neg (by omega),if_pos h2,if_pos ⟨h3,rfl⟩]
theorem Lay.M_slo {k j:Nat} (h1:L.n<=j) (h2:j<Y.N) (h:¬ (L.kd k≠3/\j=Y.sl k)):Y.M L k j=0:=by
 unfold Lay.M
 rw[if_neg (by omega),if_pos h2,if_neg h]
theorem Lay.M_a (h:Y.ok L) {k i:Nat} (hi:i<L.m):Y.M L k (Y.N+i)=if k=i then 1 else 0:=by
 have:=h.n
 unfold Lay.M
 rw[if_neg (by omega),if_neg (by omega),if_pos (by omega)]
 by_cases e:k=i
 ·rw[if_pos e,if_pos (by omega)]
 ·rw[if_neg e,if_neg (by omega)]
theorem Lay.M_R (h:Y.ok L) {k:Nat}:Y.M L k (Y.R L)=Y.σ k*L.b k:=by
 have:=h.n
 unfold Lay.M Lay.R
 rw[if_neg (by omega),if_neg (by omega),if_neg (by omega)]
theorem Lay.ss (h:Y.ok L) {k:Nat} (hk:k<L.m):Y.σ k*Y.σ k=1:=by
 rcases h.sg k hk with e | e<;>rw[e]<;>rfl
theorem Lay.ss' (h:Y.ok L) {k:Nat} (hk:k<L.m) (x:Int):Y.σ k*(Y.σ k*x)=x:=by rw[<-Int.mul_assoc,Lay.ss h hk,Int.one_mul]
abbrev Lay.Val (Y:Lay) (L:Lin) (S:Sx):Prop:=Dn.Val L.m (Y.w L) Y.N (Y.R L) (Y.M L) S
theorem Lay.art (h:Y.ok L):(∀i,i<L.m->Y.N+i<Y.w L)/\∀k,k<L.m->∀i,i<L.m->Y.M L k (Y.N+i)=if k=i then 1 else 0 :=
 ⟨fun i hi=>by unfold Lay.w;omega,fun k _ i hi=>Lay.M_a h hi⟩
theorem Lay.first (h:Y.ok L):Y.Val L ⟨Y.M L,1,fun i=>Y.N+i⟩:=by
 refine ⟨Tb.first (Lay.art h).1 (Lay.art h).2,fun i hi=>?_,fun i hi=>?_⟩
 ·show 0<=Y.M L i (Y.R L)
  rw[Lay.M_R h]
  exact h.b i hi
 ·show Y.N+i≠Y.N+L.m
  omega
def uD (m R:Nat) (S:Sx) (j:Nat):Int:=sz m fun i=>if S.β i=j then S.T i R else 0
theorem mO {S:Sx} (hv:Y.Val L S) (j:Nat):0<=uD L.m (Y.R L) S j:=iI fun i hi=>by
 split
 ·exact hv.feas i hi
 ·exact Int.le_refl _
theorem uI {m n:Nat} {β:Nat->Nat} {t f:Nat->Int}:(sz m fun i=>if β i<n then t i*f (β i) else 0)=sz n fun j=>f j*sz m fun i=>if β i=j then t i else 0:=by
 have e:∀i,i<m->(if β i<n then t i*f (β i) else 0)=sz n fun j=>if β i=j then t i*f j else 0:=fun i _=>by
  by_cases h:β i<n
  ·rw[if_pos h,eQ h fun j _ hne=>if_neg (Ne.symm hne),if_pos rfl]
  ·rw[if_neg h,gt fun j hj=>if_neg (by omega)]
 rw[bE e,tK]
 refine bE fun j _=>?_
 rw[<-gd]
 refine bE fun i _=>?_
 split
 ·rw[Int.mul_comm]
 ·rw[Int.mul_zero]
def Er (m N:Nat) (S:Sx) (q:Nat):Prop:=∀i,i<m->N<=S.β i->S.T i q=0
theorem Kz (h:Y.ok L) {S:Sx} (hv:Y.Val L S) {q k:Nat} (hq:q<Y.w L) (hk:k<L.m) (ha:Er L.m Y.N S q) :
  S.d*(Y.σ k*Y.M L k q)=(sz L.n fun j=>L.A k j*sz L.m fun i=>if S.β i=j then S.T i q else 0)+(if L.kd k≠3 then (if L.kd k=1 then 1 else -1)*sz L.m (fun i=>if S.β i=Y.sl k then S.T i q else 0) else 0):=by
 have h1:=hv.tb.co k hk q hq
 have e1:∀i,i<L.m->S.T i q*Y.M L k (S.β i)=(if S.β i<L.n then S.T i q*(Y.σ k*L.A k (S.β i)) else 0)+(if L.kd k≠3 then (Y.σ k*(if L.kd k=1 then 1 else -1))*(if S.β i=Y.sl k then S.T i q else 0) else 0):=fun i hi=>by
  by_cases c1:S.β i<L.n
  ·rw[if_pos c1,Lay.M_x c1]
   by_cases c2:L.kd k≠3
   ·rw[if_pos c2,if_neg (show ¬ S.β i=Y.sl k by have:=(h.sl k hk c2).1;omega)];omega
   ·rw[if_neg c2];omega
  ·rw[if_neg c1]
   by_cases c3:S.β i<Y.N
   ·by_cases c4:L.kd k≠3/\S.β i=Y.sl k
    ·rw[c4.2,Lay.M_sl h hk c4.1,if_pos c4.1,if_pos rfl,Int.mul_comm];omega
    ·rw[Lay.M_slo (by omega) c3 c4]
     by_cases c2:L.kd k≠3
     ·rw[if_pos c2,if_neg (show ¬ S.β i=Y.sl k from fun e=>c4 ⟨c2,e⟩)];omega
     ·rw[if_neg c2];omega
   ·rw[ha i hi (by omega)]
    by_cases c2:L.kd k≠3
    ·rw[if_pos c2,if_neg (show ¬ S.β i=Y.sl k by have:=(h.sl k hk c2).2;omega)];omega
    ·rw[if_neg c2];omega
 rw[bE e1,nl,uI (f:=fun j=>Y.σ k*L.A k j)] at h1
 have e2:(sz L.m fun i=>if L.kd k≠3 then (Y.σ k*(if L.kd k=1 then 1 else -1))*(if S.β i=Y.sl k then S.T i q else 0) else 0)=Y.σ k*(if L.kd k≠3 then (if L.kd k=1 then 1 else -1)*sz L.m (fun i=>if S.β i=Y.sl k then S.T i q else 0) else 0):=by
  by_cases c2:L.kd k≠3
  ·simp only[c2,not_false_eq_true,if_true,ne_eq]
   rw[gd,Int.mul_assoc]
  ·have c2:L.kd k=3:=by omega
   simp only[c2,ne_eq,not_true_eq_false,if_false]
   rw[gt fun _ _=>rfl,Int.mul_zero]
 have e3:(sz L.n fun j=>Y.σ k*L.A k j*sz L.m fun i=>if S.β i=j then S.T i q else 0)=Y.σ k*sz L.n fun j=>L.A k j*sz L.m fun i=>if S.β i=j then S.T i q else 0:=by
  rw[<-gd]
  exact bE fun j _=>by rw[Int.mul_assoc]
 rw[e2,e3,<-Int.mul_add] at h1
 have h2:=Lay.ss h hk
 have:S.d*(Y.σ k*Y.M L k q)=Y.σ k*(S.d*Y.M L k q):=by grind
 rw[this,h1,<-Int.mul_assoc,h2,Int.one_mul]
theorem A0 {x y d:Int} (hd:0<d) (h:x<=y*d):(x:Rat) / (d:Rat)<=(y:Rat):=by
 have hd':(0:Rat)<(d:Rat):=by have:=Rat.intCast_lt_intCast.2 hd;simpa using this
 have h':(x:Rat)<=(y:Rat)*(d:Rat):=by rw[<-Rat.intCast_mul];exact Rat.intCast_le_intCast.2 h
 refine Rat.le_of_mul_le_mul_right ?_ hd'
 have:(x:Rat) / (d:Rat)*(d:Rat)=(x:Rat):=by grind
 rw[this]
 exact h'
theorem Fi {x y d:Int} (hd:0<d) (h:y*d<=x):(y:Rat)<=(x:Rat) / (d:Rat):=by
 have hd':(0:Rat)<(d:Rat):=by have:=Rat.intCast_lt_intCast.2 hd;simpa using this
 have h':(y:Rat)*(d:Rat)<=(x:Rat):=by rw[<-Rat.intCast_mul];exact Rat.intCast_le_intCast.2 h
 refine Rat.le_of_mul_le_mul_right ?_ hd'
 have:(x:Rat) / (d:Rat)*(d:Rat)=(x:Rat):=by grind
 rw[this]
 exact h'
theorem Oy {x d:Rat} (hx:0<x) (hd:0<d):0<x / d:=by
 have e:x / d*d=x:=by grind
 refine Rat.not_le.1 fun h=>?_
 have h1:=Rat.mul_le_mul_of_nonneg_right h (Rat.le_of_lt hd)
 rw[e,Rat.zero_mul] at h1
 exact Rat.not_le.2 hx h1
theorem qT {n:Nat} {a X:Nat->Int} {d:Int} (hd:0<d):sq n (fun j=>(a j:Rat)*((X j:Rat) / (d:Rat)))=((sz n fun j=>a j*X j:Int):Rat) / (d:Rat):=by
 have hd':(0:Rat)<(d:Rat):=by have:=Rat.intCast_lt_intCast.2 hd;simpa using this
 have e:sq n (fun j=>(a j:Rat)*((X j:Rat) / (d:Rat)))=sq n (fun j=>(1 / (d:Rat))*((a j*X j:Int):Rat)):=dh fun j _=>by
  rw[Rat.intCast_mul]
  grind
 rw[e,qf,tD]
 grind
def A7 (m R:Nat) (S:Sx) (j:Nat):Rat:=(uD m R S j:Rat) / (S.d:Rat)
theorem xj (h:Y.ok L) {S:Sx} (hv:Y.Val L S) (ha:Er L.m Y.N S (Y.R L)):L.Feas (A7 L.m (Y.R L) S):=by
 have hd:=hv.tb.dpos
 have row:∀k,k<L.m->S.d*L.b k=(sz L.n fun j=>L.A k j*uD L.m (Y.R L) S j)+(if L.kd k≠3 then (if L.kd k=1 then 1 else -1)*uD L.m (Y.R L) S (Y.sl k) else 0):=fun k hk=>by
  have h1:=Kz h hv (q:=Y.R L) (by unfold Lay.R Lay.w;omega) hk ha
  rw[Lay.M_R h,Lay.ss' h hk] at h1
  exact h1
 have rowq:∀k,L.row (A7 L.m (Y.R L) S) k=((sz L.n fun j=>L.A k j*uD L.m (Y.R L) S j:Int):Rat) / (S.d:Rat):=fun k=>qT hd
 refine ⟨fun j _=>?_,fun k hk h2=>?_,fun k hk h1=>?_⟩
 ·have:=Fi (x:=uD L.m (Y.R L) S j) (y:=0) hd (by rw[Int.zero_mul];exact mO hv j)
  simpa [A7] using this
 ·rw[rowq]
  have h3:=row k hk
  have h4:=mO hv (Y.sl k)
  refine A0 hd ?_
  rw[Int.mul_comm,h3]
  rcases h.kd k hk with e | e | e
  ·simp[e];omega
  ·exact (h2 e).elim
  ·simp[e]
 ·rw[rowq]
  have h3:=row k hk
  have h4:=mO hv (Y.sl k)
  refine Fi hd ?_
  rw[Int.mul_comm,h3]
  rcases h.kd k hk with e | e | e
  ·exact (h1 e).elim
  ·simp[e];omega
  ·simp[e]
def rS (m N:Nat) (wc:Nat->Int) (S:Sx) (σ:Nat->Int) (k:Nat):Int:=σ k*sz m fun i=>wc (S.β i)*S.T i (N+k)
def sO (m N:Nat) (wc:Nat->Int) (S:Sx) (σ:Nat->Int) (k:Nat):Rat:=(rS m N wc S σ k:Rat) / (S.d:Rat)
theorem P5 (h:Y.ok L) {S:Sx} (hv:Y.Val L S) {wc:Nat->Int} {j:Nat} (hj:j<L.n):zr L.m wc S j=wc j*S.d - sz L.m fun k=>L.A k j*rS L.m Y.N wc S Y.σ k:=by
 have hw:j<Y.w L:=by have:=h.n;unfold Lay.w;omega
 rw[uj hv.tb (Lay.art h).1 (Lay.art h).2 hw]
 congr 1
 refine bE fun k hk=>?_
 rw[Lay.M_x hj]
 unfold rS
 grind
theorem GL (h:Y.ok L) {S:Sx} (hv:Y.Val L S) {wc:Nat->Int} {k:Nat} (hk:k<L.m) (h3:L.kd k≠3):zr L.m wc S (Y.sl k)=wc (Y.sl k)*S.d - (if L.kd k=1 then 1 else -1)*rS L.m Y.N wc S Y.σ k:=by
 obtain ⟨h1,h2⟩:=h.sl k hk h3
 rw[uj hv.tb (Lay.art h).1 (Lay.art h).2 (by unfold Lay.w;omega)]
 congr 1
 rw[eQ hk fun l hl hne=>by rw[Lay.M_slo h1 h2 fun e=>hne (h.inj l k hl hk e.1 h3 e.2.symm),Int.mul_zero],Lay.M_sl h hk h3]
 unfold rS
 grind
theorem Gm (h:Y.ok L) {S:Sx} (hv:Y.Val L S) {wc:Nat->Int}:zr L.m wc S (Y.R L)=wc (Y.R L)*S.d - sz L.m fun k=>L.b k*rS L.m Y.N wc S Y.σ k:=by
 rw[uj hv.tb (Lay.art h).1 (Lay.art h).2 (by unfold Lay.R Lay.w;omega)]
 congr 1
 refine bE fun k hk=>?_
 rw[Lay.M_R h]
 unfold rS
 grind
theorem zQ (h:Y.ok L) {S:Sx} (hv:Y.Val L S) {wc:Nat->Int} (hw:∀j,L.n<=j->j<Y.N->wc j=0) (hz:∀j,j<Y.N->0<=zr L.m wc S j):L.Sgn (sO L.m Y.N wc S Y.σ):=by
 have hd:=hv.tb.dpos
 refine ⟨fun k hk e=>?_,fun k hk e=>?_⟩
 ·obtain ⟨h1,h2⟩:=h.sl k hk (by omega)
  have h3:=GL h hv (wc:=wc) hk (by omega)
  have h4:=hz _ h2
  rw[h3,hw _ h1 h2,if_pos e] at h4
  have:=A0 (x:=rS L.m Y.N wc S Y.σ k) (y:=0) hd (by omega)
  simpa [sO] using this
 ·obtain ⟨h1,h2⟩:=h.sl k hk (by omega)
  have h3:=GL h hv (wc:=wc) hk (by omega)
  have h4:=hz _ h2
  rw[h3,hw _ h1 h2,if_neg (by omega)] at h4
  have:=Fi (x:=rS L.m Y.N wc S Y.σ k) (y:=0) hd (by omega)
  simpa [sO] using this
def cj (L:Lin) (j:Nat):Int:=if j<L.n then L.c j else 0
theorem EV (h:Y.ok L) {S:Sx} (hv:Y.Val L S) (hz:∀j,j<Y.N->0<=zr L.m (cj L) S j):L.Dual (sO L.m Y.N (cj L) S Y.σ):=by
 have hd:=hv.tb.dpos
 refine ⟨zQ h hv (fun j h1 _=>if_neg (by omega)) hz,fun j hj=>?_⟩
 have h1:=hz j (by have:=h.n;omega)
 rw[P5 h hv hj] at h1
 have e:L.col (sO L.m Y.N (cj L) S Y.σ) j=((sz L.m fun k=>L.A k j*rS L.m Y.N (cj L) S Y.σ k:Int):Rat) / (S.d:Rat):=qT hd
 rw[e]
 have e2:cj L j=L.c j:=if_pos hj
 rw[e2] at h1
 exact A0 hd (by omega)
theorem Dd (h:Y.ok L) {S:Sx} (hv:Y.Val L S):L.val (A7 L.m (Y.R L) S)=((sz L.m fun i=>cj L (S.β i)*S.T i (Y.R L):Int):Rat) / (S.d:Rat)/\L.rhs (sO L.m Y.N (cj L) S Y.σ)=((sz L.m fun i=>cj L (S.β i)*S.T i (Y.R L):Int):Rat) / (S.d:Rat):=by
 have hd:=hv.tb.dpos
 constructor
 ·have e:L.val (A7 L.m (Y.R L) S)=((sz L.n fun j=>L.c j*uD L.m (Y.R L) S j:Int):Rat) / (S.d:Rat):=qT hd
  rw[e]
  congr 2
  rw[show (sz L.n fun j=>L.c j*uD L.m (Y.R L) S j)=sz L.n fun j=>L.c j*sz L.m fun i=>if S.β i=j then S.T i (Y.R L) else 0 from rfl,<-uI (f:=L.c)]
  refine bE fun i _=>?_
  unfold cj
  split
  ·rw[Int.mul_comm]
  ·rw[Int.zero_mul]
 ·have e:L.rhs (sO L.m Y.N (cj L) S Y.σ)=((sz L.m fun k=>L.b k*rS L.m Y.N (cj L) S Y.σ k:Int):Rat) / (S.d:Rat):=qT hd
  rw[e]
  congr 2
  have h1:=Gm h hv (wc:=cj L)
  have e0:cj L (Y.R L)=0:=if_neg (by have:=h.n;unfold Lay.R;omega)
  unfold zr at h1
  rw[e0] at h1
  omega
def fN (N:Nat) (j:Nat):Int:=if N<=j then 1 else 0
theorem Hw (h:Y.ok L) {S:Sx} (hv:Y.Val L S) (hz:∀j,j<Y.N->0<=zr L.m (fN Y.N) S j) (hp:0<sz L.m fun i=>fN Y.N (S.β i)*S.T i (Y.R L)):L.Ref (sO L.m Y.N (fN Y.N) S Y.σ):=by
 have hd:=hv.tb.dpos
 refine ⟨zQ h hv (fun j _ h2=>if_neg (by omega)) hz,fun j hj=>?_,?_⟩
 ·have h1:=hz j (by have:=h.n;omega)
  rw[P5 h hv hj] at h1
  have e:L.col (sO L.m Y.N (fN Y.N) S Y.σ) j=((sz L.m fun k=>L.A k j*rS L.m Y.N (fN Y.N) S Y.σ k:Int):Rat) / (S.d:Rat):=qT hd
  have e2:fN Y.N j=0:=if_neg (by have:=h.n;omega)
  rw[e2] at h1
  have:=A0 (x:=sz L.m fun k=>L.A k j*rS L.m Y.N (fN Y.N) S Y.σ k) (y:=0) hd (by omega)
  rw[e]
  simpa using this
 ·have e:L.rhs (sO L.m Y.N (fN Y.N) S Y.σ)=((sz L.m fun k=>L.b k*rS L.m Y.N (fN Y.N) S Y.σ k:Int):Rat) / (S.d:Rat):=qT hd
  have h1:=Gm h hv (wc:=fN Y.N)
  unfold zr at h1
  have h2:0<sz L.m fun k=>L.b k*rS L.m Y.N (fN Y.N) S Y.σ k:=by omega
  rw[e]
  have hd':(0:Rat)<(S.d:Rat):=by have:=Rat.intCast_lt_intCast.2 hd;simpa using this
  have h2':(0:Rat)<((sz L.m fun k=>L.b k*rS L.m Y.N (fN Y.N) S Y.σ k:Int):Rat):=by have:=Rat.intCast_lt_intCast.2 h2;simpa using this
  exact Oy h2' hd'
def nv (m:Nat) (S:Sx) (q j:Nat):Int:=(if j=q then S.d else 0) - sz m fun i=>if S.β i=j then S.T i q else 0
theorem Hv (h:Y.ok L) {S:Sx} (hv:Y.Val L S) {q:Nat} (hq:q<Y.N) (ha:Er L.m Y.N S q) (hz:zr L.m (cj L) S q<0) (hno:∀i,i<L.m->S.T i q<=0):L.Ray (fun j=>(nv L.m S q j:Rat)):=by
 have hd:=hv.tb.dpos
 have hqw:q<Y.w L:=by unfold Lay.w;omega
 have pos:∀j,0<=nv L.m S q j:=fun j=>by
  unfold nv
  have h1:(sz L.m fun i=>if S.β i=j then S.T i q else 0)<=sz L.m fun _=>0:=qx fun i hi=>by
   split
   ·exact hno i hi
   ·exact Int.le_refl _
  rw[gt (f:=fun _=>0) fun _ _=>rfl] at h1
  split<;>omega
 have row:∀k,k<L.m->(sz L.n fun j=>L.A k j*nv L.m S q j)=(if L.kd k≠3 then -(if L.kd k=1 then 1 else -1)*nv L.m S q (Y.sl k) else 0):=fun k hk=>by
  have h1:=Kz h hv hqw hk ha
  have e1:(sz L.n fun j=>L.A k j*nv L.m S q j)=(if q<L.n then L.A k q*S.d else 0) - sz L.n fun j=>L.A k j*sz L.m fun i=>if S.β i=j then S.T i q else 0:=by
   have e0:(if q<L.n then L.A k q*S.d else 0)=sz L.n fun j=>if j=q then L.A k q*S.d else 0:=by
    by_cases e:q<L.n
    ·rw[if_pos e,eQ e fun j _ hne=>if_neg hne,if_pos rfl]
    ·rw[if_neg e,gt fun j hj=>if_neg (by omega)]
   rw[e0,<-xd]
   refine bE fun j _=>?_
   unfold nv
   by_cases e:j=q
   ·subst e;rw[if_pos rfl,if_pos rfl];grind
   ·rw[if_neg e,if_neg e];grind
  rw[e1]
  by_cases c1:q<L.n
  ·rw[if_pos c1]
   rw[Lay.M_x c1,Lay.ss' h hk] at h1
   by_cases c2:L.kd k≠3
   ·rw[if_pos c2] at h1 ⊢
    unfold nv
    rw[if_neg (show ¬ Y.sl k=q by have:=(h.sl k hk c2).1;omega)]
    grind
   ·rw[if_neg c2] at h1 ⊢
    grind
  ·rw[if_neg c1]
   by_cases c2:L.kd k≠3
   ·rw[if_pos c2] at h1 ⊢
    unfold nv
    by_cases c3:Y.sl k=q
    ·rw[if_pos c3]
     rw[<-c3] at h1 ⊢
     rw[Lay.M_sl h hk c2,Lay.ss' h hk] at h1
     rcases h.kd k hk with e | e | e
     ·simp[e] at h1 ⊢;omega
     ·simp[e] at h1 ⊢;omega
     ·exact (c2 e).elim
    ·rw[if_neg c3]
     rw[Lay.M_slo (by omega) hq fun e=>c3 e.2.symm] at h1
     rcases h.kd k hk with e | e | e
     ·simp[e] at h1 ⊢;omega
     ·simp[e] at h1 ⊢;omega
     ·exact (c2 e).elim
   ·rw[if_neg c2] at h1 ⊢
    rw[Lay.M_slo (by omega) hq fun e=>c2 e.1] at h1
    omega
 have cast:∀a:Nat->Int,sq L.n (fun j=>(a j:Rat)*(nv L.m S q j:Rat))=((sz L.n fun j=>a j*nv L.m S q j:Int):Rat):=fun a=>by
  rw[<-tD]
  exact dh fun j _=>by rw[Rat.intCast_mul]
 refine ⟨fun j _=>by have:=Rat.intCast_le_intCast.2 (pos j);simpa using this,fun k hk h2=>?_,fun k hk h1=>?_,?_⟩
 ·have e:L.row (fun j=>(nv L.m S q j:Rat)) k=((sz L.n fun j=>L.A k j*nv L.m S q j:Int):Rat):=cast _
  rw[e,row k hk]
  have h4:=pos (Y.sl k)
  have h5:(if L.kd k≠3 then -(if L.kd k=1 then 1 else -1)*nv L.m S q (Y.sl k) else 0)<=0:=by
   rcases h.kd k hk with e | e | e
   ·simp[e];omega
   ·exact (h2 e).elim
   ·simp[e]
  have:=Rat.intCast_le_intCast.2 h5
  simpa using this
 ·have e:L.row (fun j=>(nv L.m S q j:Rat)) k=((sz L.n fun j=>L.A k j*nv L.m S q j:Int):Rat):=cast _
  rw[e,row k hk]
  have h4:=pos (Y.sl k)
  have h5:0<=(if L.kd k≠3 then -(if L.kd k=1 then 1 else -1)*nv L.m S q (Y.sl k) else 0):=by
   rcases h.kd k hk with e | e | e
   ·exact (h1 e).elim
   ·simp[e];omega
   ·simp[e]
  have:=Rat.intCast_le_intCast.2 h5
  simpa using this
 ·have e:L.val (fun j=>(nv L.m S q j:Rat))=((sz L.n fun j=>L.c j*nv L.m S q j:Int):Rat):=cast _
  rw[e]
  have e2:(sz L.n fun j=>L.c j*nv L.m S q j)=zr L.m (cj L) S q:=by
   unfold zr
   have e3:(sz L.m fun i=>cj L (S.β i)*S.T i q)=sz L.n fun j=>L.c j*sz L.m fun i=>if S.β i=j then S.T i q else 0:=by
    rw[<-uI (f:=L.c)]
    refine bE fun i _=>?_
    unfold cj
    split
    ·rw[Int.mul_comm]
    ·rw[Int.zero_mul]
   rw[e3]
   have e4:cj L q*S.d=sz L.n fun j=>if j=q then L.c j*S.d else 0:=by
    unfold cj
    by_cases c:q<L.n
    ·rw[if_pos c,eQ c fun j _ hne=>if_neg hne,if_pos rfl]
    ·rw[if_neg c,gt fun j hj=>if_neg (by omega),Int.zero_mul]
   rw[e4,<-xd]
   refine bE fun j _=>?_
   unfold nv
   by_cases c:j=q
   ·rw[if_pos c,if_pos c];grind
   ·rw[if_neg c,if_neg c];grind
  rw[e2]
  have:=Rat.intCast_lt_intCast.2 hz
  simpa using this
end
theorem ye {a b:Nat} {f:Nat->Int}:sz (a+b) f=sz a f+sz b fun i=>f (a+i):=by
 induction b with
 | zero=>simp[sz]
 | succ b ih =>
  rw[show a+(b+1)=a+b+1 by omega,sz,sz,ih]
  omega
theorem MX {m w:Nat} {γ:Nat->Nat} {f:Nat->Int} (hlt:∀p,p<m->γ p<w) (hinj:∀p q,p<m->q<m->γ p=γ q->p=q) (hf:∀j,j<w->0<=f j):(sz m fun p=>f (γ p))<=sz w f:=by
 have e:(sz m fun p=>f (γ p))=sz w fun j=>f j*sz m fun p=>if γ p=j then 1 else 0:=by
  rw[bE (g:=fun p=>sz w fun j=>if γ p=j then f j else 0) fun p hp=>by
   rw[eQ (hlt p hp) fun j _ hne=>if_neg (Ne.symm hne),if_pos rfl],tK]
  refine bE fun j _=>?_
  rw[<-gd]
  refine bE fun p _=>?_
  split<;>omega
 rw[e]
 refine qx fun j hj=>?_
 have hc:(sz m fun p=>if γ p=j then (1:Int) else 0)<=1:=by
  by_cases h:∃p,p<m/\γ p=j
  ·obtain ⟨p,hp,rfl⟩:=h
   rw[eQ hp fun q hq hne=>if_neg fun e'=>hne (hinj q p hq hp e'),if_pos rfl]
   exact Int.le_refl _
  ·rw[gt fun p hp=>if_neg fun e'=>h ⟨p,hp,e'⟩]
   omega
 have:=Int.mul_le_mul_of_nonneg_left hc (hf j hj)
 omega
def Lin.F (L:Lin) (k:Nat):Int:=1+ab (L.b k)+sz L.n fun j=>ab (L.A k j)
def Lin.F0 (L:Lin):Int:=1+sz L.n fun j=>ab (L.c j)
theorem Lin.F_pos (L:Lin) (k:Nat):1<=L.F k:=by
 have h1:=cR (L.b k)
 have h2:0<=sz L.n fun j=>ab (L.A k j):=iI fun j _=>cR _
 unfold Lin.F
 omega
theorem Lin.F0_pos (L:Lin):1<=L.F0:=by
 have h2:0<=sz L.n fun j=>ab (L.c j):=iI fun j _=>cR _
 unfold Lin.F0
 omega
def Lin.P (L:Lin):Int:=pz L.m L.F
theorem Mr:∀{n:Nat} {f:Nat->Int},(∀i,i<n->1<=f i)->1<=pz n f
 | 0,_,_=>by simp[pz]
 | n+1,f,h=>by
  simp only[pz]
  have h1:=h 0 (by omega)
  have h2:=Mr (n:=n) (f:=fun i=>f (i+1)) fun i hi=>h (i+1) (by omega)
  have:=Int.mul_le_mul h1 h2 (by omega) (by omega)
  omega
theorem Lin.P_pos (L:Lin):1<=L.P:=Mr fun k _=>L.F_pos k
section
variable {L:Lin} {Y:Lay}
theorem Lx (h:Y.ok L) {k:Nat} (hk:k<L.m) (x:Int):ab (Y.σ k*x)=ab x:=by
 rw[qj]
 rcases h.sg k hk with e | e<;>rw[e]<;>simp[ab]
theorem GI (h:Y.ok L) {k:Nat} (hk:k<L.m) {f:Nat->Int} (h1:∀j,j<L.n->f j=ab (Y.M L k j)) (hR:f (Y.R L)=ab (Y.M L k (Y.R L)))
  (h2:((∀j,L.n<=j->j<Y.N->f j=0)/\∀i,i<L.m->f (Y.N+i)=if i=k then 1 else 0)\/(L.kd k≠3/\(∀j,L.n<=j->j<Y.N->f j=if j=Y.sl k then 1 else 0)/\∀i,i<L.m->f (Y.N+i)=0)) :
  sz (Y.w L) f=L.F k:=by
 have hn:=h.n
 have e:Y.w L=(L.n+(Y.N - L.n))+L.m+1:=by unfold Lay.w;omega
 rw[e,sz,ye,ye,show L.n+(Y.N - L.n)+L.m=Y.R L by unfold Lay.R;omega,hR,Lay.M_R h,Lx h hk]
 have e1:sz L.n f=sz L.n fun j=>ab (L.A k j):=bE fun j hj=>by rw[h1 j hj,Lay.M_x hj,Lx h hk]
 rw[e1,show L.n+(Y.N - L.n)=Y.N by omega]
 unfold Lin.F
 rcases h2 with ⟨h3,h4⟩ | ⟨h3,h4,h5⟩
 ·rw[gt fun i hi=>h3 (L.n+i) (by omega) (by omega),eQ hk fun i hi hne=>by rw[h4 i hi,if_neg hne],h4 k hk,if_pos rfl]
  omega
 ·obtain ⟨h6,h7⟩:=h.sl k hk h3
  have a1:(sz (Y.N - L.n) fun i=>f (L.n+i))=1:=by
   rw[eQ (k:=Y.sl k - L.n) (by omega) fun i hi hne=>by rw[h4 _ (by omega) (by omega),if_neg (by omega)],h4 _ (by omega) (by omega),if_pos (by omega)]
  have a2:(sz L.m fun i=>f (Y.N+i))=0:=gt fun i hi=>h5 i hi
  rw[a1,a2]
  omega
theorem Pu (h:Y.ok L) {γ:Nat->Nat} (hlt:∀p,p<L.m->γ p<Y.w L):dc L.m (Y.M L) γ=0\/∀k,k<L.m->(sz L.m fun p=>ab (Y.M L k (γ p)))<=L.F k:=by
 have zero:dc L.m (Y.M L) γ=0->dc L.m (Y.M L) γ=0\/∀k,k<L.m->(sz L.m fun p=>ab (Y.M L k (γ p)))<=L.F k:=fun e=>.inl e
 by_cases hinj:∀p q,p<L.m->q<L.m->γ p=γ q->p=q
 ·by_cases hboth:∃k p q,k<L.m/\L.kd k≠3/\p<L.m/\q<L.m/\γ p=Y.sl k/\γ q=Y.N+k
  ·obtain ⟨k,p,q,hk,h3,hp,hq,e1,e2⟩:=hboth
   obtain ⟨h4,h5⟩:=h.sl k hk h3
   have hpq:p≠q:=fun e=>by rw[e,e2] at e1;omega
   apply zero
   unfold dc
   have e3:det L.m (fg (Y.M L) γ)=det L.m (cd (fg (Y.M L) γ) p fun l=>(Y.σ k*(if L.kd k=1 then 1 else -1))*Y.M L l (Y.N+k)):=by
    refine iK fun l j hl hj=>?_
    unfold cd
    split
    ·rename_i e
     rw[e]
     show Y.M L l (γ p)=(Y.σ k*(if L.kd k=1 then 1 else -1))*Y.M L l (Y.N+k)
     rw[e1,Lay.M_a h hk]
     by_cases el:l=k
     ·subst el
      rw[Lay.M_sl h hl h3,if_pos rfl,Int.mul_one]
     ·rw[if_neg el,Int.mul_zero,Lay.M_slo h4 h5 fun e'=>el (h.inj l k hl hk e'.1 h3 e'.2.symm)]
    ·rfl
   rw[e3,nW hp,lv hp hq hpq fun l _=>by
    unfold cd
    rw[if_pos rfl,if_neg (Ne.symm hpq)]
    show Y.M L l (Y.N+k)=Y.M L l (γ q)
    rw[e2],Int.mul_zero]
  ·refine .inr fun k hk=>?_
   by_cases hs:L.kd k≠3/\∃p,p<L.m/\γ p=Y.sl k
   ·obtain ⟨h3,p,hp,e1⟩:=hs
    obtain ⟨h4,h5⟩:=h.sl k hk h3
    have e:(sz L.m fun p=>ab (Y.M L k (γ p)))=sz L.m fun p=>(fun j=>if Y.N<=j/\j<Y.N+L.m then 0 else ab (Y.M L k j)) (γ p):=bE fun q hq=>by
     show _=if Y.N<=γ q/\γ q<Y.N+L.m then 0 else ab (Y.M L k (γ q))
     split
     ·rename_i hr
      obtain ⟨i,hi⟩:∃i,γ q=Y.N+i:=⟨γ q - Y.N,by omega⟩
      rw[hi,Lay.M_a h (by omega),if_neg fun e'=>hboth ⟨k,p,q,hk,h3,hp,hq,e1,by rw[hi,e']⟩]
      rfl
     ·rfl
    rw[e]
    refine Int.le_trans (MX (f:=fun j=>if Y.N<=j/\j<Y.N+L.m then 0 else ab (Y.M L k j)) hlt hinj fun j _=>?_) (Int.le_of_eq (GI h hk (fun j hj=>?_) ?_ (.inr ⟨h3,fun j h6 h7=>?_,fun i hi=>?_⟩)))
    ·split
     ·exact Int.le_refl _
     ·exact cR _
    ·have:=h.n
     rw[if_neg (by omega)]
    ·rw[if_neg (by unfold Lay.R;omega)]
    ·rw[if_neg (by omega)]
     by_cases ej:j=Y.sl k
     ·subst ej
      rw[Lay.M_sl h hk h3,Lx h hk,if_pos rfl]
      split<;>rfl
     ·rw[if_neg ej,Lay.M_slo h6 h7 fun e'=>ej e'.2]
      rfl
    ·rw[if_pos (by omega)]
   ·have e:(sz L.m fun p=>ab (Y.M L k (γ p)))=sz L.m fun p=>(fun j=>if L.n<=j/\j<Y.N then 0 else ab (Y.M L k j)) (γ p):=bE fun q hq=>by
     show _=if L.n<=γ q/\γ q<Y.N then 0 else ab (Y.M L k (γ q))
     split
     ·rename_i hr
      rw[Lay.M_slo hr.1 hr.2 fun e'=>hs ⟨e'.1,q,hq,e'.2⟩]
      rfl
     ·rfl
    rw[e]
    refine Int.le_trans (MX (f:=fun j=>if L.n<=j/\j<Y.N then 0 else ab (Y.M L k j)) hlt hinj fun j _=>?_) (Int.le_of_eq (GI h hk (fun j hj=>?_) ?_ (.inl ⟨fun j h6 h7=>?_,fun i hi=>?_⟩)))
    ·split
     ·exact Int.le_refl _
     ·exact cR _
    ·rw[if_neg (by omega)]
    ·rw[if_neg (by unfold Lay.R;omega)]
    ·rw[if_pos ⟨h6,h7⟩]
    ·rw[if_neg (by omega),Lay.M_a h hi]
     by_cases ei:k=i
     ·rw[if_pos ei,if_pos ei.symm];rfl
     ·rw[if_neg ei,if_neg (Ne.symm ei)];rfl
 ·have:∃p q,p<L.m/\q<L.m/\γ p=γ q/\p≠q:=by
   apply Classical.byContradiction
   intro hno
   refine hinj fun p q hp hq e=>?_
   apply Classical.byContradiction
   intro hne
   exact hno ⟨p,q,hp,hq,e,hne⟩
  obtain ⟨p,q,hp,hq,e,hne⟩:=this
  apply zero
  refine lv hp hq hne fun l _=>?_
  show Y.M L l (γ p)=Y.M L l (γ q)
  rw[e]
theorem Cq (h:Y.ok L) {γ:Nat->Nat} (hlt:∀p,p<L.m->γ p<Y.w L):ab (dc L.m (Y.M L) γ)<=L.P:=by
 rcases Pu h hlt with e | e
 ·have hP:=L.P_pos
  rw[e]
  simp[ab]
  omega
 ·exact Int.le_trans zM (MG fun k hk=>⟨iI fun _ _=>cR _,e k hk⟩)
theorem QM {m w:Nat} {β:Nat->Nat} {r c:Nat} (h:∀p,p<m->β p<w) (hc:c<w):∀p,p<m->upd β r c p<w:=fun p hp=>by
 unfold upd
 split
 ·exact hc
 ·exact h p hp
theorem qL (h:Y.ok L) {T:Nat->Nat->Int} {d:Int} {β:Nat->Nat} (ht:Tb L.m (Y.w L) (Y.M L) T d β):d<=L.P/\∀i j,i<L.m->j<Y.w L->ab (T i j)<=L.P:=by
 refine ⟨?_,fun i j hi hj=>by rw[ht.bound hi hj];exact Cq h (QM ht.lt hj)⟩
 obtain ⟨σ,h1,h2,_⟩:=ht.cr
 have h3:=Cq h ht.lt
 have h4:ab d=ab (dc L.m (Y.M L) β):=by
  have h5:ab σ=1:=by
   have h6:ab σ*ab σ=1:=by rw[<-qj,h1];rfl
   have h7:=cR σ
   have h8:ab σ<=1:=by
    apply Int.not_lt.1
    intro h9
    have:2*2<=ab σ*ab σ:=Int.mul_le_mul (by omega) (by omega) (by omega) h7
    omega
   have:ab σ≠0:=fun e=>by rw[e] at h6;simp at h6
   omega
  have h6:ab (σ*dc L.m (Y.M L) β)=ab d:=by rw[<-h2]
  rw[qj,h5,Int.one_mul] at h6
  exact h6.symm
 rw[<-h4] at h3
 exact (zd.1 h3).2
end
section
variable {L:Lin} {Y:Lay}
end
section
variable {α R:Type} {F:(α->Option R)->α->Option R}
theorem zz (n:Nat) (st:Nat->α) (r:Option R) (hb:∀again i,i<n->F again (st i)=again (st (i+1))) (hf:∀again,F again (st n)=r):∀(k i m:Nat),i+k=n->k<m->jo F m (st i)=r
 | 0,i,m,h1,h2=>by
  obtain ⟨m,rfl⟩:∃m',m=m'+1:=⟨m - 1,by omega⟩
  rw[gG,show i=n by omega,hf]
 | k+1,i,m,h1,h2=>by
  obtain ⟨m,rfl⟩:∃m',m=m'+1:=⟨m - 1,by omega⟩
  rw[gG,hb _ _ (by omega)]
  exact zz n st r hb hf k (i+1) m (by omega) (by omega)
theorem ul (n:Nat) (hn:n<=1180591620717411303423) (st:Nat->α) (r:Option R) (hb:∀again i,i<n->F again (st i)=again (st (i+1))) (hf:∀again,F again (st n)=r):lpK α R F (st 0)=r :=
 zz n st r hb hf n 0 K0 (by omega) (by unfold K0;omega)
theorem cW {x:α} (n:Nat) (hn:n<=1180591620717411303423) (st:Nat->α) (r:Option R) (hx:x=st 0) (hb:∀again i,i<n->F again (st i)=again (st (i+1))) (hf:∀again,F again (st n)=r):lpK α R F x=r:=by
 rw[hx]
 exact ul n hn st r hb hf
theorem C7 (I:α->Prop) (Q:R->Prop) (μ:α->Nat) (h:∀x,I x->(∃r,Q r/\∀rec,F rec x=some r)\/∃y,I y/\μ y<μ x/\∀rec,F rec x=rec y):∀(m:Nat) (x:α),I x->μ x<m->∃r,jo F m x=some r/\Q r
 | 0,_,_,hm=>by omega
 | m+1,x,hx,hm=>by
  rw[gG]
  rcases h x hx with ⟨r,h1,h2⟩ | ⟨y,h1,h2,h3⟩
  ·exact ⟨r,h2 _,h1⟩
  ·rw[h3]
   exact C7 I Q μ h m y h1 (by omega)
theorem Rm (I:α->Prop) (Q:R->Prop) (μ:α->Nat) (h:∀x,I x->(∃r,Q r/\∀rec,F rec x=some r)\/∃y,I y/\μ y<μ x/\∀rec,F rec x=rec y) {x:α} (hx:I x) (hn:μ x<1180591620717411303424):∃r,lpK α R F x=some r/\Q r :=
 C7 I Q μ h K0 x hx hn
theorem zT {γ:Type} (I:γ->α->Prop) (Q:R->Prop) (μ:γ->Nat) (h:∀s x,I s x->(∃r,Q r/\∀rec,F rec x=some r)\/∃s' y,I s' y/\μ s'<μ s/\∀rec,F rec x=rec y):∀(m:Nat) (s:γ) (x:α),I s x->μ s<m->∃r,jo F m x=some r/\Q r
 | 0,_,_,_,hm=>by omega
 | m+1,s,x,hx,hm=>by
  rw[gG]
  rcases h s x hx with ⟨r,h1,h2⟩ | ⟨s',y,h1,h2,h3⟩
  ·exact ⟨r,h2 _,h1⟩
  ·rw[h3]
   exact zT I Q μ h m s' y h1 (by omega)
theorem NH {γ:Type} (I:γ->α->Prop) (Q:R->Prop) (μ:γ->Nat) (h:∀s x,I s x->(∃r,Q r/\∀rec,F rec x=some r)\/∃s' y,I s' y/\μ s'<μ s/\∀rec,F rec x=rec y) {s:γ} {x:α} (hx:I s x) (hn:μ s<1180591620717411303424):∃r,lpK α R F x=some r/\Q r :=
 zT I Q μ h K0 s x hx hn
theorem Af {γ:Type} (I:γ->α->Prop) (Q:Option R->Prop) (μ:γ->Nat) (h:∀rec s x,I s x->Q (F rec x)\/∃s' y,I s' y/\μ s'<μ s/\F rec x=rec y):∀(m:Nat) (s:γ) (x:α),I s x->μ s<m->Q (jo F m x)
 | 0,_,_,_,hm=>by omega
 | m+1,s,x,hx,hm=>by
  rw[gG]
  rcases h (jo F m) s x hx with h1 | ⟨s',y,h1,h2,h3⟩
  ·exact h1
  ·rw[h3]
   exact Af I Q μ h m s' y h1 (by omega)
theorem wE {γ:Type} (I:γ->α->Prop) (Q:Option R->Prop) (μ:γ->Nat) (h:∀rec s x,I s x->Q (F rec x)\/∃s' y,I s' y/\μ s'<μ s/\F rec x=rec y) {s:γ} {x:α} (hx:I s x) (hn:μ s<1180591620717411303424):Q (lpK α R F x) :=
 Af I Q μ h K0 s x hx hn
theorem Ja {x:α} (Q:Option R->Prop) (n:Nat) (hn:n<=1180591620717411303423) (st:Nat->α) (hx:x=st 0) (hb:∀again i,i<n->F again (st i)=again (st (i+1))) (hf:∀again,Q (F again (st n))):Q (lpK α R F x) :=
 wE (γ:=Nat) (fun i x=>i<=n/\x=st i) Q (fun i=>n - i) (fun rec i x ⟨h1,h2⟩=>by
  by_cases e:i=n
  ·subst h2;subst e;exact .inl (hf rec)
  ·exact .inr ⟨i+1,st (i+1),⟨by omega,rfl⟩,by omega,by rw[h2];exact hb rec i (by omega)⟩) (s:=0) ⟨by omega,hx⟩ (by omega)
end
theorem xG (n:Nat) (p:Nat->Bool):(∀j,j<n->p j=false)\/∃j,j<n/\p j=true/\∀i,i<j->p i=false:=by
 induction n with
 | zero=>exact .inl fun j hj=>by omega
 | succ n ih =>
  rcases ih with h | ⟨j,h1,h2,h3⟩
  ·cases hp:p n with
   | true=>exact .inr ⟨n,by omega,hp,h⟩
   | false =>
    refine .inl fun j hj=>?_
    by_cases e:j=n
    ·rw[e];exact hp
    ·exact h j (by omega)
  ·exact .inr ⟨j,by omega,h2,h3⟩
def cb {α:Type} (w:Nat) (f:Nat->α):List α:=(List.range w).map f
def sF (m w:Nat) (T:Nat->Nat->Int):List (List Int):=(List.range m).map fun i=>cb w (T i)
def dR (m w:Nat) (T:Nat->Nat->Int):List (Option (List Int)):=(List.range m).map fun i=>some (cb w (T i))
def iT (m w:Nat) (T:Nat->Nat->Int):List Nat×List (Option (List Int)):=(List.range m,dR m w T)
def iX (m:Nat) (β:Nat->Nat):List Int:=cb m fun i=>(β i:Int)
section
variable {α:Type} {m w:Nat} {T T':Nat->Nat->Int}
theorem bj {f:Nat->α}:(cb w f).length=w:=by unfold cb;rw[List.length_map,List.length_range]
theorem bO {f:Nat->α} {d:α} {j:Nat} (h:j<w):(cb w f).getD j d=f j:=by
 unfold cb
 rw[bL (by rw[List.length_map,List.length_range];exact h),List.getElem_map,List.getElem_range]
theorem rb {f:Nat->α} {j:Nat} (h:j<(cb w f).length):(cb w f)[j]=f j :=
 (List.getElem_map f (l:=List.range w) (h:=h)).trans (congrArg f (List.getElem_range _))
theorem cX {f g:Nat->α} (h:∀j,j<w->f j=g j):cb w f=cb w g:=by
 unfold cb
 exact List.map_congr_left fun j hj=>h j (List.mem_range.1 hj)
theorem iU {f:Nat->α} {j:Nat} {x:α} (_:j<w):(cb w f).set j x=cb w fun k=>if k=j then x else f k:=by
 refine List.ext_getElem (by rw[List.length_set,bj,bj]) fun i h1 h2=>?_
 have h3:i<w:=by rw[bj] at h2;exact h2
 rw[List.getElem_set,rb,rb]
 by_cases e:j=i
 ·rw[if_pos e,if_pos e.symm]
 ·rw[if_neg e,if_neg (Ne.symm e)]
theorem gP:(sF m w T).length=m:=by unfold sF;rw[List.length_map,List.length_range]
theorem oc {i:Nat} (h:i<m):(sF m w T).getD i []=cb w (T i):=by
 unfold sF
 rw[bL (by rw[List.length_map,List.length_range];exact h),List.getElem_map,List.getElem_range]
theorem nY:(dR m w T).length=m:=by unfold dR;rw[List.length_map,List.length_range]
theorem gQ:(iT m w T).1.length=m:=by unfold iT;exact List.length_range
theorem kS {i:Nat} (h:i<m):(iT m w T).1.getD i 0=i:=by
 unfold iT
 rw[bL (by rw[List.length_range];exact h),List.getElem_range]
theorem qU {i:Nat} (h:i<m):(dR m w T).getD i none=some (cb w (T i)):=by
 unfold dR
 rw[bL (by rw[List.length_map,List.length_range];exact h),List.getElem_map,List.getElem_range]
theorem DX {i:Nat} (h:i<(dR m w T).length):(dR m w T)[i]=some (cb w (T i)) :=
 (List.getElem_map (fun i=>some (cb w (T i))) (l:=List.range m) (h:=h)).trans (congrArg (fun i=>some (cb w (T i))) (List.getElem_range _))
theorem gw {i:Nat} (h:i<m):ah (dR m w T) i=cb w (T i):=by unfold ah;rw[qU h];rfl
theorem uZ {i:Nat} (h:i<m):eM (dR m w T) i=true:=by unfold eM;rw[qU h];rfl
theorem iB (h:∀i j,i<m->j<w->T i j=T' i j):dR m w T=dR m w T':=by
 unfold dR
 exact List.map_congr_left fun i hi=>by rw[cX fun j hj=>h i j (List.mem_range.1 hi) hj]
theorem ji (h:∀i j,i<m->j<w->T i j=T' i j):iT m w T=iT m w T':=by unfold iT;rw[iB h]
theorem DI {i j:Nat} {x:Int} (_:i<m) (hj:j<w):(dR m w T).set i (some ((cb w (T i)).set j x))=dR m w fun k l=>if k=i/\l=j then x else T k l:=by
 rw[iU hj]
 refine List.ext_getElem (by rw[List.length_set,nY,nY]) fun k h1 h2=>?_
 have h3:k<m:=by rw[nY] at h2;exact h2
 rw[List.getElem_set,DX,DX]
 by_cases e:i=k
 ·subst e
  rw[if_pos rfl]
  congr 1
  refine cX fun l _=>?_
  simp
 ·rw[if_neg e]
  congr 1
  refine cX fun l _=>?_
  rw[if_neg fun h=>e h.1.symm]
theorem ip:((iT m w T).1.all fun x=>eM (iT m w T).2 x)=true:=by
 rw[List.all_eq_true]
 intro i hi
 exact uZ (List.mem_range.1 hi)
theorem im:(iT m w T).1.map (fun x=>ah (iT m w T).2 x)=sF m w T:=by
 unfold iT sF
 exact List.map_congr_left fun i hi=>gw (List.mem_range.1 hi)
theorem iW {β:Nat->Nat}:(iX m β).length=m:=bj
theorem jU {β:Nat->Nat} {i:Nat} (h:i<m):(iX m β).getD i 0=(β i:Int):=bO h
theorem JG {β:Nat->Nat} {r c:Nat} (h:r<m):(iX m β).set r (c:Int)=iX m (upd β r c):=by
 unfold iX
 rw[iU h]
 refine cX fun k _=>?_
 unfold upd
 by_cases e:k=r
 ·rw[if_pos e,if_pos e]
 ·rw[if_neg e,if_neg e]
end
end Dn
end Go.Proofs.YtfknoaclabfdlaaGreat

namespace Go.Proofs.YtfknoaclabfdlaaGreat
noncomputable section
open Tryz Dn Dn.Sh
def bnS (s:Sy) (i:Nat):ByteArray:=(s.1.getD i bk0).1
def bwS (s:Sy) (i:Nat):Int:=(s.1.getD i bk0).2
def rnS (s:Sy) (k:Nat):ByteArray:=(s.2.getD k rp0).1
def hsS (s:Sy) (k:Nat):List Hd:=(s.2.getD k rp0).2.1
structure ValidS (s:Sy):Prop where
 bl:1<=s.1.length/\s.1.length<=6
 rl:1<=s.2.length/\s.2.length<=6
 inj:∀i j,i<s.1.length->j<s.1.length->bnS s i=bnS s j->i=j
 rinj:∀i j,i<s.2.length->j<s.2.length->rnS s i=rnS s j->i=j
 wt:∀i,i<s.1.length->0<=bwS s i/\bwS s i<=16777216
 hl:∀k,k<s.2.length->(hsS s k).length<=10
 pl:∀k h,k<s.2.length->h<(hsS s k).length-> -2<=((hsS s k).getD h hd0).2.1/\((hsS s k).getD h hd0).2.1<=2
theorem pq {n i:Nat} (h:i<n):i ∈ List.range' 0 n:=List.mem_range'.2 ⟨i,h,by omega⟩
theorem Ct {s:Sy} {h:Hd} {e:Bool} (hh:kU s h e=true): -2<=h.2.1/\h.2.1<=2:=by
 unfold kU at hh
 rw[z10] at hh
 have h2:=hh.2
 cases he:oV h.1 with
 | true=>rw[he,cT,decide_eq_true_iff] at h2;omega
 | false =>
  rw[he,cF,z10] at h2
  have h3:=h2.2
  cases e with
  | true=>rw[cT,Bool.or_eq_true,decide_eq_true_iff,decide_eq_true_iff] at h3;omega
  | false=>rw[cF,Bool.or_eq_true,Bool.or_eq_true,decide_eq_true_iff,decide_eq_true_iff,decide_eq_true_iff] at h3;omega
theorem lK {l:List ByteArray} {i j:Nat} {d:ByteArray} (h1:i<j) (h2:j<=l.length):l.getD i d ∈ l.take j:=by
 rw[bL (by omega)]
 exact List.mem_take_iff_getElem.2 ⟨i,by omega,rfl⟩
theorem gY {s:Sy} (h:fq s=true):ValidS s:=by
 unfold fq at h
 rw[z10,z10,z10,decide_eq_true_iff,List.all_eq_true,List.all_eq_true] at h
 obtain ⟨⟨h1,h2,h3,h4⟩,hb,hr,_⟩:=h
 have hb':∀i,i<s.1.length->bnS s i ∉ (s.1.map (·.fst)).take i/\0<=bwS s i/\bwS s i<=16777216:=fun i hi=>by
  have:=hb i (pq hi)
  unfold mA oO at this
  rw[z10,z10,z10,Bool.not_eq_true',tQ,decide_eq_true_iff,decide_eq_true_iff] at this
  exact this.2
 have hr':∀i,i<s.2.length->rnS s i ∉ (s.2.map (·.fst)).take i/\pA s (s.2.getD i rp0)=true:=fun i hi=>by
  have:=hr i (pq hi)
  unfold gN at this
  rw[z10,z10,Bool.not_eq_true',tQ,List.mem_append] at this
  exact ⟨fun hm=>this.2.1 (.inr hm),this.2.2⟩
 have hro:∀k,k<s.2.length->(2<=(hsS s k).length/\(hsS s k).length<=10)/\∀i,i<(hsS s k).length->∃e,kU s ((hsS s k).getD i hd0) e=true:=fun k hk=>by
  have:=(hr' k hk).2
  unfold pA at this
  rw[z10,z10,decide_eq_true_iff,List.all_eq_true] at this
  exact ⟨this.1,fun i hi=>⟨_,this.2.1 i (pq hi)⟩⟩
 refine ⟨⟨h1,h2⟩,⟨h3,h4⟩,fun i j hi hj he=>?_,fun i j hi hj he=>?_,fun i hi=>(hb' i hi).2,fun k hk=>(hro k hk).1.2,fun k h hk hh=>?_⟩
 ·have e1:∀k,k<s.1.length->(s.1.map (·.fst)).getD k bk0.1=bnS s k:=fun k hk=>nV (f:=fun b:Bk=>b.1) (d:=bk0) hk bk0.1
  rcases Nat.lt_trichotomy i j with h | h | h
  ·exfalso
   apply (hb' j hj).1
   rw[<-he,<-e1 i hi]
   exact lK h (by rw[List.length_map];omega)
  ·exact h
  ·exfalso
   apply (hb' i hi).1
   rw[he,<-e1 j hj]
   exact lK h (by rw[List.length_map];omega)
 ·have e1:∀k,k<s.2.length->(s.2.map (·.fst)).getD k rp0.1=rnS s k:=fun k hk=>nV (f:=fun b:Rp=>b.1) (d:=rp0) hk rp0.1
  rcases Nat.lt_trichotomy i j with h | h | h
  ·exfalso
   apply (hr' j hj).1
   rw[<-he,<-e1 i hi]
   exact lK h (by rw[List.length_map];omega)
  ·exact h
  ·exfalso
   apply (hr' i hi).1
   rw[he,<-e1 j hj]
   exact lK h (by rw[List.length_map];omega)
 ·obtain ⟨e,he⟩:=(hro k hk).2 h hh
  exact Ct he
theorem H5 (s:Sy) (n:ByteArray):(fbI s n<0/\∀i,i<s.1.length->bnS s i≠n)\/∃i:Nat,i<s.1.length/\fbI s n=(i:Int)/\bnS s i=n:=by
 by_cases h:fbI s n<0
 ·refine .inl ⟨h,fun i hi he=>?_⟩
  have:=(yI (p:=fun b:Bk=>decide (b.1=n)) (l:=s.1) (i:=0) (by omega)).1 h (s.1.getD i bk0) (by rw[bL hi];exact List.getElem_mem _)
  exact of_decide_eq_false this he
 ·obtain ⟨_,h2,h3⟩:=G4 (p:=fun b:Bk=>decide (b.1=n)) (d:=bk0) (l:=s.1) (i:=0) (by omega) (Int.not_lt.1 h)
  refine .inr ⟨(fbI s n).toNat,?_,?_,?_⟩
  ·unfold fbI;omega
  ·unfold fbI at h ⊢;omega
  ·have:=z12 h3
   rw[Int.sub_zero] at this
   exact this
def mN (hs:List Hd) (n:ByteArray) (h:Nat):Int:=sz h fun t=>if (hs.getD t hd0).1=n then (hs.getD t hd0).2.1 else 0
def Mx (s:Sy) (i k:Nat):Int:=mN (hsS s k) (bnS s i) (hsS s k).length
theorem qG {hs:List Hd} {n:ByteArray} (hp:∀t,t<hs.length-> -2<=(hs.getD t hd0).2.1/\(hs.getD t hd0).2.1<=2):∀h,h<=hs.length-> -(2*(h:Int))<=mN hs n h/\mN hs n h<=2*(h:Int)
 | 0,_=>by simp[mN,sz]
 | h+1,hh=>by
  have:=qG (n:=n) hp h (by omega)
  have h2:=hp h (by omega)
  unfold mN at *
  simp only[sz]
  split<;>omega
theorem Ki {s:Sy} (hv:ValidS s) (i:Nat) {k:Nat} (hk:k<s.2.length): -20<=Mx s i k/\Mx s i k<=20:=by
 have h1:=qG (n:=bnS s i) (hs:=hsS s k) (fun t ht=>hv.pl k t hk ht) _ (Nat.le_refl _)
 have h2:=hv.hl k hk
 unfold Mx
 omega
theorem eH {i:Nat} (h:i<=1000000):IntKind.wrap .i64 ((i:Int)+1)=((i+1:Nat):Int):=by rw[bi (by omega) (by omega)];rfl
def NZ (s:Sy):List (List Int):=sF s.1.length s.2.length (Mx s)
theorem xZ {α:Type} {w:Nat} {f:Nat->α}:cb w f++[f w]=cb (w+1) f:=by
 unfold cb
 rw[List.range_succ,List.map_append]
 rfl
theorem Dv {m w:Nat} {T:Nat->Nat->Int}:dR m w T++[some (cb w (T m))]=dR (m+1) w T:=by
 unfold dR
 rw[List.range_succ,List.map_append]
 rfl
def RN (T:List Nat) (x0:Sy):Option (List (List Int)×Int×Unit) :=
 aa (aI x0) fun (t:Bool)=>bif !t then some ([],(1:Int),PUnit.unit) else bif decide ((0:Int)<=(↑(List.length x0.1):Int))&&dZ (Int.toNat (↑(List.length x0.1):Int)) (24:Nat) then lpK (Int×(List Nat×List (Option (List Int)))×PUnit) (List (List Int)×Int×PUnit) (fun (again:Int×(List Nat×List (Option (List Int)))×PUnit->Option (List (List Int)×Int×PUnit)) (x:Int×(List Nat×List (Option (List Int)))×PUnit)=>bif decide (x.1<(↑(List.length T):Int)) then bif decide ((0:Int)<=(↑(List.length x0.2):Int))&&dZ (Int.toNat (↑(List.length x0.2):Int)) (8:Nat) then bif inB x.1 (List.length x.2.1.1) then bif Nat.ble (Nat.succ (Int.toNat x.1)) (List.length x.2.1.1) then again (IntKind.wrap .i64 (x.1+(1:Int)),(List.set x.2.1.1 (Int.toNat x.1) (List.length x.2.1.2),x.2.1.2++[some (List.replicate (Int.toNat (↑(List.length x0.2):Int)) (0:Int))]),PUnit.unit) else none else none else none else lpK (Int×(List Nat×List (Option (List Int)))×PUnit) (List (List Int)×Int×PUnit) (fun (again:Int×(List Nat×List (Option (List Int)))×PUnit->Option (List (List Int)×Int×PUnit)) (x:Int×(List Nat×List (Option (List Int)))×PUnit)=>bif decide (x.1<(↑(List.length x0.2):Int)) then bif inB x.1 (List.length x0.2) then lpK (Int×(List Nat×List (Option (List Int)))×PUnit) (List (List Int)×Int×PUnit) (fun (again_1:Int×(List Nat×List (Option (List Int)))×PUnit->Option (List (List Int)×Int×PUnit)) (x_1:Int×(List Nat×List (Option (List Int)))×PUnit)=>let v10:Int:=IntKind.wrap .i64 (x_1.1+(1:Int));let v11:(List Nat×List (Option (List Int)))×PUnit:=(x_1.2.1,PUnit.unit);let v12:ByteArray×Int×Int×Int:=List.getD (List.getD x0.2 (Int.toNat x.1) ({ data:={ toList:=[] } },[],false)).2.1 (Int.toNat x_1.1) ({ data:={ toList:=[] } },(0:Int),(0:Int),(0:Int));bif decide (x_1.1<(↑(List.length (List.getD x0.2 (Int.toNat x.1) ({ data:={ toList:=[] } },[],false)).2.1):Int)) then bif inB x_1.1 (List.length (List.getD x0.2 (Int.toNat x.1) ({ data:={ toList:=[] } },[],false)).2.1) then aa (ce x0 v12.1) fun (t:Int)=>bif decide (t>=(0:Int)) then bif inB t (List.length x_1.2.1.1) then bif Nat.ble (Nat.succ (Int.toNat t)) (List.length x_1.2.1.1) then bif inB x.1 (List.length (ah x_1.2.1.2 (List.getD x_1.2.1.1 (Int.toNat t) (0:Nat)))) then bif Nat.ble (Nat.succ (Int.toNat x.1)) (List.length (ah x_1.2.1.2 (List.getD x_1.2.1.1 (Int.toNat t) (0:Nat)))) then bif inB x.1 (List.length (ah x_1.2.1.2 (List.getD x_1.2.1.1 (Int.toNat t) (0:Nat)))) then bif Nat.ble (Nat.succ (Int.toNat x.1)) (List.length (ah x_1.2.1.2 (List.getD x_1.2.1.1 (Int.toNat t) (0:Nat)))) then again_1 (v10,(x_1.2.1.1,List.set x_1.2.1.2 (List.getD x_1.2.1.1 (Int.toNat t) (0:Nat)) (some (List.set (ah x_1.2.1.2 (List.getD x_1.2.1.1 (Int.toNat t) (0:Nat))) (Int.toNat x.1) (IntKind.wrap .i64 (List.getD (ah x_1.2.1.2 (List.getD x_1.2.1.1 (Int.toNat t) (0:Nat))) (Int.toNat x.1) (0:Int)+v12.2.1))))),PUnit.unit) else none else none else none else none else none else none else again_1 (v10,v11) else none else again (IntKind.wrap .i64 (x.1+(1:Int)),v11)) ((0:Int),x.2.1,PUnit.unit) else none else bif List.all x.2.1.1 fun (x_1:Nat)=>eM x.2.1.2 x_1 then some (List.map (fun (x_1:Nat)=>ah x.2.1.2 x_1) x.2.1.1,(0:Int),PUnit.unit) else none) ((0:Int),x.2.1,PUnit.unit)) ((0:Int),(T,List.replicate (Int.toNat (↑(List.length x0.1):Int)) (some [])),PUnit.unit) else none
theorem Hg (s:Sy):ct s=RN (yQ Sh.ref (0:Nat) (Int.toNat (↑(List.length s.1):Int)) 0) s:=by kernel_rfl
theorem yp:∀(n k:Nat),yQ Sh.ref (0:Nat) n k=(List.range n).map fun i=>k+i
 | 0,_=>rfl
 | n+1,k=>by
  rw[List.range_succ_eq_map,List.map_cons,List.map_map]
  unfold yQ
  rw[yp n (k+1)]
  have e:shS k Sh.ref (0:Nat)=k+0:=rfl
  rw[e]
  congr 1
  refine List.map_congr_left fun i _=>?_
  simp only[Function.comp]
  omega
def wd (m w:Nat) (T:Nat->Nat->Int):List Nat×List (Option (List Int)):=(cb m fun k=>m+k,List.replicate m (some [])++dR m w T)
theorem J0 {n:Nat}:List.replicate n (0:Int)=cb n fun _=>0:=by
 unfold cb
 rw[List.map_const',List.length_range]
section
variable {m w:Nat} {T:Nat->Nat->Int}
theorem CW {i:Nat}:(List.replicate m (some ([]:List Int))++dR m w T).getD (m+i) none=(dR m w T).getD i none:=by
 rw[List.getD_eq_getElem?_getD,List.getD_eq_getElem?_getD,List.getElem?_append_right (by rw[List.length_replicate];omega),List.length_replicate,Nat.add_sub_cancel_left]
theorem Dw {i:Nat} (h:i<m):ah (List.replicate m (some ([]:List Int))++dR m w T) (m+i)=cb w (T i):=by
 unfold ah
 rw[CW,qU h]
 rfl
theorem Ia {i:Nat} (h:i<m):eM (List.replicate m (some ([]:List Int))++dR m w T) (m+i)=true:=by
 unfold eM
 rw[CW,qU h]
 rfl
theorem KJ {i j:Nat} {x:Int} (hi:i<m) (hj:j<w):(List.replicate m (some ([]:List Int))++dR m w T).set (m+i) (some ((cb w (T i)).set j x))=List.replicate m (some [])++dR m w fun k l=>if k=i/\l=j then x else T k l:=by
 rw[List.set_append_right _ _ (by rw[List.length_replicate];omega),List.length_replicate,Nat.add_sub_cancel_left,DI hi hj]
end
theorem O5 {s:Sy} (h:fq s=true):ct s=some (NZ s,0,()):=by
 have hv:=gY h
 have hb:=hv.bl
 have hr:=hv.rl
 have hf:=fun n=>B8 s n (show s.1.length<=1000000 by omega)
 rw[Hg,yp]
 simp only[RN,tT,h,af,Bool.not_true,cF,z9,List.length_map,List.length_range,z7 (show (0:Int)<=(s.1.length:Nat) by omega),z7 (show (0:Int)<=(s.2.length:Nat) by omega),
  fY (show s.1.length*24<=140737488355328 by omega),fY (show s.2.length*8<=140737488355328 by omega),Bool.and_self,cT]
 obtain ⟨m,hm⟩:∃m,m=s.1.length:=⟨_,rfl⟩
 obtain ⟨w,hw⟩:∃w,w=s.2.length:=⟨_,rfl⟩
 rw[<-hm] at hb ⊢
 rw[<-hw] at hr ⊢
 refine cW m (by omega) (fun i=>((i:Int),(cb m (fun k=>if k<i then m+k else k),List.replicate m (some [])++dR i w fun _ _=>0),PUnit.unit)) _ ?_ (fun again i hi=>?_) (fun again=>?_)
 ·have e:(List.range m).map (fun i=>0+i)=cb m (fun k=>if k<0 then m+k else k):=cX (f:=fun i=>0+i) fun k _=>by rw[if_neg (by omega),Nat.zero_add]
  rw[e]
  show _=((0:Int),(_,List.replicate m (some ([]:List Int))++[]),PUnit.unit)
  rw[List.append_nil]
 ·simp only[bw,bj,z7 hi,z7 (show (i:Int)<m by omega),cT,z9,dw (show i.succ<=m by omega),eH (show i<=1000000 by omega)]
  refine congrArg again ?_
  refine congrArg (fun p=>(((i+1:Nat):Int),p,PUnit.unit)) ?_
  rw[iU hi,List.length_append,List.length_replicate,nY,J0,List.append_assoc,Dv]
  refine congrArg (fun l=>(l,_)) ?_
  refine cX fun k _=>?_
  by_cases c:k=i
  ·rw[if_pos c,if_pos (by omega)];omega
  ·rw[if_neg c]
   by_cases c2:k<i
   ·rw[if_pos c2,if_pos (by omega)]
   ·rw[if_neg c2,if_neg (by omega)]
 ·simp only[z8 (show ¬ (m:Int)<m by omega),cF]
  refine cW w (by omega) (fun k=>((k:Int),wd m w (fun i j=>if j<k then Mx s i j else 0),PUnit.unit)) _ ?_ (fun again k hk=>?_) (fun again=>?_)
  ·refine congrArg (fun p=>((0:Int),p,PUnit.unit)) ?_
   unfold wd
   refine Prod.ext (cX fun k hk=>by rw[if_pos hk]) ?_
   simp only
   rw[iB fun i j _ _=>(if_neg (show ¬ j<0 by omega)).symm]
  ·have hwk:k<s.2.length:=by omega
   have hpl:=fun t ht=>hv.pl k t hwk ht
   have hhl:=hv.hl k hwk
   have hpb:=fun n=>qG (n:=n) (hs:=hsS s k) hpl
   simp only[bw,z7 hk,z7 (show (k:Int)<w by omega),cT,z9,eH (show k<=1000000 by omega),show (List.getD s.2 k ({ data:={ toList:=[] } },[],false)).2.1=hsS s k from rfl]
   refine cW (hsS s k).length (by omega) (fun t=>((t:Int),wd m w (fun i j=>if j<k then Mx s i j else if j=k then mN (hsS s k) (bnS s i) t else 0),PUnit.unit)) _ ?_ (fun again1 t ht=>?_) (fun again1=>?_)
   ·refine congrArg (fun p=>((0:Int),p,PUnit.unit)) ?_
    unfold wd
    refine congrArg (fun c=>(_,List.replicate m (some ([]:List Int))++c)) (iB fun i j _ _=>?_)
    by_cases c1:j<k
    ·rw[if_pos c1,if_pos c1]
    ·rw[if_neg c1,if_neg c1]
     split<;>rfl
   ·obtain ⟨hd,hhd⟩:∃hd,hd=(hsS s k).getD t hd0:=⟨_,rfl⟩
    have hpt:=hpl t ht
    simp only[bw,z7 ht,z7 (show (t:Int)<(hsS s k).length by omega),cT,z9,eH (show t<=1000000 by omega),show List.getD (hsS s k) t ({ data:={ toList:=[] } },(0:Int),(0:Int),(0:Int))=(hsS s k).getD t hd0 from rfl,hf,af]
    rw[<-hhd] at hpt ⊢
    have estep:∀n,mN (hsS s k) n (t+1)=mN (hsS s k) n t+if hd.1=n then hd.2.1 else 0:=fun n=>by rw[hhd];rfl
    rcases H5 s hd.1 with ⟨h1,h2⟩ | ⟨i0,h1,h2,h3⟩
    ·rw[z8 (show ¬ fbI s hd.1>=0 by omega),cF]
     refine congrArg again1 ?_
     refine congrArg (fun p=>(((t+1:Nat):Int),p,PUnit.unit)) ?_
     unfold wd
     refine congrArg (fun c=>(_,List.replicate m (some ([]:List Int))++c)) (iB fun i j hi _=>?_)
     have e:mN (hsS s k) (bnS s i) (t+1)=mN (hsS s k) (bnS s i) t:=by
      rw[estep,if_neg fun e=>h2 i (by omega) e.symm,Int.add_zero]
     rw[e]
    ·have hi0:i0<m:=by omega
     have hTl:(cb m fun k=>m+k).getD i0 0=m+i0:=bO hi0
     have hrow:=Dw (w:=w) (T:=fun i j=>if j<k then Mx s i j else if j=k then mN (hsS s k) (bnS s i) t else 0) hi0
     have hget:(cb w fun j=>if j<k then Mx s i0 j else if j=k then mN (hsS s k) (bnS s i0) t else 0).getD k 0=mN (hsS s k) (bnS s i0) t:=by
      rw[bO hk,if_neg (by omega),if_pos rfl]
     have hb1:=hpb (bnS s i0) t (by omega)
     simp only[h2,z7 (show (i0:Int)>=0 by omega),cT,z9]
     unfold wd
     simp only[bw,bj,z7 hi0,cT,hTl,hrow,z7 hk,dw (show k.succ<=w by omega),dw (show i0.succ<=m by omega),hget]
     rw[bi (by omega) (by omega),KJ (T:=fun i j=>if j<k then Mx s i j else if j=k then mN (hsS s k) (bnS s i) t else 0) hi0 hk]
     refine congrArg again1 ?_
     refine congrArg (fun c=>(((t+1:Nat):Int),(_,List.replicate m (some ([]:List Int))++c),PUnit.unit)) (iB fun i j hi _=>?_)
     by_cases c1:j=k
     ·subst c1
      by_cases c2:i=i0
      ·subst c2
       rw[if_pos ⟨rfl,rfl⟩,if_neg (by omega),if_pos rfl,estep,if_pos h3.symm]
      ·rw[if_neg fun e=>c2 e.1,if_neg (by omega),if_pos rfl,if_neg (by omega),if_pos rfl,estep,if_neg,Int.add_zero]
       intro e
       exact c2 (hv.inj i i0 (by omega) h1 (by rw[h3,e]))
     ·rw[if_neg fun e=>c1 e.2,if_neg c1,if_neg c1]
   ·simp only[z8 (show ¬ ((hsS s k).length:Int)<(hsS s k).length by omega),cF]
    refine congrArg again ?_
    refine congrArg (fun p=>(((k+1:Nat):Int),p,PUnit.unit)) ?_
    unfold wd
    refine congrArg (fun c=>(_,List.replicate m (some ([]:List Int))++c)) (iB fun i j _ _=>?_)
    by_cases c1:j<k
    ·rw[if_pos c1,if_pos (by omega)]
    ·rw[if_neg c1]
     by_cases c2:j=k
     ·subst c2
      rw[if_pos rfl,if_pos (by omega)]
      rfl
     ·rw[if_neg c2,if_neg (by omega)]
  ·simp only[z8 (show ¬ (w:Int)<w by omega),cF]
   have hall:((wd m w fun i j=>if j<w then Mx s i j else 0).1.all fun x=>eM (wd m w fun i j=>if j<w then Mx s i j else 0).2 x)=true:=by
    rw[List.all_eq_true]
    intro x hx
    obtain ⟨i,hi,rfl⟩:=List.mem_map.1 hx
    exact Ia (List.mem_range.1 hi)
   have hmap:(wd m w fun i j=>if j<w then Mx s i j else 0).1.map (fun x=>ah (wd m w fun i j=>if j<w then Mx s i j else 0).2 x)=NZ s:=by
    unfold NZ sF
    rw[<-hm,<-hw]
    unfold wd cb
    rw[List.map_map]
    refine List.map_congr_left fun i hi=>?_
    have:=Dw (w:=w) (T:=fun i j=>if j<w then Mx s i j else 0) (List.mem_range.1 hi)
    exact this.trans (cX fun j hj=>if_pos hj)
   rw[hall,hmap,cT]
theorem LS {s:Sy} (h:fq s=false):ct s=some ([],1,()):=by
 rw[Hg]
 simp only[RN,tT,h,af,Bool.not_false,cT]
def jN:List Int->List Fq->Rat->Option Rat
 | n ::l,a ::x,s=>if fy ((n:Rat)*qv a)/\fy (s+(n:Rat)*qv a) then jN l x (s+(n:Rat)*qv a) else none
 | _,_,s=>some s
def RX {R:Type} (o:Option Rat) (bad:Option R) (good:Rat->Option R):Option R:=match o with
 | some q=>good q
 | none=>bad
theorem Na {σ R:Type} {l:List Int} {x:List Fq} (hl:l.length<=x.length) {b:Nat->σ->(σ->Option R)->Option R} {f:σ->Option R} {cur:σ->Rat} {bad:Option R} {good:Rat->Option R}
  (nx:∀i s,fy (cur s+((l.getD i 0:Int):Rat)*qv (x.getD i (0,0)))->σ) (hnx:∀i s h,cur (nx i s h)=cur s+((l.getD i 0:Int):Rat)*qv (x.getD i (0,0)))
  (hb:∀i s k,i<l.length->b i s k=if h:fy (((l.getD i 0:Int):Rat)*qv (x.getD i (0,0)))/\fy (cur s+((l.getD i 0:Int):Rat)*qv (x.getD i (0,0))) then k (nx i s h.2) else bad)
  (hf:∀s,f s=good (cur s)):∀(k i:Nat) (s:σ),i+k=l.length->upF b f k i s=RX (jN (l.drop i) (x.drop i) (cur s)) bad good
 | 0,i,s,h=>by
  rw[List.drop_eq_nil_of_le (by omega)]
  exact hf s
 | k+1,i,s,h=>by
  have h1:i<l.length:=by omega
  have h2:i<x.length:=by omega
  have e1:l.getD i 0=l[i]:=bL h1
  have e2:x.getD i (0,0)=x[i]:=bL h2
  simp only[upF]
  rw[hb i s _ h1,List.drop_eq_getElem_cons h1,List.drop_eq_getElem_cons h2,jN,<-e1,<-e2]
  split
  ·rw[Na hl nx hnx hb hf k (i+1) _ (by omega),hnx]
  ·rfl
theorem obN {T R:Type} {t:T} {k:T->Option R}:aa (some t) k=k t:=id rfl
theorem uA:∀{l:List Int} {x:List Fq} {s q:Rat},fy s->jN l x s=some q->fy q
 | [],_,s,q,hs,h=>by
  unfold jN at h
  injection h with h
  rw[<-h];exact hs
 | _ ::_,[],s,q,hs,h=>by
  unfold jN at h
  injection h with h
  rw[<-h];exact hs
 | n ::l,a ::x,s,q,hs,h=>by
  unfold jN at h
  split at h
  ·rename_i hh
   exact uA hh.2 h
  ·cases h
structure ValidP (p:Pg):Prop where
 cost:1<=p.1.length/\p.1.length<=12
 rows:p.2.length<=6
 cs:∀n ∈ p.1,inC n=true
 len:∀r ∈ p.2,r.1.length=p.1.length
 kind:∀r ∈ p.2,1<=r.2.1/\r.2.1<=3
 right:∀r ∈ p.2,inR r.2.2=true
 coefs:∀r ∈ p.2,∀n ∈ r.1,inC n=true
theorem yq {p:Pg}:AL p=true↔ValidP p:=by
 unfold AL LQ
 rw[z10,z10,decide_eq_true_iff,List.all_eq_true,List.all_eq_true]
 constructor
 ·rintro ⟨⟨h1,h2,h3⟩,h4,h5⟩
  have h6:∀r ∈ p.2,r.1.length=p.1.length/\(1<=r.2.1/\r.2.1<=3)/\inR r.2.2=true/\∀n ∈ r.1,inC n=true:=fun r hr=>by
   have:=h5 r hr
   unfold vW at this
   rw[z10,z10,z10,decide_eq_true_iff,decide_eq_true_iff,List.all_eq_true] at this
   exact this
  exact ⟨⟨h1,h2⟩,h3,h4,fun r hr=>(h6 r hr).1,fun r hr=>(h6 r hr).2.1,fun r hr=>(h6 r hr).2.2.1,fun r hr=>(h6 r hr).2.2.2⟩
 ·rintro ⟨h1,h2,h3,h4,h5,h6,h7⟩
  refine ⟨⟨h1.1,h1.2,h2⟩,h3,fun r hr=>?_⟩
  unfold vW
  rw[z10,z10,z10,decide_eq_true_iff,decide_eq_true_iff,List.all_eq_true]
  exact ⟨h4 r hr,h5 r hr,h6 r hr,h7 r hr⟩
theorem Oi {l:List Int} {x:List Fq}:fy ((jN l x 0).getD 0):=by
 cases h:jN l x 0 with
 | none=>decide
 | some q=>exact uA (by decide) h
def Jk (p:Pg) (x:List Fq):Bool:=p.2.all fun r=>(jN r.1 x 0).isSome
end
end Go.Proofs.YtfknoaclabfdlaaGreat

namespace Go.Proofs.YtfknoaclabfdlaaGreat
open Tryz Dn Dn.Sh
def Ss (s:Sy):List Int:=cb s.1.length (bwS s)
theorem Pt {s:Sy} (h:fq s=true):cN s=some (Ss s,0,()):=by
 have hv:=gY h
 have hb:=hv.bl
 simp only[cN,jD,tT,h,af,Bool.not_true,cF]
 refine cW s.1.length (by omega) (fun i=>(cb i (bwS s),(i:Int),PUnit.unit)) _ rfl (fun again i hi=>?_) (fun again=>?_)
 ·simp only[bw,z7 hi,z7 (show (i:Int)<s.1.length by omega),cT,z9,bj,fY (show (i+1)*8<=140737488355328 by omega),eH (show i<=1000000 by omega),show (List.getD s.1 i ({ data:={ toList:=[] } },(0:Int))).2=bwS s i from rfl,xZ]
 ·simp only[z8 (show ¬ (s.1.length:Int)<s.1.length by omega),cF]
  rfl
def js (s:Sy) (i:Nat):Rw:=(cb s.2.length (Mx s i),(3:Int),bwS s i)
def cu (s:Sy) (c:List Int):Pg:=(c,cb s.1.length (js s))
theorem DC {s:Sy} (h:fq s=true) (c:List Int):cJ s c=some (cu s c,0,()):=by
 have hv:=gY h
 have hb:=hv.bl
 unfold cJ lB
 rw[O5 h,af,Pt h,af]
 refine (cF _ _).trans ((cF _ _).trans ?_)
 unfold NZ Ss
 refine cW s.1.length (by omega) (fun i=>((i:Int),c,cb i (js s),PUnit.unit)) _ rfl (fun again i hi=>?_) (fun again=>?_)
 ·simp only[bw,gP,bj,z7 hi,z7 (show (i:Int)<s.1.length by omega),cT,z9,fY (show (i+1)*40<=140737488355328 by omega),eH (show i<=1000000 by omega),oc hi,bO hi]
  rw[show (cb s.2.length (Mx s i),(3:Int),bwS s i)=js s i from rfl,xZ]
 ·simp only[gP,z8 (show ¬ (s.1.length:Int)<s.1.length by omega),cF]
  rfl
theorem Hq {s:Sy} (h:fq s=false) (c:List Int):cJ s c=some (([],[]),1,()):=by
 simp only[cJ,lB,LS h,af]
 rfl
def gV (s:Sy):List Int:=List.replicate s.2.length 1
def fR (s:Sy) (k:Nat) (c:Int):List Int:=(List.replicate s.2.length 0).set k c
theorem G5 {s:Sy} {k:Nat} (h:fq s=true) (hk:k<s.2.length) (c:Int):dI s (k:Int) c=some (cu s (fR s k c),0,()):=by
 have hr:=(gY h).rl
 simp only[dI,pP,z9,z7 (show (0:Int)<=(s.2.length:Nat) by omega),fY (show s.2.length*8<=140737488355328 by omega),Bool.and_self,cT,bw,z7 hk,dw (show k.succ<=s.2.length by omega)]
 rw[show List.set (List.replicate s.2.length (0:Int)) k c=fR s k c from rfl,DC h]
 rfl
theorem GE (z:Int) {n:Nat} (hn:n<=1000000):cH [z] (n:Int)=some (List.replicate n z):=by
 have hm:gS (IntKind.wrap .u64 ((List.length [z]:Nat):Int)) (IntKind.wrap .u64 (n:Int))=some (0,(n:Int),()):=by
  simp only[gS,tl]
  rw[bQ (by simp) (by simp),bQ (by omega) (by omega),RL (by simp) (by simp) (by omega) (by omega),af]
  simp only[List.length_singleton]
  congr 1
  refine Prod.ext ?_ (Prod.ext ?_ rfl)
  ·show ((1:Nat):Int)*n / 18446744073709551616=0
   omega
  ·show ((1:Nat):Int)*n % 18446744073709551616=n
   omega
 have hw:IntKind.wrap .i64 (n:Int)=(n:Int):=bi (by omega) (by omega)
 simp only[cH,jg,jnT]
 rw[z8 (show ¬ (n:Int)<0 by omega),cF,hm,af]
 have h63:decide ((n:Int)>9223372036854775807)=false:=z8 (by omega)
 have hz0:decide ((0:Int)>0)=false:=rfl
 have hz1:decide ((0:Int)<=(n:Int))=true:=z7 (by omega)
 have hfb:dZ n 8=true:=fY (by omega)
 simp only[hw,hz0,h63,hz1,z9,hfb,Bool.not_false,Bool.not_true,Bool.or_true,Bool.and_self,cT,cF,List.drop_zero,List.take_zero,List.nil_append]
 refine jC (g:=fun _=>some (List.replicate n z)) (I:=fun (x:Int×List Int×PUnit)=>∃c:Nat,x.1=c/\c<=n/\(0<n->0<c)/\x.2.1.length=n/\x.2.1.take c=List.replicate c z) (μ:=fun (x:Int×List Int×PUnit)=>n - x.1.toNat) ?_ ?_ (by simp only;omega)
 ·rintro ⟨i,row,_⟩ rec ⟨c,h1,h2,h3,h4,h5⟩ hrec
  simp only at h1 h4 h5 hrec ⊢
  subst h1
  simp only[z9,h4]
  by_cases hc:c<n
  ·have hl:(List.take (n - c) (List.take c row)).length=min (n - c) c:=by rw[List.length_take,List.length_take,h4];omega
   rw[z7 (show (c:Int)<n by omega),cT,K9 (by omega) (by omega) (by omega),K9 (by omega) (by omega) (by omega),dw (by omega),dw (Nat.le_refl n)]
   simp only[Bool.and_self,cT]
   rw[bi (by omega) (by omega)]
   refine hrec _ ⟨c+min (n - c) c,?_,by omega,by omega,?_,?_⟩ ?_
   ·simp only;rw[hl];omega
   ·simp only[List.length_append,List.length_drop,hl,h4,List.length_take];omega
   ·simp only
    rw[List.take_append_of_le_length (by rw[List.length_append,hl,List.length_take,h4];omega),h5,List.take_replicate,List.replicate_append_replicate,List.take_replicate]
    congr 1
    omega
   ·simp only;rw[hl];omega
  ·have:c=n:=by omega
   subst this
   rw[z8 (show ¬ (c:Int)<c by omega),cF]
   rw[<-h5,List.take_of_length_le (by omega)]
 ·refine ⟨(List.take n [z]).length,rfl,by rw[List.length_take];omega,fun h=>by rw[List.length_take];simp;omega,?_,?_⟩
  ·simp only[List.length_append,List.length_drop,List.length_replicate,List.length_take,List.length_singleton];omega
  ·simp only
   rcases Nat.eq_zero_or_pos n with h | h
   ·subst h;rfl
   ·obtain ⟨m,rfl⟩:∃m,n=m+1:=⟨n - 1,by omega⟩
    simp
theorem J7 {s:Sy} (h:fq s=true):aU s=some (cu s (gV s),0,()):=by
 have hr:=(gY h).rl
 simp only[aU,jd,GE 1 (show s.2.length<=1000000 by omega),af]
 rw[show List.replicate s.2.length (1:Int)=gV s from rfl,DC h]
 rfl
theorem Iu {s:Sy} (h:fq s=false) (hl:s.2.length<=1000000):aU s=some (([],[]),1,()):=by
 simp only[aU,jd,GE 1 hl,Hq h,af]
theorem DU {α:Type} {n:Nat} {f:Nat->α} {a:α}:a ∈ cb n f↔∃i,i<n/\f i=a:=by
 unfold cb
 rw[List.mem_map]
 exact ⟨fun ⟨i,h1,h2⟩=>⟨i,List.mem_range.1 h1,h2⟩,fun ⟨i,h1,h2⟩=>⟨i,List.mem_range.2 h1,h2⟩⟩
theorem CJ {s:Sy} (hv:ValidS s) {c:List Int} (hl:c.length=s.2.length) (hc:∀n ∈ c,inC n=true):ValidP (cu s c):=by
 have hb:=hv.bl
 have hr:=hv.rl
 refine ⟨⟨by show 1<=c.length;omega,by show c.length<=12;omega⟩,?_,hc,fun r h=>?_,fun r h=>?_,fun r h=>?_,fun r h n hn=>?_⟩
 ·show (cb s.1.length (js s)).length<=6
  rw[bj];omega
 all_goals
  obtain ⟨i,hi,rfl⟩:=DU.1 h
 ·show (cb s.2.length (Mx s i)).length=c.length
  rw[bj,hl]
 ·exact ⟨by show (1:Int)<=3;omega,by show (3:Int)<=3;omega⟩
 ·have:=hv.wt i hi
  exact z7 (by show -1073741824<=bwS s i/\bwS s i<=1073741824;omega)
 ·obtain ⟨k,hk,rfl⟩:=DU.1 hn
  have:=Ki hv i hk
  exact z7 (by omega)
theorem xb {s:Sy} (hv:ValidS s):ValidP (cu s (gV s)):=CJ hv (by unfold gV;rw[List.length_replicate]) fun n hn=>by
 rw[(List.mem_replicate.1 hn).2];rfl
theorem gy {s:Sy} {k:Nat} {c:Int}:(fR s k c).length=s.2.length:=by unfold fR;rw[List.length_set,List.length_replicate]
theorem Ad {s:Sy} {k j:Nat} {c:Int} (hj:j<s.2.length):(fR s k c).getD j 0=if k=j then c else 0:=by
 unfold fR
 rw[bL (by rw[List.length_set,List.length_replicate];exact hj),List.getElem_set]
 split
 ·rfl
 ·exact List.getElem_replicate _
theorem CK {s:Sy} (hv:ValidS s) {k:Nat} {c:Int} (hc:inC c=true):ValidP (cu s (fR s k c)):=CJ hv gy fun n hn=>by
 unfold fR at hn
 rcases List.mem_or_eq_of_mem_set hn with h | h
 ·rw[(List.mem_replicate.1 h).2];rfl
 ·rw[h];exact hc
def kx (s:ByteArray):Bool:=!decide ((s.size:Int)>60)
def oW (s:Sy):Bool:=decide (s.1.length<=9/\s.2.length<=9)&&(s.1.all (fun b=>kx b.1)&&s.2.all (fun r=>kx r.1&&(!decide ((r.2.1.length:Int)>13)&&r.2.1.all fun h=>kx h.1)))
theorem Ho (s:Sy):fB s=some (oW s):=by
 obtain ⟨bs,rs⟩:=s
 simp only[fB,nu,oW]
 by_cases h0:bs.length<=9/\rs.length<=9
 ·rw[z7 h0,z8 (show ¬ (bs.length:Int)>9 by omega),z8 (show ¬ (rs.length:Int)>9 by omega)]
  simp only[Bool.not_false,Bool.not_true,Bool.or_true,cT,cF,Bool.true_and]
  refine (uV (p:=fun b:Bk=>kx b.1) (d:=bk0) (l:=bs) (no:=some false) (yes:=some (rs.all (fun r=>kx r.1&&(!decide ((r.2.1.length:Int)>13)&&r.2.1.all fun h=>kx h.1)))) (by omega) ?_ ?_).trans ?_
  ·intro again i hi
   simp only[bw,z7 hi,z7 (show (i:Int)<bs.length by omega),cT,z9,eH (show i<=1000000 by omega),kx]
   generalize decide ((((bs.getD i bk0).1.size:Nat):Int)>60)=g
   cases g<;>rfl
  ·intro again
   simp only[z8 (show ¬ (bs.length:Int)<bs.length by omega),cF]
   refine (uV (p:=fun r:Rp=>kx r.1&&(!decide ((r.2.1.length:Int)>13)&&r.2.1.all fun h=>kx h.1)) (d:=rp0) (l:=rs) (no:=some false) (yes:=some true) (by omega) ?_ ?_).trans ?_
   ·intro again i hi
    simp only[bw,z7 hi,z7 (show (i:Int)<rs.length by omega),cT,z9,eH (show i<=1000000 by omega)]
    simp only[kx]
    generalize decide ((((rs.getD i rp0).1.size:Nat):Int)>60)=g1
    by_cases g:((rs.getD i rp0).2.1.length:Int)>13
    ·rw[z7 g]
     cases g1<;>rfl
    ·rw[z8 g]
     cases g1 with
     | true=>rfl
     | false =>
      simp only[Bool.not_true,Bool.not_false,Bool.or_true,Bool.and_self,Bool.true_and,cT,cF]
      refine uV (p:=fun h:Hd=>!decide (((h.1.size:Nat):Int)>60)) (d:=hd0) (l:=(rs.getD i rp0).2.1) (by omega) ?_ ?_
      ·intro again1 t ht
       simp only[bw,z7 ht,z7 (show (t:Int)<(rs.getD i rp0).2.1.length by omega),cT,z9,eH (show t<=1000000 by omega)]
       generalize decide (((((rs.getD i rp0).2.1.getD t hd0).1.size:Nat):Int)>60)=g
       cases g<;>rfl
      ·intro again1
       simp only[z8 (show ¬ ((rs.getD i rp0).2.1.length:Int)<(rs.getD i rp0).2.1.length by omega),cF]
   ·intro again
    simp only[z8 (show ¬ (rs.length:Int)<rs.length by omega),cF]
   ·cases rs.all (fun r=>kx r.1&&(!decide ((r.2.1.length:Int)>13)&&r.2.1.all fun h=>kx h.1))<;>rfl
  ·cases bs.all (fun b=>kx b.1)<;>rfl
 ·rw[z8 h0]
  by_cases g:(bs.length:Int)>9
  ·rw[z7 g];rfl
  ·rw[z8 g,z7 (show (rs.length:Int)>9 by omega)];rfl
theorem FG {s:Sy} (h:oW s=true):s.1.length<=9/\s.2.length<=9:=by
 unfold oW at h
 rw[z10,decide_eq_true_iff] at h
 exact h.1
theorem H6:aK=some true:=by kernel_rfl
theorem QH (s:Sy) (y:List Fq):be s y=some (oW s&&decide (y.length<=10)):=by
 simp only[be,ql,Ho,af]
 rw[show decide ((y.length:Int)<=10)=decide (y.length<=10) from decide_eq_decide.2 (by omega)]
 cases oW s<;>rfl
def pM (x:Int):Bool×Int×Int:=(decide (x<0),hl x.natAbs)
theorem tq {x:Int} (h1: -9223372036854775808<=x) (h2:x<9223372036854775808):cg x=some (x.natAbs:Int):=qY h1 h2
theorem GF {n:Nat}:(bif !decide ((hl n).1=0) then true else !decide ((hl n).2=0))=decide (n≠0):=by
 unfold hl
 simp only
 by_cases h:n=0
 ·subst h;rfl
 ·rw[z7 h]
  by_cases c1:((n / 18446744073709551616:Nat):Int)=0
  ·rw[z7 c1,z8 (show ¬ ((n % 18446744073709551616:Nat):Int)=0 by omega)];rfl
  ·rw[z8 c1];rfl
theorem Jp {a b:Int}:(bif !decide (decide (a<0)=decide (b<0)) then decide ((a.natAbs*b.natAbs)≠0) else false)=decide (a*b<0):=by
 by_cases ha:a<0
 ·by_cases hb:b<0
  ·have:=Int.mul_pos_of_neg_of_neg ha hb
   rw[z8 (show ¬ a*b<0 by omega)]
   simp[ha,hb]
  ·by_cases hb0:b=0
   ·subst hb0;simp
   ·have:=Int.mul_neg_of_neg_of_pos ha (show 0<b by omega)
    rw[z7 this,z7 (show a.natAbs*b.natAbs≠0 by rw[<-Int.natAbs_mul];omega)]
    simp[ha,hb]
 ·by_cases ha0:a=0
  ·subst ha0;simp
  ·by_cases hb:b<0
   ·have:=Int.mul_neg_of_pos_of_neg (show 0<a by omega) hb
    rw[z7 this,z7 (show a.natAbs*b.natAbs≠0 by rw[<-Int.natAbs_mul];omega)]
    simp[ha,hb]
   ·have:=Int.mul_nonneg (show 0<=a by omega) (show 0<=b by omega)
    rw[z8 (show ¬ a*b<0 by omega)]
    simp[ha,hb]
theorem ra {a b:Int} (ha: -9223372036854775808<=a/\a<9223372036854775808) (hb: -9223372036854775808<=b/\b<9223372036854775808):bI a b=some (pM (a*b)):=by
 have e:(((a.natAbs:Nat):Int)*(b.natAbs:Int) / 18446744073709551616,((a.natAbs:Nat):Int)*(b.natAbs:Int) % 18446744073709551616,PUnit.unit)=((hl (a.natAbs*b.natAbs)).1,(hl (a.natAbs*b.natAbs)).2,PUnit.unit):=by
  rw[<-Int.natCast_mul];rfl
 simp only[bI,lj,tq ha.1 ha.2,tq hb.1 hb.2,af]
 rw[RL (by omega) (by omega) (by omega) (by omega),af,e]
 have h1:=GF (n:=a.natAbs*b.natAbs)
 have h2:=Jp (a:=a) (b:=b)
 rw[<-h1] at h2
 unfold pM
 rw[Int.natAbs_mul,<-h2]
 generalize hl (a.natAbs*b.natAbs)=p
 obtain ⟨c,hc⟩:∃c,(decide (decide (a<0)=decide (b<0)))=c:=⟨_,rfl⟩
 obtain ⟨c1,hc1⟩:∃c,decide (p.1=0)=c:=⟨_,rfl⟩
 simp only[hc,hc1]
 cases c<;>cases c1<;>rfl
theorem xy {s t:Bool} {m n:Nat}:aB (s,hl m) (t,hl n)=some (if m<n then -1 else if m=n then 0 else 1):=by
 simp only[aB,fO]
 have e1:(hl m).1=(hl n).1↔m / 18446744073709551616=n / 18446744073709551616:=by unfold hl;simp only;omega
 have e2:(hl m).1<(hl n).1↔m / 18446744073709551616<n / 18446744073709551616:=by unfold hl;simp only;omega
 have e3:(hl m).2=(hl n).2↔m % 18446744073709551616=n % 18446744073709551616:=by unfold hl;simp only;omega
 have e4:(hl m).2<(hl n).2↔m % 18446744073709551616<n % 18446744073709551616:=by unfold hl;simp only;omega
 rw[decide_eq_decide.2 e1,decide_eq_decide.2 e2,decide_eq_decide.2 e3,decide_eq_decide.2 e4]
 generalize q1:decide (m / 18446744073709551616=n / 18446744073709551616)=c1
 generalize q2:decide (m / 18446744073709551616<n / 18446744073709551616)=c2
 generalize q3:decide (m % 18446744073709551616=n % 18446744073709551616)=c3
 generalize q4:decide (m % 18446744073709551616<n % 18446744073709551616)=c4
 cases c1<;>cases c2<;>cases c3<;>cases c4<;>simp only[decide_eq_true_iff,decide_eq_false_iff_not] at q1 q2 q3 q4 <;>
  first
  | (exfalso;omega)
  | (rw[if_pos (show m<n by omega)];rfl)
  | (rw[if_neg (show ¬ m<n by omega),if_pos (show m=n by omega)];rfl)
  | (rw[if_neg (show ¬ m<n by omega),if_neg (show ¬ m=n by omega)];rfl)
theorem Lu {x y:Int}:cG (pM x) (pM y)=some (if x<y then -1 else if x=y then 0 else 1):=by
 have key:∀{a b:Nat} (h1:a<b↔x<y) (h2:a=b↔x=y),(if a<b then (-1:Int) else if a=b then 0 else 1)=if x<y then -1 else if x=y then 0 else 1:=fun h1 h2=>by simp only[h1,h2]
 unfold pM
 simp only[cG,ik,xy,af]
 by_cases hx:x<0
 ·by_cases hy:y<0
  ·rw[z7 hx,z7 hy,key (by omega) (by omega)]
   rfl
  ·rw[if_pos (show x<y by omega),z7 hx,z8 hy]
   rfl
 ·by_cases hy:y<0
  ·rw[if_neg (show ¬ x<y by omega),if_neg (show ¬ x=y by omega),z8 hx,z7 hy]
   rfl
  ·rw[z8 hx,z8 hy,key (a:=x.natAbs) (b:=y.natAbs) (by omega) (by omega)]
   rfl
theorem NO {m n:Nat} (h:m+n<340282366920938463463374607431768211456):(yT (hl m).1 (hl n).1 (pN (hl m).2 (hl n).2 0),yT (hl m).2 (hl n).2 0)=hl (m+n):=by
 have h1:=Ci h
 have c1:(0:Int)<=pN (hl m).2 (hl n).2 0:=by rw[uk];omega
 have c2:pN (hl m).2 (hl n).2 0<=1:=by rw[uk];omega
 simp only[fH,lG,z7 c1,z7 c2] at h1
 exact Option.some.inj h1
theorem GP {m n:Nat} (h:n<=m) (hm:m<340282366920938463463374607431768211456):(uM (hl m).1 (hl n).1 (nJ (hl m).2 (hl n).2 0),uM (hl m).2 (hl n).2 0)=hl (m - n):=by
 have h1:=uE h hm
 have c1:(0:Int)<=nJ (hl m).2 (hl n).2 0:=by rw[uo];omega
 have c2:nJ (hl m).2 (hl n).2 0<=1:=by rw[uo];split<;>omega
 simp only[eF,kF,z7 c1,z7 c2] at h1
 exact Option.some.inj h1
theorem Fe {m n:Nat}:(decide ((0:Int)<=nJ (hl m).2 (hl n).2 0)&&decide (nJ (hl m).2 (hl n).2 0<=(1:Int)))=true:=by
 rw[z7 (show (0:Int)<=nJ (hl m).2 (hl n).2 0 by rw[uo];omega),z7 (show nJ (hl m).2 (hl n).2 0<=1 by rw[uo];split<;>omega)]
 rfl
theorem E9 {m n:Nat}:(decide ((0:Int)<=pN (hl m).2 (hl n).2 0)&&decide (pN (hl m).2 (hl n).2 0<=(1:Int)))=true:=by
 rw[z7 (show (0:Int)<=pN (hl m).2 (hl n).2 0 by rw[uk];omega),z7 (show pN (hl m).2 (hl n).2 0<=1 by rw[uk];omega)]
 rfl
theorem IA {x y:Int} (hx:x.natAbs<85070591730234615865843651857942052864) (hy:y.natAbs<85070591730234615865843651857942052864):bH (pM x) (pM y)=some (pM (x - y)):=by
 unfold pM
 simp only[bH,gv,xy,af,ux,Fe,E9]
 by_cases hs:decide (x<0)=decide (y<0)
 ·
  rw[z7 hs]
  simp only[Bool.not_true,cF]
  by_cases hlt:x.natAbs<y.natAbs
  ·have h1:=GP (m:=y.natAbs) (n:=x.natAbs) (by omega) (by omega)
   have h2:=congrArg Prod.fst h1
   have h3:=congrArg Prod.snd h1
   simp only at h2 h3
   rw[if_pos hlt]
   simp only[show decide ((-1:Int)<0)=true from rfl,cT,h2,h3]
   have h4:=GF (n:=y.natAbs - x.natAbs)
   have e1:decide (x - y<0)=(bif !decide (x<0) then decide (y.natAbs - x.natAbs≠0) else false):=by
    rw[z7 (show y.natAbs - x.natAbs≠0 by omega)]
    by_cases c:x<0
    ·have c':y<0:=by rw[z7 c] at hs;exact z12 hs.symm
     rw[z7 c,z8 (show ¬ x - y<0 by omega)];rfl
    ·have c':¬ y<0:=by rw[z8 c] at hs;exact of_decide_eq_false hs.symm
     rw[z8 c,z7 (show x - y<0 by omega)];rfl
   have e2:(x - y).natAbs=y.natAbs - x.natAbs:=by
    by_cases c:x<0
    ·have c':y<0:=by rw[z7 c] at hs;exact z12 hs.symm
     omega
    ·have c':¬ y<0:=by rw[z8 c] at hs;exact of_decide_eq_false hs.symm
     omega
   rw[e1,e2,<-h4]
   generalize hl (y.natAbs - x.natAbs)=p
   obtain ⟨c,hc⟩:∃c,decide (p.1=0)=c:=⟨_,rfl⟩
   simp only[hc]
   cases decide (x<0)<;>cases c<;>rfl
  ·have h1:=GP (m:=x.natAbs) (n:=y.natAbs) (by omega) (by omega)
   have h2:=congrArg Prod.fst h1
   have h3:=congrArg Prod.snd h1
   simp only at h2 h3
   have h0:¬ (if x.natAbs<y.natAbs then (-1:Int) else if x.natAbs=y.natAbs then 0 else 1)<0:=by
    rw[if_neg hlt]
    split<;>simp
   rw[z8 h0]
   simp only[cF,h2,h3]
   have h4:=GF (n:=x.natAbs - y.natAbs)
   have e1:decide (x - y<0)=(bif decide (x<0) then decide (x.natAbs - y.natAbs≠0) else false):=by
    by_cases c:x<0
    ·have c':y<0:=by rw[z7 c] at hs;exact z12 hs.symm
     rw[z7 c,cond_true]
     exact decide_eq_decide.2 (by omega)
    ·have c':¬ y<0:=by rw[z8 c] at hs;exact of_decide_eq_false hs.symm
     rw[z8 c,z8 (show ¬ x - y<0 by omega)];rfl
   have e2:(x - y).natAbs=x.natAbs - y.natAbs:=by
    by_cases c:x<0
    ·have c':y<0:=by rw[z7 c] at hs;exact z12 hs.symm
     omega
    ·have c':¬ y<0:=by rw[z8 c] at hs;exact of_decide_eq_false hs.symm
     omega
   rw[e1,e2,<-h4]
   generalize hl (x.natAbs - y.natAbs)=p
   obtain ⟨c,hc⟩:∃c,decide (p.1=0)=c:=⟨_,rfl⟩
   simp only[hc]
   cases decide (x<0)<;>cases c<;>rfl
 ·rw[z8 hs]
  have h1:=NO (m:=x.natAbs) (n:=y.natAbs) (by omega)
  have h2:=congrArg Prod.fst h1
  have h3:=congrArg Prod.snd h1
  simp only at h2 h3
  simp only[Bool.not_false,cT,h2,h3]
  have h4:=GF (n:=y.natAbs)
  by_cases c:x<0
  ·have c':¬ y<0:=fun c'=>hs (by rw[z7 c,z7 c'])
   rw[z7 c,z8 c',z7 (show x - y<0 by omega),show (x - y).natAbs=x.natAbs+y.natAbs by omega]
   generalize hl y.natAbs=p
   obtain ⟨d,hd⟩:∃d,decide (p.1=0)=d:=⟨_,rfl⟩
   simp only[hd]
   cases d<;>rfl
  ·have c':y<0:=by
    apply Classical.byContradiction
    intro c'
    exact hs (by rw[z8 c,z8 c'])
   rw[z8 c,z7 c',z8 (show ¬ x - y<0 by omega),show (x - y).natAbs=x.natAbs+y.natAbs by omega]
   generalize hl y.natAbs=p
   obtain ⟨d,hd⟩:∃d,decide (p.1=0)=d:=⟨_,rfl⟩
   simp only[hd]
   cases d<;>rfl
theorem I9 {d q:Int} (hd:0<d) (hd2:d<9223372036854775808) (hq:q.natAbs<9223372036854775808):ca (pM (d*q)) d=some q:=by
 unfold pM
 simp only[ca,gE]
 have e:(d*q).natAbs=d.natAbs*q.natAbs:=Int.natAbs_mul _ _
 have hdn:(d.natAbs:Int)=d:=by omega
 have h1:(d*q).natAbs / 18446744073709551616<d.natAbs:=by
  rw[e]
  refine (Nat.div_lt_iff_lt_mul (by omega)).2 ?_
  exact Nat.mul_lt_mul_of_pos_left (by omega) (by omega)
 have h2:=D8 (h:=(d*q).natAbs / 18446744073709551616) (l:=(d*q).natAbs % 18446744073709551616) (y:=d.natAbs) h1 (by omega) (by omega)
 have h3:(d*q).natAbs / 18446744073709551616*18446744073709551616+(d*q).natAbs % 18446744073709551616=(d*q).natAbs:=by omega
 rw[h3,e,Nat.mul_div_cancel_left _ (by omega)] at h2
 have h4:IntKind.wrap .u64 d=(d.natAbs:Int):=by rw[bQ (by omega) (by omega)];omega
 rw[h4]
 unfold hl
 simp only
 rw[e,h2,af]
 simp only
 rw[bi (x:=(q.natAbs:Int)) (by omega) (by omega)]
 by_cases c:q<0
 ·rw[z7 (show d*q<0 from Int.mul_neg_of_pos_of_neg hd c),cond_true,bi (by omega) (by omega)]
  congr 1
  omega
 ·rw[z8 (show ¬ d*q<0 by have:=Int.mul_nonneg (show 0<=d by omega) (show 0<=q by omega);omega),cond_false]
  congr 1
  omega
theorem bz {i:Nat} (h:i<=1000000):IntKind.wrap .i64 ((i:Int)+1)=((i+1:Nat):Int):=by rw[bi (by omega) (by omega)];rfl
def mid (T:Nat->Nat->Int) (d:Int) (r c i j:Nat):Nat->Nat->Int:=fun k l=>if k≠r/\(k<i\/(k=i/\l<j)) then piv T d r c k l else T k l
theorem OG {T:Nat->Nat->Int} {d:Int} {r c i j l:Nat}:mid T d r c i j r l=T r l:=if_neg fun h=>h.1 rfl
theorem Cb {T:Nat->Nat->Int} {d:Int} {r c i j l:Nat} (h:j<=l):mid T d r c i j i l=T i l:=by
 unfold mid
 rw[if_neg fun h=>by omega]
theorem L8 {T:Nat->Nat->Int} {d:Int} {r c k l:Nat}:T k l=mid T d r c 0 0 k l:=by
 unfold mid
 rw[if_neg fun h=>by omega]
def Bz (T:Nat->Nat->Int) (i j:Nat):Nat->Nat->Int:=fun k l=>if k<i\/(k=i/\l<j) then - T k l else T k l
theorem I0 {T:Nat->Nat->Int} {i j l:Nat} (h:j<=l):Bz T i j i l=T i l:=by
 unfold Bz
 rw[if_neg fun h=>by omega]
theorem HU {T:Nat->Nat->Int} {k l:Nat}:T k l=Bz T 0 0 k l:=by
 unfold Bz
 rw[if_neg fun h=>by omega]
theorem jH {m w:Nat} {T:Nat->Nat->Int}:(iT m w T).2=dR m w T:=rfl
theorem Gv {m w:Nat} {T T':Nat->Nat->Int} {i j:Nat} {x:Int} (hi:i<m) (hj:j<w) (h:∀k l,k<m->l<w->(if k=i/\l=j then x else T k l)=T' k l) :
  ((iT m w T).1,(dR m w T).set i (some ((cb w (T i)).set j x)))=iT m w T':=by
 rw[DI hi hj,iB h]
 rfl
structure PivOk (m w:Nat) (T:Nat->Nat->Int) (d:Int) (r c:Nat):Prop where
 hm:m<=1000
 hw:w<=1000
 hr:r<m
 hc:c<w
 hd:0<d/\d<4611686018427387904
 b:∀i j,i<m->j<w->(T i j).natAbs<4611686018427387904
 q:∀i j,i<m->i≠r->j<w->d*piv T d r c i j=T r c*T i j - T i c*T r j
 qb:∀i j,i<m->i≠r->j<w->(piv T d r c i j).natAbs<4611686018427387904
theorem jp {x:Int} (h:x.natAbs<4611686018427387904): -9223372036854775808<=x/\x<9223372036854775808:=by omega
theorem C8 {x y:Int} (hx:x.natAbs<4611686018427387904) (hy:y.natAbs<4611686018427387904):(x*y).natAbs<85070591730234615865843651857942052864:=by
 rw[Int.natAbs_mul]
 exact Nat.lt_of_le_of_lt (Nat.mul_le_mul (Nat.le_of_lt_succ (n:=4611686018427387903) hx) (Nat.le_of_lt_succ (n:=4611686018427387903) hy)) (by decide)
theorem wN {m w:Nat} {T:Nat->Nat->Int} {d:Int} {β:Nat->Nat} {r c:Nat} {x3 x4:List Int} {x5 x6:Int} (h:PivOk m w T d r c) :
  aN (iT m w T) d (iX m β) x3 x4 x5 x6 (r:Int) (c:Int)=some (iT m w (nk T d r c),sg (T r c)*T r c,iX m (upd β r c),x3,x4,x5,x6,()):=by
 obtain ⟨hm,hw,hr,hc,hd,hb,hq,hqb⟩:=h
 unfold aN ic
 simp only[gQ,kS hr,jH,gw hr,bj,bO hc,bw,z9,z7 hr,z7 hc,dw (show Nat.succ r<=m from hr),dw (show Nat.succ c<=w from hc),cT,JG hr,iW]
 refine cW m (by omega) (fun i=>((i:Int),iT m w (mid T d r c i 0),PUnit.unit)) _ (by rw[ji fun k l _ _=>L8];rfl) (fun again i hi=>?_) (fun again=>?_)
 ·simp only[gQ,kS hi,jH,gw hi,bj,bO hc,bw,z9,z7 hi,z7 hc,z7 (show (i:Int)<m by omega),dw (show Nat.succ i<=m from hi),dw (show Nat.succ c<=w from hc),cT,uZ hi,bz (show i<=1000000 by omega)]
  by_cases e:i=r
  ·rw[z7 (show (i:Int)=r by omega),cond_true]
   congr 3
   refine ji fun k l _ _=>?_
   unfold mid
   by_cases c1:k≠r/\(k<i\/(k=i/\l<0))
   ·rw[if_pos c1,if_pos (by omega)]
   ·rw[if_neg c1,if_neg (by omega)]
  ·rw[z8 (show ¬ (i:Int)=r by omega),cond_false]
   refine ul w (by omega) (fun j=>((j:Int),iT m w (mid T d r c i j),PUnit.unit)) _ (fun again2 j hj=>?_) (fun again2=>?_)
   ·have t1:=ra (jp (hb i j hi hj)) (jp (hb r c hr hc))
    have t2:=ra (jp (hb i c hi hc)) (jp (hb r j hr hj))
    have t3:=IA (C8 (hb i j hi hj) (hb r c hr hc)) (C8 (hb i c hi hc) (hb r j hr hj))
    have t4:ca (pM (T i j*T r c - T i c*T r j)) d=some (piv T d r c i j):=by
     rw[Int.mul_comm (T i j),<-hq i j hi e hj]
     exact I9 hd.1 (by omega) (by have:=hqb i j hi e hj;omega)
    simp only[gQ,kS hr,jH,gw hi,gw hr,bj,bO hj,bw,z9,z7 hj,z7 hr,z7 (show (j:Int)<w by omega),
     dw (show Nat.succ j<=w from hj),dw (show Nat.succ r<=m from hr),cT,OG,Cb (Nat.le_refl j),Cb (Nat.zero_le c),t1,t2,t3,t4,af,bz (show j<=1000000 by omega)]
    congr 3
    refine Gv hi hj fun k l hk hl=>?_
    unfold mid
    by_cases c0:k=i/\l=j
    ·rw[if_pos c0,if_pos (by omega),c0.1,c0.2]
    ·rw[if_neg c0]
     by_cases c1:k≠r/\(k<i\/(k=i/\l<j))
     ·rw[if_pos c1,if_pos (by omega)]
     ·rw[if_neg c1,if_neg (by omega)]
   ·simp only[jH,gw hi,bj,z8 (show ¬ (w:Int)<w by omega),cF]
    congr 3
    refine ji fun k l hk hl=>?_
    unfold mid
    by_cases c1:k≠r/\(k<i\/(k=i/\l<w))
    ·rw[if_pos c1,if_pos (by omega)]
    ·rw[if_neg c1,if_neg (by omega)]
 ·simp only[gQ,z8 (show ¬ (m:Int)<m by omega),cF]
  by_cases hneg:T r c<0
  ·rw[z7 hneg,cond_true]
   refine cW m (by omega) (fun i=>((i:Int),iT m w (Bz (mid T d r c m 0) i 0),PUnit.unit)) _ (by rw[ji fun k l _ _=>HU];rfl) (fun again i hi=>?_) (fun again=>?_)
   ·simp only[gQ,kS hi,jH,gw hi,bj,bw,z9,z7 hi,z7 (show (i:Int)<m by omega),dw (show Nat.succ i<=m from hi),cT,uZ hi,bz (show i<=1000000 by omega)]
    refine ul w (by omega) (fun j=>((j:Int),iT m w (Bz (mid T d r c m 0) i j),PUnit.unit)) _ (fun again2 j hj=>?_) (fun again2=>?_)
    ·have hbb:(mid T d r c m 0 i j).natAbs<4611686018427387904:=by
      unfold mid
      split
      ·rename_i hh;exact hqb i j hi hh.1 hj
      ·exact hb i j hi hj
     simp only[jH,gw hi,bj,bO hj,bw,z9,z7 hj,z7 (show (j:Int)<w by omega),
      dw (show Nat.succ j<=w from hj),cT,I0 (Nat.le_refl j),bz (show j<=1000000 by omega),bi (show -9223372036854775808<=0 - mid T d r c m 0 i j by omega) (by omega)]
     congr 3
     refine Gv hi hj fun k l hk hl=>?_
     unfold Bz
     by_cases c0:k=i/\l=j
     ·rw[if_pos c0,if_pos (by omega),c0.1,c0.2]
      omega
     ·rw[if_neg c0]
      by_cases c1:k<i\/(k=i/\l<j)
      ·rw[if_pos c1,if_pos (by omega)]
      ·rw[if_neg c1,if_neg (by omega)]
    ·simp only[jH,gw hi,bj,z8 (show ¬ (w:Int)<w by omega),cF]
     congr 3
     refine ji fun k l hk hl=>?_
     unfold Bz
     by_cases c1:k<i\/(k=i/\l<w)
     ·rw[if_pos c1,if_pos (by omega)]
     ·rw[if_neg c1,if_neg (by omega)]
   ·have hrc:=hb r c hr hc
    simp only[gQ,z8 (show ¬ (m:Int)<m by omega),cF,bi (show -9223372036854775808<=0 - T r c by omega) (by omega)]
    have e1:sg (T r c)= -1:=by unfold sg;rw[if_pos hneg]
    congr 2
    ·refine ji fun k l hk hl=>?_
     unfold Bz mid nk
     rw[if_pos (by omega),e1]
     by_cases c0:k=r
     ·rw[if_neg (by omega),if_pos c0,c0];omega
     ·rw[if_pos (by omega),if_neg c0];omega
    ·rw[e1]
     congr 1
     omega
  ·rw[z8 hneg,cond_false]
   have e1:sg (T r c)=1:=by unfold sg;rw[if_neg hneg]
   congr 2
   ·refine ji fun k l hk hl=>?_
    unfold mid nk
    rw[e1,Int.one_mul]
    by_cases c0:k=r
    ·rw[if_neg (by omega),if_pos c0,c0]
    ·rw[if_pos (by omega),if_neg c0]
   ·rw[e1,Int.one_mul]
theorem sP {x y z p q r:Int} (hp:0<p) (hq:0<q) (hr:0<r) (h1:x*q<=y*p) (h2:y*r<=z*q):x*r<=z*p:=by
 refine zx hq ?_
 have a1:=z11 h1 (Int.le_of_lt hr)
 have a2:=z11 h2 (Int.le_of_lt hp)
 calc q*(x*r)=x*q*r:=by grind
  _<=y*p*r:=a1
  _=y*r*p:=by grind
  _<=z*q*p:=a2
  _=q*(z*p):=by grind
theorem MU {x y z p q r:Int} (hp:0<p) (hq:0<q) (hr:0<r) (h1:x*q<=y*p) (h2:y*r<=z*q) (h:x*r=z*p):x*q=y*p/\y*r=z*q:=by
 have h3:=sP hq hr hp h2 (by rw[h];exact Int.le_refl _)
 have h4:=sP (x:=z) (y:=x) (z:=y) (p:=r) (q:=p) (r:=q) hr hp hq (by rw[h];exact Int.le_refl _) h1
 exact ⟨Int.le_antisymm h1 h3,Int.le_antisymm h2 h4⟩
theorem xC {m w:Nat} {T:Nat->Nat->Int} {d:Int} {β:Nat->Nat} {c R:Nat} {x1:Int} {x3 x4:List Int} {x5:Int} (hm:m<=1000) (hc:c<w) (hR:R<w) (hb:∀i j,i<m->j<w->(T i j).natAbs<4611686018427387904) :
  ∃b,aJ (sF m w T,x1,iX m β,x3,x4,x5,(R:Int)) (c:Int)=some b/\((b= -1/\∀i,i<m->T i c<=0)\/∃r:Nat,b=r/\Dn.Leaves m R ⟨T,d,β⟩ c r):=by
 unfold aJ gu
 refine Rm (fun (x:Int×Int×PUnit)=>∃i:Nat,i<=m/\x.2.1=i/\((x.1= -1/\∀k,k<i->T k c<=0)\/∃r:Nat,x.1=r/\Dn.Leaves i R ⟨T,d,β⟩ c r)) _ (fun x=>((m:Int) - x.2.1).toNat) ?_ ⟨0,by omega,rfl,.inl ⟨rfl,fun k hk=>by omega⟩⟩ (by simp only;omega)
 rintro ⟨b,_,_⟩ ⟨i,hi,rfl,hI⟩
 simp only at hI
 by_cases hlt:i<m
 ·have gR:=oc (w:=w) (T:=T) hlt
  have ext:∀r,Dn.Leaves i R ⟨T,d,β⟩ c r->(0<T i c->T r R*T i c<=T i R*T r c/\(T r R*T i c=T i R*T r c->β r<=β i))->Dn.Leaves (i+1) R ⟨T,d,β⟩ c r:=fun r h hn=>by
   refine ⟨by have:=h.lt;omega,h.pos,fun k hk hp=>?_,fun k hk hp he=>?_⟩
   ·by_cases e:k=i
    ·subst e;exact (hn hp).1
    ·exact h.le k (by omega) hp
   ·by_cases e:k=i
    ·subst e;exact (hn hp).2 he
    ·exact h.tie k (by omega) hp he
  right
  by_cases hpos:T i c<=0
  ·refine ⟨(b,((i+1:Nat):Int),PUnit.unit),⟨i+1,by omega,rfl,?_⟩,by simp only;omega,fun rec=>?_⟩
   ·rcases hI with ⟨h1,h2⟩ | ⟨r,h1,h2⟩
    ·exact .inl ⟨h1,fun k hk=>by
      by_cases e:k=i
      ·rw[e];exact hpos
      ·exact h2 k (by omega)⟩
    ·exact .inr ⟨r,h1,ext r h2 fun h=>by omega⟩
   ·simp only[gP,bw,z9,z7 hlt,z7 (show (i:Int)<m by omega),gR,bj,bO hc,z7 hc,z7 hpos,cT,bz (show i<=1000000 by omega)]
  ·rcases hI with ⟨h1,h2⟩ | ⟨r,h1,h2⟩
   ·refine ⟨((i:Int),((i+1:Nat):Int),PUnit.unit),⟨i+1,by omega,rfl,.inr ⟨i,rfl,⟨by omega,show 0<T i c by omega,fun k hk hp=>?_,fun k hk hp _=>?_⟩⟩⟩,by simp only;omega,fun rec=>?_⟩
    ·by_cases e:k=i
     ·subst e;exact Int.le_refl _
     ·have h3:=h2 k (by omega)
      have hp:0<T k c:=hp
      omega
    ·by_cases e:k=i
     ·subst e;exact Nat.le_refl _
     ·have h3:=h2 k (by omega)
      have hp:0<T k c:=hp
      omega
    ·simp only[gP,bw,z9,z7 hlt,z7 (show (i:Int)<m by omega),gR,bj,bO hc,z7 hc,z8 hpos,z7 (show b<0 by omega),cT,cF,bz (show i<=1000000 by omega)]
   ·subst h1
    have hr:r<m:=by have:=h2.lt;omega
    have gr:=oc (w:=w) (T:=T) hr
    have t1:=ra (jp (hb i R hlt hR)) (jp (hb r c hr hc))
    have t2:=ra (jp (hb r R hr hR)) (jp (hb i c hlt hc))
    have hpr:0<T r c:=h2.pos
    refine ⟨(if T i R*T r c<T r R*T i c\/(T i R*T r c=T r R*T i c/\β i<β r) then (i:Int) else (r:Int),((i+1:Nat):Int),PUnit.unit),⟨i+1,by omega,rfl,.inr ?_⟩,by simp only;omega,fun rec=>?_⟩
    ·simp only
     by_cases hq:T i R*T r c<T r R*T i c\/(T i R*T r c=T r R*T i c/\β i<β r)
     ·rw[if_pos hq]
      have hle:T i R*T r c<=T r R*T i c:=by rcases hq with h | h<;>omega
      have hpi:0<T i c:=by omega
      refine ⟨i,rfl,⟨by omega,hpi,fun k hk hp=>?_,fun k hk hp he=>?_⟩⟩
      ·have hp:0<T k c:=hp
       by_cases e:k=i
       ·subst e;exact Int.le_refl _
       ·exact sP hpi hpr hp hle (h2.le k (by omega) hp)
      ·have hp:0<T k c:=hp
       have he:T i R*T k c=T k R*T i c:=he
       by_cases e:k=i
       ·subst e;exact Nat.le_refl _
       ·obtain ⟨e1,e2⟩:=MU hpi hpr hp hle (h2.le k (by omega) hp) he
        have h3:β r<=β k:=h2.tie k (by omega) hp e2
        show β i<=β k
        rcases hq with h | h<;>omega
     ·rw[if_neg hq]
      have h3:=fun h=>hq (.inl h)
      refine ⟨r,rfl,ext r h2 fun hp=>⟨by omega,fun he=>?_⟩⟩
      have h4:=fun h=>hq (.inr ⟨he.symm,h⟩)
      omega
    ·simp only[gP,bw,z9,z7 hlt,z7 hr,z7 (show (i:Int)<m by omega),gR,gr,bj,bO hc,bO hR,z7 hc,z7 hR,z8 hpos,z8 (show ¬ (r:Int)<0 by omega),cT,cF,bz (show i<=1000000 by omega),
      t1,t2,af,Lu,iW,jU hlt,jU hr]
     by_cases c1:T i R*T r c<T r R*T i c
     ·rw[if_pos c1,if_pos (.inl c1)]
      generalize decide ((β i:Int)<β r)=bb
      cases bb<;>rfl
     ·by_cases c2:T i R*T r c=T r R*T i c
      ·rw[if_neg c1,if_pos c2]
       by_cases c3:β i<β r
       ·rw[if_pos (.inr ⟨c2,c3⟩),z7 (show (β i:Int)<β r by omega)]
        rfl
       ·rw[if_neg (by rintro (h | h)<;>omega),z8 (show ¬ (β i:Int)<β r by omega)]
        rfl
      ·rw[if_neg c1,if_neg c2,if_neg (by rintro (h | h)<;>omega)]
       generalize decide ((β i:Int)<β r)=bb
       cases bb<;>rfl
 ·left
  have e:i=m:=by omega
  subst e
  refine ⟨b,hI,fun rec=>?_⟩
  simp only[gP,z8 (show ¬ (i:Int)<i by omega),cF]
theorem kJ {n:Nat} {f:Nat->Int} {B:Int} (h:∀i,i<n-> -B<=f i/\f i<=B): -(n*B)<=sz n f/\sz n f<=n*B:=by
 induction n with
 | zero=>simp[sz]
 | succ n ih =>
  have h1:=ih fun i hi=>h i (by omega)
  have h2:=h n (by omega)
  simp only[sz]
  rw[show ((n+1:Nat):Int)*B=n*B+B by rw[show ((n+1:Nat):Int)=(n:Int)+1 by omega,Int.add_mul,Int.one_mul]]
  omega
theorem yS {m w:Nat} {T:Nat->Nat->Int} {β:Nat->Nat} {N j:Nat} {x1 x6:Int} {x3 x4:List Int} (hm:m<=1000) (hj:j<w) (hb:∀i,i<m-> -1125899906842624<=T i j/\T i j<=1125899906842624) :
  aH (sF m w T,x1,iX m β,x3,x4,(N:Int),x6) (j:Int)=some (sz m fun i=>fN N (β i)*T i j):=by
 unfold aH fI
 have hterm:∀i,i<m-> -1125899906842624<=fN N (β i)*T i j/\fN N (β i)*T i j<=1125899906842624:=fun i hi=>by
  have:=hb i hi
  unfold fN
  split<;>omega
 refine ul m (by omega) (fun i=>(sz i (fun k=>fN N (β k)*T k j),(i:Int),PUnit.unit)) _ (fun again i hi=>?_) (fun again=>?_)
 ·have h1:=kJ (n:=i) (f:=fun k=>fN N (β k)*T k j) (B:=1125899906842624) fun k hk=>hterm k (by omega)
  have h2:=hterm i hi
  have hi2:(i:Int)<=1000:=by omega
  have h3:(i:Int)*1125899906842624<=1000*1125899906842624:=z11 hi2 (by omega)
  simp only[gP,iW,bw,z9,z7 hi,z7 (show (i:Int)<m by omega),oc hi,jU hi,bj,bO hj,z7 hj,cT,bz (show i<=1000000 by omega)]
  have hT:=hb i hi
  by_cases e:N<=β i
  ·have e1:fN N (β i)*T i j=T i j:=by unfold fN;rw[if_pos e];omega
   rw[z7 (show (β i:Int)>=N by omega),cond_true,bi (by omega) (by omega)]
   simp only[sz,e1]
  ·have e1:fN N (β i)*T i j=0:=by unfold fN;rw[if_neg e];omega
   rw[z8 (show ¬ (β i:Int)>=N by omega),cond_false]
   simp only[sz,e1,Int.add_zero]
 ·simp only[gP,z8 (show ¬ (m:Int)<m by omega),cF]
def jj (cs:List Int) (j:Nat):Int:=cs.getD j 0
theorem wo {M:List (List Int)} {x1:Int} {x2 x3 cs:List Int} {x5 x6:Int} {j:Nat}:aO (M,x1,x2,x3,cs,x5,x6) (j:Int)=some (jj cs j):=by
 unfold jj
 simp only[aO,iE,bw,z9]
 by_cases h:j<cs.length
 ·rw[z7 h,z7 (show (j:Int)<cs.length by omega)];rfl
 ·rw[z8 (show ¬ (j:Int)<cs.length by omega),cond_false,List.getD_eq_getElem?_getD,List.getElem?_eq_none (by omega)];rfl
theorem F5 {m w:Nat} {T:Nat->Nat->Int} {d:Int} {β:Nat->Nat} {j:Nat} {x3 cs:List Int} {x5 x6:Int} (hm:m<=1000) (hj:j<w) (hd: -1125899906842624<=jj cs j*d/\jj cs j*d<=1125899906842624)
  (hb:∀i,i<m-> -1125899906842624<=jj cs (β i)*T i j/\jj cs (β i)*T i j<=1125899906842624) :
  bP (sF m w T,d,iX m β,x3,cs,x5,x6) (j:Int)=some (zr m (jj cs) ⟨T,d,β⟩ j):=by
 unfold bP gx
 rw[wo,obN]
 refine cW m (by omega) (fun i=>(jj cs j*d - sz i (fun k=>jj cs (β k)*T k j),(i:Int),PUnit.unit)) _ ?_ (fun again i hi=>?_) (fun again=>?_)
 ·simp only[sz,Int.sub_zero]
  rw[bi (by omega) (by omega)]
  rfl
 ·have h1:=kJ (n:=i) (f:=fun k=>jj cs (β k)*T k j) (B:=1125899906842624) fun k hk=>hb k (by omega)
  have h2:=hb i hi
  have hi2:(i:Int)<=1000:=by omega
  have h3:(i:Int)*1125899906842624<=1000*1125899906842624:=z11 hi2 (by omega)
  simp only[gP,iW,bw,z9,z7 hi,z7 (show (i:Int)<m by omega),oc hi,jU hi,bj,bO hj,z7 hj,cT,bz (show i<=1000000 by omega),wo,af]
  rw[bi (x:=jj cs (β i)*T i j) (by omega) (by omega),bi (by omega) (by omega)]
  simp only[sz]
  congr 2
  omega
 ·simp only[gP,z8 (show ¬ (m:Int)<m by omega),cF]
  rfl
structure Bnd (L:Lin) (Y:Lay):Prop where
 ok:Y.ok L
 m:L.m<=12
 w:Y.w L<=64
 P:L.F0*L.P<=17592186044416
theorem xT {x:Int}:ab x=x.natAbs:=rfl
section
variable {L:Lin} {Y:Lay}
theorem Bnd.P' (h:Bnd L Y):L.P<=17592186044416:=by
 have h1:=L.F0_pos
 have h2:=L.P_pos
 have h3:1*L.P<=L.F0*L.P:=z11 h1 (by omega)
 have:=h.P
 omega
theorem Bnd.tab (h:Bnd L Y) {T:Nat->Nat->Int} {d:Int} {β:Nat->Nat} (ht:Tb L.m (Y.w L) (Y.M L) T d β):(0<d/\d<=17592186044416)/\∀i j,i<L.m->j<Y.w L->(T i j).natAbs<=17592186044416:=by
 obtain ⟨h1,h2⟩:=qL h.ok ht
 have h3:=h.P'
 refine ⟨⟨ht.dpos,by omega⟩,fun i j hi hj=>?_⟩
 have:=h2 i j hi hj
 rw[xT] at this
 omega
theorem M6 (j:Nat):(cj L j).natAbs<=L.F0 - 1:=by
 unfold cj Lin.F0
 have h0:0<=sz L.n fun j=>ab (L.c j):=iI fun j _=>cR _
 split
 ·rename_i hj
  have h1:(sz L.n fun i=>if i=j then ab (L.c j) else 0)<=sz L.n fun j=>ab (L.c j):=qx fun i _=>by
   by_cases e:i=j
   ·rw[if_pos e,e];exact Int.le_refl _
   ·rw[if_neg e];exact cR _
  rw[eQ hj fun i _ hne=>if_neg hne,if_pos rfl,xT] at h1
  omega
 ·simp only[Int.natAbs_zero]
  omega
theorem Bnd.cost (h:Bnd L Y) {x:Int} (hx:(x.natAbs:Int)<=L.P) (j:Nat): -17592186044416<=cj L j*x/\cj L j*x<=17592186044416:=by
 have h1:=M6 (L:=L) j
 have h2:((cj L j*x).natAbs:Int)<=L.F0*L.P:=by
  rw[Int.natAbs_mul,Int.natCast_mul]
  refine Int.le_trans (Int.mul_le_mul (show ((cj L j).natAbs:Int)<=L.F0 by omega) hx (by omega) (by omega)) (Int.le_refl _)
 have:=h.P
 omega
theorem Bnd.tabP (h:Bnd L Y) {T:Nat->Nat->Int} {d:Int} {β:Nat->Nat} (ht:Tb L.m (Y.w L) (Y.M L) T d β):(d.natAbs:Int)<=L.P/\∀i j,i<L.m->j<Y.w L->((T i j).natAbs:Int)<=L.P:=by
 obtain ⟨h1,h2⟩:=qL h.ok ht
 have:=ht.dpos
 exact ⟨by omega,fun i j hi hj=>h2 i j hi hj⟩
theorem RU (x:Int) (y:Int):(sg x*y).natAbs=y.natAbs:=by unfold sg;split<;>omega
theorem Bnd.piv (h:Bnd L Y) {T:Nat->Nat->Int} {d:Int} {β:Nat->Nat} (ht:Tb L.m (Y.w L) (Y.M L) T d β) {r c:Nat} (hr:r<L.m) (hc:c<Y.w L) (he:T r c≠0):PivOk L.m (Y.w L) T d r c:=by
 obtain ⟨h1,h2⟩:=h.tab ht
 obtain ⟨h3,h4⟩:=h.tab (ht.step hr hc he)
 have:=h.m
 have:=h.w
 refine ⟨by omega,by omega,hr,hc,by omega,fun i j hi hj=>by have:=h2 i j hi hj;omega,fun i j hi hne hj=>jr ht hr hi (Ne.symm hne) hc hj,fun i j hi hne hj=>?_⟩
 have h5:=h4 i j hi hj
 unfold nk at h5
 rw[if_neg hne,RU] at h5
 omega
def AZ (L:Lin) (Y:Lay) (S:Sx):Prop:=∀i,i<L.m->Y.N<=S.β i->(∀j,j<Y.N->S.T i j=0)/\S.T i (Y.R L)=0
theorem AZ.art (S:Sx) (h:AZ L Y S):Er L.m Y.N S (Y.R L):=fun i hi hN=>(h i hi hN).2
theorem AZ.col (S:Sx) (h:AZ L Y S) {q:Nat} (hq:q<Y.N):Er L.m Y.N S q:=fun i hi hN=>(h i hi hN).1 q hq
def lm (S:Sx) (r c:Nat):Sx:=⟨nk S.T S.d r c,sg (S.T r c)*S.T r c,upd S.β r c⟩
theorem Ee {m w:Nat} {S:Sx} {r c:Nat} (hp:0<S.T r c):StepAt m w S (lm S r c) r c:=by
 have e:sg (S.T r c)=1:=by unfold sg;rw[if_neg (by omega)]
 refine ⟨fun i j _ _=>?_,?_,fun i _=>rfl⟩
 ·show nk S.T S.d r c i j=_
  unfold nk
  rw[e,Int.one_mul]
 ·show sg (S.T r c)*S.T r c=_
  rw[e,Int.one_mul]
theorem AZ.step {S:Sx} (h:AZ L Y S) {r c:Nat} (hc:c<Y.N):AZ L Y (lm S r c):=fun i hi hN=>by
 have hb:(lm S r c).β i=upd S.β r c i:=rfl
 rw[hb] at hN
 unfold upd at hN
 by_cases e:i=r
 ·rw[if_pos e] at hN;omega
 ·rw[if_neg e] at hN
  obtain ⟨h1,h2⟩:=h i hi hN
  have hT:∀j,(lm S r c).T i j=sg (S.T r c)*Dn.piv S.T S.d r c i j:=fun j=>by
   show nk S.T S.d r c i j=_
   unfold nk
   rw[if_neg e]
  have hz:∀j,S.T i j=0->Dn.piv S.T S.d r c i j=0:=fun j hj=>by
   unfold Dn.piv
   rw[hj,h1 c hc,Int.mul_zero,Int.zero_mul,Int.sub_zero,Int.zero_ediv]
  exact ⟨fun j hj=>by rw[hT,hz j (h1 j hj),Int.mul_zero],by rw[hT,hz _ h2,Int.mul_zero]⟩
abbrev nf (L:Lin) (Y:Lay) (x3 cs:List Int) (S:Sx):(List Nat×List (Option (List Int)))×Int×List Int×List Int×List Int×Int×Int×PUnit:=(iT L.m (Y.w L) S.T,S.d,iX L.m S.β,x3,cs,(Y.N:Int),((Y.R L:Nat):Int),PUnit.unit)
theorem E7 (h:Bnd L Y) (hp:(Y.w L) ^ L.m<=1180591620717411303424) {x3 cs:List Int} (hcs:∀j,jj cs j=cj L j) {S:Sx} (hv:Y.Val L S) (ha:AZ L Y S) :
  ∃S' ok,bG (iT L.m (Y.w L) S.T) S.d (iX L.m S.β) x3 cs (Y.N:Int) ((Y.R L:Nat):Int)=some (iT L.m (Y.w L) S'.T,S'.d,iX L.m S'.β,x3,cs,(Y.N:Int),((Y.R L:Nat):Int),ok,())/\Y.Val L S'/\AZ L Y S' /\
   (ok=true->∀j,j<Y.N->0<=zr L.m (cj L) S' j)/\(ok=false->∃q,q<Y.N/\zr L.m (cj L) S' q<0/\∀i,i<L.m->S'.T i q<=0):=by
 have hcs':jj cs=cj L:=funext hcs
 have hm:=h.m
 have hw:=h.w
 have hN:Y.N<=Y.R L:=by unfold Lay.R;omega
 have hRw:Y.R L<Y.w L:=by unfold Lay.R Lay.w;omega
 unfold bG gz
 have fin:∀{x:Option ((List Nat×List (Option (List Int)))×Int×List Int×List Int×List Int×Int×Int×Bool×Unit)},(∃r,x=some r/\∃S' ok,r=(iT L.m (Y.w L) S'.T,S'.d,iX L.m S'.β,x3,cs,(Y.N:Int),((Y.R L:Nat):Int),ok,PUnit.unit)/\Y.Val L S'/\AZ L Y S' /\
   (ok=true->∀j,j<Y.N->0<=zr L.m (cj L) S' j)/\(ok=false->∃q,q<Y.N/\zr L.m (cj L) S' q<0/\∀i,i<L.m->S'.T i q<=0))->∃S' ok,x=some (iT L.m (Y.w L) S'.T,S'.d,iX L.m S'.β,x3,cs,(Y.N:Int),((Y.R L:Nat):Int),ok,())/\Y.Val L S'/\AZ L Y S' /\
   (ok=true->∀j,j<Y.N->0<=zr L.m (cj L) S' j)/\(ok=false->∃q,q<Y.N/\zr L.m (cj L) S' q<0/\∀i,i<L.m->S'.T i q<=0):=by
  rintro x ⟨r,h1,S',ok,rfl,h3⟩
  exact ⟨S',ok,h1,h3⟩
 refine fin (NH (γ:=Sx) (I:=fun (S:Sx) x=>x=nf L Y x3 cs S/\Y.Val L S/\AZ L Y S)
  (Q:=fun r=>∃S' ok,r=(iT L.m (Y.w L) S'.T,S'.d,iX L.m S'.β,x3,cs,(Y.N:Int),((Y.R L:Nat):Int),ok,PUnit.unit)/\Y.Val L S'/\AZ L Y S' /\
   (ok=true->∀j,j<Y.N->0<=zr L.m (cj L) S' j)/\(ok=false->∃q,q<Y.N/\zr L.m (cj L) S' q<0/\∀i,i<L.m->S'.T i q<=0))
  (μ:=fun S=>left L.m (Y.w L) Y.N (Y.R L) (Y.M L) (cj L) S) ?_ (s:=S) ⟨rfl,hv,ha⟩ (Nat.lt_of_lt_of_le (GQ (by unfold Lay.w;omega) S) hp))
 rintro S _ ⟨rfl,hv,ha⟩
 obtain ⟨hd,hb⟩:=h.tabP hv.tb
 have hred:∀j,j<Y.N->bP (sF L.m (Y.w L) S.T,S.d,iX L.m S.β,x3,cs,(Y.N:Int),((Y.R L:Nat):Int)) (j:Int)=some (zr L.m (cj L) S j):=fun j hj=>by
  have hjw:j<Y.w L:=by omega
  have:=F5 (m:=L.m) (w:=Y.w L) (T:=S.T) (d:=S.d) (β:=S.β) (j:=j) (x3:=x3) (cs:=cs) (x5:=(Y.N:Int)) (x6:=((Y.R L:Nat):Int)) (by omega) hjw
   (by rw[hcs'];have:=h.cost hd j;omega) (fun i hi=>by rw[hcs'];have:=h.cost (hb i j hi hjw) (S.β i);omega)
  rw[this,hcs']
 rcases xG Y.N (fun j=>decide (zr L.m (cj L) S j<0)) with hnone | ⟨q,hq,hneg,hleast⟩
 ·left
  refine ⟨_,⟨S,true,rfl,hv,ha,fun _ j hj=>by have:=of_decide_eq_false (hnone j hj);omega,fun e=>by cases e⟩,fun rec=>?_⟩
  refine ul Y.N (by omega) (fun j=>((-1:Int),(j:Int),PUnit.unit)) _ (fun again j hj=>?_) (fun again=>?_)
  ·simp only[aX,cT,z7 (show (j:Int)<Y.N by omega),show decide ((-1:Int)<0)=true from rfl,ip,im,hred j hj,af,hnone j hj,cF,bz (show j<=1000000 by omega)]
  ·simp only[aX,cT,cF,z8 (show ¬ (Y.N:Int)<Y.N by omega),show decide ((-1:Int)<0)=true from rfl]
 ·have hneg:=z12 hneg
  have hqw:q<Y.w L:=by omega
  have hent:Enters L.m Y.N (cj L) S q:=⟨hq,hneg,fun j hj=>by have:=of_decide_eq_false (hleast j hj);omega⟩
  have hbb:∀i j,i<L.m->j<Y.w L->(S.T i j).natAbs<4611686018427387904:=fun i j hi hj=>by have:=(h.tab hv.tb).2 i j hi hj;omega
  obtain ⟨b,hl1,hl2⟩:=xC (m:=L.m) (w:=Y.w L) (T:=S.T) (d:=S.d) (β:=S.β) (c:=q) (R:=Y.R L) (x1:=S.d) (x3:=x3) (x4:=cs) (x5:=(Y.N:Int)) (by omega) hqw hRw hbb
  have search:∀{R:Type} {F:(Int×Int×PUnit->Option R)->Int×Int×PUnit->Option R} {res:Option R},(∀again j,j<q->F again ((-1:Int),(j:Int),PUnit.unit)=again ((-1:Int),((j+1:Nat):Int),PUnit.unit)) ->
    (∀again,F again ((-1:Int),(q:Int),PUnit.unit)=again ((q:Int),((q+1:Nat):Int),PUnit.unit))->(∀again,F again ((q:Int),((q+1:Nat):Int),PUnit.unit)=res)->lpK (Int×Int×PUnit) R F ((-1:Int),(0:Int),PUnit.unit)=res:=fun h1 h2 h3=>by
   refine cW (q+1) (by omega) (fun j=>if j<=q then ((-1:Int),(j:Int),PUnit.unit) else ((q:Int),(j:Int),PUnit.unit)) _ (by rw[if_pos (by omega)];rfl) (fun again j hj=>?_) (fun again=>?_)
   ·by_cases e:j=q
    ·subst e
     rw[if_pos (by omega),if_neg (by omega)]
     exact h2 again
    ·rw[if_pos (by omega),if_pos (by omega)]
     exact h1 again j (by omega)
   ·rw[if_neg (by omega)]
    exact h3 again
  rcases hl2 with ⟨e,hno⟩ | ⟨r,e,hlv⟩
  ·subst e
   left
   refine ⟨_,⟨S,false,rfl,hv,ha,fun e=>(by cases e),fun _=>⟨q,hq,hneg,hno⟩⟩,fun rec=>?_⟩
   refine search (fun again j hj=>?_) (fun again=>?_) (fun again=>?_)
   ·simp only[aX,cT,z7 (show (j:Int)<Y.N by omega),show decide ((-1:Int)<0)=true from rfl,ip,im,hred j (by omega),af,hleast j hj,cF,bz (show j<=1000000 by omega)]
   ·simp only[aX,cT,z7 (show (q:Int)<Y.N by omega),show decide ((-1:Int)<0)=true from rfl,ip,im,hred q hq,af,z7 hneg,bz (show q<=1000000 by omega)]
   ·simp only[aX,cT,z8 (show ¬ (q:Int)<0 by omega),jl,Bool.and_false,cF,ip,im,hl1,af,show decide ((-1:Int)<0)=true from rfl]
  ·subst e
   right
   have hpr:0<S.T r q:=hlv.pos
   have hr:=hlv.lt
   have hs:=Ee (m:=L.m) (w:=Y.w L) hpr
   refine ⟨lm S r q,nf L Y x3 cs (lm S r q),⟨rfl,hv.stepAt hRw hqw (by omega) hlv hs,ha.step hq⟩,zL (Lay.art h.ok).1 (Lay.art h.ok).2 hN hRw hv ⟨hent,hlv,hs⟩,fun rec=>?_⟩
   refine search (fun again j hj=>?_) (fun again=>?_) (fun again=>?_)
   ·simp only[aX,cT,z7 (show (j:Int)<Y.N by omega),show decide ((-1:Int)<0)=true from rfl,ip,im,hred j (by omega),af,hleast j hj,cF,bz (show j<=1000000 by omega)]
   ·simp only[aX,cT,z7 (show (q:Int)<Y.N by omega),show decide ((-1:Int)<0)=true from rfl,ip,im,hred q hq,af,z7 hneg,bz (show q<=1000000 by omega)]
   ·simp only[aX,cT,z8 (show ¬ (q:Int)<0 by omega),jl,Bool.and_false,cF,ip,im,hl1,af,z8 (show ¬ (r:Int)<0 by omega),wN (h.piv hv.tb hr hqw (show S.T r q≠0 by omega))]
    rfl
end
section
variable {L:Lin} {Y:Lay}
theorem Val.flat {S:Sx} (hv:Y.Val L S) {r c:Nat} (hr:r<L.m) (hc:c<Y.N) (he:S.T r c≠0) (h0:S.T r (Y.R L)=0):Y.Val L (lm S r c):=by
 have hcw:c<Y.w L:=by unfold Lay.w;omega
 have hRw:Y.R L<Y.w L:=by unfold Lay.R Lay.w;omega
 have hd:=hv.tb.dpos
 refine ⟨hv.tb.step hr hcw he,fun i hi=>?_,fun i hi=>?_⟩
 ·show 0<=nk S.T S.d r c i (Y.R L)
  unfold nk
  by_cases e:i=r
  ·rw[if_pos e,h0,Int.mul_zero];exact Int.le_refl _
  ·rw[if_neg e]
   have h1:=jr hv.tb hr hi (Ne.symm e) hcw hRw
   rw[h0,Int.mul_zero,Int.sub_zero] at h1
   have h2:0<=sg (S.T r c)*S.T r c*S.T i (Y.R L):=Int.mul_nonneg (Int.le_of_lt (K1 he)) (hv.feas i hi)
   rw[Int.mul_assoc,<-h1] at h2
   have h3:sg (S.T r c)*(S.d*Dn.piv S.T S.d r c i (Y.R L))=S.d*(sg (S.T r c)*Dn.piv S.T S.d r c i (Y.R L)):=by grind
   rw[h3] at h2
   exact Int.nonneg_of_mul_nonneg_right h2 hd
 ·show upd S.β r c i≠_
  unfold upd
  split
  ·unfold Lay.R;omega
  ·exact hv.ne i hi
theorem Em {T:Nat->Nat->Int} {d:Int} {r c i j:Nat} (h1:T i j=0) (h2:T i c=0\/T r j=0):Dn.piv T d r c i j=0:=by
 unfold Dn.piv
 rw[h1,Int.mul_zero]
 rcases h2 with h | h
 ·rw[h,Int.zero_mul,Int.sub_zero,Int.zero_ediv]
 ·rw[h,Int.mul_zero,Int.sub_zero,Int.zero_ediv]
structure Swp (L:Lin) (Y:Lay) (i:Nat) (S:Sx):Prop where
 val:Y.Val L S
 right:∀k,k<L.m->Y.N<=S.β k->S.T k (Y.R L)=0
 rows:∀k,k<L.m->k<i->Y.N<=S.β k->∀j,j<Y.N->S.T k j=0
theorem Swp.step {i:Nat} {S:Sx} (h:Swp L Y i S) {j:Nat} (hi:i<L.m) (hj:j<Y.N) (hN:Y.N<=S.β i) (he:S.T i j≠0):Swp L Y i (lm S i j):=by
 have h0:=h.right i hi hN
 have up:∀k,k≠i->(lm S i j).β k=S.β k:=fun k hk=>by
  show upd S.β i j k=_
  unfold upd
  rw[if_neg hk]
 have ui:(lm S i j).β i=j:=by
  show upd S.β i j i=_
  unfold upd
  rw[if_pos rfl]
 have hT:∀k l,k≠i->(lm S i j).T k l=sg (S.T i j)*Dn.piv S.T S.d i j k l:=fun k l hk=>by
  show nk S.T S.d i j k l=_
  unfold nk
  rw[if_neg hk]
 refine ⟨Val.flat h.val hi hj he h0,fun k hk hb=>?_,fun k hk hlt hb l hl=>?_⟩
 ·have e:k≠i:=fun e=>by rw[e,ui] at hb;omega
  rw[up k e] at hb
  rw[hT k _ e,Em (h.right k hk hb) (.inr h0),Int.mul_zero]
 ·have e:k≠i:=by omega
  rw[up k e] at hb
  rw[hT k _ e,Em (h.rows k hk hlt hb l hl) (.inl (h.rows k hk hlt hb j hj)),Int.mul_zero]
def Bs (L:Lin) (Y:Lay) (x3 cs:List Int) (o:Option ((List Nat×List (Option (List Int)))×Int×List Int×List Int×List Int×Int×Int×Bool×Unit)):Prop :=
 ∃S' ok,o=some (iT L.m (Y.w L) S'.T,S'.d,iX L.m S'.β,x3,cs,(Y.N:Int),((Y.R L:Nat):Int),ok,PUnit.unit)/\Y.Val L S' /\
   (ok=true->AZ L Y S')/\(ok=false->(∀j,j<Y.N->0<=zr L.m (fN Y.N) S' j)/\0<sz L.m fun i=>fN Y.N (S'.β i)*S'.T i (Y.R L))
theorem LJ (h:Bnd L Y) (hp:(Y.w L) ^ L.m<=1180591620717411303424) {x3 cs:List Int} {S:Sx} (hv:Y.Val L S) :
  Bs L Y x3 cs (bu (iT L.m (Y.w L) S.T) S.d (iX L.m S.β) x3 cs (Y.N:Int) ((Y.R L:Nat):Int)):=by
 have hm:=h.m
 have hw:=h.w
 have hN:Y.N<=Y.R L:=by unfold Lay.R;omega
 have hRw:Y.R L<Y.w L:=by unfold Lay.R Lay.w;omega
 unfold bu ib
 refine wE (γ:=Sx) (I:=fun (S:Sx) x=>x=nf L Y x3 cs S/\Y.Val L S)
  (Q:=Bs L Y x3 cs)
  (μ:=fun S=>left L.m (Y.w L) Y.N (Y.R L) (Y.M L) (fN Y.N) S) ?_ (s:=S) ⟨rfl,hv⟩ (Nat.lt_of_lt_of_le (GQ (by unfold Lay.w;omega) S) hp)
 rintro rec S _ ⟨rfl,hv⟩
 obtain ⟨hd,hb⟩:=h.tab hv.tb
 have hbb:∀i j,i<L.m->j<Y.w L->(S.T i j).natAbs<4611686018427387904:=fun i j hi hj=>by have:=hb i j hi hj;omega
 have hart:∀j,j<Y.w L->aH (sF L.m (Y.w L) S.T,S.d,iX L.m S.β,x3,cs,(Y.N:Int),((Y.R L:Nat):Int)) (j:Int)=some (sz L.m fun i=>fN Y.N (S.β i)*S.T i j):=fun j hj =>
  yS (by omega) hj fun i hi=>by have:=hb i j hi hj;omega
 have hz:∀j,j<Y.N->zr L.m (fN Y.N) S j= - sz L.m fun i=>fN Y.N (S.β i)*S.T i j:=fun j hj=>by
  unfold zr
  rw[show fN Y.N j=0 from if_neg (by omega),Int.zero_mul,Int.zero_sub]
 rcases xG Y.N (fun j=>decide ((sz L.m fun i=>fN Y.N (S.β i)*S.T i j)>0)) with hnone | ⟨q,hq,hneg,hleast⟩
 ·left
  have search:∀{R:Type} {F:(Int×Int×PUnit->Option R)->Int×Int×PUnit->Option R} {Q:Option R->Prop},(∀again j,j<Y.N->F again ((-1:Int),(j:Int),PUnit.unit)=again ((-1:Int),((j+1:Nat):Int),PUnit.unit)) ->
    (∃res,Q res/\∀again,F again ((-1:Int),(Y.N:Int),PUnit.unit)=res)->Q (lpK (Int×Int×PUnit) R F ((-1:Int),(0:Int),PUnit.unit)):=fun {R} {F} {Q} h1 h3=>by
   obtain ⟨res,h4,h5⟩:=h3
   have e:lpK (Int×Int×PUnit) R F ((-1:Int),(0:Int),PUnit.unit)=res:=cW Y.N (by omega) (fun j=>((-1:Int),(j:Int),PUnit.unit)) res rfl h1 h5
   rw[e]
   exact h4
  refine search (Q:=Bs L Y x3 cs) (fun again j hj=>?_) ?_
  ·simp only[aX,cT,z7 (show (j:Int)<Y.N by omega),show decide ((-1:Int)<0)=true from rfl,ip,im,hart j (by omega),af,hnone j hj,cF,bz (show j<=1000000 by omega)]
  ·simp only[aX,cT,cF,z8 (show ¬ (Y.N:Int)<Y.N by omega),show decide ((-1:Int)<0)=true from rfl,ip,im,hart _ hRw,af]
   have hzr:∀j,j<Y.N->0<=zr L.m (fN Y.N) S j:=fun j hj=>by
    rw[hz j hj]
    have:=of_decide_eq_false (hnone j hj)
    omega
   by_cases hpos:(sz L.m fun i=>fN Y.N (S.β i)*S.T i (Y.R L))>0
   ·rw[z7 hpos]
    simp only[cT]
    exact ⟨_,⟨S,false,rfl,hv,fun e=>(by cases e),fun _=>⟨hzr,hpos⟩⟩,fun _=>rfl⟩
   ·rw[z8 hpos]
    simp only[cF]
    refine ⟨_,?_,fun _=>rfl⟩
    have hnn:∀i,i<L.m->0<=fN Y.N (S.β i)*S.T i (Y.R L):=fun i hi=>Int.mul_nonneg (by unfold fN;split<;>omega) (hv.feas i hi)
    have hS:Swp L Y 0 S:=by
     refine ⟨hv,fun k hk hNk=>?_,fun k _ h0=>by omega⟩
     have h1:(sz L.m fun i=>if i=k then fN Y.N (S.β k)*S.T k (Y.R L) else 0)<=sz L.m fun i=>fN Y.N (S.β i)*S.T i (Y.R L):=qx fun i hi=>by
      by_cases e:i=k
      ·rw[if_pos e,e];exact Int.le_refl _
      ·rw[if_neg e];exact hnn i hi
     rw[eQ hk fun i _ hne=>if_neg hne,if_pos rfl] at h1
     have h2:=hnn k hk
     have h3:fN Y.N (S.β k)=1:=if_pos hNk
     rw[h3,Int.one_mul] at h1 h2
     omega
    refine wE (γ:=Nat×Sx) (I:=fun g x=>x=((g.1:Int),nf L Y x3 cs g.2)/\g.1<=L.m/\Swp L Y g.1 g.2)
     (Q:=Bs L Y x3 cs)
     (μ:=fun g=>L.m - g.1) ?_ (s:=(0,S)) ⟨rfl,by omega,hS⟩ (by simp only;omega)
    rintro rec2 ⟨i,S⟩ _ ⟨rfl,hi,hS⟩
    simp only at hi hS
    by_cases hlt:i<L.m
    ·right
     simp only[gQ,z7 (show (i:Int)<L.m by omega),cT]
     have inner:∀{R:Type} {F:(Int×(List Nat×List (Option (List Int)))×Int×List Int×List Int×List Int×Int×Int×PUnit->Option R)->Int×(List Nat×List (Option (List Int)))×Int×List Int×List Int×List Int×Int×Int×PUnit->Option R} {k:(Int×(List Nat×List (Option (List Int)))×Int×List Int×List Int×List Int×Int×Int×PUnit->Option R)},
       (∀again (j:Nat) S,Swp L Y i S->j<=Y.N->(j<Y.N->Y.N<=S.β i->S.T i j=0->F again ((j:Int),nf L Y x3 cs S)=again (((j+1:Nat):Int),nf L Y x3 cs S))/\(j<Y.N->Y.N<=S.β i->S.T i j≠0->F again ((j:Int),nf L Y x3 cs S)=again (((j+1:Nat):Int),nf L Y x3 cs (lm S i j))) /\
        (¬ (j<Y.N/\Y.N<=S.β i)->F again ((j:Int),nf L Y x3 cs S)=k (((i+1:Nat):Int),nf L Y x3 cs S))) ->
       ∃S',Swp L Y (i+1) S'/\lpK _ R F ((0:Int),nf L Y x3 cs S)=k (((i+1:Nat):Int),nf L Y x3 cs S'):=fun {R} {F} {k} hF=>by
      refine wE (γ:=Nat×Sx) (I:=fun g x=>x=((g.1:Int),nf L Y x3 cs g.2)/\g.1<=Y.N/\Swp L Y i g.2/\(Y.N<=g.2.β i->∀l,l<g.1->g.2.T i l=0))
       (Q:=fun o=>∃S',Swp L Y (i+1) S'/\o=k (((i+1:Nat):Int),nf L Y x3 cs S')) (μ:=fun g=>Y.N - g.1) ?_ (s:=(0,S)) ⟨rfl,by omega,hS,fun _ l hl=>by omega⟩ (by simp only;omega)
      rintro rec3 ⟨j,S⟩ _ ⟨rfl,hj,hS,hz⟩
      simp only at hj hS hz
      obtain ⟨f1,f2,f3⟩:=hF rec3 j S hS hj
      by_cases hc:j<Y.N/\Y.N<=S.β i
      ·right
       by_cases h0:S.T i j=0
       ·refine ⟨(j+1,S),_,⟨rfl,by simp only;omega,hS,fun hN l hl=>?_⟩,by simp only;omega,f1 hc.1 hc.2 h0⟩
        simp only at hl
        by_cases e:l=j
        ·rw[e];exact h0
        ·exact hz hN l (by omega)
       ·refine ⟨(j+1,lm S i j),_,⟨rfl,by simp only;omega,hS.step hlt hc.1 hc.2 h0,fun hN=>?_⟩,by simp only;omega,f2 hc.1 hc.2 h0⟩
        have e:(lm S i j).β i=j:=by
         show upd S.β i j i=_
         unfold upd
         rw[if_pos rfl]
        rw[e] at hN
        omega
      ·left
       refine ⟨S,⟨hS.val,hS.right,fun k hk hlt' hN l hl=>?_⟩,f3 hc⟩
       by_cases e:k=i
       ·subst e
        exact hz hN l (by omega)
       ·exact hS.rows k hk (by omega) hN l hl
     have fin:∀{o},(∃S',Swp L Y (i+1) S'/\o=rec2 (((i+1:Nat):Int),nf L Y x3 cs S'))->∃(g:Nat×Sx) (y:_),(y=((g.1:Int),nf L Y x3 cs g.2)/\g.1<=L.m/\Swp L Y g.1 g.2)/\L.m - g.1<L.m - i/\o=rec2 y:=by
      rintro o ⟨S',h1,h2⟩
      exact ⟨(i+1,S'),_,⟨rfl,by simp only;omega,h1⟩,by simp only;omega,h2⟩
     refine fin (inner (fun again j S hS hj=>⟨fun c1 c2 c3=>?_,fun c1 c2 c3=>?_,fun c1=>?_⟩))
     ·have hjw:j<Y.w L:=by omega
      simp only[nf,z7 (show (j:Int)<Y.N by omega),iW,bw,z9,z7 hlt,dw (show Nat.succ i<=L.m from hlt),jU hlt,z7 (show (S.β i:Int)>=Y.N by omega),Bool.not_true,Bool.or_true,Bool.and_self,cT,gQ,kS hlt,jH,gw hlt,bj,bO hjw,z7 hjw,dw (show Nat.succ j<=Y.w L from hjw),z7 c3,cF,bz (show j<=1000000 by omega)]
     ·have hjw:j<Y.w L:=by omega
      simp only[nf,z7 (show (j:Int)<Y.N by omega),iW,bw,z9,z7 hlt,dw (show Nat.succ i<=L.m from hlt),jU hlt,z7 (show (S.β i:Int)>=Y.N by omega),Bool.not_true,Bool.not_false,Bool.or_true,Bool.and_self,cT,gQ,kS hlt,jH,gw hlt,bj,bO hjw,z7 hjw,dw (show Nat.succ j<=Y.w L from hjw),z8 c3,bz (show j<=1000000 by omega),
       wN (h.piv hS.val.tb hlt hjw c3),af]
      rfl
     ·by_cases c2:j<Y.N
      ·simp only[nf,z7 (show (j:Int)<Y.N by omega),iW,bw,z9,z7 hlt,dw (show Nat.succ i<=L.m from hlt),jU hlt,z8 (show ¬ (S.β i:Int)>=Y.N by omega),Bool.not_true,Bool.or_true,Bool.and_self,cT,cF,bz (show i<=1000000 by omega)]
      ·simp only[nf,z8 (show ¬ (j:Int)<Y.N by omega),Bool.not_false,Bool.true_or,Bool.and_self,cT,cF,bz (show i<=1000000 by omega)]
    ·left
     have e:i=L.m:=by omega
     subst e
     simp only[gQ,z8 (show ¬ (L.m:Int)<L.m by omega),cF]
     exact ⟨S,true,rfl,hS.val,fun _ k hk hN=>⟨hS.rows k hk hk hN,hS.right k hk hN⟩,fun e=>by cases e⟩
 ·have hneg:=z12 hneg
  have hqw:q<Y.w L:=by omega
  have hent:Enters L.m Y.N (fN Y.N) S q:=⟨hq,by rw[hz q hq];omega,fun j hj=>by rw[hz j (by omega)];have:=of_decide_eq_false (hleast j hj);omega⟩
  obtain ⟨b,hl1,hl2⟩:=xC (m:=L.m) (w:=Y.w L) (T:=S.T) (d:=S.d) (β:=S.β) (c:=q) (R:=Y.R L) (x1:=S.d) (x3:=x3) (x4:=cs) (x5:=(Y.N:Int)) (by omega) hqw hRw hbb
  rcases hl2 with ⟨e,hno⟩ | ⟨r,e,hlv⟩
  ·exfalso
   have h1:(sz L.m fun i=>fN Y.N (S.β i)*S.T i q)<=sz L.m fun _=>0:=qx fun i hi=>by
    have:=hno i hi
    unfold fN
    split<;>omega
   rw[gt (f:=fun _=>0) fun _ _=>rfl] at h1
   omega
  ·subst e
   right
   have hpr:0<S.T r q:=hlv.pos
   have hr:=hlv.lt
   have hs:=Ee (m:=L.m) (w:=Y.w L) hpr
   refine ⟨lm S r q,nf L Y x3 cs (lm S r q),⟨rfl,hv.stepAt hRw hqw (by omega) hlv hs⟩,zL (Lay.art h.ok).1 (Lay.art h.ok).2 hN hRw hv ⟨hent,hlv,hs⟩,?_⟩
   refine cW (q+1) (by omega) (fun j=>if j<=q then ((-1:Int),(j:Int),PUnit.unit) else ((q:Int),(j:Int),PUnit.unit)) _ (by rw[if_pos (by omega)];rfl) (fun again j hj=>?_) (fun again=>?_)
   ·by_cases e:j=q
    ·subst e
     rw[if_pos (by omega),if_neg (by omega)]
     simp only[aX,cT,z7 (show (j:Int)<Y.N by omega),show decide ((-1:Int)<0)=true from rfl,ip,im,hart j hqw,af,z7 hneg,bz (show j<=1000000 by omega)]
    ·rw[if_pos (by omega),if_pos (by omega)]
     simp only[aX,cT,z7 (show (j:Int)<Y.N by omega),show decide ((-1:Int)<0)=true from rfl,ip,im,hart j (by omega),af,hleast j (by omega),cF,bz (show j<=1000000 by omega)]
   ·rw[if_neg (by omega)]
    simp only[aX,cT,z8 (show ¬ (q:Int)<0 by omega),jl,Bool.and_false,cF,ip,im,hl1,af,wN (h.piv hv.tb hr hqw (show S.T r q≠0 by omega))]
    rfl
open Tryz Dn Dn.Sh
def ap (p:Pg):Lin:=⟨p.1.length,p.2.length,fun k j=>(p.2.getD k rw0).1.getD j 0,fun k=>(p.2.getD k rw0).2.2,fun j=>p.1.getD j 0,fun k=>(p.2.getD k rw0).2.1⟩
def fS (p:Pg):Nat->Nat
 | 0=>0
 | k+1=>fS p k+if (p.2.getD k rw0).2.1=3 then 0 else 1
def aG (p:Pg):Lay:=⟨p.1.length+fS p p.2.length,fun k=>p.1.length+fS p k,fun k=>if (p.2.getD k rw0).2.2<0 then -1 else 1⟩
theorem ue {p:Pg}:∀k,fS p k<=k
 | 0=>Nat.le_refl _
 | k+1=>by
  have:=ue (p:=p) k
  simp only[fS]
  split<;>omega
theorem wH {p:Pg} {k:Nat}:∀{l:Nat},k<l->(p.2.getD k rw0).2.1≠3->fS p k<fS p l
 | 0,h,_=>by omega
 | l+1,h,h3=>by
  simp only[fS]
  by_cases e:k=l
  ·subst e
   rw[if_neg h3];omega
  ·have:=wH (l:=l) (by omega) h3
   split<;>omega
theorem oq {p:Pg} (hv:ValidP p):(aG p).ok (ap p):=by
 have row:∀k,k<p.2.length->p.2.getD k rw0 ∈ p.2:=fun k hk=>by rw[bL hk];exact List.getElem_mem _
 refine ⟨Nat.le_add_right _ _,fun k hk=>?_,fun k hk h3=>⟨Nat.le_add_right _ _,?_⟩,fun k l hk hl h3 h4 e=>?_,fun k _=>?_,fun k _=>?_⟩
 ·have:=hv.kind _ (row k hk)
  show (p.2.getD k rw0).2.1=1\/(p.2.getD k rw0).2.1=2\/(p.2.getD k rw0).2.1=3
  omega
 ·have:=wH (p:=p) (k:=k) (l:=p.2.length) hk h3
  show p.1.length+fS p k<p.1.length+fS p p.2.length
  omega
 ·have e:p.1.length+fS p k=p.1.length+fS p l:=e
  rcases Nat.lt_trichotomy k l with h | h | h
  ·have:=wH (p:=p) h h3;omega
  ·exact h
  ·have:=wH (p:=p) h h4;omega
 ·show (if (p.2.getD k rw0).2.2<0 then (-1:Int) else 1)=1\/(if (p.2.getD k rw0).2.2<0 then (-1:Int) else 1)= -1
  split<;>omega
 ·show 0<=(if (p.2.getD k rw0).2.2<0 then (-1:Int) else 1)*(p.2.getD k rw0).2.2
  split<;>omega
theorem BZ {p:Pg} (hv:ValidP p):(aG p).w (ap p)<=25/\(ap p).m<=6:=by
 have h1:=ue (p:=p) p.2.length
 have h2:=hv.rows
 have h3:=hv.cost.2
 refine ⟨?_,h2⟩
 show p.1.length+fS p p.2.length+p.2.length+1<=25
 omega
theorem nF {α:Type} {w:Nat} {f:Nat->α}:cb w f++[f w]=cb (w+1) f:=by
 unfold cb
 rw[List.range_succ,List.map_append]
 rfl
theorem FT {m w:Nat} {T:Nat->Nat->Int}:dR m w T++[some (cb w (T m))]=dR (m+1) w T:=by
 unfold dR
 rw[List.range_succ,List.map_append]
 rfl
theorem Mg {l:List Int} {w:Nat} (h:l.length<=w):List.take 0 (List.replicate w (0:Int))++List.take w l++List.drop (0+(List.take w l).length) (List.replicate w 0)=cb w fun j=>l.getD j 0:=by
 rw[List.take_of_length_le h]
 refine List.ext_getElem (by rw[bj];simp;omega) fun i h1 h2=>?_
 rw[rb]
 have hi:i<w:=by rw[bj] at h2;exact h2
 by_cases e:i<l.length
 ·rw[bL e,List.getElem_append_left (by simp;exact e)]
  simp
 ·rw[List.getElem_append_right (by simp;omega),List.getD_eq_getElem?_getD,List.getElem?_eq_none (by omega)]
  simp
abbrev St:=Int×Int×(List Nat×List (Option (List Int)))×Int×List Int×List Int×List Int×Int×Int×PUnit
def Ov {R:Type} (p:Pg) (again:St->Option R) (x:St) (x_1:Int×List Int×PUnit):Option R :=
 let v21:List Int×PUnit:=(x_1.2.1,PUnit.unit);jnK (Int×List Int×PUnit) R (fun (x_2:Int×List Int×PUnit)=>bif inB (IntKind.wrap .i64 (x.2.2.2.2.2.2.2.1+x.2.1)) (List.length x_2.2.1) then bif Nat.ble (Nat.succ (Int.toNat (IntKind.wrap .i64 (x.2.2.2.2.2.2.2.1+x.2.1)))) (List.length x_2.2.1) then bif dZ (List.length x.2.2.1.1+(1:Nat)) (24:Nat) then bif dZ (List.length x.2.2.2.2.2.1+(1:Nat)) (8:Nat) then bif dZ (List.length x.2.2.2.2.1+(1:Nat)) (8:Nat) then again (x_1.1,IntKind.wrap .i64 (x.2.1+(1:Int)),(x.2.2.1.1++[List.length x.2.2.1.2+(0:Nat)],x.2.2.1.2++[some (List.set x_2.2.1 (Int.toNat (IntKind.wrap .i64 (x.2.2.2.2.2.2.2.1+x.2.1))) (1:Int))]),x.2.2.2.1,x.2.2.2.2.1++[(IntKind.wrap .i64 (x.2.2.2.2.2.2.2.1+x.2.1))],x.2.2.2.2.2.1++[x_2.1],x.2.2.2.2.2.2.1,x.2.2.2.2.2.2.2.1,x.2.2.2.2.2.2.2.2.1,PUnit.unit) else none else none else none else none else none) fun (j:Int×List Int×PUnit->Option R)=>bif decide ((List.getD p.2 (Int.toNat x.2.1) ([],(0:Int),(0:Int))).2.2<(0:Int)) then lpK (Int×List Int×PUnit) R (fun (again:Int×List Int×PUnit->Option R) (x:Int×List Int×PUnit) =>
 let v25:Bool:=inB x.1 (List.length x.2.1);
 let v26:Bool:=Nat.ble (Nat.succ (Int.toNat x.1)) (List.length x.2.1);
 bif decide (x.1<(↑(List.length x_1.2.1):Int)) then bif v25 then bif v26 then bif v25 then bif v26 then again (IntKind.wrap .i64 (x.1+(1:Int)),List.set x.2.1 (Int.toNat x.1) (IntKind.wrap .i64 ((0:Int) - List.getD x.2.1 (Int.toNat x.1) (0:Int))),PUnit.unit) else none else none else none else none else j ((-1:Int),x.2.1,PUnit.unit)) ((0:Int),v21) else j ((1:Int),v21)
def NX {R:Type} (p:Pg) (again k:St->Option R) (x:St):Option R :=
 let v12:Int:=IntKind.wrap .i64 (x.1+(1:Int));
 let v13:List Int×Int×Int:=List.getD p.2 (Int.toNat x.2.1) ([],(0:Int),(0:Int));
 let v14:List Int:=List.replicate (Int.toNat (IntKind.wrap .i64 (x.2.2.2.2.2.2.2.2.1+(1:Int)))) (0:Int);
 let v15:Bool:=inB x.1 (Int.toNat (IntKind.wrap .i64 (x.2.2.2.2.2.2.2.2.1+(1:Int))));
 let v16:Bool:=Nat.ble (Nat.succ (Int.toNat x.1)) (Int.toNat (IntKind.wrap .i64 (x.2.2.2.2.2.2.2.2.1+(1:Int))));
 let _:Int:=IntKind.wrap .i64 (x.2.2.2.2.2.2.2.1+x.2.1);
 let v18:List Int:=List.take (Int.toNat (IntKind.wrap .i64 (x.2.2.2.2.2.2.2.2.1+(1:Int)))) v13.1;
 let v19:List Int:=List.set (List.take (0:Nat) v14++v18++List.drop ((0:Nat)+List.length v18) v14) (Int.toNat x.2.2.2.2.2.2.2.2.1) v13.2.2;
 bif decide (x.2.1<(↑(List.length p.2):Int)) then bif inB x.2.1 (List.length p.2) then bif decide ((0:Int)<=IntKind.wrap .i64 (x.2.2.2.2.2.2.2.2.1+(1:Int)))&&dZ (Int.toNat (IntKind.wrap .i64 (x.2.2.2.2.2.2.2.2.1+(1:Int)))) (8:Nat) then bif inB x.2.2.2.2.2.2.2.2.1 (Int.toNat (IntKind.wrap .i64 (x.2.2.2.2.2.2.2.2.1+(1:Int)))) then bif Nat.ble (Nat.succ (Int.toNat x.2.2.2.2.2.2.2.2.1)) (Int.toNat (IntKind.wrap .i64 (x.2.2.2.2.2.2.2.2.1+(1:Int)))) then jnK (Int×List Int×PUnit) R (Ov p again x) fun (j:Int×List Int×PUnit->Option R)=>bif decide (v13.2.1=(1:Int)) then bif v15 then bif v16 then j (v12,List.set v19 (Int.toNat x.1) (1:Int),PUnit.unit) else none else none else jnK (Int×List Int×PUnit) R (fun (x:Int×List Int×PUnit)=>j (x.1,x.2.1,PUnit.unit)) fun (j:Int×List Int×PUnit->Option R)=>bif decide (v13.2.1=(2:Int)) then bif v15 then bif v16 then j (v12,List.set v19 (Int.toNat x.1) (-1:Int),PUnit.unit) else none else none else j (x.1,v19,PUnit.unit) else none else none else none else none else k x
theorem Ha {p:Pg} (hv:ValidP p) {R:Type} {again:St->Option R} {i:Nat} (hi:i<p.2.length) {f:Nat->Int} {s s0:Int}
  (hf:∀k,k<(aG p).w (ap p)->f k=if k=(aG p).R (ap p) then (ap p).b i else if (ap p).kd i≠3/\k=(aG p).sl i then (if (ap p).kd i=1 then 1 else -1) else (p.2.getD i rw0).1.getD k 0) :
  Ov p again (s0,(i:Int),(List.range i,dR i ((aG p).w (ap p)) ((aG p).M (ap p))),1,iX i (fun k=>(aG p).N+k),cb i (aG p).σ,p.1,((aG p).N:Int),(((aG p).R (ap p):Nat):Int),PUnit.unit) (s,cb ((aG p).w (ap p)) f,PUnit.unit) =
   again (s,((i+1:Nat):Int),(List.range (i+1),dR (i+1) ((aG p).w (ap p)) ((aG p).M (ap p))),1,iX (i+1) (fun k=>(aG p).N+k),cb (i+1) (aG p).σ,p.1,((aG p).N:Int),(((aG p).R (ap p):Nat):Int),PUnit.unit):=by
 obtain ⟨h1,h2⟩:=BZ hv
 have hr:p.2.getD i rw0 ∈ p.2:=by rw[bL hi];exact List.getElem_mem _
 have hR:=hv.right _ hr
 have hl:=hv.len _ hr
 have hc:=hv.coefs _ hr
 have hn:=hv.cost.2
 have hbb:∀k,k<(aG p).w (ap p)-> -1073741824<=f k/\f k<=1073741824:=fun k hk=>by
  rw[hf k hk]
  split
  ·exact z12 hR
  ·split
   ·split<;>omega
   ·by_cases e:k<(p.2.getD i rw0).1.length
    ·have:=z12 (hc ((p.2.getD i rw0).1.getD k 0) (by rw[bL e];exact List.getElem_mem _))
     omega
    ·rw[List.getD_eq_getElem?_getD,List.getElem?_eq_none (by omega)]
     simp
 obtain ⟨w,hw⟩:∃w,w=(aG p).w (ap p):=⟨_,rfl⟩
 have hNi:(aG p).N+i<w:=by rw[hw];show (aG p).N+i<(aG p).N+p.2.length+1;omega
 have hNw:(aG p).N+p.2.length+1=w:=hw.symm
 have hm6:p.2.length<=6:=h2
 rw[<-hw] at hf hbb h1 ⊢
 have fin:∀(σ:Int),σ=(aG p).σ i->(List.range i++[(dR i w ((aG p).M (ap p))).length+0],dR i w ((aG p).M (ap p))++[some ((cb w fun k=>σ*f k).set ((aG p).N+i) 1)])=(List.range (i+1),dR (i+1) w ((aG p).M (ap p))):=fun σ hσ=>by
  rw[nY,Nat.add_zero,<-List.range_succ,iU hNi,<-FT]
  congr 3
  congr 1
  refine cX fun k hk=>?_
  have hok:=oq hv
  unfold Lay.M
  rw[hf k hk,hσ]
  have hNn:(ap p).n<=(aG p).N:=hok.n
  have hRe:(aG p).R (ap p)=(aG p).N+p.2.length:=rfl
  have hme:(ap p).m=p.2.length:=rfl
  rw[hRe,hme]
  by_cases c1:k<(ap p).n
  ·rw[if_neg (by omega),if_neg (by omega),if_pos c1,if_neg]
   ·rfl
   ·rintro ⟨e1,e2⟩
    have:=(hok.sl i hi e1).1
    omega
  ·rw[if_neg c1]
   by_cases c2:k<(aG p).N
   ·rw[if_neg (by omega),if_neg (by omega),if_pos c2]
    by_cases c3:(ap p).kd i≠3/\k=(aG p).sl i
    ·rw[if_pos c3,if_pos c3]
    ·rw[if_neg c3,if_neg c3,List.getD_eq_getElem?_getD,List.getElem?_eq_none (by rw[hl];exact Nat.not_lt.1 c1)]
     simp
   ·rw[if_neg c2]
    by_cases c3:k<(aG p).N+p.2.length
    ·rw[if_pos c3]
     by_cases c4:k=(aG p).N+i
     ·rw[if_pos c4,if_pos c4]
     ·rw[if_neg c4,if_neg c4,if_neg (by omega),if_neg]
      ·rw[List.getD_eq_getElem?_getD,List.getElem?_eq_none (by rw[hl];exact Nat.not_lt.1 c1)]
       simp
      ·rintro ⟨e1,e2⟩
       have:=(hok.sl i hi e1).2
       omega
    ·rw[if_neg c3,if_neg (by omega),if_pos (by omega)]
 have hadd:IntKind.wrap .i64 (((aG p).N:Int)+(i:Int))=(((aG p).N+i:Nat):Int):=by rw[bi (by omega) (by omega)];rfl
 have hg:∀{n k:Nat},n<=1000->k<=24->dZ n k=true:=fun {n k} h1 h2=>fY (Nat.le_trans (Nat.mul_le_mul h1 h2) (by decide))
 have tail:∀(σ:Int),σ=(aG p).σ i->(bif inB (IntKind.wrap .i64 (((aG p).N:Int)+(i:Int))) (cb w fun k=>σ*f k).length then bif Nat.ble (Nat.succ (Int.toNat (IntKind.wrap .i64 (((aG p).N:Int)+(i:Int))))) (cb w fun k=>σ*f k).length then
   bif dZ ((List.range i).length+1) 24 then bif dZ ((cb i (aG p).σ).length+1) 8 then bif dZ ((iX i fun k=>(aG p).N+k).length+1) 8 then
   again (s,IntKind.wrap .i64 ((i:Int)+1),(List.range i++[(dR i w ((aG p).M (ap p))).length+0],dR i w ((aG p).M (ap p))++[some ((cb w fun k=>σ*f k).set (Int.toNat (IntKind.wrap .i64 (((aG p).N:Int)+(i:Int)))) 1)]),1,
    (iX i fun k=>(aG p).N+k)++[IntKind.wrap .i64 (((aG p).N:Int)+(i:Int))],cb i (aG p).σ++[σ],p.1,((aG p).N:Int),(((aG p).R (ap p):Nat):Int),PUnit.unit) else none else none else none else none else none) =
   again (s,((i+1:Nat):Int),(List.range (i+1),dR (i+1) w ((aG p).M (ap p))),1,iX (i+1) (fun k=>(aG p).N+k),cb (i+1) (aG p).σ,p.1,((aG p).N:Int),(((aG p).R (ap p):Nat):Int),PUnit.unit):=fun σ hσ=>by
  rw[hadd,z9,fin σ hσ,bj,bw,z7 hNi,dw hNi,List.length_range,bj,iW,hg (by omega) (by omega),hg (by omega) (by omega),bz (show i<=1000000 by omega),hσ,nF]
  simp only[cT]
  rw[show (iX i fun k=>(aG p).N+k)++[(((aG p).N+i:Nat):Int)]=iX (i+1) (fun k=>(aG p).N+k) from nF (f:=fun k=>(((aG p).N+k:Nat):Int))]
 unfold Ov
 simp only[ux,z9]
 by_cases hneg:(p.2.getD i rw0).2.2<0
 ·have hs:(aG p).σ i= -1:=if_pos hneg
  rw[z7 hneg,cond_true]
  refine cW w (by omega) (fun k=>((k:Int),cb w (fun j=>if j<k then -1*f j else f j),PUnit.unit)) _ ?_ (fun again2 k hk=>?_) (fun again2=>?_)
  ·rw[cX (f:=fun j=>if j<0 then -1*f j else f j) (g:=f) fun j _=>if_neg (by omega)];rfl
  ·have hb:=hbb k hk
   simp only[bj,bw,z9,z7 hk,z7 (show (k:Int)<w by omega),dw (show Nat.succ k<=w from hk),bO hk,cT,if_neg (Nat.lt_irrefl k),bz (show k<=1000000 by omega),bi (show -9223372036854775808<=0 - f k by omega) (by omega),iU hk]
   congr 3
   refine cX fun j _=>?_
   by_cases c:j=k
   ·rw[if_pos c,if_pos (by omega),c];omega
   ·rw[if_neg c]
    by_cases c2:j<k
    ·rw[if_pos c2,if_pos (by omega)]
    ·rw[if_neg c2,if_neg (by omega)]
  ·simp only[bj,z8 (show ¬ (w:Int)<w by omega),cF]
   rw[cX (f:=fun j=>if j<w then -1*f j else f j) (g:=fun j=> -1*f j) fun j hj=>if_pos hj]
   have:=tail (-1) hs.symm
   simp only[bj] at this
   exact this
 ·have hs:(aG p).σ i=1:=if_neg hneg
  rw[z8 hneg,cond_false]
  have:=tail 1 hs.symm
  rw[cX (f:=fun j=>1*f j) (g:=f) fun j _=>Int.one_mul _] at this
  exact this
theorem Ii {p:Pg} (hv:ValidP p) {R:Type} {k:St->Option R} :
  lpK St R (fun again x=>NX p again k x) ((p.1.length:Int),(0:Int),([],[]),(1:Int),[],[],p.1,((aG p).N:Int),(((aG p).R (ap p):Nat):Int),PUnit.unit) =
   k (((aG p).N:Int),(p.2.length:Int),iT p.2.length ((aG p).w (ap p)) ((aG p).M (ap p)),1,iX p.2.length (fun k=>(aG p).N+k),cb p.2.length (aG p).σ,p.1,((aG p).N:Int),(((aG p).R (ap p):Nat):Int),PUnit.unit):=by
 obtain ⟨h1,h2⟩:=BZ hv
 have hok:=oq hv
 have hm6:p.2.length<=6:=h2
 obtain ⟨w,hw⟩:∃w,w=(aG p).w (ap p):=⟨_,rfl⟩
 have hR1:(aG p).R (ap p)+1=w:=by rw[hw]
 refine cW p.2.length (by omega) (fun i=>(((p.1.length+fS p i:Nat):Int),(i:Int),(List.range i,dR i ((aG p).w (ap p)) ((aG p).M (ap p))),1,iX i (fun k=>(aG p).N+k),cb i (aG p).σ,p.1,((aG p).N:Int),(((aG p).R (ap p):Nat):Int),PUnit.unit)) _ rfl (fun again i hi=>?_) (fun again=>?_)
 ·have hr:p.2.getD i rw0 ∈ p.2:=by rw[bL hi];exact List.getElem_mem _
  have hl:=hv.len _ hr
  have hkd:=hv.kind _ hr
  have hN:p.1.length<=(aG p).N:=hok.n
  have hNR:(aG p).N+p.2.length=(aG p).R (ap p):=rfl
  have hRw:(aG p).R (ap p)<w:=by omega
  rw[<-hw] at h1
  have hsl:(aG p).sl i=p.1.length+fS p i:=rfl
  have hcs:=ue (p:=p) i
  unfold NX
  simp only[bz (show (aG p).R (ap p)<=1000000 by omega),hR1,z9,bw,z7 hi,z7 (show (i:Int)<p.2.length by omega),z7 (show (0:Int)<=(w:Nat) by omega),fY (show w*8<=140737488355328 by omega),z7 hRw,dw (show Nat.succ ((aG p).R (ap p))<=w from hRw),Bool.and_self,cT,ux,Mg (show (p.2.getD i rw0).1.length<=w by omega),iU hRw]
  by_cases k3:(p.2.getD i rw0).2.1=3
  ·have ec:fS p (i+1)=fS p i:=by simp only[fS,if_pos k3,Nat.add_zero]
   rw[ec,z8 (show ¬ (p.2.getD i rw0).2.1=1 by omega),z8 (show ¬ (p.2.getD i rw0).2.1=2 by omega)]
   simp only[cF]
   have:=Ha hv (again:=again) (s0:=((p.1.length+fS p i:Nat):Int)) (s:=((p.1.length+fS p i:Nat):Int)) hi (f:=fun k=>if k=(aG p).R (ap p) then (p.2.getD i rw0).2.2 else (p.2.getD i rw0).1.getD k 0) (fun k hk=>by
    show (if k=(aG p).R (ap p) then (p.2.getD i rw0).2.2 else (p.2.getD i rw0).1.getD k 0)=if k=(aG p).R (ap p) then (p.2.getD i rw0).2.2 else _
    by_cases c:k=(aG p).R (ap p)
    ·rw[if_pos c,if_pos c]
    ·rw[if_neg c,if_neg c,if_neg]
     rintro ⟨e,_⟩
     exact e k3)
   rw[<-hw] at this
   exact this
  ·have hslN:(aG p).sl i<(aG p).N:=(hok.sl i hi k3).2
   have hslw:p.1.length+fS p i<w:=by omega
   have ec:fS p (i+1)=fS p i+1:=by simp only[fS,if_neg k3]
   rw[ec]
   have step:∀(v:Int),v=(if (ap p).kd i=1 then 1 else -1)->Ov p again ((((p.1.length+fS p i:Nat):Int)),(i:Int),(List.range i,dR i ((aG p).w (ap p)) ((aG p).M (ap p))),1,iX i (fun k=>(aG p).N+k),cb i (aG p).σ,p.1,((aG p).N:Int),(((aG p).R (ap p):Nat):Int),PUnit.unit)
     (((p.1.length+fS p i+1:Nat):Int),(cb w fun k=>if k=(aG p).R (ap p) then (p.2.getD i rw0).2.2 else (p.2.getD i rw0).1.getD k 0).set (p.1.length+fS p i) v,PUnit.unit)=again (((p.1.length+(fS p i+1):Nat):Int),((i+1:Nat):Int),(List.range (i+1),dR (i+1) ((aG p).w (ap p)) ((aG p).M (ap p))),1,iX (i+1) (fun k=>(aG p).N+k),cb (i+1) (aG p).σ,p.1,((aG p).N:Int),(((aG p).R (ap p):Nat):Int),PUnit.unit):=fun v hvv=>by
    rw[iU hslw]
    have:=Ha hv (again:=again) (s0:=((p.1.length+fS p i:Nat):Int)) (s:=((p.1.length+fS p i+1:Nat):Int)) hi (f:=fun k=>if k=p.1.length+fS p i then v else if k=(aG p).R (ap p) then (p.2.getD i rw0).2.2 else (p.2.getD i rw0).1.getD k 0) (fun k hk=>by
     show (if k=p.1.length+fS p i then v else if k=(aG p).R (ap p) then (p.2.getD i rw0).2.2 else (p.2.getD i rw0).1.getD k 0)=if k=(aG p).R (ap p) then (p.2.getD i rw0).2.2 else _
     by_cases c:k=(aG p).R (ap p)
     ·rw[if_pos c,if_pos c,if_neg (by omega)]
     ·rw[if_neg c,if_neg c]
      by_cases c2:k=p.1.length+fS p i
      ·rw[if_pos c2,if_pos ⟨k3,c2⟩,hvv]
      ·rw[if_neg c2,if_neg fun h=>c2 h.2])
    rw[<-hw] at this ⊢
    exact this
   by_cases k1:(p.2.getD i rw0).2.1=1
   ·have:=step 1 (if_pos (show (ap p).kd i=1 from k1)).symm
    rw[<-hw] at this
    rw[z7 k1]
    simp only[cT,z7 hslw,dw (show Nat.succ (p.1.length+fS p i)<=w from hslw),bz (show p.1.length+fS p i<=1000000 by omega)]
    exact this
   ·have k2:(p.2.getD i rw0).2.1=2:=by omega
    have:=step (-1) (if_neg (show ¬ (ap p).kd i=1 from k1)).symm
    rw[<-hw] at this
    rw[z8 k1,z7 k2]
    simp only[cT,cF,z7 hslw,dw (show Nat.succ (p.1.length+fS p i)<=w from hslw),bz (show p.1.length+fS p i<=1000000 by omega)]
    exact this
 ·unfold NX
  simp only[z8 (show ¬ (p.2.length:Int)<p.2.length by omega),cF]
  rfl
theorem HP {p:Pg} (hv:ValidP p) {R:Type} {F:(Int×Int×PUnit->Option R)->Int×Int×PUnit->Option R} (Q:Option R->Prop)
  (hF:∀again (i:Nat) (s:Int),i<p.2.length->F again (s,(i:Int),PUnit.unit)=bif !decide ((p.2.getD i rw0).2.1=3) then again (IntKind.wrap .i64 (s+1),((i+1:Nat):Int),PUnit.unit) else again (s,((i+1:Nat):Int),PUnit.unit))
  (hf:∀again,Q (F again (((fS p p.2.length:Nat):Int),(p.2.length:Int),PUnit.unit))):Q (lpK (Int×Int×PUnit) R F ((0:Int),(0:Int),PUnit.unit)):=by
 have hm:=hv.rows
 refine Ja Q p.2.length (by omega) (fun i=>(((fS p i:Nat):Int),(i:Int),PUnit.unit)) rfl (fun again i hi=>?_) hf
 rw[hF again i _ hi]
 have:=ue (p:=p) i
 by_cases k3:(p.2.getD i rw0).2.1=3
 ·rw[z7 k3]
  simp only[fS,if_pos k3,Nat.add_zero,Bool.not_true,cF]
 ·rw[z8 k3]
  simp only[fS,if_neg k3,Bool.not_false,cT,bz (show fS p i<=1000000 by omega)]
theorem Fv {p:Pg} (hv:ValidP p) {R:Type} {k:St->Option R} (Q:Option R->Prop)
  (h:Q (k (((aG p).N:Int),(p.2.length:Int),iT p.2.length ((aG p).w (ap p)) ((aG p).M (ap p)),1,iX p.2.length (fun k=>(aG p).N+k),cb p.2.length (aG p).σ,p.1,((aG p).N:Int),(((aG p).R (ap p):Nat):Int),PUnit.unit))) :
  Q (lpK St R (fun again x=>NX p again k x) ((p.1.length:Int),(0:Int),([],[]),(1:Int),[],[],p.1,((aG p).N:Int),(((aG p).R (ap p):Nat):Int),PUnit.unit)):=by
 rw[Ii hv]
 exact h
end
end Go.Proofs.YtfknoaclabfdlaaGreat

namespace Go.Proofs.YtfknoaclabfdlaaGreat
open Tryz Dn Dn.Sh
def fac (L:Lin):Nat->Int
 | 0=>L.F0
 | k+1=>L.F k
def pp (f:Nat->Int):Nat->Int
 | 0=>1
 | n+1=>pp f n*f n
def mx (f:Nat->Int):Nat->Int
 | 0=>f 0
 | n+1=>max (mx f n) (f (n+1))
def fW (L:Lin):Prop:=pp (fac L) (L.m+1)<=17592186044416/\pp (fac L) (L.m+1)*mx (fac L) L.m<=144115188075855872
instance (L:Lin):Decidable (fW L):=by unfold fW;infer_instance
theorem Bb (L:Lin) (k:Nat):1<=fac L k:=by
 cases k with
 | zero=>exact L.F0_pos
 | succ k=>exact L.F_pos k
theorem CR {f:Nat->Int}:∀{n:Nat},pp f (n+1)=f 0*pz n fun i=>f (i+1)
 | 0=>by simp[pp,pz]
 | n+1=>by
  have e:∀{n:Nat} {g:Nat->Int},pz (n+1) g=pz n g*g n:=by
   intro n
   induction n with
   | zero=>intro g;simp[pz]
   | succ n ih =>
    intro g
    have h:=ih (g:=fun i=>g (i+1))
    rw[pz,h,pz,Int.mul_assoc]
  rw[pp,CR (n:=n),e,Int.mul_assoc]
theorem SX (L:Lin):pp (fac L) (L.m+1)=L.F0*L.P:=CR
theorem xq {f:Nat->Int} (h:∀i,1<=f i):∀n,1<=pp f n
 | 0=>by simp[pp]
 | n+1=>by
  have h1:=xq h n
  have h2:=Int.mul_le_mul h1 (h n) (by omega) (by omega)
  simp only[pp]
  omega
theorem Gw {f:Nat->Int} (h:∀i,1<=f i) {n:Nat}:∀{k:Nat},pp f n<=pp f (n+k)
 | 0=>Int.le_refl _
 | k+1=>by
  have h1:=Gw h (n:=n) (k:=k)
  have h2:=xq h (n+k)
  have h3:pp f (n+k)*1<=pp f (n+k)*f (n+k):=Int.mul_le_mul_of_nonneg_left (h _) (by omega)
  rw[<-Nat.add_assoc]
  simp only[pp]
  omega
theorem Ql {f:Nat->Int} {n:Nat}:∀{i:Nat},i<=n->f i<=mx f n:=by
 induction n with
 | zero=>intro i h;rw[show i=0 by omega];exact Int.le_refl _
 | succ n ih =>
  intro i h
  simp only[mx]
  by_cases e:i=n+1
  ·rw[e];omega
  ·have:=ih (i:=i) (by omega)
   omega
theorem Qe {f:Nat->Int} {B:Int}:∀{n:Nat},(∀i,i<=n->f i<=B)->mx f n<=B
 | 0,h=>h 0 (by omega)
 | n+1,h=>by
  have h1:=Qe (n:=n) fun i hi=>h i (by omega)
  have h2:=h (n+1) (by omega)
  simp only[mx]
  omega
theorem yg {l:List Int} (h:∀n ∈ l,inC n=true) (j:Nat):ab (l.getD j 0)<=1048576:=by
 rw[zd]
 by_cases e:j<l.length
 ·exact z12 (h _ (by rw[bL e];exact List.getElem_mem _))
 ·rw[List.getD_eq_getElem?_getD,List.getElem?_eq_none (by omega)]
  simp
theorem vf {l:List Int} (h:∀n ∈ l,inC n=true) {n:Nat} (hn:n<=12):0<=sz n (fun j=>ab (l.getD j 0))/\sz n (fun j=>ab (l.getD j 0))<=12582912:=by
 refine ⟨iI fun _ _=>cR _,?_⟩
 have h1:=(kJ (n:=n) (f:=fun j=>ab (l.getD j 0)) (B:=1048576) fun j _=>⟨by have:=cR (l.getD j 0);omega,yg h j⟩).2
 omega
theorem IC {p:Pg} (hv:ValidP p) {k:Nat} (hk:k<=p.2.length):fac (ap p) k<=2147483648:=by
 have hn:=hv.cost.2
 cases k with
 | zero =>
  have:=vf hv.cs hn
  show 1+sz p.1.length (fun j=>ab (p.1.getD j 0))<=_
  omega
 | succ k =>
  have hr:p.2.getD k rw0 ∈ p.2:=by rw[bL (show k<p.2.length by omega)];exact List.getElem_mem _
  have h1:=vf (hv.coefs _ hr) hn
  have h2:=z12 (hv.right _ hr)
  have h3:ab (p.2.getD k rw0).2.2<=1073741824:=zd.2 h2
  show 1+ab (p.2.getD k rw0).2.2+sz p.1.length (fun j=>ab ((p.2.getD k rw0).1.getD j 0))<=_
  omega
theorem B7 {l:List Int} {more:Int} (h:∀n ∈ l,inC n=true) (hl:l.length<=12) (hm:inR more=true):dt l more=some (1+ab more+sz l.length fun j=>ab (l.getD j 0)):=by
 have hm:=z12 hm
 have hma:ab more<=1073741824:=zd.2 hm
 have hma0:=cR more
 unfold dt kz
 rw[tq (by omega) (by omega),obN]
 have e0:((more.natAbs:Nat):Int)=ab more:=rfl
 refine cW l.length (by omega) (fun i=>(1+ab more+sz i (fun j=>ab (l.getD j 0)),(i:Int),PUnit.unit)) _ ?_ (fun again i hi=>?_) (fun again=>?_)
 ·rw[e0,bi (x:=ab more) (by omega) (by omega),bi (by omega) (by omega)]
  simp only[sz,Int.add_zero]
  rfl
 ·have h1:=yg h i
  have h0:=cR (l.getD i 0)
  have h2:=vf h (n:=i) (by omega)
  have h3: -1048576<=l.getD i 0/\l.getD i 0<=1048576:=zd.1 h1
  have e1:((l.getD i 0).natAbs:Int)=ab (l.getD i 0):=rfl
  simp only[bw,z9,z7 hi,z7 (show (i:Int)<l.length by omega),cT,tq (show -9223372036854775808<=l.getD i 0 by omega) (by omega),af,e1,bz (show i<=1000000 by omega)]
  rw[bi (x:=ab (l.getD i 0)) (by omega) (by omega),bi (by omega) (by omega)]
  simp only[sz]
  congr 2
  omega
 ·simp only[z8 (show ¬ (l.length:Int)<l.length by omega),cF]
theorem O3 {n:Nat} {f:Nat->Int} (hn:n<=1000):dS (cb (n+1) f)=some (mx f n):=by
 unfold dS kh
 simp only[ux,bj,z8 (show ¬ ((n+1:Nat):Int)<1 by omega),cF,show inB (0:Int) (n+1)=true from te (by omega) (by omega),cT,bO (show 0<n+1 by omega)]
 refine cW n (by omega) (fun i=>(mx f i,((i+1:Nat):Int),PUnit.unit)) _ rfl (fun again i hi=>?_) (fun again=>?_)
 ·simp only[z7 (show ((i+1:Nat):Int)<(n+1:Nat) by omega),bw,z7 (show i+1<n+1 by omega),z9,cT,bO (show i+1<n+1 by omega),O2,bz (show i+1<=1000000 by omega)]
  rfl
 ·simp only[z8 (show ¬ ((n+1:Nat):Int)<(n+1:Nat) by omega),cF]
theorem FN {a b c:Int} (hc:0<c):a<=b / c↔a*c<=b:=Int.le_ediv_iff_mul_le hc
theorem Fa {a b c:Int} (hc:0<c):a>b / c↔b<a*c:=Int.ediv_lt_iff_lt_mul hc
theorem Cz {p:Pg} (hv:ValidP p):df p=some (decide (fW (ap p))):=by
 have hm:=hv.rows
 have hn:=hv.cost.2
 unfold df mh
 rw[B7 hv.cs hn (by decide),obN]
 obtain ⟨f,hf⟩:∃f,f=fac (ap p):=⟨_,rfl⟩
 have hpos:∀i,1<=f i:=fun i=>by rw[hf];exact Bb _ i
 have hsm:∀k,k<=p.2.length->f k<=2147483648:=fun k hk=>by rw[hf];exact IC hv hk
 have hF:fW (ap p)=(pp f (p.2.length+1)<=17592186044416/\pp f (p.2.length+1)*mx f p.2.length<=144115188075855872):=by rw[hf];rfl
 refine cW p.2.length (by omega) (fun i=>(cb (i+1) f,(i:Int),PUnit.unit)) _ ?_ (fun again i hi=>?_) (fun again=>?_)
 ·rw[hf]
  show _=([fac (ap p) 0],(0:Int),PUnit.unit)
  congr 2
 ·have hr:p.2.getD i rw0 ∈ p.2:=by rw[bL hi];exact List.getElem_mem _
  have h1:=B7 (hv.coefs _ hr) (by rw[hv.len _ hr];exact hn) (hv.right _ hr)
  simp only[bw,z9,z7 hi,z7 (show (i:Int)<p.2.length by omega),cT,h1,af,bj,fY (show (i+1+1)*8<=140737488355328 by omega),bz (show i<=1000000 by omega)]
  have e:f (i+1)=1+ab (p.2.getD i rw0).2.2+sz (p.2.getD i rw0).1.length (fun j=>ab ((p.2.getD i rw0).1.getD j 0)):=by
   rw[hf,hv.len _ hr]
   rfl
  rw[<-e,nF]
 ·simp only[z8 (show ¬ (p.2.length:Int)<p.2.length by omega),cF,bj,O3 (show p.2.length<=1000 by omega),af]
  have hmx:1<=mx f p.2.length/\mx f p.2.length<=2147483648:=⟨Int.le_trans (hpos 0) (Ql (by omega)),Qe hsm⟩
  have round:∀{R:Type} {a b:Option R} (i:Nat),i<p.2.length+1->(bif nzB (f i) then bif decide (pp f i>IntKind.wrap .i64 (Int.tdiv 17592186044416 (f i))) then a else b else none)=bif decide (pp f (i+1)>17592186044416) then a else b:=fun i hi=>by
   have h1:=hpos i
   have h2:=hsm i (by omega)
   rw[og (by omega),cond_true,Int.tdiv_eq_ediv_of_nonneg (by omega)]
   have h3:0<=17592186044416 / f i:=Int.ediv_nonneg (by omega) (by omega)
   have h4:17592186044416 / f i<=17592186044416:=Int.ediv_le_self _ (by omega)
   rw[bi (by omega) (by omega),decide_eq_decide.2 (Fa (a:=pp f i) (show 0<f i by omega))]
   rfl
  rcases xG (p.2.length+1) (fun i=>decide (pp f (i+1)>17592186044416)) with hnone | ⟨q,hq,hbig,hleast⟩
  ·have hall:∀i,i<=p.2.length+1->pp f i<=17592186044416:=fun i hi=>by
    cases i with
    | zero=>simp[pp]
    | succ i=>have:=of_decide_eq_false (hnone i (by omega));omega
   refine cW (p.2.length+1) (by omega) (fun i=>(pp f i,(i:Int),PUnit.unit)) _ rfl (fun again i hi=>?_) (fun again=>?_)
   ·have h2:=hall (i+1) (by omega)
    have h3:=xq hpos (i+1)
    simp only[z7 (show (i:Int)<(p.2.length+1:Nat) by omega),bw,z7 hi,z9,bO hi,dw (show Nat.succ i<=p.2.length+1 from hi),cT,round i hi,hnone i hi,cF,bz (show i<=1000000 by omega)]
    rw[bi (x:=pp f i*f i) (by simp only[pp] at h2 h3;omega) (by simp only[pp] at h2;omega)]
    rfl
   ·simp only[z8 (show ¬ ((p.2.length+1:Nat):Int)<(p.2.length+1:Nat) by omega),cF]
    rw[og (by omega),cond_true,Int.tdiv_eq_ediv_of_nonneg (by omega)]
    have h3:0<=144115188075855872 / mx f p.2.length:=Int.ediv_nonneg (by omega) (by omega)
    have h4:144115188075855872 / mx f p.2.length<=144115188075855872:=Int.ediv_le_self _ (by omega)
    rw[bi (by omega) (by omega)]
    congr 1
    refine decide_eq_decide.2 ?_
    rw[FN (a:=pp f (p.2.length+1)) (show 0<mx f p.2.length by omega),hF]
    exact ⟨fun h=>⟨hall _ (by omega),h⟩,fun h=>h.2⟩
  ·have hlow:∀i,i<=q->pp f i<=17592186044416:=fun i hi=>by
    cases i with
    | zero=>simp[pp]
    | succ i=>have:=of_decide_eq_false (hleast i (by omega));omega
   refine cW q (by omega) (fun i=>(pp f i,(i:Int),PUnit.unit)) _ rfl (fun again i hi=>?_) (fun again=>?_)
   ·have h2:=hlow (i+1) (by omega)
    have h3:=xq hpos (i+1)
    simp only[z7 (show (i:Int)<(p.2.length+1:Nat) by omega),bw,z7 (show i<p.2.length+1 by omega),z9,bO (show i<p.2.length+1 by omega),dw (show Nat.succ i<=p.2.length+1 by omega),cT,round i (by omega),hleast i hi,cF,bz (show i<=1000000 by omega)]
    rw[bi (x:=pp f i*f i) (by simp only[pp] at h2 h3;omega) (by simp only[pp] at h2;omega)]
    rfl
   ·simp only[z7 (show (q:Int)<(p.2.length+1:Nat) by omega),bw,z7 hq,z9,bO hq,dw (show Nat.succ q<=p.2.length+1 from hq),cT,round q hq,hbig]
    congr 1
    refine (z8 ?_).symm
    rw[hF]
    rintro ⟨h1,_⟩
    have h2:=z12 hbig
    have h3:=Gw hpos (n:=q+1) (k:=p.2.length - q)
    rw[show q+1+(p.2.length - q)=p.2.length+1 by omega] at h3
    omega
theorem E6 {p:Pg} (hv:ValidP p) (hf:fW (ap p)):Bnd (ap p) (aG p):=by
 obtain ⟨h1,h2⟩:=BZ hv
 refine ⟨oq hv,by omega,by omega,?_⟩
 rw[<-SX]
 exact hf.1
theorem JE {p:Pg} (hf:fW (ap p)) {k:Nat} (hk:k<=p.2.length):(ap p).F0*(ap p).P*fac (ap p) k<=144115188075855872:=by
 rw[<-SX]
 have h1:=Ql (f:=fac (ap p)) hk
 have h2:=xq (Bb (ap p)) ((ap p).m+1)
 have h3:=Int.mul_le_mul_of_nonneg_left h1 (show 0<=pp (fac (ap p)) ((ap p).m+1) by omega)
 exact Int.le_trans h3 hf.2
end Go.Proofs.YtfknoaclabfdlaaGreat

namespace Go.Proofs.YtfknoaclabfdlaaGreat
noncomputable section
open Tryz Dn Dn.Sh
theorem uT {p:Pg} (j:Nat):jj p.1 j=cj (ap p) j:=by
 unfold cj jj
 by_cases h:j<(ap p).n
 ·rw[if_pos h];rfl
 ·rw[if_neg h,List.getD_eq_getElem?_getD,List.getElem?_eq_none (Nat.not_lt.1 h)];rfl
theorem Mn {n d:Int} (hd:d≠0) (hn:n.natAbs<=1152921504606846976) (hd2:d.natAbs<=1152921504606846976):we (ED n d)=(prQ ((n:Rat) / d),0,()):=by
 obtain ⟨m1,m2,m3⟩:=GN (s:=decide (n<0) !=decide (d<0)) (n:=n.natAbs) (d:=d.natAbs) (by omega)
 obtain ⟨m4,m5⟩:=Ge (s:=decide (n<0) !=decide (d<0)) m2 m3
 have hf:fy (ED n d):=by
  unfold fy ED
  rw[m1,m4,m5]
  have a1:n.natAbs / Nat.gcd n.natAbs d.natAbs<=n.natAbs:=Nat.div_le_self _ _
  have a2:d.natAbs / Nat.gcd n.natAbs d.natAbs<=d.natAbs:=Nat.div_le_self _ _
  refine ⟨?_,by rw[<-m5] at *;omega⟩
  unfold sgn
  generalize n.natAbs / Nat.gcd n.natAbs d.natAbs=p at *
  split<;>omega
 unfold we
 rw[if_pos hf,AG hd]
theorem wq {n d:Int} (hd:d≠0) (hn:n.natAbs<=1152921504606846976) (hd2:d.natAbs<=1152921504606846976):fy ((n:Rat) / d):=by
 have h:=Mn hd hn hd2
 rw[AG hd] at h
 rcases xz ((n:Rat) / d) with ⟨h1,_⟩ | ⟨_,h2⟩
 ·exact h1
 ·rw[h2] at h
  exact absurd (show (5:Int)=0 from congrArg (fun x:Fq×Int×Unit=>x.2.1) h) (by decide)
theorem BK {M:List (List Int)} {d n:Int} {x2 x3 cs:List Int} {x5 x6:Int} (hd:0<d/\d<=17592186044416) (hn:n.natAbs<=1152921504606846976):bg (M,d,x2,x3,cs,x5,x6) n=some (prQ ((n:Rat) / (d:Rat))):=by
 simp only[bg,iA,PQ (show -9223372036854775808<=n by omega) (by omega) (show -9223372036854775808<=d by omega) (by omega),af,if_neg (show ¬ d=0 by omega)]
 rw[AG (by omega)]
 unfold we
 rw[if_pos (wq (by omega) hn (by omega))]
theorem PR {n:Nat}:List.replicate n (0:Int)=cb n fun _=>0:=by
 refine List.ext_getElem (by rw[bj];simp) fun i h1 h2=>?_
 rw[rb,List.getElem_replicate]
theorem OJ {p:Pg} (k:Nat) (x:Int):((aG p).σ k*x).natAbs=x.natAbs:=by
 show ((if (p.2.getD k rw0).2.2<0 then (-1:Int) else 1)*x).natAbs=_
 split<;>omega
theorem K3 {m w:Nat} {T:Nat->Nat->Int}:((iT m w T).1.all fun x=>eM (dR m w T) x)=true:=ip
theorem JX {m w:Nat} {T:Nat->Nat->Int}:(iT m w T).1.map (fun x=>ah (dR m w T) x)=sF m w T:=im
abbrev xL (p:Pg) (S:Sx):List Fq:=cb p.1.length fun j=>prQ (A7 (ap p).m ((aG p).R (ap p)) S j)
abbrev yL (p:Pg) (wc:Nat->Int) (S:Sx):List Fq:=cb p.2.length fun k=>prQ (sO (ap p).m (aG p).N wc S (aG p).σ k)
def Uj (p:Pg) (S:Sx):Int:=sz (ap p).m fun i=>cj (ap p) (S.β i)*S.T i ((aG p).R (ap p))
abbrev FH (p:Pg) (S:Sx):Rat:=(Uj p S:Rat) / (S.d:Rat)
structure Infeas (p:Pg) (S:Sx):Prop where
 val:(aG p).Val (ap p) S
 zr:∀j,j<(aG p).N->0<=zr (ap p).m (fN (aG p).N) S j
 pos:0<sz (ap p).m fun i=>fN (aG p).N (S.β i)*S.T i ((aG p).R (ap p))
structure gT (p:Pg) (S:Sx) (q:Nat):Prop where
 val:(aG p).Val (ap p) S
 az:AZ (ap p) (aG p) S
 lt:q<(aG p).N
 neg:zr (ap p).m (cj (ap p)) S q<0
 no:∀i,i<(ap p).m->S.T i q<=0
structure Opt (p:Pg) (S:Sx):Prop where
 val:(aG p).Val (ap p) S
 az:AZ (ap p) (aG p) S
 zr:∀j,j<(aG p).N->0<=zr (ap p).m (cj (ap p)) S j
abbrev pB:Fq×List Fq×List Fq:=((0,0),[],[])
def yJ (p:Pg) (o:Option ((Fq×List Fq×List Fq)×Int×Unit)):Prop :=
 (∃S,Infeas p S/\o=some (pB,22,()))\/(∃S q,gT p S q/\o=some (pB,21,()))\/∃S,Opt p S/\o=some ((prQ (FH p S),xL p S,yL p (cj (ap p)) S),0,())
theorem obQ {T R:Type} {Q:Option R->Prop} {o:Option T} {t:T} {k:T->Option R} (h:o=some t) (hk:Q (k t)):Q (aa o k):=by
 rw[h]
 exact hk
theorem MQ {p:Pg} (hv:ValidP p) (hf:fW (ap p)):yJ p (aA p):=by
 have hB:=E6 hv hf
 obtain ⟨hw25,hm6'⟩:=BZ hv
 have hm6:p.2.length<=6:=hm6'
 have hn:=hv.cost.2
 have hok:=oq hv
 have hpow:(aG p).w (ap p) ^ (ap p).m<=1180591620717411303424:=Nat.le_trans (Nat.pow_le_pow_left (show _<=64 by omega) _) (Nat.le_trans (Nat.pow_le_pow_right (by omega) hm6') (by decide))
 have hcnt:=ue (p:=p) p.2.length
 have hNe:IntKind.wrap .i64 ((p.1.length:Int)+(fS p p.2.length:Nat))=((aG p).N:Int):=by rw[bi (by omega) (by omega)];rfl
 have hRe:IntKind.wrap .i64 (((aG p).N:Int)+(p.2.length:Int))=(((aG p).R (ap p):Nat):Int):=by
  have:(aG p).N=p.1.length+fS p p.2.length:=rfl
  rw[bi (by omega) (by omega)];rfl
 unfold aA je
 rw[zc,obN,yq.2 hv]
 simp only[Bool.not_true,cF]
 rw[Cz hv,obN,z7 hf]
 simp only[Bool.not_true,cF]
 refine HP hv (yJ p) (fun again i s hi=>?_) (fun again=>?_)
 ·simp only[z7 (show (i:Int)<p.2.length by omega),bw,z7 hi,z9,cT,bz (show i<=1000000 by omega)]
 simp only[z8 (show ¬ (p.2.length:Int)<p.2.length by omega),cF,cf,jk,fY (show (0+p.1.length)*8<=140737488355328 by omega),cT,af,hNe,hRe]
 refine Fv hv (yJ p) ?_
 obtain ⟨S,ok,h1,hvS,h2,h3⟩:=LJ hB hpow (x3:=cb p.2.length (aG p).σ) (cs:=p.1) (Lay.first hok)
 refine obQ (Q:=yJ p) h1 ?_
 cases ok with
 | false =>
  simp only[Bool.not_false,cT]
  exact .inl ⟨S,⟨hvS,(h3 rfl).1,(h3 rfl).2⟩,rfl⟩
 | true =>
  simp only[Bool.not_true,cF]
  obtain ⟨S,ok,h1,hvS,haS,h2,h3⟩:=E7 hB hpow (x3:=cb p.2.length (aG p).σ) uT hvS (h2 rfl)
  refine obQ (Q:=yJ p) h1 ?_
  cases ok with
  | false =>
   simp only[Bool.not_false,cT]
   obtain ⟨q,e1,e2,e3⟩:=h3 rfl
   exact .inr (.inl ⟨S,q,⟨hvS,haS,e1,e2,e3⟩,rfl⟩)
  | true =>
   simp only[Bool.not_true,cF,z9,z7 (show (0:Int)<=(p.1.length:Nat) by omega),fY (show p.1.length*8<=140737488355328 by omega),Bool.and_self,cT,PR]
   refine .inr (.inr ⟨S,⟨hvS,haS,h2 rfl⟩,?_⟩)
   obtain ⟨⟨d1,d2⟩,hb⟩:=hB.tab hvS.tb
   obtain ⟨_,hbP⟩:=hB.tabP hvS.tb
   have hRw:(aG p).R (ap p)<(aG p).w (ap p):=by unfold Lay.R Lay.w;omega
   have hm:(ap p).m=p.2.length:=rfl
   have hcR:∀i,i<(ap p).m-> -17592186044416<=cj (ap p) (S.β i)*S.T i ((aG p).R (ap p))/\cj (ap p) (S.β i)*S.T i ((aG p).R (ap p))<=17592186044416:=fun i hi=>hB.cost (hbP i _ hi hRw) _
   have hTR:∀i,i<(ap p).m-> -17592186044416<=S.T i ((aG p).R (ap p))/\S.T i ((aG p).R (ap p))<=17592186044416:=fun i hi=>by have:=hb i _ hi hRw;omega
   refine cW (ap p).m (by omega) (fun i=>(sz i (fun k=>cj (ap p) (S.β k)*S.T k ((aG p).R (ap p))),(i:Int),cb p.1.length (fun j=>sz i fun k=>if S.β k=j then S.T k ((aG p).R (ap p)) else 0),PUnit.unit)) _ rfl (fun again i hi=>?_) (fun again=>?_)
   ·have hiR:=hcR i hi
    have hs:=kJ (n:=i) (f:=fun k=>cj (ap p) (S.β k)*S.T k ((aG p).R (ap p))) (B:=17592186044416) fun k hk=>hcR k (by omega)
    have h3:(i:Int)*17592186044416<=6*17592186044416:=z11 (by omega) (by omega)
    simp only[iW,bw,z9,z7 hi,z7 (show (i:Int)<(ap p).m by omega),dw (show Nat.succ i<=(ap p).m from hi),jU hi,cT,K3,JX,wo,uT,af,gQ,kS hi,jH,gw hi,bj,bO hRw,z7 hRw,dw (show Nat.succ ((aG p).R (ap p))<=(aG p).w (ap p) from hRw),bz (show i<=1000000 by omega)]
    rw[bi (x:=cj (ap p) (S.β i)*S.T i ((aG p).R (ap p))) (by omega) (by omega),bi (by omega) (by omega)]
    by_cases c:S.β i<p.1.length
    ·simp only[z7 (show (S.β i:Int)<p.1.length by omega),z7 c,dw (show Nat.succ (S.β i)<=p.1.length from c),cT,iU c]
     congr 3
     congr 1
     refine cX fun j _=>?_
     by_cases e:j=S.β i
     ·subst e
      rw[if_pos rfl]
      simp only[sz]
      rw[gt fun k hk=>if_neg fun e=>by have:=hvS.tb.inj (show k<(ap p).m by omega) hi e;omega,if_pos trivial,Int.zero_add]
     ·rw[if_neg e]
      simp only[sz]
      rw[if_neg (Ne.symm e),Int.add_zero]
    ·simp only[z8 (show ¬ (S.β i:Int)<p.1.length by omega),cF]
     congr 3
     congr 1
     refine cX fun j hj=>?_
     simp only[sz]
     rw[if_neg (by omega),Int.add_zero]
   have hsV:=kJ (n:=(ap p).m) (f:=fun k=>cj (ap p) (S.β k)*S.T k ((aG p).R (ap p))) (B:=17592186044416) hcR
   have h6:((ap p).m:Int)*17592186044416<=6*17592186044416:=z11 (by omega) (by omega)
   simp only[iW,z8 (show ¬ ((ap p).m:Int)<(ap p).m by omega),cF,ip,im,cT,BK ⟨d1,d2⟩ (show (sz (ap p).m fun k=>cj (ap p) (S.β k)*S.T k ((aG p).R (ap p))).natAbs<=1152921504606846976 by omega),af,bj]
   refine cW p.1.length (by omega) (fun j=>((j:Int),prQ (FH p S),cb j (fun j=>prQ (A7 (ap p).m ((aG p).R (ap p)) S j)),[],PUnit.unit)) _ rfl (fun again j hj=>?_) (fun again=>?_)
   ·have hx:=kJ (n:=(ap p).m) (f:=fun k=>if S.β k=j then S.T k ((aG p).R (ap p)) else 0) (B:=17592186044416) fun k hk=>by
     have:=hTR k hk
     split<;>omega
    simp only[bw,z9,z7 hj,z7 (show (j:Int)<p.1.length by omega),dw (show Nat.succ j<=p.1.length from hj),bO hj,cT,BK ⟨d1,d2⟩ (show (sz (ap p).m fun k=>if S.β k=j then S.T k ((aG p).R (ap p)) else 0).natAbs<=1152921504606846976 by omega),af,bj,fY (show (j+1)*16<=140737488355328 by omega),bz (show j<=1000000 by omega)]
    rw[show prQ (((sz (ap p).m fun k=>if S.β k=j then S.T k ((aG p).R (ap p)) else 0:Int):Rat) / (S.d:Rat))=(fun j=>prQ (A7 (ap p).m ((aG p).R (ap p)) S j)) j from rfl,nF]
   simp only[z8 (show ¬ (p.1.length:Int)<p.1.length by omega),cF]
   refine cW p.2.length (by omega) (fun k=>((k:Int),prQ (FH p S),xL p S,cb k (fun k=>prQ (sO (ap p).m (aG p).N (cj (ap p)) S (aG p).σ k)),PUnit.unit)) _ rfl (fun again k hk=>?_) (fun again=>?_)
   ·have hNk:(aG p).N+k<(aG p).w (ap p):=by unfold Lay.w;omega
    have hcN:∀i,i<(ap p).m-> -17592186044416<=cj (ap p) (S.β i)*S.T i ((aG p).N+k)/\cj (ap p) (S.β i)*S.T i ((aG p).N+k)<=17592186044416:=fun i hi=>hB.cost (hbP i _ hi hNk) _
    have hNke:IntKind.wrap .i64 (((aG p).N:Int)+(k:Int))=(((aG p).N+k:Nat):Int):=by rw[bi (by omega) (by omega)];rfl
    simp only[z7 (show (k:Int)<p.2.length by omega),cT,hNke]
    refine cW (ap p).m (by omega) (fun i=>(sz i (fun i=>cj (ap p) (S.β i)*S.T i ((aG p).N+k)),(i:Int),PUnit.unit)) _ rfl (fun again2 i hi=>?_) (fun again2=>?_)
    ·have hiR:=hcN i hi
     have hs:=kJ (n:=i) (f:=fun i=>cj (ap p) (S.β i)*S.T i ((aG p).N+k)) (B:=17592186044416) fun k hk=>hcN k (by omega)
     have h3:(i:Int)*17592186044416<=6*17592186044416:=z11 (by omega) (by omega)
     simp only[bw,z9,z7 hi,z7 (show (i:Int)<(ap p).m by omega),dw (show Nat.succ i<=(ap p).m from hi),jU hi,cT,wo,uT,af,gQ,kS hi,jH,gw hi,bj,bO hNk,z7 hNk,dw (show Nat.succ ((aG p).N+k)<=(aG p).w (ap p) from hNk),bz (show i<=1000000 by omega)]
     rw[bi (x:=cj (ap p) (S.β i)*S.T i ((aG p).N+k)) (by omega) (by omega),bi (by omega) (by omega)]
     rfl
    ·have hs:=kJ (n:=(ap p).m) (f:=fun i=>cj (ap p) (S.β i)*S.T i ((aG p).N+k)) (B:=17592186044416) hcN
     have hab:=OJ (p:=p) k (sz (ap p).m fun i=>cj (ap p) (S.β i)*S.T i ((aG p).N+k))
     simp only[z8 (show ¬ ((ap p).m:Int)<(ap p).m by omega),cF,bj,bw,z9,z7 hk,dw (show Nat.succ k<=p.2.length from hk),bO hk,cT,bi (x:=(aG p).σ k*sz (ap p).m fun i=>cj (ap p) (S.β i)*S.T i ((aG p).N+k)) (by omega) (by omega),BK ⟨d1,d2⟩ (show ((aG p).σ k*sz (ap p).m fun i=>cj (ap p) (S.β i)*S.T i ((aG p).N+k)).natAbs<=1152921504606846976 by omega),af,fY (show (k+1)*16<=140737488355328 by omega),bz (show k<=1000000 by omega)]
     rw[show prQ ((((aG p).σ k*sz (ap p).m fun i=>cj (ap p) (S.β i)*S.T i ((aG p).N+k):Int):Rat) / (S.d:Rat))=(fun k=>prQ (sO (ap p).m (aG p).N (cj (ap p)) S (aG p).σ k)) k from rfl,nF]
   ·simp only[z8 (show ¬ (p.2.length:Int)<p.2.length by omega),cF]
end
end Go.Proofs.YtfknoaclabfdlaaGreat

namespace Go.Proofs.YtfknoaclabfdlaaGreat
open Tryz Dn Dn.Sh
def vX (x:List Fq) (j:Nat):Rat:=qv (x.getD j (0,0))
theorem Cw {f:Nat->Rat}:∀{n:Nat},sq (n+1) f=f 0+sq n fun i=>f (i+1)
 | 0=>by simp only[sq];grind
 | n+1=>by
  rw[sq,Cw (n:=n)]
  simp only[sq]
  grind
theorem yc:∀{l:List Int} {x:List Fq} {s q:Rat},l.length<=x.length->jN l x s=some q->q=s+sq l.length fun j=>((l.getD j 0:Int):Rat)*vX x j
 | [],x,s,q,_,h=>by
  unfold jN at h
  injection h with h
  simp only[List.length_nil,sq]
  grind
 | n ::l,[],s,q,hl,h=>by simp at hl
 | n ::l,a ::x,s,q,hl,h=>by
  unfold jN at h
  split at h
  ·have h1:=yc (l:=l) (x:=x) (by simpa using hl) h
   rw[List.length_cons,Cw,h1]
   have e1:∀j,(n ::l).getD (j+1) 0=l.getD j 0:=fun j=>rfl
   have e2:∀j,vX (a ::x) (j+1)=vX x j:=fun j=>rfl
   simp only[e1,e2]
   have e3:((n ::l).getD 0 0:Int)=n:=rfl
   have e4:vX (a ::x) 0=qv a:=rfl
   rw[e3,e4]
   grind
  ·cases h
theorem MB {l:List Int} {x:List Fq} (hl:l.length<=x.length) (h:(jN l x 0).isSome=true):(jN l x 0).getD 0=sq l.length fun j=>((l.getD j 0:Int):Rat)*vX x j:=by
 cases hq:jN l x 0 with
 | none=>rw[hq] at h;cases h
 | some q =>
  have:=yc hl hq
  rw[Option.getD_some,this]
  grind
theorem OH {α:Type} {P:α->Bool} {l:List α} (d:α):l.all P=true↔∀k,k<l.length->P (l.getD k d)=true:=by
 rw[<-vj (p:=P) d,List.all_eq_true]
 exact ⟨fun h k hk=>h k (List.mem_range'.2 ⟨k,hk,by omega⟩),fun h i hi=>by obtain ⟨k,hk,rfl⟩:=List.mem_range'.1 hi;exact h _ (by omega)⟩
theorem Pe {p:Pg} {x:List Fq} (hl:x.length=p.1.length) (h:(jN p.1 x 0).isSome=true):(jN p.1 x 0).getD 0=(ap p).val (vX x):=by
 rw[MB (by omega) h]
 rfl
theorem xJ {f:Nat->Int}:∀{n:Nat},sz (n+1) f=f 0+sz n fun i=>f (i+1)
 | 0=>by simp[sz]
 | n+1=>by
  rw[sz,xJ (n:=n)]
  simp only[sz]
  omega
theorem IG {α:Type} {n:Nat} {f:Nat->α}:cb (n+1) f=f 0 ::cb n fun i=>f (i+1):=by
 unfold cb
 rw[List.range_succ_eq_map,List.map_cons,List.map_map]
 rfl
theorem D4 {d B:Int} (hd:0<d/\d<=1152921504606846976) (hB:B<=1152921504606846976):∀{l:List Int} {X:Nat->Int} {s:Int},(∀j,j<l.length->ab (l.getD j 0*X j)<=B)->(∀i,i<=l.length->ab (s+sz i fun j=>l.getD j 0*X j)<=B) ->
  jN l (cb l.length fun j=>prQ ((X j:Rat) / (d:Rat))) ((s:Rat) / (d:Rat))=some (((s+sz l.length fun j=>l.getD j 0*X j:Int):Rat) / (d:Rat))
 | [],X,s,_,_=>by
  unfold jN
  simp[sz]
 | n ::l,X,s,h1,h2=>by
  have e1:∀j,(n ::l).getD (j+1) 0=l.getD j 0:=fun j=>rfl
  have e0:((n ::l).getD 0 0:Int)=n:=rfl
  have a1:=h1 0 (by simp)
  have a2:=h2 1 (by simp)
  simp only[sz,e0,Int.zero_add] at a1 a2
  rw[List.length_cons,IG]
  unfold jN
  rw[BP]
  have q1:(n:Rat)*((X 0:Rat) / (d:Rat))=((n*X 0:Int):Rat) / (d:Rat):=by rw[Rat.intCast_mul];grind
  have q2:(s:Rat) / (d:Rat)+((n*X 0:Int):Rat) / (d:Rat)=((s+n*X 0:Int):Rat) / (d:Rat):=by rw[Rat.intCast_add];grind
  have b1:(n*X 0).natAbs<=1152921504606846976:=by rw[xT] at a1;omega
  have b2:(s+n*X 0).natAbs<=1152921504606846976:=by rw[xT] at a2;omega
  rw[q1,q2,if_pos ⟨wq (by omega) b1 (by omega),wq (by omega) b2 (by omega)⟩]
  have ih:=D4 hd hB (l:=l) (X:=fun j=>X (j+1)) (s:=s+n*X 0) (fun j hj=>h1 (j+1) (by simpa using hj)) (fun i hi=>by
   have:=h2 (i+1) (by simpa using hi)
   rw[xJ] at this
   simp only[e1,e0] at this
   rw[<-Int.add_assoc] at this
   exact this)
  rw[ih]
  congr 3
  rw[xJ]
  simp only[e1,e0]
  omega
theorem F9 {n i:Nat} {a X:Nat->Int} {B:Int} (hi:i<=n) (hB:0<=B) (hX:∀j,j<n->ab (X j)<=B):ab (sz i fun j=>a j*X j)<=(sz n fun j=>ab (a j))*B:=by
 refine Int.le_trans EP ?_
 have h1:(sz i fun j=>ab (a j*X j))<=sz i fun j=>ab (a j)*B:=qx fun j hj=>by
  rw[qj]
  exact Int.mul_le_mul_of_nonneg_left (hX j (by omega)) (cR _)
 refine Int.le_trans h1 ?_
 rw[Bn]
 refine z11 ?_ hB
 obtain ⟨k,rfl⟩:∃k,n=i+k:=⟨n - i,by omega⟩
 rw[ye]
 have:0<=sz k fun l=>ab (a (i+l)):=iI fun _ _=>cR _
 omega
theorem OQ {n j:Nat} {f:Nat->Int} (hj:j<n) (hf:∀i,i<n->0<=f i):f j<=sz n f:=by
 have h1:(sz n fun i=>if i=j then f j else 0)<=sz n f:=qx fun i hi=>by
  by_cases e:i=j
  ·rw[if_pos e,e];exact Int.le_refl _
  ·rw[if_neg e];exact hf i hi
 rw[eQ hj fun i _ hne=>if_neg hne,if_pos rfl] at h1
 exact h1
theorem F8 {n j:Nat} {a X:Nat->Int} {B:Int} (hj:j<n) (hB:0<=B) (hX:∀j,j<n->ab (X j)<=B):ab (a j*X j)<=(sz n fun j=>ab (a j))*B:=by
 rw[qj]
 refine Int.le_trans (Int.mul_le_mul_of_nonneg_left (hX j hj) (cR _)) (z11 ?_ hB)
 exact OQ (f:=fun j=>ab (a j)) hj fun _ _=>cR _
theorem J5 {l:List Int} {X:Nat->Int} {d B:Int} (hd:0<d/\d<=1152921504606846976) (hB:0<=B) (hX:∀j,j<l.length->ab (X j)<=B) (h:(sz l.length fun j=>ab (l.getD j 0))*B<=1152921504606846976) :
  (jN l (cb l.length fun j=>prQ ((X j:Rat) / (d:Rat))) 0).isSome=true:=by
 have h0:(0:Rat)=((0:Int):Rat) / (d:Rat):=by rw[show ((0:Int):Rat)=0 from rfl,Rat.div_def,Rat.zero_mul]
 rw[h0,D4 hd h (fun j hj=>F8 (a:=fun j=>l.getD j 0) hj hB hX) (fun i hi=>by rw[Int.zero_add];exact F9 (a:=fun j=>l.getD j 0) hi hB hX)]
 rfl
section
variable {p:Pg} {S:Sx}
theorem G2 (hB:Bnd (ap p) (aG p)) (hv:(aG p).Val (ap p) S) (j:Nat):0<=uD (ap p).m ((aG p).R (ap p)) S j/\uD (ap p).m ((aG p).R (ap p)) S j<=(ap p).P:=by
 refine ⟨mO hv j,?_⟩
 have hRw:(aG p).R (ap p)<(aG p).w (ap p):=by unfold Lay.R Lay.w;omega
 obtain ⟨_,hb⟩:=hB.tabP hv.tb
 unfold uD
 by_cases h:∃i,i<(ap p).m/\S.β i=j
 ·obtain ⟨i,hi,e⟩:=h
  rw[eQ hi fun k hk hne=>if_neg fun e2=>hne (hv.tb.inj hk hi (by rw[e,e2])),if_pos e]
  have:=hb i _ hi hRw
  omega
 ·rw[gt fun i hi=>if_neg fun e=>h ⟨i,hi,e⟩]
  have:=(ap p).P_pos
  omega
theorem QD (hV:ValidP p) (hf:fW (ap p)) (hv:(aG p).Val (ap p) S):Jk p (xL p S)=true/\(jN p.1 (xL p S) 0).isSome=true:=by
 have hB:=E6 hV hf
 obtain ⟨⟨d1,d2⟩,hb⟩:=hB.tab hv.tb
 have hm:=hV.rows
 have hP:=(ap p).P_pos
 have hF0:=(ap p).F0_pos
 have hx:∀j,ab (uD (ap p).m ((aG p).R (ap p)) S j)<=(ap p).P:=fun j=>by
  have:=G2 hB hv j
  exact zd.2 ⟨by omega,this.2⟩
 have gen:∀{l:List Int} {k:Nat},l.length=p.1.length->k<=p.2.length->(sz p.1.length fun j=>ab (l.getD j 0))<=fac (ap p) k->(jN l (xL p S) 0).isSome=true:=fun {l k} hl hk hF=>by
  have h2:=JE hf hk
  have h3:1*((ap p).P*fac (ap p) k)<=(ap p).F0*((ap p).P*fac (ap p) k):=z11 hF0 (Int.mul_nonneg (by omega) (by have:=Bb (ap p) k;omega))
  have h5:=Int.mul_assoc (ap p).F0 (ap p).P (fac (ap p) k)
  have h4:=z11 hF (show 0<=(ap p).P by omega)
  rw[Int.mul_comm (fac (ap p) k)] at h4
  have h1:=J5 (l:=l) (X:=fun j=>uD (ap p).m ((aG p).R (ap p)) S j) (d:=S.d) (B:=(ap p).P) ⟨d1,by omega⟩ (by omega) (fun j _=>hx j) (by rw[hl];omega)
  rw[hl] at h1
  exact h1
 constructor
 ·unfold Jk
  rw[OH rw0]
  intro k hk
  have hr:p.2.getD k rw0 ∈ p.2:=by rw[bL hk];exact List.getElem_mem _
  refine gen (k:=k+1) (hV.len _ hr) (by omega) ?_
  show _<=1+ab (p.2.getD k rw0).2.2+sz p.1.length (fun j=>ab ((p.2.getD k rw0).1.getD j 0))
  have:=cR (p.2.getD k rw0).2.2
  omega
 ·refine gen (k:=0) rfl (by omega) ?_
  show _<=1+sz p.1.length (fun j=>ab (p.1.getD j 0))
  omega
theorem EI {n:Nat} {f:Nat->Rat} {j:Nat} (hj:j<n):vX (cb n fun j=>prQ (f j)) j=f j:=by
 unfold vX
 rw[bO hj,BP]
theorem Ob {n:Nat} {f:Nat->Rat} (h:∀j,j<n->fy (f j)):∀a ∈ cb n (fun j=>prQ (f j)),okF a:=fun a ha=>by
 unfold cb at ha
 obtain ⟨j,hj,rfl⟩:=List.mem_map.1 ha
 exact wI (h j (List.mem_range.1 hj))
theorem TG (hV:ValidP p) (hf:fW (ap p)) (hv:(aG p).Val (ap p) S):∀a ∈ xL p S,okF a:=Ob fun j _=>by
 have hB:=E6 hV hf
 obtain ⟨⟨d1,d2⟩,_⟩:=hB.tab hv.tb
 have:=G2 hB hv j
 have:=hB.P'
 exact wq (by omega) (by omega) (by omega)
theorem Dn.Lin.Feas.congr {L:Lin} {x x':Nat->Rat} (h:∀j,j<L.n->x j=x' j) (hx:L.Feas x):L.Feas x':=by
 have hr:∀k,L.row x' k=L.row x k:=fun k=>dh fun j hj=>by rw[h j hj]
 exact ⟨fun j hj=>by rw[<-h j hj];exact hx.pos j hj,fun k hk h2=>by rw[hr];exact hx.most k hk h2,fun k hk h2=>by rw[hr];exact hx.least k hk h2⟩
theorem Dn.Lin.Sgn.congr {L:Lin} {y y':Nat->Rat} (h:∀k,k<L.m->y k=y' k) (hy:L.Sgn y):L.Sgn y' :=
 ⟨fun k hk e=>by rw[<-h k hk];exact hy.most k hk e,fun k hk e=>by rw[<-h k hk];exact hy.least k hk e⟩
theorem Dn.Lin.col_congr {L:Lin} {y y':Nat->Rat} (h:∀k,k<L.m->y k=y' k) (j:Nat):L.col y' j=L.col y j:=dh fun k hk=>by rw[h k hk]
theorem Dn.Lin.rhs_congr {L:Lin} {y y':Nat->Rat} (h:∀k,k<L.m->y k=y' k):L.rhs y'=L.rhs y:=dh fun k hk=>by rw[h k hk]
theorem Dn.Lin.val_congr {L:Lin} {x x':Nat->Rat} (h:∀j,j<L.n->x j=x' j):L.val x'=L.val x:=dh fun j hj=>by rw[h j hj]
theorem Nq (hV:ValidP p) (_:fW (ap p)) (ho:Opt p S):(ap p).Feas (vX (xL p S))/\(ap p).Dual (vX (yL p (cj (ap p)) S))/\(ap p).val (vX (xL p S))=FH p S/\(ap p).rhs (vX (yL p (cj (ap p)) S))=FH p S:=by
 have hok:=oq hV
 have ex:∀j,j<(ap p).n->A7 (ap p).m ((aG p).R (ap p)) S j=vX (xL p S) j:=fun j hj=>(EI hj).symm
 have ey:∀k,k<(ap p).m->sO (ap p).m (aG p).N (cj (ap p)) S (aG p).σ k=vX (yL p (cj (ap p)) S) k:=fun k hk=>(EI hk).symm
 have h1:=xj hok ho.val (ho.az.art S)
 have h2:=EV hok ho.val ho.zr
 obtain ⟨h3,h4⟩:=Dd hok ho.val
 refine ⟨h1.congr ex,⟨h2.toSgn.congr ey,fun j hj=>?_⟩,?_,?_⟩
 ·rw[Lin.col_congr ey];exact h2.col j hj
 ·rw[Lin.val_congr ex];exact h3
 ·rw[Lin.rhs_congr ey];exact h4
theorem FQ (hV:ValidP p) (ho:Infeas p S):(ap p).Ref (vX (yL p (fN (aG p).N) S)):=by
 have hok:=oq hV
 have ey:∀k,k<(ap p).m->sO (ap p).m (aG p).N (fN (aG p).N) S (aG p).σ k=vX (yL p (fN (aG p).N) S) k:=fun k hk=>(EI hk).symm
 have h2:=Hw hok ho.val ho.zr ho.pos
 refine ⟨h2.toSgn.congr ey,fun j hj=>?_,?_⟩
 ·rw[Lin.col_congr ey];exact h2.col j hj
 ·rw[Lin.rhs_congr ey];exact h2.rhs
end
theorem IZ {p:Pg} (h:ValidP p) (hf:¬ fW (ap p)):aA p=some (pB,5,()):=by
 unfold aA je
 rw[zc,obN,yq.2 h]
 simp only[Bool.not_true,cF]
 rw[Cz h,obN,z8 hf]
 rfl
structure BndR (L:Lin) (Y:Lay):Prop where
 ok:Y.ok L
 m:L.m<=6
 w:Y.w L<=25
 P:L.F0*L.P<=536870912
section
variable {L:Lin} {Y:Lay}
theorem BndR.P' (h:BndR L Y):L.P<=536870912:=by
 have h1:=L.F0_pos
 have h2:=L.P_pos
 have h3:1*L.P<=L.F0*L.P:=z11 h1 (by omega)
 have:=h.P
 omega
theorem BndR.tab (h:BndR L Y) {T:Nat->Nat->Int} {d:Int} {β:Nat->Nat} (ht:Tb L.m (Y.w L) (Y.M L) T d β):(0<d/\d<=536870912)/\∀i j,i<L.m->j<Y.w L->(T i j).natAbs<=536870912/\((T i j).natAbs:Int)<=L.P:=by
 obtain ⟨h1,h2⟩:=qL h.ok ht
 have h3:=h.P'
 refine ⟨⟨ht.dpos,by omega⟩,fun i j hi hj=>?_⟩
 have:=h2 i j hi hj
 rw[xT] at this
 omega
structure Wc (L:Lin) (Y:Lay) (wc:Nat->Int):Prop where
 small:∀j x,(x.natAbs:Int)<=L.P-> -536870912<=wc j*x/\wc j*x<=536870912
end
section
variable {L:Lin} {Y:Lay}
theorem Swp.next {i:Nat} {S:Sx} (h:Swp L Y i S) (hr:Y.N<=S.β i->∀j,j<Y.N->S.T i j=0):Swp L Y (i+1) S :=
 ⟨h.val,h.right,fun k hk hlt hb j hj=>by
  by_cases e:k=i
  ·subst e;exact hr hb j hj
  ·exact h.rows k hk (by omega) hb j hj⟩
end
section
variable {p:Pg}
end
section
variable {L:Lin} {Y:Lay}
end
def Q2 (p:Pg) (a:Fq×List Fq×List Fq) (e:Int):Prop :=
 (e=5/\a=pB/\¬ fW (ap p))\/(e=22/\a=pB/\fW (ap p)/\∃y,(ap p).Ref y) \/
 (e=21/\a=pB/\fW (ap p)/\(∃x,(ap p).Feas x)/\∃r,(ap p).Ray r) \/
 (e=0/\fW (ap p)/\∃v,a.1=prQ v/\fy v/\a.2.1.length=p.1.length/\(∀x ∈ a.2.1,okF x)/\Jk p a.2.1=true/\(jN p.1 a.2.1 0).isSome=true/\(ap p).Feas (vX a.2.1)/\(∃y,(ap p).Dual y/\(ap p).rhs y=v)/\(ap p).val (vX a.2.1)=v)
theorem AX {p:Pg} (hV:ValidP p):∃a e,aA p=some (a,e,())/\Q2 p a e:=by
 by_cases hf:fW (ap p)
 ·have hok:=oq hV
  rcases MQ hV hf with ⟨S,h1,h2⟩ | ⟨S,q,h1,h2⟩ | ⟨S,h1,h2⟩
  ·exact ⟨_,_,h2,.inr (.inl ⟨rfl,rfl,hf,_,FQ hV h1⟩)⟩
  ·exact ⟨_,_,h2,.inr (.inr (.inl ⟨rfl,rfl,hf,⟨_,xj hok h1.val (h1.az.art S)⟩,_,Hv hok h1.val h1.lt (h1.az.col S h1.lt) h1.neg h1.no⟩))⟩
  ·obtain ⟨a1,a2,a3,a4⟩:=Nq hV hf h1
   obtain ⟨f1,f2⟩:=QD hV hf h1.val
   have hl:(xL p S).length=p.1.length:=bj
   have hv:=Pe (p:=p) (x:=xL p S) hl f2
   have hq:fy (FH p S):=by
    rw[<-a3,<-hv]
    exact Oi
   exact ⟨_,_,h2,.inr (.inr (.inr ⟨rfl,hf,FH p S,rfl,hq,hl,TG hV hf h1.val,f1,f2,a1,⟨_,a2,a4⟩,a3⟩))⟩
 ·exact ⟨_,_,IZ hV hf,.inl ⟨rfl,rfl,hf⟩⟩
theorem Qa {f:(Fq×Unit)->Option Bool} {p:Fq->Bool} {l:List Fq} (hl:l.length<=1000000) (h:∀a,a ∈ l->f (a,())=some (p a)):aj l f=some (l.any p):=by
 simp only[aj,gl]
 have e:bS l f=some (iY p l 0):=by
  unfold bS ii
  exact oS (f:=f) (d:=(0,0)) hl h
 rw[e,af,BL]
theorem G1 {x:List Fq} (hl:x.length<=1000) (hx:∀a ∈ x,okF a):bo x=RX (jN (List.replicate x.length 1) x 0) (some ((0,0),5,())) fun q=>some (prQ q,0,()):=by
 have hc:aj x (fun x=>fA x.1)=some false:=by
  rw[Qa (p:=fun a=>!decide (okF a)) (by omega) (fun a _=>by simp only[fA,nj,wY,af])]
  congr 1
  rw[List.any_eq_false]
  intro a ha h
  rw[z7 (hx a ha)] at h
  cases h
 obtain ⟨l,hll⟩:∃l,l=List.replicate x.length (1:Int):=⟨_,rfl⟩
 have hlen:l.length=x.length:=by rw[hll,List.length_replicate]
 have h1:∀i,i<l.length->l.getD i 0=1:=fun i hi=>by
  rw[bL hi]
  subst hll
  exact List.getElem_replicate _
 simp only[bo,qg,hc,af,cF,z8 (show ¬ (x.length:Int)>1000 by omega)]
 rw[<-hll]
 refine (nn (α:=Int×Fq×Fq×PUnit) l.length (by omega) (fun i (s:Fq×{q:Rat // fy q})=>((i:Int),s.1,prQ s.2.1,PUnit.unit))
  (fun i s k=>if h:fy (((l.getD i 0:Int):Rat)*qv (x.getD i (0,0)))/\fy (s.2.1+((l.getD i 0:Int):Rat)*qv (x.getD i (0,0))) then k (s.1,⟨_,h.2⟩) else some ((0,0),5,())) (fun s=>some (prQ s.2.1,0,())) ?_ ?_ ((0,0),⟨0,by decide⟩)).trans ?_
 ·intro again i s hi
  obtain ⟨w,q,hq⟩:=s
  have hix:i<x.length:=by omega
  have ha:okF (x.getD i (0,0)):=by rw[bL hix];exact hx _ (List.getElem_mem _)
  simp only[bw,z7 hix,z7 (show (i:Int)<x.length by omega),cT,z9,eH (show i<=1000000 by omega),h1 i hi]
  have hA:=MF (wI hq) ha
  rw[BP] at hA
  have e1:((1:Int):Rat)*qv (x.getD i (0,0))=qv (x.getD i (0,0)):=by rw[show ((1:Int):Rat)=1 from rfl,Rat.one_mul]
  have f1:fy (qv (x.getD i (0,0))):=KV ha
  simp only[hA,af,e1]
  rcases xz (q+qv (x.getD i (0,0))) with ⟨f2,e2⟩ | ⟨f2,e2⟩
  ·rw[dif_pos ⟨f1,f2⟩]
   simp only[e2,decide_true,Bool.not_true,cF]
  ·rw[dif_neg fun h=>f2 h.2]
   simp only[e2]
   rfl
 ·intro again s
  simp only[hlen,z8 (show ¬ (x.length:Int)<x.length by omega),cF]
 ·exact Na (cur:=fun s:Fq×{q:Rat // fy q}=>s.2.1) (bad:=some ((0,0),5,())) (good:=fun q=>some (prQ q,0,())) (by omega) (fun i s h=>(s.1,⟨_,h⟩)) (fun _ _ _=>rfl) (fun _ _ _ _=>rfl) (fun _=>rfl) l.length 0 ((0,0),⟨0,by decide⟩) (by omega)
theorem wy (s:Sy) (c:List Int) (hl:c.length=s.2.length):ap (cu s c)=⟨s.2.length,s.1.length,fun k j=>((cb s.1.length (js s)).getD k rw0).1.getD j 0,fun k=>((cb s.1.length (js s)).getD k rw0).2.2,fun j=>c.getD j 0,fun k=>((cb s.1.length (js s)).getD k rw0).2.1⟩:=by
 unfold ap cu
 simp only[hl,bj]
def EqS (s:Sy) (x:Nat->Rat):Prop:=∀i,i<s.1.length->(sq s.2.length fun j=>((Mx s i j:Int):Rat)*x j)=((bwS s i:Int):Rat)
theorem hO {s:Sy} {c:List Int} (hl:c.length=s.2.length) {x:Nat->Rat}:(ap (cu s c)).Feas x↔(∀j,j<s.2.length->0<=x j)/\EqS s x:=by
 rw[wy s c hl]
 have er:∀i,i<s.1.length->(⟨s.2.length,s.1.length,fun k j=>((cb s.1.length (js s)).getD k rw0).1.getD j 0,fun k=>((cb s.1.length (js s)).getD k rw0).2.2,fun j=>c.getD j 0,fun k=>((cb s.1.length (js s)).getD k rw0).2.1⟩:Lin).row x i=sq s.2.length fun j=>((Mx s i j:Int):Rat)*x j:=fun i hi=>by
  unfold Lin.row
  refine dh fun j hj=>?_
  simp only[bO hi,js,bO hj]
 constructor
 ·rintro ⟨h1,h2,h3⟩
  refine ⟨h1,fun i hi=>?_⟩
  have hk:((cb s.1.length (js s)).getD i rw0).2.1=3:=by rw[bO hi];rfl
  have hb:((cb s.1.length (js s)).getD i rw0).2.2=bwS s i:=by rw[bO hi];rfl
  have a1:=h2 i hi (by simp only[hk];omega)
  have a2:=h3 i hi (by simp only[hk];omega)
  rw[er i hi] at a1 a2
  simp only[hb] at a1 a2
  exact Rat.le_antisymm a1 a2
 ·rintro ⟨h1,h2⟩
  refine ⟨h1,fun i hi _=>?_,fun i hi _=>?_⟩
  ·have hb:((cb s.1.length (js s)).getD i rw0).2.2=bwS s i:=by rw[bO hi];rfl
   rw[er i hi,h2 i hi]
   simp only[hb]
   exact Rat.le_refl
  ·have hb:((cb s.1.length (js s)).getD i rw0).2.2=bwS s i:=by rw[bO hi];rfl
   rw[er i hi,h2 i hi]
   simp only[hb]
   exact Rat.le_refl
theorem TD {s:Sy} {c:List Int}:(ap (cu s c)).F0=1+sz c.length fun j=>ab (c.getD j 0):=rfl
theorem Ns {s:Sy} {c c':List Int} (hl:c.length=s.2.length) (hl':c'.length=s.2.length) (h:(ap (cu s c)).F0=(ap (cu s c')).F0):fac (ap (cu s c))=fac (ap (cu s c')):=by
 funext k
 cases k with
 | zero=>exact h
 | succ k =>
  simp only[fac]
  rw[wy s c hl,wy s c' hl']
  rfl
theorem Cn {s:Sy} {c c':List Int} (hl:c.length=s.2.length) (hl':c'.length=s.2.length) (h:(ap (cu s c)).F0=(ap (cu s c')).F0):fW (ap (cu s c))↔fW (ap (cu s c')):=by
 unfold fW
 rw[Ns hl hl' h,show (ap (cu s c)).m=(ap (cu s c')).m from rfl]
theorem tF {s:Sy} {k:Nat} {c:Int} (hk:k<s.2.length) (hc:ab c=1):(ap (cu s (fR s k c))).F0=2:=by
 rw[TD,gy,eQ (k:=k) hk fun i hi hne=>?_,Ad hk,if_pos rfl,hc]
 ·rfl
 ·rw[Ad hi,if_neg (Ne.symm hne)]
  rfl
theorem fe {s:Sy}:(gV s).length=s.2.length:=by unfold gV;rw[List.length_replicate]
theorem xP {s:Sy} (h:fq s=true) {a:Fq×List Fq×List Fq} {e:Int} (hs:aA (cu s (gV s))=some (a,e,())):aE s=some (bif decide (e=0) then a.2.1 else [],e,()):=by
 unfold aE lz
 rw[J7 h,af,hs]
 by_cases he:e=0
 ·subst he;rfl
 ·simp only[z8 he,af]
  rfl
theorem Iy {s:Sy} (h:fq s=false) (hl:s.2.length<=1000000):aE s=some ([],1,()):=by
 unfold aE lz
 rw[Iu h hl]
 rfl
def iP (s:Sy) (z:Nat->Bool):Nat->List ByteArray
 | 0=>[]
 | k+1=>if z k then iP s z k++[rnS s k] else iP s z k
theorem tf {s:Sy} {z:Nat->Bool}:∀k,(iP s z k).length<=k
 | 0=>Nat.le_refl _
 | k+1=>by
  have:=tf (s:=s) (z:=z) k
  simp only[iP]
  split
  ·rw[List.length_append,List.length_singleton];omega
  ·omega
theorem tv {s:Sy} {z z':Nat->Bool}:∀{k:Nat},(∀j,j<k->z j=z' j)->iP s z k=iP s z' k
 | 0,_=>rfl
 | k+1,h=>by
  simp only[iP]
  rw[h k (by omega),tv fun j hj=>h j (by omega)]
theorem zI {s:Sy} (h:fq s=true) {A:Nat->Fq×List Fq×List Fq} {E:Nat->Int} (hs:∀k,k<s.2.length->aA (cu s (fR s k (-1)))=some (A k,E k,())) (hE:∀k,k<s.2.length->E k=0\/E k=21) :
  aF s=some (iP s (fun k=>decide (E k=0)&&decide ((A k).1.1=0)) s.2.length,0,()):=by
 have hr:=(gY h).rl
 unfold aF kG
 rw[tT,af,h]
 simp only[Bool.not_true,cF]
 refine cW s.2.length (by omega) (fun k=>(iP s (fun k=>decide (E k=0)&&decide ((A k).1.1=0)) k,(k:Int),PUnit.unit)) _ rfl (fun again k hk=>?_) (fun again=>?_)
 ·have hlen:=tf (s:=s) (z:=fun k=>decide (E k=0)&&decide ((A k).1.1=0)) k
  simp only[bw,z7 hk,z7 (show (k:Int)<s.2.length by omega),cT,z9,G5 h hk,af,hs k hk,eH (show k<=1000000 by omega),decide_true,Bool.not_true,cF]
  simp only[iP]
  have d1:decide ((0:Int)=21)=false:=rfl
  rcases hE k hk with e | e
  ·by_cases c:(A k).1.1=0
   ·rw[if_pos (by rw[z7 c,z7 e];rfl)]
    simp only[e,d1,decide_true,Bool.not_true,cF,z7 c,cT,fY (show ((iP s (fun k=>decide (E k=0)&&decide ((A k).1.1=0)) k).length+1)*16<=140737488355328 by omega)]
    rfl
   ·rw[if_neg (by rw[z8 c,Bool.and_false];exact Bool.false_ne_true)]
    simp only[e,d1,decide_true,Bool.not_true,cF,z8 c]
  ·rw[if_neg (by rw[z10];exact fun h=>absurd (z12 h.1) (by omega))]
   simp only[e,decide_true,cT]
 ·simp only[z8 (show ¬ (s.2.length:Int)<s.2.length by omega),cF]
theorem yA {s:Sy} (h:fq s=true) {A:Nat->Fq×List Fq×List Fq} {e:Int} (he:e≠0/\e≠21) (hs:∀k,k<s.2.length->aA (cu s (fR s k (-1)))=some (A k,e,())):aF s=some ([],e,()):=by
 have hr:=(gY h).rl
 unfold aF kG
 rw[tT,af,h]
 simp only[Bool.not_true,cF]
 refine cW 0 (by omega) (fun k=>([],(k:Int),PUnit.unit)) _ rfl (fun again k hk=>absurd hk (by omega)) (fun again=>?_)
 have h1:=G5 h (k:=0) (by omega) (-1)
 have h2:=hs 0 (by omega)
 simp only[bw,z7 (show 0<s.2.length by omega),z7 (show ((0:Nat):Int)<s.2.length by omega),cT,h1,af,h2,decide_true,Bool.not_true,cF,z8 he.1,z8 he.2,Bool.not_false]
theorem Qk {P:Nat->Pg} {n:Nat} (h:∀k,k<n->ValidP (P k)):∃(A:Nat->Fq×List Fq×List Fq) (E:Nat->Int),∀k,k<n->aA (P k)=some (A k,E k,())/\Q2 (P k) (A k) (E k):=by
 refine ⟨fun k=>((aA (P k)).getD (pB,0,())).1,fun k=>((aA (P k)).getD (pB,0,())).2.1,fun k hk=>?_⟩
 obtain ⟨a,e,h1,h2⟩:=AX (h k hk)
 show aA (P k)=some (((aA (P k)).getD (pB,0,())).1,((aA (P k)).getD (pB,0,())).2.1,())/\Q2 (P k) ((aA (P k)).getD (pB,0,())).1 ((aA (P k)).getD (pB,0,())).2.1
 rw[h1]
 exact ⟨rfl,h2⟩
theorem GM {q:Rat}:(prQ q).1=0↔q=0:=Rat.num_eq_zero
theorem pf {s:Sy} {r:Nat->Rat} (h:(ap (cu s (gV s))).Ray r):False:=by
 have h1:=h.val
 have h2:0<=(ap (cu s (gV s))).val r:=Ik fun j hj=>by
  have hj':j<s.2.length:=by have:j<(gV s).length:=hj;rw[fe] at this;exact this
  have e:(ap (cu s (gV s))).c j=1:=by
   show (gV s).getD j 0=1
   rw[bL (by rw[fe];exact hj')]
   unfold gV
   exact List.getElem_replicate _
  rw[e]
  have:=h.pos j hj
  grind
 grind
theorem Gf:∀{n:Nat} {f:Nat->Rat} {k:Nat},k<n->(∀i,i<n->i≠k->f i=0)->sq n f=f k
 | n+1,f,k,hk,h=>by
  simp only[sq]
  by_cases e:k=n
  ·subst e
   rw[lw fun i hi=>h i (by omega) (by omega),Rat.zero_add]
  ·rw[Gf (k:=k) (by omega) fun i hi hne=>h i (by omega) hne,h n (by omega) (fun h=>e h.symm),Rat.add_zero]
theorem tw {s:Sy} (x:Nat->Rat):(ap (cu s (gV s))).val x=sq s.2.length x:=by
 have e:(ap (cu s (gV s))).val x=sq s.2.length fun j=>(((gV s).getD j 0:Int):Rat)*x j:=by
  show (sq (gV s).length fun j=>(((gV s).getD j 0:Int):Rat)*x j)=_
  rw[fe]
 rw[e]
 refine dh fun j hj=>?_
 have e2:(gV s).getD j 0=1:=by
  rw[bL (by rw[fe];exact hj)]
  unfold gV
  exact List.getElem_replicate _
 rw[e2]
 exact Rat.one_mul _
theorem FE {x:List Fq} (hl:x.length<=1000) (hx:∀a ∈ x,okF a):bo x=some ((0,0),5,())\/∃q,fy q/\q=sq x.length (vX x)/\bo x=some (prQ q,0,()):=by
 rw[G1 hl hx]
 cases hq:jN (List.replicate x.length 1) x 0 with
 | none=>exact .inl rfl
 | some q =>
  refine .inr ⟨q,uA (by decide) hq,?_,rfl⟩
  have:=yc (by rw[List.length_replicate];exact Nat.le_refl _) hq
  rw[this,Rat.zero_add,List.length_replicate]
  refine dh fun j hj=>?_
  rw[bL (by rw[List.length_replicate];exact hj),List.getElem_replicate]
  exact Rat.one_mul _
theorem Kc {α:Type} [DecidableEq α] (d:α) {l m:List α} (h:l.length=m.length):(List.range' 0 l.length).all (fun i=>decide (l.getD i d=m.getD i d))=decide (l=m):=by
 rw[Bool.eq_iff_iff,decide_eq_true_iff,List.all_eq_true]
 constructor
 ·intro hh
  refine List.ext_getElem h fun i h1 h2=>?_
  have:=z12 (hh i (pq h1))
  rw[bL h1,bL h2] at this
  exact this
 ·rintro rfl i _
  exact z7 rfl
theorem Kt {α:Type} [DecidableEq α] (d:α) {l m:List α} (h:l.length=m.length) (hl:l.length<=1000000) {F:(Int×PUnit->Option Bool)->Int×PUnit->Option Bool}
  (hb:∀again (i:Nat),i<l.length->F again ((i:Int),PUnit.unit)=bif decide (l.getD i d=m.getD i d) then again (((i+1:Nat):Int),PUnit.unit) else some false) (hf:∀again,F again ((l.length:Int),PUnit.unit)=some true) :
  lpK (Int×PUnit) Bool F ((0:Int),PUnit.unit)=some (decide (l=m)):=by
 refine (nn (α:=Int×PUnit) l.length (by omega) (fun i (_:Unit)=>((i:Int),PUnit.unit)) (fun i s k=>bif decide (l.getD i d=m.getD i d) then k s else some false) (fun _=>some true) ?_ ?_ ()).trans ?_
 ·intro again i _ hi
  exact hb again i hi
 ·intro again _
  exact hf again
 ·rw[mM l.length (fun i k _=>rfl) l.length 0 (by omega),Kc d h]
  cases decide (l=m)<;>rfl
theorem Oo (l m:List ByteArray) (hl:l.length<=1000000):aR l m=some (decide (l=m)):=by
 simp only[aR,jE,lL]
 by_cases h:l.length=m.length
 ·rw[z7 (show (l.length:Int)=m.length by omega)]
  simp only[Bool.not_true,cF]
  refine Kt { data:={ toList:=[] } } h hl (fun again i hi=>?_) (fun again=>?_)
  ·simp only[bw,z7 hi,z7 (show i<m.length by omega),z7 (show (i:Int)<l.length by omega),cT,z9,eH (show i<=1000000 by omega)]
   cases decide (List.getD l i { data:={ toList:=[] } }=List.getD m i { data:={ toList:=[] } })<;>rfl
  ·simp only[z8 (show ¬ (l.length:Int)<l.length by omega),cF]
 ·rw[z8 (show ¬ (l.length:Int)=m.length by omega),z8 fun e=>h (by rw[e])]
  rfl
theorem G0 (a b:Fq):(decide (a.1=b.1)&&(decide (a.2=b.2)&&true))=decide (a=b):=by
 rw[Bool.eq_iff_iff,z10,Bool.and_true,decide_eq_true_iff,decide_eq_true_iff,decide_eq_true_iff]
 exact ⟨fun h=>Prod.ext h.1 h.2,fun h=>by rw[h];exact ⟨rfl,rfl⟩⟩
structure TabR (m w:Nat) (L:Nat->Nat->Int) (t:List Nat×List (Option (List Int))):Prop where
 len:t.1.length=m
 cell:∀i,i<m->t.2.getD (t.1.getD i 0) none=some (cb w (L i))
 inj:∀i j,i<m->j<m->t.1.getD i 0=t.1.getD j 0->i=j
section
variable {m w:Nat} {L L':Nat->Nat->Int} {t:List Nat×List (Option (List Int))}
theorem TabR.row (h:TabR m w L t) {i:Nat} (hi:i<m):ah t.2 (t.1.getD i 0)=cb w (L i):=by unfold ah;rw[h.cell i hi];rfl
theorem TabR.live (h:TabR m w L t) {i:Nat} (hi:i<m):eM t.2 (t.1.getD i 0)=true:=by unfold eM;rw[h.cell i hi];rfl
theorem TabR.id_lt (h:TabR m w L t) {i:Nat} (hi:i<m):t.1.getD i 0<t.2.length:=by
 have h1:=h.cell i hi
 by_cases h2:t.1.getD i 0<t.2.length
 ·exact h2
 ·rw[List.getD_eq_getElem?_getD,List.getElem?_eq_none (by omega)] at h1
  cases h1
theorem TabR.congr (h:TabR m w L t) (e:∀i j,i<m->j<w->L i j=L' i j):TabR m w L' t :=
 ⟨h.len,fun i hi=>by rw[h.cell i hi,cX fun j hj=>e i j hi hj],h.inj⟩
theorem TabR.all (h:TabR m w L t):(t.1.all fun x=>eM t.2 x)=true:=by
 rw[List.all_eq_true]
 intro x hx
 obtain ⟨i,hi,he⟩:=List.mem_iff_getElem.1 hx
 have hi':i<m:=by rw[<-h.len];exact hi
 have:=h.live hi'
 rw[bL hi,he] at this
 exact this
theorem TabR.map (h:TabR m w L t):t.1.map (fun x=>ah t.2 x)=sF m w L:=by
 refine List.ext_getElem (by rw[List.length_map,h.len,gP]) fun i h1 h2=>?_
 have hi:i<m:=by rw[gP] at h2;exact h2
 have hi':i<t.1.length:=by rw[h.len];exact hi
 have e1:=h.row hi
 rw[bL hi'] at e1
 rw[List.getElem_map,e1]
 have e2:=oc (w:=w) (T:=L) hi
 rw[bL h2] at e2
 exact e2.symm
theorem TabR.put (h:TabR m w L t) {i j:Nat} {x:Int} (hi:i<m) (hj:j<w) (e:∀k l,k<m->l<w->(if k=i/\l=j then x else L k l)=L' k l) :
  TabR m w L' (t.1,t.2.set (t.1.getD i 0) (some ((cb w (L i)).set j x))):=by
 refine ⟨h.len,fun k hk=>?_,h.inj⟩
 show (t.2.set (t.1.getD i 0) (some ((cb w (L i)).set j x))).getD (t.1.getD k 0) none=_
 have hl:=h.id_lt hi
 rw[List.getD_eq_getElem?_getD,List.getElem?_set]
 by_cases c:i=k
 ·subst c
  rw[if_pos rfl,if_pos hl,iU hj]
  show some _=some _
  congr 1
  refine cX fun l hl=>?_
  rw[<-e i l hi hl]
  by_cases c2:l=j
  ·rw[if_pos c2,if_pos ⟨rfl,c2⟩]
  ·rw[if_neg c2,if_neg fun h=>c2 h.2]
 ·rw[if_neg fun h'=>c (h.inj i k hi hk h'),<-List.getD_eq_getElem?_getD,h.cell k hk]
  congr 1
  refine cX fun l hl=>?_
  rw[<-e k l hk hl,if_neg fun h=>c h.1.symm]
def swp (a b i:Nat):Nat:=if i=a then b else if i=b then a else i
theorem wC (a b i:Nat):swp a b (swp a b i)=i:=by unfold swp;(repeat' split)<;>omega
theorem qm {a b i:Nat} (ha:a<m) (hb:b<m) (hi:i<m):swp a b i<m:=by unfold swp;(repeat' split)<;>omega
theorem I6 {l:List Nat} {a b i:Nat} (ha:a<l.length) (hb:b<l.length):((l.set a (l.getD b 0)).set b (l.getD a 0)).getD i 0=l.getD (swp a b i) 0:=by
 rw[List.getD_eq_getElem?_getD,List.getElem?_set,List.length_set,List.getElem?_set]
 unfold swp
 by_cases c1:i=a
 ·subst c1
  by_cases c2:b=i
  ·subst c2
   rw[if_pos rfl,if_pos ha,if_pos rfl]
   rfl
  ·rw[if_neg c2,if_pos rfl,if_pos ha,if_pos rfl]
   rfl
 ·by_cases c2:b=i
  ·subst c2
   rw[if_pos rfl,if_pos hb,if_neg c1,if_pos rfl]
   rfl
  ·rw[if_neg c2,if_neg (fun h=>c1 h.symm),if_neg c1,if_neg (fun h=>c2 h.symm),List.getD_eq_getElem?_getD]
theorem TabR.swap (h:TabR m w L t) {a b:Nat} (ha:a<m) (hb:b<m):TabR m w (fun i=>L (swp a b i)) ((t.1.set a (t.1.getD b 0)).set b (t.1.getD a 0),t.2++[]++[]):=by
 have e:=fun i=>I6 (l:=t.1) (a:=a) (b:=b) (i:=i) (by rw[h.len];exact ha) (by rw[h.len];exact hb)
 refine ⟨by rw[List.length_set,List.length_set];exact h.len,fun i hi=>?_,fun i j hi hj he=>?_⟩
 ·show (t.2++[]++[]).getD (((t.1.set a (t.1.getD b 0)).set b (t.1.getD a 0)).getD i 0) none=_
  rw[e,List.append_nil,List.append_nil,h.cell _ (qm ha hb hi)]
 ·have he':((t.1.set a (t.1.getD b 0)).set b (t.1.getD a 0)).getD i 0=((t.1.set a (t.1.getD b 0)).set b (t.1.getD a 0)).getD j 0:=he
  rw[e,e] at he'
  have:=h.inj _ _ (qm ha hb hi) (qm ha hb hj) he'
  rw[<-wC a b i,this,wC]
end
def BA (w:Nat) (N:Nat->Nat->Int):Nat->Nat->Int:=fun i j=>if j<w then N i j else if j=w+i then 1 else 0
section
variable {m w:Nat} {a b:Nat}
theorem RF {f:Nat->Int} (ha:a<m) (hb:b<m) (hab:a≠b):sz m (fun i=>f (swp a b i))=sz m f:=by
 have e:sz m (fun i=>f (swp a b i))=sz m fun i=>f i+((if i=a then f b - f a else 0)+(if i=b then f a - f b else 0)):=bE fun i hi=>by
  unfold swp
  by_cases h1:i=a
  ·subst h1
   rw[if_pos rfl,if_pos rfl,if_neg hab]
   omega
  ·rw[if_neg h1,if_neg h1]
   by_cases h2:i=b
   ·subst h2
    rw[if_pos rfl,if_pos rfl]
    omega
   ·rw[if_neg h2,if_neg h2]
    omega
 rw[e,nl,nl,eQ ha (f:=fun i=>if i=a then f b - f a else 0) (fun i _ hne=>if_neg hne),eQ hb (f:=fun i=>if i=b then f a - f b else 0) (fun i _ hne=>if_neg hne)]
 simp only[if_true]
 omega
theorem M9 {M:Nat->Nat->Int} {γ:Nat->Nat} (ha:a<m) (hb:b<m) (hab:a≠b):dc m M (fun k=>γ (swp a b k))= - dc m M γ:=by
 have e1:fg M (fun k=>γ (swp a b k))=cd (cd (fg M γ) a fun i=>M i (γ b)) b fun i=>M i (γ a):=by
  funext i k
  show M i (γ (if k=a then b else if k=b then a else k))=if k=b then M i (γ a) else if k=a then M i (γ b) else M i (γ k)
  by_cases h1:k=b
  ·subst h1
   rw[if_neg (Ne.symm hab),if_pos rfl,if_pos rfl]
  ·rw[if_neg h1,if_neg h1]
   by_cases h2:k=a
   ·rw[if_pos h2,if_pos h2]
   ·rw[if_neg h2,if_neg h2]
 have e2:fg M γ=cd (cd (fg M γ) a fun i=>M i (γ a)) b fun i=>M i (γ b):=by
  funext i k
  show M i (γ k)=if k=b then M i (γ b) else if k=a then M i (γ a) else M i (γ k)
  by_cases h1:k=b
  ·rw[if_pos h1,h1]
  ·rw[if_neg h1]
   by_cases h2:k=a
   ·rw[if_pos h2,h2]
   ·rw[if_neg h2]
 have e3:det m (fg M γ)=det m (cd (cd (fg M γ) a fun i=>M i (γ a)) b fun i=>M i (γ b)):=by rw[<-e2]
 unfold dc
 rw[e1,D2 ha hb hab,e3]
theorem Dn.Tb.swap {W:Nat} {M T:Nat->Nat->Int} {d:Int} {β:Nat->Nat} (h:Tb m W M T d β) (ha:a<m) (hb:b<m) (hab:a≠b):Tb m W M (fun i=>T (swp a b i)) d (fun i=>β (swp a b i)):=by
 refine ⟨h.dpos,fun i hi=>h.lt _ (qm ha hb hi),fun k hk j hj=>?_,?_⟩
 ·rw[RF (f:=fun i=>T i j*M k (β i)) ha hb hab]
  exact h.co k hk j hj
 ·obtain ⟨σ,h1,h2,h3⟩:=h.cr
  refine ⟨-σ,by rw[Int.neg_mul_neg];exact h1,by rw[M9 ha hb hab,Int.neg_mul_neg];exact h2,fun i hi j hj=>?_⟩
  have e:upd (fun i=>β (swp a b i)) i j=fun k=>upd β (swp a b i) j (swp a b k):=by
   funext k
   unfold upd
   by_cases c:k=i
   ·rw[if_pos c,c,if_pos rfl]
   ·rw[if_neg c,if_neg fun h=>c (by rw[<-wC a b k,h,wC])]
  rw[e,M9 ha hb hab,Int.neg_mul_neg]
  exact h3 _ (qm ha hb hi) j hj
end
structure ElBnd (m w c:Nat) (N:Nat->Nat->Int):Prop where
 hm:1<=m/\m<=1000
 hw:w<=1000
 hc:c<=w
 b:∀T d β,Tb m (w+m) (BA w N) T d β->(∀i,i<m->β i<c\/w<=β i)->∀i j,i<m->j<w+m->ab (T i j)<4611686018427387904
structure El (m w c:Nat) (N:Nat->Nat->Int) (C k:Nat) (p:Nat->Nat) (L:Nat->Nat->Int) (e:Int) (T:Nat->Nat->Int) (d:Int) (β:Nat->Nat) (s:Int):Prop where
 tb:Tb m (w+m) (BA w N) T d β
 cc:C<=c
 s1:s=1\/s= -1
 le:∀i j,i<m->j<w->L i j=s*T i j
 de:e=s*d
 km:k<=m
 bp:∀i,i<k->β i=p i/\p i<C
 inc:∀i j,i<j->j<k->p i<p j
 bs:∀i,k<=i->i<m->w<=β i
 z:∀i j,k<=i->i<m->j<C->T i j=0
section
variable {m w c:Nat} {N:Nat->Nat->Int} {C k:Nat} {p:Nat->Nat} {L:Nat->Nat->Int} {e:Int} {T:Nat->Nat->Int} {d:Int} {β:Nat->Nat} {s:Int}
theorem El.first (_:m<=1000):El m w c N 0 0 (fun _=>0) N 1 (BA w N) 1 (fun i=>w+i) 1:=by
 refine ⟨Tb.first (fun i hi=>by omega) (fun k hk i hi=>?_),Nat.zero_le _,.inl rfl,fun i j hi hj=>?_,rfl,Nat.zero_le _,fun i hi=>by omega,fun i j _ hj=>by omega,fun i _ _=>Nat.le_add_right _ _,fun i j _ _ hj=>by omega⟩
 ·unfold BA
  rw[if_neg (by omega)]
  by_cases h:k=i
  ·rw[if_pos (by omega),if_pos h]
  ·rw[if_neg (by omega),if_neg h]
 ·unfold BA
  rw[if_pos hj,Int.one_mul]
theorem El.swap (h:El m w c N C k p L e T d β s) {a b:Nat} (ha:k<=a/\a<m) (hb:k<=b/\b<m) (hab:a≠b):El m w c N C k p (fun i=>L (swp a b i)) e (fun i=>T (swp a b i)) d (fun i=>β (swp a b i)) s:=by
 have hs:∀i,i<k->swp a b i=i:=fun i hi=>by unfold swp;rw[if_neg (by omega),if_neg (by omega)]
 have hs2:∀i,k<=i->k<=swp a b i:=fun i hi=>by unfold swp;(repeat' split)<;>omega
 refine ⟨h.tb.swap ha.2 hb.2 hab,h.cc,h.s1,fun i j hi hj=>h.le _ j (qm ha.2 hb.2 hi) hj,h.de,h.km,fun i hi=>?_,h.inc,fun i h1 h2=>h.bs _ (hs2 i h1) (qm ha.2 hb.2 h2),fun i j h1 h2 h3=>h.z _ j (hs2 i h1) (qm ha.2 hb.2 h2) h3⟩
 show β (swp a b i)=p i/\_
 rw[hs i hi]
 exact h.bp i hi
theorem El.sne (h:El m w c N C k p L e T d β s):s*s=1:=by rcases h.s1 with h | h<;>rw[h]<;>rfl
theorem El.ene (h:El m w c N C k p L e T d β s):e≠0:=by
 have:=h.tb.dpos
 rw[h.de]
 rcases h.s1 with h | h<;>rw[h]<;>omega
theorem El.skip (h:El m w c N C k p L e T d β s) (hC:C<c) (hw:c<=w) (h0:∀i,k<=i->i<m->L i C=0):El m w c N (C+1) k p L e T d β s:=by
 refine ⟨h.tb,hC,h.s1,h.le,h.de,h.km,fun i hi=>⟨(h.bp i hi).1,by have:=(h.bp i hi).2;omega⟩,h.inc,h.bs,fun i j h1 h2 h3=>?_⟩
 by_cases c:j=C
 ·subst c
  have h4:=h.le i j h2 (by omega)
  rw[h0 i h1 h2] at h4
  rcases h.s1 with h5 | h5<;>rw[h5] at h4<;>omega
 ·exact h.z i j h1 h2 (by omega)
def elq (L:Nat->Nat->Int) (e:Int) (r c i j:Nat):Int:=(L i j*L r c - L i c*L r j) / e
def elL (L:Nat->Nat->Int) (e:Int) (r c:Nat):Nat->Nat->Int:=fun i j=>if i=r then L r j else elq L e r c i j
theorem El.exact (h:El m w c N C k p L e T d β s) (hk:k<m) (hC:C<w) {i j:Nat} (hi:i<m) (hne:i≠k) (hj:j<w) :
  e*elq L e k C i j=L i j*L k C - L i C*L k j/\elq L e k C i j=s*piv T d k C i j:=by
 have h1:=jr h.tb hk hi (Ne.symm hne) (show C<w+m by omega) (show j<w+m by omega)
 have h2:L i j*L k C - L i C*L k j=e*(s*piv T d k C i j):=by
  rw[h.le i j hi hj,h.le k C hk hC,h.le i C hi hC,h.le k j hk hj,h.de]
  have h3:=h.sne
  have h4:s*d*(s*piv T d k C i j)=s*s*(d*piv T d k C i j):=by grind
  rw[h4,h1,h3]
  have h5:s*T i j*(s*T k C) - s*T i C*(s*T k j)=s*s*(T k C*T i j - T i C*T k j):=by grind
  rw[h5,h3]
 have h6:elq L e k C i j=s*piv T d k C i j:=by
  unfold elq
  rw[h2,Int.mul_ediv_cancel_left _ h.ene]
 exact ⟨by rw[h6,h2],h6⟩
theorem El.pivot (h:El m w c N C k p L e T d β s) (hk:k<m) (hC:C<c) (hw:c<=w) (h0:L k C≠0) :
  El m w c N (C+1) (k+1) (upd p k C) (elL L e k C) (L k C) (nk T d k C) (sg (T k C)*T k C) (upd β k C) (s*sg (T k C)):=by
 have hT:T k C≠0:=fun h1=>h0 (by rw[h.le k C hk (by omega),h1,Int.mul_zero])
 have hs1:sg (T k C)=1\/sg (T k C)= -1:=by unfold sg;split<;>omega
 refine ⟨h.tb.step hk (by omega) hT,hC,?_,fun i j hi hj=>?_,?_,hk,fun i hi=>?_,fun i j h1 h2=>?_,fun i h1 h2=>?_,fun i j h1 h2 h3=>?_⟩
 ·rcases h.s1 with h1 | h1<;>rcases hs1 with h2 | h2<;>rw[h1,h2]<;>simp
 ·have e0:s*sg (T k C)*(sg (T k C)*(if i=k then T k j else piv T d k C i j))=s*(if i=k then T k j else piv T d k C i j):=by
   have:=FF (T k C)
   grind
  unfold nk
  rw[e0]
  unfold elL
  by_cases c:i=k
  ·rw[if_pos c,if_pos c]
   exact h.le k j hk hj
  ·rw[if_neg c,if_neg c]
   exact (h.exact hk (by omega) hi c hj).2
 ·have:=FF (T k C)
  rw[h.le k C hk (by omega)]
  grind
 ·unfold upd
  by_cases c:i=k
  ·rw[if_pos c,if_pos c]
   exact ⟨rfl,by omega⟩
  ·rw[if_neg c,if_neg c]
   have:=h.bp i (by omega)
   exact ⟨this.1,by omega⟩
 ·unfold upd
  rw[if_neg (by omega)]
  by_cases c:j=k
  ·rw[if_pos c]
   exact (h.bp i (by omega)).2
  ·rw[if_neg c]
   exact h.inc i j h1 (by omega)
 ·unfold upd
  rw[if_neg (by omega)]
  exact h.bs i (by omega) h2
 ·unfold nk
  rw[if_neg (by omega)]
  have h4:T k C*T i j - T i C*T k j=0:=by
   by_cases c:j=C
   ·subst c
    rw[Int.mul_comm]
    omega
   ·rw[h.z i j (by omega) h2 (by omega),h.z k j (Nat.le_refl _) hk (by omega)]
    simp
  unfold piv
  rw[h4]
  simp
theorem El.bound (h:El m w c N C k p L e T d β s) (hB:ElBnd m w c N):(∀i j,i<m->j<w->(L i j).natAbs<4611686018427387904)/\e.natAbs<4611686018427387904:=by
 have hb:=hB.b T d β h.tb fun i hi=>by
  by_cases h1:i<k
  ·have:=h.bp i h1
   have:=h.cc
   exact .inl (by omega)
  ·exact .inr (h.bs i (by omega) hi)
 have key:∀x:Int,ab x<4611686018427387904->(s*x).natAbs<4611686018427387904:=fun x hx=>by
  unfold ab at hx
  rcases h.s1 with h1 | h1<;>rw[h1]<;>omega
 refine ⟨fun i j hi hj=>?_,?_⟩
 ·rw[h.le i j hi hj]
  exact key _ (hb i j hi (by omega))
 ·rw[h.de]
  refine key _ ?_
  have hm:=hB.hm
  have:=hb 0 (β 0) (by omega) (h.tb.lt 0 (by omega))
  rwa [h.tb.basis (show 0<m by omega)] at this
end
def IQ (n:Nat) (N:Nat->Nat->Int) (b:Nat->Int):Nat->Nat->Int:=fun i j=>if j<n then N i j else b i
def EqN (m n:Nat) (N:Nat->Nat->Int) (b:Nat->Int) (x:Nat->Rat):Prop:=∀i,i<m->(sq n fun j=>((N i j:Int):Rat)*x j)=((b i:Int):Rat)
section
variable {m n:Nat} {N:Nat->Nat->Int} {b:Nat->Int} {k:Nat} {p:Nat->Nat} {L:Nat->Nat->Int} {e:Int} {T:Nat->Nat->Int} {d:Int} {β:Nat->Nat} {s:Int}
theorem El.row_eq (h:El m (n+1) n (IQ n N b) n k p L e T d β s) {x:Nat->Rat} (hx:EqN m n N b x) {i:Nat} (hi:i<m):(sq n fun j=>((T i j:Int):Rat)*x j)=((T i n:Int):Rat):=by
 have hr:∀j,j<n+1+m->T i j=sz m fun q=>T i (n+1+q)*BA (n+1) (IQ n N b) q j:=fun j hj =>
  h.tb.rows (a:=fun q=>n+1+q) (fun q hq=>by omega) (fun q hq r hr=>by
   unfold BA
   rw[if_neg (by omega)]
   by_cases c:q=r
   ·rw[if_pos (by omega),if_pos c]
   ·rw[if_neg (by omega),if_neg c]) hi hj
 have h1:∀j,j<n->((T i j:Int):Rat)=sq m fun q=>((T i (n+1+q):Int):Rat)*((N q j:Int):Rat):=fun j hj=>by
  rw[hr j (by omega),<-tD]
  refine dh fun q _=>?_
  unfold BA IQ
  rw[if_pos (by omega),if_pos hj,Rat.intCast_mul]
 have h2:((T i n:Int):Rat)=sq m fun q=>((T i (n+1+q):Int):Rat)*((b q:Int):Rat):=by
  rw[hr n (by omega),<-tD]
  refine dh fun q _=>?_
  unfold BA IQ
  rw[if_pos (by omega),if_neg (by omega),Rat.intCast_mul]
 have h3:(sq n fun j=>((T i j:Int):Rat)*x j)=sq n fun j=>sq m fun q=>((T i (n+1+q):Int):Rat)*(((N q j:Int):Rat)*x j):=dh fun j hj=>by
  rw[h1 j hj,Rat.mul_comm,<-qf]
  exact dh fun q _=>by grind
 rw[h3,<-AA,h2]
 refine dh fun q hq=>?_
 rw[qf,hx q hq]
theorem El.row_val (h:El m (n+1) n (IQ n N b) n k p L e T d β s) {i:Nat} (hi:i<m):L i n=0↔T i n=0:=by
 rw[h.le i n hi (by omega)]
 rcases h.s1 with h1 | h1<;>rw[h1]<;>omega
theorem El.none (h:El m (n+1) n (IQ n N b) n k p L e T d β s) {i:Nat} (hk:k<=i) (hi:i<m) (h0:L i n≠0) (x:Nat->Rat):¬ EqN m n N b x:=fun hx=>by
 have h1:=h.row_eq hx hi
 rw[lw fun j hj=>by rw[h.z i j hk hi hj];exact Rat.zero_mul _] at h1
 exact h0 ((h.row_val hi).2 (Rat.intCast_inj.1 h1.symm))
end
def ep (s:Sy) (f:Int->Int):Sy:=(s.1.map fun b=>(b.1,f b.2),s.2)
section
variable {s:Sy} {f:Int->Int}
theorem qn:(ep s f).1.length=s.1.length:=by unfold ep;rw[List.length_map]
theorem xh:(ep s f).1.map (·.fst)=s.1.map (·.fst):=by
 unfold ep
 rw[List.map_map]
 rfl
theorem BN {i:Nat} (h:i<s.1.length):(ep s f).1.getD i bk0=((s.1.getD i bk0).1,f (s.1.getD i bk0).2):=by
 unfold ep
 exact nV (f:=fun b:Bk=>(b.1,f b.2)) (d:=bk0) h bk0
theorem zq (n:ByteArray):∀(l:List Bk) (i:Int),iY (fun b:Bk=>decide (b.1=n)) (l.map fun b=>(b.1,f b.2)) i=iY (fun b:Bk=>decide (b.1=n)) l i
 | [],_=>rfl
 | b ::l,i=>by
  simp only[List.map_cons,iY]
  rw[zq n l (i+1)]
theorem Pb (n:ByteArray):fbI (ep s f) n=fbI s n:=zq n s.1 0
theorem IU (h:Hd) (e:Bool):kU (ep s f) h e=kU s h e:=by
 unfold kU
 rw[Pb]
theorem Hl (r:Rp):pA (ep s f) r=pA s r:=by
 unfold pA
 simp only[IU]
theorem DY (i:Nat):gN (ep s f) i=gN s i:=by
 unfold gN
 rw[xh,Hl]
 rfl
theorem FJ {i:Nat} (h:i<s.1.length) (hf:0<=f (s.1.getD i bk0).2/\f (s.1.getD i bk0).2<=16777216) (hb:mA s i=true):mA (ep s f) i=true:=by
 unfold mA oO at hb ⊢
 rw[xh,BN h]
 simp only[z10] at hb ⊢
 exact ⟨hb.1,hb.2.1,z7 hf.1,z7 hf.2⟩
theorem Fu (hv:fq s=true) (hf:∀i,i<s.1.length->0<=f (bwS s i)/\f (bwS s i)<=16777216):fq (ep s f)=true:=by
 unfold fq at hv ⊢
 rw[z10,z10,z10,List.all_eq_true,List.all_eq_true] at hv ⊢
 obtain ⟨h1,h2,h3,h4⟩:=hv
 refine ⟨by rw[qn];exact h1,fun i hi=>?_,fun i hi=>?_,h4⟩
 ·rw[qn] at hi
  obtain ⟨k,hk,rfl⟩:=List.mem_range'.1 hi
  exact FJ (by omega) (hf _ (by omega)) (h2 _ hi)
 ·rw[DY]
  exact h3 i hi
theorem O6 {i:Nat} (h:i<s.1.length):bnS (ep s f) i=bnS s i:=by unfold bnS;rw[BN h]
theorem G9 {i:Nat} (h:i<s.1.length):bwS (ep s f) i=f (bwS s i):=by
 show ((ep s f).1.getD i bk0).2=_
 rw[BN h]
 rfl
theorem AK {i:Nat} (h:i<s.1.length) (k:Nat):Mx (ep s f) i k=Mx s i k:=by
 unfold Mx
 rw[O6 h]
 rfl
theorem Gq {x:Nat->Rat}:EqS (ep s f) x↔∀i,i<s.1.length->(sq s.2.length fun j=>((Mx s i j:Int):Rat)*x j)=((f (bwS s i):Int):Rat):=by
 unfold EqS
 rw[qn]
 constructor
 ·intro h i hi
  have h1:=h i hi
  rw[G9 hi] at h1
  rw[<-h1]
  exact dh fun j _=>by rw[AK hi]
 ·intro h i hi
  rw[G9 hi,<-h i hi]
  exact dh fun j _=>by rw[AK hi]
theorem DF {x:Nat->Rat}:EqS (ep s fun w=>w*2) x↔EqS s fun j=>x j / 2:=by
 rw[Gq]
 have e:∀i,(sq s.2.length fun j=>((Mx s i j:Int):Rat)*(x j / 2))=(1 / 2)*sq s.2.length fun j=>((Mx s i j:Int):Rat)*x j:=fun i=>by
  rw[<-qf]
  exact dh fun j _=>by grind
 have c:∀i,((bwS s i*2:Int):Rat)=2*((bwS s i:Int):Rat):=fun i=>by
  rw[Rat.intCast_mul]
  have:((2:Int):Rat)=2:=rfl
  rw[this]
  grind
 constructor
 ·intro h i hi
  have h1:=h i hi
  rw[e,h1]
  show (1:Rat) / 2*((bwS s i*2:Int):Rat)=_
  rw[c]
  grind
 ·intro h i hi
  have h1:=h i hi
  rw[e] at h1
  show _=((bwS s i*2:Int):Rat)
  rw[c,<-h1]
  grind
end
theorem MZ {s:Sy} (hv:ValidS s):dk s=some s:=by
 have hb:=hv.bl
 have hr:=hv.rl
 simp only[dk,pv,fY (show (0+s.1.length)*24<=140737488355328 by omega),cT]
 refine (cW s.2.length (by omega) (fun i=>((i:Int),s.1,s.2.take i,PUnit.unit)) (some (s.1,s.2.take s.2.length)) rfl (fun again i hi=>?_) (fun again=>?_)).trans ?_
 ·have hh:=hv.hl i hi
  unfold hsS at hh
  have hl:(s.2.take i).length<=6:=by rw[List.length_take];omega
  simp only[z7 (show (i:Int)<s.2.length by omega),bw,z7 hi,cT,z9,eH (show i<=1000000 by omega)]
  rw[show List.getD s.2 i ({ data:={ toList:=[] } },[],false)=s.2.getD i rp0 from rfl,fY (show (0+(s.2.getD i rp0).2.1.length)*40<=140737488355328 by omega),cT,fY (show ((s.2.take i).length+1)*48<=140737488355328 by omega),cT,
   show s.2.take i++s.2.getD i rp0 ::[]=s.2.take (i+1) from ve rp0 hi]
 ·simp only[z8 (show ¬ (s.2.length:Int)<s.2.length by omega),cF]
 ·rw[List.take_length]
def tJ (f:Int->Int) (i:Nat) (l:List Bk):List Bk:=cb l.length fun k=>if k<i then ((l.getD k bk0).1,f (l.getD k bk0).2) else l.getD k bk0
theorem M7 {f:Int->Int} {i:Nat} {l:List Bk}:(tJ f i l).length=l.length:=bj
theorem Ec {f:Int->Int} {i:Nat} {l:List Bk} (h:i<l.length):(tJ f i l).getD i bk0=l.getD i bk0:=by
 unfold tJ
 rw[bO h,if_neg (Nat.lt_irrefl i)]
theorem Ce {f:Int->Int} {i:Nat} {l:List Bk} (h:i<l.length):(tJ f i l).set i ((l.getD i bk0).1,f (l.getD i bk0).2)=tJ f (i+1) l:=by
 unfold tJ
 rw[iU h]
 refine cX fun k hk=>?_
 by_cases c:k=i
 ·subst c
  rw[if_pos rfl,if_pos (by omega)]
 ·rw[if_neg c]
  by_cases c2:k<i
  ·rw[if_pos c2,if_pos (by omega)]
  ·rw[if_neg c2,if_neg (by omega)]
theorem Ap {f:Int->Int} {l:List Bk}:l=tJ f 0 l:=by
 unfold tJ
 refine List.ext_getElem bj.symm fun i h1 h2=>?_
 rw[rb,if_neg (by omega),bL h1]
theorem LC {f:Int->Int} {l:List Bk}:tJ f l.length l=l.map fun b=>(b.1,f b.2):=by
 unfold tJ
 refine List.ext_getElem (by rw[bj,List.length_map]) fun i h1 h2=>?_
 have h3:i<l.length:=by rw[bj] at h1;exact h1
 rw[rb,if_pos h3,bL h3,List.getElem_map]
section
variable {s:Sy} {c:List Int}
theorem GV {L:Lin} {t:Rat} {x:Nat->Rat}:L.val (fun j=>t*x j)=t*L.val x:=by
 unfold Lin.val
 rw[<-qf]
 exact dh fun j _=>by grind
theorem CU (hc:c.length=s.2.length) {x:Nat->Rat} (h:(ap (cu s c)).Feas x):(ap (cu (ep s fun w=>w*2) c)).Feas fun j=>2*x j:=by
 obtain ⟨h1,h2⟩:=(hO hc).1 h
 refine (hO (s:=ep s fun w=>w*2) hc).2 ⟨fun j hj=>?_,DF.2 ?_⟩
 ·have:=h1 j hj
  grind
 ·have e:(fun j=>2*x j / 2)=x:=by
   funext j
   grind
  rw[e]
  exact h2
theorem zJ (hc:c.length=s.2.length) {x:Nat->Rat} (h:(ap (cu (ep s fun w=>w*2) c)).Feas x):(ap (cu s c)).Feas fun j=>(1 / 2)*x j:=by
 obtain ⟨h1,h2⟩:=(hO (s:=ep s fun w=>w*2) hc).1 h
 refine (hO hc).2 ⟨fun j hj=>?_,?_⟩
 ·have:=h1 j hj
  grind
 ·have e:(fun j=>1 / 2*x j)=fun j=>x j / 2:=by
   funext j
   grind
  rw[e]
  exact DF.1 h2
theorem Dh (hc:c.length=s.2.length) {r:Nat->Rat}:(ap (cu s c)).Ray r↔(∀j,j<s.2.length->0<=r j)/\(∀i,i<s.1.length->(sq s.2.length fun j=>((Mx s i j:Int):Rat)*r j)=0)/\(ap (cu s c)).val r<0:=by
 rw[wy s c hc]
 have er:∀i,i<s.1.length->(⟨s.2.length,s.1.length,fun k j=>((cb s.1.length (js s)).getD k rw0).1.getD j 0,fun k=>((cb s.1.length (js s)).getD k rw0).2.2,fun j=>c.getD j 0,fun k=>((cb s.1.length (js s)).getD k rw0).2.1⟩:Lin).row r i=sq s.2.length fun j=>((Mx s i j:Int):Rat)*r j:=fun i hi=>by
  unfold Lin.row
  refine dh fun j hj=>?_
  simp only[bO hi,js,bO hj]
 have hk:∀i,i<s.1.length->((cb s.1.length (js s)).getD i rw0).2.1=3:=fun i hi=>by rw[bO hi];rfl
 constructor
 ·rintro ⟨h1,h2,h3,h4⟩
  refine ⟨h1,fun i hi=>?_,h4⟩
  have a1:=h2 i hi (by simp only[hk i hi];omega)
  have a2:=h3 i hi (by simp only[hk i hi];omega)
  rw[er i hi] at a1 a2
  exact Rat.le_antisymm a1 a2
 ·rintro ⟨h1,h2,h4⟩
  refine ⟨h1,fun i hi _=>?_,fun i hi _=>?_,h4⟩
  ·rw[er i hi,h2 i hi]
   exact Rat.le_refl
  ·rw[er i hi,h2 i hi]
   exact Rat.le_refl
theorem CM {f:Int->Int} (hc:c.length=s.2.length) {r:Nat->Rat}:(ap (cu (ep s f) c)).Ray r↔(ap (cu s c)).Ray r:=by
 rw[Dh hc,Dh (s:=ep s f) hc]
 have e:∀i,i<s.1.length->(sq (ep s f).2.length fun j=>((Mx (ep s f) i j:Int):Rat)*r j)=sq s.2.length fun j=>((Mx s i j:Int):Rat)*r j:=fun i hi=>dh fun j _=>by rw[AK hi]
 constructor
 ·rintro ⟨h1,h2,h3⟩
  exact ⟨h1,fun i hi=>by rw[<-e i hi];exact h2 i (by rw[qn];exact hi),h3⟩
 ·rintro ⟨h1,h2,h3⟩
  refine ⟨h1,fun i hi=>?_,h3⟩
  rw[qn] at hi
  rw[e i hi]
  exact h2 i hi
theorem zh (hc:c.length=s.2.length) {x x' y y':Nat->Rat} (hx:(ap (cu s c)).Feas x) (hy:(ap (cu s c)).Dual y) (hv:(ap (cu s c)).rhs y=(ap (cu s c)).val x)
  (hx':(ap (cu (ep s fun w=>w*2) c)).Feas x') (hy':(ap (cu (ep s fun w=>w*2) c)).Dual y') (hv':(ap (cu (ep s fun w=>w*2) c)).rhs y'=(ap (cu (ep s fun w=>w*2) c)).val x') :
  (ap (cu (ep s fun w=>w*2) c)).val x'=2*(ap (cu s c)).val x:=by
 have h1:=Lin.weak (CU hc hx) hy'
 have h2:=Lin.weak (zJ hc hx') hy
 have e:∀z,(ap (cu (ep s fun w=>w*2) c)).val z=(ap (cu s c)).val z:=fun z=>rfl
 rw[hv',e,e,GV] at h1
 rw[hv,GV] at h2
 rw[e]
 grind
theorem vR {f:Int->Int} {z:Nat->Bool}:∀k,iP (ep s f) z k=iP s z k
 | 0=>rfl
 | k+1=>by
  simp only[iP]
  rw[vR k]
  rfl
end
theorem Kj (a b:Fq):(decide (a.1=b.1)&&decide (a.2=b.2))=decide (a=b):=by
 rw[<-G0,Bool.and_true]
end Go.Proofs.YtfknoaclabfdlaaGreat

namespace Go.Proofs.YtfknoaclabfdlaaGreat
noncomputable section
open Tryz Dn Dn.Sh
set_option maxRecDepth 100000
def w31:WCtr:=⟨[T25],66,T66,.sl T75,fun x=>dk x.1⟩
theorem UW (lp:Lp) (jn:Jn):∀(x:TsS w31.as),pv lp jn x.1=Q0 lp jn (cx [] [(134,bJ)]) ao 4 31 f31 w31 x:=fun x=>by kernel_rfl
theorem Ty:w31.ok prog 31:=WCtr.of_den (au (bV)) aW (hl:=ao) (d:=4) func31 rfl (by decide) (UW lpK jnK)
def Nh:Nat->Option Dn.Hd
 | 7=>some ⟨[(39,false,[.d i64])],[],[(3,some 0,.row 66 T66),(4,some 0,.row 66 T66)]⟩
 | _=>none
def O1:Nat->List Nat
 | 2000012=>[3,4]
 | _=>[]
def Gi:FuncId->Dn.Hint
 | 5=>{loop:=Nh,join:=LO,thaw:=O1}
 | n=>ao n
def iQ (lp:Lp) (jn:Jn) (aj:t32) (bh:t35) (aE:t19) (aF:t21) (aK:t9) (be:t10) (bn:t13) (bo:t27) (aR:t29) (dk:t31) (br:t33) (x0:(List (ByteArray×Int))×List (ByteArray×(List (ByteArray×Int×Int×Int))×Bool)):Option Bool :=
 aa aK fun (t:Bool)=>bif !t then some false else aa (be x0 []) fun (t:Bool) =>
 let v16:Bool:=!t;
 let v17:Bool:=!v16;
 let v18:Bool:=!v17||v17;bif v18 then aa (bif v17 then bn x0 else some false) fun (t:Bool)=>bif v18 then bif v16||v17 then bif bif v16 then true else !t then some true else aa (dk x0) fun (t:List (ByteArray×Int)×List (ByteArray×List (ByteArray×Int×Int×Int)×Bool))=>aa (dk x0) fun (t_1:List (ByteArray × Int)×List (ByteArray×List (ByteArray×Int×Int×Int)×Bool))=>lp (Int×List (ByteArray×Int)×List (ByteArray×Int)×PUnit) Bool (fun (again:Int×List (ByteArray × Int)×List (ByteArray×Int)×PUnit->Option Bool) (x:Int×List (ByteArray×Int)×List (ByteArray×Int)×PUnit) =>
 let v24:Bool:=inB x.1 x.2.2.1.length;
 let v25:Bool:=Nat.ble (Nat.succ x.1.toNat) x.2.2.1.length;
 let v26:ByteArray×Int:=x.2.2.1.getD x.1.toNat ({ data:={ toList:=[] } },(0:Int));
 let v27:List (ByteArray×Int)×List (ByteArray×List (ByteArray×Int×Int×Int)×Bool):=(x.2.2.1,t_1.2);bif decide (x.1<(↑x0.1.length:Int)) then bif inB x.1 x.2.1.length then bif Nat.ble (Nat.succ x.1.toNat) x.2.1.length then bif v24 then bif v25 then bif v24 then bif v25 then again (IntKind.wrap IntKind.i64 (x.1+(1:Int)),x.2.1.set x.1.toNat ((x.2.1.getD x.1.toNat ({ data:={ toList:=[] } },(0:Int))).1,(0:Int)),x.2.2.1.set x.1.toNat (v26.1,IntKind.wrap .i64 (v26.2*(2:Int))),PUnit.unit) else none else none else none else none else none else none else aa (aE (x.2.1,t.2)) fun (t:List (Int×Int)×Int×PUnit) =>
 let v29:Bool:=!decide (t.2.1=(0:Int));
 let v30:Bool:=!v29;
 let v31:Bool:=!v30||v30;
 let v32:Bool:=bif v29 then true else !decide ((↑t.1.length:Int)=(↑x0.2.length:Int));
 let v33:Bool:=!v32;jn PUnit Bool (fun (_:PUnit)=>aa (aE x0) fun (t:List (Int×Int)×Int×PUnit) =>
 let v36:Bool:=decide (t.2.1=(5:Int));
 let v37:Bool:=!v36;
 let v38:Bool:=!decide (t.2.1=(0:Int));
 let v39:Bool:=!v38;aa (aE v27) fun (t_2:List (Int×Int)×Int×PUnit) =>
 let v41:Bool:=bif v36 then true else decide (t_2.2.1=(5:Int));
 let v42:Bool:=!v41;
 let v43:Bool:=decide (t.2.1=t_2.2.1);
 let v44:Bool:=!v43||v43;bif !v37||v37 then bif v36||v37 then bif !v42||v42 then bif v41||v42 then bif bif v41 then true else decide (t_2.2.1=(1:Int)) then some true else bif !v39||v39 then bif v38||v39 then bif bif v38 then true else !decide (t_2.2.1=(0:Int)) then bif v44 then bif v44 then some (bif v43 then decide (t.2.1=(22 : Int)) else false) else none else none else aa (bo t.1) fun (t:(Int×Int)×Int×PUnit) =>
 let v46:Bool:=!decide (t.2.1=(0:Int));
 let v47:Bool:=!v46;aa (bo t_2.1) fun (t_3:(Int×Int)×Int×PUnit) =>
 let v49:Bool:=bif v46 then true else !decide (t_3.2.1=(0:Int));
 let v50:Bool:=!v49;aa (bh t.1 t.1) fun (t:(Int×Int)×Int×PUnit) =>
 let v52:Bool:=bif v49 then true else !decide (t.2.1=(0:Int));
 let v53:Bool:=!v52;
 let v54:Bool:=!v53||v53;bif !v47||v47 then bif v46||v47 then bif !v50||v50 then bif v49||v50 then bif v54&&v54 then bif v52||v53 then bif bif v52 then true else !(decide (t_3.1.1=t.1.1)&&(decide (t_3.1.2=t.1.2)&&true)) then some false else aa (aF x0) fun (t:List ByteArray×Int×PUnit) =>
 let v56:Bool:=!decide (t.2.1=(0:Int));
 let v57:Bool:=!v56;aa (aF v27) fun (t_4:List ByteArray×Int×PUnit) =>
 let v59:Bool:=bif v56 then true else !decide (t_4.2.1=(0:Int));
 let v60:Bool:=!v59;
 let v61:Bool:=!v60||v60;bif !v57||v57 then bif v56||v57 then bif v61&&v61 then aa (bif v60 then aR t.1 t_4.1 else some false) fun (t:Bool)=>bif v59 || v60 then some (bif v59 then true else t) else none else none else none else none else none else none else none else none else none else none else none else none else none else none else none else none) fun (j:PUnit->Option Bool)=>bif !decide (t.2.1=(5:Int)) then bif v31 then bif v31 then bif v31 then bif v31&&v31 then bif v29||v30 then bif !v33||v33 then aa (bif v33 then aj t.1 fun (x:(Int×Int)×PUnit)=>br x.1 else some false) fun (t:Bool)=>bif v32||v33 then bif bif v32 then true else t then some false else j PUnit.unit else none else none else none else none else none else none else none else j PUnit.unit) ((0:Int),t.1,t_1.1,PUnit.unit) else none else none else none
def jB (x0:(List (ByteArray×Int))×List (ByteArray×(List (ByteArray×Int×Int×Int))×Bool)):Option Bool:=iQ lpK jnK aj bh aE aF aK be bn bo aR dk br x0
def c5w:Ctr:=⟨[T25],[],[],.one .bool,fun x _ _=>jB x.1⟩
theorem e5w (lp:Lp) (jn:Jn) (aj:t32) (bh:t35) (aE:t19) (aF:t21) (aK:t9) (be:t10) (bn:t13) (bo:t27) (aR:t29) (dk:t31) (br:t33):∀(x:TsS c5w.as) (F:TsF c5w.fs) (y:TsS c5w.cs),iQ lp jn aj bh aE aF aK be bn bo aR dk br x.1=cn lp jn (SB [(31,⟨[T25],66,T66,.sl T75,fun x=>dk x.1⟩)] (cx [(33,⟨[T49],[],[],.one .bool,fun x _ _=>br x.1⟩),(29,k29 aR),(27,k27 bo),(13,k13 bn),(10,k10 be),(9,k9 aK),(21,k21 aF),(19,k19 aE),(35,k35 bh),(32,k32 aj)] [(134,bJ)])) Gi 4 5 f5 c5w x F y:=fun x F y=>by kernel_rfl
theorem Uf:c5w.ok prog 5:=Ctr.of_den (PW (au (ai (ai (ai (ai (ai (ai (ai (ai (ai (ai (bV) (by kernel_rfl) QS) (by kernel_rfl) RB) (by kernel_rfl) SF) (by kernel_rfl) TM) (by kernel_rfl) ok9) (by kernel_rfl) Vq) (by kernel_rfl) VK) (by kernel_rfl) UL) (by kernel_rfl) VB) (by kernel_rfl) Uv)) (Ih (by kernel_rfl) Ty M2)) aW (hl:=Gi) (d:=4) func5 rfl (by decide) (e5w lpK jnK aj bh aE aF aK be bn bo aR dk br)
end
end Go.Proofs.YtfknoaclabfdlaaGreat

namespace Go.Proofs.YtfknoaclabfdlaaGreat
open Tryz Dn Dn.Sh
theorem Ra (n:Int):bF n=some (n,1):=id rfl
theorem EO (s:Sy):jB s=some true:=by
 have hi:∀e0:Bool,(!e0||e0)=true:=fun e0=>by cases e0<;>rfl
 have hj:∀e0:Bool,(e0||!e0)=true:=fun e0=>by cases e0<;>rfl
 simp only[jB,iQ,H6,QH,af,Bool.not_true,cF,List.length_nil,z7 (show 0<=10 by omega),Bool.and_true,Lf,ux]
 cases hs:oW s with
 | false=>rfl
 | true =>
  have hl:=FG hs
  cases hv:fq s with
  | false=>rfl
  | true =>
   have hV:=gY hv
   have hb:=hV.bl
   have hr:=hV.rl
   simp only[MZ hV,af,Bool.not_true,Bool.not_false,Bool.or_true,cT,cF]
   refine cW s.1.length (by omega) (fun i=>((i:Int),tJ (fun _=>0) i s.1,tJ (fun w=>w*2) i s.1,PUnit.unit)) _ (by rw[<-Ap,<-Ap];rfl) (fun again i hi=>?_) (fun again=>?_)
   ·have hw:=hV.wt i hi
    have hwi:0<=(s.1.getD i bk0).2/\(s.1.getD i bk0).2<=16777216:=hw
    simp only[M7,bw,z9,z7 (show (i:Int)<s.1.length by omega),z7 hi,dw (show Nat.succ i<=s.1.length from hi),cT,eH (show i<=1000000 by omega),
     show List.getD (tJ (fun _=>0) i s.1) i ({ data:={ toList:=[] } },(0:Int))=s.1.getD i bk0 from Ec hi,show List.getD (tJ (fun w=>w*2) i s.1) i ({ data:={ toList:=[] } },(0:Int))=s.1.getD i bk0 from Ec hi,
     bi (show -9223372036854775808<=(s.1.getD i bk0).2*2 by omega) (by omega)]
    rw[Ce (f:=fun _=>0) hi,Ce (f:=fun w=>w*2) hi]
   ·simp only[z8 (show ¬ (s.1.length:Int)<s.1.length by omega),cF,LC]
    rw[show (s.1.map fun b=>(b.1,(0:Int)),s.2)=ep s fun _=>0 from rfl,show (s.1.map fun b=>(b.1,b.2*2),s.2)=ep s fun w=>w*2 from rfl]
    have hvN:fq (ep s fun _=>0)=true:=Fu hv fun i _=>by omega
    have hVN:=gY hvN
    obtain ⟨an,en,n1,n2⟩:=AX (xb hVN)
    have hF0:(ap (cu (ep s fun _=>0) (gV (ep s fun _=>0)))).Feas fun _=>0:=(hO fe).2 ⟨fun _ _=>Rat.le_refl,Gq.2 fun i _=>lw fun j _=>Rat.mul_zero _⟩
    rw[xP hvN n1,af]
    have hN:∀(o:Option Bool),(en=5->(o=some true))->((en=0/\an.2.1.length=s.2.length/\aj an.2.1 (fun x=>br x.1)=some false)->o=some true)->o=some true:=fun o h5 h0=>by
     rcases n2 with ⟨h,_⟩ | ⟨_,_,_,y,hy⟩ | ⟨_,_,_,_,r,hr1⟩ | ⟨h,_,v,h1,_,hlen,hok,_,_,hx,⟨y,hy,hyv⟩,hval⟩
     ·exact h5 h
     ·exact (hy.none hF0).elim
     ·exact (pf hr1).elim
     ·have hlen':an.2.1.length=s.2.length:=hlen.trans fe
      refine h0 ⟨h,hlen',?_⟩
      have h3:=Lin.weak hF0 hy
      rw[hyv,<-hval,tw,tw,lw fun _ _=>rfl] at h3
      obtain ⟨hp,_⟩:=(hO fe).1 hx
      have hz:∀j,j<an.2.1.length->vX an.2.1 j=0:=fun j hj=>by
       have hj':j<s.2.length:=by omega
       have h4:vX an.2.1 j<=sq s.2.length (vX an.2.1):=by
        have h5:=xK (n:=s.2.length) (f:=fun i=>if i=j then vX an.2.1 j else 0) (g:=vX an.2.1) fun i hi=>by
         by_cases c:i=j
         ·rw[if_pos c,c];exact Rat.le_refl
         ·rw[if_neg c];exact hp i hi
        rw[Gf hj' (f:=fun i=>if i=j then vX an.2.1 j else 0) fun i _ hne=>if_neg hne,if_pos rfl] at h5
        exact h5
       exact Rat.le_antisymm (Rat.le_trans h4 h3) (hp j hj')
      rw[Qa (p:=fun a=>!decide (a=(0,1))) (by omega) fun a _=>by
       simp only[br,iz,Ra,af,G0]]
      congr 1
      rw[List.any_eq_false]
      intro a ha
      obtain ⟨j,hj,he⟩:=List.mem_iff_getElem.1 ha
      have h6:=hz j hj
      unfold vX at h6
      rw[bL hj,he] at h6
      have h7:a=(0,1):=Qy (hok a ha) (by decide) (by rw[h6];rfl)
      rw[h7]
      simp
    obtain ⟨a,e,h1,h2⟩:=AX (xb hV)
    have main:(aa (aE s) fun (t:List (Int×Int)×Int×PUnit)=>aa (aE (ep s fun w=>w*2)) fun (t_2:List (Int×Int)×Int×PUnit) =>
      bif bif bif decide (t.2.1=5) then true else decide (t_2.2.1=5) then true else decide (t_2.2.1=1) then some true
      else bif bif !decide (t.2.1=0) then true else !decide (t_2.2.1=0) then some (bif decide (t.2.1=t_2.2.1) then decide (t.2.1=22) else false)
      else aa (bo t.1) fun (q:(Int×Int)×Int×PUnit)=>aa (bo t_2.1) fun (q_3:(Int×Int)×Int×PUnit)=>aa (bh q.1 q.1) fun (q_4:(Int×Int)×Int×PUnit) =>
       bif bif bif bif !decide (q.2.1=0) then true else !decide (q_3.2.1=0) then true else !decide (q_4.2.1=0) then true else !decide (q_3.1=q_4.1) then some false
       else aa (aF s) fun (m:List ByteArray×Int×PUnit)=>aa (aF (ep s fun w=>w*2)) fun (m_4:List ByteArray×Int×PUnit) =>
        aa (bif !(bif !decide (m.2.1=0) then true else !decide (m_4.2.1=0)) then aR m.1 m_4.1 else some false) fun (t:Bool) =>
         some (bif (bif !decide (m.2.1=0) then true else !decide (m_4.2.1=0)) then true else t))=some true:=by
     rw[xP hv h1,af]
     cases hvT:fq (ep s fun w=>w*2) with
     | false =>
      rw[Iy hvT (show (ep s fun w=>w*2).2.length<=1000000 by show s.2.length<=1000000;omega),af]
      generalize decide (e=5)=c5
      cases c5<;>rfl
     | true =>
      have hVT:=gY hvT
      obtain ⟨b,f,t1,t2⟩:=AX (xb hVT)
      rw[xP hvT t1,af]
      have hones:gV (ep s fun w=>w*2)=gV s:=rfl
      rw[hones] at t2
      rcases h2 with ⟨rfl,_⟩ | ⟨rfl,rfl,_,y,hy⟩ | ⟨_,_,_,_,r,hr1⟩ | ⟨rfl,_,v,hv1,hfv,hlen,hok,_,hsum,hx,⟨y,hy,hyv⟩,hval⟩
      ·rfl
      ·rcases t2 with ⟨rfl,_⟩ | ⟨rfl,rfl,_⟩ | ⟨_,_,_,_,r,hr1⟩ | ⟨_,_,v',_,_,_,_,_,_,hx',_⟩
       ·rfl
       ·rfl
       ·exact (pf (s:=ep s fun w=>w*2) hr1).elim
       ·exact (hy.none (zJ fe hx')).elim
      ·exact (pf hr1).elim
      ·rcases t2 with ⟨rfl,_⟩ | ⟨_,_,_,y',hy'⟩ | ⟨_,_,_,_,r,hr1⟩ | ⟨rfl,_,v',hv1',hfv',hlen',hok',_,hsum',hx',⟨y',hy',hyv'⟩,hval'⟩
       ·rfl
       ·exact (hy'.none (CU fe hx)).elim
       ·exact (pf (s:=ep s fun w=>w*2) hr1).elim
       ·have hvv:v'=2*v:=by
         rw[<-hval',<-hval]
         exact zh fe hx hy (by rw[hyv,hval]) hx' hy' (by rw[hyv',hval'])
        have hla:a.2.1.length=s.2.length:=hlen.trans fe
        have hlb:b.2.1.length=s.2.length:=hlen'.trans fe
        have hS:∀{x:List Fq},x.length=s.2.length->(∀z ∈ x,okF z)->(jN (gV s) x 0).isSome=true->∃q,q=sq x.length (vX x)/\fy q/\bo x=some (prQ q,0,()):=fun {x} hxl hxo hxs=>by
         rcases FE (x:=x) (by omega) hxo with h | ⟨q,f1,f2,f3⟩
         ·exfalso
          rw[G1 (by omega) hxo] at h
          have:gV s=List.replicate x.length 1:=by rw[hxl];rfl
          rw[this] at hxs
          cases hc:jN (List.replicate x.length 1) x 0 with
          | none=>rw[hc] at hxs;cases hxs
          | some q=>rw[hc] at h;simp[RX] at h
         ·exact ⟨q,f2,f1,f3⟩
        obtain ⟨q1,e1,f1,s1⟩:=hS hla hok hsum
        obtain ⟨q2,e2,f2,s2⟩:=hS hlb hok' hsum'
        have hq1:q1=v:=by
         rw[e1,hla,<-tw,hval]
        have hq2:q2=v':=by
         rw[e2,hlb,<-tw]
         exact hval'
        have hA:=MF (wI f1) (wI f1)
        rw[BP] at hA
        have hqq:q1+q1=q2:=by rw[hq1,hq2,hvv];grind
        rw[hqq] at hA
        have hA':bh (prQ q1) (prQ q1)=some (prQ q2,0,()):=by
         rw[hA]
         unfold we
         rw[if_pos f2]
        obtain ⟨A,E,hAE⟩:=Qk (P:=fun k=>cu s (fR s k (-1))) (n:=s.2.length) fun k _=>CK hV (by rfl)
        obtain ⟨B,G,hBG⟩:=Qk (P:=fun k=>cu (ep s fun w=>w*2) (fR s k (-1))) (n:=s.2.length) fun k _=>CK (s:=ep s fun w=>w*2) hVT (by rfl)
        have feasO:∀c:List Int,c.length=s.2.length->(ap (cu s c)).Feas (vX a.2.1):=fun c hc=>(hO hc).2 ((hO fe).1 hx)
        have feasT:∀c:List Int,c.length=s.2.length->(ap (cu (ep s fun w=>w*2) c)).Feas (vX b.2.1):=fun c hc=>(hO (s:=ep s fun w=>w*2) hc).2 ((hO (s:=ep s fun w=>w*2) fe).1 hx')
        have fin:∀(m n:List ByteArray) (j k:Int),(j=0->k=0->m=n/\m.length<=6)->(aa (bif !(bif !decide (j=0) then true else !decide (k=0)) then aR m n else some false) fun (t:Bool)=>some (bif (bif !decide (j=0) then true else !decide (k=0)) then true else t))=some true:=fun m n j k h=>by
         by_cases c1:j=0
         ·by_cases c2:k=0
          ·obtain ⟨rfl,h4⟩:=h c1 c2
           rw[z7 c1,z7 c2]
           simp only[Bool.not_true,cF,Bool.not_false,cT,Oo m m (by omega),decide_true,af]
          ·rw[z7 c1,z8 c2];rfl
         ·rw[z8 c1];rfl
        have hslS:∃m j,aF s=some (m,j,())/\(j=0->(∀k,k<s.2.length->E k=0\/E k=21)/\m=iP s (fun k=>decide (E k=0)&&decide ((A k).1.1=0)) s.2.length):=by
         have hcase:∀k,k<s.2.length->(E k=0\/E k=21)\/(E k=5/\¬ fW (ap (cu s (fR s k (-1))))):=fun k hk=>by
          rcases (hAE k hk).2 with ⟨h,_,h'⟩ | ⟨_,_,_,y1,hy1⟩ | ⟨h,_⟩ | ⟨h,_⟩
          ·exact .inr ⟨h,h'⟩
          ·exact (hy1.none (feasO _ gy)).elim
          ·exact .inl (.inr h)
          ·exact .inl (.inl h)
         have hfit:∀k,k<s.2.length->(fW (ap (cu s (fR s 0 (-1))))↔fW (ap (cu s (fR s k (-1))))):=fun k hk =>
          Cn (c:=fR s 0 (-1)) (c':=fR s k (-1)) gy gy (by rw[tF (by omega) rfl,tF hk rfl])
         by_cases hfo:fW (ap (cu s (fR s 0 (-1))))
         ·have hall:∀k,k<s.2.length->E k=0\/E k=21:=fun k hk=>by
           rcases hcase k hk with h | ⟨_,h⟩
           ·exact h
           ·exact (h ((hfit k hk).1 hfo)).elim
          exact ⟨_,_,zI hv (fun k hk=>(hAE k hk).1) hall,fun _=>⟨hall,rfl⟩⟩
         ·have hall:∀k,k<s.2.length->E k=5:=fun k hk=>by
           have hfk:¬ fW (ap (cu s (fR s k (-1)))):=fun h=>hfo ((hfit k hk).2 h)
           rcases (hAE k hk).2 with ⟨h,_⟩ | ⟨_,_,h,_⟩ | ⟨_,_,h,_⟩ | ⟨_,h,_⟩
           ·exact h
           ·exact (hfk h).elim
           ·exact (hfk h).elim
           ·exact (hfk h).elim
          exact ⟨_,_,yA hv (e:=5) (by omega) (A:=A) (fun k hk=>by rw[(hAE k hk).1,hall k hk]),fun h=>by omega⟩
        have hslT:∃m j,aF (ep s fun w=>w*2)=some (m,j,())/\(j=0->(∀k,k<s.2.length->G k=0\/G k=21)/\m=iP s (fun k=>decide (G k=0)&&decide ((B k).1.1=0)) s.2.length):=by
         have hcase:∀k,k<s.2.length->(G k=0\/G k=21)\/(G k=5/\¬ fW (ap (cu (ep s fun w=>w*2) (fR s k (-1))))):=fun k hk=>by
          rcases (hBG k hk).2 with ⟨h,_,h'⟩ | ⟨_,_,_,y1,hy1⟩ | ⟨h,_⟩ | ⟨h,_⟩
          ·exact .inr ⟨h,h'⟩
          ·exact (hy1.none (feasT _ gy)).elim
          ·exact .inl (.inr h)
          ·exact .inl (.inl h)
         have hfit:∀k,k<s.2.length->(fW (ap (cu (ep s fun w=>w*2) (fR s 0 (-1))))↔fW (ap (cu (ep s fun w=>w*2) (fR s k (-1))))):=fun k hk =>
          Cn (s:=ep s fun w=>w*2) (c:=fR s 0 (-1)) (c':=fR s k (-1)) gy gy (by
           have e0:=tF (s:=ep s fun w=>w*2) (k:=0) (c:= -1) (show 0<s.2.length by omega) rfl
           have e1:=tF (s:=ep s fun w=>w*2) (k:=k) (c:= -1) hk rfl
           exact e0.trans e1.symm)
         by_cases hfo:fW (ap (cu (ep s fun w=>w*2) (fR s 0 (-1))))
         ·have hall:∀k,k<s.2.length->G k=0\/G k=21:=fun k hk=>by
           rcases hcase k hk with h | ⟨_,h⟩
           ·exact h
           ·exact (h ((hfit k hk).1 hfo)).elim
          refine ⟨_,_,zI hvT (A:=B) (E:=G) (fun k hk=>(hBG k hk).1) hall,fun _=>⟨hall,?_⟩⟩
          exact vR _
         ·have hall:∀k,k<s.2.length->G k=5:=fun k hk=>by
           have hfk:¬ fW (ap (cu (ep s fun w=>w*2) (fR s k (-1)))):=fun h=>hfo ((hfit k hk).2 h)
           rcases (hBG k hk).2 with ⟨h,_⟩ | ⟨_,_,h,_⟩ | ⟨_,_,h,_⟩ | ⟨_,h,_⟩
           ·exact h
           ·exact (hfk h).elim
           ·exact (hfk h).elim
           ·exact (hfk h).elim
          exact ⟨_,_,yA hvT (e:=5) (by omega) (A:=B) (fun k hk=>by rw[show cu (ep s fun w=>w*2) (fR (ep s fun w=>w*2) k (-1))=cu (ep s fun w=>w*2) (fR s k (-1)) from rfl,(hBG k hk).1,hall k hk]),fun h=>by omega⟩
        obtain ⟨m,j,hm,hm0⟩:=hslS
        obtain ⟨n,k,hn,hn0⟩:=hslT
        have hfin:=fin m n j k fun hj0 hk0=>by
         obtain ⟨hE,rfl⟩:=hm0 hj0
         obtain ⟨hG,rfl⟩:=hn0 hk0
         refine ⟨tv fun k hk=>?_,Nat.le_trans (tf _) hr.2⟩
         rcases (hAE k hk).2 with ⟨h,_⟩ | ⟨h,_⟩ | ⟨h21,_,_,_,r,hr1⟩ | ⟨hE0,_,v1,av,_,_,_,_,_,ax,⟨ay,hay,hayv⟩,aval⟩
         ·have:=hE k hk;omega
         ·have:=hE k hk;omega
         ·have hG21:G k≠0:=fun hG0=>by
           rcases (hBG k hk).2 with ⟨h,_⟩ | ⟨h,_⟩ | ⟨h,_⟩ | ⟨_,_,_,_,_,_,_,_,_,_,⟨yy,hyy,_⟩,_⟩
           ·omega
           ·omega
           ·omega
           ·exact ((CM gy).2 hr1).none hyy
          rw[h21,z8 hG21]
          rfl
         ·rcases (hBG k hk).2 with ⟨h,_⟩ | ⟨h,_⟩ | ⟨h21,_,_,_,r,hr1⟩ | ⟨hG0,_,v2,bv,_,_,_,_,_,bx,⟨by',hby,hbyv⟩,bval⟩
          ·have:=hG k hk;omega
          ·have:=hG k hk;omega
          ·exact (((CM gy).1 hr1).none hay).elim
          ·have h22:v2=2*v1:=by
            rw[<-bval,<-aval]
            exact zh gy ax hay (by rw[hayv,aval]) bx hby (by rw[hbyv,bval])
           rw[hE0,hG0,av,bv]
           congr 1
           refine decide_eq_decide.2 ?_
           rw[GM,GM,h22]
           constructor
           ·intro h;rw[h];exact Rat.mul_zero 2
           ·intro h;grind
        simp only[decide_true,Bool.not_true,cF,cT,show decide ((0:Int)=5)=false from rfl,show decide ((0:Int)=1)=false from rfl,s1,s2,hA',af,hm,hn]
        exact hfin
    simp only[hi,hj,cT,Kj,Bool.not_not,Bool.and_self] at main ⊢
    refine hN _ (fun h5=>?_) (fun ⟨h0,hlen,hcf⟩=>?_)
    ·simp only[h5,decide_true,Bool.not_true,cF]
     exact main
    ·simp only[h0,decide_true,Bool.not_true,cF,cT,hlen,hcf,af,show decide ((0:Int)=5)=false from rfl,Bool.not_false]
     exact main
end Go.Proofs.YtfknoaclabfdlaaGreat
