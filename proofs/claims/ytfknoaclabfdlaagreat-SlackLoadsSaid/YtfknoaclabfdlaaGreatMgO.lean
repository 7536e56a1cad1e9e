/- Linear programs over the rationals: what points and multipliers prove; and what tables of the simplex method prove. How great the numbers of a program's tables may get: the product of the rows' factors. Tables of programs: how great the numbers of the artificial columns may get. Tables of numbers as lists of rows, and loops over them. Systems: the matrix of both programs. Programs: sums of numbers times fractions. Programs: which points are feasible, as the program tells it. Systems: their programs, as both programs make them. Programs: feasible points and values, in both programs. The law ProgramForms. Programs: columns and right sides. Programs: the signs of multipliers. Programs: sums of columns below numbers; refutations. Programs: refutations, as the program tells them. Programs: refutations, as they are specified. Programs: refutations are the same in both programs. Systems: the law SlackPrograms. Programs: products of two numbers, their differences and quotients. Programs: a step of the table. Programs: the row that leaves, the sums of artificial rows, and the reduced costs. Programs: the sums of artificial rows, and the reduced costs. Programs: improving a table to the least value. Programs: finding a feasible basis. Programs: the first table. Programs: which programs fit. Programs: what Solve answers. Programs: what Farkas answers. Programs: answers that are proved, in both programs. Programs: points, multipliers and refutations are those of the theory. Programs: the sums of what the solver returns fit, so that its answers are accepted. Programs: what the solver says of a program; the law ProgramBeats. Programs, as they are specified: the layout of the table, and a step of it. Programs, as they are specified: steps until the last row has no negative number. Programs, as they are specified: artificial variables leave the basis. Programs, as they are specified: the first table. Programs, as they are specified: the least value. Programs: the law ProgramSolves. Systems: what the solver says of their programs. Systems: equilibria, as the program checks them. Systems: the law SlackHolds. Systems: the law SlackBounds. Systems: the law SlackLeast. Elimination: a step of two products and a quotient, and tables of rows that change places. Elimination: the theory; a matrix beside a unit matrix, and its table. Elimination: what the program's function answers. Elimination: how great the numbers are, and what a finished table proves. Elimination: what linear.Solve answers. Systems: the law SlackOnly. Systems with other weights. r15: a function that makes a system of the caller's own, and the law that changes two of them. Systems: the law SlackLoads. -/
import Derived.KernelRfl
import Derived.Test.YtfknoaclabfdlaaGreatMgN

namespace Go.Proofs.YtfknoaclabfdlaaGreat
namespace Dn
def sq:Nat->(Nat->Rat)->Rat
 | 0,_=>0
 | n+1,f=>sq n f+f n
theorem cU:∀{n:Nat} {f g:Nat->Rat},(∀i,i<n->f i=g i)->sq n f=sq n g
 | 0,_,_,_=>rfl
 | n+1,f,g,h=>by
  simp only[sq]
  rw[cU (n:=n) fun i hi=>h i (by omega),h n (by omega)]
theorem I6:∀{n:Nat} {f g:Nat->Rat},sq n (fun i=>f i+g i)=sq n f+sq n g
 | 0,_,_=>by simp only[sq];grind
 | n+1,f,g=>by
  simp only[sq]
  rw[I6]
  grind
theorem oU:∀{n:Nat} {c:Rat} {f:Nat->Rat},sq n (fun i=>c*f i)=c*sq n f
 | 0,c,_=>by simp[sq]
 | n+1,c,f=>by
  simp only[sq]
  rw[oU]
  grind
theorem kV:∀{n:Nat} {f:Nat->Rat},(∀i,i<n->f i=0)->sq n f=0
 | 0,_,_=>rfl
 | n+1,f,h=>by
  simp only[sq]
  rw[kV fun i hi=>h i (by omega),h n (by omega)]
  grind
theorem vr:∀{n:Nat} {f g:Nat->Rat},(∀i,i<n->f i<=g i)->sq n f<=sq n g
 | 0,_,_,_=>Rat.le_refl
 | n+1,f,g,h=>by
  simp only[sq]
  have:=vr (n:=n) fun i hi=>h i (by omega)
  have:=h n (by omega)
  grind
theorem Gj {n:Nat} {f:Nat->Rat} (h:∀i,i<n->0<=f i):0<=sq n f:=by
 have:=vr (n:=n) (f:=fun _=>0) (g:=f) h
 rwa [kV fun _ _=>rfl] at this
theorem zm:∀{m n:Nat} {f:Nat->Nat->Rat},sq m (fun i=>sq n (fun j=>f i j))=sq n (fun j=>sq m (fun i=>f i j))
 | 0,n,f=>by
  simp only[sq]
  exact (kV fun _ _=>rfl).symm
 | m+1,n,f=>by
  simp only[sq]
  rw[zm,I6]
theorem r9:∀{n:Nat} {f:Nat->Int},sq n (fun i=>(f i:Rat))=((sz n f:Int):Rat)
 | 0,_=>rfl
 | n+1,f=>by
  simp only[sq,sz]
  rw[r9,Rat.intCast_add]
structure Lin where
 n:Nat
 m:Nat
 A:Nat->Nat->Int
 b:Nat->Int
 c:Nat->Int
 kd:Nat->Int
def Lin.row (L:Lin) (x:Nat->Rat) (k:Nat):Rat:=sq L.n fun j=>(L.A k j:Rat)*x j
def Lin.col (L:Lin) (y:Nat->Rat) (j:Nat):Rat:=sq L.m fun k=>(L.A k j:Rat)*y k
def Lin.val (L:Lin) (x:Nat->Rat):Rat:=sq L.n fun j=>(L.c j:Rat)*x j
def Lin.rhs (L:Lin) (y:Nat->Rat):Rat:=sq L.m fun k=>(L.b k:Rat)*y k
structure Lin.Feas (L:Lin) (x:Nat->Rat):Prop where
 pos:∀j,j<L.n->0<=x j
 most:∀k,k<L.m->L.kd k≠2->L.row x k<=L.b k
 least:∀k,k<L.m->L.kd k≠1->(L.b k:Rat)<=L.row x k
structure Lin.Sgn (L:Lin) (y:Nat->Rat):Prop where
 most:∀k,k<L.m->L.kd k=1->y k<=0
 least:∀k,k<L.m->L.kd k=2->0<=y k
structure Lin.Dual (L:Lin) (y:Nat->Rat):Prop extends L.Sgn y where
 col:∀j,j<L.n->L.col y j<=L.c j
structure Lin.Ref (L:Lin) (y:Nat->Rat):Prop extends L.Sgn y where
 col:∀j,j<L.n->L.col y j<=0
 rhs:0<L.rhs y
structure Lin.Ray (L:Lin) (r:Nat->Rat):Prop where
 pos:∀j,j<L.n->0<=r j
 most:∀k,k<L.m->L.kd k≠2->L.row r k<=0
 least:∀k,k<L.m->L.kd k≠1->0<=L.row r k
 val:L.val r<0
section
variable {L:Lin}
theorem Lin.swap (x y:Nat->Rat):sq L.n (fun j=>L.col y j*x j)=sq L.m (fun k=>y k*L.row x k):=by
 have e1:sq L.n (fun j=>L.col y j*x j)=sq L.n (fun j=>sq L.m fun k=>(L.A k j:Rat)*y k*x j):=cU fun j _=>by
  unfold Lin.col
  rw[<-oU (c:=x j) |>fun h=>(by rw[h];grind:(sq L.m fun k=>x j*((L.A k j:Rat)*y k))=sq L.m (fun k=>(L.A k j:Rat)*y k)*x j)]
  exact cU fun k _=>by grind
 rw[e1,zm]
 refine cU fun k _=>?_
 unfold Lin.row
 rw[<-oU]
 exact cU fun j _=>by grind
theorem Qy {y r b:Rat} (h:(y<=0/\r<=b)\/(0<=y/\b<=r)\/r=b):b*y<=y*r:=by
 rcases h with ⟨h1,h2⟩ | ⟨h1,h2⟩ | h
 ·have:0<=(-y)*(b - r):=Rat.mul_nonneg (by grind) (by grind)
  grind
 ·have:0<=y*(r - b):=Rat.mul_nonneg h1 (by grind)
  grind
 ·subst h;grind
theorem Lin.Sgn.rows {x y:Nat->Rat} (h:L.Sgn y) {b:Nat->Rat} (h1:∀k,k<L.m->L.kd k≠2->L.row x k<=b k) (h2:∀k,k<L.m->L.kd k≠1->b k<=L.row x k):sq L.m (fun k=>b k*y k)<=sq L.m (fun k=>y k*L.row x k):=vr fun k hk=>by
 apply Qy
 by_cases e1:L.kd k=1
 ·exact .inl ⟨h.most k hk e1,h1 k hk (by omega)⟩
 ·by_cases e2:L.kd k=2
  ·exact .inr (.inl ⟨h.least k hk e2,h2 k hk e1⟩)
  ·have a1:=h1 k hk e2
   have a2:=h2 k hk e1
   exact .inr (.inr (Rat.le_antisymm a1 a2))
theorem Lin.weak {x y:Nat->Rat} (hx:L.Feas x) (hy:L.Dual y):L.rhs y<=L.val x:=by
 have h1:=hy.rows (x:=x) (b:=fun k=>(L.b k:Rat)) hx.most hx.least
 rw[<-L.swap x y] at h1
 refine Rat.le_trans h1 (vr fun j hj=>?_)
 exact Rat.mul_le_mul_of_nonneg_right (hy.col j hj) (hx.pos j hj)
theorem Lin.Ref.none {x y:Nat->Rat} (hy:L.Ref y) (hx:L.Feas x):False:=by
 have h1:=hy.rows (x:=x) (b:=fun k=>(L.b k:Rat)) hx.most hx.least
 rw[<-L.swap x y] at h1
 have h2:sq L.n (fun j=>L.col y j*x j)<=sq L.n (fun _=>0):=vr fun j hj=>by
  have:0<=(-L.col y j)*x j:=Rat.mul_nonneg (by have:=hy.col j hj;grind) (hx.pos j hj)
  grind
 rw[kV (f:=fun _=>0) fun _ _=>rfl] at h2
 have h3:=hy.rhs
 unfold Lin.rhs at h3
 grind
theorem Lin.Ray.none {r y:Nat->Rat} (hr:L.Ray r) (hy:L.Dual y):False:=by
 have h1:=hy.rows (x:=r) (b:=fun _=>0) hr.most hr.least
 rw[<-L.swap r y,kV (f:=fun k=>0*y k) fun k _=>by grind] at h1
 have h2:sq L.n (fun j=>L.col y j*r j)<=L.val r:=vr fun j hj=>Rat.mul_le_mul_of_nonneg_right (hy.col j hj) (hr.pos j hj)
 have h3:=hr.val
 grind
end
structure Lay where
 N:Nat
 sl:Nat->Nat
 σ:Nat->Int
def Lay.M (Y:Lay) (L:Lin) (k j:Nat):Int :=
 if j<L.n then Y.σ k*L.A k j else if j<Y.N then (if L.kd k≠3/\j=Y.sl k then Y.σ k*(if L.kd k=1 then 1 else -1) else 0) else if j<Y.N+L.m then (if j=Y.N+k then 1 else 0) else Y.σ k*L.b k
structure Lay.ok (Y:Lay) (L:Lin):Prop where
 n:L.n<=Y.N
 kd:∀k,k<L.m->L.kd k=1\/L.kd k=2\/L.kd k=3
 sl:∀k,k<L.m->L.kd k≠3->L.n<=Y.sl k/\Y.sl k<Y.N
 inj:∀k l,k<L.m->l<L.m->L.kd k≠3->L.kd l≠3->Y.sl k=Y.sl l->k=l
 sg:∀k,k<L.m->Y.σ k=1\/Y.σ k= -1
 b:∀k,k<L.m->0<=Y.σ k*L.b k
abbrev Lay.R (Y:Lay) (L:Lin):Nat:=Y.N+L.m
abbrev Lay.w (Y:Lay) (L:Lin):Nat:=Y.N+L.m+1
section
variable {L:Lin} {Y:Lay}
theorem Lay.M_x {k j:Nat} (hj:j<L.n):Y.M L k j=Y.σ k*L.A k j:=by unfold Lay.M;rw[if_pos hj]
theorem Lay.M_sl (h:Y.ok L) {k:Nat} (hk:k<L.m) (h3:L.kd k≠3):Y.M L k (Y.sl k)=Y.σ k*(if L.kd k=1 then 1 else -1):=by
 obtain ⟨h1,h2⟩:=h.sl k hk h3
 unfold Lay.M
 rw[if_neg (by omega),if_pos h2,if_pos ⟨h3,rfl⟩]
theorem Lay.M_slo {k j:Nat} (h1:L.n<=j) (h2:j<Y.N) (h:¬ (L.kd k≠3/\j=Y.sl k)):Y.M L k j=0:=by
 unfold Lay.M
 rw[if_neg (by omega),if_pos h2,if_neg h]
theorem Lay.M_a (h:Y.ok L) {k i:Nat} (hi:i<L.m):Y.M L k (Y.N+i)=if k=i then 1 else 0:=by
 have:=h.n
 unfold Lay.M
 rw[if_neg (by omega),if_neg (by omega),if_pos (by omega)]
 by_cases e:k=i
 ·rw[if_pos e,if_pos (by omega)]
 ·rw[if_neg e,if_neg (by omega)]
theorem Lay.M_R (h:Y.ok L) {k:Nat}:Y.M L k (Y.R L)=Y.σ k*L.b k:=by
 have:=h.n
 unfold Lay.M Lay.R
 rw[if_neg (by omega),if_neg (by omega),if_neg (by omega)]
theorem Lay.ss (h:Y.ok L) {k:Nat} (hk:k<L.m):Y.σ k*Y.σ k=1:=by
 rcases h.sg k hk with e | e<;>rw[e]<;>rfl
theorem Lay.ss' (h:Y.ok L) {k:Nat} (hk:k<L.m) (x:Int):Y.σ k*(Y.σ k*x)=x:=by rw[<-Int.mul_assoc,Lay.ss h hk,Int.one_mul]
abbrev Lay.Val (Y:Lay) (L:Lin) (S:Sx):Prop:=Dn.Val L.m (Y.w L) Y.N (Y.R L) (Y.M L) S
theorem Lay.art (h:Y.ok L):(∀i,i<L.m->Y.N+i<Y.w L)/\∀k,k<L.m->∀i,i<L.m->Y.M L k (Y.N+i)=if k=i then 1 else 0 :=
 ⟨fun i hi=>by unfold Lay.w;omega,fun k _ i hi=>Lay.M_a h hi⟩
theorem Lay.first (h:Y.ok L):Y.Val L ⟨Y.M L,1,fun i=>Y.N+i⟩:=by
 refine ⟨Tb.first (Lay.art h).1 (Lay.art h).2,fun i hi=>?_,fun i hi=>?_⟩
 ·show 0<=Y.M L i (Y.R L)
  rw[Lay.M_R h]
  exact h.b i hi
 ·show Y.N+i≠Y.N+L.m
  omega
def tJ (m R:Nat) (S:Sx) (j:Nat):Int:=sz m fun i=>if S.β i=j then S.T i R else 0
theorem mm {S:Sx} (hv:Y.Val L S) (j:Nat):0<=tJ L.m (Y.R L) S j:=iu fun i hi=>by
 split
 ·exact hv.feas i hi
 ·exact Int.le_refl _
theorem tl {m n:Nat} {β:Nat->Nat} {t f:Nat->Int}:(sz m fun i=>if β i<n then t i*f (β i) else 0)=sz n fun j=>f j*sz m fun i=>if β i=j then t i else 0:=by
 have e:∀i,i<m->(if β i<n then t i*f (β i) else 0)=sz n fun j=>if β i=j then t i*f j else 0:=fun i _=>by
  by_cases h:β i<n
  ·rw[if_pos h,eG h fun j _ hne=>if_neg (Ne.symm hne),if_pos rfl]
  ·rw[if_neg h,gb fun j hj=>if_neg (by omega)]
 rw[bA e,s9]
 refine bA fun j _=>?_
 rw[<-fV]
 refine bA fun i _=>?_
 split
 ·rw[Int.mul_comm]
 ·rw[Int.mul_zero]
def Ba (m N:Nat) (S:Sx) (q:Nat):Prop:=∀i,i<m->N<=S.β i->S.T i q=0
theorem Jr (h:Y.ok L) {S:Sx} (hv:Y.Val L S) {q k:Nat} (hq:q<Y.w L) (hk:k<L.m) (ha:Ba L.m Y.N S q) :
  S.d*(Y.σ k*Y.M L k q)=(sz L.n fun j=>L.A k j*sz L.m fun i=>if S.β i=j then S.T i q else 0)+(if L.kd k≠3 then (if L.kd k=1 then 1 else -1)*sz L.m (fun i=>if S.β i=Y.sl k then S.T i q else 0) else 0):=by
 have h1:=hv.tb.co k hk q hq
 have e1:∀i,i<L.m->S.T i q*Y.M L k (S.β i)=(if S.β i<L.n then S.T i q*(Y.σ k*L.A k (S.β i)) else 0)+(if L.kd k≠3 then (Y.σ k*(if L.kd k=1 then 1 else -1))*(if S.β i=Y.sl k then S.T i q else 0) else 0):=fun i hi=>by
  by_cases c1:S.β i<L.n
  ·rw[if_pos c1,Lay.M_x c1]
   by_cases c2:L.kd k≠3
   ·rw[if_pos c2,if_neg (show ¬ S.β i=Y.sl k by have:=(h.sl k hk c2).1;omega)];omega
   ·rw[if_neg c2];omega
  ·rw[if_neg c1]
   by_cases c3:S.β i<Y.N
   ·by_cases c4:L.kd k≠3/\S.β i=Y.sl k
    ·rw[c4.2,Lay.M_sl h hk c4.1,if_pos c4.1,if_pos rfl,Int.mul_comm];omega
    ·rw[Lay.M_slo (by omega) c3 c4]
     by_cases c2:L.kd k≠3
     ·rw[if_pos c2,if_neg (show ¬ S.β i=Y.sl k from fun e=>c4 ⟨c2,e⟩)];omega
     ·rw[if_neg c2];omega
   ·rw[ha i hi (by omega)]
    by_cases c2:L.kd k≠3
    ·rw[if_pos c2,if_neg (show ¬ S.β i=Y.sl k by have:=(h.sl k hk c2).2;omega)];omega
    ·rw[if_neg c2];omega
 rw[bA e1,mD,tl (f:=fun j=>Y.σ k*L.A k j)] at h1
 have e2:(sz L.m fun i=>if L.kd k≠3 then (Y.σ k*(if L.kd k=1 then 1 else -1))*(if S.β i=Y.sl k then S.T i q else 0) else 0)=Y.σ k*(if L.kd k≠3 then (if L.kd k=1 then 1 else -1)*sz L.m (fun i=>if S.β i=Y.sl k then S.T i q else 0) else 0):=by
  by_cases c2:L.kd k≠3
  ·simp only[c2,not_false_eq_true,if_true,ne_eq]
   rw[fV,Int.mul_assoc]
  ·have c2:L.kd k=3:=by omega
   simp only[c2,ne_eq,not_true_eq_false,if_false]
   rw[gb fun _ _=>rfl,Int.mul_zero]
 have e3:(sz L.n fun j=>Y.σ k*L.A k j*sz L.m fun i=>if S.β i=j then S.T i q else 0)=Y.σ k*sz L.n fun j=>L.A k j*sz L.m fun i=>if S.β i=j then S.T i q else 0:=by
  rw[<-fV]
  exact bA fun j _=>by rw[Int.mul_assoc]
 rw[e2,e3,<-Int.mul_add] at h1
 have h2:=Lay.ss h hk
 have:S.d*(Y.σ k*Y.M L k q)=Y.σ k*(S.d*Y.M L k q):=by grind
 rw[this,h1,<-Int.mul_assoc,h2,Int.one_mul]
theorem Aa {x y d:Int} (hd:0<d) (h:x<=y*d):(x:Rat) / (d:Rat)<=(y:Rat):=by
 have hd':(0:Rat)<(d:Rat):=by have:=Rat.intCast_lt_intCast.2 hd;simpa using this
 have h':(x:Rat)<=(y:Rat)*(d:Rat):=by rw[<-Rat.intCast_mul];exact Rat.intCast_le_intCast.2 h
 refine Rat.le_of_mul_le_mul_right ?_ hd'
 have:(x:Rat) / (d:Rat)*(d:Rat)=(x:Rat):=by grind
 rw[this]
 exact h'
theorem D9 {x y d:Int} (hd:0<d) (h:y*d<=x):(y:Rat)<=(x:Rat) / (d:Rat):=by
 have hd':(0:Rat)<(d:Rat):=by have:=Rat.intCast_lt_intCast.2 hd;simpa using this
 have h':(y:Rat)*(d:Rat)<=(x:Rat):=by rw[<-Rat.intCast_mul];exact Rat.intCast_le_intCast.2 h
 refine Rat.le_of_mul_le_mul_right ?_ hd'
 have:(x:Rat) / (d:Rat)*(d:Rat)=(x:Rat):=by grind
 rw[this]
 exact h'
theorem M5 {x d:Rat} (hx:0<x) (hd:0<d):0<x / d:=by
 have e:x / d*d=x:=by grind
 refine Rat.not_le.1 fun h=>?_
 have h1:=Rat.mul_le_mul_of_nonneg_right h (Rat.le_of_lt hd)
 rw[e,Rat.zero_mul] at h1
 exact Rat.not_le.2 hx h1
theorem pZ {n:Nat} {a X:Nat->Int} {d:Int} (hd:0<d):sq n (fun j=>(a j:Rat)*((X j:Rat) / (d:Rat)))=((sz n fun j=>a j*X j:Int):Rat) / (d:Rat):=by
 have hd':(0:Rat)<(d:Rat):=by have:=Rat.intCast_lt_intCast.2 hd;simpa using this
 have e:sq n (fun j=>(a j:Rat)*((X j:Rat) / (d:Rat)))=sq n (fun j=>(1 / (d:Rat))*((a j*X j:Int):Rat)):=cU fun j _=>by
  rw[Rat.intCast_mul]
  grind
 rw[e,oU,r9]
 grind
def zK (m R:Nat) (S:Sx) (j:Nat):Rat:=(tJ m R S j:Rat) / (S.d:Rat)
theorem vG (h:Y.ok L) {S:Sx} (hv:Y.Val L S) (ha:Ba L.m Y.N S (Y.R L)):L.Feas (zK L.m (Y.R L) S):=by
 have hd:=hv.tb.dpos
 have row:∀k,k<L.m->S.d*L.b k=(sz L.n fun j=>L.A k j*tJ L.m (Y.R L) S j)+(if L.kd k≠3 then (if L.kd k=1 then 1 else -1)*tJ L.m (Y.R L) S (Y.sl k) else 0):=fun k hk=>by
  have h1:=Jr h hv (q:=Y.R L) (by unfold Lay.R Lay.w;omega) hk ha
  rw[Lay.M_R h,Lay.ss' h hk] at h1
  exact h1
 have rowq:∀k,L.row (zK L.m (Y.R L) S) k=((sz L.n fun j=>L.A k j*tJ L.m (Y.R L) S j:Int):Rat) / (S.d:Rat):=fun k=>pZ hd
 refine ⟨fun j _=>?_,fun k hk h2=>?_,fun k hk h1=>?_⟩
 ·have:=D9 (x:=tJ L.m (Y.R L) S j) (y:=0) hd (by rw[Int.zero_mul];exact mm hv j)
  simpa [zK] using this
 ·rw[rowq]
  have h3:=row k hk
  have h4:=mm hv (Y.sl k)
  refine Aa hd ?_
  rw[Int.mul_comm,h3]
  rcases h.kd k hk with e | e | e
  ·simp[e];omega
  ·exact (h2 e).elim
  ·simp[e]
 ·rw[rowq]
  have h3:=row k hk
  have h4:=mm hv (Y.sl k)
  refine D9 hd ?_
  rw[Int.mul_comm,h3]
  rcases h.kd k hk with e | e | e
  ·exact (h1 e).elim
  ·simp[e];omega
  ·simp[e]
def qA (m N:Nat) (wc:Nat->Int) (S:Sx) (σ:Nat->Int) (k:Nat):Int:=σ k*sz m fun i=>wc (S.β i)*S.T i (N+k)
def rx (m N:Nat) (wc:Nat->Int) (S:Sx) (σ:Nat->Int) (k:Nat):Rat:=(qA m N wc S σ k:Rat) / (S.d:Rat)
theorem OH (h:Y.ok L) {S:Sx} (hv:Y.Val L S) {wc:Nat->Int} {j:Nat} (hj:j<L.n):zr L.m wc S j=wc j*S.d - sz L.m fun k=>L.A k j*qA L.m Y.N wc S Y.σ k:=by
 have hw:j<Y.w L:=by have:=h.n;unfold Lay.w;omega
 rw[s8 hv.tb (Lay.art h).1 (Lay.art h).2 hw]
 congr 1
 refine bA fun k hk=>?_
 rw[Lay.M_x hj]
 unfold qA
 grind
theorem Fs (h:Y.ok L) {S:Sx} (hv:Y.Val L S) {wc:Nat->Int} {k:Nat} (hk:k<L.m) (h3:L.kd k≠3):zr L.m wc S (Y.sl k)=wc (Y.sl k)*S.d - (if L.kd k=1 then 1 else -1)*qA L.m Y.N wc S Y.σ k:=by
 obtain ⟨h1,h2⟩:=h.sl k hk h3
 rw[s8 hv.tb (Lay.art h).1 (Lay.art h).2 (by unfold Lay.w;omega)]
 congr 1
 rw[eG hk fun l hl hne=>by rw[Lay.M_slo h1 h2 fun e=>hne (h.inj l k hl hk e.1 h3 e.2.symm),Int.mul_zero],Lay.M_sl h hk h3]
 unfold qA
 grind
theorem ER (h:Y.ok L) {S:Sx} (hv:Y.Val L S) {wc:Nat->Int}:zr L.m wc S (Y.R L)=wc (Y.R L)*S.d - sz L.m fun k=>L.b k*qA L.m Y.N wc S Y.σ k:=by
 rw[s8 hv.tb (Lay.art h).1 (Lay.art h).2 (by unfold Lay.R Lay.w;omega)]
 congr 1
 refine bA fun k hk=>?_
 rw[Lay.M_R h]
 unfold qA
 grind
theorem xK (h:Y.ok L) {S:Sx} (hv:Y.Val L S) {wc:Nat->Int} (hw:∀j,L.n<=j->j<Y.N->wc j=0) (hz:∀j,j<Y.N->0<=zr L.m wc S j):L.Sgn (rx L.m Y.N wc S Y.σ):=by
 have hd:=hv.tb.dpos
 refine ⟨fun k hk e=>?_,fun k hk e=>?_⟩
 ·obtain ⟨h1,h2⟩:=h.sl k hk (by omega)
  have h3:=Fs h hv (wc:=wc) hk (by omega)
  have h4:=hz _ h2
  rw[h3,hw _ h1 h2,if_pos e] at h4
  have:=Aa (x:=qA L.m Y.N wc S Y.σ k) (y:=0) hd (by omega)
  simpa [rx] using this
 ·obtain ⟨h1,h2⟩:=h.sl k hk (by omega)
  have h3:=Fs h hv (wc:=wc) hk (by omega)
  have h4:=hz _ h2
  rw[h3,hw _ h1 h2,if_neg (by omega)] at h4
  have:=D9 (x:=qA L.m Y.N wc S Y.σ k) (y:=0) hd (by omega)
  simpa [rx] using this
def ca (L:Lin) (j:Nat):Int:=if j<L.n then L.c j else 0
theorem DR (h:Y.ok L) {S:Sx} (hv:Y.Val L S) (hz:∀j,j<Y.N->0<=zr L.m (ca L) S j):L.Dual (rx L.m Y.N (ca L) S Y.σ):=by
 have hd:=hv.tb.dpos
 refine ⟨xK h hv (fun j h1 _=>if_neg (by omega)) hz,fun j hj=>?_⟩
 have h1:=hz j (by have:=h.n;omega)
 rw[OH h hv hj] at h1
 have e:L.col (rx L.m Y.N (ca L) S Y.σ) j=((sz L.m fun k=>L.A k j*qA L.m Y.N (ca L) S Y.σ k:Int):Rat) / (S.d:Rat):=pZ hd
 rw[e]
 have e2:ca L j=L.c j:=if_pos hj
 rw[e2] at h1
 exact Aa hd (by omega)
theorem BW (h:Y.ok L) {S:Sx} (hv:Y.Val L S):L.val (zK L.m (Y.R L) S)=((sz L.m fun i=>ca L (S.β i)*S.T i (Y.R L):Int):Rat) / (S.d:Rat)/\L.rhs (rx L.m Y.N (ca L) S Y.σ)=((sz L.m fun i=>ca L (S.β i)*S.T i (Y.R L):Int):Rat) / (S.d:Rat):=by
 have hd:=hv.tb.dpos
 constructor
 ·have e:L.val (zK L.m (Y.R L) S)=((sz L.n fun j=>L.c j*tJ L.m (Y.R L) S j:Int):Rat) / (S.d:Rat):=pZ hd
  rw[e]
  congr 2
  rw[show (sz L.n fun j=>L.c j*tJ L.m (Y.R L) S j)=sz L.n fun j=>L.c j*sz L.m fun i=>if S.β i=j then S.T i (Y.R L) else 0 from rfl,<-tl (f:=L.c)]
  refine bA fun i _=>?_
  unfold ca
  split
  ·rw[Int.mul_comm]
  ·rw[Int.zero_mul]
 ·have e:L.rhs (rx L.m Y.N (ca L) S Y.σ)=((sz L.m fun k=>L.b k*qA L.m Y.N (ca L) S Y.σ k:Int):Rat) / (S.d:Rat):=pZ hd
  rw[e]
  congr 2
  have h1:=ER h hv (wc:=ca L)
  have e0:ca L (Y.R L)=0:=if_neg (by have:=h.n;unfold Lay.R;omega)
  unfold zr at h1
  rw[e0] at h1
  omega
def fE (N:Nat) (j:Nat):Int:=if N<=j then 1 else 0
theorem Ge (h:Y.ok L) {S:Sx} (hv:Y.Val L S) (hz:∀j,j<Y.N->0<=zr L.m (fE Y.N) S j) (hp:0<sz L.m fun i=>fE Y.N (S.β i)*S.T i (Y.R L)):L.Ref (rx L.m Y.N (fE Y.N) S Y.σ):=by
 have hd:=hv.tb.dpos
 refine ⟨xK h hv (fun j _ h2=>if_neg (by omega)) hz,fun j hj=>?_,?_⟩
 ·have h1:=hz j (by have:=h.n;omega)
  rw[OH h hv hj] at h1
  have e:L.col (rx L.m Y.N (fE Y.N) S Y.σ) j=((sz L.m fun k=>L.A k j*qA L.m Y.N (fE Y.N) S Y.σ k:Int):Rat) / (S.d:Rat):=pZ hd
  have e2:fE Y.N j=0:=if_neg (by have:=h.n;omega)
  rw[e2] at h1
  have:=Aa (x:=sz L.m fun k=>L.A k j*qA L.m Y.N (fE Y.N) S Y.σ k) (y:=0) hd (by omega)
  rw[e]
  simpa using this
 ·have e:L.rhs (rx L.m Y.N (fE Y.N) S Y.σ)=((sz L.m fun k=>L.b k*qA L.m Y.N (fE Y.N) S Y.σ k:Int):Rat) / (S.d:Rat):=pZ hd
  have h1:=ER h hv (wc:=fE Y.N)
  unfold zr at h1
  have h2:0<sz L.m fun k=>L.b k*qA L.m Y.N (fE Y.N) S Y.σ k:=by omega
  rw[e]
  have hd':(0:Rat)<(S.d:Rat):=by have:=Rat.intCast_lt_intCast.2 hd;simpa using this
  have h2':(0:Rat)<((sz L.m fun k=>L.b k*qA L.m Y.N (fE Y.N) S Y.σ k:Int):Rat):=by have:=Rat.intCast_lt_intCast.2 h2;simpa using this
  exact M5 h2' hd'
def mA (m:Nat) (S:Sx) (q j:Nat):Int:=(if j=q then S.d else 0) - sz m fun i=>if S.β i=j then S.T i q else 0
theorem Gq (h:Y.ok L) {S:Sx} (hv:Y.Val L S) {q:Nat} (hq:q<Y.N) (ha:Ba L.m Y.N S q) (hz:zr L.m (ca L) S q<0) (hno:∀i,i<L.m->S.T i q<=0):L.Ray (fun j=>(mA L.m S q j:Rat)):=by
 have hd:=hv.tb.dpos
 have hqw:q<Y.w L:=by unfold Lay.w;omega
 have pos:∀j,0<=mA L.m S q j:=fun j=>by
  unfold mA
  have h1:(sz L.m fun i=>if S.β i=j then S.T i q else 0)<=sz L.m fun _=>0:=pT fun i hi=>by
   split
   ·exact hno i hi
   ·exact Int.le_refl _
  rw[gb (f:=fun _=>0) fun _ _=>rfl] at h1
  split<;>omega
 have row:∀k,k<L.m->(sz L.n fun j=>L.A k j*mA L.m S q j)=(if L.kd k≠3 then -(if L.kd k=1 then 1 else -1)*mA L.m S q (Y.sl k) else 0):=fun k hk=>by
  have h1:=Jr h hv hqw hk ha
  have e1:(sz L.n fun j=>L.A k j*mA L.m S q j)=(if q<L.n then L.A k q*S.d else 0) - sz L.n fun j=>L.A k j*sz L.m fun i=>if S.β i=j then S.T i q else 0:=by
   have e0:(if q<L.n then L.A k q*S.d else 0)=sz L.n fun j=>if j=q then L.A k q*S.d else 0:=by
    by_cases e:q<L.n
    ·rw[if_pos e,eG e fun j _ hne=>if_neg hne,if_pos rfl]
    ·rw[if_neg e,gb fun j hj=>if_neg (by omega)]
   rw[e0,<-wa]
   refine bA fun j _=>?_
   unfold mA
   by_cases e:j=q
   ·subst e;rw[if_pos rfl,if_pos rfl];grind
   ·rw[if_neg e,if_neg e];grind
  rw[e1]
  by_cases c1:q<L.n
  ·rw[if_pos c1]
   rw[Lay.M_x c1,Lay.ss' h hk] at h1
   by_cases c2:L.kd k≠3
   ·rw[if_pos c2] at h1 ⊢
    unfold mA
    rw[if_neg (show ¬ Y.sl k=q by have:=(h.sl k hk c2).1;omega)]
    grind
   ·rw[if_neg c2] at h1 ⊢
    grind
  ·rw[if_neg c1]
   by_cases c2:L.kd k≠3
   ·rw[if_pos c2] at h1 ⊢
    unfold mA
    by_cases c3:Y.sl k=q
    ·rw[if_pos c3]
     rw[<-c3] at h1 ⊢
     rw[Lay.M_sl h hk c2,Lay.ss' h hk] at h1
     rcases h.kd k hk with e | e | e
     ·simp[e] at h1 ⊢;omega
     ·simp[e] at h1 ⊢;omega
     ·exact (c2 e).elim
    ·rw[if_neg c3]
     rw[Lay.M_slo (by omega) hq fun e=>c3 e.2.symm] at h1
     rcases h.kd k hk with e | e | e
     ·simp[e] at h1 ⊢;omega
     ·simp[e] at h1 ⊢;omega
     ·exact (c2 e).elim
   ·rw[if_neg c2] at h1 ⊢
    rw[Lay.M_slo (by omega) hq fun e=>c2 e.1] at h1
    omega
 have cast:∀a:Nat->Int,sq L.n (fun j=>(a j:Rat)*(mA L.m S q j:Rat))=((sz L.n fun j=>a j*mA L.m S q j:Int):Rat):=fun a=>by
  rw[<-r9]
  exact cU fun j _=>by rw[Rat.intCast_mul]
 refine ⟨fun j _=>by have:=Rat.intCast_le_intCast.2 (pos j);simpa using this,fun k hk h2=>?_,fun k hk h1=>?_,?_⟩
 ·have e:L.row (fun j=>(mA L.m S q j:Rat)) k=((sz L.n fun j=>L.A k j*mA L.m S q j:Int):Rat):=cast _
  rw[e,row k hk]
  have h4:=pos (Y.sl k)
  have h5:(if L.kd k≠3 then -(if L.kd k=1 then 1 else -1)*mA L.m S q (Y.sl k) else 0)<=0:=by
   rcases h.kd k hk with e | e | e
   ·simp[e];omega
   ·exact (h2 e).elim
   ·simp[e]
  have:=Rat.intCast_le_intCast.2 h5
  simpa using this
 ·have e:L.row (fun j=>(mA L.m S q j:Rat)) k=((sz L.n fun j=>L.A k j*mA L.m S q j:Int):Rat):=cast _
  rw[e,row k hk]
  have h4:=pos (Y.sl k)
  have h5:0<=(if L.kd k≠3 then -(if L.kd k=1 then 1 else -1)*mA L.m S q (Y.sl k) else 0):=by
   rcases h.kd k hk with e | e | e
   ·exact (h1 e).elim
   ·simp[e];omega
   ·simp[e]
  have:=Rat.intCast_le_intCast.2 h5
  simpa using this
 ·have e:L.val (fun j=>(mA L.m S q j:Rat))=((sz L.n fun j=>L.c j*mA L.m S q j:Int):Rat):=cast _
  rw[e]
  have e2:(sz L.n fun j=>L.c j*mA L.m S q j)=zr L.m (ca L) S q:=by
   unfold zr
   have e3:(sz L.m fun i=>ca L (S.β i)*S.T i q)=sz L.n fun j=>L.c j*sz L.m fun i=>if S.β i=j then S.T i q else 0:=by
    rw[<-tl (f:=L.c)]
    refine bA fun i _=>?_
    unfold ca
    split
    ·rw[Int.mul_comm]
    ·rw[Int.zero_mul]
   rw[e3]
   have e4:ca L q*S.d=sz L.n fun j=>if j=q then L.c j*S.d else 0:=by
    unfold ca
    by_cases c:q<L.n
    ·rw[if_pos c,eG c fun j _ hne=>if_neg hne,if_pos rfl]
    ·rw[if_neg c,gb fun j hj=>if_neg (by omega),Int.zero_mul]
   rw[e4,<-wa]
   refine bA fun j _=>?_
   unfold mA
   by_cases c:j=q
   ·rw[if_pos c,if_pos c];grind
   ·rw[if_neg c,if_neg c];grind
  rw[e2]
  have:=Rat.intCast_lt_intCast.2 hz
  simpa using this
end
theorem vv {a b:Nat} {f:Nat->Int}:sz (a+b) f=sz a f+sz b fun i=>f (a+i):=by
 induction b with
 | zero=>simp[sz]
 | succ b ih =>
  rw[show a+(b+1)=a+b+1 by omega,sz,sz,ih]
  omega
theorem HW {m w:Nat} {γ:Nat->Nat} {f:Nat->Int} (hlt:∀p,p<m->γ p<w) (hinj:∀p q,p<m->q<m->γ p=γ q->p=q) (hf:∀j,j<w->0<=f j):(sz m fun p=>f (γ p))<=sz w f:=by
 have e:(sz m fun p=>f (γ p))=sz w fun j=>f j*sz m fun p=>if γ p=j then 1 else 0:=by
  rw[bA (g:=fun p=>sz w fun j=>if γ p=j then f j else 0) fun p hp=>by
   rw[eG (hlt p hp) fun j _ hne=>if_neg (Ne.symm hne),if_pos rfl],s9]
  refine bA fun j _=>?_
  rw[<-fV]
  refine bA fun p _=>?_
  split<;>omega
 rw[e]
 refine pT fun j hj=>?_
 have hc:(sz m fun p=>if γ p=j then (1:Int) else 0)<=1:=by
  by_cases h:∃p,p<m/\γ p=j
  ·obtain ⟨p,hp,rfl⟩:=h
   rw[eG hp fun q hq hne=>if_neg fun e'=>hne (hinj q p hq hp e'),if_pos rfl]
   exact Int.le_refl _
  ·rw[gb fun p hp=>if_neg fun e'=>h ⟨p,hp,e'⟩]
   omega
 have:=Int.mul_le_mul_of_nonneg_left hc (hf j hj)
 omega
def Lin.F (L:Lin) (k:Nat):Int:=1+ab (L.b k)+sz L.n fun j=>ab (L.A k j)
def Lin.F0 (L:Lin):Int:=1+sz L.n fun j=>ab (L.c j)
theorem Lin.F_pos (L:Lin) (k:Nat):1<=L.F k:=by
 have h1:=cH (L.b k)
 have h2:0<=sz L.n fun j=>ab (L.A k j):=iu fun j _=>cH _
 unfold Lin.F
 omega
theorem Lin.F0_pos (L:Lin):1<=L.F0:=by
 have h2:0<=sz L.n fun j=>ab (L.c j):=iu fun j _=>cH _
 unfold Lin.F0
 omega
def Lin.P (L:Lin):Int:=pz L.m L.F
theorem H2:∀{n:Nat} {f:Nat->Int},(∀i,i<n->1<=f i)->1<=pz n f
 | 0,_,_=>by simp[pz]
 | n+1,f,h=>by
  simp only[pz]
  have h1:=h 0 (by omega)
  have h2:=H2 (n:=n) (f:=fun i=>f (i+1)) fun i hi=>h (i+1) (by omega)
  have:=Int.mul_le_mul h1 h2 (by omega) (by omega)
  omega
theorem Lin.P_pos (L:Lin):1<=L.P:=H2 fun k _=>L.F_pos k
section
variable {L:Lin} {Y:Lay}
theorem Ib (h:Y.ok L) {k:Nat} (hk:k<L.m) (x:Int):ab (Y.σ k*x)=ab x:=by
 rw[pr]
 rcases h.sg k hk with e | e<;>rw[e]<;>simp[ab]
theorem EZ (h:Y.ok L) {k:Nat} (hk:k<L.m) {f:Nat->Int} (h1:∀j,j<L.n->f j=ab (Y.M L k j)) (hR:f (Y.R L)=ab (Y.M L k (Y.R L)))
  (h2:((∀j,L.n<=j->j<Y.N->f j=0)/\∀i,i<L.m->f (Y.N+i)=if i=k then 1 else 0)\/(L.kd k≠3/\(∀j,L.n<=j->j<Y.N->f j=if j=Y.sl k then 1 else 0)/\∀i,i<L.m->f (Y.N+i)=0)) :
  sz (Y.w L) f=L.F k:=by
 have hn:=h.n
 have e:Y.w L=(L.n+(Y.N - L.n))+L.m+1:=by unfold Lay.w;omega
 rw[e,sz,vv,vv,show L.n+(Y.N - L.n)+L.m=Y.R L by unfold Lay.R;omega,hR,Lay.M_R h,Ib h hk]
 have e1:sz L.n f=sz L.n fun j=>ab (L.A k j):=bA fun j hj=>by rw[h1 j hj,Lay.M_x hj,Ib h hk]
 rw[e1,show L.n+(Y.N - L.n)=Y.N by omega]
 unfold Lin.F
 rcases h2 with ⟨h3,h4⟩ | ⟨h3,h4,h5⟩
 ·rw[gb fun i hi=>h3 (L.n+i) (by omega) (by omega),eG hk fun i hi hne=>by rw[h4 i hi,if_neg hne],h4 k hk,if_pos rfl]
  omega
 ·obtain ⟨h6,h7⟩:=h.sl k hk h3
  have a1:(sz (Y.N - L.n) fun i=>f (L.n+i))=1:=by
   rw[eG (k:=Y.sl k - L.n) (by omega) fun i hi hne=>by rw[h4 _ (by omega) (by omega),if_neg (by omega)],h4 _ (by omega) (by omega),if_pos (by omega)]
  have a2:(sz L.m fun i=>f (Y.N+i))=0:=gb fun i hi=>h5 i hi
  rw[a1,a2]
  omega
theorem MJ (h:Y.ok L) {γ:Nat->Nat} (hlt:∀p,p<L.m->γ p<Y.w L):dc L.m (Y.M L) γ=0\/∀k,k<L.m->(sz L.m fun p=>ab (Y.M L k (γ p)))<=L.F k:=by
 have zero:dc L.m (Y.M L) γ=0->dc L.m (Y.M L) γ=0\/∀k,k<L.m->(sz L.m fun p=>ab (Y.M L k (γ p)))<=L.F k:=fun e=>.inl e
 by_cases hinj:∀p q,p<L.m->q<L.m->γ p=γ q->p=q
 ·by_cases hboth:∃k p q,k<L.m/\L.kd k≠3/\p<L.m/\q<L.m/\γ p=Y.sl k/\γ q=Y.N+k
  ·obtain ⟨k,p,q,hk,h3,hp,hq,e1,e2⟩:=hboth
   obtain ⟨h4,h5⟩:=h.sl k hk h3
   have hpq:p≠q:=fun e=>by rw[e,e2] at e1;omega
   apply zero
   unfold dc
   have e3:det L.m (eU (Y.M L) γ)=det L.m (bW (eU (Y.M L) γ) p fun l=>(Y.σ k*(if L.kd k=1 then 1 else -1))*Y.M L l (Y.N+k)):=by
    refine iw fun l j hl hj=>?_
    unfold bW
    split
    ·rename_i e
     rw[e]
     show Y.M L l (γ p)=(Y.σ k*(if L.kd k=1 then 1 else -1))*Y.M L l (Y.N+k)
     rw[e1,Lay.M_a h hk]
     by_cases el:l=k
     ·subst el
      rw[Lay.M_sl h hl h3,if_pos rfl,Int.mul_one]
     ·rw[if_neg el,Int.mul_zero,Lay.M_slo h4 h5 fun e'=>el (h.inj l k hl hk e'.1 h3 e'.2.symm)]
    ·rfl
   rw[e3,mP hp,kS hp hq hpq fun l _=>by
    unfold bW
    rw[if_pos rfl,if_neg (Ne.symm hpq)]
    show Y.M L l (Y.N+k)=Y.M L l (γ q)
    rw[e2],Int.mul_zero]
  ·refine .inr fun k hk=>?_
   by_cases hs:L.kd k≠3/\∃p,p<L.m/\γ p=Y.sl k
   ·obtain ⟨h3,p,hp,e1⟩:=hs
    obtain ⟨h4,h5⟩:=h.sl k hk h3
    have e:(sz L.m fun p=>ab (Y.M L k (γ p)))=sz L.m fun p=>(fun j=>if Y.N<=j/\j<Y.N+L.m then 0 else ab (Y.M L k j)) (γ p):=bA fun q hq=>by
     show _=if Y.N<=γ q/\γ q<Y.N+L.m then 0 else ab (Y.M L k (γ q))
     split
     ·rename_i hr
      obtain ⟨i,hi⟩:∃i,γ q=Y.N+i:=⟨γ q - Y.N,by omega⟩
      rw[hi,Lay.M_a h (by omega),if_neg fun e'=>hboth ⟨k,p,q,hk,h3,hp,hq,e1,by rw[hi,e']⟩]
      rfl
     ·rfl
    rw[e]
    refine Int.le_trans (HW (f:=fun j=>if Y.N<=j/\j<Y.N+L.m then 0 else ab (Y.M L k j)) hlt hinj fun j _=>?_) (Int.le_of_eq (EZ h hk (fun j hj=>?_) ?_ (.inr ⟨h3,fun j h6 h7=>?_,fun i hi=>?_⟩)))
    ·split
     ·exact Int.le_refl _
     ·exact cH _
    ·have:=h.n
     rw[if_neg (by omega)]
    ·rw[if_neg (by unfold Lay.R;omega)]
    ·rw[if_neg (by omega)]
     by_cases ej:j=Y.sl k
     ·subst ej
      rw[Lay.M_sl h hk h3,Ib h hk,if_pos rfl]
      split<;>rfl
     ·rw[if_neg ej,Lay.M_slo h6 h7 fun e'=>ej e'.2]
      rfl
    ·rw[if_pos (by omega)]
   ·have e:(sz L.m fun p=>ab (Y.M L k (γ p)))=sz L.m fun p=>(fun j=>if L.n<=j/\j<Y.N then 0 else ab (Y.M L k j)) (γ p):=bA fun q hq=>by
     show _=if L.n<=γ q/\γ q<Y.N then 0 else ab (Y.M L k (γ q))
     split
     ·rename_i hr
      rw[Lay.M_slo hr.1 hr.2 fun e'=>hs ⟨e'.1,q,hq,e'.2⟩]
      rfl
     ·rfl
    rw[e]
    refine Int.le_trans (HW (f:=fun j=>if L.n<=j/\j<Y.N then 0 else ab (Y.M L k j)) hlt hinj fun j _=>?_) (Int.le_of_eq (EZ h hk (fun j hj=>?_) ?_ (.inl ⟨fun j h6 h7=>?_,fun i hi=>?_⟩)))
    ·split
     ·exact Int.le_refl _
     ·exact cH _
    ·rw[if_neg (by omega)]
    ·rw[if_neg (by unfold Lay.R;omega)]
    ·rw[if_pos ⟨h6,h7⟩]
    ·rw[if_neg (by omega),Lay.M_a h hi]
     by_cases ei:k=i
     ·rw[if_pos ei,if_pos ei.symm];rfl
     ·rw[if_neg ei,if_neg (Ne.symm ei)];rfl
 ·have:∃p q,p<L.m/\q<L.m/\γ p=γ q/\p≠q:=by
   apply Classical.byContradiction
   intro hno
   refine hinj fun p q hp hq e=>?_
   apply Classical.byContradiction
   intro hne
   exact hno ⟨p,q,hp,hq,e,hne⟩
  obtain ⟨p,q,hp,hq,e,hne⟩:=this
  apply zero
  refine kS hp hq hne fun l _=>?_
  show Y.M L l (γ p)=Y.M L l (γ q)
  rw[e]
theorem Bh (h:Y.ok L) {γ:Nat->Nat} (hlt:∀p,p<L.m->γ p<Y.w L):ab (dc L.m (Y.M L) γ)<=L.P:=by
 rcases MJ h hlt with e | e
 ·have hP:=L.P_pos
  rw[e]
  simp[ab]
  omega
 ·exact Int.le_trans xP (HJ fun k hk=>⟨iu fun _ _=>cH _,e k hk⟩)
theorem Pm {m w:Nat} {β:Nat->Nat} {r c:Nat} (h:∀p,p<m->β p<w) (hc:c<w):∀p,p<m->upd β r c p<w:=fun p hp=>by
 unfold upd
 split
 ·exact hc
 ·exact h p hp
theorem pJ (h:Y.ok L) {T:Nat->Nat->Int} {d:Int} {β:Nat->Nat} (ht:Tb L.m (Y.w L) (Y.M L) T d β):d<=L.P/\∀i j,i<L.m->j<Y.w L->ab (T i j)<=L.P:=by
 refine ⟨?_,fun i j hi hj=>by rw[ht.bound hi hj];exact Bh h (Pm ht.lt hj)⟩
 obtain ⟨σ,h1,h2,_⟩:=ht.cr
 have h3:=Bh h ht.lt
 have h4:ab d=ab (dc L.m (Y.M L) β):=by
  have h5:ab σ=1:=by
   have h6:ab σ*ab σ=1:=by rw[<-pr,h1];rfl
   have h7:=cH σ
   have h8:ab σ<=1:=by
    apply Int.not_lt.1
    intro h9
    have:2*2<=ab σ*ab σ:=Int.mul_le_mul (by omega) (by omega) (by omega) h7
    omega
   have:ab σ≠0:=fun e=>by rw[e] at h6;simp at h6
   omega
  have h6:ab (σ*dc L.m (Y.M L) β)=ab d:=by rw[<-h2]
  rw[pr,h5,Int.one_mul] at h6
  exact h6.symm
 rw[<-h4] at h3
 exact (xU.1 h3).2
end
section
variable {L:Lin} {Y:Lay}
end
section
variable {α R:Type} {F:(α->Option R)->α->Option R}
theorem xz (n:Nat) (st:Nat->α) (r:Option R) (hb:∀again i,i<n->F again (st i)=again (st (i+1))) (hf:∀again,F again (st n)=r):∀(k i m:Nat),i+k=n->k<m->i8 F m (st i)=r
 | 0,i,m,h1,h2=>by
  obtain ⟨m,rfl⟩:∃m',m=m'+1:=⟨m - 1,by omega⟩
  rw[gq,show i=n by omega,hf]
 | k+1,i,m,h1,h2=>by
  obtain ⟨m,rfl⟩:∃m',m=m'+1:=⟨m - 1,by omega⟩
  rw[gq,hb _ _ (by omega)]
  exact xz n st r hb hf k (i+1) m (by omega) (by omega)
theorem sH (n:Nat) (hn:n<=1180591620717411303423) (st:Nat->α) (r:Option R) (hb:∀again i,i<n->F again (st i)=again (st (i+1))) (hf:∀again,F again (st n)=r):lpK α R F (st 0)=r :=
 xz n st r hb hf n 0 K0 (by omega) (by unfold K0;omega)
theorem cM {x:α} (n:Nat) (hn:n<=1180591620717411303423) (st:Nat->α) (r:Option R) (hx:x=st 0) (hb:∀again i,i<n->F again (st i)=again (st (i+1))) (hf:∀again,F again (st n)=r):lpK α R F x=r:=by
 rw[hx]
 exact sH n hn st r hb hf
theorem CR (I:α->Prop) (Q:R->Prop) (μ:α->Nat) (h:∀x,I x->(∃r,Q r/\∀rec,F rec x=some r)\/∃y,I y/\μ y<μ x/\∀rec,F rec x=rec y):∀(m:Nat) (x:α),I x->μ x<m->∃r,i8 F m x=some r/\Q r
 | 0,_,_,hm=>by omega
 | m+1,x,hx,hm=>by
  rw[gq]
  rcases h x hx with ⟨r,h1,h2⟩ | ⟨y,h1,h2,h3⟩
  ·exact ⟨r,h2 _,h1⟩
  ·rw[h3]
   exact CR I Q μ h m y h1 (by omega)
theorem Pf (I:α->Prop) (Q:R->Prop) (μ:α->Nat) (h:∀x,I x->(∃r,Q r/\∀rec,F rec x=some r)\/∃y,I y/\μ y<μ x/\∀rec,F rec x=rec y) {x:α} (hx:I x) (hn:μ x<1180591620717411303424):∃r,lpK α R F x=some r/\Q r :=
 CR I Q μ h K0 x hx hn
theorem xT {γ:Type} (I:γ->α->Prop) (Q:R->Prop) (μ:γ->Nat) (h:∀s x,I s x->(∃r,Q r/\∀rec,F rec x=some r)\/∃s' y,I s' y/\μ s'<μ s/\∀rec,F rec x=rec y):∀(m:Nat) (s:γ) (x:α),I s x->μ s<m->∃r,i8 F m x=some r/\Q r
 | 0,_,_,_,hm=>by omega
 | m+1,s,x,hx,hm=>by
  rw[gq]
  rcases h s x hx with ⟨r,h1,h2⟩ | ⟨s',y,h1,h2,h3⟩
  ·exact ⟨r,h2 _,h1⟩
  ·rw[h3]
   exact xT I Q μ h m s' y h1 (by omega)
theorem LZ {γ:Type} (I:γ->α->Prop) (Q:R->Prop) (μ:γ->Nat) (h:∀s x,I s x->(∃r,Q r/\∀rec,F rec x=some r)\/∃s' y,I s' y/\μ s'<μ s/\∀rec,F rec x=rec y) {s:γ} {x:α} (hx:I s x) (hn:μ s<1180591620717411303424):∃r,lpK α R F x=some r/\Q r :=
 xT I Q μ h K0 s x hx hn
theorem yM {γ:Type} (I:γ->α->Prop) (Q:Option R->Prop) (μ:γ->Nat) (h:∀rec s x,I s x->Q (F rec x)\/∃s' y,I s' y/\μ s'<μ s/\F rec x=rec y):∀(m:Nat) (s:γ) (x:α),I s x->μ s<m->Q (i8 F m x)
 | 0,_,_,_,hm=>by omega
 | m+1,s,x,hx,hm=>by
  rw[gq]
  rcases h (i8 F m) s x hx with h1 | ⟨s',y,h1,h2,h3⟩
  ·exact h1
  ·rw[h3]
   exact yM I Q μ h m s' y h1 (by omega)
theorem uX {γ:Type} (I:γ->α->Prop) (Q:Option R->Prop) (μ:γ->Nat) (h:∀rec s x,I s x->Q (F rec x)\/∃s' y,I s' y/\μ s'<μ s/\F rec x=rec y) {s:γ} {x:α} (hx:I s x) (hn:μ s<1180591620717411303424):Q (lpK α R F x) :=
 yM I Q μ h K0 s x hx hn
theorem Iq {x:α} (Q:Option R->Prop) (n:Nat) (hn:n<=1180591620717411303423) (st:Nat->α) (hx:x=st 0) (hb:∀again i,i<n->F again (st i)=again (st (i+1))) (hf:∀again,Q (F again (st n))):Q (lpK α R F x) :=
 uX (γ:=Nat) (fun i x=>i<=n/\x=st i) Q (fun i=>n - i) (fun rec i x ⟨h1,h2⟩=>by
  by_cases e:i=n
  ·subst h2;subst e;exact .inl (hf rec)
  ·exact .inr ⟨i+1,st (i+1),⟨by omega,rfl⟩,by omega,by rw[h2];exact hb rec i (by omega)⟩) (s:=0) ⟨by omega,hx⟩ (by omega)
end
theorem wI (n:Nat) (p:Nat->Bool):(∀j,j<n->p j=false)\/∃j,j<n/\p j=true/\∀i,i<j->p i=false:=by
 induction n with
 | zero=>exact .inl fun j hj=>by omega
 | succ n ih =>
  rcases ih with h | ⟨j,h1,h2,h3⟩
  ·cases hp:p n with
   | true=>exact .inr ⟨n,by omega,hp,h⟩
   | false =>
    refine .inl fun j hj=>?_
    by_cases e:j=n
    ·rw[e];exact hp
    ·exact h j (by omega)
  ·exact .inr ⟨j,by omega,h2,h3⟩
def bV {α:Type} (w:Nat) (f:Nat->α):List α:=(List.range w).map f
def q6 (m w:Nat) (T:Nat->Nat->Int):List (List Int):=(List.range m).map fun i=>bV w (T i)
def dF (m w:Nat) (T:Nat->Nat->Int):List (Option (List Int)):=(List.range m).map fun i=>some (bV w (T i))
def iA (m w:Nat) (T:Nat->Nat->Int):List Nat×List (Option (List Int)):=(List.range m,dF m w T)
def iH (m:Nat) (β:Nat->Nat):List Int:=bV m fun i=>(β i:Int)
section
variable {α:Type} {m w:Nat} {T T':Nat->Nat->Int}
theorem bf {f:Nat->α}:(bV w f).length=w:=by unfold bV;rw[List.length_map,List.length_range]
theorem bM {f:Nat->α} {d:α} {j:Nat} (h:j<w):(bV w f).getD j d=f j:=by
 unfold bV
 rw[bG (by rw[List.length_map,List.length_range];exact h),List.getElem_map,List.getElem_range]
theorem qq {f:Nat->α} {j:Nat} (h:j<(bV w f).length):(bV w f)[j]=f j :=
 (List.getElem_map f (l:=List.range w) (h:=h)).trans (congrArg f (List.getElem_range _))
theorem cR {f g:Nat->α} (h:∀j,j<w->f j=g j):bV w f=bV w g:=by
 unfold bV
 exact List.map_congr_left fun j hj=>h j (List.mem_range.1 hj)
theorem iJ {f:Nat->α} {j:Nat} {x:α} (_:j<w):(bV w f).set j x=bV w fun k=>if k=j then x else f k:=by
 refine List.ext_getElem (by rw[List.length_set,bf,bf]) fun i h1 h2=>?_
 have h3:i<w:=by rw[bf] at h2;exact h2
 rw[List.getElem_set,qq,qq]
 by_cases e:j=i
 ·rw[if_pos e,if_pos e.symm]
 ·rw[if_neg e,if_neg (Ne.symm e)]
theorem gI:(q6 m w T).length=m:=by unfold q6;rw[List.length_map,List.length_range]
theorem nf {i:Nat} (h:i<m):(q6 m w T).getD i []=bV w (T i):=by
 unfold q6
 rw[bG (by rw[List.length_map,List.length_range];exact h),List.getElem_map,List.getElem_range]
theorem nj:(dF m w T).length=m:=by unfold dF;rw[List.length_map,List.length_range]
theorem gF:(iA m w T).1.length=m:=by unfold iA;exact List.length_range
theorem kj {i:Nat} (h:i<m):(iA m w T).1.getD i 0=i:=by
 unfold iA
 rw[bG (by rw[List.length_range];exact h),List.getElem_range]
theorem qf {i:Nat} (h:i<m):(dF m w T).getD i none=some (bV w (T i)):=by
 unfold dF
 rw[bG (by rw[List.length_map,List.length_range];exact h),List.getElem_map,List.getElem_range]
theorem Cq {i:Nat} (h:i<(dF m w T).length):(dF m w T)[i]=some (bV w (T i)) :=
 (List.getElem_map (fun i=>some (bV w (T i))) (l:=List.range m) (h:=h)).trans (congrArg (fun i=>some (bV w (T i))) (List.getElem_range _))
theorem gk {i:Nat} (h:i<m):ah (dF m w T) i=bV w (T i):=by unfold ah;rw[qf h];rfl
theorem tx {i:Nat} (h:i<m):eD (dF m w T) i=true:=by unfold eD;rw[qf h];rfl
theorem ig (h:∀i j,i<m->j<w->T i j=T' i j):dF m w T=dF m w T':=by
 unfold dF
 exact List.map_congr_left fun i hi=>by rw[cR fun j hj=>h i j (List.mem_range.1 hi) hj]
theorem iX (h:∀i j,i<m->j<w->T i j=T' i j):iA m w T=iA m w T':=by unfold iA;rw[ig h]
theorem Cy {i j:Nat} {x:Int} (_:i<m) (hj:j<w):(dF m w T).set i (some ((bV w (T i)).set j x))=dF m w fun k l=>if k=i/\l=j then x else T k l:=by
 rw[iJ hj]
 refine List.ext_getElem (by rw[List.length_set,nj,nj]) fun k h1 h2=>?_
 have h3:k<m:=by rw[nj] at h2;exact h2
 rw[List.getElem_set,Cq,Cq]
 by_cases e:i=k
 ·subst e
  rw[if_pos rfl]
  congr 1
  refine cR fun l _=>?_
  simp
 ·rw[if_neg e]
  congr 1
  refine cR fun l _=>?_
  rw[if_neg fun h=>e h.1.symm]
theorem gZ:((iA m w T).1.all fun x=>eD (iA m w T).2 x)=true:=by
 rw[List.all_eq_true]
 intro i hi
 exact tx (List.mem_range.1 hi)
theorem g9:(iA m w T).1.map (fun x=>ah (iA m w T).2 x)=q6 m w T:=by
 unfold iA q6
 exact List.map_congr_left fun i hi=>gk (List.mem_range.1 hi)
theorem iP {β:Nat->Nat}:(iH m β).length=m:=bf
theorem jx {β:Nat->Nat} {i:Nat} (h:i<m):(iH m β).getD i 0=(β i:Int):=bM h
theorem Jt {β:Nat->Nat} {r c:Nat} (h:r<m):(iH m β).set r (c:Int)=iH m (upd β r c):=by
 unfold iH
 rw[iJ h]
 refine cR fun k _=>?_
 unfold upd
 by_cases e:k=r
 ·rw[if_pos e,if_pos e]
 ·rw[if_neg e,if_neg e]
end
end Dn
end Go.Proofs.YtfknoaclabfdlaaGreat

namespace Go.Proofs.YtfknoaclabfdlaaGreat
noncomputable section
open Tryz Dn Dn.Sh
def bnS (s:Sy) (i:Nat):ByteArray:=(s.1.getD i bk0).1
def bwS (s:Sy) (i:Nat):Int:=(s.1.getD i bk0).2
def rnS (s:Sy) (k:Nat):ByteArray:=(s.2.getD k rp0).1
def hsS (s:Sy) (k:Nat):List Hd:=(s.2.getD k rp0).2.1
structure ValidS (s:Sy):Prop where
 bl:1<=s.1.length/\s.1.length<=6
 rl:1<=s.2.length/\s.2.length<=6
 inj:∀i j,i<s.1.length->j<s.1.length->bnS s i=bnS s j->i=j
 rinj:∀i j,i<s.2.length->j<s.2.length->rnS s i=rnS s j->i=j
 wt:∀i,i<s.1.length->0<=bwS s i/\bwS s i<=16777216
 hl:∀k,k<s.2.length->(hsS s k).length<=10
 pl:∀k h,k<s.2.length->h<(hsS s k).length-> -2<=((hsS s k).getD h hd0).2.1/\((hsS s k).getD h hd0).2.1<=2
theorem om {n i:Nat} (h:i<n):i ∈ List.range' 0 n:=List.mem_range'.2 ⟨i,h,by omega⟩
theorem Bc {s:Sy} {h:Hd} {e:Bool} (hh:kn s h e=true): -2<=h.2.1/\h.2.1<=2:=by
 unfold kn at hh
 rw[z10] at hh
 have h2:=hh.2
 cases he:nF h.1 with
 | true=>rw[he,cT,decide_eq_true_iff] at h2;omega
 | false =>
  rw[he,cF,z10] at h2
  have h3:=h2.2
  cases e with
  | true=>rw[cT,Bool.or_eq_true,decide_eq_true_iff,decide_eq_true_iff] at h3;omega
  | false=>rw[cF,Bool.or_eq_true,Bool.or_eq_true,decide_eq_true_iff,decide_eq_true_iff,decide_eq_true_iff] at h3;omega
theorem lh {l:List ByteArray} {i j:Nat} {d:ByteArray} (h1:i<j) (h2:j<=l.length):l.getD i d ∈ l.take j:=by
 rw[bG (by omega)]
 exact List.mem_take_iff_getElem.2 ⟨i,by omega,rfl⟩
theorem gJ {s:Sy} (h:fe s=true):ValidS s:=by
 unfold fe at h
 rw[z10,z10,z10,decide_eq_true_iff,List.all_eq_true,List.all_eq_true] at h
 obtain ⟨⟨h1,h2,h3,h4⟩,hb,hr,_⟩:=h
 have hb':∀i,i<s.1.length->bnS s i ∉ (s.1.map (·.fst)).take i/\0<=bwS s i/\bwS s i<=16777216:=fun i hi=>by
  have:=hb i (om hi)
  unfold lW nX at this
  rw[z10,z10,z10,Bool.not_eq_true',r8,decide_eq_true_iff,decide_eq_true_iff] at this
  exact this.2
 have hr':∀i,i<s.2.length->rnS s i ∉ (s.2.map (·.fst)).take i/\oI s (s.2.getD i rp0)=true:=fun i hi=>by
  have:=hr i (om hi)
  unfold gB at this
  rw[z10,z10,Bool.not_eq_true',r8,List.mem_append] at this
  exact ⟨fun hm=>this.2.1 (.inr hm),this.2.2⟩
 have hro:∀k,k<s.2.length->(2<=(hsS s k).length/\(hsS s k).length<=10)/\∀i,i<(hsS s k).length->∃e,kn s ((hsS s k).getD i hd0) e=true:=fun k hk=>by
  have:=(hr' k hk).2
  unfold oI at this
  rw[z10,z10,decide_eq_true_iff,List.all_eq_true] at this
  exact ⟨this.1,fun i hi=>⟨_,this.2.1 i (om hi)⟩⟩
 refine ⟨⟨h1,h2⟩,⟨h3,h4⟩,fun i j hi hj he=>?_,fun i j hi hj he=>?_,fun i hi=>(hb' i hi).2,fun k hk=>(hro k hk).1.2,fun k h hk hh=>?_⟩
 ·have e1:∀k,k<s.1.length->(s.1.map (·.fst)).getD k bk0.1=bnS s k:=fun k hk=>nk (f:=fun b:Bk=>b.1) (d:=bk0) hk bk0.1
  rcases Nat.lt_trichotomy i j with h | h | h
  ·exfalso
   apply (hb' j hj).1
   rw[<-he,<-e1 i hi]
   exact lh h (by rw[List.length_map];omega)
  ·exact h
  ·exfalso
   apply (hb' i hi).1
   rw[he,<-e1 j hj]
   exact lh h (by rw[List.length_map];omega)
 ·have e1:∀k,k<s.2.length->(s.2.map (·.fst)).getD k rp0.1=rnS s k:=fun k hk=>nk (f:=fun b:Rp=>b.1) (d:=rp0) hk rp0.1
  rcases Nat.lt_trichotomy i j with h | h | h
  ·exfalso
   apply (hr' j hj).1
   rw[<-he,<-e1 i hi]
   exact lh h (by rw[List.length_map];omega)
  ·exact h
  ·exfalso
   apply (hr' i hi).1
   rw[he,<-e1 j hj]
   exact lh h (by rw[List.length_map];omega)
 ·obtain ⟨e,he⟩:=(hro k hk).2 h hh
  exact Bc he
theorem Gz (s:Sy) (n:ByteArray):(fbI s n<0/\∀i,i<s.1.length->bnS s i≠n)\/∃i:Nat,i<s.1.length/\fbI s n=(i:Int)/\bnS s i=n:=by
 by_cases h:fbI s n<0
 ·refine .inl ⟨h,fun i hi he=>?_⟩
  have:=(ww (p:=fun b:Bk=>decide (b.1=n)) (l:=s.1) (i:=0) (by omega)).1 h (s.1.getD i bk0) (by rw[bG hi];exact List.getElem_mem _)
  exact of_decide_eq_false this he
 ·obtain ⟨_,h2,h3⟩:=FF (p:=fun b:Bk=>decide (b.1=n)) (d:=bk0) (l:=s.1) (i:=0) (by omega) (Int.not_lt.1 h)
  refine .inr ⟨(fbI s n).toNat,?_,?_,?_⟩
  ·unfold fbI;omega
  ·unfold fbI at h ⊢;omega
  ·have:=z12 h3
   rw[Int.sub_zero] at this
   exact this
def mg (hs:List Hd) (n:ByteArray) (h:Nat):Int:=sz h fun t=>if (hs.getD t hd0).1=n then (hs.getD t hd0).2.1 else 0
def Mx (s:Sy) (i k:Nat):Int:=mg (hsS s k) (bnS s i) (hsS s k).length
theorem px {hs:List Hd} {n:ByteArray} (hp:∀t,t<hs.length-> -2<=(hs.getD t hd0).2.1/\(hs.getD t hd0).2.1<=2):∀h,h<=hs.length-> -(2*(h:Int))<=mg hs n h/\mg hs n h<=2*(h:Int)
 | 0,_=>by simp[mg,sz]
 | h+1,hh=>by
  have:=px (n:=n) hp h (by omega)
  have h2:=hp h (by omega)
  unfold mg at *
  simp only[sz]
  split<;>omega
theorem Jo {s:Sy} (hv:ValidS s) (i:Nat) {k:Nat} (hk:k<s.2.length): -20<=Mx s i k/\Mx s i k<=20:=by
 have h1:=px (n:=bnS s i) (hs:=hsS s k) (fun t ht=>hv.pl k t hk ht) _ (Nat.le_refl _)
 have h2:=hv.hl k hk
 unfold Mx
 omega
theorem eq {i:Nat} (h:i<=1000000):IntKind.wrap .i64 ((i:Int)+1)=((i+1:Nat):Int):=by rw[be (by omega) (by omega)];rfl
def LU (s:Sy):List (List Int):=q6 s.1.length s.2.length (Mx s)
theorem wj {α:Type} {w:Nat} {f:Nat->α}:bV w f++[f w]=bV (w+1) f:=by
 unfold bV
 rw[List.range_succ,List.map_append]
 rfl
theorem AL {m w:Nat} {T:Nat->Nat->Int}:dF m w T++[some (bV w (T m))]=dF (m+1) w T:=by
 unfold dF
 rw[List.range_succ,List.map_append]
 rfl
def Qp (T:List Nat) (x0:Sy):Option (List (List Int)×Int×Unit) :=
 aa (aI x0) fun (t:Bool)=>bif !t then some ([],(1:Int),PUnit.unit) else bif decide ((0:Int)<=(↑(List.length x0.1):Int))&&dR (Int.toNat (↑(List.length x0.1):Int)) (24:Nat) then lpK (Int×(List Nat×List (Option (List Int)))×PUnit) (List (List Int)×Int×PUnit) (fun (again:Int×(List Nat×List (Option (List Int)))×PUnit->Option (List (List Int)×Int×PUnit)) (x:Int×(List Nat×List (Option (List Int)))×PUnit)=>bif decide (x.1<(↑(List.length T):Int)) then bif decide ((0:Int)<=(↑(List.length x0.2):Int))&&dR (Int.toNat (↑(List.length x0.2):Int)) (8:Nat) then bif inB x.1 (List.length x.2.1.1) then bif Nat.ble (Nat.succ (Int.toNat x.1)) (List.length x.2.1.1) then again (IntKind.wrap .i64 (x.1+(1:Int)),(List.set x.2.1.1 (Int.toNat x.1) (List.length x.2.1.2),x.2.1.2++[some (List.replicate (Int.toNat (↑(List.length x0.2):Int)) (0:Int))]),PUnit.unit) else none else none else none else lpK (Int×(List Nat×List (Option (List Int)))×PUnit) (List (List Int)×Int×PUnit) (fun (again:Int×(List Nat×List (Option (List Int)))×PUnit->Option (List (List Int)×Int×PUnit)) (x:Int×(List Nat×List (Option (List Int)))×PUnit)=>bif decide (x.1<(↑(List.length x0.2):Int)) then bif inB x.1 (List.length x0.2) then lpK (Int×(List Nat×List (Option (List Int)))×PUnit) (List (List Int)×Int×PUnit) (fun (again_1:Int×(List Nat×List (Option (List Int)))×PUnit->Option (List (List Int)×Int×PUnit)) (x_1:Int×(List Nat×List (Option (List Int)))×PUnit)=>let v10:Int:=IntKind.wrap .i64 (x_1.1+(1:Int));let v11:(List Nat×List (Option (List Int)))×PUnit:=(x_1.2.1,PUnit.unit);let v12:ByteArray×Int×Int×Int:=List.getD (List.getD x0.2 (Int.toNat x.1) ({ data:={ toList:=[] } },[],false)).2.1 (Int.toNat x_1.1) ({ data:={ toList:=[] } },(0:Int),(0:Int),(0:Int));bif decide (x_1.1<(↑(List.length (List.getD x0.2 (Int.toNat x.1) ({ data:={ toList:=[] } },[],false)).2.1):Int)) then bif inB x_1.1 (List.length (List.getD x0.2 (Int.toNat x.1) ({ data:={ toList:=[] } },[],false)).2.1) then aa (bZ x0 v12.1) fun (t:Int)=>bif decide (t>=(0:Int)) then bif inB t (List.length x_1.2.1.1) then bif Nat.ble (Nat.succ (Int.toNat t)) (List.length x_1.2.1.1) then bif inB x.1 (List.length (ah x_1.2.1.2 (List.getD x_1.2.1.1 (Int.toNat t) (0:Nat)))) then bif Nat.ble (Nat.succ (Int.toNat x.1)) (List.length (ah x_1.2.1.2 (List.getD x_1.2.1.1 (Int.toNat t) (0:Nat)))) then bif inB x.1 (List.length (ah x_1.2.1.2 (List.getD x_1.2.1.1 (Int.toNat t) (0:Nat)))) then bif Nat.ble (Nat.succ (Int.toNat x.1)) (List.length (ah x_1.2.1.2 (List.getD x_1.2.1.1 (Int.toNat t) (0:Nat)))) then again_1 (v10,(x_1.2.1.1,List.set x_1.2.1.2 (List.getD x_1.2.1.1 (Int.toNat t) (0:Nat)) (some (List.set (ah x_1.2.1.2 (List.getD x_1.2.1.1 (Int.toNat t) (0:Nat))) (Int.toNat x.1) (IntKind.wrap .i64 (List.getD (ah x_1.2.1.2 (List.getD x_1.2.1.1 (Int.toNat t) (0:Nat))) (Int.toNat x.1) (0:Int)+v12.2.1))))),PUnit.unit) else none else none else none else none else none else none else again_1 (v10,v11) else none else again (IntKind.wrap .i64 (x.1+(1:Int)),v11)) ((0:Int),x.2.1,PUnit.unit) else none else bif List.all x.2.1.1 fun (x_1:Nat)=>eD x.2.1.2 x_1 then some (List.map (fun (x_1:Nat)=>ah x.2.1.2 x_1) x.2.1.1,(0:Int),PUnit.unit) else none) ((0:Int),x.2.1,PUnit.unit)) ((0:Int),(T,List.replicate (Int.toNat (↑(List.length x0.1):Int)) (some [])),PUnit.unit) else none
theorem FG (s:Sy):ce s=Qp (xk Sh.ref (0:Nat) (Int.toNat (↑(List.length s.1):Int)) 0) s:=by kernel_rfl
theorem vL:∀(n k:Nat),xk Sh.ref (0:Nat) n k=(List.range n).map fun i=>k+i
 | 0,_=>rfl
 | n+1,k=>by
  rw[List.range_succ_eq_map,List.map_cons,List.map_map]
  unfold xk
  rw[vL n (k+1)]
  have e:shS k Sh.ref (0:Nat)=k+0:=rfl
  rw[e]
  congr 1
  refine List.map_congr_left fun i _=>?_
  simp only[Function.comp]
  omega
def uJ (m w:Nat) (T:Nat->Nat->Int):List Nat×List (Option (List Int)):=(bV m fun k=>m+k,List.replicate m (some [])++dF m w T)
theorem HE {n:Nat}:List.replicate n (0:Int)=bV n fun _=>0:=by
 unfold bV
 rw[List.map_const',List.length_range]
section
variable {m w:Nat} {T:Nat->Nat->Int}
theorem Cd {i:Nat}:(List.replicate m (some ([]:List Int))++dF m w T).getD (m+i) none=(dF m w T).getD i none:=by
 rw[List.getD_eq_getElem?_getD,List.getD_eq_getElem?_getD,List.getElem?_append_right (by rw[List.length_replicate];omega),List.length_replicate,Nat.add_sub_cancel_left]
theorem CE {i:Nat} (h:i<m):ah (List.replicate m (some ([]:List Int))++dF m w T) (m+i)=bV w (T i):=by
 unfold ah
 rw[Cd,qf h]
 rfl
theorem Gf {i:Nat} (h:i<m):eD (List.replicate m (some ([]:List Int))++dF m w T) (m+i)=true:=by
 unfold eD
 rw[Cd,qf h]
 rfl
theorem Jj {i j:Nat} {x:Int} (hi:i<m) (hj:j<w):(List.replicate m (some ([]:List Int))++dF m w T).set (m+i) (some ((bV w (T i)).set j x))=List.replicate m (some [])++dF m w fun k l=>if k=i/\l=j then x else T k l:=by
 rw[List.set_append_right _ _ (by rw[List.length_replicate];omega),List.length_replicate,Nat.add_sub_cancel_left,Cy hi hj]
end
theorem NJ {s:Sy} (h:fe s=true):ce s=some (LU s,0,()):=by
 have hv:=gJ h
 have hb:=hv.bl
 have hr:=hv.rl
 have hf:=fun n=>CI s n (show s.1.length<=1000000 by omega)
 rw[FG,vL]
 simp only[Qp,sr,h,af,Bool.not_true,cF,z9,List.length_map,List.length_range,z7 (show (0:Int)<=(s.1.length:Nat) by omega),z7 (show (0:Int)<=(s.2.length:Nat) by omega),
  fM (show s.1.length*24<=140737488355328 by omega),fM (show s.2.length*8<=140737488355328 by omega),Bool.and_self,cT]
 obtain ⟨m,hm⟩:∃m,m=s.1.length:=⟨_,rfl⟩
 obtain ⟨w,hw⟩:∃w,w=s.2.length:=⟨_,rfl⟩
 rw[<-hm] at hb ⊢
 rw[<-hw] at hr ⊢
 refine cM m (by omega) (fun i=>((i:Int),(bV m (fun k=>if k<i then m+k else k),List.replicate m (some [])++dF i w fun _ _=>0),PUnit.unit)) _ ?_ (fun again i hi=>?_) (fun again=>?_)
 ·have e:(List.range m).map (fun i=>0+i)=bV m (fun k=>if k<0 then m+k else k):=cR (f:=fun i=>0+i) fun k _=>by rw[if_neg (by omega),Nat.zero_add]
  rw[e]
  show _=((0:Int),(_,List.replicate m (some ([]:List Int))++[]),PUnit.unit)
  rw[List.append_nil]
 ·simp only[bo,bf,z7 hi,z7 (show (i:Int)<m by omega),cT,z9,di (show i.succ<=m by omega),eq (show i<=1000000 by omega)]
  refine congrArg again ?_
  refine congrArg (fun p=>(((i+1:Nat):Int),p,PUnit.unit)) ?_
  rw[iJ hi,List.length_append,List.length_replicate,nj,HE,List.append_assoc,AL]
  refine congrArg (fun l=>(l,_)) ?_
  refine cR fun k _=>?_
  by_cases c:k=i
  ·rw[if_pos c,if_pos (by omega)];omega
  ·rw[if_neg c]
   by_cases c2:k<i
   ·rw[if_pos c2,if_pos (by omega)]
   ·rw[if_neg c2,if_neg (by omega)]
 ·simp only[z8 (show ¬ (m:Int)<m by omega),cF]
  refine cM w (by omega) (fun k=>((k:Int),uJ m w (fun i j=>if j<k then Mx s i j else 0),PUnit.unit)) _ ?_ (fun again k hk=>?_) (fun again=>?_)
  ·refine congrArg (fun p=>((0:Int),p,PUnit.unit)) ?_
   unfold uJ
   refine Prod.ext (cR fun k hk=>by rw[if_pos hk]) ?_
   simp only
   rw[ig fun i j _ _=>(if_neg (show ¬ j<0 by omega)).symm]
  ·have hwk:k<s.2.length:=by omega
   have hpl:=fun t ht=>hv.pl k t hwk ht
   have hhl:=hv.hl k hwk
   have hpb:=fun n=>px (n:=n) (hs:=hsS s k) hpl
   simp only[bo,z7 hk,z7 (show (k:Int)<w by omega),cT,z9,eq (show k<=1000000 by omega),show (List.getD s.2 k ({ data:={ toList:=[] } },[],false)).2.1=hsS s k from rfl]
   refine cM (hsS s k).length (by omega) (fun t=>((t:Int),uJ m w (fun i j=>if j<k then Mx s i j else if j=k then mg (hsS s k) (bnS s i) t else 0),PUnit.unit)) _ ?_ (fun again1 t ht=>?_) (fun again1=>?_)
   ·refine congrArg (fun p=>((0:Int),p,PUnit.unit)) ?_
    unfold uJ
    refine congrArg (fun c=>(_,List.replicate m (some ([]:List Int))++c)) (ig fun i j _ _=>?_)
    by_cases c1:j<k
    ·rw[if_pos c1,if_pos c1]
    ·rw[if_neg c1,if_neg c1]
     split<;>rfl
   ·obtain ⟨hd,hhd⟩:∃hd,hd=(hsS s k).getD t hd0:=⟨_,rfl⟩
    have hpt:=hpl t ht
    simp only[bo,z7 ht,z7 (show (t:Int)<(hsS s k).length by omega),cT,z9,eq (show t<=1000000 by omega),show List.getD (hsS s k) t ({ data:={ toList:=[] } },(0:Int),(0:Int),(0:Int))=(hsS s k).getD t hd0 from rfl,hf,af]
    rw[<-hhd] at hpt ⊢
    have estep:∀n,mg (hsS s k) n (t+1)=mg (hsS s k) n t+if hd.1=n then hd.2.1 else 0:=fun n=>by rw[hhd];rfl
    rcases Gz s hd.1 with ⟨h1,h2⟩ | ⟨i0,h1,h2,h3⟩
    ·rw[z8 (show ¬ fbI s hd.1>=0 by omega),cF]
     refine congrArg again1 ?_
     refine congrArg (fun p=>(((t+1:Nat):Int),p,PUnit.unit)) ?_
     unfold uJ
     refine congrArg (fun c=>(_,List.replicate m (some ([]:List Int))++c)) (ig fun i j hi _=>?_)
     have e:mg (hsS s k) (bnS s i) (t+1)=mg (hsS s k) (bnS s i) t:=by
      rw[estep,if_neg fun e=>h2 i (by omega) e.symm,Int.add_zero]
     rw[e]
    ·have hi0:i0<m:=by omega
     have hTl:(bV m fun k=>m+k).getD i0 0=m+i0:=bM hi0
     have hrow:=CE (w:=w) (T:=fun i j=>if j<k then Mx s i j else if j=k then mg (hsS s k) (bnS s i) t else 0) hi0
     have hget:(bV w fun j=>if j<k then Mx s i0 j else if j=k then mg (hsS s k) (bnS s i0) t else 0).getD k 0=mg (hsS s k) (bnS s i0) t:=by
      rw[bM hk,if_neg (by omega),if_pos rfl]
     have hb1:=hpb (bnS s i0) t (by omega)
     simp only[h2,z7 (show (i0:Int)>=0 by omega),cT,z9]
     unfold uJ
     simp only[bo,bf,z7 hi0,cT,hTl,hrow,z7 hk,di (show k.succ<=w by omega),di (show i0.succ<=m by omega),hget]
     rw[be (by omega) (by omega),Jj (T:=fun i j=>if j<k then Mx s i j else if j=k then mg (hsS s k) (bnS s i) t else 0) hi0 hk]
     refine congrArg again1 ?_
     refine congrArg (fun c=>(((t+1:Nat):Int),(_,List.replicate m (some ([]:List Int))++c),PUnit.unit)) (ig fun i j hi _=>?_)
     by_cases c1:j=k
     ·subst c1
      by_cases c2:i=i0
      ·subst c2
       rw[if_pos ⟨rfl,rfl⟩,if_neg (by omega),if_pos rfl,estep,if_pos h3.symm]
      ·rw[if_neg fun e=>c2 e.1,if_neg (by omega),if_pos rfl,if_neg (by omega),if_pos rfl,estep,if_neg,Int.add_zero]
       intro e
       exact c2 (hv.inj i i0 (by omega) h1 (by rw[h3,e]))
     ·rw[if_neg fun e=>c1 e.2,if_neg c1,if_neg c1]
   ·simp only[z8 (show ¬ ((hsS s k).length:Int)<(hsS s k).length by omega),cF]
    refine congrArg again ?_
    refine congrArg (fun p=>(((k+1:Nat):Int),p,PUnit.unit)) ?_
    unfold uJ
    refine congrArg (fun c=>(_,List.replicate m (some ([]:List Int))++c)) (ig fun i j _ _=>?_)
    by_cases c1:j<k
    ·rw[if_pos c1,if_pos (by omega)]
    ·rw[if_neg c1]
     by_cases c2:j=k
     ·subst c2
      rw[if_pos rfl,if_pos (by omega)]
      rfl
     ·rw[if_neg c2,if_neg (by omega)]
  ·simp only[z8 (show ¬ (w:Int)<w by omega),cF]
   have hall:((uJ m w fun i j=>if j<w then Mx s i j else 0).1.all fun x=>eD (uJ m w fun i j=>if j<w then Mx s i j else 0).2 x)=true:=by
    rw[List.all_eq_true]
    intro x hx
    obtain ⟨i,hi,rfl⟩:=List.mem_map.1 hx
    exact Gf (List.mem_range.1 hi)
   have hmap:(uJ m w fun i j=>if j<w then Mx s i j else 0).1.map (fun x=>ah (uJ m w fun i j=>if j<w then Mx s i j else 0).2 x)=LU s:=by
    unfold LU q6
    rw[<-hm,<-hw]
    unfold uJ bV
    rw[List.map_map]
    refine List.map_congr_left fun i hi=>?_
    have:=CE (w:=w) (T:=fun i j=>if j<w then Mx s i j else 0) (List.mem_range.1 hi)
    exact this.trans (cR fun j hj=>if_pos hj)
   rw[hall,hmap,cT]
theorem HR {s:Sy} (h:fe s=false):ce s=some ([],1,()):=by
 rw[FG]
 simp only[Qp,sr,h,af,Bool.not_false,cT]
def jy:List Int->List Fq->Rat->Option Rat
 | n ::l,a ::x,s=>if fm ((n:Rat)*qv a)/\fm (s+(n:Rat)*qv a) then jy l x (s+(n:Rat)*qv a) else none
 | _,_,s=>some s
def O6 {R:Type} (o:Option Rat) (bad:Option R) (good:Rat->Option R):Option R:=match o with
 | some q=>good q
 | none=>bad
theorem Ir {σ R:Type} {l:List Int} {x:List Fq} (hl:l.length<=x.length) {b:Nat->σ->(σ->Option R)->Option R} {f:σ->Option R} {cur:σ->Rat} {bad:Option R} {good:Rat->Option R}
  (nx:∀i s,fm (cur s+((l.getD i 0:Int):Rat)*qv (x.getD i (0,0)))->σ) (hnx:∀i s h,cur (nx i s h)=cur s+((l.getD i 0:Int):Rat)*qv (x.getD i (0,0)))
  (hb:∀i s k,i<l.length->b i s k=if h:fm (((l.getD i 0:Int):Rat)*qv (x.getD i (0,0)))/\fm (cur s+((l.getD i 0:Int):Rat)*qv (x.getD i (0,0))) then k (nx i s h.2) else bad)
  (hf:∀s,f s=good (cur s)):∀(k i:Nat) (s:σ),i+k=l.length->upF b f k i s=O6 (jy (l.drop i) (x.drop i) (cur s)) bad good
 | 0,i,s,h=>by
  rw[List.drop_eq_nil_of_le (by omega)]
  exact hf s
 | k+1,i,s,h=>by
  have h1:i<l.length:=by omega
  have h2:i<x.length:=by omega
  have e1:l.getD i 0=l[i]:=bG h1
  have e2:x.getD i (0,0)=x[i]:=bG h2
  simp only[upF]
  rw[hb i s _ h1,List.drop_eq_getElem_cons h1,List.drop_eq_getElem_cons h2,jy,<-e1,<-e2]
  split
  ·rw[Ir hl nx hnx hb hf k (i+1) _ (by omega),hnx]
  ·rfl
theorem obN {T R:Type} {t:T} {k:T->Option R}:aa (some t) k=k t:=id rfl
theorem tQ:∀{l:List Int} {x:List Fq} {s q:Rat},fm s->jy l x s=some q->fm q
 | [],_,s,q,hs,h=>by
  unfold jy at h
  injection h with h
  rw[<-h];exact hs
 | _ ::_,[],s,q,hs,h=>by
  unfold jy at h
  injection h with h
  rw[<-h];exact hs
 | n ::l,a ::x,s,q,hs,h=>by
  unfold jy at h
  split at h
  ·rename_i hh
   exact tQ hh.2 h
  ·cases h
structure ValidP (p:Pg):Prop where
 cost:1<=p.1.length/\p.1.length<=12
 rows:p.2.length<=6
 cs:∀n ∈ p.1,inC n=true
 len:∀r ∈ p.2,r.1.length=p.1.length
 kind:∀r ∈ p.2,1<=r.2.1/\r.2.1<=3
 right:∀r ∈ p.2,inR r.2.2=true
 coefs:∀r ∈ p.2,∀n ∈ r.1,inC n=true
theorem wi {p:Pg}:zH p=true↔ValidP p:=by
 unfold zH HQ
 rw[z10,z10,decide_eq_true_iff,List.all_eq_true,List.all_eq_true]
 constructor
 ·rintro ⟨⟨h1,h2,h3⟩,h4,h5⟩
  have h6:∀r ∈ p.2,r.1.length=p.1.length/\(1<=r.2.1/\r.2.1<=3)/\inR r.2.2=true/\∀n ∈ r.1,inC n=true:=fun r hr=>by
   have:=h5 r hr
   unfold uc at this
   rw[z10,z10,z10,decide_eq_true_iff,decide_eq_true_iff,List.all_eq_true] at this
   exact this
  exact ⟨⟨h1,h2⟩,h3,h4,fun r hr=>(h6 r hr).1,fun r hr=>(h6 r hr).2.1,fun r hr=>(h6 r hr).2.2.1,fun r hr=>(h6 r hr).2.2.2⟩
 ·rintro ⟨h1,h2,h3,h4,h5,h6,h7⟩
  refine ⟨⟨h1.1,h1.2,h2⟩,h3,fun r hr=>?_⟩
  unfold uc
  rw[z10,z10,z10,decide_eq_true_iff,decide_eq_true_iff,List.all_eq_true]
  exact ⟨h4 r hr,h5 r hr,h6 r hr,h7 r hr⟩
theorem Nn {l:List Int} {x:List Fq}:fm ((jy l x 0).getD 0):=by
 cases h:jy l x 0 with
 | none=>decide
 | some q=>exact tQ (by decide) h
def HX (p:Pg) (x:List Fq):Bool:=p.2.all fun r=>(jy r.1 x 0).isSome
end
end Go.Proofs.YtfknoaclabfdlaaGreat

namespace Go.Proofs.YtfknoaclabfdlaaGreat
open Tryz Dn Dn.Sh
def Qt (s:Sy):List Int:=bV s.1.length (bwS s)
theorem LR {s:Sy} (h:fe s=true):cD s=some (Qt s,0,()):=by
 have hv:=gJ h
 have hb:=hv.bl
 simp only[cD,jv,sr,h,af,Bool.not_true,cF]
 refine cM s.1.length (by omega) (fun i=>(bV i (bwS s),(i:Int),PUnit.unit)) _ rfl (fun again i hi=>?_) (fun again=>?_)
 ·simp only[bo,z7 hi,z7 (show (i:Int)<s.1.length by omega),cT,z9,bf,fM (show (i+1)*8<=140737488355328 by omega),eq (show i<=1000000 by omega),show (List.getD s.1 i ({ data:={ toList:=[] } },(0:Int))).2=bwS s i from rfl,wj]
 ·simp only[z8 (show ¬ (s.1.length:Int)<s.1.length by omega),cF]
  rfl
def jc (s:Sy) (i:Nat):Rw:=(bV s.2.length (Mx s i),(3:Int),bwS s i)
def cf (s:Sy) (c:List Int):Pg:=(c,bV s.1.length (jc s))
theorem A7 {s:Sy} (h:fe s=true) (c:List Int):cA s c=some (cf s c,0,()):=by
 have hv:=gJ h
 have hb:=hv.bl
 unfold cA li
 rw[NJ h,af,LR h,af]
 refine (cF _ _).trans ((cF _ _).trans ?_)
 unfold LU Qt
 refine cM s.1.length (by omega) (fun i=>((i:Int),c,bV i (jc s),PUnit.unit)) _ rfl (fun again i hi=>?_) (fun again=>?_)
 ·simp only[bo,gI,bf,z7 hi,z7 (show (i:Int)<s.1.length by omega),cT,z9,fM (show (i+1)*40<=140737488355328 by omega),eq (show i<=1000000 by omega),nf hi,bM hi]
  rw[show (bV s.2.length (Mx s i),(3:Int),bwS s i)=jc s i from rfl,wj]
 ·simp only[gI,z8 (show ¬ (s.1.length:Int)<s.1.length by omega),cF]
  rfl
theorem GW {s:Sy} (h:fe s=false) (c:List Int):cA s c=some (([],[]),1,()):=by
 simp only[cA,li,HR h,af]
 rfl
def gH (s:Sy):List Int:=List.replicate s.2.length 1
def fG (s:Sy) (k:Nat) (c:Int):List Int:=(List.replicate s.2.length 0).set k c
theorem Fv {s:Sy} {k:Nat} (h:fe s=true) (hk:k<s.2.length) (c:Int):du s (k:Int) c=some (cf s (fG s k c),0,()):=by
 have hr:=(gJ h).rl
 simp only[du,pB,z9,z7 (show (0:Int)<=(s.2.length:Nat) by omega),fM (show s.2.length*8<=140737488355328 by omega),Bool.and_self,cT,bo,z7 hk,di (show k.succ<=s.2.length by omega)]
 rw[show List.set (List.replicate s.2.length (0:Int)) k c=fG s k c from rfl,A7 h]
 rfl
theorem Fz (z:Int) {n:Nat} (hn:n<=1000000):cv [z] (n:Int)=some (List.replicate n z):=by
 have hm:gD (IntKind.wrap .u64 ((List.length [z]:Nat):Int)) (IntKind.wrap .u64 (n:Int))=some (0,(n:Int),()):=by
  simp only[gD,rI]
  rw[bL (by simp) (by simp),bL (by omega) (by omega),Qg (by simp) (by simp) (by omega) (by omega),af]
  simp only[List.length_singleton]
  congr 1
  refine Prod.ext ?_ (Prod.ext ?_ rfl)
  ·show ((1:Nat):Int)*n / 18446744073709551616=0
   omega
  ·show ((1:Nat):Int)*n % 18446744073709551616=n
   omega
 have hw:IntKind.wrap .i64 (n:Int)=(n:Int):=be (by omega) (by omega)
 simp only[cv,iW,jnT]
 rw[z8 (show ¬ (n:Int)<0 by omega),cF,hm,af]
 have h63:decide ((n:Int)>9223372036854775807)=false:=z8 (by omega)
 have hz0:decide ((0:Int)>0)=false:=rfl
 have hz1:decide ((0:Int)<=(n:Int))=true:=z7 (by omega)
 have hfb:dR n 8=true:=fM (by omega)
 simp only[hw,hz0,h63,hz1,z9,hfb,Bool.not_false,Bool.not_true,Bool.or_true,Bool.and_self,cT,cF,List.drop_zero,List.take_zero,List.nil_append]
 refine jA (g:=fun _=>some (List.replicate n z)) (I:=fun (x:Int×List Int×PUnit)=>∃c:Nat,x.1=c/\c<=n/\(0<n->0<c)/\x.2.1.length=n/\x.2.1.take c=List.replicate c z) (μ:=fun (x:Int×List Int×PUnit)=>n - x.1.toNat) ?_ ?_ (by simp only;omega)
 ·rintro ⟨i,row,_⟩ rec ⟨c,h1,h2,h3,h4,h5⟩ hrec
  simp only at h1 h4 h5 hrec ⊢
  subst h1
  simp only[z9,h4]
  by_cases hc:c<n
  ·have hl:(List.take (n - c) (List.take c row)).length=min (n - c) c:=by rw[List.length_take,List.length_take,h4];omega
   rw[z7 (show (c:Int)<n by omega),cT,Lc (by omega) (by omega) (by omega),Lc (by omega) (by omega) (by omega),di (by omega),di (Nat.le_refl n)]
   simp only[Bool.and_self,cT]
   rw[be (by omega) (by omega)]
   refine hrec _ ⟨c+min (n - c) c,?_,by omega,by omega,?_,?_⟩ ?_
   ·simp only;rw[hl];omega
   ·simp only[List.length_append,List.length_drop,hl,h4,List.length_take];omega
   ·simp only
    rw[List.take_append_of_le_length (by rw[List.length_append,hl,List.length_take,h4];omega),h5,List.take_replicate,List.replicate_append_replicate,List.take_replicate]
    congr 1
    omega
   ·simp only;rw[hl];omega
  ·have:c=n:=by omega
   subst this
   rw[z8 (show ¬ (c:Int)<c by omega),cF]
   rw[<-h5,List.take_of_length_le (by omega)]
 ·refine ⟨(List.take n [z]).length,rfl,by rw[List.length_take];omega,fun h=>by rw[List.length_take];simp;omega,?_,?_⟩
  ·simp only[List.length_append,List.length_drop,List.length_replicate,List.length_take,List.length_singleton];omega
  ·simp only
   rcases Nat.eq_zero_or_pos n with h | h
   ·subst h;rfl
   ·obtain ⟨m,rfl⟩:∃m,n=m+1:=⟨n - 1,by omega⟩
    simp
theorem Kk {s:Sy} (h:fe s=true):aU s=some (cf s (gH s),0,()):=by
 have hr:=(gJ h).rl
 simp only[aU,iR,Fz 1 (show s.2.length<=1000000 by omega),af]
 rw[show List.replicate s.2.length (1:Int)=gH s from rfl,A7 h]
 rfl
theorem Hn {s:Sy} (h:fe s=false) (hl:s.2.length<=1000000):aU s=some (([],[]),1,()):=by
 simp only[aU,iR,Fz 1 hl,GW h,af]
theorem BB {α:Type} {n:Nat} {f:Nat->α} {a:α}:a ∈ bV n f↔∃i,i<n/\f i=a:=by
 unfold bV
 rw[List.mem_map]
 exact ⟨fun ⟨i,h1,h2⟩=>⟨i,List.mem_range.1 h1,h2⟩,fun ⟨i,h1,h2⟩=>⟨i,List.mem_range.2 h1,h2⟩⟩
theorem AM {s:Sy} (hv:ValidS s) {c:List Int} (hl:c.length=s.2.length) (hc:∀n ∈ c,inC n=true):ValidP (cf s c):=by
 have hb:=hv.bl
 have hr:=hv.rl
 refine ⟨⟨by show 1<=c.length;omega,by show c.length<=12;omega⟩,?_,hc,fun r h=>?_,fun r h=>?_,fun r h=>?_,fun r h n hn=>?_⟩
 ·show (bV s.1.length (jc s)).length<=6
  rw[bf];omega
 all_goals
  obtain ⟨i,hi,rfl⟩:=BB.1 h
 ·show (bV s.2.length (Mx s i)).length=c.length
  rw[bf,hl]
 ·exact ⟨by show (1:Int)<=3;omega,by show (3:Int)<=3;omega⟩
 ·have:=hv.wt i hi
  exact z7 (by show -1073741824<=bwS s i/\bwS s i<=1073741824;omega)
 ·obtain ⟨k,hk,rfl⟩:=BB.1 hn
  have:=Jo hv i hk
  exact z7 (by omega)
theorem wE {s:Sy} (hv:ValidS s):ValidP (cf s (gH s)):=AM hv (by unfold gH;rw[List.length_replicate]) fun n hn=>by
 rw[(List.mem_replicate.1 hn).2];rfl
theorem gj {s:Sy} {k:Nat} {c:Int}:(fG s k c).length=s.2.length:=by unfold fG;rw[List.length_set,List.length_replicate]
theorem xC {s:Sy} {k j:Nat} {c:Int} (hj:j<s.2.length):(fG s k c).getD j 0=if k=j then c else 0:=by
 unfold fG
 rw[bG (by rw[List.length_set,List.length_replicate];exact hj),List.getElem_set]
 split
 ·rfl
 ·exact List.getElem_replicate _
theorem A2 {s:Sy} (hv:ValidS s) {k:Nat} {c:Int} (hc:inC c=true):ValidP (cf s (fG s k c)):=AM hv gj fun n hn=>by
 unfold fG at hn
 rcases List.mem_or_eq_of_mem_set hn with h | h
 ·rw[(List.mem_replicate.1 h).2];rfl
 ·rw[h];exact hc
def jX (s:ByteArray):Bool:=!decide ((s.size:Int)>60)
def nY (s:Sy):Bool:=decide (s.1.length<=9/\s.2.length<=9)&&(s.1.all (fun b=>jX b.1)&&s.2.all (fun r=>jX r.1&&(!decide ((r.2.1.length:Int)>13)&&r.2.1.all fun h=>jX h.1)))
theorem FW (s:Sy):fk s=some (nY s):=by
 obtain ⟨bs,rs⟩:=s
 simp only[fk,mw,nY]
 by_cases h0:bs.length<=9/\rs.length<=9
 ·rw[z7 h0,z8 (show ¬ (bs.length:Int)>9 by omega),z8 (show ¬ (rs.length:Int)>9 by omega)]
  simp only[Bool.not_false,Bool.not_true,Bool.or_true,cT,cF,Bool.true_and]
  refine (tF (p:=fun b:Bk=>jX b.1) (d:=bk0) (l:=bs) (no:=some false) (yes:=some (rs.all (fun r=>jX r.1&&(!decide ((r.2.1.length:Int)>13)&&r.2.1.all fun h=>jX h.1)))) (by omega) ?_ ?_).trans ?_
  ·intro again i hi
   simp only[bo,z7 hi,z7 (show (i:Int)<bs.length by omega),cT,z9,eq (show i<=1000000 by omega),jX]
   generalize decide ((((bs.getD i bk0).1.size:Nat):Int)>60)=g
   cases g<;>rfl
  ·intro again
   simp only[z8 (show ¬ (bs.length:Int)<bs.length by omega),cF]
   refine (tF (p:=fun r:Rp=>jX r.1&&(!decide ((r.2.1.length:Int)>13)&&r.2.1.all fun h=>jX h.1)) (d:=rp0) (l:=rs) (no:=some false) (yes:=some true) (by omega) ?_ ?_).trans ?_
   ·intro again i hi
    simp only[bo,z7 hi,z7 (show (i:Int)<rs.length by omega),cT,z9,eq (show i<=1000000 by omega)]
    simp only[jX]
    generalize decide ((((rs.getD i rp0).1.size:Nat):Int)>60)=g1
    by_cases g:((rs.getD i rp0).2.1.length:Int)>13
    ·rw[z7 g]
     cases g1<;>rfl
    ·rw[z8 g]
     cases g1 with
     | true=>rfl
     | false =>
      simp only[Bool.not_true,Bool.not_false,Bool.or_true,Bool.and_self,Bool.true_and,cT,cF]
      refine tF (p:=fun h:Hd=>!decide (((h.1.size:Nat):Int)>60)) (d:=hd0) (l:=(rs.getD i rp0).2.1) (by omega) ?_ ?_
      ·intro again1 t ht
       simp only[bo,z7 ht,z7 (show (t:Int)<(rs.getD i rp0).2.1.length by omega),cT,z9,eq (show t<=1000000 by omega)]
       generalize decide (((((rs.getD i rp0).2.1.getD t hd0).1.size:Nat):Int)>60)=g
       cases g<;>rfl
      ·intro again1
       simp only[z8 (show ¬ ((rs.getD i rp0).2.1.length:Int)<(rs.getD i rp0).2.1.length by omega),cF]
   ·intro again
    simp only[z8 (show ¬ (rs.length:Int)<rs.length by omega),cF]
   ·cases rs.all (fun r=>jX r.1&&(!decide ((r.2.1.length:Int)>13)&&r.2.1.all fun h=>jX h.1))<;>rfl
  ·cases bs.all (fun b=>jX b.1)<;>rfl
 ·rw[z8 h0]
  by_cases g:(bs.length:Int)>9
  ·rw[z7 g];rfl
  ·rw[z8 g,z7 (show (rs.length:Int)>9 by omega)];rfl
theorem DJ {s:Sy} (h:nY s=true):s.1.length<=9/\s.2.length<=9:=by
 unfold nY at h
 rw[z10,decide_eq_true_iff] at h
 exact h.1
theorem GN:aK=some true:=by kernel_rfl
theorem Qa (s:Sy) (y:List Fq):a7 s y=some (nY s&&decide (y.length<=10)):=by
 simp only[a7,o6,FW,af]
 rw[show decide ((y.length:Int)<=10)=decide (y.length<=10) from decide_eq_decide.2 (by omega)]
 cases nY s<;>rfl
def oO (x:Int):Bool×Int×Int:=(decide (x<0),hl x.natAbs)
theorem r7 {x:Int} (h1: -9223372036854775808<=x) (h2:x<9223372036854775808):b7 x=some (x.natAbs:Int):=qe h1 h2
theorem FJ {n:Nat}:(bif !decide ((hl n).1=0) then true else !decide ((hl n).2=0))=decide (n≠0):=by
 unfold hl
 simp only
 by_cases h:n=0
 ·subst h;rfl
 ·rw[z7 h]
  by_cases c1:((n / 18446744073709551616:Nat):Int)=0
  ·rw[z7 c1,z8 (show ¬ ((n % 18446744073709551616:Nat):Int)=0 by omega)];rfl
  ·rw[z8 c1];rfl
theorem I3 {a b:Int}:(bif !decide (decide (a<0)=decide (b<0)) then decide ((a.natAbs*b.natAbs)≠0) else false)=decide (a*b<0):=by
 by_cases ha:a<0
 ·by_cases hb:b<0
  ·have:=Int.mul_pos_of_neg_of_neg ha hb
   rw[z8 (show ¬ a*b<0 by omega)]
   simp[ha,hb]
  ·by_cases hb0:b=0
   ·subst hb0;simp
   ·have:=Int.mul_neg_of_neg_of_pos ha (show 0<b by omega)
    rw[z7 this,z7 (show a.natAbs*b.natAbs≠0 by rw[<-Int.natAbs_mul];omega)]
    simp[ha,hb]
 ·by_cases ha0:a=0
  ·subst ha0;simp
  ·by_cases hb:b<0
   ·have:=Int.mul_neg_of_pos_of_neg (show 0<a by omega) hb
    rw[z7 this,z7 (show a.natAbs*b.natAbs≠0 by rw[<-Int.natAbs_mul];omega)]
    simp[ha,hb]
   ·have:=Int.mul_nonneg (show 0<=a by omega) (show 0<=b by omega)
    rw[z8 (show ¬ a*b<0 by omega)]
    simp[ha,hb]
theorem qh {a b:Int} (ha: -9223372036854775808<=a/\a<9223372036854775808) (hb: -9223372036854775808<=b/\b<9223372036854775808):bE a b=some (oO (a*b)):=by
 have e:(((a.natAbs:Nat):Int)*(b.natAbs:Int) / 18446744073709551616,((a.natAbs:Nat):Int)*(b.natAbs:Int) % 18446744073709551616,PUnit.unit)=((hl (a.natAbs*b.natAbs)).1,(hl (a.natAbs*b.natAbs)).2,PUnit.unit):=by
  rw[<-Int.natCast_mul];rfl
 simp only[bE,kK,r7 ha.1 ha.2,r7 hb.1 hb.2,af]
 rw[Qg (by omega) (by omega) (by omega) (by omega),af,e]
 have h1:=FJ (n:=a.natAbs*b.natAbs)
 have h2:=I3 (a:=a) (b:=b)
 rw[<-h1] at h2
 unfold oO
 rw[Int.natAbs_mul,<-h2]
 generalize hl (a.natAbs*b.natAbs)=p
 obtain ⟨c,hc⟩:∃c,(decide (decide (a<0)=decide (b<0)))=c:=⟨_,rfl⟩
 obtain ⟨c1,hc1⟩:∃c,decide (p.1=0)=c:=⟨_,rfl⟩
 simp only[hc,hc1]
 cases c<;>cases c1<;>rfl
theorem wJ {s t:Bool} {m n:Nat}:aB (s,hl m) (t,hl n)=some (if m<n then -1 else if m=n then 0 else 1):=by
 simp only[aB,fB]
 have e1:(hl m).1=(hl n).1↔m / 18446744073709551616=n / 18446744073709551616:=by unfold hl;simp only;omega
 have e2:(hl m).1<(hl n).1↔m / 18446744073709551616<n / 18446744073709551616:=by unfold hl;simp only;omega
 have e3:(hl m).2=(hl n).2↔m % 18446744073709551616=n % 18446744073709551616:=by unfold hl;simp only;omega
 have e4:(hl m).2<(hl n).2↔m % 18446744073709551616<n % 18446744073709551616:=by unfold hl;simp only;omega
 rw[decide_eq_decide.2 e1,decide_eq_decide.2 e2,decide_eq_decide.2 e3,decide_eq_decide.2 e4]
 generalize q1:decide (m / 18446744073709551616=n / 18446744073709551616)=c1
 generalize q2:decide (m / 18446744073709551616<n / 18446744073709551616)=c2
 generalize q3:decide (m % 18446744073709551616=n % 18446744073709551616)=c3
 generalize q4:decide (m % 18446744073709551616<n % 18446744073709551616)=c4
 cases c1<;>cases c2<;>cases c3<;>cases c4<;>simp only[decide_eq_true_iff,decide_eq_false_iff_not] at q1 q2 q3 q4 <;>
  first
  | (exfalso;omega)
  | (rw[if_pos (show m<n by omega)];rfl)
  | (rw[if_neg (show ¬ m<n by omega),if_pos (show m=n by omega)];rfl)
  | (rw[if_neg (show ¬ m<n by omega),if_neg (show ¬ m=n by omega)];rfl)
theorem KN {x y:Int}:ct (oO x) (oO y)=some (if x<y then -1 else if x=y then 0 else 1):=by
 have key:∀{a b:Nat} (h1:a<b↔x<y) (h2:a=b↔x=y),(if a<b then (-1:Int) else if a=b then 0 else 1)=if x<y then -1 else if x=y then 0 else 1:=fun h1 h2=>by simp only[h1,h2]
 unfold oO
 simp only[ct,gU,wJ,af]
 by_cases hx:x<0
 ·by_cases hy:y<0
  ·rw[z7 hx,z7 hy,key (by omega) (by omega)]
   rfl
  ·rw[if_pos (show x<y by omega),z7 hx,z8 hy]
   rfl
 ·by_cases hy:y<0
  ·rw[if_neg (show ¬ x<y by omega),if_neg (show ¬ x=y by omega),z8 hx,z7 hy]
   rfl
  ·rw[z8 hx,z8 hy,key (a:=x.natAbs) (b:=y.natAbs) (by omega) (by omega)]
   rfl
theorem Nu {m n:Nat} (h:m+n<340282366920938463463374607431768211456):(xr (hl m).1 (hl n).1 (oQ (hl m).2 (hl n).2 0),xr (hl m).2 (hl n).2 0)=hl (m+n):=by
 have h1:=B1 h
 have c1:(0:Int)<=oQ (hl m).2 (hl n).2 0:=by rw[sX];omega
 have c2:oQ (hl m).2 (hl n).2 0<=1:=by rw[sX];omega
 simp only[fu,kZ,z7 c1,z7 c2] at h1
 exact Option.some.inj h1
theorem FO {m n:Nat} (h:n<=m) (hm:m<340282366920938463463374607431768211456):(tj (hl m).1 (hl n).1 (nl (hl m).2 (hl n).2 0),tj (hl m).2 (hl n).2 0)=hl (m - n):=by
 have h1:=tA h hm
 have c1:(0:Int)<=nl (hl m).2 (hl n).2 0:=by rw[so];omega
 have c2:nl (hl m).2 (hl n).2 0<=1:=by rw[so];split<;>omega
 simp only[eo,kf,z7 c1,z7 c2] at h1
 exact Option.some.inj h1
theorem Du {m n:Nat}:(decide ((0:Int)<=nl (hl m).2 (hl n).2 0)&&decide (nl (hl m).2 (hl n).2 0<=(1:Int)))=true:=by
 rw[z7 (show (0:Int)<=nl (hl m).2 (hl n).2 0 by rw[so];omega),z7 (show nl (hl m).2 (hl n).2 0<=1 by rw[so];split<;>omega)]
 rfl
theorem CX {m n:Nat}:(decide ((0:Int)<=oQ (hl m).2 (hl n).2 0)&&decide (oQ (hl m).2 (hl n).2 0<=(1:Int)))=true:=by
 rw[z7 (show (0:Int)<=oQ (hl m).2 (hl n).2 0 by rw[sX];omega),z7 (show oQ (hl m).2 (hl n).2 0<=1 by rw[sX];omega)]
 rfl
theorem F4 {x y:Int} (hx:x.natAbs<85070591730234615865843651857942052864) (hy:y.natAbs<85070591730234615865843651857942052864):bD (oO x) (oO y)=some (oO (x - y)):=by
 unfold oO
 simp only[bD,gg,wJ,af,sJ,Du,CX]
 by_cases hs:decide (x<0)=decide (y<0)
 ·
  rw[z7 hs]
  simp only[Bool.not_true,cF]
  by_cases hlt:x.natAbs<y.natAbs
  ·have h1:=FO (m:=y.natAbs) (n:=x.natAbs) (by omega) (by omega)
   have h2:=congrArg Prod.fst h1
   have h3:=congrArg Prod.snd h1
   simp only at h2 h3
   rw[if_pos hlt]
   simp only[show decide ((-1:Int)<0)=true from rfl,cT,h2,h3]
   have h4:=FJ (n:=y.natAbs - x.natAbs)
   have e1:decide (x - y<0)=(bif !decide (x<0) then decide (y.natAbs - x.natAbs≠0) else false):=by
    rw[z7 (show y.natAbs - x.natAbs≠0 by omega)]
    by_cases c:x<0
    ·have c':y<0:=by rw[z7 c] at hs;exact z12 hs.symm
     rw[z7 c,z8 (show ¬ x - y<0 by omega)];rfl
    ·have c':¬ y<0:=by rw[z8 c] at hs;exact of_decide_eq_false hs.symm
     rw[z8 c,z7 (show x - y<0 by omega)];rfl
   have e2:(x - y).natAbs=y.natAbs - x.natAbs:=by
    by_cases c:x<0
    ·have c':y<0:=by rw[z7 c] at hs;exact z12 hs.symm
     omega
    ·have c':¬ y<0:=by rw[z8 c] at hs;exact of_decide_eq_false hs.symm
     omega
   rw[e1,e2,<-h4]
   generalize hl (y.natAbs - x.natAbs)=p
   obtain ⟨c,hc⟩:∃c,decide (p.1=0)=c:=⟨_,rfl⟩
   simp only[hc]
   cases decide (x<0)<;>cases c<;>rfl
  ·have h1:=FO (m:=x.natAbs) (n:=y.natAbs) (by omega) (by omega)
   have h2:=congrArg Prod.fst h1
   have h3:=congrArg Prod.snd h1
   simp only at h2 h3
   have h0:¬ (if x.natAbs<y.natAbs then (-1:Int) else if x.natAbs=y.natAbs then 0 else 1)<0:=by
    rw[if_neg hlt]
    split<;>simp
   rw[z8 h0]
   simp only[cF,h2,h3]
   have h4:=FJ (n:=x.natAbs - y.natAbs)
   have e1:decide (x - y<0)=(bif decide (x<0) then decide (x.natAbs - y.natAbs≠0) else false):=by
    by_cases c:x<0
    ·have c':y<0:=by rw[z7 c] at hs;exact z12 hs.symm
     rw[z7 c,cond_true]
     exact decide_eq_decide.2 (by omega)
    ·have c':¬ y<0:=by rw[z8 c] at hs;exact of_decide_eq_false hs.symm
     rw[z8 c,z8 (show ¬ x - y<0 by omega)];rfl
   have e2:(x - y).natAbs=x.natAbs - y.natAbs:=by
    by_cases c:x<0
    ·have c':y<0:=by rw[z7 c] at hs;exact z12 hs.symm
     omega
    ·have c':¬ y<0:=by rw[z8 c] at hs;exact of_decide_eq_false hs.symm
     omega
   rw[e1,e2,<-h4]
   generalize hl (x.natAbs - y.natAbs)=p
   obtain ⟨c,hc⟩:∃c,decide (p.1=0)=c:=⟨_,rfl⟩
   simp only[hc]
   cases decide (x<0)<;>cases c<;>rfl
 ·rw[z8 hs]
  have h1:=Nu (m:=x.natAbs) (n:=y.natAbs) (by omega)
  have h2:=congrArg Prod.fst h1
  have h3:=congrArg Prod.snd h1
  simp only at h2 h3
  simp only[Bool.not_false,cT,h2,h3]
  have h4:=FJ (n:=y.natAbs)
  by_cases c:x<0
  ·have c':¬ y<0:=fun c'=>hs (by rw[z7 c,z7 c'])
   rw[z7 c,z8 c',z7 (show x - y<0 by omega),show (x - y).natAbs=x.natAbs+y.natAbs by omega]
   generalize hl y.natAbs=p
   obtain ⟨d,hd⟩:∃d,decide (p.1=0)=d:=⟨_,rfl⟩
   simp only[hd]
   cases d<;>rfl
  ·have c':y<0:=by
    apply Classical.byContradiction
    intro c'
    exact hs (by rw[z8 c,z8 c'])
   rw[z8 c,z7 c',z8 (show ¬ x - y<0 by omega),show (x - y).natAbs=x.natAbs+y.natAbs by omega]
   generalize hl y.natAbs=p
   obtain ⟨d,hd⟩:∃d,decide (p.1=0)=d:=⟨_,rfl⟩
   simp only[hd]
   cases d<;>rfl
theorem KA {d q:Int} (hd:0<d) (hd2:d<9223372036854775808) (hq:q.natAbs<9223372036854775808):bS (oO (d*q)) d=some q:=by
 unfold oO
 simp only[bS,gx]
 have e:(d*q).natAbs=d.natAbs*q.natAbs:=Int.natAbs_mul _ _
 have hdn:(d.natAbs:Int)=d:=by omega
 have h1:(d*q).natAbs / 18446744073709551616<d.natAbs:=by
  rw[e]
  refine (Nat.div_lt_iff_lt_mul (by omega)).2 ?_
  exact Nat.mul_lt_mul_of_pos_left (by omega) (by omega)
 have h2:=BV (h:=(d*q).natAbs / 18446744073709551616) (l:=(d*q).natAbs % 18446744073709551616) (y:=d.natAbs) h1 (by omega) (by omega)
 have h3:(d*q).natAbs / 18446744073709551616*18446744073709551616+(d*q).natAbs % 18446744073709551616=(d*q).natAbs:=by omega
 rw[h3,e,Nat.mul_div_cancel_left _ (by omega)] at h2
 have h4:IntKind.wrap .u64 d=(d.natAbs:Int):=by rw[bL (by omega) (by omega)];omega
 rw[h4]
 unfold hl
 simp only
 rw[e,h2,af]
 simp only
 rw[be (x:=(q.natAbs:Int)) (by omega) (by omega)]
 by_cases c:q<0
 ·rw[z7 (show d*q<0 from Int.mul_neg_of_pos_of_neg hd c),cond_true,be (by omega) (by omega)]
  congr 1
  omega
 ·rw[z8 (show ¬ d*q<0 by have:=Int.mul_nonneg (show 0<=d by omega) (show 0<=q by omega);omega),cond_false]
  congr 1
  omega
theorem bq {i:Nat} (h:i<=1000000):IntKind.wrap .i64 ((i:Int)+1)=((i+1:Nat):Int):=by rw[be (by omega) (by omega)];rfl
def mid (T:Nat->Nat->Int) (d:Int) (r c i j:Nat):Nat->Nat->Int:=fun k l=>if k≠r/\(k<i\/(k=i/\l<j)) then piv T d r c k l else T k l
theorem Nt {T:Nat->Nat->Int} {d:Int} {r c i j l:Nat}:mid T d r c i j r l=T r l:=if_neg fun h=>h.1 rfl
theorem AI {T:Nat->Nat->Int} {d:Int} {r c i j l:Nat} (h:j<=l):mid T d r c i j i l=T i l:=by
 unfold mid
 rw[if_neg fun h=>by omega]
theorem Jw {T:Nat->Nat->Int} {d:Int} {r c k l:Nat}:T k l=mid T d r c 0 0 k l:=by
 unfold mid
 rw[if_neg fun h=>by omega]
def ze (T:Nat->Nat->Int) (i j:Nat):Nat->Nat->Int:=fun k l=>if k<i\/(k=i/\l<j) then - T k l else T k l
theorem G8 {T:Nat->Nat->Int} {i j l:Nat} (h:j<=l):ze T i j i l=T i l:=by
 unfold ze
 rw[if_neg fun h=>by omega]
theorem G3 {T:Nat->Nat->Int} {k l:Nat}:T k l=ze T 0 0 k l:=by
 unfold ze
 rw[if_neg fun h=>by omega]
theorem ju {m w:Nat} {T:Nat->Nat->Int}:(iA m w T).2=dF m w T:=rfl
theorem EH {m w:Nat} {T T':Nat->Nat->Int} {i j:Nat} {x:Int} (hi:i<m) (hj:j<w) (h:∀k l,k<m->l<w->(if k=i/\l=j then x else T k l)=T' k l) :
  ((iA m w T).1,(dF m w T).set i (some ((bV w (T i)).set j x)))=iA m w T':=by
 rw[Cy hi hj,ig h]
 rfl
structure PivOk (m w:Nat) (T:Nat->Nat->Int) (d:Int) (r c:Nat):Prop where
 hm:m<=1000
 hw:w<=1000
 hr:r<m
 hc:c<w
 hd:0<d/\d<4611686018427387904
 b:∀i j,i<m->j<w->(T i j).natAbs<4611686018427387904
 q:∀i j,i<m->i≠r->j<w->d*piv T d r c i j=T r c*T i j - T i c*T r j
 qb:∀i j,i<m->i≠r->j<w->(piv T d r c i j).natAbs<4611686018427387904
theorem jh {x:Int} (h:x.natAbs<4611686018427387904): -9223372036854775808<=x/\x<9223372036854775808:=by omega
theorem B8 {x y:Int} (hx:x.natAbs<4611686018427387904) (hy:y.natAbs<4611686018427387904):(x*y).natAbs<85070591730234615865843651857942052864:=by
 rw[Int.natAbs_mul]
 exact Nat.lt_of_le_of_lt (Nat.mul_le_mul (Nat.le_of_lt_succ (n:=4611686018427387903) hx) (Nat.le_of_lt_succ (n:=4611686018427387903) hy)) (by decide)
theorem wg {m w:Nat} {T:Nat->Nat->Int} {d:Int} {β:Nat->Nat} {r c:Nat} {x3 x4:List Int} {x5 x6:Int} (h:PivOk m w T d r c) :
  aN (iA m w T) d (iH m β) x3 x4 x5 x6 (r:Int) (c:Int)=some (iA m w (mF T d r c),sg (T r c)*T r c,iH m (upd β r c),x3,x4,x5,x6,()):=by
 obtain ⟨hm,hw,hr,hc,hd,hb,hq,hqb⟩:=h
 unfold aN gT
 simp only[gF,kj hr,ju,gk hr,bf,bM hc,bo,z9,z7 hr,z7 hc,di (show Nat.succ r<=m from hr),di (show Nat.succ c<=w from hc),cT,Jt hr,iP]
 refine cM m (by omega) (fun i=>((i:Int),iA m w (mid T d r c i 0),PUnit.unit)) _ (by rw[iX fun k l _ _=>Jw];rfl) (fun again i hi=>?_) (fun again=>?_)
 ·simp only[gF,kj hi,ju,gk hi,bf,bM hc,bo,z9,z7 hi,z7 hc,z7 (show (i:Int)<m by omega),di (show Nat.succ i<=m from hi),di (show Nat.succ c<=w from hc),cT,tx hi,bq (show i<=1000000 by omega)]
  by_cases e:i=r
  ·rw[z7 (show (i:Int)=r by omega),cond_true]
   congr 3
   refine iX fun k l _ _=>?_
   unfold mid
   by_cases c1:k≠r/\(k<i\/(k=i/\l<0))
   ·rw[if_pos c1,if_pos (by omega)]
   ·rw[if_neg c1,if_neg (by omega)]
  ·rw[z8 (show ¬ (i:Int)=r by omega),cond_false]
   refine sH w (by omega) (fun j=>((j:Int),iA m w (mid T d r c i j),PUnit.unit)) _ (fun again2 j hj=>?_) (fun again2=>?_)
   ·have t1:=qh (jh (hb i j hi hj)) (jh (hb r c hr hc))
    have t2:=qh (jh (hb i c hi hc)) (jh (hb r j hr hj))
    have t3:=F4 (B8 (hb i j hi hj) (hb r c hr hc)) (B8 (hb i c hi hc) (hb r j hr hj))
    have t4:bS (oO (T i j*T r c - T i c*T r j)) d=some (piv T d r c i j):=by
     rw[Int.mul_comm (T i j),<-hq i j hi e hj]
     exact KA hd.1 (by omega) (by have:=hqb i j hi e hj;omega)
    simp only[gF,kj hr,ju,gk hi,gk hr,bf,bM hj,bo,z9,z7 hj,z7 hr,z7 (show (j:Int)<w by omega),
     di (show Nat.succ j<=w from hj),di (show Nat.succ r<=m from hr),cT,Nt,AI (Nat.le_refl j),AI (Nat.zero_le c),t1,t2,t3,t4,af,bq (show j<=1000000 by omega)]
    congr 3
    refine EH hi hj fun k l hk hl=>?_
    unfold mid
    by_cases c0:k=i/\l=j
    ·rw[if_pos c0,if_pos (by omega),c0.1,c0.2]
    ·rw[if_neg c0]
     by_cases c1:k≠r/\(k<i\/(k=i/\l<j))
     ·rw[if_pos c1,if_pos (by omega)]
     ·rw[if_neg c1,if_neg (by omega)]
   ·simp only[ju,gk hi,bf,z8 (show ¬ (w:Int)<w by omega),cF]
    congr 3
    refine iX fun k l hk hl=>?_
    unfold mid
    by_cases c1:k≠r/\(k<i\/(k=i/\l<w))
    ·rw[if_pos c1,if_pos (by omega)]
    ·rw[if_neg c1,if_neg (by omega)]
 ·simp only[gF,z8 (show ¬ (m:Int)<m by omega),cF]
  by_cases hneg:T r c<0
  ·rw[z7 hneg,cond_true]
   refine cM m (by omega) (fun i=>((i:Int),iA m w (ze (mid T d r c m 0) i 0),PUnit.unit)) _ (by rw[iX fun k l _ _=>G3];rfl) (fun again i hi=>?_) (fun again=>?_)
   ·simp only[gF,kj hi,ju,gk hi,bf,bo,z9,z7 hi,z7 (show (i:Int)<m by omega),di (show Nat.succ i<=m from hi),cT,tx hi,bq (show i<=1000000 by omega)]
    refine sH w (by omega) (fun j=>((j:Int),iA m w (ze (mid T d r c m 0) i j),PUnit.unit)) _ (fun again2 j hj=>?_) (fun again2=>?_)
    ·have hbb:(mid T d r c m 0 i j).natAbs<4611686018427387904:=by
      unfold mid
      split
      ·rename_i hh;exact hqb i j hi hh.1 hj
      ·exact hb i j hi hj
     simp only[ju,gk hi,bf,bM hj,bo,z9,z7 hj,z7 (show (j:Int)<w by omega),
      di (show Nat.succ j<=w from hj),cT,G8 (Nat.le_refl j),bq (show j<=1000000 by omega),be (show -9223372036854775808<=0 - mid T d r c m 0 i j by omega) (by omega)]
     congr 3
     refine EH hi hj fun k l hk hl=>?_
     unfold ze
     by_cases c0:k=i/\l=j
     ·rw[if_pos c0,if_pos (by omega),c0.1,c0.2]
      omega
     ·rw[if_neg c0]
      by_cases c1:k<i\/(k=i/\l<j)
      ·rw[if_pos c1,if_pos (by omega)]
      ·rw[if_neg c1,if_neg (by omega)]
    ·simp only[ju,gk hi,bf,z8 (show ¬ (w:Int)<w by omega),cF]
     congr 3
     refine iX fun k l hk hl=>?_
     unfold ze
     by_cases c1:k<i\/(k=i/\l<w)
     ·rw[if_pos c1,if_pos (by omega)]
     ·rw[if_neg c1,if_neg (by omega)]
   ·have hrc:=hb r c hr hc
    simp only[gF,z8 (show ¬ (m:Int)<m by omega),cF,be (show -9223372036854775808<=0 - T r c by omega) (by omega)]
    have e1:sg (T r c)= -1:=by unfold sg;rw[if_pos hneg]
    congr 2
    ·refine iX fun k l hk hl=>?_
     unfold ze mid mF
     rw[if_pos (by omega),e1]
     by_cases c0:k=r
     ·rw[if_neg (by omega),if_pos c0,c0];omega
     ·rw[if_pos (by omega),if_neg c0];omega
    ·rw[e1]
     congr 1
     omega
  ·rw[z8 hneg,cond_false]
   have e1:sg (T r c)=1:=by unfold sg;rw[if_neg hneg]
   congr 2
   ·refine iX fun k l hk hl=>?_
    unfold mid mF
    rw[e1,Int.one_mul]
    by_cases c0:k=r
    ·rw[if_neg (by omega),if_pos c0,c0]
    ·rw[if_pos (by omega),if_neg c0]
   ·rw[e1,Int.one_mul]
theorem q7 {x y z p q r:Int} (hp:0<p) (hq:0<q) (hr:0<r) (h1:x*q<=y*p) (h2:y*r<=z*q):x*r<=z*p:=by
 refine yj hq ?_
 have a1:=z11 h1 (Int.le_of_lt hr)
 have a2:=z11 h2 (Int.le_of_lt hp)
 calc q*(x*r)=x*q*r:=by grind
  _<=y*p*r:=a1
  _=y*r*p:=by grind
  _<=z*q*p:=a2
  _=q*(z*p):=by grind
theorem Ih {x y z p q r:Int} (hp:0<p) (hq:0<q) (hr:0<r) (h1:x*q<=y*p) (h2:y*r<=z*q) (h:x*r=z*p):x*q=y*p/\y*r=z*q:=by
 have h3:=q7 hq hr hp h2 (by rw[h];exact Int.le_refl _)
 have h4:=q7 (x:=z) (y:=x) (z:=y) (p:=r) (q:=p) (r:=q) hr hp hq (by rw[h];exact Int.le_refl _) h1
 exact ⟨Int.le_antisymm h1 h3,Int.le_antisymm h2 h4⟩
theorem wU {m w:Nat} {T:Nat->Nat->Int} {d:Int} {β:Nat->Nat} {c R:Nat} {x1:Int} {x3 x4:List Int} {x5:Int} (hm:m<=1000) (hc:c<w) (hR:R<w) (hb:∀i j,i<m->j<w->(T i j).natAbs<4611686018427387904) :
  ∃b,aJ (q6 m w T,x1,iH m β,x3,x4,x5,(R:Int)) (c:Int)=some b/\((b= -1/\∀i,i<m->T i c<=0)\/∃r:Nat,b=r/\Dn.Leaves m R ⟨T,d,β⟩ c r):=by
 unfold aJ gd
 refine Pf (fun (x:Int×Int×PUnit)=>∃i:Nat,i<=m/\x.2.1=i/\((x.1= -1/\∀k,k<i->T k c<=0)\/∃r:Nat,x.1=r/\Dn.Leaves i R ⟨T,d,β⟩ c r)) _ (fun x=>((m:Int) - x.2.1).toNat) ?_ ⟨0,by omega,rfl,.inl ⟨rfl,fun k hk=>by omega⟩⟩ (by simp only;omega)
 rintro ⟨b,_,_⟩ ⟨i,hi,rfl,hI⟩
 simp only at hI
 by_cases hlt:i<m
 ·have gR:=nf (w:=w) (T:=T) hlt
  have ext:∀r,Dn.Leaves i R ⟨T,d,β⟩ c r->(0<T i c->T r R*T i c<=T i R*T r c/\(T r R*T i c=T i R*T r c->β r<=β i))->Dn.Leaves (i+1) R ⟨T,d,β⟩ c r:=fun r h hn=>by
   refine ⟨by have:=h.lt;omega,h.pos,fun k hk hp=>?_,fun k hk hp he=>?_⟩
   ·by_cases e:k=i
    ·subst e;exact (hn hp).1
    ·exact h.le k (by omega) hp
   ·by_cases e:k=i
    ·subst e;exact (hn hp).2 he
    ·exact h.tie k (by omega) hp he
  right
  by_cases hpos:T i c<=0
  ·refine ⟨(b,((i+1:Nat):Int),PUnit.unit),⟨i+1,by omega,rfl,?_⟩,by simp only;omega,fun rec=>?_⟩
   ·rcases hI with ⟨h1,h2⟩ | ⟨r,h1,h2⟩
    ·exact .inl ⟨h1,fun k hk=>by
      by_cases e:k=i
      ·rw[e];exact hpos
      ·exact h2 k (by omega)⟩
    ·exact .inr ⟨r,h1,ext r h2 fun h=>by omega⟩
   ·simp only[gI,bo,z9,z7 hlt,z7 (show (i:Int)<m by omega),gR,bf,bM hc,z7 hc,z7 hpos,cT,bq (show i<=1000000 by omega)]
  ·rcases hI with ⟨h1,h2⟩ | ⟨r,h1,h2⟩
   ·refine ⟨((i:Int),((i+1:Nat):Int),PUnit.unit),⟨i+1,by omega,rfl,.inr ⟨i,rfl,⟨by omega,show 0<T i c by omega,fun k hk hp=>?_,fun k hk hp _=>?_⟩⟩⟩,by simp only;omega,fun rec=>?_⟩
    ·by_cases e:k=i
     ·subst e;exact Int.le_refl _
     ·have h3:=h2 k (by omega)
      have hp:0<T k c:=hp
      omega
    ·by_cases e:k=i
     ·subst e;exact Nat.le_refl _
     ·have h3:=h2 k (by omega)
      have hp:0<T k c:=hp
      omega
    ·simp only[gI,bo,z9,z7 hlt,z7 (show (i:Int)<m by omega),gR,bf,bM hc,z7 hc,z8 hpos,z7 (show b<0 by omega),cT,cF,bq (show i<=1000000 by omega)]
   ·subst h1
    have hr:r<m:=by have:=h2.lt;omega
    have gr:=nf (w:=w) (T:=T) hr
    have t1:=qh (jh (hb i R hlt hR)) (jh (hb r c hr hc))
    have t2:=qh (jh (hb r R hr hR)) (jh (hb i c hlt hc))
    have hpr:0<T r c:=h2.pos
    refine ⟨(if T i R*T r c<T r R*T i c\/(T i R*T r c=T r R*T i c/\β i<β r) then (i:Int) else (r:Int),((i+1:Nat):Int),PUnit.unit),⟨i+1,by omega,rfl,.inr ?_⟩,by simp only;omega,fun rec=>?_⟩
    ·simp only
     by_cases hq:T i R*T r c<T r R*T i c\/(T i R*T r c=T r R*T i c/\β i<β r)
     ·rw[if_pos hq]
      have hle:T i R*T r c<=T r R*T i c:=by rcases hq with h | h<;>omega
      have hpi:0<T i c:=by omega
      refine ⟨i,rfl,⟨by omega,hpi,fun k hk hp=>?_,fun k hk hp he=>?_⟩⟩
      ·have hp:0<T k c:=hp
       by_cases e:k=i
       ·subst e;exact Int.le_refl _
       ·exact q7 hpi hpr hp hle (h2.le k (by omega) hp)
      ·have hp:0<T k c:=hp
       have he:T i R*T k c=T k R*T i c:=he
       by_cases e:k=i
       ·subst e;exact Nat.le_refl _
       ·obtain ⟨e1,e2⟩:=Ih hpi hpr hp hle (h2.le k (by omega) hp) he
        have h3:β r<=β k:=h2.tie k (by omega) hp e2
        show β i<=β k
        rcases hq with h | h<;>omega
     ·rw[if_neg hq]
      have h3:=fun h=>hq (.inl h)
      refine ⟨r,rfl,ext r h2 fun hp=>⟨by omega,fun he=>?_⟩⟩
      have h4:=fun h=>hq (.inr ⟨he.symm,h⟩)
      omega
    ·simp only[gI,bo,z9,z7 hlt,z7 hr,z7 (show (i:Int)<m by omega),gR,gr,bf,bM hc,bM hR,z7 hc,z7 hR,z8 hpos,z8 (show ¬ (r:Int)<0 by omega),cT,cF,bq (show i<=1000000 by omega),
      t1,t2,af,KN,iP,jx hlt,jx hr]
     by_cases c1:T i R*T r c<T r R*T i c
     ·rw[if_pos c1,if_pos (.inl c1)]
      generalize decide ((β i:Int)<β r)=bb
      cases bb<;>rfl
     ·by_cases c2:T i R*T r c=T r R*T i c
      ·rw[if_neg c1,if_pos c2]
       by_cases c3:β i<β r
       ·rw[if_pos (.inr ⟨c2,c3⟩),z7 (show (β i:Int)<β r by omega)]
        rfl
       ·rw[if_neg (by rintro (h | h)<;>omega),z8 (show ¬ (β i:Int)<β r by omega)]
        rfl
      ·rw[if_neg c1,if_neg c2,if_neg (by rintro (h | h)<;>omega)]
       generalize decide ((β i:Int)<β r)=bb
       cases bb<;>rfl
 ·left
  have e:i=m:=by omega
  subst e
  refine ⟨b,hI,fun rec=>?_⟩
  simp only[gI,z8 (show ¬ (i:Int)<i by omega),cF]
theorem ku {n:Nat} {f:Nat->Int} {B:Int} (h:∀i,i<n-> -B<=f i/\f i<=B): -(n*B)<=sz n f/\sz n f<=n*B:=by
 induction n with
 | zero=>simp[sz]
 | succ n ih =>
  have h1:=ih fun i hi=>h i (by omega)
  have h2:=h n (by omega)
  simp only[sz]
  rw[show ((n+1:Nat):Int)*B=n*B+B by rw[show ((n+1:Nat):Int)=(n:Int)+1 by omega,Int.add_mul,Int.one_mul]]
  omega
theorem xn {m w:Nat} {T:Nat->Nat->Int} {β:Nat->Nat} {N j:Nat} {x1 x6:Int} {x3 x4:List Int} (hm:m<=1000) (hj:j<w) (hb:∀i,i<m-> -1125899906842624<=T i j/\T i j<=1125899906842624) :
  aH (q6 m w T,x1,iH m β,x3,x4,(N:Int),x6) (j:Int)=some (sz m fun i=>fE N (β i)*T i j):=by
 unfold aH fw
 have hterm:∀i,i<m-> -1125899906842624<=fE N (β i)*T i j/\fE N (β i)*T i j<=1125899906842624:=fun i hi=>by
  have:=hb i hi
  unfold fE
  split<;>omega
 refine sH m (by omega) (fun i=>(sz i (fun k=>fE N (β k)*T k j),(i:Int),PUnit.unit)) _ (fun again i hi=>?_) (fun again=>?_)
 ·have h1:=ku (n:=i) (f:=fun k=>fE N (β k)*T k j) (B:=1125899906842624) fun k hk=>hterm k (by omega)
  have h2:=hterm i hi
  have hi2:(i:Int)<=1000:=by omega
  have h3:(i:Int)*1125899906842624<=1000*1125899906842624:=z11 hi2 (by omega)
  simp only[gI,iP,bo,z9,z7 hi,z7 (show (i:Int)<m by omega),nf hi,jx hi,bf,bM hj,z7 hj,cT,bq (show i<=1000000 by omega)]
  have hT:=hb i hi
  by_cases e:N<=β i
  ·have e1:fE N (β i)*T i j=T i j:=by unfold fE;rw[if_pos e];omega
   rw[z7 (show (β i:Int)>=N by omega),cond_true,be (by omega) (by omega)]
   simp only[sz,e1]
  ·have e1:fE N (β i)*T i j=0:=by unfold fE;rw[if_neg e];omega
   rw[z8 (show ¬ (β i:Int)>=N by omega),cond_false]
   simp only[sz,e1,Int.add_zero]
 ·simp only[gI,z8 (show ¬ (m:Int)<m by omega),cF]
def iY (cs:List Int) (j:Nat):Int:=cs.getD j 0
theorem va {M:List (List Int)} {x1:Int} {x2 x3 cs:List Int} {x5 x6:Int} {j:Nat}:aP (M,x1,x2,x3,cs,x5,x6) (j:Int)=some (iY cs j):=by
 unfold iY
 simp only[aP,ii,bo,z9]
 by_cases h:j<cs.length
 ·rw[z7 h,z7 (show (j:Int)<cs.length by omega)];rfl
 ·rw[z8 (show ¬ (j:Int)<cs.length by omega),cond_false,List.getD_eq_getElem?_getD,List.getElem?_eq_none (by omega)];rfl
theorem EB {m w:Nat} {T:Nat->Nat->Int} {d:Int} {β:Nat->Nat} {j:Nat} {x3 cs:List Int} {x5 x6:Int} (hm:m<=1000) (hj:j<w) (hd: -1125899906842624<=iY cs j*d/\iY cs j*d<=1125899906842624)
  (hb:∀i,i<m-> -1125899906842624<=iY cs (β i)*T i j/\iY cs (β i)*T i j<=1125899906842624) :
  bJ (q6 m w T,d,iH m β,x3,cs,x5,x6) (j:Int)=some (zr m (iY cs) ⟨T,d,β⟩ j):=by
 unfold bJ gl
 rw[va,obN]
 refine cM m (by omega) (fun i=>(iY cs j*d - sz i (fun k=>iY cs (β k)*T k j),(i:Int),PUnit.unit)) _ ?_ (fun again i hi=>?_) (fun again=>?_)
 ·simp only[sz,Int.sub_zero]
  rw[be (by omega) (by omega)]
  rfl
 ·have h1:=ku (n:=i) (f:=fun k=>iY cs (β k)*T k j) (B:=1125899906842624) fun k hk=>hb k (by omega)
  have h2:=hb i hi
  have hi2:(i:Int)<=1000:=by omega
  have h3:(i:Int)*1125899906842624<=1000*1125899906842624:=z11 hi2 (by omega)
  simp only[gI,iP,bo,z9,z7 hi,z7 (show (i:Int)<m by omega),nf hi,jx hi,bf,bM hj,z7 hj,cT,bq (show i<=1000000 by omega),va,af]
  rw[be (x:=iY cs (β i)*T i j) (by omega) (by omega),be (by omega) (by omega)]
  simp only[sz]
  congr 2
  omega
 ·simp only[gI,z8 (show ¬ (m:Int)<m by omega),cF]
  rfl
structure Bnd (L:Lin) (Y:Lay):Prop where
 ok:Y.ok L
 m:L.m<=12
 w:Y.w L<=64
 P:L.F0*L.P<=17592186044416
theorem vq {x:Int}:ab x=x.natAbs:=rfl
section
variable {L:Lin} {Y:Lay}
theorem Bnd.P' (h:Bnd L Y):L.P<=17592186044416:=by
 have h1:=L.F0_pos
 have h2:=L.P_pos
 have h3:1*L.P<=L.F0*L.P:=z11 h1 (by omega)
 have:=h.P
 omega
theorem Bnd.tab (h:Bnd L Y) {T:Nat->Nat->Int} {d:Int} {β:Nat->Nat} (ht:Tb L.m (Y.w L) (Y.M L) T d β):(0<d/\d<=17592186044416)/\∀i j,i<L.m->j<Y.w L->(T i j).natAbs<=17592186044416:=by
 obtain ⟨h1,h2⟩:=pJ h.ok ht
 have h3:=h.P'
 refine ⟨⟨ht.dpos,by omega⟩,fun i j hi hj=>?_⟩
 have:=h2 i j hi hj
 rw[vq] at this
 omega
theorem IC (j:Nat):(ca L j).natAbs<=L.F0 - 1:=by
 unfold ca Lin.F0
 have h0:0<=sz L.n fun j=>ab (L.c j):=iu fun j _=>cH _
 split
 ·rename_i hj
  have h1:(sz L.n fun i=>if i=j then ab (L.c j) else 0)<=sz L.n fun j=>ab (L.c j):=pT fun i _=>by
   by_cases e:i=j
   ·rw[if_pos e,e];exact Int.le_refl _
   ·rw[if_neg e];exact cH _
  rw[eG hj fun i _ hne=>if_neg hne,if_pos rfl,vq] at h1
  omega
 ·simp only[Int.natAbs_zero]
  omega
theorem Bnd.cost (h:Bnd L Y) {x:Int} (hx:(x.natAbs:Int)<=L.P) (j:Nat): -17592186044416<=ca L j*x/\ca L j*x<=17592186044416:=by
 have h1:=IC (L:=L) j
 have h2:((ca L j*x).natAbs:Int)<=L.F0*L.P:=by
  rw[Int.natAbs_mul,Int.natCast_mul]
  refine Int.le_trans (Int.mul_le_mul (show ((ca L j).natAbs:Int)<=L.F0 by omega) hx (by omega) (by omega)) (Int.le_refl _)
 have:=h.P
 omega
theorem Bnd.tabP (h:Bnd L Y) {T:Nat->Nat->Int} {d:Int} {β:Nat->Nat} (ht:Tb L.m (Y.w L) (Y.M L) T d β):(d.natAbs:Int)<=L.P/\∀i j,i<L.m->j<Y.w L->((T i j).natAbs:Int)<=L.P:=by
 obtain ⟨h1,h2⟩:=pJ h.ok ht
 have:=ht.dpos
 exact ⟨by omega,fun i j hi hj=>h2 i j hi hj⟩
theorem Qj (x:Int) (y:Int):(sg x*y).natAbs=y.natAbs:=by unfold sg;split<;>omega
theorem Bnd.piv (h:Bnd L Y) {T:Nat->Nat->Int} {d:Int} {β:Nat->Nat} (ht:Tb L.m (Y.w L) (Y.M L) T d β) {r c:Nat} (hr:r<L.m) (hc:c<Y.w L) (he:T r c≠0):PivOk L.m (Y.w L) T d r c:=by
 obtain ⟨h1,h2⟩:=h.tab ht
 obtain ⟨h3,h4⟩:=h.tab (ht.step hr hc he)
 have:=h.m
 have:=h.w
 refine ⟨by omega,by omega,hr,hc,by omega,fun i j hi hj=>by have:=h2 i j hi hj;omega,fun i j hi hne hj=>jg ht hr hi (Ne.symm hne) hc hj,fun i j hi hne hj=>?_⟩
 have h5:=h4 i j hi hj
 unfold mF at h5
 rw[if_neg hne,Qj] at h5
 omega
def AZ (L:Lin) (Y:Lay) (S:Sx):Prop:=∀i,i<L.m->Y.N<=S.β i->(∀j,j<Y.N->S.T i j=0)/\S.T i (Y.R L)=0
theorem AZ.art (S:Sx) (h:AZ L Y S):Ba L.m Y.N S (Y.R L):=fun i hi hN=>(h i hi hN).2
theorem AZ.col (S:Sx) (h:AZ L Y S) {q:Nat} (hq:q<Y.N):Ba L.m Y.N S q:=fun i hi hN=>(h i hi hN).1 q hq
def kN (S:Sx) (r c:Nat):Sx:=⟨mF S.T S.d r c,sg (S.T r c)*S.T r c,upd S.β r c⟩
theorem CJ {m w:Nat} {S:Sx} {r c:Nat} (hp:0<S.T r c):StepAt m w S (kN S r c) r c:=by
 have e:sg (S.T r c)=1:=by unfold sg;rw[if_neg (by omega)]
 refine ⟨fun i j _ _=>?_,?_,fun i _=>rfl⟩
 ·show mF S.T S.d r c i j=_
  unfold mF
  rw[e,Int.one_mul]
 ·show sg (S.T r c)*S.T r c=_
  rw[e,Int.one_mul]
theorem AZ.step {S:Sx} (h:AZ L Y S) {r c:Nat} (hc:c<Y.N):AZ L Y (kN S r c):=fun i hi hN=>by
 have hb:(kN S r c).β i=upd S.β r c i:=rfl
 rw[hb] at hN
 unfold upd at hN
 by_cases e:i=r
 ·rw[if_pos e] at hN;omega
 ·rw[if_neg e] at hN
  obtain ⟨h1,h2⟩:=h i hi hN
  have hT:∀j,(kN S r c).T i j=sg (S.T r c)*Dn.piv S.T S.d r c i j:=fun j=>by
   show mF S.T S.d r c i j=_
   unfold mF
   rw[if_neg e]
  have hz:∀j,S.T i j=0->Dn.piv S.T S.d r c i j=0:=fun j hj=>by
   unfold Dn.piv
   rw[hj,h1 c hc,Int.mul_zero,Int.zero_mul,Int.sub_zero,Int.zero_ediv]
  exact ⟨fun j hj=>by rw[hT,hz j (h1 j hj),Int.mul_zero],by rw[hT,hz _ h2,Int.mul_zero]⟩
abbrev mE (L:Lin) (Y:Lay) (x3 cs:List Int) (S:Sx):(List Nat×List (Option (List Int)))×Int×List Int×List Int×List Int×Int×Int×PUnit:=(iA L.m (Y.w L) S.T,S.d,iH L.m S.β,x3,cs,(Y.N:Int),((Y.R L:Nat):Int),PUnit.unit)
theorem C5 (h:Bnd L Y) (hp:(Y.w L) ^ L.m<=1180591620717411303424) {x3 cs:List Int} (hcs:∀j,iY cs j=ca L j) {S:Sx} (hv:Y.Val L S) (ha:AZ L Y S) :
  ∃S' ok,bC (iA L.m (Y.w L) S.T) S.d (iH L.m S.β) x3 cs (Y.N:Int) ((Y.R L:Nat):Int)=some (iA L.m (Y.w L) S'.T,S'.d,iH L.m S'.β,x3,cs,(Y.N:Int),((Y.R L:Nat):Int),ok,())/\Y.Val L S'/\AZ L Y S' /\
   (ok=true->∀j,j<Y.N->0<=zr L.m (ca L) S' j)/\(ok=false->∃q,q<Y.N/\zr L.m (ca L) S' q<0/\∀i,i<L.m->S'.T i q<=0):=by
 have hcs':iY cs=ca L:=funext hcs
 have hm:=h.m
 have hw:=h.w
 have hN:Y.N<=Y.R L:=by unfold Lay.R;omega
 have hRw:Y.R L<Y.w L:=by unfold Lay.R Lay.w;omega
 unfold bC gi
 have fin:∀{x:Option ((List Nat×List (Option (List Int)))×Int×List Int×List Int×List Int×Int×Int×Bool×Unit)},(∃r,x=some r/\∃S' ok,r=(iA L.m (Y.w L) S'.T,S'.d,iH L.m S'.β,x3,cs,(Y.N:Int),((Y.R L:Nat):Int),ok,PUnit.unit)/\Y.Val L S'/\AZ L Y S' /\
   (ok=true->∀j,j<Y.N->0<=zr L.m (ca L) S' j)/\(ok=false->∃q,q<Y.N/\zr L.m (ca L) S' q<0/\∀i,i<L.m->S'.T i q<=0))->∃S' ok,x=some (iA L.m (Y.w L) S'.T,S'.d,iH L.m S'.β,x3,cs,(Y.N:Int),((Y.R L:Nat):Int),ok,())/\Y.Val L S'/\AZ L Y S' /\
   (ok=true->∀j,j<Y.N->0<=zr L.m (ca L) S' j)/\(ok=false->∃q,q<Y.N/\zr L.m (ca L) S' q<0/\∀i,i<L.m->S'.T i q<=0):=by
  rintro x ⟨r,h1,S',ok,rfl,h3⟩
  exact ⟨S',ok,h1,h3⟩
 refine fin (LZ (γ:=Sx) (I:=fun (S:Sx) x=>x=mE L Y x3 cs S/\Y.Val L S/\AZ L Y S)
  (Q:=fun r=>∃S' ok,r=(iA L.m (Y.w L) S'.T,S'.d,iH L.m S'.β,x3,cs,(Y.N:Int),((Y.R L:Nat):Int),ok,PUnit.unit)/\Y.Val L S'/\AZ L Y S' /\
   (ok=true->∀j,j<Y.N->0<=zr L.m (ca L) S' j)/\(ok=false->∃q,q<Y.N/\zr L.m (ca L) S' q<0/\∀i,i<L.m->S'.T i q<=0))
  (μ:=fun S=>left L.m (Y.w L) Y.N (Y.R L) (Y.M L) (ca L) S) ?_ (s:=S) ⟨rfl,hv,ha⟩ (Nat.lt_of_lt_of_le (EI (by unfold Lay.w;omega) S) hp))
 rintro S _ ⟨rfl,hv,ha⟩
 obtain ⟨hd,hb⟩:=h.tabP hv.tb
 have hred:∀j,j<Y.N->bJ (q6 L.m (Y.w L) S.T,S.d,iH L.m S.β,x3,cs,(Y.N:Int),((Y.R L:Nat):Int)) (j:Int)=some (zr L.m (ca L) S j):=fun j hj=>by
  have hjw:j<Y.w L:=by omega
  have:=EB (m:=L.m) (w:=Y.w L) (T:=S.T) (d:=S.d) (β:=S.β) (j:=j) (x3:=x3) (cs:=cs) (x5:=(Y.N:Int)) (x6:=((Y.R L:Nat):Int)) (by omega) hjw
   (by rw[hcs'];have:=h.cost hd j;omega) (fun i hi=>by rw[hcs'];have:=h.cost (hb i j hi hjw) (S.β i);omega)
  rw[this,hcs']
 rcases wI Y.N (fun j=>decide (zr L.m (ca L) S j<0)) with hnone | ⟨q,hq,hneg,hleast⟩
 ·left
  refine ⟨_,⟨S,true,rfl,hv,ha,fun _ j hj=>by have:=of_decide_eq_false (hnone j hj);omega,fun e=>by cases e⟩,fun rec=>?_⟩
  refine sH Y.N (by omega) (fun j=>((-1:Int),(j:Int),PUnit.unit)) _ (fun again j hj=>?_) (fun again=>?_)
  ·simp only[aX,cT,z7 (show (j:Int)<Y.N by omega),show decide ((-1:Int)<0)=true from rfl,gZ,g9,hred j hj,af,hnone j hj,cF,bq (show j<=1000000 by omega)]
  ·simp only[aX,cT,cF,z8 (show ¬ (Y.N:Int)<Y.N by omega),show decide ((-1:Int)<0)=true from rfl]
 ·have hneg:=z12 hneg
  have hqw:q<Y.w L:=by omega
  have hent:Enters L.m Y.N (ca L) S q:=⟨hq,hneg,fun j hj=>by have:=of_decide_eq_false (hleast j hj);omega⟩
  have hbb:∀i j,i<L.m->j<Y.w L->(S.T i j).natAbs<4611686018427387904:=fun i j hi hj=>by have:=(h.tab hv.tb).2 i j hi hj;omega
  obtain ⟨b,hl1,hl2⟩:=wU (m:=L.m) (w:=Y.w L) (T:=S.T) (d:=S.d) (β:=S.β) (c:=q) (R:=Y.R L) (x1:=S.d) (x3:=x3) (x4:=cs) (x5:=(Y.N:Int)) (by omega) hqw hRw hbb
  have search:∀{R:Type} {F:(Int×Int×PUnit->Option R)->Int×Int×PUnit->Option R} {res:Option R},(∀again j,j<q->F again ((-1:Int),(j:Int),PUnit.unit)=again ((-1:Int),((j+1:Nat):Int),PUnit.unit)) ->
    (∀again,F again ((-1:Int),(q:Int),PUnit.unit)=again ((q:Int),((q+1:Nat):Int),PUnit.unit))->(∀again,F again ((q:Int),((q+1:Nat):Int),PUnit.unit)=res)->lpK (Int×Int×PUnit) R F ((-1:Int),(0:Int),PUnit.unit)=res:=fun h1 h2 h3=>by
   refine cM (q+1) (by omega) (fun j=>if j<=q then ((-1:Int),(j:Int),PUnit.unit) else ((q:Int),(j:Int),PUnit.unit)) _ (by rw[if_pos (by omega)];rfl) (fun again j hj=>?_) (fun again=>?_)
   ·by_cases e:j=q
    ·subst e
     rw[if_pos (by omega),if_neg (by omega)]
     exact h2 again
    ·rw[if_pos (by omega),if_pos (by omega)]
     exact h1 again j (by omega)
   ·rw[if_neg (by omega)]
    exact h3 again
  rcases hl2 with ⟨e,hno⟩ | ⟨r,e,hlv⟩
  ·subst e
   left
   refine ⟨_,⟨S,false,rfl,hv,ha,fun e=>(by cases e),fun _=>⟨q,hq,hneg,hno⟩⟩,fun rec=>?_⟩
   refine search (fun again j hj=>?_) (fun again=>?_) (fun again=>?_)
   ·simp only[aX,cT,z7 (show (j:Int)<Y.N by omega),show decide ((-1:Int)<0)=true from rfl,gZ,g9,hred j (by omega),af,hleast j hj,cF,bq (show j<=1000000 by omega)]
   ·simp only[aX,cT,z7 (show (q:Int)<Y.N by omega),show decide ((-1:Int)<0)=true from rfl,gZ,g9,hred q hq,af,z7 hneg,bq (show q<=1000000 by omega)]
   ·simp only[aX,cT,z8 (show ¬ (q:Int)<0 by omega),iU,Bool.and_false,cF,gZ,g9,hl1,af,show decide ((-1:Int)<0)=true from rfl]
  ·subst e
   right
   have hpr:0<S.T r q:=hlv.pos
   have hr:=hlv.lt
   have hs:=CJ (m:=L.m) (w:=Y.w L) hpr
   refine ⟨kN S r q,mE L Y x3 cs (kN S r q),⟨rfl,hv.stepAt hRw hqw (by omega) hlv hs,ha.step hq⟩,yH (Lay.art h.ok).1 (Lay.art h.ok).2 hN hRw hv ⟨hent,hlv,hs⟩,fun rec=>?_⟩
   refine search (fun again j hj=>?_) (fun again=>?_) (fun again=>?_)
   ·simp only[aX,cT,z7 (show (j:Int)<Y.N by omega),show decide ((-1:Int)<0)=true from rfl,gZ,g9,hred j (by omega),af,hleast j hj,cF,bq (show j<=1000000 by omega)]
   ·simp only[aX,cT,z7 (show (q:Int)<Y.N by omega),show decide ((-1:Int)<0)=true from rfl,gZ,g9,hred q hq,af,z7 hneg,bq (show q<=1000000 by omega)]
   ·simp only[aX,cT,z8 (show ¬ (q:Int)<0 by omega),iU,Bool.and_false,cF,gZ,g9,hl1,af,z8 (show ¬ (r:Int)<0 by omega),wg (h.piv hv.tb hr hqw (show S.T r q≠0 by omega))]
    rfl
end
section
variable {L:Lin} {Y:Lay}
theorem Val.flat {S:Sx} (hv:Y.Val L S) {r c:Nat} (hr:r<L.m) (hc:c<Y.N) (he:S.T r c≠0) (h0:S.T r (Y.R L)=0):Y.Val L (kN S r c):=by
 have hcw:c<Y.w L:=by unfold Lay.w;omega
 have hRw:Y.R L<Y.w L:=by unfold Lay.R Lay.w;omega
 have hd:=hv.tb.dpos
 refine ⟨hv.tb.step hr hcw he,fun i hi=>?_,fun i hi=>?_⟩
 ·show 0<=mF S.T S.d r c i (Y.R L)
  unfold mF
  by_cases e:i=r
  ·rw[if_pos e,h0,Int.mul_zero];exact Int.le_refl _
  ·rw[if_neg e]
   have h1:=jg hv.tb hr hi (Ne.symm e) hcw hRw
   rw[h0,Int.mul_zero,Int.sub_zero] at h1
   have h2:0<=sg (S.T r c)*S.T r c*S.T i (Y.R L):=Int.mul_nonneg (Int.le_of_lt (Kz he)) (hv.feas i hi)
   rw[Int.mul_assoc,<-h1] at h2
   have h3:sg (S.T r c)*(S.d*Dn.piv S.T S.d r c i (Y.R L))=S.d*(sg (S.T r c)*Dn.piv S.T S.d r c i (Y.R L)):=by grind
   rw[h3] at h2
   exact Int.nonneg_of_mul_nonneg_right h2 hd
 ·show upd S.β r c i≠_
  unfold upd
  split
  ·unfold Lay.R;omega
  ·exact hv.ne i hi
theorem A8 {T:Nat->Nat->Int} {d:Int} {r c i j:Nat} (h1:T i j=0) (h2:T i c=0\/T r j=0):Dn.piv T d r c i j=0:=by
 unfold Dn.piv
 rw[h1,Int.mul_zero]
 rcases h2 with h | h
 ·rw[h,Int.zero_mul,Int.sub_zero,Int.zero_ediv]
 ·rw[h,Int.mul_zero,Int.sub_zero,Int.zero_ediv]
structure Swp (L:Lin) (Y:Lay) (i:Nat) (S:Sx):Prop where
 val:Y.Val L S
 right:∀k,k<L.m->Y.N<=S.β k->S.T k (Y.R L)=0
 rows:∀k,k<L.m->k<i->Y.N<=S.β k->∀j,j<Y.N->S.T k j=0
theorem Swp.step {i:Nat} {S:Sx} (h:Swp L Y i S) {j:Nat} (hi:i<L.m) (hj:j<Y.N) (hN:Y.N<=S.β i) (he:S.T i j≠0):Swp L Y i (kN S i j):=by
 have h0:=h.right i hi hN
 have up:∀k,k≠i->(kN S i j).β k=S.β k:=fun k hk=>by
  show upd S.β i j k=_
  unfold upd
  rw[if_neg hk]
 have ui:(kN S i j).β i=j:=by
  show upd S.β i j i=_
  unfold upd
  rw[if_pos rfl]
 have hT:∀k l,k≠i->(kN S i j).T k l=sg (S.T i j)*Dn.piv S.T S.d i j k l:=fun k l hk=>by
  show mF S.T S.d i j k l=_
  unfold mF
  rw[if_neg hk]
 refine ⟨Val.flat h.val hi hj he h0,fun k hk hb=>?_,fun k hk hlt hb l hl=>?_⟩
 ·have e:k≠i:=fun e=>by rw[e,ui] at hb;omega
  rw[up k e] at hb
  rw[hT k _ e,A8 (h.right k hk hb) (.inr h0),Int.mul_zero]
 ·have e:k≠i:=by omega
  rw[up k e] at hb
  rw[hT k _ e,A8 (h.rows k hk hlt hb l hl) (.inl (h.rows k hk hlt hb j hj)),Int.mul_zero]
def zL (L:Lin) (Y:Lay) (x3 cs:List Int) (o:Option ((List Nat×List (Option (List Int)))×Int×List Int×List Int×List Int×Int×Int×Bool×Unit)):Prop :=
 ∃S' ok,o=some (iA L.m (Y.w L) S'.T,S'.d,iH L.m S'.β,x3,cs,(Y.N:Int),((Y.R L:Nat):Int),ok,PUnit.unit)/\Y.Val L S' /\
   (ok=true->AZ L Y S')/\(ok=false->(∀j,j<Y.N->0<=zr L.m (fE Y.N) S' j)/\0<sz L.m fun i=>fE Y.N (S'.β i)*S'.T i (Y.R L))
theorem IJ (h:Bnd L Y) (hp:(Y.w L) ^ L.m<=1180591620717411303424) {x3 cs:List Int} {S:Sx} (hv:Y.Val L S) :
  zL L Y x3 cs (bn (iA L.m (Y.w L) S.T) S.d (iH L.m S.β) x3 cs (Y.N:Int) ((Y.R L:Nat):Int)):=by
 have hm:=h.m
 have hw:=h.w
 have hN:Y.N<=Y.R L:=by unfold Lay.R;omega
 have hRw:Y.R L<Y.w L:=by unfold Lay.R Lay.w;omega
 unfold bn gS
 refine uX (γ:=Sx) (I:=fun (S:Sx) x=>x=mE L Y x3 cs S/\Y.Val L S)
  (Q:=zL L Y x3 cs)
  (μ:=fun S=>left L.m (Y.w L) Y.N (Y.R L) (Y.M L) (fE Y.N) S) ?_ (s:=S) ⟨rfl,hv⟩ (Nat.lt_of_lt_of_le (EI (by unfold Lay.w;omega) S) hp)
 rintro rec S _ ⟨rfl,hv⟩
 obtain ⟨hd,hb⟩:=h.tab hv.tb
 have hbb:∀i j,i<L.m->j<Y.w L->(S.T i j).natAbs<4611686018427387904:=fun i j hi hj=>by have:=hb i j hi hj;omega
 have hart:∀j,j<Y.w L->aH (q6 L.m (Y.w L) S.T,S.d,iH L.m S.β,x3,cs,(Y.N:Int),((Y.R L:Nat):Int)) (j:Int)=some (sz L.m fun i=>fE Y.N (S.β i)*S.T i j):=fun j hj =>
  xn (by omega) hj fun i hi=>by have:=hb i j hi hj;omega
 have hz:∀j,j<Y.N->zr L.m (fE Y.N) S j= - sz L.m fun i=>fE Y.N (S.β i)*S.T i j:=fun j hj=>by
  unfold zr
  rw[show fE Y.N j=0 from if_neg (by omega),Int.zero_mul,Int.zero_sub]
 rcases wI Y.N (fun j=>decide ((sz L.m fun i=>fE Y.N (S.β i)*S.T i j)>0)) with hnone | ⟨q,hq,hneg,hleast⟩
 ·left
  have search:∀{R:Type} {F:(Int×Int×PUnit->Option R)->Int×Int×PUnit->Option R} {Q:Option R->Prop},(∀again j,j<Y.N->F again ((-1:Int),(j:Int),PUnit.unit)=again ((-1:Int),((j+1:Nat):Int),PUnit.unit)) ->
    (∃res,Q res/\∀again,F again ((-1:Int),(Y.N:Int),PUnit.unit)=res)->Q (lpK (Int×Int×PUnit) R F ((-1:Int),(0:Int),PUnit.unit)):=fun {R} {F} {Q} h1 h3=>by
   obtain ⟨res,h4,h5⟩:=h3
   have e:lpK (Int×Int×PUnit) R F ((-1:Int),(0:Int),PUnit.unit)=res:=cM Y.N (by omega) (fun j=>((-1:Int),(j:Int),PUnit.unit)) res rfl h1 h5
   rw[e]
   exact h4
  refine search (Q:=zL L Y x3 cs) (fun again j hj=>?_) ?_
  ·simp only[aX,cT,z7 (show (j:Int)<Y.N by omega),show decide ((-1:Int)<0)=true from rfl,gZ,g9,hart j (by omega),af,hnone j hj,cF,bq (show j<=1000000 by omega)]
  ·simp only[aX,cT,cF,z8 (show ¬ (Y.N:Int)<Y.N by omega),show decide ((-1:Int)<0)=true from rfl,gZ,g9,hart _ hRw,af]
   have hzr:∀j,j<Y.N->0<=zr L.m (fE Y.N) S j:=fun j hj=>by
    rw[hz j hj]
    have:=of_decide_eq_false (hnone j hj)
    omega
   by_cases hpos:(sz L.m fun i=>fE Y.N (S.β i)*S.T i (Y.R L))>0
   ·rw[z7 hpos]
    simp only[cT]
    exact ⟨_,⟨S,false,rfl,hv,fun e=>(by cases e),fun _=>⟨hzr,hpos⟩⟩,fun _=>rfl⟩
   ·rw[z8 hpos]
    simp only[cF]
    refine ⟨_,?_,fun _=>rfl⟩
    have hnn:∀i,i<L.m->0<=fE Y.N (S.β i)*S.T i (Y.R L):=fun i hi=>Int.mul_nonneg (by unfold fE;split<;>omega) (hv.feas i hi)
    have hS:Swp L Y 0 S:=by
     refine ⟨hv,fun k hk hNk=>?_,fun k _ h0=>by omega⟩
     have h1:(sz L.m fun i=>if i=k then fE Y.N (S.β k)*S.T k (Y.R L) else 0)<=sz L.m fun i=>fE Y.N (S.β i)*S.T i (Y.R L):=pT fun i hi=>by
      by_cases e:i=k
      ·rw[if_pos e,e];exact Int.le_refl _
      ·rw[if_neg e];exact hnn i hi
     rw[eG hk fun i _ hne=>if_neg hne,if_pos rfl] at h1
     have h2:=hnn k hk
     have h3:fE Y.N (S.β k)=1:=if_pos hNk
     rw[h3,Int.one_mul] at h1 h2
     omega
    refine uX (γ:=Nat×Sx) (I:=fun g x=>x=((g.1:Int),mE L Y x3 cs g.2)/\g.1<=L.m/\Swp L Y g.1 g.2)
     (Q:=zL L Y x3 cs)
     (μ:=fun g=>L.m - g.1) ?_ (s:=(0,S)) ⟨rfl,by omega,hS⟩ (by simp only;omega)
    rintro rec2 ⟨i,S⟩ _ ⟨rfl,hi,hS⟩
    simp only at hi hS
    by_cases hlt:i<L.m
    ·right
     simp only[gF,z7 (show (i:Int)<L.m by omega),cT]
     have inner:∀{R:Type} {F:(Int×(List Nat×List (Option (List Int)))×Int×List Int×List Int×List Int×Int×Int×PUnit->Option R)->Int×(List Nat×List (Option (List Int)))×Int×List Int×List Int×List Int×Int×Int×PUnit->Option R} {k:(Int×(List Nat×List (Option (List Int)))×Int×List Int×List Int×List Int×Int×Int×PUnit->Option R)},
       (∀again (j:Nat) S,Swp L Y i S->j<=Y.N->(j<Y.N->Y.N<=S.β i->S.T i j=0->F again ((j:Int),mE L Y x3 cs S)=again (((j+1:Nat):Int),mE L Y x3 cs S))/\(j<Y.N->Y.N<=S.β i->S.T i j≠0->F again ((j:Int),mE L Y x3 cs S)=again (((j+1:Nat):Int),mE L Y x3 cs (kN S i j))) /\
        (¬ (j<Y.N/\Y.N<=S.β i)->F again ((j:Int),mE L Y x3 cs S)=k (((i+1:Nat):Int),mE L Y x3 cs S))) ->
       ∃S',Swp L Y (i+1) S'/\lpK _ R F ((0:Int),mE L Y x3 cs S)=k (((i+1:Nat):Int),mE L Y x3 cs S'):=fun {R} {F} {k} hF=>by
      refine uX (γ:=Nat×Sx) (I:=fun g x=>x=((g.1:Int),mE L Y x3 cs g.2)/\g.1<=Y.N/\Swp L Y i g.2/\(Y.N<=g.2.β i->∀l,l<g.1->g.2.T i l=0))
       (Q:=fun o=>∃S',Swp L Y (i+1) S'/\o=k (((i+1:Nat):Int),mE L Y x3 cs S')) (μ:=fun g=>Y.N - g.1) ?_ (s:=(0,S)) ⟨rfl,by omega,hS,fun _ l hl=>by omega⟩ (by simp only;omega)
      rintro rec3 ⟨j,S⟩ _ ⟨rfl,hj,hS,hz⟩
      simp only at hj hS hz
      obtain ⟨f1,f2,f3⟩:=hF rec3 j S hS hj
      by_cases hc:j<Y.N/\Y.N<=S.β i
      ·right
       by_cases h0:S.T i j=0
       ·refine ⟨(j+1,S),_,⟨rfl,by simp only;omega,hS,fun hN l hl=>?_⟩,by simp only;omega,f1 hc.1 hc.2 h0⟩
        simp only at hl
        by_cases e:l=j
        ·rw[e];exact h0
        ·exact hz hN l (by omega)
       ·refine ⟨(j+1,kN S i j),_,⟨rfl,by simp only;omega,hS.step hlt hc.1 hc.2 h0,fun hN=>?_⟩,by simp only;omega,f2 hc.1 hc.2 h0⟩
        have e:(kN S i j).β i=j:=by
         show upd S.β i j i=_
         unfold upd
         rw[if_pos rfl]
        rw[e] at hN
        omega
      ·left
       refine ⟨S,⟨hS.val,hS.right,fun k hk hlt' hN l hl=>?_⟩,f3 hc⟩
       by_cases e:k=i
       ·subst e
        exact hz hN l (by omega)
       ·exact hS.rows k hk (by omega) hN l hl
     have fin:∀{o},(∃S',Swp L Y (i+1) S'/\o=rec2 (((i+1:Nat):Int),mE L Y x3 cs S'))->∃(g:Nat×Sx) (y:_),(y=((g.1:Int),mE L Y x3 cs g.2)/\g.1<=L.m/\Swp L Y g.1 g.2)/\L.m - g.1<L.m - i/\o=rec2 y:=by
      rintro o ⟨S',h1,h2⟩
      exact ⟨(i+1,S'),_,⟨rfl,by simp only;omega,h1⟩,by simp only;omega,h2⟩
     refine fin (inner (fun again j S hS hj=>⟨fun c1 c2 c3=>?_,fun c1 c2 c3=>?_,fun c1=>?_⟩))
     ·have hjw:j<Y.w L:=by omega
      simp only[mE,z7 (show (j:Int)<Y.N by omega),iP,bo,z9,z7 hlt,di (show Nat.succ i<=L.m from hlt),jx hlt,z7 (show (S.β i:Int)>=Y.N by omega),Bool.not_true,Bool.or_true,Bool.and_self,cT,gF,kj hlt,ju,gk hlt,bf,bM hjw,z7 hjw,di (show Nat.succ j<=Y.w L from hjw),z7 c3,cF,bq (show j<=1000000 by omega)]
     ·have hjw:j<Y.w L:=by omega
      simp only[mE,z7 (show (j:Int)<Y.N by omega),iP,bo,z9,z7 hlt,di (show Nat.succ i<=L.m from hlt),jx hlt,z7 (show (S.β i:Int)>=Y.N by omega),Bool.not_true,Bool.not_false,Bool.or_true,Bool.and_self,cT,gF,kj hlt,ju,gk hlt,bf,bM hjw,z7 hjw,di (show Nat.succ j<=Y.w L from hjw),z8 c3,bq (show j<=1000000 by omega),
       wg (h.piv hS.val.tb hlt hjw c3),af]
      rfl
     ·by_cases c2:j<Y.N
      ·simp only[mE,z7 (show (j:Int)<Y.N by omega),iP,bo,z9,z7 hlt,di (show Nat.succ i<=L.m from hlt),jx hlt,z8 (show ¬ (S.β i:Int)>=Y.N by omega),Bool.not_true,Bool.or_true,Bool.and_self,cT,cF,bq (show i<=1000000 by omega)]
      ·simp only[mE,z8 (show ¬ (j:Int)<Y.N by omega),Bool.not_false,Bool.true_or,Bool.and_self,cT,cF,bq (show i<=1000000 by omega)]
    ·left
     have e:i=L.m:=by omega
     subst e
     simp only[gF,z8 (show ¬ (L.m:Int)<L.m by omega),cF]
     exact ⟨S,true,rfl,hS.val,fun _ k hk hN=>⟨hS.rows k hk hk hN,hS.right k hk hN⟩,fun e=>by cases e⟩
 ·have hneg:=z12 hneg
  have hqw:q<Y.w L:=by omega
  have hent:Enters L.m Y.N (fE Y.N) S q:=⟨hq,by rw[hz q hq];omega,fun j hj=>by rw[hz j (by omega)];have:=of_decide_eq_false (hleast j hj);omega⟩
  obtain ⟨b,hl1,hl2⟩:=wU (m:=L.m) (w:=Y.w L) (T:=S.T) (d:=S.d) (β:=S.β) (c:=q) (R:=Y.R L) (x1:=S.d) (x3:=x3) (x4:=cs) (x5:=(Y.N:Int)) (by omega) hqw hRw hbb
  rcases hl2 with ⟨e,hno⟩ | ⟨r,e,hlv⟩
  ·exfalso
   have h1:(sz L.m fun i=>fE Y.N (S.β i)*S.T i q)<=sz L.m fun _=>0:=pT fun i hi=>by
    have:=hno i hi
    unfold fE
    split<;>omega
   rw[gb (f:=fun _=>0) fun _ _=>rfl] at h1
   omega
  ·subst e
   right
   have hpr:0<S.T r q:=hlv.pos
   have hr:=hlv.lt
   have hs:=CJ (m:=L.m) (w:=Y.w L) hpr
   refine ⟨kN S r q,mE L Y x3 cs (kN S r q),⟨rfl,hv.stepAt hRw hqw (by omega) hlv hs⟩,yH (Lay.art h.ok).1 (Lay.art h.ok).2 hN hRw hv ⟨hent,hlv,hs⟩,?_⟩
   refine cM (q+1) (by omega) (fun j=>if j<=q then ((-1:Int),(j:Int),PUnit.unit) else ((q:Int),(j:Int),PUnit.unit)) _ (by rw[if_pos (by omega)];rfl) (fun again j hj=>?_) (fun again=>?_)
   ·by_cases e:j=q
    ·subst e
     rw[if_pos (by omega),if_neg (by omega)]
     simp only[aX,cT,z7 (show (j:Int)<Y.N by omega),show decide ((-1:Int)<0)=true from rfl,gZ,g9,hart j hqw,af,z7 hneg,bq (show j<=1000000 by omega)]
    ·rw[if_pos (by omega),if_pos (by omega)]
     simp only[aX,cT,z7 (show (j:Int)<Y.N by omega),show decide ((-1:Int)<0)=true from rfl,gZ,g9,hart j (by omega),af,hleast j (by omega),cF,bq (show j<=1000000 by omega)]
   ·rw[if_neg (by omega)]
    simp only[aX,cT,z8 (show ¬ (q:Int)<0 by omega),iU,Bool.and_false,cF,gZ,g9,hl1,af,wg (h.piv hv.tb hr hqw (show S.T r q≠0 by omega))]
    rfl
open Tryz Dn Dn.Sh
def ap (p:Pg):Lin:=⟨p.1.length,p.2.length,fun k j=>(p.2.getD k rw0).1.getD j 0,fun k=>(p.2.getD k rw0).2.2,fun j=>p.1.getD j 0,fun k=>(p.2.getD k rw0).2.1⟩
def fQ (p:Pg):Nat->Nat
 | 0=>0
 | k+1=>fQ p k+if (p.2.getD k rw0).2.1=3 then 0 else 1
def aG (p:Pg):Lay:=⟨p.1.length+fQ p p.2.length,fun k=>p.1.length+fQ p k,fun k=>if (p.2.getD k rw0).2.2<0 then -1 else 1⟩
theorem tc {p:Pg}:∀k,fQ p k<=k
 | 0=>Nat.le_refl _
 | k+1=>by
  have:=tc (p:=p) k
  simp only[fQ]
  split<;>omega
theorem uZ {p:Pg} {k:Nat}:∀{l:Nat},k<l->(p.2.getD k rw0).2.1≠3->fQ p k<fQ p l
 | 0,h,_=>by omega
 | l+1,h,h3=>by
  simp only[fQ]
  by_cases e:k=l
  ·subst e
   rw[if_neg h3];omega
  ·have:=uZ (l:=l) (by omega) h3
   split<;>omega
theorem nV {p:Pg} (hv:ValidP p):(aG p).ok (ap p):=by
 have row:∀k,k<p.2.length->p.2.getD k rw0 ∈ p.2:=fun k hk=>by rw[bG hk];exact List.getElem_mem _
 refine ⟨Nat.le_add_right _ _,fun k hk=>?_,fun k hk h3=>⟨Nat.le_add_right _ _,?_⟩,fun k l hk hl h3 h4 e=>?_,fun k _=>?_,fun k _=>?_⟩
 ·have:=hv.kind _ (row k hk)
  show (p.2.getD k rw0).2.1=1\/(p.2.getD k rw0).2.1=2\/(p.2.getD k rw0).2.1=3
  omega
 ·have:=uZ (p:=p) (k:=k) (l:=p.2.length) hk h3
  show p.1.length+fQ p k<p.1.length+fQ p p.2.length
  omega
 ·have e:p.1.length+fQ p k=p.1.length+fQ p l:=e
  rcases Nat.lt_trichotomy k l with h | h | h
  ·have:=uZ (p:=p) h h3;omega
  ·exact h
  ·have:=uZ (p:=p) h h4;omega
 ·show (if (p.2.getD k rw0).2.2<0 then (-1:Int) else 1)=1\/(if (p.2.getD k rw0).2.2<0 then (-1:Int) else 1)= -1
  split<;>omega
 ·show 0<=(if (p.2.getD k rw0).2.2<0 then (-1:Int) else 1)*(p.2.getD k rw0).2.2
  split<;>omega
theorem zI {p:Pg} (hv:ValidP p):(aG p).w (ap p)<=25/\(ap p).m<=6:=by
 have h1:=tc (p:=p) p.2.length
 have h2:=hv.rows
 have h3:=hv.cost.2
 refine ⟨?_,h2⟩
 show p.1.length+fQ p p.2.length+p.2.length+1<=25
 omega
theorem mS {α:Type} {w:Nat} {f:Nat->α}:bV w f++[f w]=bV (w+1) f:=by
 unfold bV
 rw[List.range_succ,List.map_append]
 rfl
theorem Ed {m w:Nat} {T:Nat->Nat->Int}:dF m w T++[some (bV w (T m))]=dF (m+1) w T:=by
 unfold dF
 rw[List.range_succ,List.map_append]
 rfl
theorem Ly {l:List Int} {w:Nat} (h:l.length<=w):List.take 0 (List.replicate w (0:Int))++List.take w l++List.drop (0+(List.take w l).length) (List.replicate w 0)=bV w fun j=>l.getD j 0:=by
 rw[List.take_of_length_le h]
 refine List.ext_getElem (by rw[bf];simp;omega) fun i h1 h2=>?_
 rw[qq]
 have hi:i<w:=by rw[bf] at h2;exact h2
 by_cases e:i<l.length
 ·rw[bG e,List.getElem_append_left (by simp;exact e)]
  simp
 ·rw[List.getElem_append_right (by simp;omega),List.getD_eq_getElem?_getD,List.getElem?_eq_none (by omega)]
  simp
abbrev St:=Int×Int×(List Nat×List (Option (List Int)))×Int×List Int×List Int×List Int×Int×Int×PUnit
def M4 {R:Type} (p:Pg) (again:St->Option R) (x:St) (x_1:Int×List Int×PUnit):Option R :=
 let v21:List Int×PUnit:=(x_1.2.1,PUnit.unit);jnK (Int×List Int×PUnit) R (fun (x_2:Int×List Int×PUnit)=>bif inB (IntKind.wrap .i64 (x.2.2.2.2.2.2.2.1+x.2.1)) (List.length x_2.2.1) then bif Nat.ble (Nat.succ (Int.toNat (IntKind.wrap .i64 (x.2.2.2.2.2.2.2.1+x.2.1)))) (List.length x_2.2.1) then bif dR (List.length x.2.2.1.1+(1:Nat)) (24:Nat) then bif dR (List.length x.2.2.2.2.2.1+(1:Nat)) (8:Nat) then bif dR (List.length x.2.2.2.2.1+(1:Nat)) (8:Nat) then again (x_1.1,IntKind.wrap .i64 (x.2.1+(1:Int)),(x.2.2.1.1++[List.length x.2.2.1.2+(0:Nat)],x.2.2.1.2++[some (List.set x_2.2.1 (Int.toNat (IntKind.wrap .i64 (x.2.2.2.2.2.2.2.1+x.2.1))) (1:Int))]),x.2.2.2.1,x.2.2.2.2.1++[(IntKind.wrap .i64 (x.2.2.2.2.2.2.2.1+x.2.1))],x.2.2.2.2.2.1++[x_2.1],x.2.2.2.2.2.2.1,x.2.2.2.2.2.2.2.1,x.2.2.2.2.2.2.2.2.1,PUnit.unit) else none else none else none else none else none) fun (j:Int×List Int×PUnit->Option R)=>bif decide ((List.getD p.2 (Int.toNat x.2.1) ([],(0:Int),(0:Int))).2.2<(0:Int)) then lpK (Int×List Int×PUnit) R (fun (again:Int×List Int×PUnit->Option R) (x:Int×List Int×PUnit) =>
 let v25:Bool:=inB x.1 (List.length x.2.1);
 let v26:Bool:=Nat.ble (Nat.succ (Int.toNat x.1)) (List.length x.2.1);
 bif decide (x.1<(↑(List.length x_1.2.1):Int)) then bif v25 then bif v26 then bif v25 then bif v26 then again (IntKind.wrap .i64 (x.1+(1:Int)),List.set x.2.1 (Int.toNat x.1) (IntKind.wrap .i64 ((0:Int) - List.getD x.2.1 (Int.toNat x.1) (0:Int))),PUnit.unit) else none else none else none else none else j ((-1:Int),x.2.1,PUnit.unit)) ((0:Int),v21) else j ((1:Int),v21)
def L9 {R:Type} (p:Pg) (again k:St->Option R) (x:St):Option R :=
 let v12:Int:=IntKind.wrap .i64 (x.1+(1:Int));
 let v13:List Int×Int×Int:=List.getD p.2 (Int.toNat x.2.1) ([],(0:Int),(0:Int));
 let v14:List Int:=List.replicate (Int.toNat (IntKind.wrap .i64 (x.2.2.2.2.2.2.2.2.1+(1:Int)))) (0:Int);
 let v15:Bool:=inB x.1 (Int.toNat (IntKind.wrap .i64 (x.2.2.2.2.2.2.2.2.1+(1:Int))));
 let v16:Bool:=Nat.ble (Nat.succ (Int.toNat x.1)) (Int.toNat (IntKind.wrap .i64 (x.2.2.2.2.2.2.2.2.1+(1:Int))));
 let _:Int:=IntKind.wrap .i64 (x.2.2.2.2.2.2.2.1+x.2.1);
 let v18:List Int:=List.take (Int.toNat (IntKind.wrap .i64 (x.2.2.2.2.2.2.2.2.1+(1:Int)))) v13.1;
 let v19:List Int:=List.set (List.take (0:Nat) v14++v18++List.drop ((0:Nat)+List.length v18) v14) (Int.toNat x.2.2.2.2.2.2.2.2.1) v13.2.2;
 bif decide (x.2.1<(↑(List.length p.2):Int)) then bif inB x.2.1 (List.length p.2) then bif decide ((0:Int)<=IntKind.wrap .i64 (x.2.2.2.2.2.2.2.2.1+(1:Int)))&&dR (Int.toNat (IntKind.wrap .i64 (x.2.2.2.2.2.2.2.2.1+(1:Int)))) (8:Nat) then bif inB x.2.2.2.2.2.2.2.2.1 (Int.toNat (IntKind.wrap .i64 (x.2.2.2.2.2.2.2.2.1+(1:Int)))) then bif Nat.ble (Nat.succ (Int.toNat x.2.2.2.2.2.2.2.2.1)) (Int.toNat (IntKind.wrap .i64 (x.2.2.2.2.2.2.2.2.1+(1:Int)))) then jnK (Int×List Int×PUnit) R (M4 p again x) fun (j:Int×List Int×PUnit->Option R)=>bif decide (v13.2.1=(1:Int)) then bif v15 then bif v16 then j (v12,List.set v19 (Int.toNat x.1) (1:Int),PUnit.unit) else none else none else jnK (Int×List Int×PUnit) R (fun (x:Int×List Int×PUnit)=>j (x.1,x.2.1,PUnit.unit)) fun (j:Int×List Int×PUnit->Option R)=>bif decide (v13.2.1=(2:Int)) then bif v15 then bif v16 then j (v12,List.set v19 (Int.toNat x.1) (-1:Int),PUnit.unit) else none else none else j (x.1,v19,PUnit.unit) else none else none else none else none else k x
theorem Fe {p:Pg} (hv:ValidP p) {R:Type} {again:St->Option R} {i:Nat} (hi:i<p.2.length) {f:Nat->Int} {s s0:Int}
  (hf:∀k,k<(aG p).w (ap p)->f k=if k=(aG p).R (ap p) then (ap p).b i else if (ap p).kd i≠3/\k=(aG p).sl i then (if (ap p).kd i=1 then 1 else -1) else (p.2.getD i rw0).1.getD k 0) :
  M4 p again (s0,(i:Int),(List.range i,dF i ((aG p).w (ap p)) ((aG p).M (ap p))),1,iH i (fun k=>(aG p).N+k),bV i (aG p).σ,p.1,((aG p).N:Int),(((aG p).R (ap p):Nat):Int),PUnit.unit) (s,bV ((aG p).w (ap p)) f,PUnit.unit) =
   again (s,((i+1:Nat):Int),(List.range (i+1),dF (i+1) ((aG p).w (ap p)) ((aG p).M (ap p))),1,iH (i+1) (fun k=>(aG p).N+k),bV (i+1) (aG p).σ,p.1,((aG p).N:Int),(((aG p).R (ap p):Nat):Int),PUnit.unit):=by
 obtain ⟨h1,h2⟩:=zI hv
 have hr:p.2.getD i rw0 ∈ p.2:=by rw[bG hi];exact List.getElem_mem _
 have hR:=hv.right _ hr
 have hl:=hv.len _ hr
 have hc:=hv.coefs _ hr
 have hn:=hv.cost.2
 have hbb:∀k,k<(aG p).w (ap p)-> -1073741824<=f k/\f k<=1073741824:=fun k hk=>by
  rw[hf k hk]
  split
  ·exact z12 hR
  ·split
   ·split<;>omega
   ·by_cases e:k<(p.2.getD i rw0).1.length
    ·have:=z12 (hc ((p.2.getD i rw0).1.getD k 0) (by rw[bG e];exact List.getElem_mem _))
     omega
    ·rw[List.getD_eq_getElem?_getD,List.getElem?_eq_none (by omega)]
     simp
 obtain ⟨w,hw⟩:∃w,w=(aG p).w (ap p):=⟨_,rfl⟩
 have hNi:(aG p).N+i<w:=by rw[hw];show (aG p).N+i<(aG p).N+p.2.length+1;omega
 have hNw:(aG p).N+p.2.length+1=w:=hw.symm
 have hm6:p.2.length<=6:=h2
 rw[<-hw] at hf hbb h1 ⊢
 have fin:∀(σ:Int),σ=(aG p).σ i->(List.range i++[(dF i w ((aG p).M (ap p))).length+0],dF i w ((aG p).M (ap p))++[some ((bV w fun k=>σ*f k).set ((aG p).N+i) 1)])=(List.range (i+1),dF (i+1) w ((aG p).M (ap p))):=fun σ hσ=>by
  rw[nj,Nat.add_zero,<-List.range_succ,iJ hNi,<-Ed]
  congr 3
  congr 1
  refine cR fun k hk=>?_
  have hok:=nV hv
  unfold Lay.M
  rw[hf k hk,hσ]
  have hNn:(ap p).n<=(aG p).N:=hok.n
  have hRe:(aG p).R (ap p)=(aG p).N+p.2.length:=rfl
  have hme:(ap p).m=p.2.length:=rfl
  rw[hRe,hme]
  by_cases c1:k<(ap p).n
  ·rw[if_neg (by omega),if_neg (by omega),if_pos c1,if_neg]
   ·rfl
   ·rintro ⟨e1,e2⟩
    have:=(hok.sl i hi e1).1
    omega
  ·rw[if_neg c1]
   by_cases c2:k<(aG p).N
   ·rw[if_neg (by omega),if_neg (by omega),if_pos c2]
    by_cases c3:(ap p).kd i≠3/\k=(aG p).sl i
    ·rw[if_pos c3,if_pos c3]
    ·rw[if_neg c3,if_neg c3,List.getD_eq_getElem?_getD,List.getElem?_eq_none (by rw[hl];exact Nat.not_lt.1 c1)]
     simp
   ·rw[if_neg c2]
    by_cases c3:k<(aG p).N+p.2.length
    ·rw[if_pos c3]
     by_cases c4:k=(aG p).N+i
     ·rw[if_pos c4,if_pos c4]
     ·rw[if_neg c4,if_neg c4,if_neg (by omega),if_neg]
      ·rw[List.getD_eq_getElem?_getD,List.getElem?_eq_none (by rw[hl];exact Nat.not_lt.1 c1)]
       simp
      ·rintro ⟨e1,e2⟩
       have:=(hok.sl i hi e1).2
       omega
    ·rw[if_neg c3,if_neg (by omega),if_pos (by omega)]
 have hadd:IntKind.wrap .i64 (((aG p).N:Int)+(i:Int))=(((aG p).N+i:Nat):Int):=by rw[be (by omega) (by omega)];rfl
 have hg:∀{n k:Nat},n<=1000->k<=24->dR n k=true:=fun {n k} h1 h2=>fM (Nat.le_trans (Nat.mul_le_mul h1 h2) (by decide))
 have tail:∀(σ:Int),σ=(aG p).σ i->(bif inB (IntKind.wrap .i64 (((aG p).N:Int)+(i:Int))) (bV w fun k=>σ*f k).length then bif Nat.ble (Nat.succ (Int.toNat (IntKind.wrap .i64 (((aG p).N:Int)+(i:Int))))) (bV w fun k=>σ*f k).length then
   bif dR ((List.range i).length+1) 24 then bif dR ((bV i (aG p).σ).length+1) 8 then bif dR ((iH i fun k=>(aG p).N+k).length+1) 8 then
   again (s,IntKind.wrap .i64 ((i:Int)+1),(List.range i++[(dF i w ((aG p).M (ap p))).length+0],dF i w ((aG p).M (ap p))++[some ((bV w fun k=>σ*f k).set (Int.toNat (IntKind.wrap .i64 (((aG p).N:Int)+(i:Int)))) 1)]),1,
    (iH i fun k=>(aG p).N+k)++[IntKind.wrap .i64 (((aG p).N:Int)+(i:Int))],bV i (aG p).σ++[σ],p.1,((aG p).N:Int),(((aG p).R (ap p):Nat):Int),PUnit.unit) else none else none else none else none else none) =
   again (s,((i+1:Nat):Int),(List.range (i+1),dF (i+1) w ((aG p).M (ap p))),1,iH (i+1) (fun k=>(aG p).N+k),bV (i+1) (aG p).σ,p.1,((aG p).N:Int),(((aG p).R (ap p):Nat):Int),PUnit.unit):=fun σ hσ=>by
  rw[hadd,z9,fin σ hσ,bf,bo,z7 hNi,di hNi,List.length_range,bf,iP,hg (by omega) (by omega),hg (by omega) (by omega),bq (show i<=1000000 by omega),hσ,mS]
  simp only[cT]
  rw[show (iH i fun k=>(aG p).N+k)++[(((aG p).N+i:Nat):Int)]=iH (i+1) (fun k=>(aG p).N+k) from mS (f:=fun k=>(((aG p).N+k:Nat):Int))]
 unfold M4
 simp only[sJ,z9]
 by_cases hneg:(p.2.getD i rw0).2.2<0
 ·have hs:(aG p).σ i= -1:=if_pos hneg
  rw[z7 hneg,cond_true]
  refine cM w (by omega) (fun k=>((k:Int),bV w (fun j=>if j<k then -1*f j else f j),PUnit.unit)) _ ?_ (fun again2 k hk=>?_) (fun again2=>?_)
  ·rw[cR (f:=fun j=>if j<0 then -1*f j else f j) (g:=f) fun j _=>if_neg (by omega)];rfl
  ·have hb:=hbb k hk
   simp only[bf,bo,z9,z7 hk,z7 (show (k:Int)<w by omega),di (show Nat.succ k<=w from hk),bM hk,cT,if_neg (Nat.lt_irrefl k),bq (show k<=1000000 by omega),be (show -9223372036854775808<=0 - f k by omega) (by omega),iJ hk]
   congr 3
   refine cR fun j _=>?_
   by_cases c:j=k
   ·rw[if_pos c,if_pos (by omega),c];omega
   ·rw[if_neg c]
    by_cases c2:j<k
    ·rw[if_pos c2,if_pos (by omega)]
    ·rw[if_neg c2,if_neg (by omega)]
  ·simp only[bf,z8 (show ¬ (w:Int)<w by omega),cF]
   rw[cR (f:=fun j=>if j<w then -1*f j else f j) (g:=fun j=> -1*f j) fun j hj=>if_pos hj]
   have:=tail (-1) hs.symm
   simp only[bf] at this
   exact this
 ·have hs:(aG p).σ i=1:=if_neg hneg
  rw[z8 hneg,cond_false]
  have:=tail 1 hs.symm
  rw[cR (f:=fun j=>1*f j) (g:=f) fun j _=>Int.one_mul _] at this
  exact this
theorem Gw {p:Pg} (hv:ValidP p) {R:Type} {k:St->Option R} :
  lpK St R (fun again x=>L9 p again k x) ((p.1.length:Int),(0:Int),([],[]),(1:Int),[],[],p.1,((aG p).N:Int),(((aG p).R (ap p):Nat):Int),PUnit.unit) =
   k (((aG p).N:Int),(p.2.length:Int),iA p.2.length ((aG p).w (ap p)) ((aG p).M (ap p)),1,iH p.2.length (fun k=>(aG p).N+k),bV p.2.length (aG p).σ,p.1,((aG p).N:Int),(((aG p).R (ap p):Nat):Int),PUnit.unit):=by
 obtain ⟨h1,h2⟩:=zI hv
 have hok:=nV hv
 have hm6:p.2.length<=6:=h2
 obtain ⟨w,hw⟩:∃w,w=(aG p).w (ap p):=⟨_,rfl⟩
 have hR1:(aG p).R (ap p)+1=w:=by rw[hw]
 refine cM p.2.length (by omega) (fun i=>(((p.1.length+fQ p i:Nat):Int),(i:Int),(List.range i,dF i ((aG p).w (ap p)) ((aG p).M (ap p))),1,iH i (fun k=>(aG p).N+k),bV i (aG p).σ,p.1,((aG p).N:Int),(((aG p).R (ap p):Nat):Int),PUnit.unit)) _ rfl (fun again i hi=>?_) (fun again=>?_)
 ·have hr:p.2.getD i rw0 ∈ p.2:=by rw[bG hi];exact List.getElem_mem _
  have hl:=hv.len _ hr
  have hkd:=hv.kind _ hr
  have hN:p.1.length<=(aG p).N:=hok.n
  have hNR:(aG p).N+p.2.length=(aG p).R (ap p):=rfl
  have hRw:(aG p).R (ap p)<w:=by omega
  rw[<-hw] at h1
  have hsl:(aG p).sl i=p.1.length+fQ p i:=rfl
  have hcs:=tc (p:=p) i
  unfold L9
  simp only[bq (show (aG p).R (ap p)<=1000000 by omega),hR1,z9,bo,z7 hi,z7 (show (i:Int)<p.2.length by omega),z7 (show (0:Int)<=(w:Nat) by omega),fM (show w*8<=140737488355328 by omega),z7 hRw,di (show Nat.succ ((aG p).R (ap p))<=w from hRw),Bool.and_self,cT,sJ,Ly (show (p.2.getD i rw0).1.length<=w by omega),iJ hRw]
  by_cases k3:(p.2.getD i rw0).2.1=3
  ·have ec:fQ p (i+1)=fQ p i:=by simp only[fQ,if_pos k3,Nat.add_zero]
   rw[ec,z8 (show ¬ (p.2.getD i rw0).2.1=1 by omega),z8 (show ¬ (p.2.getD i rw0).2.1=2 by omega)]
   simp only[cF]
   have:=Fe hv (again:=again) (s0:=((p.1.length+fQ p i:Nat):Int)) (s:=((p.1.length+fQ p i:Nat):Int)) hi (f:=fun k=>if k=(aG p).R (ap p) then (p.2.getD i rw0).2.2 else (p.2.getD i rw0).1.getD k 0) (fun k hk=>by
    show (if k=(aG p).R (ap p) then (p.2.getD i rw0).2.2 else (p.2.getD i rw0).1.getD k 0)=if k=(aG p).R (ap p) then (p.2.getD i rw0).2.2 else _
    by_cases c:k=(aG p).R (ap p)
    ·rw[if_pos c,if_pos c]
    ·rw[if_neg c,if_neg c,if_neg]
     rintro ⟨e,_⟩
     exact e k3)
   rw[<-hw] at this
   exact this
  ·have hslN:(aG p).sl i<(aG p).N:=(hok.sl i hi k3).2
   have hslw:p.1.length+fQ p i<w:=by omega
   have ec:fQ p (i+1)=fQ p i+1:=by simp only[fQ,if_neg k3]
   rw[ec]
   have step:∀(v:Int),v=(if (ap p).kd i=1 then 1 else -1)->M4 p again ((((p.1.length+fQ p i:Nat):Int)),(i:Int),(List.range i,dF i ((aG p).w (ap p)) ((aG p).M (ap p))),1,iH i (fun k=>(aG p).N+k),bV i (aG p).σ,p.1,((aG p).N:Int),(((aG p).R (ap p):Nat):Int),PUnit.unit)
     (((p.1.length+fQ p i+1:Nat):Int),(bV w fun k=>if k=(aG p).R (ap p) then (p.2.getD i rw0).2.2 else (p.2.getD i rw0).1.getD k 0).set (p.1.length+fQ p i) v,PUnit.unit)=again (((p.1.length+(fQ p i+1):Nat):Int),((i+1:Nat):Int),(List.range (i+1),dF (i+1) ((aG p).w (ap p)) ((aG p).M (ap p))),1,iH (i+1) (fun k=>(aG p).N+k),bV (i+1) (aG p).σ,p.1,((aG p).N:Int),(((aG p).R (ap p):Nat):Int),PUnit.unit):=fun v hvv=>by
    rw[iJ hslw]
    have:=Fe hv (again:=again) (s0:=((p.1.length+fQ p i:Nat):Int)) (s:=((p.1.length+fQ p i+1:Nat):Int)) hi (f:=fun k=>if k=p.1.length+fQ p i then v else if k=(aG p).R (ap p) then (p.2.getD i rw0).2.2 else (p.2.getD i rw0).1.getD k 0) (fun k hk=>by
     show (if k=p.1.length+fQ p i then v else if k=(aG p).R (ap p) then (p.2.getD i rw0).2.2 else (p.2.getD i rw0).1.getD k 0)=if k=(aG p).R (ap p) then (p.2.getD i rw0).2.2 else _
     by_cases c:k=(aG p).R (ap p)
     ·rw[if_pos c,if_pos c,if_neg (by omega)]
     ·rw[if_neg c,if_neg c]
      by_cases c2:k=p.1.length+fQ p i
      ·rw[if_pos c2,if_pos ⟨k3,c2⟩,hvv]
      ·rw[if_neg c2,if_neg fun h=>c2 h.2])
    rw[<-hw] at this ⊢
    exact this
   by_cases k1:(p.2.getD i rw0).2.1=1
   ·have:=step 1 (if_pos (show (ap p).kd i=1 from k1)).symm
    rw[<-hw] at this
    rw[z7 k1]
    simp only[cT,z7 hslw,di (show Nat.succ (p.1.length+fQ p i)<=w from hslw),bq (show p.1.length+fQ p i<=1000000 by omega)]
    exact this
   ·have k2:(p.2.getD i rw0).2.1=2:=by omega
    have:=step (-1) (if_neg (show ¬ (ap p).kd i=1 from k1)).symm
    rw[<-hw] at this
    rw[z8 k1,z7 k2]
    simp only[cT,cF,z7 hslw,di (show Nat.succ (p.1.length+fQ p i)<=w from hslw),bq (show p.1.length+fQ p i<=1000000 by omega)]
    exact this
 ·unfold L9
  simp only[z8 (show ¬ (p.2.length:Int)<p.2.length by omega),cF]
  rfl
theorem G1 {p:Pg} (hv:ValidP p) {R:Type} {F:(Int×Int×PUnit->Option R)->Int×Int×PUnit->Option R} (Q:Option R->Prop)
  (hF:∀again (i:Nat) (s:Int),i<p.2.length->F again (s,(i:Int),PUnit.unit)=bif !decide ((p.2.getD i rw0).2.1=3) then again (IntKind.wrap .i64 (s+1),((i+1:Nat):Int),PUnit.unit) else again (s,((i+1:Nat):Int),PUnit.unit))
  (hf:∀again,Q (F again (((fQ p p.2.length:Nat):Int),(p.2.length:Int),PUnit.unit))):Q (lpK (Int×Int×PUnit) R F ((0:Int),(0:Int),PUnit.unit)):=by
 have hm:=hv.rows
 refine Iq Q p.2.length (by omega) (fun i=>(((fQ p i:Nat):Int),(i:Int),PUnit.unit)) rfl (fun again i hi=>?_) hf
 rw[hF again i _ hi]
 have:=tc (p:=p) i
 by_cases k3:(p.2.getD i rw0).2.1=3
 ·rw[z7 k3]
  simp only[fQ,if_pos k3,Nat.add_zero,Bool.not_true,cF]
 ·rw[z8 k3]
  simp only[fQ,if_neg k3,Bool.not_false,cT,bq (show fQ p i<=1000000 by omega)]
theorem Dy {p:Pg} (hv:ValidP p) {R:Type} {k:St->Option R} (Q:Option R->Prop)
  (h:Q (k (((aG p).N:Int),(p.2.length:Int),iA p.2.length ((aG p).w (ap p)) ((aG p).M (ap p)),1,iH p.2.length (fun k=>(aG p).N+k),bV p.2.length (aG p).σ,p.1,((aG p).N:Int),(((aG p).R (ap p):Nat):Int),PUnit.unit))) :
  Q (lpK St R (fun again x=>L9 p again k x) ((p.1.length:Int),(0:Int),([],[]),(1:Int),[],[],p.1,((aG p).N:Int),(((aG p).R (ap p):Nat):Int),PUnit.unit)):=by
 rw[Gw hv]
 exact h
end
end Go.Proofs.YtfknoaclabfdlaaGreat

namespace Go.Proofs.YtfknoaclabfdlaaGreat
open Tryz Dn Dn.Sh
def fac (L:Lin):Nat->Int
 | 0=>L.F0
 | k+1=>L.F k
def pp (f:Nat->Int):Nat->Int
 | 0=>1
 | n+1=>pp f n*f n
def mx (f:Nat->Int):Nat->Int
 | 0=>f 0
 | n+1=>max (mx f n) (f (n+1))
def fN (L:Lin):Prop:=pp (fac L) (L.m+1)<=17592186044416/\pp (fac L) (L.m+1)*mx (fac L) L.m<=144115188075855872
instance (L:Lin):Decidable (fN L):=by unfold fN;infer_instance
theorem zx (L:Lin) (k:Nat):1<=fac L k:=by
 cases k with
 | zero=>exact L.F0_pos
 | succ k=>exact L.F_pos k
theorem Ch {f:Nat->Int}:∀{n:Nat},pp f (n+1)=f 0*pz n fun i=>f (i+1)
 | 0=>by simp[pp,pz]
 | n+1=>by
  have e:∀{n:Nat} {g:Nat->Int},pz (n+1) g=pz n g*g n:=by
   intro n
   induction n with
   | zero=>intro g;simp[pz]
   | succ n ih =>
    intro g
    have h:=ih (g:=fun i=>g (i+1))
    rw[pz,h,pz,Int.mul_assoc]
  rw[pp,Ch (n:=n),e,Int.mul_assoc]
theorem Sa (L:Lin):pp (fac L) (L.m+1)=L.F0*L.P:=Ch
theorem wv {f:Nat->Int} (h:∀i,1<=f i):∀n,1<=pp f n
 | 0=>by simp[pp]
 | n+1=>by
  have h1:=wv h n
  have h2:=Int.mul_le_mul h1 (h n) (by omega) (by omega)
  simp only[pp]
  omega
theorem Fc {f:Nat->Int} (h:∀i,1<=f i) {n:Nat}:∀{k:Nat},pp f n<=pp f (n+k)
 | 0=>Int.le_refl _
 | k+1=>by
  have h1:=Fc h (n:=n) (k:=k)
  have h2:=wv h (n+k)
  have h3:pp f (n+k)*1<=pp f (n+k)*f (n+k):=Int.mul_le_mul_of_nonneg_left (h _) (by omega)
  rw[<-Nat.add_assoc]
  simp only[pp]
  omega
theorem Oy {f:Nat->Int} {n:Nat}:∀{i:Nat},i<=n->f i<=mx f n:=by
 induction n with
 | zero=>intro i h;rw[show i=0 by omega];exact Int.le_refl _
 | succ n ih =>
  intro i h
  simp only[mx]
  by_cases e:i=n+1
  ·rw[e];omega
  ·have:=ih (i:=i) (by omega)
   omega
theorem Oq {f:Nat->Int} {B:Int}:∀{n:Nat},(∀i,i<=n->f i<=B)->mx f n<=B
 | 0,h=>h 0 (by omega)
 | n+1,h=>by
  have h1:=Oq (n:=n) fun i hi=>h i (by omega)
  have h2:=h (n+1) (by omega)
  simp only[mx]
  omega
theorem vF {l:List Int} (h:∀n ∈ l,inC n=true) (j:Nat):ab (l.getD j 0)<=1048576:=by
 rw[xU]
 by_cases e:j<l.length
 ·exact z12 (h _ (by rw[bG e];exact List.getElem_mem _))
 ·rw[List.getD_eq_getElem?_getD,List.getElem?_eq_none (by omega)]
  simp
theorem tM {l:List Int} (h:∀n ∈ l,inC n=true) {n:Nat} (hn:n<=12):0<=sz n (fun j=>ab (l.getD j 0))/\sz n (fun j=>ab (l.getD j 0))<=12582912:=by
 refine ⟨iu fun _ _=>cH _,?_⟩
 have h1:=(ku (n:=n) (f:=fun j=>ab (l.getD j 0)) (B:=1048576) fun j _=>⟨by have:=cH (l.getD j 0);omega,vF h j⟩).2
 omega
theorem FV {p:Pg} (hv:ValidP p) {k:Nat} (hk:k<=p.2.length):fac (ap p) k<=2147483648:=by
 have hn:=hv.cost.2
 cases k with
 | zero =>
  have:=tM hv.cs hn
  show 1+sz p.1.length (fun j=>ab (p.1.getD j 0))<=_
  omega
 | succ k =>
  have hr:p.2.getD k rw0 ∈ p.2:=by rw[bG (show k<p.2.length by omega)];exact List.getElem_mem _
  have h1:=tM (hv.coefs _ hr) hn
  have h2:=z12 (hv.right _ hr)
  have h3:ab (p.2.getD k rw0).2.2<=1073741824:=xU.2 h2
  show 1+ab (p.2.getD k rw0).2.2+sz p.1.length (fun j=>ab ((p.2.getD k rw0).1.getD j 0))<=_
  omega
theorem BL {l:List Int} {more:Int} (h:∀n ∈ l,inC n=true) (hl:l.length<=12) (hm:inR more=true):dh l more=some (1+ab more+sz l.length fun j=>ab (l.getD j 0)):=by
 have hm:=z12 hm
 have hma:ab more<=1073741824:=xU.2 hm
 have hma0:=cH more
 unfold dh jS
 rw[r7 (by omega) (by omega),obN]
 have e0:((more.natAbs:Nat):Int)=ab more:=rfl
 refine cM l.length (by omega) (fun i=>(1+ab more+sz i (fun j=>ab (l.getD j 0)),(i:Int),PUnit.unit)) _ ?_ (fun again i hi=>?_) (fun again=>?_)
 ·rw[e0,be (x:=ab more) (by omega) (by omega),be (by omega) (by omega)]
  simp only[sz,Int.add_zero]
  rfl
 ·have h1:=vF h i
  have h0:=cH (l.getD i 0)
  have h2:=tM h (n:=i) (by omega)
  have h3: -1048576<=l.getD i 0/\l.getD i 0<=1048576:=xU.1 h1
  have e1:((l.getD i 0).natAbs:Int)=ab (l.getD i 0):=rfl
  simp only[bo,z9,z7 hi,z7 (show (i:Int)<l.length by omega),cT,r7 (show -9223372036854775808<=l.getD i 0 by omega) (by omega),af,e1,bq (show i<=1000000 by omega)]
  rw[be (x:=ab (l.getD i 0)) (by omega) (by omega),be (by omega) (by omega)]
  simp only[sz]
  congr 2
  omega
 ·simp only[z8 (show ¬ (l.length:Int)<l.length by omega),cF]
theorem NR {n:Nat} {f:Nat->Int} (hn:n<=1000):dI (bV (n+1) f)=some (mx f n):=by
 unfold dI jQ
 simp only[sJ,bf,z8 (show ¬ ((n+1:Nat):Int)<1 by omega),cF,show inB (0:Int) (n+1)=true from ru (by omega) (by omega),cT,bM (show 0<n+1 by omega)]
 refine cM n (by omega) (fun i=>(mx f i,((i+1:Nat):Int),PUnit.unit)) _ rfl (fun again i hi=>?_) (fun again=>?_)
 ·simp only[z7 (show ((i+1:Nat):Int)<(n+1:Nat) by omega),bo,z7 (show i+1<n+1 by omega),z9,cT,bM (show i+1<n+1 by omega),M9,bq (show i+1<=1000000 by omega)]
  rfl
 ·simp only[z8 (show ¬ ((n+1:Nat):Int)<(n+1:Nat) by omega),cF]
theorem Db {a b c:Int} (hc:0<c):a<=b / c↔a*c<=b:=Int.le_ediv_iff_mul_le hc
theorem D2 {a b c:Int} (hc:0<c):a>b / c↔b<a*c:=Int.ediv_lt_iff_lt_mul hc
theorem A6 {p:Pg} (hv:ValidP p):cO p=some (decide (fN (ap p))):=by
 have hm:=hv.rows
 have hn:=hv.cost.2
 unfold cO lP
 rw[BL hv.cs hn (by decide),obN]
 obtain ⟨f,hf⟩:∃f,f=fac (ap p):=⟨_,rfl⟩
 have hpos:∀i,1<=f i:=fun i=>by rw[hf];exact zx _ i
 have hsm:∀k,k<=p.2.length->f k<=2147483648:=fun k hk=>by rw[hf];exact FV hv hk
 have hF:fN (ap p)=(pp f (p.2.length+1)<=17592186044416/\pp f (p.2.length+1)*mx f p.2.length<=144115188075855872):=by rw[hf];rfl
 refine cM p.2.length (by omega) (fun i=>(bV (i+1) f,(i:Int),PUnit.unit)) _ ?_ (fun again i hi=>?_) (fun again=>?_)
 ·rw[hf]
  show _=([fac (ap p) 0],(0:Int),PUnit.unit)
  congr 2
 ·have hr:p.2.getD i rw0 ∈ p.2:=by rw[bG hi];exact List.getElem_mem _
  have h1:=BL (hv.coefs _ hr) (by rw[hv.len _ hr];exact hn) (hv.right _ hr)
  simp only[bo,z9,z7 hi,z7 (show (i:Int)<p.2.length by omega),cT,h1,af,bf,fM (show (i+1+1)*8<=140737488355328 by omega),bq (show i<=1000000 by omega)]
  have e:f (i+1)=1+ab (p.2.getD i rw0).2.2+sz (p.2.getD i rw0).1.length (fun j=>ab ((p.2.getD i rw0).1.getD j 0)):=by
   rw[hf,hv.len _ hr]
   rfl
  rw[<-e,mS]
 ·simp only[z8 (show ¬ (p.2.length:Int)<p.2.length by omega),cF,bf,NR (show p.2.length<=1000 by omega),af]
  have hmx:1<=mx f p.2.length/\mx f p.2.length<=2147483648:=⟨Int.le_trans (hpos 0) (Oy (by omega)),Oq hsm⟩
  have round:∀{R:Type} {a b:Option R} (i:Nat),i<p.2.length+1->(bif nzB (f i) then bif decide (pp f i>IntKind.wrap .i64 (Int.tdiv 17592186044416 (f i))) then a else b else none)=bif decide (pp f (i+1)>17592186044416) then a else b:=fun i hi=>by
   have h1:=hpos i
   have h2:=hsm i (by omega)
   rw[nP (by omega),cond_true,Int.tdiv_eq_ediv_of_nonneg (by omega)]
   have h3:0<=17592186044416 / f i:=Int.ediv_nonneg (by omega) (by omega)
   have h4:17592186044416 / f i<=17592186044416:=Int.ediv_le_self _ (by omega)
   rw[be (by omega) (by omega),decide_eq_decide.2 (D2 (a:=pp f i) (show 0<f i by omega))]
   rfl
  rcases wI (p.2.length+1) (fun i=>decide (pp f (i+1)>17592186044416)) with hnone | ⟨q,hq,hbig,hleast⟩
  ·have hall:∀i,i<=p.2.length+1->pp f i<=17592186044416:=fun i hi=>by
    cases i with
    | zero=>simp[pp]
    | succ i=>have:=of_decide_eq_false (hnone i (by omega));omega
   refine cM (p.2.length+1) (by omega) (fun i=>(pp f i,(i:Int),PUnit.unit)) _ rfl (fun again i hi=>?_) (fun again=>?_)
   ·have h2:=hall (i+1) (by omega)
    have h3:=wv hpos (i+1)
    simp only[z7 (show (i:Int)<(p.2.length+1:Nat) by omega),bo,z7 hi,z9,bM hi,di (show Nat.succ i<=p.2.length+1 from hi),cT,round i hi,hnone i hi,cF,bq (show i<=1000000 by omega)]
    rw[be (x:=pp f i*f i) (by simp only[pp] at h2 h3;omega) (by simp only[pp] at h2;omega)]
    rfl
   ·simp only[z8 (show ¬ ((p.2.length+1:Nat):Int)<(p.2.length+1:Nat) by omega),cF]
    rw[nP (by omega),cond_true,Int.tdiv_eq_ediv_of_nonneg (by omega)]
    have h3:0<=144115188075855872 / mx f p.2.length:=Int.ediv_nonneg (by omega) (by omega)
    have h4:144115188075855872 / mx f p.2.length<=144115188075855872:=Int.ediv_le_self _ (by omega)
    rw[be (by omega) (by omega)]
    congr 1
    refine decide_eq_decide.2 ?_
    rw[Db (a:=pp f (p.2.length+1)) (show 0<mx f p.2.length by omega),hF]
    exact ⟨fun h=>⟨hall _ (by omega),h⟩,fun h=>h.2⟩
  ·have hlow:∀i,i<=q->pp f i<=17592186044416:=fun i hi=>by
    cases i with
    | zero=>simp[pp]
    | succ i=>have:=of_decide_eq_false (hleast i (by omega));omega
   refine cM q (by omega) (fun i=>(pp f i,(i:Int),PUnit.unit)) _ rfl (fun again i hi=>?_) (fun again=>?_)
   ·have h2:=hlow (i+1) (by omega)
    have h3:=wv hpos (i+1)
    simp only[z7 (show (i:Int)<(p.2.length+1:Nat) by omega),bo,z7 (show i<p.2.length+1 by omega),z9,bM (show i<p.2.length+1 by omega),di (show Nat.succ i<=p.2.length+1 by omega),cT,round i (by omega),hleast i hi,cF,bq (show i<=1000000 by omega)]
    rw[be (x:=pp f i*f i) (by simp only[pp] at h2 h3;omega) (by simp only[pp] at h2;omega)]
    rfl
   ·simp only[z7 (show (q:Int)<(p.2.length+1:Nat) by omega),bo,z7 hq,z9,bM hq,di (show Nat.succ q<=p.2.length+1 from hq),cT,round q hq,hbig]
    congr 1
    refine (z8 ?_).symm
    rw[hF]
    rintro ⟨h1,_⟩
    have h2:=z12 hbig
    have h3:=Fc hpos (n:=q+1) (k:=p.2.length - q)
    rw[show q+1+(p.2.length - q)=p.2.length+1 by omega] at h3
    omega
theorem Dt {p:Pg} (hv:ValidP p) (hf:fN (ap p)):Bnd (ap p) (aG p):=by
 obtain ⟨h1,h2⟩:=zI hv
 refine ⟨nV hv,by omega,by omega,?_⟩
 rw[<-Sa]
 exact hf.1
theorem LB {p:Pg} (hf:fN (ap p)) {k:Nat} (hk:k<=p.2.length):(ap p).F0*(ap p).P*fac (ap p) k<=144115188075855872:=by
 rw[<-Sa]
 have h1:=Oy (f:=fac (ap p)) hk
 have h2:=wv (zx (ap p)) ((ap p).m+1)
 have h3:=Int.mul_le_mul_of_nonneg_left h1 (show 0<=pp (fac (ap p)) ((ap p).m+1) by omega)
 exact Int.le_trans h3 hf.2
end Go.Proofs.YtfknoaclabfdlaaGreat

namespace Go.Proofs.YtfknoaclabfdlaaGreat
noncomputable section
open Tryz Dn Dn.Sh
theorem tg {p:Pg} (j:Nat):iY p.1 j=ca (ap p) j:=by
 unfold ca iY
 by_cases h:j<(ap p).n
 ·rw[if_pos h];rfl
 ·rw[if_neg h,List.getD_eq_getElem?_getD,List.getElem?_eq_none (Nat.not_lt.1 h)];rfl
theorem JP {n d:Int} (hd:d≠0) (hn:n.natAbs<=1152921504606846976) (hd2:d.natAbs<=1152921504606846976):uK (Di n d)=(prQ ((n:Rat) / d),0,()):=by
 obtain ⟨m1,m2,m3⟩:=EG (s:=decide (n<0) !=decide (d<0)) (n:=n.natAbs) (d:=d.natAbs) (by omega)
 obtain ⟨m4,m5⟩:=Fl (s:=decide (n<0) !=decide (d<0)) m2 m3
 have hf:fm (Di n d):=by
  unfold fm Di
  rw[m1,m4,m5]
  have a1:n.natAbs / Nat.gcd n.natAbs d.natAbs<=n.natAbs:=Nat.div_le_self _ _
  have a2:d.natAbs / Nat.gcd n.natAbs d.natAbs<=d.natAbs:=Nat.div_le_self _ _
  refine ⟨?_,by rw[<-m5] at *;omega⟩
  unfold sgn
  generalize n.natAbs / Nat.gcd n.natAbs d.natAbs=p at *
  split<;>omega
 unfold uK
 rw[if_pos hf,zb hd]
theorem u6 {n d:Int} (hd:d≠0) (hn:n.natAbs<=1152921504606846976) (hd2:d.natAbs<=1152921504606846976):fm ((n:Rat) / d):=by
 have h:=JP hd hn hd2
 rw[zb hd] at h
 rcases vu ((n:Rat) / d) with ⟨h1,_⟩ | ⟨_,h2⟩
 ·exact h1
 ·rw[h2] at h
  exact absurd (show (5:Int)=0 from congrArg (fun x:Fq×Int×Unit=>x.2.1) h) (by decide)
theorem yZ {M:List (List Int)} {d n:Int} {x2 x3 cs:List Int} {x5 x6:Int} (hd:0<d/\d<=17592186044416) (hn:n.natAbs<=1152921504606846976):a9 (M,d,x2,x3,cs,x5,x6) n=some (prQ ((n:Rat) / (d:Rat))):=by
 simp only[a9,ik,Mu (show -9223372036854775808<=n by omega) (by omega) (show -9223372036854775808<=d by omega) (by omega),af,if_neg (show ¬ d=0 by omega)]
 rw[zb (by omega)]
 unfold uK
 rw[if_pos (u6 (by omega) hn (by omega))]
theorem Mb {n:Nat}:List.replicate n (0:Int)=bV n fun _=>0:=by
 refine List.ext_getElem (by rw[bf];simp) fun i h1 h2=>?_
 rw[qq,List.getElem_replicate]
theorem NS {p:Pg} (k:Nat) (x:Int):((aG p).σ k*x).natAbs=x.natAbs:=by
 show ((if (p.2.getD k rw0).2.2<0 then (-1:Int) else 1)*x).natAbs=_
 split<;>omega
theorem Kc {m w:Nat} {T:Nat->Nat->Int}:((iA m w T).1.all fun x=>eD (dF m w T) x)=true:=gZ
theorem Ia {m w:Nat} {T:Nat->Nat->Int}:(iA m w T).1.map (fun x=>ah (dF m w T) x)=q6 m w T:=g9
abbrev xL (p:Pg) (S:Sx):List Fq:=bV p.1.length fun j=>prQ (zK (ap p).m ((aG p).R (ap p)) S j)
abbrev yL (p:Pg) (wc:Nat->Int) (S:Sx):List Fq:=bV p.2.length fun k=>prQ (rx (ap p).m (aG p).N wc S (aG p).σ k)
def TF (p:Pg) (S:Sx):Int:=sz (ap p).m fun i=>ca (ap p) (S.β i)*S.T i ((aG p).R (ap p))
abbrev Da (p:Pg) (S:Sx):Rat:=(TF p S:Rat) / (S.d:Rat)
structure Infeas (p:Pg) (S:Sx):Prop where
 val:(aG p).Val (ap p) S
 zr:∀j,j<(aG p).N->0<=zr (ap p).m (fE (aG p).N) S j
 pos:0<sz (ap p).m fun i=>fE (aG p).N (S.β i)*S.T i ((aG p).R (ap p))
structure gE (p:Pg) (S:Sx) (q:Nat):Prop where
 val:(aG p).Val (ap p) S
 az:AZ (ap p) (aG p) S
 lt:q<(aG p).N
 neg:zr (ap p).m (ca (ap p)) S q<0
 no:∀i,i<(ap p).m->S.T i q<=0
structure Opt (p:Pg) (S:Sx):Prop where
 val:(aG p).Val (ap p) S
 az:AZ (ap p) (aG p) S
 zr:∀j,j<(aG p).N->0<=zr (ap p).m (ca (ap p)) S j
abbrev oC:Fq×List Fq×List Fq:=((0,0),[],[])
def wH (p:Pg) (o:Option ((Fq×List Fq×List Fq)×Int×Unit)):Prop :=
 (∃S,Infeas p S/\o=some (oC,22,()))\/(∃S q,gE p S q/\o=some (oC,21,()))\/∃S,Opt p S/\o=some ((prQ (Da p S),xL p S,yL p (ca (ap p)) S),0,())
theorem obQ {T R:Type} {Q:Option R->Prop} {o:Option T} {t:T} {k:T->Option R} (h:o=some t) (hk:Q (k t)):Q (aa o k):=by
 rw[h]
 exact hk
theorem JJ {p:Pg} (hv:ValidP p) (hf:fN (ap p)):wH p (aA p):=by
 have hB:=Dt hv hf
 obtain ⟨hw25,hm6'⟩:=zI hv
 have hm6:p.2.length<=6:=hm6'
 have hn:=hv.cost.2
 have hok:=nV hv
 have hpow:(aG p).w (ap p) ^ (ap p).m<=1180591620717411303424:=Nat.le_trans (Nat.pow_le_pow_left (show _<=64 by omega) _) (Nat.le_trans (Nat.pow_le_pow_right (by omega) hm6') (by decide))
 have hcnt:=tc (p:=p) p.2.length
 have hNe:IntKind.wrap .i64 ((p.1.length:Int)+(fQ p p.2.length:Nat))=((aG p).N:Int):=by rw[be (by omega) (by omega)];rfl
 have hRe:IntKind.wrap .i64 (((aG p).N:Int)+(p.2.length:Int))=(((aG p).R (ap p):Nat):Int):=by
  have:(aG p).N=p.1.length+fQ p p.2.length:=rfl
  rw[be (by omega) (by omega)];rfl
 unfold aA iQ
 rw[yz,obN,wi.2 hv]
 simp only[Bool.not_true,cF]
 rw[A6 hv,obN,z7 hf]
 simp only[Bool.not_true,cF]
 refine G1 hv (wH p) (fun again i s hi=>?_) (fun again=>?_)
 ·simp only[z7 (show (i:Int)<p.2.length by omega),bo,z7 hi,z9,cT,bq (show i<=1000000 by omega)]
 simp only[z8 (show ¬ (p.2.length:Int)<p.2.length by omega),cF,b6,iV,fM (show (0+p.1.length)*8<=140737488355328 by omega),cT,af,hNe,hRe]
 refine Dy hv (wH p) ?_
 obtain ⟨S,ok,h1,hvS,h2,h3⟩:=IJ hB hpow (x3:=bV p.2.length (aG p).σ) (cs:=p.1) (Lay.first hok)
 refine obQ (Q:=wH p) h1 ?_
 cases ok with
 | false =>
  simp only[Bool.not_false,cT]
  exact .inl ⟨S,⟨hvS,(h3 rfl).1,(h3 rfl).2⟩,rfl⟩
 | true =>
  simp only[Bool.not_true,cF]
  obtain ⟨S,ok,h1,hvS,haS,h2,h3⟩:=C5 hB hpow (x3:=bV p.2.length (aG p).σ) tg hvS (h2 rfl)
  refine obQ (Q:=wH p) h1 ?_
  cases ok with
  | false =>
   simp only[Bool.not_false,cT]
   obtain ⟨q,e1,e2,e3⟩:=h3 rfl
   exact .inr (.inl ⟨S,q,⟨hvS,haS,e1,e2,e3⟩,rfl⟩)
  | true =>
   simp only[Bool.not_true,cF,z9,z7 (show (0:Int)<=(p.1.length:Nat) by omega),fM (show p.1.length*8<=140737488355328 by omega),Bool.and_self,cT,Mb]
   refine .inr (.inr ⟨S,⟨hvS,haS,h2 rfl⟩,?_⟩)
   obtain ⟨⟨d1,d2⟩,hb⟩:=hB.tab hvS.tb
   obtain ⟨_,hbP⟩:=hB.tabP hvS.tb
   have hRw:(aG p).R (ap p)<(aG p).w (ap p):=by unfold Lay.R Lay.w;omega
   have hm:(ap p).m=p.2.length:=rfl
   have hcR:∀i,i<(ap p).m-> -17592186044416<=ca (ap p) (S.β i)*S.T i ((aG p).R (ap p))/\ca (ap p) (S.β i)*S.T i ((aG p).R (ap p))<=17592186044416:=fun i hi=>hB.cost (hbP i _ hi hRw) _
   have hTR:∀i,i<(ap p).m-> -17592186044416<=S.T i ((aG p).R (ap p))/\S.T i ((aG p).R (ap p))<=17592186044416:=fun i hi=>by have:=hb i _ hi hRw;omega
   refine cM (ap p).m (by omega) (fun i=>(sz i (fun k=>ca (ap p) (S.β k)*S.T k ((aG p).R (ap p))),(i:Int),bV p.1.length (fun j=>sz i fun k=>if S.β k=j then S.T k ((aG p).R (ap p)) else 0),PUnit.unit)) _ rfl (fun again i hi=>?_) (fun again=>?_)
   ·have hiR:=hcR i hi
    have hs:=ku (n:=i) (f:=fun k=>ca (ap p) (S.β k)*S.T k ((aG p).R (ap p))) (B:=17592186044416) fun k hk=>hcR k (by omega)
    have h3:(i:Int)*17592186044416<=6*17592186044416:=z11 (by omega) (by omega)
    simp only[iP,bo,z9,z7 hi,z7 (show (i:Int)<(ap p).m by omega),di (show Nat.succ i<=(ap p).m from hi),jx hi,cT,Kc,Ia,va,tg,af,gF,kj hi,ju,gk hi,bf,bM hRw,z7 hRw,di (show Nat.succ ((aG p).R (ap p))<=(aG p).w (ap p) from hRw),bq (show i<=1000000 by omega)]
    rw[be (x:=ca (ap p) (S.β i)*S.T i ((aG p).R (ap p))) (by omega) (by omega),be (by omega) (by omega)]
    by_cases c:S.β i<p.1.length
    ·simp only[z7 (show (S.β i:Int)<p.1.length by omega),z7 c,di (show Nat.succ (S.β i)<=p.1.length from c),cT,iJ c]
     congr 3
     congr 1
     refine cR fun j _=>?_
     by_cases e:j=S.β i
     ·subst e
      rw[if_pos rfl]
      simp only[sz]
      rw[gb fun k hk=>if_neg fun e=>by have:=hvS.tb.inj (show k<(ap p).m by omega) hi e;omega,if_pos trivial,Int.zero_add]
     ·rw[if_neg e]
      simp only[sz]
      rw[if_neg (Ne.symm e),Int.add_zero]
    ·simp only[z8 (show ¬ (S.β i:Int)<p.1.length by omega),cF]
     congr 3
     congr 1
     refine cR fun j hj=>?_
     simp only[sz]
     rw[if_neg (by omega),Int.add_zero]
   have hsV:=ku (n:=(ap p).m) (f:=fun k=>ca (ap p) (S.β k)*S.T k ((aG p).R (ap p))) (B:=17592186044416) hcR
   have h6:((ap p).m:Int)*17592186044416<=6*17592186044416:=z11 (by omega) (by omega)
   simp only[iP,z8 (show ¬ ((ap p).m:Int)<(ap p).m by omega),cF,gZ,g9,cT,yZ ⟨d1,d2⟩ (show (sz (ap p).m fun k=>ca (ap p) (S.β k)*S.T k ((aG p).R (ap p))).natAbs<=1152921504606846976 by omega),af,bf]
   refine cM p.1.length (by omega) (fun j=>((j:Int),prQ (Da p S),bV j (fun j=>prQ (zK (ap p).m ((aG p).R (ap p)) S j)),[],PUnit.unit)) _ rfl (fun again j hj=>?_) (fun again=>?_)
   ·have hx:=ku (n:=(ap p).m) (f:=fun k=>if S.β k=j then S.T k ((aG p).R (ap p)) else 0) (B:=17592186044416) fun k hk=>by
     have:=hTR k hk
     split<;>omega
    simp only[bo,z9,z7 hj,z7 (show (j:Int)<p.1.length by omega),di (show Nat.succ j<=p.1.length from hj),bM hj,cT,yZ ⟨d1,d2⟩ (show (sz (ap p).m fun k=>if S.β k=j then S.T k ((aG p).R (ap p)) else 0).natAbs<=1152921504606846976 by omega),af,bf,fM (show (j+1)*16<=140737488355328 by omega),bq (show j<=1000000 by omega)]
    rw[show prQ (((sz (ap p).m fun k=>if S.β k=j then S.T k ((aG p).R (ap p)) else 0:Int):Rat) / (S.d:Rat))=(fun j=>prQ (zK (ap p).m ((aG p).R (ap p)) S j)) j from rfl,mS]
   simp only[z8 (show ¬ (p.1.length:Int)<p.1.length by omega),cF]
   refine cM p.2.length (by omega) (fun k=>((k:Int),prQ (Da p S),xL p S,bV k (fun k=>prQ (rx (ap p).m (aG p).N (ca (ap p)) S (aG p).σ k)),PUnit.unit)) _ rfl (fun again k hk=>?_) (fun again=>?_)
   ·have hNk:(aG p).N+k<(aG p).w (ap p):=by unfold Lay.w;omega
    have hcN:∀i,i<(ap p).m-> -17592186044416<=ca (ap p) (S.β i)*S.T i ((aG p).N+k)/\ca (ap p) (S.β i)*S.T i ((aG p).N+k)<=17592186044416:=fun i hi=>hB.cost (hbP i _ hi hNk) _
    have hNke:IntKind.wrap .i64 (((aG p).N:Int)+(k:Int))=(((aG p).N+k:Nat):Int):=by rw[be (by omega) (by omega)];rfl
    simp only[z7 (show (k:Int)<p.2.length by omega),cT,hNke]
    refine cM (ap p).m (by omega) (fun i=>(sz i (fun i=>ca (ap p) (S.β i)*S.T i ((aG p).N+k)),(i:Int),PUnit.unit)) _ rfl (fun again2 i hi=>?_) (fun again2=>?_)
    ·have hiR:=hcN i hi
     have hs:=ku (n:=i) (f:=fun i=>ca (ap p) (S.β i)*S.T i ((aG p).N+k)) (B:=17592186044416) fun k hk=>hcN k (by omega)
     have h3:(i:Int)*17592186044416<=6*17592186044416:=z11 (by omega) (by omega)
     simp only[bo,z9,z7 hi,z7 (show (i:Int)<(ap p).m by omega),di (show Nat.succ i<=(ap p).m from hi),jx hi,cT,va,tg,af,gF,kj hi,ju,gk hi,bf,bM hNk,z7 hNk,di (show Nat.succ ((aG p).N+k)<=(aG p).w (ap p) from hNk),bq (show i<=1000000 by omega)]
     rw[be (x:=ca (ap p) (S.β i)*S.T i ((aG p).N+k)) (by omega) (by omega),be (by omega) (by omega)]
     rfl
    ·have hs:=ku (n:=(ap p).m) (f:=fun i=>ca (ap p) (S.β i)*S.T i ((aG p).N+k)) (B:=17592186044416) hcN
     have hab:=NS (p:=p) k (sz (ap p).m fun i=>ca (ap p) (S.β i)*S.T i ((aG p).N+k))
     simp only[z8 (show ¬ ((ap p).m:Int)<(ap p).m by omega),cF,bf,bo,z9,z7 hk,di (show Nat.succ k<=p.2.length from hk),bM hk,cT,be (x:=(aG p).σ k*sz (ap p).m fun i=>ca (ap p) (S.β i)*S.T i ((aG p).N+k)) (by omega) (by omega),yZ ⟨d1,d2⟩ (show ((aG p).σ k*sz (ap p).m fun i=>ca (ap p) (S.β i)*S.T i ((aG p).N+k)).natAbs<=1152921504606846976 by omega),af,fM (show (k+1)*16<=140737488355328 by omega),bq (show k<=1000000 by omega)]
     rw[show prQ ((((aG p).σ k*sz (ap p).m fun i=>ca (ap p) (S.β i)*S.T i ((aG p).N+k):Int):Rat) / (S.d:Rat))=(fun k=>prQ (rx (ap p).m (aG p).N (ca (ap p)) S (aG p).σ k)) k from rfl,mS]
   ·simp only[z8 (show ¬ (p.2.length:Int)<p.2.length by omega),cF]
end
end Go.Proofs.YtfknoaclabfdlaaGreat

namespace Go.Proofs.YtfknoaclabfdlaaGreat
open Tryz Dn Dn.Sh
def vX (x:List Fq) (j:Nat):Rat:=qv (x.getD j (0,0))
theorem BN {f:Nat->Rat}:∀{n:Nat},sq (n+1) f=f 0+sq n fun i=>f (i+1)
 | 0=>by simp only[sq];grind
 | n+1=>by
  rw[sq,BN (n:=n)]
  simp only[sq]
  grind
theorem wT:∀{l:List Int} {x:List Fq} {s q:Rat},l.length<=x.length->jy l x s=some q->q=s+sq l.length fun j=>((l.getD j 0:Int):Rat)*vX x j
 | [],x,s,q,_,h=>by
  unfold jy at h
  injection h with h
  simp only[List.length_nil,sq]
  grind
 | n ::l,[],s,q,hl,h=>by simp at hl
 | n ::l,a ::x,s,q,hl,h=>by
  unfold jy at h
  split at h
  ·have h1:=wT (l:=l) (x:=x) (by simpa using hl) h
   rw[List.length_cons,BN,h1]
   have e1:∀j,(n ::l).getD (j+1) 0=l.getD j 0:=fun j=>rfl
   have e2:∀j,vX (a ::x) (j+1)=vX x j:=fun j=>rfl
   simp only[e1,e2]
   have e3:((n ::l).getD 0 0:Int)=n:=rfl
   have e4:vX (a ::x) 0=qv a:=rfl
   rw[e3,e4]
   grind
  ·cases h
theorem Ko {l:List Int} {x:List Fq} (hl:l.length<=x.length) (h:(jy l x 0).isSome=true):(jy l x 0).getD 0=sq l.length fun j=>((l.getD j 0:Int):Rat)*vX x j:=by
 cases hq:jy l x 0 with
 | none=>rw[hq] at h;cases h
 | some q =>
  have:=wT hl hq
  rw[Option.getD_some,this]
  grind
theorem Og {α:Type} {P:α->Bool} {l:List α} (d:α):l.all P=true↔∀k,k<l.length->P (l.getD k d)=true:=by
 rw[<-tV (p:=P) d,List.all_eq_true]
 exact ⟨fun h k hk=>h k (List.mem_range'.2 ⟨k,hk,by omega⟩),fun h i hi=>by obtain ⟨k,hk,rfl⟩:=List.mem_range'.1 hi;exact h _ (by omega)⟩
theorem M2 {p:Pg} {x:List Fq} (hl:x.length=p.1.length) (h:(jy p.1 x 0).isSome=true):(jy p.1 x 0).getD 0=(ap p).val (vX x):=by
 rw[Ko (by omega) h]
 rfl
theorem wn {f:Nat->Int}:∀{n:Nat},sz (n+1) f=f 0+sz n fun i=>f (i+1)
 | 0=>by simp[sz]
 | n+1=>by
  rw[sz,wn (n:=n)]
  simp only[sz]
  omega
theorem Hv {α:Type} {n:Nat} {f:Nat->α}:bV (n+1) f=f 0 ::bV n fun i=>f (i+1):=by
 unfold bV
 rw[List.range_succ_eq_map,List.map_cons,List.map_map]
 rfl
theorem BG {d B:Int} (hd:0<d/\d<=1152921504606846976) (hB:B<=1152921504606846976):∀{l:List Int} {X:Nat->Int} {s:Int},(∀j,j<l.length->ab (l.getD j 0*X j)<=B)->(∀i,i<=l.length->ab (s+sz i fun j=>l.getD j 0*X j)<=B) ->
  jy l (bV l.length fun j=>prQ ((X j:Rat) / (d:Rat))) ((s:Rat) / (d:Rat))=some (((s+sz l.length fun j=>l.getD j 0*X j:Int):Rat) / (d:Rat))
 | [],X,s,_,_=>by
  unfold jy
  simp[sz]
 | n ::l,X,s,h1,h2=>by
  have e1:∀j,(n ::l).getD (j+1) 0=l.getD j 0:=fun j=>rfl
  have e0:((n ::l).getD 0 0:Int)=n:=rfl
  have a1:=h1 0 (by simp)
  have a2:=h2 1 (by simp)
  simp only[sz,e0,Int.zero_add] at a1 a2
  rw[List.length_cons,Hv]
  unfold jy
  rw[Ae]
  have q1:(n:Rat)*((X 0:Rat) / (d:Rat))=((n*X 0:Int):Rat) / (d:Rat):=by rw[Rat.intCast_mul];grind
  have q2:(s:Rat) / (d:Rat)+((n*X 0:Int):Rat) / (d:Rat)=((s+n*X 0:Int):Rat) / (d:Rat):=by rw[Rat.intCast_add];grind
  have b1:(n*X 0).natAbs<=1152921504606846976:=by rw[vq] at a1;omega
  have b2:(s+n*X 0).natAbs<=1152921504606846976:=by rw[vq] at a2;omega
  rw[q1,q2,if_pos ⟨u6 (by omega) b1 (by omega),u6 (by omega) b2 (by omega)⟩]
  have ih:=BG hd hB (l:=l) (X:=fun j=>X (j+1)) (s:=s+n*X 0) (fun j hj=>h1 (j+1) (by simpa using hj)) (fun i hi=>by
   have:=h2 (i+1) (by simpa using hi)
   rw[wn] at this
   simp only[e1,e0] at this
   rw[<-Int.add_assoc] at this
   exact this)
  rw[ih]
  congr 3
  rw[wn]
  simp only[e1,e0]
  omega
theorem Em {n i:Nat} {a X:Nat->Int} {B:Int} (hi:i<=n) (hB:0<=B) (hX:∀j,j<n->ab (X j)<=B):ab (sz i fun j=>a j*X j)<=(sz n fun j=>ab (a j))*B:=by
 refine Int.le_trans DF ?_
 have h1:(sz i fun j=>ab (a j*X j))<=sz i fun j=>ab (a j)*B:=pT fun j hj=>by
  rw[pr]
  exact Int.mul_le_mul_of_nonneg_left (hX j (by omega)) (cH _)
 refine Int.le_trans h1 ?_
 rw[zk]
 refine z11 ?_ hB
 obtain ⟨k,rfl⟩:∃k,n=i+k:=⟨n - i,by omega⟩
 rw[vv]
 have:0<=sz k fun l=>ab (a (i+l)):=iu fun _ _=>cH _
 omega
theorem MI {n j:Nat} {f:Nat->Int} (hj:j<n) (hf:∀i,i<n->0<=f i):f j<=sz n f:=by
 have h1:(sz n fun i=>if i=j then f j else 0)<=sz n f:=pT fun i hi=>by
  by_cases e:i=j
  ·rw[if_pos e,e];exact Int.le_refl _
  ·rw[if_neg e];exact hf i hi
 rw[eG hj fun i _ hne=>if_neg hne,if_pos rfl] at h1
 exact h1
theorem D4 {n j:Nat} {a X:Nat->Int} {B:Int} (hj:j<n) (hB:0<=B) (hX:∀j,j<n->ab (X j)<=B):ab (a j*X j)<=(sz n fun j=>ab (a j))*B:=by
 rw[pr]
 refine Int.le_trans (Int.mul_le_mul_of_nonneg_left (hX j hj) (cH _)) (z11 ?_ hB)
 exact MI (f:=fun j=>ab (a j)) hj fun _ _=>cH _
theorem Kb {l:List Int} {X:Nat->Int} {d B:Int} (hd:0<d/\d<=1152921504606846976) (hB:0<=B) (hX:∀j,j<l.length->ab (X j)<=B) (h:(sz l.length fun j=>ab (l.getD j 0))*B<=1152921504606846976) :
  (jy l (bV l.length fun j=>prQ ((X j:Rat) / (d:Rat))) 0).isSome=true:=by
 have h0:(0:Rat)=((0:Int):Rat) / (d:Rat):=by rw[show ((0:Int):Rat)=0 from rfl,Rat.div_def,Rat.zero_mul]
 rw[h0,BG hd h (fun j hj=>D4 (a:=fun j=>l.getD j 0) hj hB hX) (fun i hi=>by rw[Int.zero_add];exact Em (a:=fun j=>l.getD j 0) hi hB hX)]
 rfl
section
variable {p:Pg} {S:Sx}
theorem EQ (hB:Bnd (ap p) (aG p)) (hv:(aG p).Val (ap p) S) (j:Nat):0<=tJ (ap p).m ((aG p).R (ap p)) S j/\tJ (ap p).m ((aG p).R (ap p)) S j<=(ap p).P:=by
 refine ⟨mm hv j,?_⟩
 have hRw:(aG p).R (ap p)<(aG p).w (ap p):=by unfold Lay.R Lay.w;omega
 obtain ⟨_,hb⟩:=hB.tabP hv.tb
 unfold tJ
 by_cases h:∃i,i<(ap p).m/\S.β i=j
 ·obtain ⟨i,hi,e⟩:=h
  rw[eG hi fun k hk hne=>if_neg fun e2=>hne (hv.tb.inj hk hi (by rw[e,e2])),if_pos e]
  have:=hb i _ hi hRw
  omega
 ·rw[gb fun i hi=>if_neg fun e=>h ⟨i,hi,e⟩]
  have:=(ap p).P_pos
  omega
theorem Qm (hV:ValidP p) (hf:fN (ap p)) (hv:(aG p).Val (ap p) S):HX p (xL p S)=true/\(jy p.1 (xL p S) 0).isSome=true:=by
 have hB:=Dt hV hf
 obtain ⟨⟨d1,d2⟩,hb⟩:=hB.tab hv.tb
 have hm:=hV.rows
 have hP:=(ap p).P_pos
 have hF0:=(ap p).F0_pos
 have hx:∀j,ab (tJ (ap p).m ((aG p).R (ap p)) S j)<=(ap p).P:=fun j=>by
  have:=EQ hB hv j
  exact xU.2 ⟨by omega,this.2⟩
 have gen:∀{l:List Int} {k:Nat},l.length=p.1.length->k<=p.2.length->(sz p.1.length fun j=>ab (l.getD j 0))<=fac (ap p) k->(jy l (xL p S) 0).isSome=true:=fun {l k} hl hk hF=>by
  have h2:=LB hf hk
  have h3:1*((ap p).P*fac (ap p) k)<=(ap p).F0*((ap p).P*fac (ap p) k):=z11 hF0 (Int.mul_nonneg (by omega) (by have:=zx (ap p) k;omega))
  have h5:=Int.mul_assoc (ap p).F0 (ap p).P (fac (ap p) k)
  have h4:=z11 hF (show 0<=(ap p).P by omega)
  rw[Int.mul_comm (fac (ap p) k)] at h4
  have h1:=Kb (l:=l) (X:=fun j=>tJ (ap p).m ((aG p).R (ap p)) S j) (d:=S.d) (B:=(ap p).P) ⟨d1,by omega⟩ (by omega) (fun j _=>hx j) (by rw[hl];omega)
  rw[hl] at h1
  exact h1
 constructor
 ·unfold HX
  rw[Og rw0]
  intro k hk
  have hr:p.2.getD k rw0 ∈ p.2:=by rw[bG hk];exact List.getElem_mem _
  refine gen (k:=k+1) (hV.len _ hr) (by omega) ?_
  show _<=1+ab (p.2.getD k rw0).2.2+sz p.1.length (fun j=>ab ((p.2.getD k rw0).1.getD j 0))
  have:=cH (p.2.getD k rw0).2.2
  omega
 ·refine gen (k:=0) rfl (by omega) ?_
  show _<=1+sz p.1.length (fun j=>ab (p.1.getD j 0))
  omega
theorem CU {n:Nat} {f:Nat->Rat} {j:Nat} (hj:j<n):vX (bV n fun j=>prQ (f j)) j=f j:=by
 unfold vX
 rw[bM hj,Ae]
theorem Nb {n:Nat} {f:Nat->Rat} (h:∀j,j<n->fm (f j)):∀a ∈ bV n (fun j=>prQ (f j)),okF a:=fun a ha=>by
 unfold bV at ha
 obtain ⟨j,hj,rfl⟩:=List.mem_map.1 ha
 exact vg (h j (List.mem_range.1 hj))
theorem Q3 (hV:ValidP p) (hf:fN (ap p)) (hv:(aG p).Val (ap p) S):∀a ∈ xL p S,okF a:=Nb fun j _=>by
 have hB:=Dt hV hf
 obtain ⟨⟨d1,d2⟩,_⟩:=hB.tab hv.tb
 have:=EQ hB hv j
 have:=hB.P'
 exact u6 (by omega) (by omega) (by omega)
theorem Dn.Lin.Feas.congr {L:Lin} {x x':Nat->Rat} (h:∀j,j<L.n->x j=x' j) (hx:L.Feas x):L.Feas x':=by
 have hr:∀k,L.row x' k=L.row x k:=fun k=>cU fun j hj=>by rw[h j hj]
 exact ⟨fun j hj=>by rw[<-h j hj];exact hx.pos j hj,fun k hk h2=>by rw[hr];exact hx.most k hk h2,fun k hk h2=>by rw[hr];exact hx.least k hk h2⟩
theorem Dn.Lin.Sgn.congr {L:Lin} {y y':Nat->Rat} (h:∀k,k<L.m->y k=y' k) (hy:L.Sgn y):L.Sgn y' :=
 ⟨fun k hk e=>by rw[<-h k hk];exact hy.most k hk e,fun k hk e=>by rw[<-h k hk];exact hy.least k hk e⟩
theorem Dn.Lin.col_congr {L:Lin} {y y':Nat->Rat} (h:∀k,k<L.m->y k=y' k) (j:Nat):L.col y' j=L.col y j:=cU fun k hk=>by rw[h k hk]
theorem Dn.Lin.rhs_congr {L:Lin} {y y':Nat->Rat} (h:∀k,k<L.m->y k=y' k):L.rhs y'=L.rhs y:=cU fun k hk=>by rw[h k hk]
theorem Dn.Lin.val_congr {L:Lin} {x x':Nat->Rat} (h:∀j,j<L.n->x j=x' j):L.val x'=L.val x:=cU fun j hj=>by rw[h j hj]
theorem Nr (hV:ValidP p) (_:fN (ap p)) (ho:Opt p S):(ap p).Feas (vX (xL p S))/\(ap p).Dual (vX (yL p (ca (ap p)) S))/\(ap p).val (vX (xL p S))=Da p S/\(ap p).rhs (vX (yL p (ca (ap p)) S))=Da p S:=by
 have hok:=nV hV
 have ex:∀j,j<(ap p).n->zK (ap p).m ((aG p).R (ap p)) S j=vX (xL p S) j:=fun j hj=>(CU hj).symm
 have ey:∀k,k<(ap p).m->rx (ap p).m (aG p).N (ca (ap p)) S (aG p).σ k=vX (yL p (ca (ap p)) S) k:=fun k hk=>(CU hk).symm
 have h1:=vG hok ho.val (ho.az.art S)
 have h2:=DR hok ho.val ho.zr
 obtain ⟨h3,h4⟩:=BW hok ho.val
 refine ⟨h1.congr ex,⟨h2.toSgn.congr ey,fun j hj=>?_⟩,?_,?_⟩
 ·rw[Lin.col_congr ey];exact h2.col j hj
 ·rw[Lin.val_congr ex];exact h3
 ·rw[Lin.rhs_congr ey];exact h4
theorem Df (hV:ValidP p) (ho:Infeas p S):(ap p).Ref (vX (yL p (fE (aG p).N) S)):=by
 have hok:=nV hV
 have ey:∀k,k<(ap p).m->rx (ap p).m (aG p).N (fE (aG p).N) S (aG p).σ k=vX (yL p (fE (aG p).N) S) k:=fun k hk=>(CU hk).symm
 have h2:=Ge hok ho.val ho.zr ho.pos
 refine ⟨h2.toSgn.congr ey,fun j hj=>?_,?_⟩
 ·rw[Lin.col_congr ey];exact h2.col j hj
 ·rw[Lin.rhs_congr ey];exact h2.rhs
end
theorem GD {p:Pg} (h:ValidP p) (hf:¬ fN (ap p)):aA p=some (oC,5,()):=by
 unfold aA iQ
 rw[yz,obN,wi.2 h]
 simp only[Bool.not_true,cF]
 rw[A6 h,obN,z8 hf]
 rfl
structure BndR (L:Lin) (Y:Lay):Prop where
 ok:Y.ok L
 m:L.m<=6
 w:Y.w L<=25
 P:L.F0*L.P<=536870912
section
variable {L:Lin} {Y:Lay}
theorem BndR.P' (h:BndR L Y):L.P<=536870912:=by
 have h1:=L.F0_pos
 have h2:=L.P_pos
 have h3:1*L.P<=L.F0*L.P:=z11 h1 (by omega)
 have:=h.P
 omega
theorem BndR.tab (h:BndR L Y) {T:Nat->Nat->Int} {d:Int} {β:Nat->Nat} (ht:Tb L.m (Y.w L) (Y.M L) T d β):(0<d/\d<=536870912)/\∀i j,i<L.m->j<Y.w L->(T i j).natAbs<=536870912/\((T i j).natAbs:Int)<=L.P:=by
 obtain ⟨h1,h2⟩:=pJ h.ok ht
 have h3:=h.P'
 refine ⟨⟨ht.dpos,by omega⟩,fun i j hi hj=>?_⟩
 have:=h2 i j hi hj
 rw[vq] at this
 omega
structure Wc (L:Lin) (Y:Lay) (wc:Nat->Int):Prop where
 small:∀j x,(x.natAbs:Int)<=L.P-> -536870912<=wc j*x/\wc j*x<=536870912
end
section
variable {L:Lin} {Y:Lay}
theorem Swp.next {i:Nat} {S:Sx} (h:Swp L Y i S) (hr:Y.N<=S.β i->∀j,j<Y.N->S.T i j=0):Swp L Y (i+1) S :=
 ⟨h.val,h.right,fun k hk hlt hb j hj=>by
  by_cases e:k=i
  ·subst e;exact hr hb j hj
  ·exact h.rows k hk (by omega) hb j hj⟩
end
section
variable {p:Pg}
end
section
variable {L:Lin} {Y:Lay}
end
def PO (p:Pg) (a:Fq×List Fq×List Fq) (e:Int):Prop :=
 (e=5/\a=oC/\¬ fN (ap p))\/(e=22/\a=oC/\fN (ap p)/\∃y,(ap p).Ref y) \/
 (e=21/\a=oC/\fN (ap p)/\(∃x,(ap p).Feas x)/\∃r,(ap p).Ray r) \/
 (e=0/\fN (ap p)/\∃v,a.1=prQ v/\fm v/\a.2.1.length=p.1.length/\(∀x ∈ a.2.1,okF x)/\HX p a.2.1=true/\(jy p.1 a.2.1 0).isSome=true/\(ap p).Feas (vX a.2.1)/\(∃y,(ap p).Dual y/\(ap p).rhs y=v)/\(ap p).val (vX a.2.1)=v)
theorem zn {p:Pg} (hV:ValidP p):∃a e,aA p=some (a,e,())/\PO p a e:=by
 by_cases hf:fN (ap p)
 ·have hok:=nV hV
  rcases JJ hV hf with ⟨S,h1,h2⟩ | ⟨S,q,h1,h2⟩ | ⟨S,h1,h2⟩
  ·exact ⟨_,_,h2,.inr (.inl ⟨rfl,rfl,hf,_,Df hV h1⟩)⟩
  ·exact ⟨_,_,h2,.inr (.inr (.inl ⟨rfl,rfl,hf,⟨_,vG hok h1.val (h1.az.art S)⟩,_,Gq hok h1.val h1.lt (h1.az.col S h1.lt) h1.neg h1.no⟩))⟩
  ·obtain ⟨a1,a2,a3,a4⟩:=Nr hV hf h1
   obtain ⟨f1,f2⟩:=Qm hV hf h1.val
   have hl:(xL p S).length=p.1.length:=bf
   have hv:=M2 (p:=p) (x:=xL p S) hl f2
   have hq:fm (Da p S):=by
    rw[<-a3,<-hv]
    exact Nn
   exact ⟨_,_,h2,.inr (.inr (.inr ⟨rfl,hf,Da p S,rfl,hq,hl,Q3 hV hf h1.val,f1,f2,a1,⟨_,a2,a4⟩,a3⟩))⟩
 ·exact ⟨_,_,GD hV hf,.inl ⟨rfl,rfl,hf⟩⟩
theorem OS {f:(Fq×Unit)->Option Bool} {p:Fq->Bool} {l:List Fq} (hl:l.length<=1000000) (h:∀a,a ∈ l->f (a,())=some (p a)):aj l f=some (l.any p):=by
 simp only[aj,fR]
 have e:bO l f=some (iI p l 0):=by
  unfold bO gV
  exact nH (f:=f) (d:=(0,0)) hl h
 rw[e,af,yX]
theorem EP {x:List Fq} (hl:x.length<=1000) (hx:∀a ∈ x,okF a):bi x=O6 (jy (List.replicate x.length 1) x 0) (some ((0,0),5,())) fun q=>some (prQ q,0,()):=by
 have hc:aj x (fun x=>fh x.1)=some false:=by
  rw[OS (p:=fun a=>!decide (okF a)) (by omega) (fun a _=>by simp only[fh,my,vK,af])]
  congr 1
  rw[List.any_eq_false]
  intro a ha h
  rw[z7 (hx a ha)] at h
  cases h
 obtain ⟨l,hll⟩:∃l,l=List.replicate x.length (1:Int):=⟨_,rfl⟩
 have hlen:l.length=x.length:=by rw[hll,List.length_replicate]
 have h1:∀i,i<l.length->l.getD i 0=1:=fun i hi=>by
  rw[bG hi]
  subst hll
  exact List.getElem_replicate _
 simp only[bi,o4,hc,af,cF,z8 (show ¬ (x.length:Int)>1000 by omega)]
 rw[<-hll]
 refine (mG (α:=Int×Fq×Fq×PUnit) l.length (by omega) (fun i (s:Fq×{q:Rat // fm q})=>((i:Int),s.1,prQ s.2.1,PUnit.unit))
  (fun i s k=>if h:fm (((l.getD i 0:Int):Rat)*qv (x.getD i (0,0)))/\fm (s.2.1+((l.getD i 0:Int):Rat)*qv (x.getD i (0,0))) then k (s.1,⟨_,h.2⟩) else some ((0,0),5,())) (fun s=>some (prQ s.2.1,0,())) ?_ ?_ ((0,0),⟨0,by decide⟩)).trans ?_
 ·intro again i s hi
  obtain ⟨w,q,hq⟩:=s
  have hix:i<x.length:=by omega
  have ha:okF (x.getD i (0,0)):=by rw[bG hix];exact hx _ (List.getElem_mem _)
  simp only[bo,z7 hix,z7 (show (i:Int)<x.length by omega),cT,z9,eq (show i<=1000000 by omega),h1 i hi]
  have hA:=Kj (vg hq) ha
  rw[Ae] at hA
  have e1:((1:Int):Rat)*qv (x.getD i (0,0))=qv (x.getD i (0,0)):=by rw[show ((1:Int):Rat)=1 from rfl,Rat.one_mul]
  have f1:fm (qv (x.getD i (0,0))):=Ik ha
  simp only[hA,af,e1]
  rcases vu (q+qv (x.getD i (0,0))) with ⟨f2,e2⟩ | ⟨f2,e2⟩
  ·rw[dif_pos ⟨f1,f2⟩]
   simp only[e2,decide_true,Bool.not_true,cF]
  ·rw[dif_neg fun h=>f2 h.2]
   simp only[e2]
   rfl
 ·intro again s
  simp only[hlen,z8 (show ¬ (x.length:Int)<x.length by omega),cF]
 ·exact Ir (cur:=fun s:Fq×{q:Rat // fm q}=>s.2.1) (bad:=some ((0,0),5,())) (good:=fun q=>some (prQ q,0,())) (by omega) (fun i s h=>(s.1,⟨_,h⟩)) (fun _ _ _=>rfl) (fun _ _ _ _=>rfl) (fun _=>rfl) l.length 0 ((0,0),⟨0,by decide⟩) (by omega)
theorem vi (s:Sy) (c:List Int) (hl:c.length=s.2.length):ap (cf s c)=⟨s.2.length,s.1.length,fun k j=>((bV s.1.length (jc s)).getD k rw0).1.getD j 0,fun k=>((bV s.1.length (jc s)).getD k rw0).2.2,fun j=>c.getD j 0,fun k=>((bV s.1.length (jc s)).getD k rw0).2.1⟩:=by
 unfold ap cf
 simp only[hl,bf]
def EqS (s:Sy) (x:Nat->Rat):Prop:=∀i,i<s.1.length->(sq s.2.length fun j=>((Mx s i j:Int):Rat)*x j)=((bwS s i:Int):Rat)
theorem gN {s:Sy} {c:List Int} (hl:c.length=s.2.length) {x:Nat->Rat}:(ap (cf s c)).Feas x↔(∀j,j<s.2.length->0<=x j)/\EqS s x:=by
 rw[vi s c hl]
 have er:∀i,i<s.1.length->(⟨s.2.length,s.1.length,fun k j=>((bV s.1.length (jc s)).getD k rw0).1.getD j 0,fun k=>((bV s.1.length (jc s)).getD k rw0).2.2,fun j=>c.getD j 0,fun k=>((bV s.1.length (jc s)).getD k rw0).2.1⟩:Lin).row x i=sq s.2.length fun j=>((Mx s i j:Int):Rat)*x j:=fun i hi=>by
  unfold Lin.row
  refine cU fun j hj=>?_
  simp only[bM hi,jc,bM hj]
 constructor
 ·rintro ⟨h1,h2,h3⟩
  refine ⟨h1,fun i hi=>?_⟩
  have hk:((bV s.1.length (jc s)).getD i rw0).2.1=3:=by rw[bM hi];rfl
  have hb:((bV s.1.length (jc s)).getD i rw0).2.2=bwS s i:=by rw[bM hi];rfl
  have a1:=h2 i hi (by simp only[hk];omega)
  have a2:=h3 i hi (by simp only[hk];omega)
  rw[er i hi] at a1 a2
  simp only[hb] at a1 a2
  exact Rat.le_antisymm a1 a2
 ·rintro ⟨h1,h2⟩
  refine ⟨h1,fun i hi _=>?_,fun i hi _=>?_⟩
  ·have hb:((bV s.1.length (jc s)).getD i rw0).2.2=bwS s i:=by rw[bM hi];rfl
   rw[er i hi,h2 i hi]
   simp only[hb]
   exact Rat.le_refl
  ·have hb:((bV s.1.length (jc s)).getD i rw0).2.2=bwS s i:=by rw[bM hi];rfl
   rw[er i hi,h2 i hi]
   simp only[hb]
   exact Rat.le_refl
theorem RF {s:Sy} {c:List Int}:(ap (cf s c)).F0=1+sz c.length fun j=>ab (c.getD j 0):=rfl
theorem L4 {s:Sy} {c c':List Int} (hl:c.length=s.2.length) (hl':c'.length=s.2.length) (h:(ap (cf s c)).F0=(ap (cf s c')).F0):fac (ap (cf s c))=fac (ap (cf s c')):=by
 funext k
 cases k with
 | zero=>exact h
 | succ k =>
  simp only[fac]
  rw[vi s c hl,vi s c' hl']
  rfl
theorem Cx {s:Sy} {c c':List Int} (hl:c.length=s.2.length) (hl':c'.length=s.2.length) (h:(ap (cf s c)).F0=(ap (cf s c')).F0):fN (ap (cf s c))↔fN (ap (cf s c')):=by
 unfold fN
 rw[L4 hl hl' h,show (ap (cf s c)).m=(ap (cf s c')).m from rfl]
theorem sS {s:Sy} {k:Nat} {c:Int} (hk:k<s.2.length) (hc:ab c=1):(ap (cf s (fG s k c))).F0=2:=by
 rw[RF,gj,eG (k:=k) hk fun i hi hne=>?_,xC hk,if_pos rfl,hc]
 ·rfl
 ·rw[xC hi,if_neg (Ne.symm hne)]
  rfl
theorem eN {s:Sy}:(gH s).length=s.2.length:=by unfold gH;rw[List.length_replicate]
theorem vZ {s:Sy} (h:fe s=true) {a:Fq×List Fq×List Fq} {e:Int} (hs:aA (cf s (gH s))=some (a,e,())):aE s=some (bif decide (e=0) then a.2.1 else [],e,()):=by
 unfold aE kX
 rw[Kk h,af,hs]
 by_cases he:e=0
 ·subst he;rfl
 ·simp only[z8 he,af]
  rfl
theorem Gx {s:Sy} (h:fe s=false) (hl:s.2.length<=1000000):aE s=some ([],1,()):=by
 unfold aE kX
 rw[Hn h hl]
 rfl
def iB (s:Sy) (z:Nat->Bool):Nat->List ByteArray
 | 0=>[]
 | k+1=>if z k then iB s z k++[rnS s k] else iB s z k
theorem rm {s:Sy} {z:Nat->Bool}:∀k,(iB s z k).length<=k
 | 0=>Nat.le_refl _
 | k+1=>by
  have:=rm (s:=s) (z:=z) k
  simp only[iB]
  split
  ·rw[List.length_append,List.length_singleton];omega
  ·omega
theorem rV {s:Sy} {z z':Nat->Bool}:∀{k:Nat},(∀j,j<k->z j=z' j)->iB s z k=iB s z' k
 | 0,_=>rfl
 | k+1,h=>by
  simp only[iB]
  rw[h k (by omega),rV fun j hj=>h j (by omega)]
theorem yn {s:Sy} (h:fe s=true) {A:Nat->Fq×List Fq×List Fq} {E:Nat->Int} (hs:∀k,k<s.2.length->aA (cf s (fG s k (-1)))=some (A k,E k,())) (hE:∀k,k<s.2.length->E k=0\/E k=21) :
  aF s=some (iB s (fun k=>decide (E k=0)&&decide ((A k).1.1=0)) s.2.length,0,()):=by
 have hr:=(gJ h).rl
 unfold aF ke
 rw[sr,af,h]
 simp only[Bool.not_true,cF]
 refine cM s.2.length (by omega) (fun k=>(iB s (fun k=>decide (E k=0)&&decide ((A k).1.1=0)) k,(k:Int),PUnit.unit)) _ rfl (fun again k hk=>?_) (fun again=>?_)
 ·have hlen:=rm (s:=s) (z:=fun k=>decide (E k=0)&&decide ((A k).1.1=0)) k
  simp only[bo,z7 hk,z7 (show (k:Int)<s.2.length by omega),cT,z9,Fv h hk,af,hs k hk,eq (show k<=1000000 by omega),decide_true,Bool.not_true,cF]
  simp only[iB]
  have d1:decide ((0:Int)=21)=false:=rfl
  rcases hE k hk with e | e
  ·by_cases c:(A k).1.1=0
   ·rw[if_pos (by rw[z7 c,z7 e];rfl)]
    simp only[e,d1,decide_true,Bool.not_true,cF,z7 c,cT,fM (show ((iB s (fun k=>decide (E k=0)&&decide ((A k).1.1=0)) k).length+1)*16<=140737488355328 by omega)]
    rfl
   ·rw[if_neg (by rw[z8 c,Bool.and_false];exact Bool.false_ne_true)]
    simp only[e,d1,decide_true,Bool.not_true,cF,z8 c]
  ·rw[if_neg (by rw[z10];exact fun h=>absurd (z12 h.1) (by omega))]
   simp only[e,decide_true,cT]
 ·simp only[z8 (show ¬ (s.2.length:Int)<s.2.length by omega),cF]
theorem wm {s:Sy} (h:fe s=true) {A:Nat->Fq×List Fq×List Fq} {e:Int} (he:e≠0/\e≠21) (hs:∀k,k<s.2.length->aA (cf s (fG s k (-1)))=some (A k,e,())):aF s=some ([],e,()):=by
 have hr:=(gJ h).rl
 unfold aF ke
 rw[sr,af,h]
 simp only[Bool.not_true,cF]
 refine cM 0 (by omega) (fun k=>([],(k:Int),PUnit.unit)) _ rfl (fun again k hk=>absurd hk (by omega)) (fun again=>?_)
 have h1:=Fv h (k:=0) (by omega) (-1)
 have h2:=hs 0 (by omega)
 simp only[bo,z7 (show 0<s.2.length by omega),z7 (show ((0:Nat):Int)<s.2.length by omega),cT,h1,af,h2,decide_true,Bool.not_true,cF,z8 he.1,z8 he.2,Bool.not_false]
theorem OM {P:Nat->Pg} {n:Nat} (h:∀k,k<n->ValidP (P k)):∃(A:Nat->Fq×List Fq×List Fq) (E:Nat->Int),∀k,k<n->aA (P k)=some (A k,E k,())/\PO (P k) (A k) (E k):=by
 refine ⟨fun k=>((aA (P k)).getD (oC,0,())).1,fun k=>((aA (P k)).getD (oC,0,())).2.1,fun k hk=>?_⟩
 obtain ⟨a,e,h1,h2⟩:=zn (h k hk)
 show aA (P k)=some (((aA (P k)).getD (oC,0,())).1,((aA (P k)).getD (oC,0,())).2.1,())/\PO (P k) ((aA (P k)).getD (oC,0,())).1 ((aA (P k)).getD (oC,0,())).2.1
 rw[h1]
 exact ⟨rfl,h2⟩
theorem E7 {q:Rat}:(prQ q).1=0↔q=0:=Rat.num_eq_zero
theorem nO {s:Sy} {r:Nat->Rat} (h:(ap (cf s (gH s))).Ray r):False:=by
 have h1:=h.val
 have h2:0<=(ap (cf s (gH s))).val r:=Gj fun j hj=>by
  have hj':j<s.2.length:=by have:j<(gH s).length:=hj;rw[eN] at this;exact this
  have e:(ap (cf s (gH s))).c j=1:=by
   show (gH s).getD j 0=1
   rw[bG (by rw[eN];exact hj')]
   unfold gH
   exact List.getElem_replicate _
  rw[e]
  have:=h.pos j hj
  grind
 grind
theorem Fg:∀{n:Nat} {f:Nat->Rat} {k:Nat},k<n->(∀i,i<n->i≠k->f i=0)->sq n f=f k
 | n+1,f,k,hk,h=>by
  simp only[sq]
  by_cases e:k=n
  ·subst e
   rw[kV fun i hi=>h i (by omega) (by omega),Rat.zero_add]
  ·rw[Fg (k:=k) (by omega) fun i hi hne=>h i (by omega) hne,h n (by omega) (fun h=>e h.symm),Rat.add_zero]
theorem se {s:Sy} (x:Nat->Rat):(ap (cf s (gH s))).val x=sq s.2.length x:=by
 have e:(ap (cf s (gH s))).val x=sq s.2.length fun j=>(((gH s).getD j 0:Int):Rat)*x j:=by
  show (sq (gH s).length fun j=>(((gH s).getD j 0:Int):Rat)*x j)=_
  rw[eN]
 rw[e]
 refine cU fun j hj=>?_
 have e2:(gH s).getD j 0=1:=by
  rw[bG (by rw[eN];exact hj)]
  unfold gH
  exact List.getElem_replicate _
 rw[e2]
 exact Rat.one_mul _
theorem Eg {x:List Fq} (hl:x.length<=1000) (hx:∀a ∈ x,okF a):bi x=some ((0,0),5,())\/∃q,fm q/\q=sq x.length (vX x)/\bi x=some (prQ q,0,()):=by
 rw[EP hl hx]
 cases hq:jy (List.replicate x.length 1) x 0 with
 | none=>exact .inl rfl
 | some q =>
  refine .inr ⟨q,tQ (by decide) hq,?_,rfl⟩
  have:=wT (by rw[List.length_replicate];exact Nat.le_refl _) hq
  rw[this,Rat.zero_add,List.length_replicate]
  refine cU fun j hj=>?_
  rw[bG (by rw[List.length_replicate];exact hj),List.getElem_replicate]
  exact Rat.one_mul _
theorem Lo {α:Type} [DecidableEq α] (d:α) {l m:List α} (h:l.length=m.length):(List.range' 0 l.length).all (fun i=>decide (l.getD i d=m.getD i d))=decide (l=m):=by
 rw[Bool.eq_iff_iff,decide_eq_true_iff,List.all_eq_true]
 constructor
 ·intro hh
  refine List.ext_getElem h fun i h1 h2=>?_
  have:=z12 (hh i (om h1))
  rw[bG h1,bG h2] at this
  exact this
 ·rintro rfl i _
  exact z7 rfl
theorem Kf {α:Type} [DecidableEq α] (d:α) {l m:List α} (h:l.length=m.length) (hl:l.length<=1000000) {F:(Int×PUnit->Option Bool)->Int×PUnit->Option Bool}
  (hb:∀again (i:Nat),i<l.length->F again ((i:Int),PUnit.unit)=bif decide (l.getD i d=m.getD i d) then again (((i+1:Nat):Int),PUnit.unit) else some false) (hf:∀again,F again ((l.length:Int),PUnit.unit)=some true) :
  lpK (Int×PUnit) Bool F ((0:Int),PUnit.unit)=some (decide (l=m)):=by
 refine (mG (α:=Int×PUnit) l.length (by omega) (fun i (_:Unit)=>((i:Int),PUnit.unit)) (fun i s k=>bif decide (l.getD i d=m.getD i d) then k s else some false) (fun _=>some true) ?_ ?_ ()).trans ?_
 ·intro again i _ hi
  exact hb again i hi
 ·intro again _
  exact hf again
 ·rw[mr l.length (fun i k _=>rfl) l.length 0 (by omega),Lo d h]
  cases decide (l=m)<;>rfl
theorem Nc (l m:List ByteArray) (hl:l.length<=1000000):aR l m=some (decide (l=m)):=by
 simp only[aR,jz,lf]
 by_cases h:l.length=m.length
 ·rw[z7 (show (l.length:Int)=m.length by omega)]
  simp only[Bool.not_true,cF]
  refine Kf { data:={ toList:=[] } } h hl (fun again i hi=>?_) (fun again=>?_)
  ·simp only[bo,z7 hi,z7 (show i<m.length by omega),z7 (show (i:Int)<l.length by omega),cT,z9,eq (show i<=1000000 by omega)]
   cases decide (List.getD l i { data:={ toList:=[] } }=List.getD m i { data:={ toList:=[] } })<;>rfl
  ·simp only[z8 (show ¬ (l.length:Int)<l.length by omega),cF]
 ·rw[z8 (show ¬ (l.length:Int)=m.length by omega),z8 fun e=>h (by rw[e])]
  rfl
theorem Ft (a b:Fq):(decide (a.1=b.1)&&(decide (a.2=b.2)&&true))=decide (a=b):=by
 rw[Bool.eq_iff_iff,z10,Bool.and_true,decide_eq_true_iff,decide_eq_true_iff,decide_eq_true_iff]
 exact ⟨fun h=>Prod.ext h.1 h.2,fun h=>by rw[h];exact ⟨rfl,rfl⟩⟩
structure TabR (m w:Nat) (L:Nat->Nat->Int) (t:List Nat×List (Option (List Int))):Prop where
 len:t.1.length=m
 cell:∀i,i<m->t.2.getD (t.1.getD i 0) none=some (bV w (L i))
 inj:∀i j,i<m->j<m->t.1.getD i 0=t.1.getD j 0->i=j
section
variable {m w:Nat} {L L':Nat->Nat->Int} {t:List Nat×List (Option (List Int))}
theorem TabR.row (h:TabR m w L t) {i:Nat} (hi:i<m):ah t.2 (t.1.getD i 0)=bV w (L i):=by unfold ah;rw[h.cell i hi];rfl
theorem TabR.live (h:TabR m w L t) {i:Nat} (hi:i<m):eD t.2 (t.1.getD i 0)=true:=by unfold eD;rw[h.cell i hi];rfl
theorem TabR.id_lt (h:TabR m w L t) {i:Nat} (hi:i<m):t.1.getD i 0<t.2.length:=by
 have h1:=h.cell i hi
 by_cases h2:t.1.getD i 0<t.2.length
 ·exact h2
 ·rw[List.getD_eq_getElem?_getD,List.getElem?_eq_none (by omega)] at h1
  cases h1
theorem TabR.congr (h:TabR m w L t) (e:∀i j,i<m->j<w->L i j=L' i j):TabR m w L' t :=
 ⟨h.len,fun i hi=>by rw[h.cell i hi,cR fun j hj=>e i j hi hj],h.inj⟩
theorem TabR.all (h:TabR m w L t):(t.1.all fun x=>eD t.2 x)=true:=by
 rw[List.all_eq_true]
 intro x hx
 obtain ⟨i,hi,he⟩:=List.mem_iff_getElem.1 hx
 have hi':i<m:=by rw[<-h.len];exact hi
 have:=h.live hi'
 rw[bG hi,he] at this
 exact this
theorem TabR.map (h:TabR m w L t):t.1.map (fun x=>ah t.2 x)=q6 m w L:=by
 refine List.ext_getElem (by rw[List.length_map,h.len,gI]) fun i h1 h2=>?_
 have hi:i<m:=by rw[gI] at h2;exact h2
 have hi':i<t.1.length:=by rw[h.len];exact hi
 have e1:=h.row hi
 rw[bG hi'] at e1
 rw[List.getElem_map,e1]
 have e2:=nf (w:=w) (T:=L) hi
 rw[bG h2] at e2
 exact e2.symm
theorem TabR.put (h:TabR m w L t) {i j:Nat} {x:Int} (hi:i<m) (hj:j<w) (e:∀k l,k<m->l<w->(if k=i/\l=j then x else L k l)=L' k l) :
  TabR m w L' (t.1,t.2.set (t.1.getD i 0) (some ((bV w (L i)).set j x))):=by
 refine ⟨h.len,fun k hk=>?_,h.inj⟩
 show (t.2.set (t.1.getD i 0) (some ((bV w (L i)).set j x))).getD (t.1.getD k 0) none=_
 have hl:=h.id_lt hi
 rw[List.getD_eq_getElem?_getD,List.getElem?_set]
 by_cases c:i=k
 ·subst c
  rw[if_pos rfl,if_pos hl,iJ hj]
  show some _=some _
  congr 1
  refine cR fun l hl=>?_
  rw[<-e i l hi hl]
  by_cases c2:l=j
  ·rw[if_pos c2,if_pos ⟨rfl,c2⟩]
  ·rw[if_neg c2,if_neg fun h=>c2 h.2]
 ·rw[if_neg fun h'=>c (h.inj i k hi hk h'),<-List.getD_eq_getElem?_getD,h.cell k hk]
  congr 1
  refine cR fun l hl=>?_
  rw[<-e k l hk hl,if_neg fun h=>c h.1.symm]
def swp (a b i:Nat):Nat:=if i=a then b else if i=b then a else i
theorem uU (a b i:Nat):swp a b (swp a b i)=i:=by unfold swp;(repeat' split)<;>omega
theorem oS {a b i:Nat} (ha:a<m) (hb:b<m) (hi:i<m):swp a b i<m:=by unfold swp;(repeat' split)<;>omega
theorem HV {l:List Nat} {a b i:Nat} (ha:a<l.length) (hb:b<l.length):((l.set a (l.getD b 0)).set b (l.getD a 0)).getD i 0=l.getD (swp a b i) 0:=by
 rw[List.getD_eq_getElem?_getD,List.getElem?_set,List.length_set,List.getElem?_set]
 unfold swp
 by_cases c1:i=a
 ·subst c1
  by_cases c2:b=i
  ·subst c2
   rw[if_pos rfl,if_pos ha,if_pos rfl]
   rfl
  ·rw[if_neg c2,if_pos rfl,if_pos ha,if_pos rfl]
   rfl
 ·by_cases c2:b=i
  ·subst c2
   rw[if_pos rfl,if_pos hb,if_neg c1,if_pos rfl]
   rfl
  ·rw[if_neg c2,if_neg (fun h=>c1 h.symm),if_neg c1,if_neg (fun h=>c2 h.symm),List.getD_eq_getElem?_getD]
theorem TabR.swap (h:TabR m w L t) {a b:Nat} (ha:a<m) (hb:b<m):TabR m w (fun i=>L (swp a b i)) ((t.1.set a (t.1.getD b 0)).set b (t.1.getD a 0),t.2++[]++[]):=by
 have e:=fun i=>HV (l:=t.1) (a:=a) (b:=b) (i:=i) (by rw[h.len];exact ha) (by rw[h.len];exact hb)
 refine ⟨by rw[List.length_set,List.length_set];exact h.len,fun i hi=>?_,fun i j hi hj he=>?_⟩
 ·show (t.2++[]++[]).getD (((t.1.set a (t.1.getD b 0)).set b (t.1.getD a 0)).getD i 0) none=_
  rw[e,List.append_nil,List.append_nil,h.cell _ (oS ha hb hi)]
 ·have he':((t.1.set a (t.1.getD b 0)).set b (t.1.getD a 0)).getD i 0=((t.1.set a (t.1.getD b 0)).set b (t.1.getD a 0)).getD j 0:=he
  rw[e,e] at he'
  have:=h.inj _ _ (oS ha hb hi) (oS ha hb hj) he'
  rw[<-uU a b i,this,uU]
end
def Ao (w:Nat) (N:Nat->Nat->Int):Nat->Nat->Int:=fun i j=>if j<w then N i j else if j=w+i then 1 else 0
section
variable {m w:Nat} {a b:Nat}
theorem OW {f:Nat->Int} (ha:a<m) (hb:b<m) (hab:a≠b):sz m (fun i=>f (swp a b i))=sz m f:=by
 have e:sz m (fun i=>f (swp a b i))=sz m fun i=>f i+((if i=a then f b - f a else 0)+(if i=b then f a - f b else 0)):=bA fun i hi=>by
  unfold swp
  by_cases h1:i=a
  ·subst h1
   rw[if_pos rfl,if_pos rfl,if_neg hab]
   omega
  ·rw[if_neg h1,if_neg h1]
   by_cases h2:i=b
   ·subst h2
    rw[if_pos rfl,if_pos rfl]
    omega
   ·rw[if_neg h2,if_neg h2]
    omega
 rw[e,mD,mD,eG ha (f:=fun i=>if i=a then f b - f a else 0) (fun i _ hne=>if_neg hne),eG hb (f:=fun i=>if i=b then f a - f b else 0) (fun i _ hne=>if_neg hne)]
 simp only[if_true]
 omega
theorem JW {M:Nat->Nat->Int} {γ:Nat->Nat} (ha:a<m) (hb:b<m) (hab:a≠b):dc m M (fun k=>γ (swp a b k))= - dc m M γ:=by
 have e1:eU M (fun k=>γ (swp a b k))=bW (bW (eU M γ) a fun i=>M i (γ b)) b fun i=>M i (γ a):=by
  funext i k
  show M i (γ (if k=a then b else if k=b then a else k))=if k=b then M i (γ a) else if k=a then M i (γ b) else M i (γ k)
  by_cases h1:k=b
  ·subst h1
   rw[if_neg (Ne.symm hab),if_pos rfl,if_pos rfl]
  ·rw[if_neg h1,if_neg h1]
   by_cases h2:k=a
   ·rw[if_pos h2,if_pos h2]
   ·rw[if_neg h2,if_neg h2]
 have e2:eU M γ=bW (bW (eU M γ) a fun i=>M i (γ a)) b fun i=>M i (γ b):=by
  funext i k
  show M i (γ k)=if k=b then M i (γ b) else if k=a then M i (γ a) else M i (γ k)
  by_cases h1:k=b
  ·rw[if_pos h1,h1]
  ·rw[if_neg h1]
   by_cases h2:k=a
   ·rw[if_pos h2,h2]
   ·rw[if_neg h2]
 have e3:det m (eU M γ)=det m (bW (bW (eU M γ) a fun i=>M i (γ a)) b fun i=>M i (γ b)):=by rw[<-e2]
 unfold dc
 rw[e1,AK ha hb hab,e3]
theorem Dn.Tb.swap {W:Nat} {M T:Nat->Nat->Int} {d:Int} {β:Nat->Nat} (h:Tb m W M T d β) (ha:a<m) (hb:b<m) (hab:a≠b):Tb m W M (fun i=>T (swp a b i)) d (fun i=>β (swp a b i)):=by
 refine ⟨h.dpos,fun i hi=>h.lt _ (oS ha hb hi),fun k hk j hj=>?_,?_⟩
 ·rw[OW (f:=fun i=>T i j*M k (β i)) ha hb hab]
  exact h.co k hk j hj
 ·obtain ⟨σ,h1,h2,h3⟩:=h.cr
  refine ⟨-σ,by rw[Int.neg_mul_neg];exact h1,by rw[JW ha hb hab,Int.neg_mul_neg];exact h2,fun i hi j hj=>?_⟩
  have e:upd (fun i=>β (swp a b i)) i j=fun k=>upd β (swp a b i) j (swp a b k):=by
   funext k
   unfold upd
   by_cases c:k=i
   ·rw[if_pos c,c,if_pos rfl]
   ·rw[if_neg c,if_neg fun h=>c (by rw[<-uU a b k,h,uU])]
  rw[e,JW ha hb hab,Int.neg_mul_neg]
  exact h3 _ (oS ha hb hi) j hj
end
structure ElBnd (m w c:Nat) (N:Nat->Nat->Int):Prop where
 hm:1<=m/\m<=1000
 hw:w<=1000
 hc:c<=w
 b:∀T d β,Tb m (w+m) (Ao w N) T d β->(∀i,i<m->β i<c\/w<=β i)->∀i j,i<m->j<w+m->ab (T i j)<4611686018427387904
structure El (m w c:Nat) (N:Nat->Nat->Int) (C k:Nat) (p:Nat->Nat) (L:Nat->Nat->Int) (e:Int) (T:Nat->Nat->Int) (d:Int) (β:Nat->Nat) (s:Int):Prop where
 tb:Tb m (w+m) (Ao w N) T d β
 cc:C<=c
 s1:s=1\/s= -1
 le:∀i j,i<m->j<w->L i j=s*T i j
 de:e=s*d
 km:k<=m
 bp:∀i,i<k->β i=p i/\p i<C
 inc:∀i j,i<j->j<k->p i<p j
 bs:∀i,k<=i->i<m->w<=β i
 z:∀i j,k<=i->i<m->j<C->T i j=0
section
variable {m w c:Nat} {N:Nat->Nat->Int} {C k:Nat} {p:Nat->Nat} {L:Nat->Nat->Int} {e:Int} {T:Nat->Nat->Int} {d:Int} {β:Nat->Nat} {s:Int}
theorem El.first (_:m<=1000):El m w c N 0 0 (fun _=>0) N 1 (Ao w N) 1 (fun i=>w+i) 1:=by
 refine ⟨Tb.first (fun i hi=>by omega) (fun k hk i hi=>?_),Nat.zero_le _,.inl rfl,fun i j hi hj=>?_,rfl,Nat.zero_le _,fun i hi=>by omega,fun i j _ hj=>by omega,fun i _ _=>Nat.le_add_right _ _,fun i j _ _ hj=>by omega⟩
 ·unfold Ao
  rw[if_neg (by omega)]
  by_cases h:k=i
  ·rw[if_pos (by omega),if_pos h]
  ·rw[if_neg (by omega),if_neg h]
 ·unfold Ao
  rw[if_pos hj,Int.one_mul]
theorem El.swap (h:El m w c N C k p L e T d β s) {a b:Nat} (ha:k<=a/\a<m) (hb:k<=b/\b<m) (hab:a≠b):El m w c N C k p (fun i=>L (swp a b i)) e (fun i=>T (swp a b i)) d (fun i=>β (swp a b i)) s:=by
 have hs:∀i,i<k->swp a b i=i:=fun i hi=>by unfold swp;rw[if_neg (by omega),if_neg (by omega)]
 have hs2:∀i,k<=i->k<=swp a b i:=fun i hi=>by unfold swp;(repeat' split)<;>omega
 refine ⟨h.tb.swap ha.2 hb.2 hab,h.cc,h.s1,fun i j hi hj=>h.le _ j (oS ha.2 hb.2 hi) hj,h.de,h.km,fun i hi=>?_,h.inc,fun i h1 h2=>h.bs _ (hs2 i h1) (oS ha.2 hb.2 h2),fun i j h1 h2 h3=>h.z _ j (hs2 i h1) (oS ha.2 hb.2 h2) h3⟩
 show β (swp a b i)=p i/\_
 rw[hs i hi]
 exact h.bp i hi
theorem El.sne (h:El m w c N C k p L e T d β s):s*s=1:=by rcases h.s1 with h | h<;>rw[h]<;>rfl
theorem El.ene (h:El m w c N C k p L e T d β s):e≠0:=by
 have:=h.tb.dpos
 rw[h.de]
 rcases h.s1 with h | h<;>rw[h]<;>omega
theorem El.skip (h:El m w c N C k p L e T d β s) (hC:C<c) (hw:c<=w) (h0:∀i,k<=i->i<m->L i C=0):El m w c N (C+1) k p L e T d β s:=by
 refine ⟨h.tb,hC,h.s1,h.le,h.de,h.km,fun i hi=>⟨(h.bp i hi).1,by have:=(h.bp i hi).2;omega⟩,h.inc,h.bs,fun i j h1 h2 h3=>?_⟩
 by_cases c:j=C
 ·subst c
  have h4:=h.le i j h2 (by omega)
  rw[h0 i h1 h2] at h4
  rcases h.s1 with h5 | h5<;>rw[h5] at h4<;>omega
 ·exact h.z i j h1 h2 (by omega)
def elq (L:Nat->Nat->Int) (e:Int) (r c i j:Nat):Int:=(L i j*L r c - L i c*L r j) / e
def elL (L:Nat->Nat->Int) (e:Int) (r c:Nat):Nat->Nat->Int:=fun i j=>if i=r then L r j else elq L e r c i j
theorem El.exact (h:El m w c N C k p L e T d β s) (hk:k<m) (hC:C<w) {i j:Nat} (hi:i<m) (hne:i≠k) (hj:j<w) :
  e*elq L e k C i j=L i j*L k C - L i C*L k j/\elq L e k C i j=s*piv T d k C i j:=by
 have h1:=jg h.tb hk hi (Ne.symm hne) (show C<w+m by omega) (show j<w+m by omega)
 have h2:L i j*L k C - L i C*L k j=e*(s*piv T d k C i j):=by
  rw[h.le i j hi hj,h.le k C hk hC,h.le i C hi hC,h.le k j hk hj,h.de]
  have h3:=h.sne
  have h4:s*d*(s*piv T d k C i j)=s*s*(d*piv T d k C i j):=by grind
  rw[h4,h1,h3]
  have h5:s*T i j*(s*T k C) - s*T i C*(s*T k j)=s*s*(T k C*T i j - T i C*T k j):=by grind
  rw[h5,h3]
 have h6:elq L e k C i j=s*piv T d k C i j:=by
  unfold elq
  rw[h2,Int.mul_ediv_cancel_left _ h.ene]
 exact ⟨by rw[h6,h2],h6⟩
theorem El.pivot (h:El m w c N C k p L e T d β s) (hk:k<m) (hC:C<c) (hw:c<=w) (h0:L k C≠0) :
  El m w c N (C+1) (k+1) (upd p k C) (elL L e k C) (L k C) (mF T d k C) (sg (T k C)*T k C) (upd β k C) (s*sg (T k C)):=by
 have hT:T k C≠0:=fun h1=>h0 (by rw[h.le k C hk (by omega),h1,Int.mul_zero])
 have hs1:sg (T k C)=1\/sg (T k C)= -1:=by unfold sg;split<;>omega
 refine ⟨h.tb.step hk (by omega) hT,hC,?_,fun i j hi hj=>?_,?_,hk,fun i hi=>?_,fun i j h1 h2=>?_,fun i h1 h2=>?_,fun i j h1 h2 h3=>?_⟩
 ·rcases h.s1 with h1 | h1<;>rcases hs1 with h2 | h2<;>rw[h1,h2]<;>simp
 ·have e0:s*sg (T k C)*(sg (T k C)*(if i=k then T k j else piv T d k C i j))=s*(if i=k then T k j else piv T d k C i j):=by
   have:=C6 (T k C)
   grind
  unfold mF
  rw[e0]
  unfold elL
  by_cases c:i=k
  ·rw[if_pos c,if_pos c]
   exact h.le k j hk hj
  ·rw[if_neg c,if_neg c]
   exact (h.exact hk (by omega) hi c hj).2
 ·have:=C6 (T k C)
  rw[h.le k C hk (by omega)]
  grind
 ·unfold upd
  by_cases c:i=k
  ·rw[if_pos c,if_pos c]
   exact ⟨rfl,by omega⟩
  ·rw[if_neg c,if_neg c]
   have:=h.bp i (by omega)
   exact ⟨this.1,by omega⟩
 ·unfold upd
  rw[if_neg (by omega)]
  by_cases c:j=k
  ·rw[if_pos c]
   exact (h.bp i (by omega)).2
  ·rw[if_neg c]
   exact h.inc i j h1 (by omega)
 ·unfold upd
  rw[if_neg (by omega)]
  exact h.bs i (by omega) h2
 ·unfold mF
  rw[if_neg (by omega)]
  have h4:T k C*T i j - T i C*T k j=0:=by
   by_cases c:j=C
   ·subst c
    rw[Int.mul_comm]
    omega
   ·rw[h.z i j (by omega) h2 (by omega),h.z k j (Nat.le_refl _) hk (by omega)]
    simp
  unfold piv
  rw[h4]
  simp
theorem El.bound (h:El m w c N C k p L e T d β s) (hB:ElBnd m w c N):(∀i j,i<m->j<w->(L i j).natAbs<4611686018427387904)/\e.natAbs<4611686018427387904:=by
 have hb:=hB.b T d β h.tb fun i hi=>by
  by_cases h1:i<k
  ·have:=h.bp i h1
   have:=h.cc
   exact .inl (by omega)
  ·exact .inr (h.bs i (by omega) hi)
 have key:∀x:Int,ab x<4611686018427387904->(s*x).natAbs<4611686018427387904:=fun x hx=>by
  unfold ab at hx
  rcases h.s1 with h1 | h1<;>rw[h1]<;>omega
 refine ⟨fun i j hi hj=>?_,?_⟩
 ·rw[h.le i j hi hj]
  exact key _ (hb i j hi (by omega))
 ·rw[h.de]
  refine key _ ?_
  have hm:=hB.hm
  have:=hb 0 (β 0) (by omega) (h.tb.lt 0 (by omega))
  rwa [h.tb.basis (show 0<m by omega)] at this
end
def Hh (n:Nat) (N:Nat->Nat->Int) (b:Nat->Int):Nat->Nat->Int:=fun i j=>if j<n then N i j else b i
def EqN (m n:Nat) (N:Nat->Nat->Int) (b:Nat->Int) (x:Nat->Rat):Prop:=∀i,i<m->(sq n fun j=>((N i j:Int):Rat)*x j)=((b i:Int):Rat)
section
variable {m n:Nat} {N:Nat->Nat->Int} {b:Nat->Int} {k:Nat} {p:Nat->Nat} {L:Nat->Nat->Int} {e:Int} {T:Nat->Nat->Int} {d:Int} {β:Nat->Nat} {s:Int}
theorem El.row_eq (h:El m (n+1) n (Hh n N b) n k p L e T d β s) {x:Nat->Rat} (hx:EqN m n N b x) {i:Nat} (hi:i<m):(sq n fun j=>((T i j:Int):Rat)*x j)=((T i n:Int):Rat):=by
 have hr:∀j,j<n+1+m->T i j=sz m fun q=>T i (n+1+q)*Ao (n+1) (Hh n N b) q j:=fun j hj =>
  h.tb.rows (a:=fun q=>n+1+q) (fun q hq=>by omega) (fun q hq r hr=>by
   unfold Ao
   rw[if_neg (by omega)]
   by_cases c:q=r
   ·rw[if_pos (by omega),if_pos c]
   ·rw[if_neg (by omega),if_neg c]) hi hj
 have h1:∀j,j<n->((T i j:Int):Rat)=sq m fun q=>((T i (n+1+q):Int):Rat)*((N q j:Int):Rat):=fun j hj=>by
  rw[hr j (by omega),<-r9]
  refine cU fun q _=>?_
  unfold Ao Hh
  rw[if_pos (by omega),if_pos hj,Rat.intCast_mul]
 have h2:((T i n:Int):Rat)=sq m fun q=>((T i (n+1+q):Int):Rat)*((b q:Int):Rat):=by
  rw[hr n (by omega),<-r9]
  refine cU fun q _=>?_
  unfold Ao Hh
  rw[if_pos (by omega),if_neg (by omega),Rat.intCast_mul]
 have h3:(sq n fun j=>((T i j:Int):Rat)*x j)=sq n fun j=>sq m fun q=>((T i (n+1+q):Int):Rat)*(((N q j:Int):Rat)*x j):=cU fun j hj=>by
  rw[h1 j hj,Rat.mul_comm,<-oU]
  exact cU fun q _=>by grind
 rw[h3,<-zm,h2]
 refine cU fun q hq=>?_
 rw[oU,hx q hq]
theorem El.row_val (h:El m (n+1) n (Hh n N b) n k p L e T d β s) {i:Nat} (hi:i<m):L i n=0↔T i n=0:=by
 rw[h.le i n hi (by omega)]
 rcases h.s1 with h1 | h1<;>rw[h1]<;>omega
theorem El.none (h:El m (n+1) n (Hh n N b) n k p L e T d β s) {i:Nat} (hk:k<=i) (hi:i<m) (h0:L i n≠0) (x:Nat->Rat):¬ EqN m n N b x:=fun hx=>by
 have h1:=h.row_eq hx hi
 rw[kV fun j hj=>by rw[h.z i j hk hi hj];exact Rat.zero_mul _] at h1
 exact h0 ((h.row_val hi).2 (Rat.intCast_inj.1 h1.symm))
end
def dV (s:Sy) (f:Int->Int):Sy:=(s.1.map fun b=>(b.1,f b.2),s.2)
section
variable {s:Sy} {f:Int->Int}
theorem pQ:(dV s f).1.length=s.1.length:=by unfold dV;rw[List.length_map]
theorem vW:(dV s f).1.map (·.fst)=s.1.map (·.fst):=by
 unfold dV
 rw[List.map_map]
 rfl
theorem zd {i:Nat} (h:i<s.1.length):(dV s f).1.getD i bk0=((s.1.getD i bk0).1,f (s.1.getD i bk0).2):=by
 unfold dV
 exact nk (f:=fun b:Bk=>(b.1,f b.2)) (d:=bk0) h bk0
theorem x9 (n:ByteArray):∀(l:List Bk) (i:Int),iI (fun b:Bk=>decide (b.1=n)) (l.map fun b=>(b.1,f b.2)) i=iI (fun b:Bk=>decide (b.1=n)) l i
 | [],_=>rfl
 | b ::l,i=>by
  simp only[List.map_cons,iI]
  rw[x9 n l (i+1)]
theorem MC (n:ByteArray):fbI (dV s f) n=fbI s n:=x9 n s.1 0
theorem Gv (h:Hd) (e:Bool):kn (dV s f) h e=kn s h e:=by
 unfold kn
 rw[MC]
theorem Hf (r:Rp):oI (dV s f) r=oI s r:=by
 unfold oI
 simp only[Gv]
theorem CM (i:Nat):gB (dV s f) i=gB s i:=by
 unfold gB
 rw[vW,Hf]
 rfl
theorem Eu {i:Nat} (h:i<s.1.length) (hf:0<=f (s.1.getD i bk0).2/\f (s.1.getD i bk0).2<=16777216) (hb:lW s i=true):lW (dV s f) i=true:=by
 unfold lW nX at hb ⊢
 rw[vW,zd h]
 simp only[z10] at hb ⊢
 exact ⟨hb.1,hb.2.1,z7 hf.1,z7 hf.2⟩
theorem Dh (hv:fe s=true) (hf:∀i,i<s.1.length->0<=f (bwS s i)/\f (bwS s i)<=16777216):fe (dV s f)=true:=by
 unfold fe at hv ⊢
 rw[z10,z10,z10,List.all_eq_true,List.all_eq_true] at hv ⊢
 obtain ⟨h1,h2,h3,h4⟩:=hv
 refine ⟨by rw[pQ];exact h1,fun i hi=>?_,fun i hi=>?_,h4⟩
 ·rw[pQ] at hi
  obtain ⟨k,hk,rfl⟩:=List.mem_range'.1 hi
  exact Eu (by omega) (hf _ (by omega)) (h2 _ hi)
 ·rw[CM]
  exact h3 i hi
theorem Mm {i:Nat} (h:i<s.1.length):bnS (dV s f) i=bnS s i:=by unfold bnS;rw[zd h]
theorem EL {i:Nat} (h:i<s.1.length):bwS (dV s f) i=f (bwS s i):=by
 show ((dV s f).1.getD i bk0).2=_
 rw[zd h]
 rfl
theorem Af {i:Nat} (h:i<s.1.length) (k:Nat):Mx (dV s f) i k=Mx s i k:=by
 unfold Mx
 rw[Mm h]
 rfl
theorem EW {x:Nat->Rat}:EqS (dV s f) x↔∀i,i<s.1.length->(sq s.2.length fun j=>((Mx s i j:Int):Rat)*x j)=((f (bwS s i):Int):Rat):=by
 unfold EqS
 rw[pQ]
 constructor
 ·intro h i hi
  have h1:=h i hi
  rw[EL hi] at h1
  rw[<-h1]
  exact cU fun j _=>by rw[Af hi]
 ·intro h i hi
  rw[EL hi,<-h i hi]
  exact cU fun j _=>by rw[Af hi]
theorem AW {x:Nat->Rat}:EqS (dV s fun w=>w*2) x↔EqS s fun j=>x j / 2:=by
 rw[EW]
 have e:∀i,(sq s.2.length fun j=>((Mx s i j:Int):Rat)*(x j / 2))=(1 / 2)*sq s.2.length fun j=>((Mx s i j:Int):Rat)*x j:=fun i=>by
  rw[<-oU]
  exact cU fun j _=>by grind
 have c:∀i,((bwS s i*2:Int):Rat)=2*((bwS s i:Int):Rat):=fun i=>by
  rw[Rat.intCast_mul]
  have:((2:Int):Rat)=2:=rfl
  rw[this]
  grind
 constructor
 ·intro h i hi
  have h1:=h i hi
  rw[e,h1]
  show (1:Rat) / 2*((bwS s i*2:Int):Rat)=_
  rw[c]
  grind
 ·intro h i hi
  have h1:=h i hi
  rw[e] at h1
  show _=((bwS s i*2:Int):Rat)
  rw[c,<-h1]
  grind
open Tryz Dn Dn.Sh
set_option maxRecDepth 100000
def w31:WCtr:=⟨[T25],66,T66,.sl T75,fun x=>cW x.1⟩
theorem Ut (lp:Lp) (jn:Jn):∀(x:TsS w31.as),nM lp jn x.1=Qc lp jn (cx [] [(134,bF)]) ao 4 31 f31 w31 x:=fun x=>by kernel_rfl
theorem QL:w31.ok prog 31:=WCtr.of_den (au (bQ)) aW (hl:=ao) (d:=4) func31 rfl (by decide) (Ut lpK jnK)
def NB:Nat->Option Hd
 | 7=>some ⟨[(39,false,[.d i64])],[],[(3,some 0,.row 66 T66),(4,some 0,.row 66 T66)]⟩
 | _=>none
def NA:Nat->List Nat
 | 2000012=>[3,4]
 | _=>[]
def FB:FuncId->Hint
 | 5=>{loop:=NB,join:=IA,thaw:=NA}
 | n=>ao n
def iE (lp:Lp) (jn:Jn) (aj:t32) (ba:t35) (aE:t19) (aF:t21) (aK:t9) (a7:t10) (bh:t13) (bi:t27) (aR:t29) (cW:t31) (bm:t33) (x0:(List (ByteArray×Int))×List (ByteArray×(List (ByteArray×Int×Int×Int))×Bool)):Option Bool :=
 aa aK fun (t:Bool)=>bif !t then some false else aa (a7 x0 []) fun (t:Bool) =>
 let v16:Bool:=!t;
 let v17:Bool:=!v16;
 let v18:Bool:=!v17||v17;bif v18 then aa (bif v17 then bh x0 else some false) fun (t:Bool)=>bif v18 then bif v16||v17 then bif bif v16 then true else !t then some true else aa (cW x0) fun (t:List (ByteArray×Int)×List (ByteArray×List (ByteArray×Int×Int×Int)×Bool))=>aa (cW x0) fun (t_1:List (ByteArray × Int)×List (ByteArray×List (ByteArray×Int×Int×Int)×Bool))=>lp (Int×List (ByteArray×Int)×List (ByteArray×Int)×PUnit) Bool (fun (again:Int×List (ByteArray × Int)×List (ByteArray×Int)×PUnit->Option Bool) (x:Int×List (ByteArray×Int)×List (ByteArray×Int)×PUnit) =>
 let v24:Bool:=inB x.1 x.2.2.1.length;
 let v25:Bool:=Nat.ble (Nat.succ x.1.toNat) x.2.2.1.length;
 let v26:ByteArray×Int:=x.2.2.1.getD x.1.toNat ({ data:={ toList:=[] } },(0:Int));
 let v27:List (ByteArray×Int)×List (ByteArray×List (ByteArray×Int×Int×Int)×Bool):=(x.2.2.1,t_1.2);bif decide (x.1<(↑x0.1.length:Int)) then bif inB x.1 x.2.1.length then bif Nat.ble (Nat.succ x.1.toNat) x.2.1.length then bif v24 then bif v25 then bif v24 then bif v25 then again (IntKind.wrap IntKind.i64 (x.1+(1:Int)),x.2.1.set x.1.toNat ((x.2.1.getD x.1.toNat ({ data:={ toList:=[] } },(0:Int))).1,(0:Int)),x.2.2.1.set x.1.toNat (v26.1,IntKind.wrap .i64 (v26.2*(2:Int))),PUnit.unit) else none else none else none else none else none else none else aa (aE (x.2.1,t.2)) fun (t:List (Int×Int)×Int×PUnit) =>
 let v29:Bool:=!decide (t.2.1=(0:Int));
 let v30:Bool:=!v29;
 let v31:Bool:=!v30||v30;
 let v32:Bool:=bif v29 then true else !decide ((↑t.1.length:Int)=(↑x0.2.length:Int));
 let v33:Bool:=!v32;jn PUnit Bool (fun (_:PUnit)=>aa (aE x0) fun (t:List (Int×Int)×Int×PUnit) =>
 let v36:Bool:=decide (t.2.1=(5:Int));
 let v37:Bool:=!v36;
 let v38:Bool:=!decide (t.2.1=(0:Int));
 let v39:Bool:=!v38;aa (aE v27) fun (t_2:List (Int×Int)×Int×PUnit) =>
 let v41:Bool:=bif v36 then true else decide (t_2.2.1=(5:Int));
 let v42:Bool:=!v41;
 let v43:Bool:=decide (t.2.1=t_2.2.1);
 let v44:Bool:=!v43||v43;bif !v37||v37 then bif v36||v37 then bif !v42||v42 then bif v41||v42 then bif bif v41 then true else decide (t_2.2.1=(1:Int)) then some true else bif !v39||v39 then bif v38||v39 then bif bif v38 then true else !decide (t_2.2.1=(0:Int)) then bif v44 then bif v44 then some (bif v43 then decide (t.2.1=(22 : Int)) else false) else none else none else aa (bi t.1) fun (t:(Int×Int)×Int×PUnit) =>
 let v46:Bool:=!decide (t.2.1=(0:Int));
 let v47:Bool:=!v46;aa (bi t_2.1) fun (t_3:(Int×Int)×Int×PUnit) =>
 let v49:Bool:=bif v46 then true else !decide (t_3.2.1=(0:Int));
 let v50:Bool:=!v49;aa (ba t.1 t.1) fun (t:(Int×Int)×Int×PUnit) =>
 let v52:Bool:=bif v49 then true else !decide (t.2.1=(0:Int));
 let v53:Bool:=!v52;
 let v54:Bool:=!v53||v53;bif !v47||v47 then bif v46||v47 then bif !v50||v50 then bif v49||v50 then bif v54&&v54 then bif v52||v53 then bif bif v52 then true else !(decide (t_3.1.1=t.1.1)&&(decide (t_3.1.2=t.1.2)&&true)) then some false else aa (aF x0) fun (t:List ByteArray×Int×PUnit) =>
 let v56:Bool:=!decide (t.2.1=(0:Int));
 let v57:Bool:=!v56;aa (aF v27) fun (t_4:List ByteArray×Int×PUnit) =>
 let v59:Bool:=bif v56 then true else !decide (t_4.2.1=(0:Int));
 let v60:Bool:=!v59;
 let v61:Bool:=!v60||v60;bif !v57||v57 then bif v56||v57 then bif v61&&v61 then aa (bif v60 then aR t.1 t_4.1 else some false) fun (t:Bool)=>bif v59 || v60 then some (bif v59 then true else t) else none else none else none else none else none else none else none else none else none else none else none else none else none else none else none else none) fun (j:PUnit->Option Bool)=>bif !decide (t.2.1=(5:Int)) then bif v31 then bif v31 then bif v31 then bif v31&&v31 then bif v29||v30 then bif !v33||v33 then aa (bif v33 then aj t.1 fun (x:(Int×Int)×PUnit)=>bm x.1 else some false) fun (t:Bool)=>bif v32||v33 then bif bif v32 then true else t then some false else j PUnit.unit else none else none else none else none else none else none else none else j PUnit.unit) ((0:Int),t.1,t_1.1,PUnit.unit) else none else none else none
def jj (x0:(List (ByteArray×Int))×List (ByteArray×(List (ByteArray×Int×Int×Int))×Bool)):Option Bool:=iE lpK jnK aj ba aE aF aK a7 bh bi aR cW bm x0
def c5w:Ctr:=⟨[T25],[],[],.one .bool,fun x _ _=>jj x.1⟩
theorem e5w (lp:Lp) (jn:Jn) (aj:t32) (ba:t35) (aE:t19) (aF:t21) (aK:t9) (a7:t10) (bh:t13) (bi:t27) (aR:t29) (cW:t31) (bm:t33):∀(x:TsS c5w.as) (F:TsF c5w.fs) (y:TsS c5w.cs),iE lp jn aj ba aE aF aK a7 bh bi aR cW bm x.1=cb lp jn (Qx [(31,⟨[T25],66,T66,.sl T75,fun x=>cW x.1⟩)] (cx [(33,⟨[T49],[],[],.one .bool,fun x _ _=>bm x.1⟩),(29,k29 aR),(27,k27 bi),(13,k13 bh),(10,k10 a7),(9,k9 aK),(21,k21 aF),(19,k19 aE),(35,k35 ba),(32,k32 aj)] [(134,bF)])) FB 4 5 f5 c5w x F y:=fun x F y=>by kernel_rfl
theorem TC:c5w.ok prog 5:=Ctr.of_den (Om (au (ai (ai (ai (ai (ai (ai (ai (ai (ai (ai (bQ) (by kernel_rfl) O0) (by kernel_rfl) PV) (by kernel_rfl) Q6) (by kernel_rfl) R7) (by kernel_rfl) ok9) (by kernel_rfl) SY) (by kernel_rfl) SX) (by kernel_rfl) Um) (by kernel_rfl) Uc) (by kernel_rfl) SU)) (Gb (by kernel_rfl) QL K6)) aW (hl:=FB) (d:=4) func5 rfl (by decide) (e5w lpK jnK aj ba aE aF aK a7 bh bi aR cW bm)
end
end Go.Proofs.YtfknoaclabfdlaaGreat

namespace Go.Proofs.YtfknoaclabfdlaaGreat
open Tryz Dn Dn.Sh
theorem J3 {s:Sy} (hv:ValidS s):cW s=some s:=by
 have hb:=hv.bl
 have hr:=hv.rl
 simp only[cW,nM,fM (show (0+s.1.length)*24<=140737488355328 by omega),cT]
 refine (cM s.2.length (by omega) (fun i=>((i:Int),s.1,s.2.take i,PUnit.unit)) (some (s.1,s.2.take s.2.length)) rfl (fun again i hi=>?_) (fun again=>?_)).trans ?_
 ·have hh:=hv.hl i hi
  unfold hsS at hh
  have hl:(s.2.take i).length<=6:=by rw[List.length_take];omega
  simp only[z7 (show (i:Int)<s.2.length by omega),bo,z7 hi,cT,z9,eq (show i<=1000000 by omega)]
  rw[show List.getD s.2 i ({ data:={ toList:=[] } },[],false)=s.2.getD i rp0 from rfl,fM (show (0+(s.2.getD i rp0).2.1.length)*40<=140737488355328 by omega),cT,fM (show ((s.2.take i).length+1)*48<=140737488355328 by omega),cT,
   show s.2.take i++s.2.getD i rp0 ::[]=s.2.take (i+1) from tn rp0 hi]
 ·simp only[z8 (show ¬ (s.2.length:Int)<s.2.length by omega),cF]
 ·rw[List.take_length]
def sA (f:Int->Int) (i:Nat) (l:List Bk):List Bk:=bV l.length fun k=>if k<i then ((l.getD k bk0).1,f (l.getD k bk0).2) else l.getD k bk0
theorem Lm {f:Int->Int} {i:Nat} {l:List Bk}:(sA f i l).length=l.length:=bf
theorem BF {f:Int->Int} {i:Nat} {l:List Bk} (h:i<l.length):(sA f i l).getD i bk0=l.getD i bk0:=by
 unfold sA
 rw[bM h,if_neg (Nat.lt_irrefl i)]
theorem AH {f:Int->Int} {i:Nat} {l:List Bk} (h:i<l.length):(sA f i l).set i ((l.getD i bk0).1,f (l.getD i bk0).2)=sA f (i+1) l:=by
 unfold sA
 rw[iJ h]
 refine cR fun k hk=>?_
 by_cases c:k=i
 ·subst c
  rw[if_pos rfl,if_pos (by omega)]
 ·rw[if_neg c]
  by_cases c2:k<i
  ·rw[if_pos c2,if_pos (by omega)]
  ·rw[if_neg c2,if_neg (by omega)]
theorem yq {f:Int->Int} {l:List Bk}:l=sA f 0 l:=by
 unfold sA
 refine List.ext_getElem bf.symm fun i h1 h2=>?_
 rw[qq,if_neg (by omega),bG h1]
theorem Iz {f:Int->Int} {l:List Bk}:sA f l.length l=l.map fun b=>(b.1,f b.2):=by
 unfold sA
 refine List.ext_getElem (by rw[bf,List.length_map]) fun i h1 h2=>?_
 have h3:i<l.length:=by rw[bf] at h1;exact h1
 rw[qq,if_pos h3,bG h3,List.getElem_map]
section
variable {s:Sy} {c:List Int}
theorem FM {L:Lin} {t:Rat} {x:Nat->Rat}:L.val (fun j=>t*x j)=t*L.val x:=by
 unfold Lin.val
 rw[<-oU]
 exact cU fun j _=>by grind
theorem Cf (hc:c.length=s.2.length) {x:Nat->Rat} (h:(ap (cf s c)).Feas x):(ap (cf (dV s fun w=>w*2) c)).Feas fun j=>2*x j:=by
 obtain ⟨h1,h2⟩:=(gN hc).1 h
 refine (gN (s:=dV s fun w=>w*2) hc).2 ⟨fun j hj=>?_,AW.2 ?_⟩
 ·have:=h1 j hj
  grind
 ·have e:(fun j=>2*x j / 2)=x:=by
   funext j
   grind
  rw[e]
  exact h2
theorem yA (hc:c.length=s.2.length) {x:Nat->Rat} (h:(ap (cf (dV s fun w=>w*2) c)).Feas x):(ap (cf s c)).Feas fun j=>(1 / 2)*x j:=by
 obtain ⟨h1,h2⟩:=(gN (s:=dV s fun w=>w*2) hc).1 h
 refine (gN hc).2 ⟨fun j hj=>?_,?_⟩
 ·have:=h1 j hj
  grind
 ·have e:(fun j=>1 / 2*x j)=fun j=>x j / 2:=by
   funext j
   grind
  rw[e]
  exact AW.1 h2
theorem BS (hc:c.length=s.2.length) {r:Nat->Rat}:(ap (cf s c)).Ray r↔(∀j,j<s.2.length->0<=r j)/\(∀i,i<s.1.length->(sq s.2.length fun j=>((Mx s i j:Int):Rat)*r j)=0)/\(ap (cf s c)).val r<0:=by
 rw[vi s c hc]
 have er:∀i,i<s.1.length->(⟨s.2.length,s.1.length,fun k j=>((bV s.1.length (jc s)).getD k rw0).1.getD j 0,fun k=>((bV s.1.length (jc s)).getD k rw0).2.2,fun j=>c.getD j 0,fun k=>((bV s.1.length (jc s)).getD k rw0).2.1⟩:Lin).row r i=sq s.2.length fun j=>((Mx s i j:Int):Rat)*r j:=fun i hi=>by
  unfold Lin.row
  refine cU fun j hj=>?_
  simp only[bM hi,jc,bM hj]
 have hk:∀i,i<s.1.length->((bV s.1.length (jc s)).getD i rw0).2.1=3:=fun i hi=>by rw[bM hi];rfl
 constructor
 ·rintro ⟨h1,h2,h3,h4⟩
  refine ⟨h1,fun i hi=>?_,h4⟩
  have a1:=h2 i hi (by simp only[hk i hi];omega)
  have a2:=h3 i hi (by simp only[hk i hi];omega)
  rw[er i hi] at a1 a2
  exact Rat.le_antisymm a1 a2
 ·rintro ⟨h1,h2,h4⟩
  refine ⟨h1,fun i hi _=>?_,fun i hi _=>?_,h4⟩
  ·rw[er i hi,h2 i hi]
   exact Rat.le_refl
  ·rw[er i hi,h2 i hi]
   exact Rat.le_refl
theorem CP {f:Int->Int} (hc:c.length=s.2.length) {r:Nat->Rat}:(ap (cf (dV s f) c)).Ray r↔(ap (cf s c)).Ray r:=by
 rw[BS hc,BS (s:=dV s f) hc]
 have e:∀i,i<s.1.length->(sq (dV s f).2.length fun j=>((Mx (dV s f) i j:Int):Rat)*r j)=sq s.2.length fun j=>((Mx s i j:Int):Rat)*r j:=fun i hi=>cU fun j _=>by rw[Af hi]
 constructor
 ·rintro ⟨h1,h2,h3⟩
  exact ⟨h1,fun i hi=>by rw[<-e i hi];exact h2 i (by rw[pQ];exact hi),h3⟩
 ·rintro ⟨h1,h2,h3⟩
  refine ⟨h1,fun i hi=>?_,h3⟩
  rw[pQ] at hi
  rw[e i hi]
  exact h2 i hi
theorem xS (hc:c.length=s.2.length) {x x' y y':Nat->Rat} (hx:(ap (cf s c)).Feas x) (hy:(ap (cf s c)).Dual y) (hv:(ap (cf s c)).rhs y=(ap (cf s c)).val x)
  (hx':(ap (cf (dV s fun w=>w*2) c)).Feas x') (hy':(ap (cf (dV s fun w=>w*2) c)).Dual y') (hv':(ap (cf (dV s fun w=>w*2) c)).rhs y'=(ap (cf (dV s fun w=>w*2) c)).val x') :
  (ap (cf (dV s fun w=>w*2) c)).val x'=2*(ap (cf s c)).val x:=by
 have h1:=Lin.weak (Cf hc hx) hy'
 have h2:=Lin.weak (yA hc hx') hy
 have e:∀z,(ap (cf (dV s fun w=>w*2) c)).val z=(ap (cf s c)).val z:=fun z=>rfl
 rw[hv',e,e,FM] at h1
 rw[hv,FM] at h2
 rw[e]
 grind
theorem uq {f:Int->Int} {z:Nat->Bool}:∀k,iB (dV s f) z k=iB s z k
 | 0=>rfl
 | k+1=>by
  simp only[iB]
  rw[uq k]
  rfl
end
theorem IK (a b:Fq):(decide (a.1=b.1)&&decide (a.2=b.2))=decide (a=b):=by
 rw[<-Ft,Bool.and_true]
theorem O2 (n:Int):bB n=some (n,1):=id rfl
theorem Dk (s:Sy):jj s=some true:=by
 have hi:∀e0:Bool,(!e0||e0)=true:=fun e0=>by cases e0<;>rfl
 have hj:∀e0:Bool,(e0||!e0)=true:=fun e0=>by cases e0<;>rfl
 simp only[jj,iE,GN,Qa,af,Bool.not_true,cF,List.length_nil,z7 (show 0<=10 by omega),Bool.and_true,HI,sJ]
 cases hs:nY s with
 | false=>rfl
 | true =>
  have hl:=DJ hs
  cases hv:fe s with
  | false=>rfl
  | true =>
   have hV:=gJ hv
   have hb:=hV.bl
   have hr:=hV.rl
   simp only[J3 hV,af,Bool.not_true,Bool.not_false,Bool.or_true,cT,cF]
   refine cM s.1.length (by omega) (fun i=>((i:Int),sA (fun _=>0) i s.1,sA (fun w=>w*2) i s.1,PUnit.unit)) _ (by rw[<-yq,<-yq];rfl) (fun again i hi=>?_) (fun again=>?_)
   ·have hw:=hV.wt i hi
    have hwi:0<=(s.1.getD i bk0).2/\(s.1.getD i bk0).2<=16777216:=hw
    simp only[Lm,bo,z9,z7 (show (i:Int)<s.1.length by omega),z7 hi,di (show Nat.succ i<=s.1.length from hi),cT,eq (show i<=1000000 by omega),
     show List.getD (sA (fun _=>0) i s.1) i ({ data:={ toList:=[] } },(0:Int))=s.1.getD i bk0 from BF hi,show List.getD (sA (fun w=>w*2) i s.1) i ({ data:={ toList:=[] } },(0:Int))=s.1.getD i bk0 from BF hi,
     be (show -9223372036854775808<=(s.1.getD i bk0).2*2 by omega) (by omega)]
    rw[AH (f:=fun _=>0) hi,AH (f:=fun w=>w*2) hi]
   ·simp only[z8 (show ¬ (s.1.length:Int)<s.1.length by omega),cF,Iz]
    rw[show (s.1.map fun b=>(b.1,(0:Int)),s.2)=dV s fun _=>0 from rfl,show (s.1.map fun b=>(b.1,b.2*2),s.2)=dV s fun w=>w*2 from rfl]
    have hvN:fe (dV s fun _=>0)=true:=Dh hv fun i _=>by omega
    have hVN:=gJ hvN
    obtain ⟨an,en,n1,n2⟩:=zn (wE hVN)
    have hF0:(ap (cf (dV s fun _=>0) (gH (dV s fun _=>0)))).Feas fun _=>0:=(gN eN).2 ⟨fun _ _=>Rat.le_refl,EW.2 fun i _=>kV fun j _=>Rat.mul_zero _⟩
    rw[vZ hvN n1,af]
    have hN:∀(o:Option Bool),(en=5->(o=some true))->((en=0/\an.2.1.length=s.2.length/\aj an.2.1 (fun x=>bm x.1)=some false)->o=some true)->o=some true:=fun o h5 h0=>by
     rcases n2 with ⟨h,_⟩ | ⟨_,_,_,y,hy⟩ | ⟨_,_,_,_,r,hr1⟩ | ⟨h,_,v,h1,_,hlen,hok,_,_,hx,⟨y,hy,hyv⟩,hval⟩
     ·exact h5 h
     ·exact (hy.none hF0).elim
     ·exact (nO hr1).elim
     ·have hlen':an.2.1.length=s.2.length:=hlen.trans eN
      refine h0 ⟨h,hlen',?_⟩
      have h3:=Lin.weak hF0 hy
      rw[hyv,<-hval,se,se,kV fun _ _=>rfl] at h3
      obtain ⟨hp,_⟩:=(gN eN).1 hx
      have hz:∀j,j<an.2.1.length->vX an.2.1 j=0:=fun j hj=>by
       have hj':j<s.2.length:=by omega
       have h4:vX an.2.1 j<=sq s.2.length (vX an.2.1):=by
        have h5:=vr (n:=s.2.length) (f:=fun i=>if i=j then vX an.2.1 j else 0) (g:=vX an.2.1) fun i hi=>by
         by_cases c:i=j
         ·rw[if_pos c,c];exact Rat.le_refl
         ·rw[if_neg c];exact hp i hi
        rw[Fg hj' (f:=fun i=>if i=j then vX an.2.1 j else 0) fun i _ hne=>if_neg hne,if_pos rfl] at h5
        exact h5
       exact Rat.le_antisymm (Rat.le_trans h4 h3) (hp j hj')
      rw[OS (p:=fun a=>!decide (a=(0,1))) (by omega) fun a _=>by
       simp only[bm,im,O2,af,Ft]]
      congr 1
      rw[List.any_eq_false]
      intro a ha
      obtain ⟨j,hj,he⟩:=List.mem_iff_getElem.1 ha
      have h6:=hz j hj
      unfold vX at h6
      rw[bG hj,he] at h6
      have h7:a=(0,1):=OZ (hok a ha) (by decide) (by rw[h6];rfl)
      rw[h7]
      simp
    obtain ⟨a,e,h1,h2⟩:=zn (wE hV)
    have main:(aa (aE s) fun (t:List (Int×Int)×Int×PUnit)=>aa (aE (dV s fun w=>w*2)) fun (t_2:List (Int×Int)×Int×PUnit) =>
      bif bif bif decide (t.2.1=5) then true else decide (t_2.2.1=5) then true else decide (t_2.2.1=1) then some true
      else bif bif !decide (t.2.1=0) then true else !decide (t_2.2.1=0) then some (bif decide (t.2.1=t_2.2.1) then decide (t.2.1=22) else false)
      else aa (bi t.1) fun (q:(Int×Int)×Int×PUnit)=>aa (bi t_2.1) fun (q_3:(Int×Int)×Int×PUnit)=>aa (ba q.1 q.1) fun (q_4:(Int×Int)×Int×PUnit) =>
       bif bif bif bif !decide (q.2.1=0) then true else !decide (q_3.2.1=0) then true else !decide (q_4.2.1=0) then true else !decide (q_3.1=q_4.1) then some false
       else aa (aF s) fun (m:List ByteArray×Int×PUnit)=>aa (aF (dV s fun w=>w*2)) fun (m_4:List ByteArray×Int×PUnit) =>
        aa (bif !(bif !decide (m.2.1=0) then true else !decide (m_4.2.1=0)) then aR m.1 m_4.1 else some false) fun (t:Bool) =>
         some (bif (bif !decide (m.2.1=0) then true else !decide (m_4.2.1=0)) then true else t))=some true:=by
     rw[vZ hv h1,af]
     cases hvT:fe (dV s fun w=>w*2) with
     | false =>
      rw[Gx hvT (show (dV s fun w=>w*2).2.length<=1000000 by show s.2.length<=1000000;omega),af]
      generalize decide (e=5)=c5
      cases c5<;>rfl
     | true =>
      have hVT:=gJ hvT
      obtain ⟨b,f,t1,t2⟩:=zn (wE hVT)
      rw[vZ hvT t1,af]
      have hones:gH (dV s fun w=>w*2)=gH s:=rfl
      rw[hones] at t2
      rcases h2 with ⟨rfl,_⟩ | ⟨rfl,rfl,_,y,hy⟩ | ⟨_,_,_,_,r,hr1⟩ | ⟨rfl,_,v,hv1,hfv,hlen,hok,_,hsum,hx,⟨y,hy,hyv⟩,hval⟩
      ·rfl
      ·rcases t2 with ⟨rfl,_⟩ | ⟨rfl,rfl,_⟩ | ⟨_,_,_,_,r,hr1⟩ | ⟨_,_,v',_,_,_,_,_,_,hx',_⟩
       ·rfl
       ·rfl
       ·exact (nO (s:=dV s fun w=>w*2) hr1).elim
       ·exact (hy.none (yA eN hx')).elim
      ·exact (nO hr1).elim
      ·rcases t2 with ⟨rfl,_⟩ | ⟨_,_,_,y',hy'⟩ | ⟨_,_,_,_,r,hr1⟩ | ⟨rfl,_,v',hv1',hfv',hlen',hok',_,hsum',hx',⟨y',hy',hyv'⟩,hval'⟩
       ·rfl
       ·exact (hy'.none (Cf eN hx)).elim
       ·exact (nO (s:=dV s fun w=>w*2) hr1).elim
       ·have hvv:v'=2*v:=by
         rw[<-hval',<-hval]
         exact xS eN hx hy (by rw[hyv,hval]) hx' hy' (by rw[hyv',hval'])
        have hla:a.2.1.length=s.2.length:=hlen.trans eN
        have hlb:b.2.1.length=s.2.length:=hlen'.trans eN
        have hS:∀{x:List Fq},x.length=s.2.length->(∀z ∈ x,okF z)->(jy (gH s) x 0).isSome=true->∃q,q=sq x.length (vX x)/\fm q/\bi x=some (prQ q,0,()):=fun {x} hxl hxo hxs=>by
         rcases Eg (x:=x) (by omega) hxo with h | ⟨q,f1,f2,f3⟩
         ·exfalso
          rw[EP (by omega) hxo] at h
          have:gH s=List.replicate x.length 1:=by rw[hxl];rfl
          rw[this] at hxs
          cases hc:jy (List.replicate x.length 1) x 0 with
          | none=>rw[hc] at hxs;cases hxs
          | some q=>rw[hc] at h;simp[O6] at h
         ·exact ⟨q,f2,f1,f3⟩
        obtain ⟨q1,e1,f1,s1⟩:=hS hla hok hsum
        obtain ⟨q2,e2,f2,s2⟩:=hS hlb hok' hsum'
        have hq1:q1=v:=by
         rw[e1,hla,<-se,hval]
        have hq2:q2=v':=by
         rw[e2,hlb,<-se]
         exact hval'
        have hA:=Kj (vg f1) (vg f1)
        rw[Ae] at hA
        have hqq:q1+q1=q2:=by rw[hq1,hq2,hvv];grind
        rw[hqq] at hA
        have hA':ba (prQ q1) (prQ q1)=some (prQ q2,0,()):=by
         rw[hA]
         unfold uK
         rw[if_pos f2]
        obtain ⟨A,E,hAE⟩:=OM (P:=fun k=>cf s (fG s k (-1))) (n:=s.2.length) fun k _=>A2 hV (by rfl)
        obtain ⟨B,G,hBG⟩:=OM (P:=fun k=>cf (dV s fun w=>w*2) (fG s k (-1))) (n:=s.2.length) fun k _=>A2 (s:=dV s fun w=>w*2) hVT (by rfl)
        have feasO:∀c:List Int,c.length=s.2.length->(ap (cf s c)).Feas (vX a.2.1):=fun c hc=>(gN hc).2 ((gN eN).1 hx)
        have feasT:∀c:List Int,c.length=s.2.length->(ap (cf (dV s fun w=>w*2) c)).Feas (vX b.2.1):=fun c hc=>(gN (s:=dV s fun w=>w*2) hc).2 ((gN (s:=dV s fun w=>w*2) eN).1 hx')
        have fin:∀(m n:List ByteArray) (j k:Int),(j=0->k=0->m=n/\m.length<=6)->(aa (bif !(bif !decide (j=0) then true else !decide (k=0)) then aR m n else some false) fun (t:Bool)=>some (bif (bif !decide (j=0) then true else !decide (k=0)) then true else t))=some true:=fun m n j k h=>by
         by_cases c1:j=0
         ·by_cases c2:k=0
          ·obtain ⟨rfl,h4⟩:=h c1 c2
           rw[z7 c1,z7 c2]
           simp only[Bool.not_true,cF,Bool.not_false,cT,Nc m m (by omega),decide_true,af]
          ·rw[z7 c1,z8 c2];rfl
         ·rw[z8 c1];rfl
        have hslS:∃m j,aF s=some (m,j,())/\(j=0->(∀k,k<s.2.length->E k=0\/E k=21)/\m=iB s (fun k=>decide (E k=0)&&decide ((A k).1.1=0)) s.2.length):=by
         have hcase:∀k,k<s.2.length->(E k=0\/E k=21)\/(E k=5/\¬ fN (ap (cf s (fG s k (-1))))):=fun k hk=>by
          rcases (hAE k hk).2 with ⟨h,_,h'⟩ | ⟨_,_,_,y1,hy1⟩ | ⟨h,_⟩ | ⟨h,_⟩
          ·exact .inr ⟨h,h'⟩
          ·exact (hy1.none (feasO _ gj)).elim
          ·exact .inl (.inr h)
          ·exact .inl (.inl h)
         have hfit:∀k,k<s.2.length->(fN (ap (cf s (fG s 0 (-1))))↔fN (ap (cf s (fG s k (-1))))):=fun k hk =>
          Cx (c:=fG s 0 (-1)) (c':=fG s k (-1)) gj gj (by rw[sS (by omega) rfl,sS hk rfl])
         by_cases hfo:fN (ap (cf s (fG s 0 (-1))))
         ·have hall:∀k,k<s.2.length->E k=0\/E k=21:=fun k hk=>by
           rcases hcase k hk with h | ⟨_,h⟩
           ·exact h
           ·exact (h ((hfit k hk).1 hfo)).elim
          exact ⟨_,_,yn hv (fun k hk=>(hAE k hk).1) hall,fun _=>⟨hall,rfl⟩⟩
         ·have hall:∀k,k<s.2.length->E k=5:=fun k hk=>by
           have hfk:¬ fN (ap (cf s (fG s k (-1)))):=fun h=>hfo ((hfit k hk).2 h)
           rcases (hAE k hk).2 with ⟨h,_⟩ | ⟨_,_,h,_⟩ | ⟨_,_,h,_⟩ | ⟨_,h,_⟩
           ·exact h
           ·exact (hfk h).elim
           ·exact (hfk h).elim
           ·exact (hfk h).elim
          exact ⟨_,_,wm hv (e:=5) (by omega) (A:=A) (fun k hk=>by rw[(hAE k hk).1,hall k hk]),fun h=>by omega⟩
        have hslT:∃m j,aF (dV s fun w=>w*2)=some (m,j,())/\(j=0->(∀k,k<s.2.length->G k=0\/G k=21)/\m=iB s (fun k=>decide (G k=0)&&decide ((B k).1.1=0)) s.2.length):=by
         have hcase:∀k,k<s.2.length->(G k=0\/G k=21)\/(G k=5/\¬ fN (ap (cf (dV s fun w=>w*2) (fG s k (-1))))):=fun k hk=>by
          rcases (hBG k hk).2 with ⟨h,_,h'⟩ | ⟨_,_,_,y1,hy1⟩ | ⟨h,_⟩ | ⟨h,_⟩
          ·exact .inr ⟨h,h'⟩
          ·exact (hy1.none (feasT _ gj)).elim
          ·exact .inl (.inr h)
          ·exact .inl (.inl h)
         have hfit:∀k,k<s.2.length->(fN (ap (cf (dV s fun w=>w*2) (fG s 0 (-1))))↔fN (ap (cf (dV s fun w=>w*2) (fG s k (-1))))):=fun k hk =>
          Cx (s:=dV s fun w=>w*2) (c:=fG s 0 (-1)) (c':=fG s k (-1)) gj gj (by
           have e0:=sS (s:=dV s fun w=>w*2) (k:=0) (c:= -1) (show 0<s.2.length by omega) rfl
           have e1:=sS (s:=dV s fun w=>w*2) (k:=k) (c:= -1) hk rfl
           exact e0.trans e1.symm)
         by_cases hfo:fN (ap (cf (dV s fun w=>w*2) (fG s 0 (-1))))
         ·have hall:∀k,k<s.2.length->G k=0\/G k=21:=fun k hk=>by
           rcases hcase k hk with h | ⟨_,h⟩
           ·exact h
           ·exact (h ((hfit k hk).1 hfo)).elim
          refine ⟨_,_,yn hvT (A:=B) (E:=G) (fun k hk=>(hBG k hk).1) hall,fun _=>⟨hall,?_⟩⟩
          exact uq _
         ·have hall:∀k,k<s.2.length->G k=5:=fun k hk=>by
           have hfk:¬ fN (ap (cf (dV s fun w=>w*2) (fG s k (-1)))):=fun h=>hfo ((hfit k hk).2 h)
           rcases (hBG k hk).2 with ⟨h,_⟩ | ⟨_,_,h,_⟩ | ⟨_,_,h,_⟩ | ⟨_,h,_⟩
           ·exact h
           ·exact (hfk h).elim
           ·exact (hfk h).elim
           ·exact (hfk h).elim
          exact ⟨_,_,wm hvT (e:=5) (by omega) (A:=B) (fun k hk=>by rw[show cf (dV s fun w=>w*2) (fG (dV s fun w=>w*2) k (-1))=cf (dV s fun w=>w*2) (fG s k (-1)) from rfl,(hBG k hk).1,hall k hk]),fun h=>by omega⟩
        obtain ⟨m,j,hm,hm0⟩:=hslS
        obtain ⟨n,k,hn,hn0⟩:=hslT
        have hfin:=fin m n j k fun hj0 hk0=>by
         obtain ⟨hE,rfl⟩:=hm0 hj0
         obtain ⟨hG,rfl⟩:=hn0 hk0
         refine ⟨rV fun k hk=>?_,Nat.le_trans (rm _) hr.2⟩
         rcases (hAE k hk).2 with ⟨h,_⟩ | ⟨h,_⟩ | ⟨h21,_,_,_,r,hr1⟩ | ⟨hE0,_,v1,av,_,_,_,_,_,ax,⟨ay,hay,hayv⟩,aval⟩
         ·have:=hE k hk;omega
         ·have:=hE k hk;omega
         ·have hG21:G k≠0:=fun hG0=>by
           rcases (hBG k hk).2 with ⟨h,_⟩ | ⟨h,_⟩ | ⟨h,_⟩ | ⟨_,_,_,_,_,_,_,_,_,_,⟨yy,hyy,_⟩,_⟩
           ·omega
           ·omega
           ·omega
           ·exact ((CP gj).2 hr1).none hyy
          rw[h21,z8 hG21]
          rfl
         ·rcases (hBG k hk).2 with ⟨h,_⟩ | ⟨h,_⟩ | ⟨h21,_,_,_,r,hr1⟩ | ⟨hG0,_,v2,bv,_,_,_,_,_,bx,⟨by',hby,hbyv⟩,bval⟩
          ·have:=hG k hk;omega
          ·have:=hG k hk;omega
          ·exact (((CP gj).1 hr1).none hay).elim
          ·have h22:v2=2*v1:=by
            rw[<-bval,<-aval]
            exact xS gj ax hay (by rw[hayv,aval]) bx hby (by rw[hbyv,bval])
           rw[hE0,hG0,av,bv]
           congr 1
           refine decide_eq_decide.2 ?_
           rw[E7,E7,h22]
           constructor
           ·intro h;rw[h];exact Rat.mul_zero 2
           ·intro h;grind
        simp only[decide_true,Bool.not_true,cF,cT,show decide ((0:Int)=5)=false from rfl,show decide ((0:Int)=1)=false from rfl,s1,s2,hA',af,hm,hn]
        exact hfin
    simp only[hi,hj,cT,IK,Bool.not_not,Bool.and_self] at main ⊢
    refine hN _ (fun h5=>?_) (fun ⟨h0,hlen,hcf⟩=>?_)
    ·simp only[h5,decide_true,Bool.not_true,cF]
     exact main
    ·simp only[h0,decide_true,Bool.not_true,cF,cT,hlen,hcf,af,show decide ((0:Int)=5)=false from rfl,Bool.not_false]
     exact main
end Go.Proofs.YtfknoaclabfdlaaGreat
