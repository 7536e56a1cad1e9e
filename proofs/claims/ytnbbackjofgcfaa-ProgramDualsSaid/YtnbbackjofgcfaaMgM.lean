/- Linear programs over the rationals: what points and multipliers prove; and what tables of the simplex method prove. How great the numbers of a program's tables may get: the product of the rows' factors. Tables of programs: how great the numbers of the artificial columns may get. Tables of numbers as lists of rows, and loops over them. Programs: products of two numbers, their differences and quotients. Programs: a step of the table. Programs: the row that leaves, the sums of artificial rows, and the reduced costs. Programs: the sums of artificial rows, and the reduced costs. Programs: improving a table to the least value. Programs: finding a feasible basis. Programs: the first table. Programs: which programs fit. Programs: what Solve answers. Programs: what Farkas answers. The law ProgramForms. Programs: columns and right sides. Programs: the signs of multipliers. Programs: sums of columns below numbers; refutations. Programs: refutations, as the program tells them. Programs: refutations, as they are specified. Programs: refutations are the same in both programs. Programs: answers that are proved, in both programs. Programs: points, multipliers and refutations are those of the theory. Programs: the dual, as the program makes it. Programs: the dual, as the program makes it: its walk. Programs: the dual, as it is specified; the law ProgramDuals. -/
import Derived.Test.YtnbbackjofgcfaaMgL

namespace Go.Proofs.Ytnbbackjofgcfaa
namespace Dn
def sq:Nat→(Nat→Rat)→Rat
 | 0,_=>0
 | n+1,f=>sq n f+f n
theorem sq_congr:∀{n:Nat} {f g:Nat→Rat},(∀i,i<n→f i=g i)→sq n f=sq n g
 | 0,_,_,_=>rfl
 | n+1,f,g,h=>by
  simp only[sq]
  rw[sq_congr (n:=n) fun i hi=>h i (by omega),h n (by omega)]
theorem sq_add:∀{n:Nat} {f g:Nat→Rat},sq n (fun i=>f i+g i)=sq n f+sq n g
 | 0,_,_=>by simp only[sq];grind
 | n+1,f,g=>by
  simp only[sq]
  rw[sq_add]
  grind
theorem sq_mul:∀{n:Nat} {c:Rat} {f:Nat→Rat},sq n (fun i=>c*f i)=c*sq n f
 | 0,c,_=>by simp[sq]
 | n+1,c,f=>by
  simp only[sq]
  rw[sq_mul]
  grind
theorem sq_zero:∀{n:Nat} {f:Nat→Rat},(∀i,i<n→f i=0)→sq n f=0
 | 0,_,_=>rfl
 | n+1,f,h=>by
  simp only[sq]
  rw[sq_zero fun i hi=>h i (by omega),h n (by omega)]
  grind
theorem sq_le:∀{n:Nat} {f g:Nat→Rat},(∀i,i<n→f i≤g i)→sq n f≤sq n g
 | 0,_,_,_=>Rat.le_refl
 | n+1,f,g,h=>by
  simp only[sq]
  have:=sq_le (n:=n) fun i hi=>h i (by omega)
  have:=h n (by omega)
  grind
theorem sq_swap:∀{m n:Nat} {f:Nat→Nat→Rat},sq m (fun i=>sq n (fun j=>f i j))=sq n (fun j=>sq m (fun i=>f i j))
 | 0,n,f=>by
  simp only[sq]
  exact (sq_zero fun _ _=>rfl).symm
 | m+1,n,f=>by
  simp only[sq]
  rw[sq_swap,sq_add]
structure Lin where
 n:Nat
 m:Nat
 A:Nat→Nat→Int
 b:Nat→Int
 c:Nat→Int
 kd:Nat→Int
def Lin.row (L:Lin) (x:Nat→Rat) (k:Nat):Rat:=sq L.n fun j=>(L.A k j:Rat)*x j
def Lin.col (L:Lin) (y:Nat→Rat) (j:Nat):Rat:=sq L.m fun k=>(L.A k j:Rat)*y k
def Lin.val (L:Lin) (x:Nat→Rat):Rat:=sq L.n fun j=>(L.c j:Rat)*x j
def Lin.rhs (L:Lin) (y:Nat→Rat):Rat:=sq L.m fun k=>(L.b k:Rat)*y k
structure Lin.Feas (L:Lin) (x:Nat→Rat):Prop where
 pos:∀j,j<L.n→0≤x j
 most:∀k,k<L.m→L.kd k≠2→L.row x k≤L.b k
 least:∀k,k<L.m→L.kd k≠1→(L.b k:Rat)≤L.row x k
structure Lin.Sgn (L:Lin) (y:Nat→Rat):Prop where
 most:∀k,k<L.m→L.kd k=1→y k≤0
 least:∀k,k<L.m→L.kd k=2→0≤y k
structure Lin.Dual (L:Lin) (y:Nat→Rat):Prop extends L.Sgn y where
 col:∀j,j<L.n→L.col y j≤L.c j
structure Lin.Ref (L:Lin) (y:Nat→Rat):Prop extends L.Sgn y where
 col:∀j,j<L.n→L.col y j≤0
 rhs:0<L.rhs y
structure Lin.Ray (L:Lin) (r:Nat→Rat):Prop where
 pos:∀j,j<L.n→0≤r j
 most:∀k,k<L.m→L.kd k≠2→L.row r k≤0
 least:∀k,k<L.m→L.kd k≠1→0≤L.row r k
 val:L.val r<0
section
variable {L:Lin}
theorem Lin.swap (x y:Nat→Rat):sq L.n (fun j=>L.col y j*x j)=sq L.m (fun k=>y k*L.row x k):=by
 have e1:sq L.n (fun j=>L.col y j*x j)=sq L.n (fun j=>sq L.m fun k=>(L.A k j:Rat)*y k*x j):=sq_congr fun j _=>by
  unfold Lin.col
  rw[←sq_mul (c:=x j) |>fun h=>(by rw[h];grind:(sq L.m fun k=>x j*((L.A k j:Rat)*y k))=sq L.m (fun k=>(L.A k j:Rat)*y k)*x j)]
  exact sq_congr fun k _=>by grind
 rw[e1,sq_swap]
 refine sq_congr fun k _=>?_
 unfold Lin.row
 rw[←sq_mul]
 exact sq_congr fun j _=>by grind
theorem rowle {y r b:Rat} (h:(y≤0∧r≤b)∨(0≤y∧b≤r)∨r=b):b*y≤y*r:=by
 rcases h with ⟨h1,h2⟩ | ⟨h1,h2⟩ | h
 ·have:0≤(-y)*(b - r):=Rat.mul_nonneg (by grind) (by grind)
  grind
 ·have:0≤y*(r - b):=Rat.mul_nonneg h1 (by grind)
  grind
 ·subst h;grind
theorem Lin.Sgn.rows {x y:Nat→Rat} (h:L.Sgn y) {b:Nat→Rat} (h1:∀k,k<L.m→L.kd k≠2→L.row x k≤b k) (h2:∀k,k<L.m→L.kd k≠1→b k≤L.row x k):sq L.m (fun k=>b k*y k)≤sq L.m (fun k=>y k*L.row x k):=sq_le fun k hk=>by
 apply rowle
 by_cases e1:L.kd k=1
 ·exact .inl ⟨h.most k hk e1,h1 k hk (by omega)⟩
 ·by_cases e2:L.kd k=2
  ·exact .inr (.inl ⟨h.least k hk e2,h2 k hk e1⟩)
  ·have a1:=h1 k hk e2
   have a2:=h2 k hk e1
   exact .inr (.inr (Rat.le_antisymm a1 a2))
theorem Lin.Ref.none {x y:Nat→Rat} (hy:L.Ref y) (hx:L.Feas x):False:=by
 have h1:=hy.rows (x:=x) (b:=fun k=>(L.b k:Rat)) hx.most hx.least
 rw[←L.swap x y] at h1
 have h2:sq L.n (fun j=>L.col y j*x j)≤sq L.n (fun _=>0):=sq_le fun j hj=>by
  have:0≤(-L.col y j)*x j:=Rat.mul_nonneg (by have:=hy.col j hj;grind) (hx.pos j hj)
  grind
 rw[sq_zero (f:=fun _=>0) fun _ _=>rfl] at h2
 have h3:=hy.rhs
 unfold Lin.rhs at h3
 grind
theorem Lin.Ray.none {r y:Nat→Rat} (hr:L.Ray r) (hy:L.Dual y):False:=by
 have h1:=hy.rows (x:=r) (b:=fun _=>0) hr.most hr.least
 rw[←L.swap r y,sq_zero (f:=fun k=>0*y k) fun k _=>by grind] at h1
 have h2:sq L.n (fun j=>L.col y j*r j)≤L.val r:=sq_le fun j hj=>Rat.mul_le_mul_of_nonneg_right (hy.col j hj) (hr.pos j hj)
 have h3:=hr.val
 grind
end
structure Lay where
 N:Nat
 sl:Nat→Nat
 σ:Nat→Int
def Lay.M (Y:Lay) (L:Lin) (k j:Nat):Int :=
 if j<L.n then Y.σ k*L.A k j else if j<Y.N then (if L.kd k≠3∧j=Y.sl k then Y.σ k*(if L.kd k=1 then 1 else -1) else 0) else if j<Y.N+L.m then (if j=Y.N+k then 1 else 0) else Y.σ k*L.b k
structure Lay.ok (Y:Lay) (L:Lin):Prop where
 n:L.n≤Y.N
 kd:∀k,k<L.m→L.kd k=1∨L.kd k=2∨L.kd k=3
 sl:∀k,k<L.m→L.kd k≠3→L.n≤Y.sl k∧Y.sl k<Y.N
 inj:∀k l,k<L.m→l<L.m→L.kd k≠3→L.kd l≠3→Y.sl k=Y.sl l→k=l
 sg:∀k,k<L.m→Y.σ k=1∨Y.σ k= -1
 b:∀k,k<L.m→0≤Y.σ k*L.b k
abbrev Lay.R (Y:Lay) (L:Lin):Nat:=Y.N+L.m
abbrev Lay.w (Y:Lay) (L:Lin):Nat:=Y.N+L.m+1
section
variable {L:Lin} {Y:Lay}
theorem Lay.M_x {k j:Nat} (hj:j<L.n):Y.M L k j=Y.σ k*L.A k j:=by unfold Lay.M;rw[if_pos hj]
theorem Lay.M_sl (h:Y.ok L) {k:Nat} (hk:k<L.m) (h3:L.kd k≠3):Y.M L k (Y.sl k)=Y.σ k*(if L.kd k=1 then 1 else -1):=by
 obtain ⟨h1,h2⟩:=h.sl k hk h3
 unfold Lay.M
 rw[if_neg (by omega),if_pos h2,if_pos ⟨h3,rfl⟩]
theorem Lay.M_slo {k j:Nat} (h1:L.n≤j) (h2:j<Y.N) (h:¬ (L.kd k≠3∧j=Y.sl k)):Y.M L k j=0:=by
 unfold Lay.M
 rw[if_neg (by omega),if_pos h2,if_neg h]
theorem Lay.M_a (h:Y.ok L) {k i:Nat} (hi:i<L.m):Y.M L k (Y.N+i)=if k=i then 1 else 0:=by
 have:=h.n
 unfold Lay.M
 rw[if_neg (by omega),if_neg (by omega),if_pos (by omega)]
 by_cases e:k=i
 ·rw[if_pos e,if_pos (by omega)]
 ·rw[if_neg e,if_neg (by omega)]
theorem Lay.M_R (h:Y.ok L) {k:Nat}:Y.M L k (Y.R L)=Y.σ k*L.b k:=by
 have:=h.n
 unfold Lay.M Lay.R
 rw[if_neg (by omega),if_neg (by omega),if_neg (by omega)]
abbrev Lay.Val (Y:Lay) (L:Lin) (S:Sx):Prop:=Dn.Val L.m (Y.w L) Y.N (Y.R L) (Y.M L) S
theorem Lay.art (h:Y.ok L):(∀i,i<L.m→Y.N+i<Y.w L)∧∀k,k<L.m→∀i,i<L.m→Y.M L k (Y.N+i)=if k=i then 1 else 0 :=
 ⟨fun i hi=>by unfold Lay.w;omega,fun k _ i hi=>Lay.M_a h hi⟩
theorem Lay.first (h:Y.ok L):Y.Val L ⟨Y.M L,1,fun i=>Y.N+i⟩:=by
 refine ⟨Tb.first (Lay.art h).1 (Lay.art h).2,fun i hi=>?_,fun i hi=>?_⟩
 ·show 0≤Y.M L i (Y.R L)
  rw[Lay.M_R h]
  exact h.b i hi
 ·show Y.N+i≠Y.N+L.m
  omega
def noArt (m N:Nat) (S:Sx) (q:Nat):Prop:=∀i,i<m→N≤S.β i→S.T i q=0
def costs (L:Lin) (j:Nat):Int:=if j<L.n then L.c j else 0
def arts (N:Nat) (j:Nat):Int:=if N≤j then 1 else 0
end
end Dn
end Go.Proofs.Ytnbbackjofgcfaa

namespace Go.Proofs.Ytnbbackjofgcfaa
namespace Dn
theorem sz_split {a b:Nat} {f:Nat→Int}:sz (a+b) f=sz a f+sz b fun i=>f (a+i):=by
 induction b with
 | zero=>simp[sz]
 | succ b ih =>
  rw[show a+(b+1)=a+b+1 by omega,sz,sz,ih]
  omega
theorem sz_inj {m w:Nat} {γ:Nat→Nat} {f:Nat→Int} (hlt:∀p,p<m→γ p<w) (hinj:∀p q,p<m→q<m→γ p=γ q→p=q) (hf:∀j,j<w→0≤f j):(sz m fun p=>f (γ p))≤sz w f:=by
 have e:(sz m fun p=>f (γ p))=sz w fun j=>f j*sz m fun p=>if γ p=j then 1 else 0:=by
  rw[sz_congr (g:=fun p=>sz w fun j=>if γ p=j then f j else 0) fun p hp=>by
   rw[sz_one (hlt p hp) fun j _ hne=>if_neg (Ne.symm hne),if_pos rfl],sz_swap]
  refine sz_congr fun j _=>?_
  rw[←sz_mul]
  refine sz_congr fun p _=>?_
  split<;>omega
 rw[e]
 refine sz_le fun j hj=>?_
 have hc:(sz m fun p=>if γ p=j then (1:Int) else 0)≤1:=by
  by_cases h:∃p,p<m∧γ p=j
  ·obtain ⟨p,hp,rfl⟩:=h
   rw[sz_one hp fun q hq hne=>if_neg fun e'=>hne (hinj q p hq hp e'),if_pos rfl]
   exact Int.le_refl _
  ·rw[sz_zero fun p hp=>if_neg fun e'=>h ⟨p,hp,e'⟩]
   omega
 have:=Int.mul_le_mul_of_nonneg_left hc (hf j hj)
 omega
def Lin.F (L:Lin) (k:Nat):Int:=1+ab (L.b k)+sz L.n fun j=>ab (L.A k j)
def Lin.F0 (L:Lin):Int:=1+sz L.n fun j=>ab (L.c j)
theorem Lin.F_pos (L:Lin) (k:Nat):1≤L.F k:=by
 have h1:=ab_nonneg (L.b k)
 have h2:0≤sz L.n fun j=>ab (L.A k j):=sz_nonneg fun j _=>ab_nonneg _
 unfold Lin.F
 omega
theorem Lin.F0_pos (L:Lin):1≤L.F0:=by
 have h2:0≤sz L.n fun j=>ab (L.c j):=sz_nonneg fun j _=>ab_nonneg _
 unfold Lin.F0
 omega
def Lin.P (L:Lin):Int:=pz L.m L.F
theorem pz_pos:∀{n:Nat} {f:Nat→Int},(∀i,i<n→1≤f i)→1≤pz n f
 | 0,_,_=>by simp[pz]
 | n+1,f,h=>by
  simp only[pz]
  have h1:=h 0 (by omega)
  have h2:=pz_pos (n:=n) (f:=fun i=>f (i+1)) fun i hi=>h (i+1) (by omega)
  have:=Int.mul_le_mul h1 h2 (by omega) (by omega)
  omega
theorem Lin.P_pos (L:Lin):1≤L.P:=pz_pos fun k _=>L.F_pos k
section
variable {L:Lin} {Y:Lay}
theorem ab_sg (h:Y.ok L) {k:Nat} (hk:k<L.m) (x:Int):ab (Y.σ k*x)=ab x:=by
 rw[ab_mul]
 rcases h.sg k hk with e | e<;>rw[e]<;>simp[ab]
theorem row_all (h:Y.ok L) {k:Nat} (hk:k<L.m) {f:Nat→Int} (h1:∀j,j<L.n→f j=ab (Y.M L k j)) (hR:f (Y.R L)=ab (Y.M L k (Y.R L)))
  (h2:((∀j,L.n≤j→j<Y.N→f j=0)∧∀i,i<L.m→f (Y.N+i)=if i=k then 1 else 0)∨(L.kd k≠3∧(∀j,L.n≤j→j<Y.N→f j=if j=Y.sl k then 1 else 0)∧∀i,i<L.m→f (Y.N+i)=0)) :
  sz (Y.w L) f=L.F k:=by
 have hn:=h.n
 have e:Y.w L=(L.n+(Y.N - L.n))+L.m+1:=by unfold Lay.w;omega
 rw[e,sz,sz_split,sz_split,show L.n+(Y.N - L.n)+L.m=Y.R L by unfold Lay.R;omega,hR,Lay.M_R h,ab_sg h hk]
 have e1:sz L.n f=sz L.n fun j=>ab (L.A k j):=sz_congr fun j hj=>by rw[h1 j hj,Lay.M_x hj,ab_sg h hk]
 rw[e1,show L.n+(Y.N - L.n)=Y.N by omega]
 unfold Lin.F
 rcases h2 with ⟨h3,h4⟩ | ⟨h3,h4,h5⟩
 ·rw[sz_zero fun i hi=>h3 (L.n+i) (by omega) (by omega),sz_one hk fun i hi hne=>by rw[h4 i hi,if_neg hne],h4 k hk,if_pos rfl]
  omega
 ·obtain ⟨h6,h7⟩:=h.sl k hk h3
  have a1:(sz (Y.N - L.n) fun i=>f (L.n+i))=1:=by
   rw[sz_one (k:=Y.sl k - L.n) (by omega) fun i hi hne=>by rw[h4 _ (by omega) (by omega),if_neg (by omega)],h4 _ (by omega) (by omega),if_pos (by omega)]
  have a2:(sz L.m fun i=>f (Y.N+i))=0:=sz_zero fun i hi=>h5 i hi
  rw[a1,a2]
  omega
theorem dc_rows (h:Y.ok L) {γ:Nat→Nat} (hlt:∀p,p<L.m→γ p<Y.w L):dc L.m (Y.M L) γ=0∨∀k,k<L.m→(sz L.m fun p=>ab (Y.M L k (γ p)))≤L.F k:=by
 have zero:dc L.m (Y.M L) γ=0→dc L.m (Y.M L) γ=0∨∀k,k<L.m→(sz L.m fun p=>ab (Y.M L k (γ p)))≤L.F k:=fun e=>.inl e
 by_cases hinj:∀p q,p<L.m→q<L.m→γ p=γ q→p=q
 ·by_cases hboth:∃k p q,k<L.m∧L.kd k≠3∧p<L.m∧q<L.m∧γ p=Y.sl k∧γ q=Y.N+k
  ·obtain ⟨k,p,q,hk,h3,hp,hq,e1,e2⟩:=hboth
   obtain ⟨h4,h5⟩:=h.sl k hk h3
   have hpq:p≠q:=fun e=>by rw[e,e2] at e1;omega
   apply zero
   unfold dc
   have e3:det L.m (colsOf (Y.M L) γ)=det L.m (setC (colsOf (Y.M L) γ) p fun l=>(Y.σ k*(if L.kd k=1 then 1 else -1))*Y.M L l (Y.N+k)):=by
    refine det_congr fun l j hl hj=>?_
    unfold setC
    split
    ·rename_i e
     rw[e]
     show Y.M L l (γ p)=(Y.σ k*(if L.kd k=1 then 1 else -1))*Y.M L l (Y.N+k)
     rw[e1,Lay.M_a h hk]
     by_cases el:l=k
     ·subst el
      rw[Lay.M_sl h hl h3,if_pos rfl,Int.mul_one]
     ·rw[if_neg el,Int.mul_zero,Lay.M_slo h4 h5 fun e'=>el (h.inj l k hl hk e'.1 h3 e'.2.symm)]
    ·rfl
   rw[e3,det_smul hp,det_alt hp hq hpq fun l _=>by
    unfold setC
    rw[if_pos rfl,if_neg (Ne.symm hpq)]
    show Y.M L l (Y.N+k)=Y.M L l (γ q)
    rw[e2],Int.mul_zero]
  ·refine .inr fun k hk=>?_
   by_cases hs:L.kd k≠3∧∃p,p<L.m∧γ p=Y.sl k
   ·obtain ⟨h3,p,hp,e1⟩:=hs
    obtain ⟨h4,h5⟩:=h.sl k hk h3
    have e:(sz L.m fun p=>ab (Y.M L k (γ p)))=sz L.m fun p=>(fun j=>if Y.N≤j∧j<Y.N+L.m then 0 else ab (Y.M L k j)) (γ p):=sz_congr fun q hq=>by
     show _=if Y.N≤γ q∧γ q<Y.N+L.m then 0 else ab (Y.M L k (γ q))
     split
     ·rename_i hr
      obtain ⟨i,hi⟩:∃i,γ q=Y.N+i:=⟨γ q - Y.N,by omega⟩
      rw[hi,Lay.M_a h (by omega),if_neg fun e'=>hboth ⟨k,p,q,hk,h3,hp,hq,e1,by rw[hi,e']⟩]
      rfl
     ·rfl
    rw[e]
    refine Int.le_trans (sz_inj (f:=fun j=>if Y.N≤j∧j<Y.N+L.m then 0 else ab (Y.M L k j)) hlt hinj fun j _=>?_) (Int.le_of_eq (row_all h hk (fun j hj=>?_) ?_ (.inr ⟨h3,fun j h6 h7=>?_,fun i hi=>?_⟩)))
    ·split
     ·exact Int.le_refl _
     ·exact ab_nonneg _
    ·have:=h.n
     rw[if_neg (by omega)]
    ·rw[if_neg (by unfold Lay.R;omega)]
    ·rw[if_neg (by omega)]
     by_cases ej:j=Y.sl k
     ·subst ej
      rw[Lay.M_sl h hk h3,ab_sg h hk,if_pos rfl]
      split<;>rfl
     ·rw[if_neg ej,Lay.M_slo h6 h7 fun e'=>ej e'.2]
      rfl
    ·rw[if_pos (by omega)]
   ·have e:(sz L.m fun p=>ab (Y.M L k (γ p)))=sz L.m fun p=>(fun j=>if L.n≤j∧j<Y.N then 0 else ab (Y.M L k j)) (γ p):=sz_congr fun q hq=>by
     show _=if L.n≤γ q∧γ q<Y.N then 0 else ab (Y.M L k (γ q))
     split
     ·rename_i hr
      rw[Lay.M_slo hr.1 hr.2 fun e'=>hs ⟨e'.1,q,hq,e'.2⟩]
      rfl
     ·rfl
    rw[e]
    refine Int.le_trans (sz_inj (f:=fun j=>if L.n≤j∧j<Y.N then 0 else ab (Y.M L k j)) hlt hinj fun j _=>?_) (Int.le_of_eq (row_all h hk (fun j hj=>?_) ?_ (.inl ⟨fun j h6 h7=>?_,fun i hi=>?_⟩)))
    ·split
     ·exact Int.le_refl _
     ·exact ab_nonneg _
    ·rw[if_neg (by omega)]
    ·rw[if_neg (by unfold Lay.R;omega)]
    ·rw[if_pos ⟨h6,h7⟩]
    ·rw[if_neg (by omega),Lay.M_a h hi]
     by_cases ei:k=i
     ·rw[if_pos ei,if_pos ei.symm];rfl
     ·rw[if_neg ei,if_neg (Ne.symm ei)];rfl
 ·have:∃p q,p<L.m∧q<L.m∧γ p=γ q∧p≠q:=by
   apply Classical.byContradiction
   intro hno
   refine hinj fun p q hp hq e=>?_
   apply Classical.byContradiction
   intro hne
   exact hno ⟨p,q,hp,hq,e,hne⟩
  obtain ⟨p,q,hp,hq,e,hne⟩:=this
  apply zero
  refine det_alt hp hq hne fun l _=>?_
  show Y.M L l (γ p)=Y.M L l (γ q)
  rw[e]
theorem dc_bound (h:Y.ok L) {γ:Nat→Nat} (hlt:∀p,p<L.m→γ p<Y.w L):ab (dc L.m (Y.M L) γ)≤L.P:=by
 rcases dc_rows h hlt with e | e
 ·have hP:=L.P_pos
  rw[e]
  simp[ab]
  omega
 ·exact Int.le_trans det_bound (pz_le fun k hk=>⟨sz_nonneg fun _ _=>ab_nonneg _,e k hk⟩)
theorem upd_lt {m w:Nat} {β:Nat→Nat} {r c:Nat} (h:∀p,p<m→β p<w) (hc:c<w):∀p,p<m→upd β r c p<w:=fun p hp=>by
 unfold upd
 split
 ·exact hc
 ·exact h p hp
theorem table_bound (h:Y.ok L) {T:Nat→Nat→Int} {d:Int} {β:Nat→Nat} (ht:Tb L.m (Y.w L) (Y.M L) T d β):d≤L.P∧∀i j,i<L.m→j<Y.w L→ab (T i j)≤L.P:=by
 refine ⟨?_,fun i j hi hj=>by rw[ht.bound hi hj];exact dc_bound h (upd_lt ht.lt hj)⟩
 obtain ⟨σ,h1,h2,_⟩:=ht.cr
 have h3:=dc_bound h ht.lt
 have h4:ab d=ab (dc L.m (Y.M L) β):=by
  have h5:ab σ=1:=by
   have h6:ab σ*ab σ=1:=by rw[←ab_mul,h1];rfl
   have h7:=ab_nonneg σ
   have h8:ab σ≤1:=by
    apply Int.not_lt.1
    intro h9
    have:2*2≤ab σ*ab σ:=Int.mul_le_mul (by omega) (by omega) (by omega) h7
    omega
   have:ab σ≠0:=fun e=>by rw[e] at h6;simp at h6
   omega
  have h6:ab (σ*dc L.m (Y.M L) β)=ab d:=by rw[←h2]
  rw[ab_mul,h5,Int.one_mul] at h6
  exact h6.symm
 rw[←h4] at h3
 exact (ab_le.1 h3).2
end
end Dn
end Go.Proofs.Ytnbbackjofgcfaa

namespace Go.Proofs.Ytnbbackjofgcfaa
namespace Dn
section
variable {L:Lin} {Y:Lay}
end
end Dn
end Go.Proofs.Ytnbbackjofgcfaa

namespace Go.Proofs.Ytnbbackjofgcfaa
namespace Dn
section
variable {α R:Type} {F:(α→Option R)→α→Option R}
theorem loopF_seq (n:Nat) (st:Nat→α) (r:Option R) (hb:∀again i,i<n→F again (st i)=again (st (i+1))) (hf:∀again,F again (st n)=r):∀(k i m:Nat),i+k=n→k<m→loopF F m (st i)=r
 | 0,i,m,h1,h2=>by
  obtain ⟨m,rfl⟩:∃m',m=m'+1:=⟨m - 1,by omega⟩
  rw[loopF_succ,show i=n by omega,hf]
 | k+1,i,m,h1,h2=>by
  obtain ⟨m,rfl⟩:∃m',m=m'+1:=⟨m - 1,by omega⟩
  rw[loopF_succ,hb _ _ (by omega)]
  exact loopF_seq n st r hb hf k (i+1) m (by omega) (by omega)
theorem lpK_seq (n:Nat) (hn:n≤1180591620717411303423) (st:Nat→α) (r:Option R) (hb:∀again i,i<n→F again (st i)=again (st (i+1))) (hf:∀again,F again (st n)=r):lpK α R F (st 0)=r :=
 loopF_seq n st r hb hf n 0 K0 (by omega) (by unfold K0;omega)
theorem lpK_seqX {x:α} (n:Nat) (hn:n≤1180591620717411303423) (st:Nat→α) (r:Option R) (hx:x=st 0) (hb:∀again i,i<n→F again (st i)=again (st (i+1))) (hf:∀again,F again (st n)=r):lpK α R F x=r:=by
 rw[hx]
 exact lpK_seq n hn st r hb hf
theorem loopF_exR {γ:Type} (I:γ→α→Prop) (Q:Option R→Prop) (μ:γ→Nat) (h:∀rec s x,I s x→Q (F rec x)∨∃s' y,I s' y∧μ s'<μ s∧F rec x=rec y):∀(m:Nat) (s:γ) (x:α),I s x→μ s<m→Q (loopF F m x)
 | 0,_,_,_,hm=>by omega
 | m+1,s,x,hx,hm=>by
  rw[loopF_succ]
  rcases h (loopF F m) s x hx with h1 | ⟨s',y,h1,h2,h3⟩
  ·exact h1
  ·rw[h3]
   exact loopF_exR I Q μ h m s' y h1 (by omega)
theorem lpK_exR {γ:Type} (I:γ→α→Prop) (Q:Option R→Prop) (μ:γ→Nat) (h:∀rec s x,I s x→Q (F rec x)∨∃s' y,I s' y∧μ s'<μ s∧F rec x=rec y) {s:γ} {x:α} (hx:I s x) (hn:μ s<1180591620717411303424):Q (lpK α R F x) :=
 loopF_exR I Q μ h K0 s x hx hn
theorem lpK_inv {x:α} (Q:Option R→Prop) (n:Nat) (hn:n≤1180591620717411303423) (I:Nat→α→Prop) (hx:I 0 x) (hb:∀again i x,i<n→I i x→∃y,I (i+1) y∧F again x=again y) (hf:∀again x,I n x→Q (F again x)):Q (lpK α R F x) :=
 lpK_exR (γ:=Nat) (fun i x=>i≤n∧I i x) Q (fun i=>n - i) (fun rec i x ⟨h1,h2⟩=>by
  by_cases e:i=n
  ·subst e;exact .inl (hf rec x h2)
  ·obtain ⟨y,h3,h4⟩:=hb rec i x (by omega) h2
   exact .inr ⟨i+1,y,⟨by omega,h3⟩,by omega,h4⟩) (s:=0) ⟨by omega,hx⟩ (by omega)
end
theorem first_of (n:Nat) (p:Nat→Bool):(∀j,j<n→p j=false)∨∃j,j<n∧p j=true∧∀i,i<j→p i=false:=by
 induction n with
 | zero=>exact .inl fun j hj=>by omega
 | succ n ih =>
  rcases ih with h | ⟨j,h1,h2,h3⟩
  ·cases hp:p n with
   | true=>exact .inr ⟨n,by omega,hp,h⟩
   | false =>
    refine .inl fun j hj=>?_
    by_cases e:j=n
    ·rw[e];exact hp
    ·exact h j (by omega)
  ·exact .inr ⟨j,by omega,h2,h3⟩
def rowL {α:Type} (w:Nat) (f:Nat→α):List α:=(List.range w).map f
section
variable {α:Type} {m w:Nat} {T T':Nat→Nat→Int}
theorem rowL_len {f:Nat→α}:(rowL w f).length=w:=by unfold rowL;rw[List.length_map,List.length_range]
theorem rowL_at {f:Nat→α} {j:Nat} (h:j<(rowL w f).length):(rowL w f)[j]=f j :=
 (List.getElem_map f (l:=List.range w) (h:=h)).trans (congrArg f (List.getElem_range _))
end
end Dn
end Go.Proofs.Ytnbbackjofgcfaa

namespace Go.Proofs.Ytnbbackjofgcfaa
open Try Dn Dn.Sh
end Go.Proofs.Ytnbbackjofgcfaa

namespace Go.Proofs.Ytnbbackjofgcfaa
open Try Dn Dn.Sh
theorem succ_wrap {i:Nat} (h:i≤1000000):IntKind.wrap .i64 ((i:Int)+1)=((i+1:Nat):Int):=by rw[wrap_id (by omega) (by omega)];rfl
structure PivOk (m w:Nat) (T:Nat→Nat→Int) (d:Int) (r c:Nat):Prop where
 hm:m≤1000
 hw:w≤1000
 hr:r<m
 hc:c<w
 hd:0<d∧d<4611686018427387904
 b:∀i j,i<m→j<w→(T i j).natAbs<4611686018427387904
 q:∀i j,i<m→i≠r→j<w→d*piv T d r c i j=T r c*T i j - T i c*T r j
 qb:∀i j,i<m→i≠r→j<w→(piv T d r c i j).natAbs<4611686018427387904
end Go.Proofs.Ytnbbackjofgcfaa

namespace Go.Proofs.Ytnbbackjofgcfaa
open Try Dn Dn.Sh
end Go.Proofs.Ytnbbackjofgcfaa

namespace Go.Proofs.Ytnbbackjofgcfaa
open Try Dn Dn.Sh
end Go.Proofs.Ytnbbackjofgcfaa

namespace Go.Proofs.Ytnbbackjofgcfaa
open Try Dn Dn.Sh
structure Bnd (L:Lin) (Y:Lay):Prop where
 ok:Y.ok L
 m:L.m≤12
 w:Y.w L≤64
 P:L.F0*L.P≤17592186044416
theorem ab_abs {x:Int}:ab x=x.natAbs:=rfl
section
variable {L:Lin} {Y:Lay}
theorem Bnd.P' (h:Bnd L Y):L.P≤17592186044416:=by
 have h1:=L.F0_pos
 have h2:=L.P_pos
 have h3:1*L.P≤L.F0*L.P:=Int.mul_le_mul_of_nonneg_right h1 (by omega)
 have:=h.P
 omega
theorem Bnd.tab (h:Bnd L Y) {T:Nat→Nat→Int} {d:Int} {β:Nat→Nat} (ht:Tb L.m (Y.w L) (Y.M L) T d β):(0<d∧d≤17592186044416)∧∀i j,i<L.m→j<Y.w L→(T i j).natAbs≤17592186044416:=by
 obtain ⟨h1,h2⟩:=table_bound h.ok ht
 have h3:=h.P'
 refine ⟨⟨ht.dpos,by omega⟩,fun i j hi hj=>?_⟩
 have:=h2 i j hi hj
 rw[ab_abs] at this
 omega
theorem costs_le (j:Nat):(costs L j).natAbs≤L.F0 - 1:=by
 unfold costs Lin.F0
 have h0:0≤sz L.n fun j=>ab (L.c j):=sz_nonneg fun j _=>ab_nonneg _
 split
 ·rename_i hj
  have h1:(sz L.n fun i=>if i=j then ab (L.c j) else 0)≤sz L.n fun j=>ab (L.c j):=sz_le fun i _=>by
   by_cases e:i=j
   ·rw[if_pos e,e];exact Int.le_refl _
   ·rw[if_neg e];exact ab_nonneg _
  rw[sz_one hj fun i _ hne=>if_neg hne,if_pos rfl,ab_abs] at h1
  omega
 ·simp only[Int.natAbs_zero]
  omega
theorem Bnd.cost (h:Bnd L Y) {x:Int} (hx:(x.natAbs:Int)≤L.P) (j:Nat): -17592186044416≤costs L j*x∧costs L j*x≤17592186044416:=by
 have h1:=costs_le (L:=L) j
 have h2:((costs L j*x).natAbs:Int)≤L.F0*L.P:=by
  rw[Int.natAbs_mul,Int.natCast_mul]
  refine Int.le_trans (Int.mul_le_mul (show ((costs L j).natAbs:Int)≤L.F0 by omega) hx (by omega) (by omega)) (Int.le_refl _)
 have:=h.P
 omega
theorem sg_abs (x:Int) (y:Int):(sg x*y).natAbs=y.natAbs:=by unfold sg;split<;>omega
theorem Bnd.piv (h:Bnd L Y) {T:Nat→Nat→Int} {d:Int} {β:Nat→Nat} (ht:Tb L.m (Y.w L) (Y.M L) T d β) {r c:Nat} (hr:r<L.m) (hc:c<Y.w L) (he:T r c≠0):PivOk L.m (Y.w L) T d r c:=by
 obtain ⟨h1,h2⟩:=h.tab ht
 obtain ⟨h3,h4⟩:=h.tab (ht.step hr hc he)
 have:=h.m
 have:=h.w
 refine ⟨by omega,by omega,hr,hc,by omega,fun i j hi hj=>by have:=h2 i j hi hj;omega,fun i j hi hne hj=>piv_exact ht hr hi (Ne.symm hne) hc hj,fun i j hi hne hj=>?_⟩
 have h5:=h4 i j hi hj
 unfold pivT at h5
 rw[if_neg hne,sg_abs] at h5
 omega
def AZ (L:Lin) (Y:Lay) (S:Sx):Prop:=∀i,i<L.m→Y.N≤S.β i→(∀j,j<Y.N→S.T i j=0)∧S.T i (Y.R L)=0
theorem AZ.art (S:Sx) (h:AZ L Y S):noArt L.m Y.N S (Y.R L):=fun i hi hN=>(h i hi hN).2
theorem AZ.col (S:Sx) (h:AZ L Y S) {q:Nat} (hq:q<Y.N):noArt L.m Y.N S q:=fun i hi hN=>(h i hi hN).1 q hq
def stepS (S:Sx) (r c:Nat):Sx:=⟨pivT S.T S.d r c,sg (S.T r c)*S.T r c,upd S.β r c⟩
theorem AZ.step {S:Sx} (h:AZ L Y S) {r c:Nat} (hc:c<Y.N):AZ L Y (stepS S r c):=fun i hi hN=>by
 have hb:(stepS S r c).β i=upd S.β r c i:=rfl
 rw[hb] at hN
 unfold upd at hN
 by_cases e:i=r
 ·rw[if_pos e] at hN;omega
 ·rw[if_neg e] at hN
  obtain ⟨h1,h2⟩:=h i hi hN
  have hT:∀j,(stepS S r c).T i j=sg (S.T r c)*Dn.piv S.T S.d r c i j:=fun j=>by
   show pivT S.T S.d r c i j=_
   unfold pivT
   rw[if_neg e]
  have hz:∀j,S.T i j=0→Dn.piv S.T S.d r c i j=0:=fun j hj=>by
   unfold Dn.piv
   rw[hj,h1 c hc,Int.mul_zero,Int.zero_mul,Int.sub_zero,Int.zero_ediv]
  exact ⟨fun j hj=>by rw[hT,hz j (h1 j hj),Int.mul_zero],by rw[hT,hz _ h2,Int.mul_zero]⟩
end
end Go.Proofs.Ytnbbackjofgcfaa

namespace Go.Proofs.Ytnbbackjofgcfaa
open Try Dn Dn.Sh
section
variable {L:Lin} {Y:Lay}
theorem Val.flat {S:Sx} (hv:Y.Val L S) {r c:Nat} (hr:r<L.m) (hc:c<Y.N) (he:S.T r c≠0) (h0:S.T r (Y.R L)=0):Y.Val L (stepS S r c):=by
 have hcw:c<Y.w L:=by unfold Lay.w;omega
 have hRw:Y.R L<Y.w L:=by unfold Lay.R Lay.w;omega
 have hd:=hv.tb.dpos
 refine ⟨hv.tb.step hr hcw he,fun i hi=>?_,fun i hi=>?_⟩
 ·show 0≤pivT S.T S.d r c i (Y.R L)
  unfold pivT
  by_cases e:i=r
  ·rw[if_pos e,h0,Int.mul_zero];exact Int.le_refl _
  ·rw[if_neg e]
   have h1:=piv_exact hv.tb hr hi (Ne.symm e) hcw hRw
   rw[h0,Int.mul_zero,Int.sub_zero] at h1
   have h2:0≤sg (S.T r c)*S.T r c*S.T i (Y.R L):=Int.mul_nonneg (Int.le_of_lt (sg_pos he)) (hv.feas i hi)
   rw[Int.mul_assoc,←h1] at h2
   have h3:sg (S.T r c)*(S.d*Dn.piv S.T S.d r c i (Y.R L))=S.d*(sg (S.T r c)*Dn.piv S.T S.d r c i (Y.R L)):=by grind
   rw[h3] at h2
   exact Int.nonneg_of_mul_nonneg_right h2 hd
 ·show upd S.β r c i≠_
  unfold upd
  split
  ·unfold Lay.R;omega
  ·exact hv.ne i hi
theorem piv_zero {T:Nat→Nat→Int} {d:Int} {r c i j:Nat} (h1:T i j=0) (h2:T i c=0∨T r j=0):Dn.piv T d r c i j=0:=by
 unfold Dn.piv
 rw[h1,Int.mul_zero]
 rcases h2 with h | h
 ·rw[h,Int.zero_mul,Int.sub_zero,Int.zero_ediv]
 ·rw[h,Int.mul_zero,Int.sub_zero,Int.zero_ediv]
structure Swp (L:Lin) (Y:Lay) (i:Nat) (S:Sx):Prop where
 val:Y.Val L S
 right:∀k,k<L.m→Y.N≤S.β k→S.T k (Y.R L)=0
 rows:∀k,k<L.m→k<i→Y.N≤S.β k→∀j,j<Y.N→S.T k j=0
theorem Swp.step {i:Nat} {S:Sx} (h:Swp L Y i S) {j:Nat} (hi:i<L.m) (hj:j<Y.N) (hN:Y.N≤S.β i) (he:S.T i j≠0):Swp L Y i (stepS S i j):=by
 have h0:=h.right i hi hN
 have up:∀k,k≠i→(stepS S i j).β k=S.β k:=fun k hk=>by
  show upd S.β i j k=_
  unfold upd
  rw[if_neg hk]
 have ui:(stepS S i j).β i=j:=by
  show upd S.β i j i=_
  unfold upd
  rw[if_pos rfl]
 have hT:∀k l,k≠i→(stepS S i j).T k l=sg (S.T i j)*Dn.piv S.T S.d i j k l:=fun k l hk=>by
  show pivT S.T S.d i j k l=_
  unfold pivT
  rw[if_neg hk]
 refine ⟨Val.flat h.val hi hj he h0,fun k hk hb=>?_,fun k hk hlt hb l hl=>?_⟩
 ·have e:k≠i:=fun e=>by rw[e,ui] at hb;omega
  rw[up k e] at hb
  rw[hT k _ e,piv_zero (h.right k hk hb) (.inr h0),Int.mul_zero]
 ·have e:k≠i:=by omega
  rw[up k e] at hb
  rw[hT k _ e,piv_zero (h.rows k hk hlt hb l hl) (.inl (h.rows k hk hlt hb j hj)),Int.mul_zero]
end
end Go.Proofs.Ytnbbackjofgcfaa

namespace Go.Proofs.Ytnbbackjofgcfaa
open Try Dn Dn.Sh
def linP (p:Pg):Lin:=⟨p.1.length,p.2.length,fun k j=>(p.2.getD k rw0).1.getD j 0,fun k=>(p.2.getD k rw0).2.2,fun j=>p.1.getD j 0,fun k=>(p.2.getD k rw0).2.1⟩
def cntS (p:Pg):Nat→Nat
 | 0=>0
 | k+1=>cntS p k+if (p.2.getD k rw0).2.1=3 then 0 else 1
def layP (p:Pg):Lay:=⟨p.1.length+cntS p p.2.length,fun k=>p.1.length+cntS p k,fun k=>if (p.2.getD k rw0).2.2<0 then -1 else 1⟩
theorem rowL_snoc {α:Type} {w:Nat} {f:Nat→α}:rowL w f++[f w]=rowL (w+1) f:=by
 unfold rowL
 rw[List.range_succ,List.map_append]
 rfl
abbrev St:=Int×Int×(List Nat×List (Option (List Int)))×Int×List Int×List Int×List Int×Int×Int×PUnit
end Go.Proofs.Ytnbbackjofgcfaa

namespace Go.Proofs.Ytnbbackjofgcfaa
open Try Dn Dn.Sh
def fac (L:Lin):Nat→Int
 | 0=>L.F0
 | k+1=>L.F k
def pp (f:Nat→Int):Nat→Int
 | 0=>1
 | n+1=>pp f n*f n
def mx (f:Nat→Int):Nat→Int
 | 0=>f 0
 | n+1=>max (mx f n) (f (n+1))
def FitsL (L:Lin):Prop:=pp (fac L) (L.m+1)≤17592186044416∧pp (fac L) (L.m+1)*mx (fac L) L.m≤144115188075855872
instance (L:Lin):Decidable (FitsL L):=by unfold FitsL;infer_instance
theorem size_small {l:List Int} (h:∀n ∈ l,inC n=true) (j:Nat):ab (l.getD j 0)≤1048576:=by
 rw[ab_le]
 by_cases e:j<l.length
 ·exact of_decide_eq_true (h _ (by rw[getD_nat e];exact List.getElem_mem _))
 ·rw[List.getD_eq_getElem?_getD,List.getElem?_eq_none (by omega)]
  simp
end Go.Proofs.Ytnbbackjofgcfaa

namespace Go.Proofs.Ytnbbackjofgcfaa
open Try Dn Dn.Sh
structure Infeas (p:Pg) (S:Sx):Prop where
 val:(layP p).Val (linP p) S
 zr:∀j,j<(layP p).N→0≤zr (linP p).m (arts (layP p).N) S j
 pos:0<sz (linP p).m fun i=>arts (layP p).N (S.β i)*S.T i ((layP p).R (linP p))
structure Free (p:Pg) (S:Sx) (q:Nat):Prop where
 val:(layP p).Val (linP p) S
 az:AZ (linP p) (layP p) S
 lt:q<(layP p).N
 neg:zr (linP p).m (costs (linP p)) S q<0
 no:∀i,i<(linP p).m→S.T i q≤0
structure Opt (p:Pg) (S:Sx):Prop where
 val:(layP p).Val (linP p) S
 az:AZ (linP p) (layP p) S
 zr:∀j,j<(layP p).N→0≤zr (linP p).m (costs (linP p)) S j
end Go.Proofs.Ytnbbackjofgcfaa

namespace Go.Proofs.Ytnbbackjofgcfaa
open Try Dn Dn.Sh
end Go.Proofs.Ytnbbackjofgcfaa

namespace Go.Proofs.Ytnbbackjofgcfaa
open Try Dn Dn.Sh
end Go.Proofs.Ytnbbackjofgcfaa

namespace Go.Proofs.Ytnbbackjofgcfaa
open Try Dn Dn.Sh
end Go.Proofs.Ytnbbackjofgcfaa

namespace Go.Proofs.Ytnbbackjofgcfaa
open Try Dn Dn.Sh
end Go.Proofs.Ytnbbackjofgcfaa

namespace Go.Proofs.Ytnbbackjofgcfaa
open Try Dn Dn.Sh
end Go.Proofs.Ytnbbackjofgcfaa

namespace Go.Proofs.Ytnbbackjofgcfaa
open Try Dn Dn.Sh
end Go.Proofs.Ytnbbackjofgcfaa

namespace Go.Proofs.Ytnbbackjofgcfaa
open Try Dn Dn.Sh
end Go.Proofs.Ytnbbackjofgcfaa

namespace Go.Proofs.Ytnbbackjofgcfaa
open Try Dn Dn.Sh
end Go.Proofs.Ytnbbackjofgcfaa

namespace Go.Proofs.Ytnbbackjofgcfaa
open Try Dn Dn.Sh
end Go.Proofs.Ytnbbackjofgcfaa

namespace Go.Proofs.Ytnbbackjofgcfaa
open Try Dn Dn.Sh
theorem all_idx {α:Type} {P:α→Bool} {l:List α} (d:α):l.all P=true↔∀k,k<l.length→P (l.getD k d)=true:=by
 rw[←all_range (p:=P) d,List.all_eq_true]
 exact ⟨fun h k hk=>h k (List.mem_range'.2 ⟨k,hk,by omega⟩),fun h i hi=>by obtain ⟨k,hk,rfl⟩:=List.mem_range'.1 hi;exact h _ (by omega)⟩
end Go.Proofs.Ytnbbackjofgcfaa

namespace Go.Proofs.Ytnbbackjofgcfaa
open Try Dn Dn.Sh
def sgK (k:Int):List Int:=if k=1 then [-1] else if k=2 then [1] else [1,-1]
def colS (p:Pg):Nat→List (Int×Nat)
 | 0=>[]
 | i+1=>colS p i++(sgK (p.2.getD i rw0).2.1).map fun s=>(s,i)
def dCost (p:Pg) (l:List (Int×Nat)):List Int:=l.map fun c=>0 - c.1*(p.2.getD c.2 rw0).2.2
def dCoef (p:Pg) (l:List (Int×Nat)) (k:Nat):List Int:=l.map fun c=>c.1*(p.2.getD c.2 rw0).1.getD k 0
def dualP (p:Pg):Pg:=(dCost p (colS p p.2.length),rowL p.1.length fun k=>(dCoef p (colS p p.2.length) k,1,p.1.getD k 0))
def bigR (p:Pg) (i:Nat):Bool:=decide ((p.2.getD i rw0).2.2< -1048576)||decide ((p.2.getD i rw0).2.2>1048576)
def bigP (p:Pg):Nat→Bool
 | 0=>false
 | i+1=>bigP p i||bigR p i
theorem sgK_len (k:Int):(sgK k).length≤2:=by
 unfold sgK
 split
 ·simp
 ·split<;>simp
theorem colS_len (p:Pg):∀i,(colS p i).length≤2*i
 | 0=>Nat.le_refl _
 | i+1=>by
  have h1:=colS_len p i
  have h2:=sgK_len (p.2.getD i rw0).2.1
  simp only[colS,List.length_append,List.length_map]
  omega
abbrev Cl:=Nat×Int×Int
structure Rep (n:Nat) (p:Pg) (l:List Cl) (a:List (Option (List Int))) (C:Nat→List Int):Prop where
 len:l.length=n
 snd:∀k,k<n→(l.getD k (0,0,0)).2=(1,p.1.getD k 0)
 lt:∀k,k<n→(l.getD k (0,0,0)).1<a.length
 row:∀k,k<n→a.getD (l.getD k (0,0,0)).1 none=some (C k)
 inj:∀k k',k<n→k'<n→(l.getD k (0,0,0)).1=(l.getD k' (0,0,0)).1→k=k'
theorem Rep.live {n:Nat} {p:Pg} {l:List Cl} {a:List (Option (List Int))} {C:Nat→List Int} (h:Rep n p l a C) {k:Nat} (hk:k<n):liveB a (l.getD k (0,0,0)).1=true:=by unfold liveB;rw[h.row k hk];rfl
theorem Rep.rowD {n:Nat} {p:Pg} {l:List Cl} {a:List (Option (List Int))} {C:Nat→List Int} (h:Rep n p l a C) {k:Nat} (hk:k<n):Dn.rowD a (l.getD k (0,0,0)).1=C k:=by unfold Dn.rowD;rw[h.row k hk];rfl
theorem Rep.put {n:Nat} {p:Pg} {l:List Cl} {a:List (Option (List Int))} {C:Nat→List Int} (h:Rep n p l a C) {k:Nat} (hk:k<n) (x:List Int) :
  Rep n p (l.set k (a.length,(l.getD k (0,0,0)).2)) (a.set (l.getD k (0,0,0)).1 none++[some x]++[]) (fun j=>if j=k then x else C j):=by
 have hl:=h.len
 have get:∀j,(l.set k (a.length,(l.getD k (0,0,0)).2)).getD j (0,0,0)=if j=k then (a.length,(l.getD k (0,0,0)).2) else l.getD j (0,0,0):=fun j=>by
  by_cases e:j=k
  ·rw[if_pos e,e,lget_set_self (by omega)]
  ·rw[if_neg e,lget_set_ne (Ne.symm e)]
 refine ⟨by rw[List.length_set];exact hl,fun j hj=>?_,fun j hj=>?_,fun j hj=>?_,fun j j' hj hj' e=>?_⟩
 ·rw[get]
  by_cases e:j=k
  ·rw[if_pos e,e];exact h.2 k hk
  ·rw[if_neg e];exact h.2 j hj
 ·rw[get]
  simp only[List.append_nil,List.length_append,List.length_set,List.length_singleton]
  by_cases e:j=k
  ·rw[if_pos e];simp only;omega
  ·rw[if_neg e];have:=h.lt j hj;omega
 ·rw[get,List.append_nil]
  by_cases e:j=k
  ·rw[if_pos e,if_pos e]
   simp only
   rw[List.getD_eq_getElem?_getD,List.getElem?_append_right (by rw[List.length_set];exact Nat.le_refl _),List.length_set]
   simp
  ·rw[if_neg e,if_neg e]
   have h1:=h.lt j hj
   have h2:(l.getD k (0,0,0)).1≠(l.getD j (0,0,0)).1:=fun e2=>e (h.inj j k hj hk e2.symm)
   rw[List.getD_eq_getElem?_getD,List.getElem?_append_left (by rw[List.length_set];exact h1),List.getElem?_set_ne h2,←List.getD_eq_getElem?_getD]
   exact h.row j hj
 ·rw[get,get] at e
  by_cases e1:j=k
  ·by_cases e2:j'=k
   ·rw[e1,e2]
   ·rw[if_pos e1,if_neg e2] at e
    have:=h.lt j' hj'
    simp only at e
    omega
  ·by_cases e2:j'=k
   ·rw[if_neg e1,if_pos e2] at e
    have:=h.lt j hj
    simp only at e
    omega
   ·rw[if_neg e1,if_neg e2] at e
    exact h.inj j j' hj hj' e
theorem Rep.congr {n:Nat} {p:Pg} {l:List Cl} {a:List (Option (List Int))} {C C':Nat→List Int} (h:Rep n p l a C) (hc:∀k,k<n→C k=C' k):Rep n p l a C' :=
 ⟨h.len,h.2,h.lt,fun k hk=>by rw[h.row k hk,hc k hk],h.inj⟩
theorem Rep.out {n:Nat} {p:Pg} {l:List Cl} {a:List (Option (List Int))} {C:Nat→List Int} (h:Rep n p l a C):(l.all fun x=>liveB a x.1&&true)=true∧l.map (fun x=>(Dn.rowD a x.1,x.2))=rowL n fun k=>(C k,1,p.1.getD k 0):=by
 constructor
 ·rw[all_idx (P:=fun x:Cl=>liveB a x.1&&true) (0,0,0)]
  intro k hk
  rw[h.len] at hk
  rw[h.live hk]
  rfl
 ·refine List.ext_getElem (by rw[List.length_map,rowL_len,h.len]) fun k h1 h2=>?_
  rw[List.length_map,h.len] at h1
  rw[List.getElem_map,rowL_at]
  have e:l[k]'(by rw[h.len];exact h1)=l.getD k (0,0,0):=(getD_nat (by rw[h.len];exact h1)).symm
  rw[e,h.rowD h1,h.2 k h1]
end Go.Proofs.Ytnbbackjofgcfaa

namespace Go.Proofs.Ytnbbackjofgcfaa
open Try Dn Dn.Sh
abbrev Tc:=List Cl×List (Option (List Int))
theorem add_loop {n:Nat} {p:Pg} {R:Type} {F:(Int×Tc×PUnit→Option R)→Int×Tc×PUnit→Option R} (Q:Option R→Prop) {l:List Cl} {a:List (Option (List Int))} {C:Nat→List Int} {s:Int} {co:List Int} (hn:n≤12)
  (hC:∀k,k<n→(C k).length≤100) (hr:Rep n p l a C)
  (hF:∀again (k:Nat) l a,k<n→l.length=n→F again ((k:Int),(l,a),PUnit.unit)=bif liveB a (l.getD k (0,0,0)).1&&fitB ((Dn.rowD a (l.getD k (0,0,0)).1).length+1) 8 then
   again (((k+1:Nat):Int),(l.set k (a.length,(l.getD k (0,0,0)).2),a.set (l.getD k (0,0,0)).1 none++[some (Dn.rowD a (l.getD k (0,0,0)).1++[s*co.getD k 0])]++[]),PUnit.unit) else none)
  (hend:∀again l a,Rep n p l a (fun k=>C k++[s*co.getD k 0])→Q (F again ((n:Int),(l,a),PUnit.unit))):Q (lpK (Int×Tc×PUnit) R F ((0:Int),(l,a),PUnit.unit)):=by
 refine lpK_inv Q n (by omega) (fun k x=>∃l a,x=((k:Int),(l,a),PUnit.unit)∧Rep n p l a (fun j=>if j<k then C j++[s*co.getD j 0] else C j)) ⟨l,a,rfl,hr.congr fun k _=>(if_neg (by omega)).symm⟩ ?_ ?_
 ·rintro again k _ hk ⟨l,a,rfl,h⟩
  have hrow:=h.rowD hk
  simp only[if_neg (Nat.lt_irrefl k)] at hrow
  have:=hC k hk
  refine ⟨_,⟨_,_,rfl,(h.put hk (C k++[s*co.getD k 0])).congr fun j _=>?_⟩,?_⟩
  ·by_cases e:j=k
   ·rw[if_pos e,if_pos (by omega),e]
   ·rw[if_neg e]
    by_cases c:j<k
    ·rw[if_pos c,if_pos (by omega)]
    ·rw[if_neg c,if_neg (by omega)]
  ·rw[hF again k l a hk h.len,h.live hk,hrow,fitB_of (by omega)]
   rfl
 ·rintro again _ ⟨l,a,rfl,h⟩
  exact hend again l a (h.congr fun k hk=>if_pos hk)
theorem dCoef_succ {p:Pg} {i k:Nat}:dCoef p (colS p (i+1)) k=dCoef p (colS p i) k++(sgK (p.2.getD i rw0).2.1).map fun s=>s*(p.2.getD i rw0).1.getD k 0:=by
 unfold dCoef
 simp only[colS,List.map_append,List.map_map]
 rfl
theorem dCost_succ {p:Pg} {i:Nat}:dCost p (colS p (i+1))=dCost p (colS p i)++(sgK (p.2.getD i rw0).2.1).map fun s=>0 - s*(p.2.getD i rw0).2.2:=by
 unfold dCost
 simp only[colS,List.map_append,List.map_map]
 rfl
def dualR (p:Pg):Pg×Int×Unit:=if p.2.length=0 then (([],[]),14,()) else if 6<p.1.length∨12<(colS p p.2.length).length then (([],[]),4,()) else bif bigP p p.2.length then (([],[]),5,()) else (dualP p,0,())
theorem dual_ok {p:Pg}:program_Dual p=some (bif validP p then dualR p else (([],[]),1,())):=by
 unfold program_Dual program_Dual_b
 rw[pValid_ok,obN]
 cases hv:validP p with
 | false=>rfl
 | true =>
 have hV:=validP_iff.1 hv
 have hm:=hV.rows
 have hn:=hV.cost
 simp only[Bool.not_true,cF,cT]
 by_cases h0:p.2.length=0
 ·rw[decide_eq_true (show ((p.2.length:Nat):Int)=0 by omega)]
  unfold dualR
  rw[if_pos h0]
  rfl
 have hw1:IntKind.wrap .i64 ((0:Int) - 1)= -1:=by rw[wrap_id (by omega) (by omega)];rfl
 have hw2:IntKind.wrap .i64 ((0:Int) - (-1))=1:=by rw[wrap_id (by omega) (by omega)];rfl
 have hi:∀e0:Bool,(!e0||e0)=true:=fun e0=>by cases e0<;>rfl
 have hj:∀e0:Bool,(e0||!e0)=true:=fun e0=>by cases e0<;>rfl
 simp only[decide_eq_false (show ¬ ((p.2.length:Nat):Int)=0 by omega),cF,decide_eq_true (show (0:Int)≤(p.1.length:Nat) by omega),Int.toNat_natCast,fitB_of (show p.1.length*40≤140737488355328 by omega),Bool.and_self,cT,hw1,hw2]
 refine lpK_inv (fun o=>o=some (dualR p)) p.1.length (by omega) (fun i x=>∃l,x=((i:Int),(l,List.replicate (p.1.length+i) (some [])),PUnit.unit)∧l.length=p.1.length∧∀j,j<i→l.getD j (0,0,0)=(p.1.length+j,(1:Int),p.1.getD j 0)) ⟨_,rfl,?_,fun j hj=>by omega⟩ ?_ ?_
 ·refine Eq.trans (b:=(tabZ (.agg (.pair .ref (.pair i64 i64))) (0,0,0) p.1.length 0).length) ?_ (tabZ_len (.agg (.pair .ref (.pair i64 i64))) (0,0,0) p.1.length 0)
  kernel_rfl
 ·rintro again i _ hil ⟨l,rfl,hl,hg⟩
  refine ⟨(((i+1:Nat):Int),(l.set i (p.1.length+i,(1:Int),p.1.getD i 0),List.replicate (p.1.length+(i+1)) (some [])),PUnit.unit),⟨_,rfl,by rw[List.length_set];exact hl,fun j hj=>?_⟩,?_⟩
  ·by_cases e:j=i
   ·rw[e,lget_set_self (by omega)]
   ·rw[lget_set_ne (Ne.symm e)]
    exact hg j (by omega)
  ·simp only[decide_eq_true (show (i:Int)<p.1.length by omega),inB_nat,decide_eq_true hil,Int.toNat_natCast,hl,ble_of (show Nat.succ i≤p.1.length from hil),cT,List.length_replicate,succ_wrap (show i≤1000000 by omega)]
   rw[show List.replicate (p.1.length+i) (some ([]:List Int))++[some []]=List.replicate (p.1.length+(i+1)) (some []) from by rw[←Nat.add_assoc,List.replicate_succ']]
 ·rintro again _ ⟨l,rfl,hl,hg⟩
  simp only[decide_eq_false (show ¬ (p.1.length:Int)<p.1.length by omega),cF]
  have hrep:Rep p.1.length p l (List.replicate (p.1.length+p.1.length) (some [])) (fun _=>[]):=by
   refine ⟨hl,fun k hk=>by rw[hg k hk],fun k hk=>by rw[hg k hk,List.length_replicate];simp only;omega,fun k hk=>?_,fun k k' hk hk' e=>?_⟩
   ·rw[hg k hk,List.getD_eq_getElem?_getD,List.getElem?_replicate,if_pos (by simp only;omega)]
    rfl
   ·rw[hg k hk,hg k' hk'] at e
    simp only at e
    omega
  refine lpK_inv (fun o=>o=some (dualR p)) p.2.length (by omega) (fun i x=>∃l a,x=(bigP p i,(i:Int),dCost p (colS p i),(l,a),PUnit.unit)∧Rep p.1.length p l a (fun k=>dCoef p (colS p i) k)) ⟨_,_,rfl,hrep⟩ ?_ ?_
  ·rintro again i _ hil ⟨l,a,rfl,hr⟩
   have hrm:p.2.getD i rw0 ∈ p.2:=by rw[getD_nat hil];exact List.getElem_mem _
   have hR:=of_decide_eq_true (hV.right _ hrm)
   have hlen:=hV.len _ hrm
   have hkd:=hV.kind _ hrm
   have hcl:=colS_len p i
   have hcoef:∀k,-1048576≤(p.2.getD i rw0).1.getD k 0∧(p.2.getD i rw0).1.getD k 0≤1048576:=fun k=>ab_le.1 (size_small (hV.coefs _ hrm) k)
   have hbig:(bif (bif bigP p i then true else decide ((p.2.getD i rw0).2.2< -1048576)) then true else decide ((p.2.getD i rw0).2.2>1048576))=bigP p (i+1):=by
    simp only[bigP,bigR]
    cases bigP p i<;>cases decide ((p.2.getD i rw0).2.2< -1048576)<;>rfl
   have hlc:∀k,k<p.1.length→(dCoef p (colS p i) k).length≤12:=fun k _=>by
    unfold dCoef
    rw[List.length_map]
    omega
   have hlcost:(dCost p (colS p i)).length≤12:=by
    unfold dCost
    rw[List.length_map]
    omega
   have hcm:∀k,IntKind.wrap .i64 (-1*(p.2.getD i rw0).1.getD k 0)= -1*(p.2.getD i rw0).1.getD k 0:=fun k=>by have:=hcoef k;rw[wrap_id (by omega) (by omega)]
   have hcp:∀k,IntKind.wrap .i64 (1*(p.2.getD i rw0).1.getD k 0)=1*(p.2.getD i rw0).1.getD k 0:=fun k=>by have:=hcoef k;rw[wrap_id (by omega) (by omega)]
   simp only[decide_eq_true (show (i:Int)<p.2.length by omega),inB_nat,decide_eq_true hil,Int.toNat_natCast,hi,hj,cT,hbig,hr.len,succ_wrap (show i≤1000000 by omega),fitB_of (show ((dCost p (colS p i)).length+1)*8≤140737488355328 by omega),wrap_id (show -9223372036854775808≤ -1*(p.2.getD i rw0).2.2 by omega) (by omega),wrap_id (show -9223372036854775808≤1*(p.2.getD i rw0).2.2 by omega) (by omega)]
   have fin:∀{o},(∃l a,Rep p.1.length p l a (fun k=>dCoef p (colS p (i+1)) k)∧o=again (bigP p (i+1),((i+1:Nat):Int),dCost p (colS p (i+1)),(l,a),PUnit.unit)) →
     ∃y,(∃l a,y=(bigP p (i+1),((i+1:Nat):Int),dCost p (colS p (i+1)),(l,a),PUnit.unit)∧Rep p.1.length p l a (fun k=>dCoef p (colS p (i+1)) k))∧o=again y:=by
    rintro o ⟨l,a,h1,h2⟩
    exact ⟨_,⟨l,a,rfl,h1⟩,h2⟩
   by_cases k1:(p.2.getD i rw0).2.1=1
   ·have hs:sgK (p.2.getD i rw0).2.1=[-1]:=if_pos k1
    rw[decide_eq_true k1,decide_eq_false (show ¬ (p.2.getD i rw0).2.1=2 by omega)]
    simp only[Bool.not_true,Bool.not_false,cT,cF]
    refine fin (add_loop (fun o=>∃l a,Rep p.1.length p l a (fun k=>dCoef p (colS p (i+1)) k)∧o=again (bigP p (i+1),((i+1:Nat):Int),dCost p (colS p (i+1)),(l,a),PUnit.unit)) (s:= -1) (co:=(p.2.getD i rw0).1) (by omega) (fun k hk=>by have:=hlc k hk;omega) hr (fun again2 k l a hk hl=>?_) (fun again2 l a h=>?_))
    ·simp only[decide_eq_true (show (k:Int)<p.1.length by omega),inB_nat,Int.toNat_natCast,hl,hlen,decide_eq_true hk,ble_of (show Nat.succ k≤p.1.length from hk),cT,succ_wrap (show k≤1000000 by omega),hcm]
    ·refine ⟨l,a,h.congr fun k _=>by rw[dCoef_succ,hs];rfl,?_⟩
     simp only[decide_eq_false (show ¬ (p.1.length:Int)<p.1.length by omega),cF]
     rw[dCost_succ,hs]
     simp only[List.map_cons,List.map_nil]
     rw[show 0 - -1*(p.2.getD i rw0).2.2=1*(p.2.getD i rw0).2.2 by omega]
   ·by_cases k2:(p.2.getD i rw0).2.1=2
    ·have hs:sgK (p.2.getD i rw0).2.1=[1]:=by unfold sgK;rw[if_neg k1,if_pos k2]
     rw[decide_eq_false k1,decide_eq_true k2]
     simp only[Bool.not_true,Bool.not_false,cT,cF]
     refine fin (add_loop (fun o=>∃l a,Rep p.1.length p l a (fun k=>dCoef p (colS p (i+1)) k)∧o=again (bigP p (i+1),((i+1:Nat):Int),dCost p (colS p (i+1)),(l,a),PUnit.unit)) (s:=1) (co:=(p.2.getD i rw0).1) (by omega) (fun k hk=>by have:=hlc k hk;omega) hr (fun again2 k l a hk hl=>?_) (fun again2 l a h=>?_))
     ·simp only[decide_eq_true (show (k:Int)<p.1.length by omega),inB_nat,Int.toNat_natCast,hl,hlen,decide_eq_true hk,ble_of (show Nat.succ k≤p.1.length from hk),cT,succ_wrap (show k≤1000000 by omega),hcp]
     ·refine ⟨l,a,h.congr fun k _=>by rw[dCoef_succ,hs];rfl,?_⟩
      simp only[decide_eq_false (show ¬ (p.1.length:Int)<p.1.length by omega),cF]
      rw[dCost_succ,hs]
      simp only[List.map_cons,List.map_nil]
      rw[show 0 - 1*(p.2.getD i rw0).2.2= -1*(p.2.getD i rw0).2.2 by omega]
    ·have hs:sgK (p.2.getD i rw0).2.1=[1,-1]:=by unfold sgK;rw[if_neg k1,if_neg k2]
     rw[decide_eq_false k1,decide_eq_false k2]
     simp only[Bool.not_false,cT]
     refine fin (add_loop (fun o=>∃l a,Rep p.1.length p l a (fun k=>dCoef p (colS p (i+1)) k)∧o=again (bigP p (i+1),((i+1:Nat):Int),dCost p (colS p (i+1)),(l,a),PUnit.unit)) (s:=1) (co:=(p.2.getD i rw0).1) (by omega) (fun k hk=>by have:=hlc k hk;omega) hr (fun again2 k l a hk hl=>?_) (fun again2 l a h=>?_))
     ·simp only[decide_eq_true (show (k:Int)<p.1.length by omega),inB_nat,Int.toNat_natCast,hl,hlen,decide_eq_true hk,ble_of (show Nat.succ k≤p.1.length from hk),cT,succ_wrap (show k≤1000000 by omega),hcp]
     ·simp only[decide_eq_false (show ¬ (p.1.length:Int)<p.1.length by omega),cF,fitB_of (show ((dCost p (colS p i)++[-1*(p.2.getD i rw0).2.2]).length+1)*8≤140737488355328 by rw[List.length_append,List.length_singleton];omega),cT,h.len]
      refine add_loop (fun o=>∃l a,Rep p.1.length p l a (fun k=>dCoef p (colS p (i+1)) k)∧o=again (bigP p (i+1),((i+1:Nat):Int),dCost p (colS p (i+1)),(l,a),PUnit.unit)) (s:= -1) (co:=(p.2.getD i rw0).1) (by omega) (fun k hk=>by have:=hlc k hk;rw[List.length_append,List.length_singleton];omega) h (fun again2 k l a hk hl=>?_) (fun again2 l a h=>?_)
      ·simp only[decide_eq_true (show (k:Int)<p.1.length by omega),inB_nat,Int.toNat_natCast,hl,hlen,decide_eq_true hk,ble_of (show Nat.succ k≤p.1.length from hk),cT,succ_wrap (show k≤1000000 by omega),hcm]
      ·refine ⟨l,a,h.congr fun k _=>by rw[dCoef_succ,hs,List.append_assoc];rfl,?_⟩
       simp only[decide_eq_false (show ¬ (p.1.length:Int)<p.1.length by omega),cF]
       rw[dCost_succ,hs,List.append_assoc]
       simp only[List.map_cons,List.map_nil,List.cons_append,List.nil_append]
       rw[show 0 - 1*(p.2.getD i rw0).2.2= -1*(p.2.getD i rw0).2.2 by omega,show 0 - -1*(p.2.getD i rw0).2.2=1*(p.2.getD i rw0).2.2 by omega]
  ·rintro again _ ⟨l,a,rfl,hr⟩
   obtain ⟨o1,o2⟩:=hr.out
   have hlc:(dCost p (colS p p.2.length)).length=(colS p p.2.length).length:=List.length_map ..
   simp only[decide_eq_false (show ¬ (p.2.length:Int)<p.2.length by omega),cF,hi,hj,cT,hr.len,hlc]
   unfold dualR
   rw[if_neg h0]
   by_cases c1:6<p.1.length∨12<(colS p p.2.length).length
   ·rw[if_pos c1]
    rcases c1 with c | c
    ·rw[decide_eq_true (show (p.1.length:Int)>6 by omega)];rfl
    ·rw[decide_eq_true (show ((colS p p.2.length).length:Int)>12 by omega)]
     cases decide ((p.1.length:Int)>6)<;>rfl
   ·rw[if_neg c1,decide_eq_false (show ¬ (p.1.length:Int)>6 by omega),decide_eq_false (show ¬ ((colS p p.2.length).length:Int)>12 by omega)]
    simp only[cF]
    cases bigP p p.2.length with
    | true=>rfl
    | false =>
     simp only[cF]
     rw[o1,o2]
     rfl
end Go.Proofs.Ytnbbackjofgcfaa

namespace Go.Proofs.Ytnbbackjofgcfaa
open Try Dn Dn.Sh
theorem col_any {p:Pg}:∀i,(colS p i).any (fun c=>bigR p c.2)=bigP p i
 | 0=>rfl
 | i+1=>by
  simp only[colS,List.any_append,bigP,col_any i,List.any_map]
  congr 1
  unfold sgK
  split
  ·simp
  ·split<;>simp
theorem col_row {p:Pg}:∀{i:Nat},∀c ∈ colS p i,c.2<i∧(c.1=1∨c.1= -1)
 | 0,c,h=>by simp[colS] at h
 | i+1,c,h=>by
  simp only[colS,List.mem_append,List.mem_map] at h
  rcases h with h | ⟨s,hs,rfl⟩
  ·have:=col_row c h
   exact ⟨by omega,this.2⟩
  ·refine ⟨by simp,?_⟩
   unfold sgK at hs
   split at hs
   ·simp at hs;exact .inr hs
   ·split at hs
    ·simp at hs;exact .inl hs
    ·simpa using hs
theorem map_at {α β:Type} {f:α→β} {l:List α} {d:α} {e:β} {j:Nat} (hj:j<l.length):(l.map f).getD j e=f (l.getD j d):=by
 rw[getD_nat (by rw[List.length_map];exact hj),List.getElem_map,getD_nat hj]
theorem within_ok {n:Int}:ref05_within n 1048576=some (!(decide (n< -1048576)||decide (n>1048576))):=by
 have hw:IntKind.wrap .i64 ((0:Int) - 1048576)= -1048576:=by rw[wrap_id (by omega) (by omega)];rfl
 simp only[ref05_within,ref05_within_b,hw]
 by_cases c1:n< -1048576
 ·rw[decide_eq_true c1,decide_eq_false (show ¬ n≥ -1048576 by omega)]
  rfl
 ·rw[decide_eq_false c1,decide_eq_true (show n≥ -1048576 by omega)]
  by_cases c2:n>1048576
  ·rw[decide_eq_true c2,decide_eq_false (show ¬ n≤1048576 by omega)];rfl
  ·rw[decide_eq_false c2,decide_eq_true (show n≤1048576 by omega)];rfl
theorem rdual_ok {p:Pg} (hV:ValidP p):ref05_Dual p=some (dualR p):=by
 have hm:=hV.rows
 have hn:=hV.cost
 have hi:∀e0:Bool,(!e0||e0)=true:=fun e0=>by cases e0<;>rfl
 have hj:∀e0:Bool,(e0||!e0)=true:=fun e0=>by cases e0<;>rfl
 unfold ref05_Dual ref05_Dual_b
 by_cases h0:p.2.length=0
 ·rw[decide_eq_true (show ((p.2.length:Nat):Int)=0 by omega)]
  unfold dualR
  rw[if_pos h0]
  rfl
 simp only[decide_eq_false (show ¬ ((p.2.length:Nat):Int)=0 by omega),cF,hi,hj,cT]
 refine lpK_seqX p.2.length (by omega) (fun i=>((colS p i).map (·.1),(colS p i).map (fun c=>(c.2:Int)),(i:Int),PUnit.unit)) _ rfl (fun again i hil=>?_) (fun again=>?_)
 ·have hcl:=colS_len p i
  have hrm:p.2.getD i rw0 ∈ p.2:=by rw[getD_nat hil];exact List.getElem_mem _
  have hkd:=hV.kind _ hrm
  simp only[decide_eq_true (show (i:Int)<p.2.length by omega),inB_nat,decide_eq_true hil,Int.toNat_natCast,cT,jnK_eq',List.length_map,List.length_append,List.length_singleton,fitB_of (show ((colS p i).length+1)*8≤140737488355328 by omega),fitB_of (show ((colS p i).length+1+1)*8≤140737488355328 by omega),succ_wrap (show i≤1000000 by omega)]
  have hst:∀(l:List Int),sgK (p.2.getD i rw0).2.1=l→((colS p (i+1)).map (fun c=>c.1),(colS p (i+1)).map (fun c=>(c.2:Int)))=((colS p i).map (fun c=>c.1)++l,(colS p i).map (fun c=>(c.2:Int))++l.map fun _=>(i:Int)):=fun l hl=>by
   simp only[colS,hl,List.map_append,List.map_map]
   congr 2
   have:((fun c:Int×Nat=>c.1) ∘ fun s=>(s,i))=id:=rfl
   rw[this,List.map_id]
  by_cases k1:(p.2.getD i rw0).2.1=1
  ·have:=hst [-1] (if_pos k1)
   rw[decide_eq_true k1,decide_eq_false (show ¬ (p.2.getD i rw0).2.1=3 by omega)]
   simp only[cT,cF]
   rw[show (List.map (fun x:Int×Nat=>x.1) (colS p (i+1)))=_ from congrArg Prod.fst this,show (List.map (fun c:Int×Nat=>(c.2:Int)) (colS p (i+1)))=_ from congrArg Prod.snd this]
   rfl
  ·by_cases k2:(p.2.getD i rw0).2.1=2
   ·have:=hst [1] (by unfold sgK;rw[if_neg k1,if_pos k2])
    rw[decide_eq_false k1,decide_eq_false (show ¬ (p.2.getD i rw0).2.1=3 by omega)]
    simp only[cF]
    rw[show (List.map (fun x:Int×Nat=>x.1) (colS p (i+1)))=_ from congrArg Prod.fst this,show (List.map (fun c:Int×Nat=>(c.2:Int)) (colS p (i+1)))=_ from congrArg Prod.snd this]
    rfl
   ·have:=hst [1,-1] (by unfold sgK;rw[if_neg k1,if_neg k2])
    rw[decide_eq_false k1,decide_eq_true (show (p.2.getD i rw0).2.1=3 by omega)]
    simp only[cF,cT]
    rw[show (List.map (fun x:Int×Nat=>x.1) (colS p (i+1)))=_ from congrArg Prod.fst this,show (List.map (fun c:Int×Nat=>(c.2:Int)) (colS p (i+1)))=_ from congrArg Prod.snd this]
    simp only[List.append_assoc,List.cons_append,List.nil_append,List.map_cons,List.map_nil]
 ·simp only[decide_eq_false (show ¬ (p.2.length:Int)<p.2.length by omega),cF,List.length_map]
  obtain ⟨cs,hcs⟩:∃cs,cs=colS p p.2.length:=⟨_,rfl⟩
  have hlen:=colS_len p p.2.length
  have hrow:∀c ∈ cs,c.2<p.2.length∧(c.1=1∨c.1= -1):=fun c hc=>col_row c (by rw[←hcs];exact hc)
  have hbig:cs.any (fun c=>bigR p c.2)=bigP p p.2.length:=by rw[hcs];exact col_any _
  unfold dualR dualP
  rw[if_neg h0,←hcs]
  rw[←hcs] at hlen
  by_cases c1:6<p.1.length∨12<cs.length
  ·rw[if_pos c1]
   rcases c1 with c | c
   ·rw[decide_eq_true (show (p.1.length:Int)>6 by omega)];rfl
   ·rw[decide_eq_true (show (cs.length:Int)>12 by omega)]
    cases decide ((p.1.length:Int)>6)<;>rfl
  ·rw[if_neg c1,decide_eq_false (show ¬ (p.1.length:Int)>6 by omega),decide_eq_false (show ¬ (cs.length:Int)>12 by omega)]
   simp only[cF,Bool.not_false,Bool.or_true,cT]
   have hat:∀j,j<cs.length→(cs.getD j (0,0)).2<p.2.length∧((cs.getD j (0,0)).1=1∨(cs.getD j (0,0)).1= -1):=fun j hj'=>hrow _ (by rw[getD_nat hj'];exact List.getElem_mem _)
   have g1:∀j,j<cs.length→(cs.map (fun x:Int×Nat=>x.1)).getD j 0=(cs.getD j (0,0)).1:=fun j hj'=>map_at hj'
   have g2:∀j,j<cs.length→(cs.map (fun c:Int×Nat=>(c.2:Int))).getD j 0=((cs.getD j (0,0)).2:Int):=fun j hj'=>map_at hj'
   have hok:∀j,j<cs.length→ref05_within (p.2.getD (cs.getD j (0,0)).2 rw0).2.2 1048576=some (!bigR p (cs.getD j (0,0)).2):=fun j _=>within_ok
   rw[←hbig]
   rcases first_of cs.length (fun j=>bigR p (cs.getD j (0,0)).2) with hnone | ⟨q,hq,hbq,hleast⟩
   ·have hall:cs.any (fun c=>bigR p c.2)=false:=by
     rw[List.any_eq_false]
     intro c hc
     obtain ⟨j,hj',rfl⟩:=List.getElem_of_mem hc
     have:=hnone j hj'
     rw[getD_nat hj'] at this
     rw[this]
     simp
    rw[hall]
    simp only[cF]
    refine lpK_seqX cs.length (by omega) (fun j=>((j:Int),([],[]),dCost p (cs.take j),[],PUnit.unit)) _ rfl (fun again j hj'=>?_) (fun again=>?_)
    ·obtain ⟨r1,r2⟩:=hat j hj'
     have hrm:p.2.getD (cs.getD j (0,0)).2 rw0 ∈ p.2:=by rw[getD_nat r1];exact List.getElem_mem _
     have hR: -1073741824≤(p.2.getD (cs.getD j (0,0)).2 ([],(0:Int),(0:Int))).2.2∧(p.2.getD (cs.getD j (0,0)).2 ([],(0:Int),(0:Int))).2.2≤1073741824:=of_decide_eq_true (hV.right _ hrm)
     have hdl:(dCost p (cs.take j)).length≤12:=by unfold dCost;rw[List.length_map,List.length_take];omega
     simp only[decide_eq_true (show (j:Int)<cs.length by omega),inB_nat,decide_eq_true hj',Int.toNat_natCast,ble_of (show Nat.succ j≤cs.length from hj'),cT,g1 j hj',g2 j hj',decide_eq_true r1,hok j hj',hnone j hj',obind_some',Bool.not_false,Bool.not_true,cF,fitB_of (show ((dCost p (cs.take j)).length+1)*8≤140737488355328 by omega),succ_wrap (show j≤1000000 by omega)]
     congr 4
     rw[List.take_succ_eq_append_getElem hj']
     unfold dCost
     rw[List.map_append,List.map_singleton]
     congr 2
     rw[show cs[j]=cs.getD j (0,0) from (getD_nat hj').symm]
     rcases r2 with e | e
     ·rw[e,wrap_id (x:=1*_) (by omega) (by omega),wrap_id (by omega) (by omega)]
     ·rw[e,wrap_id (x:= -1*_) (by omega) (by omega),wrap_id (by omega) (by omega)]
    ·simp only[decide_eq_false (show ¬ (cs.length:Int)<cs.length by omega),cF,List.take_length]
     refine lpK_seqX p.1.length (by omega) (fun k=>((k:Int),dCost p cs,rowL k (fun k=>(dCoef p cs k,(1:Int),p.1.getD k 0)),PUnit.unit)) _ rfl (fun again2 k hk=>?_) (fun again2=>?_)
     ·simp only[decide_eq_true (show (k:Int)<p.1.length by omega),inB_nat,decide_eq_true hk,Int.toNat_natCast,cT]
      refine lpK_seqX cs.length (by omega) (fun j=>((j:Int),dCoef p (cs.take j) k,(1:Int),p.1.getD k 0,PUnit.unit)) _ rfl (fun again3 j hj'=>?_) (fun again3=>?_)
      ·obtain ⟨r1,r2⟩:=hat j hj'
       have hrm:p.2.getD (cs.getD j (0,0)).2 rw0 ∈ p.2:=by rw[getD_nat r1];exact List.getElem_mem _
       have hlr:=hV.len _ hrm
       have hcf: -1048576≤(p.2.getD (cs.getD j (0,0)).2 ([],(0:Int),(0:Int))).1.getD k 0∧(p.2.getD (cs.getD j (0,0)).2 ([],(0:Int),(0:Int))).1.getD k 0≤1048576:=ab_le.1 (size_small (hV.coefs _ hrm) k)
       have hdl:(dCoef p (cs.take j) k).length≤12:=by unfold dCoef;rw[List.length_map,List.length_take];omega
       simp only[decide_eq_true (show (j:Int)<cs.length by omega),inB_nat,decide_eq_true hj',Int.toNat_natCast,ble_of (show Nat.succ j≤cs.length from hj'),cT,g1 j hj',g2 j hj',decide_eq_true r1,hlr,decide_eq_true hk,fitB_of (show ((dCoef p (cs.take j) k).length+1)*8≤140737488355328 by omega),succ_wrap (show j≤1000000 by omega)]
       congr 3
       rw[List.take_succ_eq_append_getElem hj']
       unfold dCoef
       rw[List.map_append,List.map_singleton]
       congr 2
       rw[show cs[j]=cs.getD j (0,0) from (getD_nat hj').symm]
       rcases r2 with e | e
       ·rw[e,wrap_id (x:=1*_) (by omega) (by omega)]
       ·rw[e,wrap_id (x:= -1*_) (by omega) (by omega)]
      ·simp only[decide_eq_false (show ¬ (cs.length:Int)<cs.length by omega),cF,List.take_length,rowL_len,fitB_of (show (k+1)*40≤140737488355328 by omega),cT,succ_wrap (show k≤1000000 by omega)]
       rw[show (dCoef p cs k,(1:Int),p.1.getD k 0)=(fun k=>(dCoef p cs k,(1:Int),p.1.getD k 0)) k from rfl,rowL_snoc]
     ·simp only[decide_eq_false (show ¬ (p.1.length:Int)<p.1.length by omega),cF]
   ·have hany:cs.any (fun c=>bigR p c.2)=true:=by
     rw[List.any_eq_true]
     exact ⟨cs.getD q (0,0),by rw[getD_nat hq];exact List.getElem_mem _,hbq⟩
    rw[hany]
    simp only[cT]
    refine lpK_seqX q (by omega) (fun j=>((j:Int),([],[]),dCost p (cs.take j),[],PUnit.unit)) _ rfl (fun again j hj2=>?_) (fun again=>?_)
    ·have hj':j<cs.length:=by omega
     obtain ⟨r1,r2⟩:=hat j hj'
     have hrm:p.2.getD (cs.getD j (0,0)).2 rw0 ∈ p.2:=by rw[getD_nat r1];exact List.getElem_mem _
     have hR: -1073741824≤(p.2.getD (cs.getD j (0,0)).2 ([],(0:Int),(0:Int))).2.2∧(p.2.getD (cs.getD j (0,0)).2 ([],(0:Int),(0:Int))).2.2≤1073741824:=of_decide_eq_true (hV.right _ hrm)
     have hdl:(dCost p (cs.take j)).length≤12:=by unfold dCost;rw[List.length_map,List.length_take];omega
     simp only[decide_eq_true (show (j:Int)<cs.length by omega),inB_nat,decide_eq_true hj',Int.toNat_natCast,ble_of (show Nat.succ j≤cs.length from hj'),cT,g1 j hj',g2 j hj',decide_eq_true r1,hok j hj',hleast j hj2,obind_some',Bool.not_false,Bool.not_true,cF,fitB_of (show ((dCost p (cs.take j)).length+1)*8≤140737488355328 by omega),succ_wrap (show j≤1000000 by omega)]
     congr 4
     rw[List.take_succ_eq_append_getElem hj']
     unfold dCost
     rw[List.map_append,List.map_singleton]
     congr 2
     rw[show cs[j]=cs.getD j (0,0) from (getD_nat hj').symm]
     rcases r2 with e | e
     ·rw[e,wrap_id (x:=1*_) (by omega) (by omega),wrap_id (by omega) (by omega)]
     ·rw[e,wrap_id (x:= -1*_) (by omega) (by omega),wrap_id (by omega) (by omega)]
    ·obtain ⟨r1,r2⟩:=hat q hq
     simp only[decide_eq_true (show (q:Int)<cs.length by omega),inB_nat,decide_eq_true hq,Int.toNat_natCast,ble_of (show Nat.succ q≤cs.length from hq),cT,g2 q hq,decide_eq_true r1,hok q hq,hbq,obind_some',Bool.not_true,Bool.not_false]
theorem same_refl {d:Pg} (h1:d.1.length≤1000000) (h2:d.2.length≤1000000) (h3:∀r ∈ d.2,r.1.length≤1000000):ref05_Same d d=some true:=by
 have hi:∀e0:Bool,(!e0||e0)=true:=fun e0=>by cases e0<;>rfl
 have hj:∀e0:Bool,(e0||!e0)=true:=fun e0=>by cases e0<;>rfl
 simp only[ref05_Same,ref05_Same_b,decide_true,hi,hj,cT,Bool.not_true,Bool.and_self,cF]
 refine lpK_seqX d.1.length (by omega) (fun i=>((i:Int),PUnit.unit)) _ rfl (fun again i hil=>?_) (fun again=>?_)
 ·simp only[decide_eq_true (show (i:Int)<d.1.length by omega),inB_nat,decide_eq_true hil,cT,succ_wrap (show i≤1000000 by omega)]
 ·simp only[decide_eq_false (show ¬ (d.1.length:Int)<d.1.length by omega),cF]
  refine lpK_seqX d.2.length (by omega) (fun i=>((i:Int),PUnit.unit)) _ rfl (fun again2 i hil=>?_) (fun again2=>?_)
  ·have hr:=h3 (d.2.getD i rw0) (by rw[getD_nat hil];exact List.getElem_mem _)
   simp only[decide_eq_true (show (i:Int)<d.2.length by omega),inB_nat,decide_eq_true hil,Int.toNat_natCast,cT,succ_wrap (show i≤1000000 by omega)]
   refine lpK_seqX (d.2.getD i rw0).1.length (by omega) (fun k=>((k:Int),PUnit.unit)) _ rfl (fun again3 k hk=>?_) (fun again3=>?_)
   ·simp only[decide_eq_true (show (k:Int)<(d.2.getD i rw0).1.length by omega),inB_nat,decide_eq_true hk,cT,succ_wrap (show k≤1000000 by omega)]
   ·simp only[decide_eq_false (show ¬ ((d.2.getD i rw0).1.length:Int)<(d.2.getD i rw0).1.length by omega),cF]
  ·simp only[decide_eq_false (show ¬ (d.2.length:Int)<d.2.length by omega),cF]
theorem dualR_small {p:Pg} (hV:ValidP p):ref05_Same (dualR p).1 (dualR p).1=some true:=by
 have hm:=hV.rows
 have hn:=hV.cost
 have hl:=colS_len p p.2.length
 have e:ref05_Same ([],[]) ([],[])=some true:=same_refl (by simp) (by simp) (by simp)
 unfold dualR
 split
 ·exact e
 ·split
  ·exact e
  ·cases bigP p p.2.length with
   | true=>exact e
   | false =>
    refine same_refl ?_ ?_ fun r hr=>?_
    ·show (dCost p (colS p p.2.length)).length≤_
     unfold dCost
     rw[List.length_map]
     omega
    ·show (rowL p.1.length _).length≤_
     rw[rowL_len]
     omega
    ·have hr:r ∈ rowL p.1.length fun k=>(dCoef p (colS p p.2.length) k,(1:Int),p.1.getD k 0):=hr
     unfold rowL at hr
     obtain ⟨k,_,rfl⟩:=List.mem_map.1 hr
     unfold dCoef
     rw[List.length_map]
     omega
theorem lawDuals (p:Pg):law05_ProgramDuals p=some true:=by
 simp only[law05_ProgramDuals,law05_ProgramDuals_b,awakeP_ok,fewP_ok,obind_some',Bool.not_true,cF]
 cases fewB p with
 | false=>rfl
 | true =>
  simp only[Bool.not_true,cF,dual_ok,rValid_ok,obind_some']
  cases hv:validP p with
  | false =>
   have e:ref05_Same ([],[]) ([],[])=some true:=same_refl (by simp) (by simp) (by simp)
   simp only[cF,Bool.not_false,cT,e,obind_some']
   rfl
  | true =>
   have hV:=validP_iff.1 hv
   simp only[Bool.not_true,cF,cT,rdual_ok hV,obind_some',dualR_small hV,decide_true]
   rfl
end Go.Proofs.Ytnbbackjofgcfaa
