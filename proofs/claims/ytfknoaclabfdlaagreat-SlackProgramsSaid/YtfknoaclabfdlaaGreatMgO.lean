/- Sums of integers, and determinants. Tables of the simplex method: integers with a common denominator, as determinants of columns. Steps of the simplex method by the rule of least indices: they never come back to a basis. Steps of the simplex method come to an end: a measure. Linear programs over the rationals: what points and multipliers prove; and what tables of the simplex method prove. How great the numbers of a program's tables may get: the product of the rows' factors. Tables of programs: how great the numbers of the artificial columns may get. Tables of numbers as lists of rows, and loops over them. Systems: the matrix of both programs. Programs: sums of numbers times fractions. Programs: which points are feasible, as the program tells it. Systems: their programs, as both programs make them. Programs: feasible points and values, in both programs. The law ProgramForms. Programs: columns and right sides. Programs: the signs of multipliers. Programs: sums of columns below numbers; refutations. Programs: refutations, as the program tells them. Programs: refutations, as they are specified. Programs: refutations are the same in both programs. Systems: the law SlackPrograms. -/
import Derived.KernelRfl
import Derived.Test.YtfknoaclabfdlaaGreatMgN

namespace Go.Proofs.YtfknoaclabfdlaaGreat
namespace Dn
def ab (x:Int):Int:=(x.natAbs:Int)
theorem ab_nonneg (x:Int):0≤ab x:=by unfold ab;omega
theorem ab_mul (x y:Int):ab (x*y)=ab x*ab y:=by
 unfold ab
 rw[Int.natAbs_mul]
 rfl
def sz:Nat→(Nat→Int)→Int
 | 0,_=>0
 | n+1,f=>sz n f+f n
theorem sz_congr:∀{n:Nat} {f g:Nat→Int},(∀i,i<n→f i=g i)→sz n f=sz n g
 | 0,_,_,_=>rfl
 | n+1,f,g,h=>by
  simp only[sz]
  rw[sz_congr (n:=n) fun i hi=>h i (by omega),h n (by omega)]
theorem sz_add:∀{n:Nat} {f g:Nat→Int},sz n (fun i=>f i+g i)=sz n f+sz n g
 | 0,_,_=>rfl
 | n+1,f,g=>by
  simp only[sz]
  rw[sz_add]
  omega
theorem sz_mul:∀{n:Nat} {c:Int} {f:Nat→Int},sz n (fun i=>c*f i)=c*sz n f
 | 0,c,_=>by simp[sz]
 | n+1,c,f=>by
  simp only[sz]
  rw[sz_mul,Int.mul_add]
theorem sz_mulr {n:Nat} {c:Int} {f:Nat→Int}:sz n (fun i=>f i*c)=sz n f*c:=by
 rw[Int.mul_comm,←sz_mul]
 exact sz_congr fun i _=>Int.mul_comm _ _
theorem sz_zero:∀{n:Nat} {f:Nat→Int},(∀i,i<n→f i=0)→sz n f=0
 | 0,_,_=>rfl
 | n+1,f,h=>by
  simp only[sz]
  rw[sz_zero fun i hi=>h i (by omega),h n (by omega)]
  rfl
theorem sz_neg {n:Nat} {f:Nat→Int}:sz n (fun i=> - f i)= - sz n f:=by
 have:sz n (fun i=> - f i)=sz n (fun i=>(-1)*f i):=sz_congr fun i _=>by omega
 rw[this,sz_mul]
 omega
theorem sz_sub {n:Nat} {f g:Nat→Int}:sz n (fun i=>f i - g i)=sz n f - sz n g:=by
 have:sz n (fun i=>f i - g i)=sz n (fun i=>f i+ - g i):=sz_congr fun i _=>by omega
 rw[this,sz_add,sz_neg]
 omega
theorem sz_one:∀{n:Nat} {f:Nat→Int} {k:Nat},k<n→(∀i,i<n→i≠k→f i=0)→sz n f=f k
 | n+1,f,k,hk,h=>by
  simp only[sz]
  by_cases e:k=n
  ·subst e
   rw[sz_zero fun i hi=>h i (by omega) (by omega)]
   omega
  ·rw[sz_one (k:=k) (by omega) fun i hi hne=>h i (by omega) hne,h n (by omega) (fun e'=>e e'.symm)]
   omega
theorem sz_two {n:Nat} {f:Nat→Int} {k l:Nat} (hk:k<n) (hl:l<n) (hkl:k≠l) (h:∀i,i<n→i≠k→i≠l→f i=0):sz n f=f k+f l:=by
 have e:sz n f=sz n (fun i=>(if i=k then f k else 0)+(if i=l then f l else 0)):=sz_congr fun i hi=>by
  by_cases h1:i=k
  ·subst h1;rw[if_pos rfl,if_neg hkl];omega
  ·by_cases h2:i=l
   ·subst h2;rw[if_neg h1,if_pos rfl];omega
   ·rw[if_neg h1,if_neg h2,h i hi h1 h2];rfl
 rw[e,sz_add,sz_one hk (f:=fun i=>if i=k then f k else 0) (fun i _ hne=>if_neg hne),sz_one hl (f:=fun i=>if i=l then f l else 0) (fun i _ hne=>if_neg hne)]
 simp
theorem sz_swap:∀{m n:Nat} {f:Nat→Nat→Int},sz m (fun i=>sz n (fun j=>f i j))=sz n (fun j=>sz m (fun i=>f i j))
 | 0,n,f=>by
  simp only[sz]
  exact (sz_zero fun _ _=>rfl).symm
 | m+1,n,f=>by
  simp only[sz]
  rw[sz_swap,sz_add]
theorem sz_le:∀{n:Nat} {f g:Nat→Int},(∀i,i<n→f i≤g i)→sz n f≤sz n g
 | 0,_,_,_=>Int.le_refl _
 | n+1,f,g,h=>by
  simp only[sz]
  have:=sz_le (n:=n) fun i hi=>h i (by omega)
  have:=h n (by omega)
  omega
def skip (k j:Nat):Nat:=if j<k then j else j+1
def sgd (k:Nat):Int:=if k % 2=0 then 1 else -1
theorem sgd_succ (k:Nat):sgd (k+1)= - sgd k:=by
 unfold sgd
 split<;>split<;>omega
def minor (A:Nat→Nat→Int) (k:Nat):Nat→Nat→Int:=fun i j=>A (i+1) (skip k j)
def det:Nat→(Nat→Nat→Int)→Int
 | 0,_=>1
 | n+1,A=>sz (n+1) fun k=>sgd k*A 0 k*det n (minor A k)
def setC (A:Nat→Nat→Int) (c:Nat) (v:Nat→Int):Nat→Nat→Int:=fun i j=>if j=c then v i else A i j
theorem det_congr:∀{n:Nat} {A B:Nat→Nat→Int},(∀i j,i<n→j<n→A i j=B i j)→det n A=det n B
 | 0,_,_,_=>rfl
 | n+1,A,B,h=>by
  simp only[det]
  refine sz_congr fun k hk=>?_
  rw[h 0 k (by omega) hk,det_congr (A:=minor A k) (B:=minor B k) fun i j hi hj=>h (i+1) (skip k j) (by omega) (by unfold skip;split<;>omega)]
theorem minor_setC_same {A:Nat→Nat→Int} {k:Nat} {v:Nat→Int}:minor (setC A k v) k=minor A k:=by
 funext i j
 unfold minor setC
 rw[if_neg]
 unfold skip
 split<;>omega
def pos' (k c:Nat):Nat:=if c<k then c else c - 1
theorem minor_setC {A:Nat→Nat→Int} {k c:Nat} {v:Nat→Int} (h:k≠c):minor (setC A c v) k=setC (minor A k) (pos' k c) (fun i=>v (i+1)):=by
 funext i j
 unfold minor setC skip pos'
 by_cases h1:j<k<;>by_cases h2:c<k
 ·simp only[h1,h2,if_true]
 ·simp only[h1,h2,if_true,if_false]
  rw[if_neg (by omega),if_neg (by omega)]
 ·simp only[h1,h2,if_true,if_false]
  rw[if_neg (by omega),if_neg (by omega)]
 ·simp only[h1,h2,if_false]
  by_cases h3:j+1=c
  ·rw[if_pos h3,if_pos (by omega)]
  ·rw[if_neg h3,if_neg (by omega)]
theorem det_add:∀{n:Nat} {A:Nat→Nat→Int} {c:Nat} {u v:Nat→Int},c<n→det n (setC A c fun i=>u i+v i)=det n (setC A c u)+det n (setC A c v)
 | n+1,A,c,u,v,hc=>by
  simp only[det]
  rw[←sz_add]
  refine sz_congr fun k hk=>?_
  by_cases h:k=c
  ·subst h
   simp only[minor_setC_same]
   have e:∀v:Nat→Int,setC A k v 0 k=v 0:=fun v=>by simp[setC]
   rw[e,e,e,Int.mul_add,Int.add_mul]
  ·have e:∀v:Nat→Int,setC A c v 0 k=A 0 k:=fun v=>by simp[setC,h]
   rw[minor_setC h,minor_setC h,minor_setC h,e,e,e,det_add (u:=fun i=>u (i+1)) (v:=fun i=>v (i+1)) (by unfold pos';split<;>omega),Int.mul_add]
theorem det_smul:∀{n:Nat} {A:Nat→Nat→Int} {c:Nat} {x:Int} {u:Nat→Int},c<n→det n (setC A c fun i=>x*u i)=x*det n (setC A c u)
 | n+1,A,c,x,u,hc=>by
  simp only[det]
  rw[←sz_mul]
  refine sz_congr fun k hk=>?_
  by_cases h:k=c
  ·subst h
   simp only[minor_setC_same]
   have e:∀v:Nat→Int,setC A k v 0 k=v 0:=fun v=>by simp[setC]
   rw[e,e]
   simp only[Int.mul_assoc,Int.mul_left_comm]
  ·have e:∀v:Nat→Int,setC A c v 0 k=A 0 k:=fun v=>by simp[setC,h]
   rw[minor_setC h,minor_setC h,e,e,det_smul (u:=fun i=>u (i+1)) (by unfold pos';split<;>omega)]
   simp only[Int.mul_assoc,Int.mul_left_comm]
theorem det_zero {n:Nat} {A:Nat→Nat→Int} {c:Nat} (hc:c<n):det n (setC A c fun _=>0)=0:=by
 have:=det_smul (n:=n) (A:=A) (x:=0) (u:=fun _=>0) hc
 simpa using this
theorem det_sum {n:Nat} {A:Nat→Nat→Int} {c:Nat} (hc:c<n):∀{m:Nat} {x:Nat→Int} {u:Nat→Nat→Int},det n (setC A c fun i=>sz m fun l=>x l*u l i)=sz m fun l=>x l*det n (setC A c (u l))
 | 0,x,u=>by simp only[sz];exact det_zero hc
 | m+1,x,u=>by
  simp only[sz]
  rw[det_add hc,det_smul hc,det_sum hc]
theorem det_adj:∀{n:Nat} {A:Nat→Nat→Int} {c:Nat},c+1<n→(∀i,i<n→A i c=A i (c+1))→det n A=0
 | n+1,A,c,hc,h=>by
  simp only[det]
  rw[sz_two (k:=c) (l:=c+1) (by omega) hc (by omega) fun k hk h1 h2=>?_]
  ·have e:det n (minor A c)=det n (minor A (c+1)):=by
    refine det_congr fun i j hi hj=>?_
    unfold minor skip
    by_cases h1:j<c
    ·rw[if_pos h1,if_pos (by omega)]
    ·by_cases h2:j=c
     ·subst h2
      rw[if_neg h1,if_pos (by omega)]
      exact (h (i+1) (by omega)).symm
     ·rw[if_neg h1,if_neg (by omega)]
   rw[e,sgd_succ,h 0 (by omega)]
   simp only[Int.neg_mul]
   omega
  ·have e:det n (minor A k)=0:=by
    refine det_adj (c:=pos' k c) ?_ fun i hi=>?_
    ·unfold pos';split<;>omega
    ·unfold minor skip pos'
     by_cases h3:c<k
     ·simp only[h3,if_true]
      rw[if_pos (by omega)]
      exact h (i+1) (by omega)
     ·simp only[h3,if_false]
      rw[if_neg (by omega),if_neg (by omega),show c - 1+1=c by omega]
      exact h (i+1) (by omega)
   rw[e,Int.mul_zero]
theorem setC_self (A:Nat→Nat→Int) (c:Nat):setC A c (fun i=>A i c)=A:=by
 funext i j
 unfold setC
 split
 ·rename_i h;rw[h]
 ·rfl
theorem setC_comm {A:Nat→Nat→Int} {c e:Nat} {u v:Nat→Int} (h:c≠e):setC (setC A c u) e v=setC (setC A e v) c u:=by
 funext i j
 unfold setC
 by_cases h1:j=c<;>by_cases h2:j=e
 ·omega
 ·simp[h1,h]
 ·simp[h2,Ne.symm h]
 ·simp[h1,h2]
theorem det_swap_adj {n:Nat} {A:Nat→Nat→Int} {c:Nat} {u v:Nat→Int} (hc:c+1<n):det n (setC (setC A c u) (c+1) v)= - det n (setC (setC A c v) (c+1) u):=by
 have h0:∀w:Nat→Int,det n (setC (setC A c w) (c+1) w)=0:=fun w=>det_adj hc fun i _=>by simp[setC]
 have h1:=h0 fun i=>u i+v i
 rw[det_add hc,setC_comm (by omega),setC_comm (u:=fun i=>u i+v i) (by omega),det_add (by omega),det_add (by omega),setC_comm (c:=c+1) (by omega),setC_comm (c:=c+1) (v:=v) (by omega),setC_comm (c:=c+1) (u:=v) (v:=u) (by omega),setC_comm (c:=c+1) (u:=v) (v:=v) (by omega),h0,h0] at h1
 omega
theorem det_eq:∀{k:Nat} {n:Nat} {A:Nat→Nat→Int} {c:Nat},c+k+1<n→(∀i,i<n→A i c=A i (c+k+1))→det n A=0
 | 0,n,A,c,hc,h=>det_adj hc h
 | k+1,n,A,c,hc,h=>by
  have e:A=setC (setC A (c+k+1) fun i=>A i (c+k+1)) (c+k+1+1) fun i=>A i (c+k+1+1):=by
   rw[setC_self,setC_self]
  rw[e,det_swap_adj (by omega)]
  have:det n (setC (setC A (c+k+1) fun i=>A i (c+k+1+1)) (c+k+1+1) fun i=>A i (c+k+1))=0:=by
   refine det_eq (k:=k) (c:=c) (by omega) fun i hi=>?_
   simp only[setC]
   rw[if_neg (by omega),if_neg (by omega),if_neg (by omega)]
   simp only[if_true]
   exact h i hi
  rw[this]
  rfl
theorem det_alt {n:Nat} {A:Nat→Nat→Int} {a b:Nat} (ha:a<n) (hb:b<n) (hab:a≠b) (h:∀i,i<n→A i a=A i b):det n A=0:=by
 by_cases hlt:a<b
 ·obtain ⟨k,rfl⟩:∃k,b=a+k+1:=⟨b - a - 1,by omega⟩
  exact det_eq hb h
 ·obtain ⟨k,rfl⟩:∃k,a=b+k+1:=⟨a - b - 1,by omega⟩
  exact det_eq ha fun i hi=>(h i hi).symm
theorem det_swap {n:Nat} {A:Nat→Nat→Int} {a b:Nat} {u v:Nat→Int} (ha:a<n) (hb:b<n) (hab:a≠b):det n (setC (setC A a u) b v)= - det n (setC (setC A a v) b u):=by
 have h0:∀w:Nat→Int,det n (setC (setC A a w) b w)=0:=fun w=>det_alt ha hb hab fun i _=>by simp[setC]
 have h1:=h0 fun i=>u i+v i
 rw[det_add hb,setC_comm hab,setC_comm (u:=fun i=>u i+v i) hab,det_add ha,det_add ha,setC_comm (c:=b) (Ne.symm hab),setC_comm (c:=b) (v:=v) (Ne.symm hab),setC_comm (c:=b) (u:=v) (v:=u) (Ne.symm hab),setC_comm (c:=b) (u:=v) (v:=v) (Ne.symm hab),h0,h0] at h1
 omega
def pz:Nat→(Nat→Int)→Int
 | 0,_=>1
 | n+1,f=>f 0*pz n fun i=>f (i+1)
end Dn
end Go.Proofs.YtfknoaclabfdlaaGreat

namespace Go.Proofs.YtfknoaclabfdlaaGreat
namespace Dn
def upd (β:Nat→Nat) (r c:Nat):Nat→Nat:=fun k=>if k=r then c else β k
def colsOf (M:Nat→Nat→Int) (γ:Nat→Nat):Nat→Nat→Int:=fun i k=>M i (γ k)
def dc (m:Nat) (M:Nat→Nat→Int) (γ:Nat→Nat):Int:=det m (colsOf M γ)
theorem colsOf_upd (M:Nat→Nat→Int) (β:Nat→Nat) (r c:Nat):colsOf M (upd β r c)=setC (colsOf M β) r (fun i=>M i c):=by
 funext i k
 unfold colsOf upd setC
 split<;>rfl
theorem upd_upd (β:Nat→Nat) (r c e:Nat):upd (upd β r c) r e=upd β r e:=by
 funext k
 unfold upd
 split<;>rfl
theorem upd_self (β:Nat→Nat) (r:Nat):upd β r (β r)=β:=by
 funext k
 unfold upd
 split
 ·rename_i h;rw[h]
 ·rfl
structure Tb (m w:Nat) (M T:Nat→Nat→Int) (d:Int) (β:Nat→Nat):Prop where
 dpos:0<d
 lt:∀i,i<m→β i<w
 co:∀k,k<m→∀j,j<w→d*M k j=sz m fun i=>T i j*M k (β i)
 cr:∃σ:Int,σ*σ=1∧d=σ*dc m M β∧∀i,i<m→∀j,j<w→T i j=σ*dc m M (upd β i j)
section
variable {m w:Nat} {M T:Nat→Nat→Int} {d:Int} {β:Nat→Nat}
theorem dc_upd_other {i k:Nat} (hi:i<m) (hk:k<m) (h:i≠k):dc m M (upd β i (β k))=0:=by
 refine det_alt hi hk h fun l _=>?_
 unfold colsOf upd
 rw[if_pos rfl,if_neg (Ne.symm h)]
theorem Tb.basis (h:Tb m w M T d β) {i:Nat} (hi:i<m):T i (β i)=d:=by
 obtain ⟨σ,_,h2,h3⟩:=h.cr
 rw[h3 i hi _ (h.lt i hi),upd_self,←h2]
theorem Tb.other (h:Tb m w M T d β) {i k:Nat} (hi:i<m) (hk:k<m) (hik:i≠k):T i (β k)=0:=by
 obtain ⟨σ,_,h2,h3⟩:=h.cr
 rw[h3 i hi _ (h.lt k hk),dc_upd_other hi hk hik,Int.mul_zero]
theorem Tb.inj (h:Tb m w M T d β) {i k:Nat} (hi:i<m) (hk:k<m) (hb:β i=β k):i=k:=by
 by_cases e:i=k
 ·exact e
 ·have h1:=h.other hi hk e
  rw[←hb,h.basis hi] at h1
  have:=h.dpos
  omega
theorem dc_two (h:Tb m w M T d β) {r i c j:Nat} (hr:r<m) (hi:i<m) (hri:r≠i) (hc:c<w) (hj:j<w) :
  d*d*dc m M (upd (upd β r c) i j)=(T r c*T i j - T i c*T r j)*dc m M β:=by
 obtain ⟨B,hB⟩:∃B,B=colsOf M β:=⟨_,rfl⟩
 have e1:d*d*dc m M (upd (upd β r c) i j)=det m (setC (setC B r fun q=>d*M q c) i fun q=>d*M q j):=by
  have a1:=det_smul (n:=m) (A:=setC B r fun q=>d*M q c) (c:=i) (x:=d) (u:=fun q=>M q j) hi
  have a2:=det_smul (n:=m) (A:=setC B i fun q=>M q j) (c:=r) (x:=d) (u:=fun q=>M q c) hr
  unfold dc
  rw[colsOf_upd,colsOf_upd,←hB,a1,setC_comm (u:=fun q=>d*M q c) hri,a2,setC_comm (u:=fun q=>M q c) hri,Int.mul_assoc]
 have e2:det m (setC (setC B r fun q=>d*M q c) i fun q=>d*M q j)=det m (setC (setC B r fun q=>sz m fun k=>T k c*B q k) i fun q=>sz m fun l=>T l j*B q l):=by
  refine det_congr fun p q hp hq=>?_
  unfold setC
  rw[hB]
  split
  ·exact h.co p hp j hj
  ·split
   ·exact h.co p hp c hc
   ·rfl
 rw[e1,e2,det_sum hi (x:=fun l=>T l j) (u:=fun l q=>B q l)]
 have e3:∀l,det m (setC (setC B r fun q=>sz m fun k=>T k c*B q k) i fun q=>B q l)=sz m fun k=>T k c*det m (setC (setC B i fun q=>B q l) r fun q=>B q k):=fun l=>by
  rw[setC_comm hri,det_sum hr (x:=fun k=>T k c) (u:=fun k q=>B q k)]
 have z1:∀k l,k<m→k≠r→k≠i→det m (setC (setC B i fun q=>B q l) r fun q=>B q k)=0:=fun k l hk h1 h2 =>
  det_alt hr hk h1.symm fun q _=>by simp[setC,h1,h2]
 have z2:∀k l,l<m→l≠r→l≠i→det m (setC (setC B i fun q=>B q l) r fun q=>B q k)=0:=fun k l hl h1 h2 =>
  det_alt hi hl h2.symm fun q _=>by simp[setC,h1,h2,hri.symm]
 have z3:det m (setC (setC B i fun q=>B q r) r fun q=>B q r)=0:=det_alt hi hr hri.symm fun q _=>by simp[setC,hri.symm]
 have z4:det m (setC (setC B i fun q=>B q i) r fun q=>B q i)=0:=det_alt hi hr hri.symm fun q _=>by simp[setC,hri.symm]
 have z5:det m (setC (setC B i fun q=>B q i) r fun q=>B q r)=det m B:=by
  rw[setC_self,setC_self]
 have z6:det m (setC (setC B i fun q=>B q r) r fun q=>B q i)= - det m B:=by
  rw[det_swap hi hr hri.symm,z5]
 have e4:∀l,l<m→(sz m fun k=>T k c*det m (setC (setC B i fun q=>B q l) r fun q=>B q k))=T r c*det m (setC (setC B i fun q=>B q l) r fun q=>B q r)+T i c*det m (setC (setC B i fun q=>B q l) r fun q=>B q i):=fun l _ =>
  sz_two hr hi hri fun k hk h1 h2=>by rw[z1 k l hk h1 h2,Int.mul_zero]
 rw[sz_congr (g:=fun l=>T l j*(T r c*det m (setC (setC B i fun q=>B q l) r fun q=>B q r)+T i c*det m (setC (setC B i fun q=>B q l) r fun q=>B q i))) fun l hl=>by rw[e3 l,e4 l hl]]
 rw[sz_two hr hi hri fun l hl h1 h2=>by rw[z2 r l hl h1 h2,z2 i l hl h1 h2];simp]
 rw[z3,z4,z5,z6]
 have:dc m M β=det m B:=by rw[hB];rfl
 rw[this]
 grind
def piv (T:Nat→Nat→Int) (d:Int) (r c i j:Nat):Int:=(T r c*T i j - T i c*T r j) / d
theorem piv_exact (h:Tb m w M T d β) {r i c j:Nat} (hr:r<m) (hi:i<m) (hri:r≠i) (hc:c<w) (hj:j<w):d*piv T d r c i j=T r c*T i j - T i c*T r j:=by
 obtain ⟨σ,h1,h2,_⟩:=h.cr
 have h3:=dc_two h hr hi hri hc hj
 have hd:=h.dpos
 have h4:dc m M β=σ*d:=by rw[h2,←Int.mul_assoc,h1,Int.one_mul]
 rw[h4] at h3
 have h5:d*(d*dc m M (upd (upd β r c) i j))=d*((T r c*T i j - T i c*T r j)*σ):=by
  rw[←Int.mul_assoc,h3]
  grind
 have h6:=Int.eq_of_mul_eq_mul_left (by omega) h5
 have h7:T r c*T i j - T i c*T r j=d*(σ*dc m M (upd (upd β r c) i j)):=by
  have:(T r c*T i j - T i c*T r j)*σ*σ=d*dc m M (upd (upd β r c) i j)*σ:=by rw[h6]
  rw[Int.mul_assoc,h1,Int.mul_one] at this
  rw[this]
  grind
 unfold piv
 rw[h7,Int.mul_ediv_cancel_left _ (by omega)]
theorem piv_eq (h:Tb m w M T d β) {σ:Int} (h1:σ*σ=1) (h2:d=σ*dc m M β) {r i c j:Nat} (hr:r<m) (hi:i<m) (hri:r≠i) (hc:c<w) (hj:j<w):piv T d r c i j=σ*dc m M (upd (upd β r c) i j):=by
 have h3:=dc_two h hr hi hri hc hj
 have hd:=h.dpos
 have h4:dc m M β=σ*d:=by rw[h2,←Int.mul_assoc,h1,Int.one_mul]
 have h5:=piv_exact h hr hi hri hc hj
 rw[h4,←h5] at h3
 have h6:(d*d)*dc m M (upd (upd β r c) i j)=(d*d)*(piv T d r c i j*σ):=by rw[h3];grind
 have h7:=Int.eq_of_mul_eq_mul_left (Int.ne_of_gt (Int.mul_pos hd hd)) h6
 rw[h7]
 grind
def sg (x:Int):Int:=if x<0 then -1 else 1
theorem sg_mul (x:Int):sg x*sg x=1:=by unfold sg;split<;>rfl
theorem sg_pos {x:Int} (h:x≠0):0<sg x*x:=by unfold sg;split<;>omega
def pivT (T:Nat→Nat→Int) (d:Int) (r c:Nat):Nat→Nat→Int:=fun i j=>sg (T r c)*(if i=r then T r j else piv T d r c i j)
theorem Tb.step (h:Tb m w M T d β) {r c:Nat} (hr:r<m) (hc:c<w) (he:T r c≠0):Tb m w M (pivT T d r c) (sg (T r c)*T r c) (upd β r c):=by
 have hd:=h.dpos
 refine ⟨sg_pos he,fun i hi=>?_,fun k hk j hj=>?_,?_⟩
 ·unfold upd
  split
  ·exact hc
  ·exact h.lt i hi
 ·have h1:∀i,i<m→d*((if i=r then T r j else piv T d r c i j)*M k (upd β r c i))=(T r c*(T i j*M k (β i)) - T r j*(T i c*M k (β i)))+(if i=r then d*(T r j*M k c) else 0):=fun i hi=>by
   unfold upd
   by_cases e:i=r
   ·subst e
    simp only[if_true]
    grind
   ·simp only[e,if_false,Int.add_zero]
    rw[←Int.mul_assoc,piv_exact h hr hi (Ne.symm e) hc hj]
    grind
  have h2:d*(sz m fun i=>(if i=r then T r j else piv T d r c i j)*M k (upd β r c i))=d*(T r c*M k j):=by
   rw[←sz_mul,sz_congr h1,sz_add,sz_sub,sz_mul,sz_mul,←h.co k hk j hj,←h.co k hk c hc,sz_one hr fun i _ hne=>if_neg hne,if_pos rfl]
   grind
  have h3:=Int.eq_of_mul_eq_mul_left (by omega) h2
  have h4:(sz m fun i=>pivT T d r c i j*M k (upd β r c i))=sg (T r c)*sz m fun i=>(if i=r then T r j else piv T d r c i j)*M k (upd β r c i):=by
   rw[←sz_mul]
   exact sz_congr fun i _=>by unfold pivT;rw[Int.mul_assoc]
  rw[h4,h3,Int.mul_assoc]
 ·obtain ⟨σ,h1,h2,h3⟩:=h.cr
  refine ⟨sg (T r c)*σ,?_,?_,fun i hi j hj=>?_⟩
  ·have:=sg_mul (T r c)
   grind
  ·rw[h3 r hr c hc]
   grind
  ·unfold pivT
   by_cases e:i=r
   ·subst e
    rw[if_pos rfl,h3 i hi j hj,upd_upd]
    grind
   ·rw[if_neg e,piv_eq h h1 h2 hr hi (Ne.symm e) hc hj]
    grind
theorem det_one:∀n:Nat,det n (fun i k=>if i=k then 1 else 0)=1
 | 0=>rfl
 | n+1=>by
  simp only[det]
  rw[sz_one (k:=0) (by omega) fun k _ hk=>by rw[if_neg (Ne.symm hk)];simp]
  have:det n (minor (fun i k=>if i=k then 1 else 0) 0)=det n (fun i k=>if i=k then 1 else 0):=det_congr fun i j _ _=>by
   unfold minor skip
   simp
  rw[this,det_one n]
  simp[sgd]
theorem Tb.first {a:Nat→Nat} (ha:∀i,i<m→a i<w) (hM:∀k,k<m→∀i,i<m→M k (a i)=if k=i then 1 else 0):Tb m w M M 1 a:=by
 have h1:dc m M a=1:=by
  unfold dc
  rw[←det_one m]
  exact det_congr fun i j hi hj=>hM i hi j hj
 refine ⟨by omega,ha,fun k hk j hj=>?_,1,by omega,by rw[h1];rfl,fun i hi j hj=>?_⟩
 ·rw[sz_one hk fun i hi hne=>by rw[hM k hk i hi,if_neg (Ne.symm hne),Int.mul_zero],hM k hk k hk,if_pos rfl]
  omega
 ·unfold dc
  rw[colsOf_upd]
  have e:det m (setC (colsOf M a) i fun q=>M q j)=det m (setC (colsOf M a) i fun q=>sz m fun k=>M k j*colsOf M a q k):=by
   refine det_congr fun p q hp hq=>?_
   unfold setC
   split
   ·show M p j=sz m fun k=>M k j*colsOf M a p k
    rw[sz_one hp fun k hk hne=>by unfold colsOf;rw[hM p hp k hk,if_neg (Ne.symm hne),Int.mul_zero]]
    unfold colsOf
    rw[hM p hp p hp,if_pos rfl]
    omega
   ·rfl
  rw[e,det_sum hi (x:=fun k=>M k j) (u:=fun k q=>colsOf M a q k),sz_one hi fun k hk hne=>by
   rw[det_alt hi hk (Ne.symm hne) fun q _=>by simp[setC,hne],Int.mul_zero],setC_self]
  have:det m (colsOf M a)=1:=h1
  rw[this]
  omega
theorem Tb.rows (h:Tb m w M T d β) {a:Nat→Nat} (ha:∀i,i<m→a i<w) (hM:∀k,k<m→∀i,i<m→M k (a i)=if k=i then 1 else 0) {i j:Nat} (hi:i<m) (hj:j<w):T i j=sz m fun k=>T i (a k)*M k j:=by
 obtain ⟨σ,h1,h2,h3⟩:=h.cr
 rw[h3 i hi j hj]
 have e:dc m M (upd β i j)=sz m fun k=>M k j*dc m M (upd β i (a k)):=by
  unfold dc
  rw[colsOf_upd]
  have e:det m (setC (colsOf M β) i fun q=>M q j)=det m (setC (colsOf M β) i fun q=>sz m fun k=>M k j*M q (a k)):=by
   refine det_congr fun p q hp hq=>?_
   unfold setC
   split
   ·show M p j=sz m fun k=>M k j*M p (a k)
    rw[sz_one hp fun k hk hne=>by rw[hM p hp k hk,if_neg (Ne.symm hne),Int.mul_zero],hM p hp p hp,if_pos rfl]
    omega
   ·rfl
  rw[e,det_sum hi (x:=fun k=>M k j) (u:=fun k q=>M q (a k))]
  exact sz_congr fun k _=>by rw[colsOf_upd]
 rw[e,←sz_mul]
 exact sz_congr fun k hk=>by rw[h3 i hi _ (ha k hk)];grind
theorem Tb.bound (h:Tb m w M T d β) {i j:Nat} (hi:i<m) (hj:j<w):ab (T i j)=ab (dc m M (upd β i j)):=by
 obtain ⟨σ,h1,_,h3⟩:=h.cr
 rw[h3 i hi j hj,ab_mul]
 have h4:ab σ*ab σ=1:=by rw[←ab_mul,h1];rfl
 have h5:ab σ=1:=by
  have h6:=ab_nonneg σ
  by_cases h7:ab σ≤1
  ·have:ab σ≠0:=fun e=>by rw[e] at h4;simp at h4
   omega
  ·exfalso
   have:2*2≤ab σ*ab σ:=Int.mul_le_mul (by omega) (by omega) (by omega) h6
   omega
 rw[h5,Int.one_mul]
end
end Dn
end Go.Proofs.YtfknoaclabfdlaaGreat

namespace Go.Proofs.YtfknoaclabfdlaaGreat
namespace Dn
structure Sx where
 T:Nat→Nat→Int
 d:Int
 β:Nat→Nat
def zr (m:Nat) (wc:Nat→Int) (S:Sx) (j:Nat):Int:=wc j*S.d - sz m fun i=>wc (S.β i)*S.T i j
structure Leaves (m R:Nat) (S:Sx) (c r:Nat):Prop where
 lt:r<m
 pos:0<S.T r c
 le:∀i,i<m→0<S.T i c→S.T r R*S.T i c≤S.T i R*S.T r c
 tie:∀i,i<m→0<S.T i c→S.T r R*S.T i c=S.T i R*S.T r c→S.β r≤S.β i
structure Enters (m N:Nat) (wc:Nat→Int) (S:Sx) (c:Nat):Prop where
 lt:c<N
 neg:zr m wc S c<0
 least:∀j,j<c→0≤zr m wc S j
structure StepAt (m w:Nat) (S S':Sx) (r c:Nat):Prop where
 T:∀i j,i<m→j<w→S'.T i j=if i=r then S.T r j else piv S.T S.d r c i j
 d:S'.d=S.T r c
 β:∀i,i<m→S'.β i=upd S.β r c i
structure Step (m w N R:Nat) (wc:Nat→Int) (S S':Sx) (r c:Nat):Prop where
 enters:Enters m N wc S c
 leaves:Leaves m R S c r
 at':StepAt m w S S' r c
structure Val (m w N R:Nat) (M:Nat→Nat→Int) (S:Sx):Prop where
 tb:Tb m w M S.T S.d S.β
 feas:∀i,i<m→0≤S.T i R
 ne:∀i,i<m→S.β i≠R
section
variable {m w N R:Nat} {M:Nat→Nat→Int} {wc:Nat→Int}
theorem dc_congr {β β':Nat→Nat} (h:∀i,i<m→β' i=β i):dc m M β'=dc m M β:=det_congr fun i j _ hj=>by unfold colsOf;rw[h j hj]
theorem Tb.congr {T T':Nat→Nat→Int} {d:Int} {β β':Nat→Nat} (h:Tb m w M T d β) (hT:∀i j,i<m→j<w→T' i j=T i j) (hβ:∀i,i<m→β' i=β i):Tb m w M T' d β':=by
 refine ⟨h.dpos,fun i hi=>by rw[hβ i hi];exact h.lt i hi,fun k hk j hj=>?_,?_⟩
 ·rw[h.co k hk j hj]
  exact sz_congr fun i hi=>by rw[hT i j hi hj,hβ i hi]
 ·obtain ⟨σ,h1,h2,h3⟩:=h.cr
  refine ⟨σ,h1,by rw[dc_congr hβ];exact h2,fun i hi j hj=>?_⟩
  rw[hT i j hi hj,h3 i hi j hj]
  congr 1
  exact (dc_congr fun k hk=>by unfold upd;rw[hβ k hk]).symm
theorem Val.stepAt {S S':Sx} (h:Val m w N R M S) (hR:R<w) {r c:Nat} (hc:c<w) (hcR:c≠R) (hl:Leaves m R S c r) (hs:StepAt m w S S' r c):Val m w N R M S':=by
 have hr:=hl.lt
 have e1:sg (S.T r c)=1:=by unfold sg;rw[if_neg (by have:=hl.pos;omega)]
 have h1:=h.tb.step hr hc (by have:=hl.pos;omega)
 have h2:=h1.congr (T':=S'.T) (β':=S'.β) (fun i j hi hj=>by rw[hs.T i j hi hj];unfold pivT;rw[e1,Int.one_mul]) hs.β
 rw[e1,Int.one_mul,←hs.d] at h2
 refine ⟨h2,fun i hi=>?_,fun i hi=>?_⟩
 ·rw[hs.T i R hi hR]
  split
  ·exact h.feas r hr
  ·rename_i hne
   have h3:=piv_exact h.tb hr hi (Ne.symm hne) hc hR
   have h4:=h.tb.dpos
   have h5:=hl.pos
   have h6:0≤S.T r c*S.T i R - S.T i c*S.T r R:=by
    by_cases h7:0<S.T i c
    ·have:=hl.le i hi h7
     have e1:=Int.mul_comm (S.T r R) (S.T i c)
     have e2:=Int.mul_comm (S.T i R) (S.T r c)
     omega
    ·have h8:0≤S.T r c*S.T i R:=Int.mul_nonneg (by omega) (h.feas i hi)
     have h9:0≤ -S.T i c*S.T r R:=Int.mul_nonneg (by omega) (h.feas r hr)
     rw[Int.neg_mul] at h9
     omega
   rw[←h3] at h6
   exact Int.nonneg_of_mul_nonneg_right h6 h4
 ·rw[hs.β i hi]
  unfold upd
  split
  ·exact hcR
  ·exact h.ne i hi
theorem zr_basis {S:Sx} (h:Tb m w M S.T S.d S.β) {i:Nat} (hi:i<m):zr m wc S (S.β i)=0:=by
 unfold zr
 rw[sz_one hi fun k hk hne=>by rw[h.other hk hi hne,Int.mul_zero],h.basis hi]
 omega
theorem zr_rows {S:Sx} (h:Tb m w M S.T S.d S.β) {a:Nat→Nat} (ha:∀i,i<m→a i<w) (hM:∀k,k<m→∀i,i<m→M k (a i)=if k=i then 1 else 0) {j:Nat} (hj:j<w) :
  zr m wc S j=wc j*S.d - sz m fun k=>(sz m fun i=>wc (S.β i)*S.T i (a k))*M k j:=by
 unfold zr
 congr 1
 rw[sz_congr (g:=fun i=>sz m fun k=>wc (S.β i)*S.T i (a k)*M k j) fun i hi=>by
  rw[h.rows ha hM hi hj,←sz_mul]
  exact sz_congr fun k _=>by rw[Int.mul_assoc]]
 rw[sz_swap]
 exact sz_congr fun k _=>sz_mulr
theorem zr_step {S S':Sx} (h:Tb m w M S.T S.d S.β) {r c j:Nat} (hr:r<m) (hc:c<w) (hj:j<w) (hs:StepAt m w S S' r c):S.d*zr m wc S' j=S.T r c*zr m wc S j - zr m wc S c*S.T r j:=by
 have h1:∀i,i<m→S.d*(wc (S'.β i)*S'.T i j)=(S.T r c*(wc (S.β i)*S.T i j) - S.T r j*(wc (S.β i)*S.T i c))+(if i=r then S.d*(wc c*S.T r j) else 0):=fun i hi=>by
  rw[hs.β i hi,hs.T i j hi hj]
  unfold upd
  by_cases e:i=r
  ·subst e
   simp only[if_true]
   grind
  ·simp only[e,if_false,Int.add_zero]
   have:=piv_exact h hr hi (Ne.symm e) hc hj
   grind
 have h2:S.d*(sz m fun i=>wc (S'.β i)*S'.T i j)=S.T r c*(sz m fun i=>wc (S.β i)*S.T i j) - S.T r j*(sz m fun i=>wc (S.β i)*S.T i c)+S.d*(wc c*S.T r j):=by
  rw[←sz_mul,sz_congr h1,sz_add,sz_sub,sz_mul,sz_mul,sz_one hr fun i _ hne=>if_neg hne,if_pos rfl]
 unfold zr
 rw[Int.mul_sub,h2,hs.d]
 grind
theorem zr_two {S S':Sx} (h:Tb m w M S.T S.d S.β) (h':Tb m w M S'.T S'.d S'.β) {a:Nat→Nat} (ha:∀i,i<m→a i<w) (hM:∀k,k<m→∀i,i<m→M k (a i)=if k=i then 1 else 0) {s:Nat} (hs:s<w) :
  S.d*zr m wc S' s=S'.d*zr m wc S s+sz m fun i=>S.T i s*zr m wc S' (S.β i):=by
 have e1:=zr_rows (wc:=wc) h' ha hM hs
 have e2:∀i,i<m→S.T i s*zr m wc S' (S.β i)=S'.d*(wc (S.β i)*S.T i s) - sz m fun k=>(sz m fun i=>wc (S'.β i)*S'.T i (a k))*(S.T i s*M k (S.β i)):=fun i hi=>by
  rw[zr_rows (wc:=wc) h' ha hM (h.lt i hi),Int.mul_sub,←sz_mul]
  congr 1
  ·grind
  ·exact sz_congr fun k _=>by grind
 rw[sz_congr e2,sz_sub,sz_mul,sz_swap]
 have e3:(sz m fun k=>sz m fun i=>(sz m fun i=>wc (S'.β i)*S'.T i (a k))*(S.T i s*M k (S.β i)))=S.d*sz m fun k=>(sz m fun i=>wc (S'.β i)*S'.T i (a k))*M k s:=by
  rw[←sz_mul]
  refine sz_congr fun k hk=>?_
  rw[sz_mul,←h.co k hk s hs]
  grind
 rw[e3,e1]
 unfold zr
 grind
theorem left_between {β:Nat→Nat→Nat} {q:Nat}:∀{k i:Nat},(∃p,p<m∧β i p=q)→(¬ ∃p,p<m∧β (i+k) p=q)→∃n,i≤n∧n<i+k∧(∃p,p<m∧β n p=q)∧¬ ∃p,p<m∧β (n+1) p=q
 | 0,i,h1,h2=>(h2 h1).elim
 | k+1,i,h1,h2=>by
  by_cases h:∃p,p<m∧β (i+k) p=q
  ·exact ⟨i+k,by omega,by omega,h,h2⟩
  ·obtain ⟨n,h3,h4,h5,h6⟩:=left_between h1 h
   exact ⟨n,h3,by omega,h5,h6⟩
theorem come_between {β:Nat→Nat→Nat} {q:Nat}:∀{k i:Nat},(¬ ∃p,p<m∧β i p=q)→(∃p,p<m∧β (i+k) p=q)→∃n,i≤n∧n<i+k∧(¬ ∃p,p<m∧β n p=q)∧∃p,p<m∧β (n+1) p=q
 | 0,i,h1,h2=>(h1 h2).elim
 | k+1,i,h1,h2=>by
  by_cases h:∃p,p<m∧β (i+k) p=q
  ·obtain ⟨n,h3,h4,h5,h6⟩:=come_between h1 h
   exact ⟨n,h3,by omega,h5,h6⟩
  ·exact ⟨i+k,by omega,by omega,h,h2⟩
theorem max_of {k:Nat} {f:Nat→Nat}:0<k→∃n,n<k∧∀i,i<k→f i≤f n:=by
 induction k with
 | zero=>intro h;omega
 | succ k ih =>
  intro _
  by_cases hk:k=0
  ·subst hk
   exact ⟨0,by omega,fun i hi=>by rw[show i=0 by omega];exact Nat.le_refl _⟩
  ·obtain ⟨n,h1,h2⟩:=ih (by omega)
   by_cases h3:f k≤f n
   ·refine ⟨n,by omega,fun i hi=>?_⟩
    by_cases h4:i=k
    ·rw[h4];exact h3
    ·exact h2 i (by omega)
   ·refine ⟨k,by omega,fun i hi=>?_⟩
    by_cases h4:i=k
    ·rw[h4];exact Nat.le_refl _
    ·have:=h2 i (by omega);omega
theorem le_cancel {e x y:Int} (he:0<e) (h:e*x≤e*y):x≤y:=Int.le_of_mul_le_mul_left h he
structure Run (m w N R:Nat) (M:Nat→Nat→Int) (wc:Nat→Int) (k:Nat) (S:Nat→Sx) (r c:Nat→Nat):Prop where
 val:∀n,n≤k→Val m w N R M (S n)
 step:∀n,n<k→Step m w N R wc (S n) (S (n+1)) (r n) (c n)
theorem Run.of {k:Nat} {S:Nat→Sx} {r c:Nat→Nat} (hN:N≤R) (hR:R<w) (h0:Val m w N R M (S 0)) (hs:∀n,n<k→Step m w N R wc (S n) (S (n+1)) (r n) (c n)):Run m w N R M wc k S r c:=by
 refine ⟨fun n=>?_,hs⟩
 induction n with
 | zero=>intro _;exact h0
 | succ n ih =>
  intro hn
  have h1:=hs n (by omega)
  have:=h1.enters.lt
  exact (ih (by omega)).stepAt hR (by omega) (by omega) h1.leaves h1.at'
theorem Run.nocycle {k:Nat} {S:Nat→Sx} {r c:Nat→Nat} {a:Nat→Nat} (ha:∀i,i<m→a i<w) (hM:∀k,k<m→∀i,i<m→M k (a i)=if k=i then 1 else 0) (hN:N≤R) (hR:R<w)
  (h:Run m w N R M wc k S r c) (hk:0<k):¬ ∀i,i<m→(S k).β i=(S 0).β i:=by
 intro hcyc
 have cw:∀n,n<k→c n<w:=fun n hn=>by have:=(h.step n hn).enters.lt;omega
 have dp:∀n,n≤k→0<(S n).d:=fun n hn=>(h.val n hn).tb.dpos
 have vstep:∀n,n<k→zr m wc (S n) R*(S (n+1)).d≤zr m wc (S (n+1)) R*(S n).d∧((S n).T (r n) R≠0→zr m wc (S n) R*(S (n+1)).d<zr m wc (S (n+1)) R*(S n).d):=fun n hn=>by
  have hs:=h.step n hn
  have h1:=zr_step (wc:=wc) (h.val n (by omega)).tb hs.leaves.lt (cw n hn) hR hs.at'
  have h2:=hs.enters.neg
  have h3:=(h.val n (by omega)).feas (r n) hs.leaves.lt
  have h4:0≤ -zr m wc (S n) (c n)*(S n).T (r n) R:=Int.mul_nonneg (by omega) h3
  rw[Int.neg_mul] at h4
  rw[hs.at'.d,Int.mul_comm (zr m wc (S (n+1)) R),h1,Int.mul_comm (zr m wc (S n) R)]
  refine ⟨by omega,fun hne=>?_⟩
  have h5:0< -zr m wc (S n) (c n)*(S n).T (r n) R:=Int.mul_pos (by omega) (by omega)
  rw[Int.neg_mul] at h5
  omega
 have vle:∀i j,i+j≤k→zr m wc (S i) R*(S (i+j)).d≤zr m wc (S (i+j)) R*(S i).d:=by
  intro i j
  induction j with
  | zero=>intro _;exact Int.le_refl _
  | succ j ih =>
   intro hj
   have h1:=ih (by omega)
   have h2:=(vstep (i+j) (by omega)).1
   have d1:=dp i (by omega)
   have d2:=dp (i+j) (by omega)
   have d3:=dp (i+j+1) (by omega)
   refine le_cancel d2 ?_
   have h3:=Int.mul_le_mul_of_nonneg_right h1 (Int.le_of_lt d3)
   have h4:=Int.mul_le_mul_of_nonneg_right h2 (Int.le_of_lt d1)
   rw[show i+(j+1)=i+j+1 by omega]
   calc (S (i+j)).d*(zr m wc (S i) R*(S (i+j+1)).d)=zr m wc (S i) R*(S (i+j)).d*(S (i+j+1)).d:=by grind
    _≤zr m wc (S (i+j)) R*(S i).d*(S (i+j+1)).d:=h3
    _=zr m wc (S (i+j)) R*(S (i+j+1)).d*(S i).d:=by grind
    _≤zr m wc (S (i+j+1)) R*(S (i+j)).d*(S i).d:=h4
    _=(S (i+j)).d*(zr m wc (S (i+j+1)) R*(S i).d):=by grind
 have same:(S k).d=(S 0).d∧∀i j,i<m→j<w→(S k).T i j=(S 0).T i j:=by
  obtain ⟨σ,s1,s2,s3⟩:=(h.val k (Nat.le_refl _)).tb.cr
  obtain ⟨τ,t1,t2,t3⟩:=(h.val 0 (by omega)).tb.cr
  rw[dc_congr hcyc] at s2
  have p1:=dp k (Nat.le_refl _)
  have p2:=dp 0 (by omega)
  have e:σ=τ:=by
   have h1:σ*(S k).d=dc m M (S 0).β:=by rw[s2,←Int.mul_assoc,s1,Int.one_mul]
   have h2:τ*(S 0).d=dc m M (S 0).β:=by rw[t2,←Int.mul_assoc,t1,Int.one_mul]
   have pm:∀x:Int,x*x=1→x=1∨x= -1:=fun x hx=>by
    have h4:x.natAbs*x.natAbs=1:=by
     have:=congrArg Int.natAbs hx
     rwa [Int.natAbs_mul] at this
    have h5:x.natAbs=1:=Nat.eq_one_of_mul_eq_one_left h4
    omega
   rcases pm σ s1 with rfl | rfl<;>rcases pm τ t1 with rfl | rfl<;>omega
  refine ⟨by rw[s2,e];exact t2.symm,fun i j hi hj=>?_⟩
  rw[s3 i hi j hj,t3 i hi j hj,e]
  congr 1
  exact dc_congr fun l hl=>by unfold upd;rw[hcyc l hl]
 have vend:zr m wc (S k) R=zr m wc (S 0) R:=by
  unfold zr
  rw[same.1]
  congr 1
  exact sz_congr fun i hi=>by rw[hcyc i hi,same.2 i R hi hR]
 have flat:∀n,n<k→(S n).T (r n) R=0:=fun n hn=>by
  by_cases e:(S n).T (r n) R=0
  ·exact e
  ·exfalso
   have h1:=(vstep n hn).2 e
   have h2:=vle 0 n (by omega)
   have h3:=vle (n+1) (k - (n+1)) (by omega)
   rw[Nat.zero_add] at h2
   rw[show n+1+(k - (n+1))=k by omega,vend,same.1] at h3
   have d0:=dp 0 (by omega)
   have d1:=dp n (by omega)
   have d2:=dp (n+1) (by omega)
   have h4:=Int.mul_lt_mul_of_pos_right h1 d0
   have h5:=Int.mul_le_mul_of_nonneg_right h2 (Int.le_of_lt d2)
   have h6:=Int.mul_le_mul_of_nonneg_right h3 (Int.le_of_lt d1)
   have:zr m wc (S 0) R*(S n).d*(S (n+1)).d<zr m wc (S 0) R*(S n).d*(S (n+1)).d:=by
    calc zr m wc (S 0) R*(S n).d*(S (n+1)).d≤zr m wc (S n) R*(S 0).d*(S (n+1)).d:=h5
     _=zr m wc (S n) R*(S (n+1)).d*(S 0).d:=by grind
     _<zr m wc (S (n+1)) R*(S n).d*(S 0).d:=h4
     _=zr m wc (S (n+1)) R*(S 0).d*(S n).d:=by grind
     _≤zr m wc (S 0) R*(S (n+1)).d*(S n).d:=h6
     _=zr m wc (S 0) R*(S n).d*(S (n+1)).d:=by grind
   omega
 have zeroStep:∀n q,n<k→((∀i,i<m→(S n).β i=q→(S n).T i R=0)↔(∀i,i<m→(S (n+1)).β i=q→(S (n+1)).T i R=0)):=fun n q hn=>by
  have hs:=h.step n hn
  have hf:=flat n hn
  have htb:=(h.val n (by omega)).tb
  have key:∀i,i<m→i≠r n→((S (n+1)).T i R=0↔(S n).T i R=0):=fun i hi hne=>by
   rw[hs.at'.T i R hi hR,if_neg hne]
   have h1:=piv_exact htb hs.leaves.lt hi (Ne.symm hne) (cw n hn) hR
   rw[hf,Int.mul_zero,Int.sub_zero] at h1
   have h2:=hs.leaves.pos
   have h3:=dp n (by omega)
   constructor
   ·intro e
    rw[e,Int.mul_zero] at h1
    rcases Int.mul_eq_zero.1 h1.symm with h4 | h4
    ·omega
    ·exact h4
   ·intro e
    rw[e,Int.mul_zero] at h1
    rcases Int.mul_eq_zero.1 h1 with h4 | h4
    ·omega
    ·exact h4
  constructor
  ·intro hz i hi hb
   by_cases e:i=r n
   ·rw[e,hs.at'.T _ R hs.leaves.lt hR,if_pos rfl];exact hf
   ·rw[hs.at'.β i hi] at hb
    unfold upd at hb
    rw[if_neg e] at hb
    exact (key i hi e).2 (hz i hi hb)
  ·intro hz i hi hb
   by_cases e:i=r n
   ·rw[e];exact hf
   ·refine (key i hi e).1 (hz i hi ?_)
    rw[hs.at'.β i hi]
    unfold upd
    rw[if_neg e]
    exact hb
 have zeroAll:∀q n,n≤k→((∀i,i<m→(S 0).β i=q→(S 0).T i R=0)↔(∀i,i<m→(S n).β i=q→(S n).T i R=0)):=fun q n=>by
  induction n with
  | zero=>intro _;exact Iff.rfl
  | succ n ih=>intro hn;exact (ih (by omega)).trans (zeroStep n q (by omega))
 have comes:∀n q,n<k→(¬ ∃p,p<m∧(S n).β p=q)→(∃p,p<m∧(S (n+1)).β p=q)→q=c n:=fun n q hn h1 ⟨p,hp,hq⟩=>by
  have hs:=h.step n hn
  rw[hs.at'.β p hp] at hq
  unfold upd at hq
  split at hq
  ·exact hq.symm
  ·exact (h1 ⟨p,hp,hq⟩).elim
 have goes:∀n q,n<k→(∃p,p<m∧(S n).β p=q)→(¬ ∃p,p<m∧(S (n+1)).β p=q)→q=(S n).β (r n):=fun n q hn ⟨p,hp,hq⟩ h1=>by
  have hs:=h.step n hn
  by_cases e:p=r n
  ·rw[←e];exact hq.symm
  ·refine (h1 ⟨p,hp,?_⟩).elim
   rw[hs.at'.β p hp]
   unfold upd
   rw[if_neg e]
   exact hq
 have notIn:∀n,n<k→¬ ∃p,p<m∧(S n).β p=c n:=fun n hn ⟨p,hp,hq⟩=>by
  have hs:=h.step n hn
  have h1:=hs.enters.neg
  rw[←hq,zr_basis (h.val n (by omega)).tb hp] at h1
  omega
 have isIn:∀n,n<k→∃p,p<m∧(S (n+1)).β p=c n:=fun n hn=>by
  have hs:=h.step n hn
  refine ⟨r n,hs.leaves.lt,?_⟩
  rw[hs.at'.β _ hs.leaves.lt]
  unfold upd
  rw[if_pos rfl]
 have ends:∀q,(∃p,p<m∧(S k).β p=q)↔∃p,p<m∧(S 0).β p=q:=fun q=>by
  constructor
  ·rintro ⟨p,hp,hq⟩;exact ⟨p,hp,by rw[←hcyc p hp];exact hq⟩
  ·rintro ⟨p,hp,hq⟩;exact ⟨p,hp,by rw[hcyc p hp];exact hq⟩
 obtain ⟨ns,hns,hmax⟩:=max_of (f:=c) hk
 have leaves:∃n,n<k∧(S n).β (r n)=c ns:=by
  by_cases h0:∃p,p<m∧(S 0).β p=c ns
  ·obtain ⟨n,h1,h2,h3,h4⟩:=left_between (β:=fun n=>(S n).β) (k:=ns) (i:=0) h0 (by rw[Nat.zero_add];exact notIn ns hns)
   exact ⟨n,by omega,(goes n _ (by omega) h3 h4).symm⟩
  ·have h1:¬ ∃p,p<m∧(S k).β p=c ns:=fun e=>h0 ((ends _).1 e)
   obtain ⟨n,h2,h3,h4,h5⟩:=left_between (β:=fun n=>(S n).β) (k:=k - (ns+1)) (i:=ns+1) (isIn ns hns) (by rw[show ns+1+(k - (ns+1))=k by omega];exact h1)
   exact ⟨n,by omega,(goes n _ (by omega) h4 h5).symm⟩
 obtain ⟨n,hn,hleave⟩:=leaves
 have hs:=h.step n hn
 have hst:=h.step ns hns
 have vn:=h.val n (by omega)
 have vs:=h.val ns (by omega)
 have hcn:=hmax n hn
 have hne:c n≠c ns:=fun e=>notIn n hn ⟨r n,hs.leaves.lt,by rw[hleave];exact e.symm⟩
 have id:=zr_two (wc:=wc) vn.tb vs.tb ha hM (cw n hn)
 have z1:0≤zr m wc (S ns) (c n):=hst.enters.least (c n) (by omega)
 have z2:=hs.enters.neg
 have d1:=dp n (by omega)
 have d2:=dp ns (by omega)
 have hsum:0<sz m fun i=>(S n).T i (c n)*zr m wc (S ns) ((S n).β i):=by
  have h1:0≤(S n).d*zr m wc (S ns) (c n):=Int.mul_nonneg (by omega) z1
  have h2:0<(S ns).d* -zr m wc (S n) (c n):=Int.mul_pos d2 (by omega)
  rw[Int.mul_neg] at h2
  omega
 have hex:∃i,i<m∧0<(S n).T i (c n)*zr m wc (S ns) ((S n).β i):=by
  by_cases e:∃i,i<m∧0<(S n).T i (c n)*zr m wc (S ns) ((S n).β i)
  ·exact e
  ·exfalso
   have:=sz_le (n:=m) (f:=fun i=>(S n).T i (c n)*zr m wc (S ns) ((S n).β i)) (g:=fun _=>0) fun i hi=>Int.not_lt.1 fun h'=>e ⟨i,hi,h'⟩
   rw[sz_zero (f:=fun _=>0) fun _ _=>rfl] at this
   omega
 obtain ⟨i,hi,hpos⟩:=hex
 have hq0:zr m wc (S ns) ((S n).β i)≠0:=fun e=>by rw[e,Int.mul_zero] at hpos;omega
 have hq1:¬ ∃p,p<m∧(S ns).β p=(S n).β i:=fun ⟨p,hp,hq⟩=>hq0 (by rw[←hq];exact zr_basis vs.tb hp)
 have hq2:∃p,p<m∧(S n).β p=(S n).β i:=⟨i,hi,rfl⟩
 have hq3:∃n',n'<k∧(S n).β i=c n':=by
  by_cases hlt:ns<n
  ·obtain ⟨n',h1,h2,h3,h4⟩:=come_between (β:=fun n=>(S n).β) (k:=n - ns) (i:=ns) hq1 (by rw[show ns+(n - ns)=n by omega];exact hq2)
   exact ⟨n',by omega,comes n' _ (by omega) h3 h4⟩
  ·by_cases h0:∃p,p<m∧(S 0).β p=(S n).β i
   ·obtain ⟨n',h1,h2,h3,h4⟩:=come_between (β:=fun n=>(S n).β) (k:=k - ns) (i:=ns) hq1 (by rw[show ns+(k - ns)=k by omega];exact (ends _).2 h0)
    exact ⟨n',by omega,comes n' _ (by omega) h3 h4⟩
   ·obtain ⟨n',h1,h2,h3,h4⟩:=come_between (β:=fun n=>(S n).β) (k:=n) (i:=0) h0 (by rw[Nat.zero_add];exact hq2)
    exact ⟨n',by omega,comes n' _ (by omega) h3 h4⟩
 obtain ⟨n',hn',hq4⟩:=hq3
 have hq5:(S n).β i≤c ns:=by rw[hq4];exact hmax n' hn'
 by_cases hqt:(S n).β i=c ns
 ·have:i=r n:=vn.tb.inj hi hs.leaves.lt (by rw[hqt,hleave])
  rw[this,hleave] at hpos
  have h1:=hs.leaves.pos
  have h2:=hst.enters.neg
  have h3:0<(S n).T (r n) (c n)* -zr m wc (S ns) (c ns):=Int.mul_pos h1 (by omega)
  rw[Int.mul_neg] at h3
  omega
 ·have z3:0≤zr m wc (S ns) ((S n).β i):=hst.enters.least _ (by omega)
  have hTi:0<(S n).T i (c n):=by
   by_cases e:0<(S n).T i (c n)
   ·exact e
   ·exfalso
    have:0≤ -(S n).T i (c n)*zr m wc (S ns) ((S n).β i):=Int.mul_nonneg (by omega) z3
    rw[Int.neg_mul] at this
    omega
  have hiR:(S n).T i R=0:=((zeroAll _ n (by omega)).1 ((zeroAll _ ns (by omega)).2 fun p hp hq=>(hq1 ⟨p,hp,hq⟩).elim)) i hi rfl
  have:=hs.leaves.tie i hi hTi (by rw[flat n hn,hiR,Int.zero_mul,Int.zero_mul])
  rw[hleave] at this
  omega
end
end Dn
end Go.Proofs.YtfknoaclabfdlaaGreat

namespace Go.Proofs.YtfknoaclabfdlaaGreat
namespace Dn
theorem pigeon:∀(K:Nat) (f:Nat→Nat),(∀i,i≤K→f i<K)→∃i j,i<j∧j≤K∧f i=f j
 | 0,f,h=>by have:=h 0 (by omega);omega
 | K+1,f,h=>by
  by_cases e:∃i,i≤K∧f i=f (K+1)
  ·obtain ⟨i,h1,h2⟩:=e
   exact ⟨i,K+1,by omega,by omega,h2⟩
  ·
   obtain ⟨i,j,h1,h2,h3⟩:=pigeon K (fun i=>if f i<f (K+1) then f i else f i - 1) fun i hi=>by
    have h4:=h i (by omega)
    have h5:=h (K+1) (by omega)
    have h6:f i≠f (K+1):=fun e'=>e ⟨i,hi,e'⟩
    show (if f i<f (K+1) then f i else f i - 1)<K
    split<;>omega
   refine ⟨i,j,h1,by omega,?_⟩
   have h6:f i≠f (K+1):=fun e'=>e ⟨i,by omega,e'⟩
   have h7:f j≠f (K+1):=fun e'=>e ⟨j,by omega,e'⟩
   have h3:(if f i<f (K+1) then f i else f i - 1)=(if f j<f (K+1) then f j else f j - 1):=h3
   split at h3<;>split at h3<;>omega
def code (w:Nat) (β:Nat→Nat):Nat→Nat
 | 0=>0
 | m+1=>code w β m*w+β m
theorem code_lt {w:Nat} {β:Nat→Nat}:∀{m:Nat},(∀i,i<m→β i<w)→code w β m<w ^ m
 | 0,_=>by simp[code]
 | m+1,h=>by
  simp only[code]
  have h1:=code_lt (m:=m) fun i hi=>h i (by omega)
  have h2:=h m (by omega)
  have h3:(code w β m+1)*w≤w ^ m*w:=Nat.mul_le_mul_right _ h1
  rw[Nat.pow_succ]
  rw[Nat.add_mul,Nat.one_mul] at h3
  omega
theorem code_inj {w:Nat} {β γ:Nat→Nat}:∀{m:Nat},(∀i,i<m→β i<w)→(∀i,i<m→γ i<w)→code w β m=code w γ m→∀i,i<m→β i=γ i
 | 0,_,_,_,i,hi=>by omega
 | m+1,hβ,hγ,h,i,hi=>by
  simp only[code] at h
  have h1:=hβ m (by omega)
  have h2:=hγ m (by omega)
  have e1:(code w β m*w+β m) % w=β m:=by rw[Nat.mul_comm,Nat.mul_add_mod,Nat.mod_eq_of_lt h1]
  have e2:(code w γ m*w+γ m) % w=γ m:=by rw[Nat.mul_comm,Nat.mul_add_mod,Nat.mod_eq_of_lt h2]
  have e3:β m=γ m:=by rw[←e1,←e2,h]
  have e4:code w β m=code w γ m:=by
   have:code w β m*w=code w γ m*w:=by omega
   exact Nat.eq_of_mul_eq_mul_right (by omega) this
  by_cases e:i=m
  ·rw[e];exact e3
  ·exact code_inj (fun i hi=>hβ i (by omega)) (fun i hi=>hγ i (by omega)) e4 i (by omega)
open Classical in
noncomputable def greatest (p:Nat→Prop):Nat→Nat
 | 0=>0
 | k+1=>if p k then k else greatest p k
section
variable {m w N R:Nat} {M:Nat→Nat→Int} {wc:Nat→Int}
theorem Run.short {k:Nat} {S:Nat→Sx} {r c:Nat→Nat} {a:Nat→Nat} (ha:∀i,i<m→a i<w) (hM:∀k,k<m→∀i,i<m→M k (a i)=if k=i then 1 else 0) (hN:N≤R) (hR:R<w)
  (h:Run m w N R M wc k S r c):k<w ^ m:=by
 by_cases hk:k<w ^ m
 ·exact hk
 ·exfalso
  obtain ⟨i,j,h1,h2,h3⟩:=pigeon (w ^ m) (fun n=>code w (S n).β m) fun n hn=>code_lt (h.val n (by omega)).tb.lt
  have h4:=code_inj (h.val i (by omega)).tb.lt (h.val j (by omega)).tb.lt h3
  have h5:Run m w N R M wc (j - i) (fun n=>S (i+n)) (fun n=>r (i+n)) (fun n=>c (i+n)):=⟨fun n hn=>h.val (i+n) (by omega),fun n hn=>h.step (i+n) (by omega)⟩
  refine h5.nocycle ha hM hN hR (by omega) fun p hp=>?_
  show (S (i+(j - i))).β p=(S (i+0)).β p
  rw[show i+(j - i)=j by omega,Nat.add_zero]
  exact (h4 p hp).symm
noncomputable def left (m w N R:Nat) (M:Nat→Nat→Int) (wc:Nat→Int) (s:Sx):Nat:=greatest (fun k=>∃S r c,S 0=s∧Run m w N R M wc k S r c) (w ^ m)
end
end Dn
end Go.Proofs.YtfknoaclabfdlaaGreat

namespace Go.Proofs.YtfknoaclabfdlaaGreat
namespace Dn
def sq:Nat→(Nat→Rat)→Rat
 | 0,_=>0
 | n+1,f=>sq n f+f n
theorem sq_congr:∀{n:Nat} {f g:Nat→Rat},(∀i,i<n→f i=g i)→sq n f=sq n g
 | 0,_,_,_=>rfl
 | n+1,f,g,h=>by
  simp only[sq]
  rw[sq_congr (n:=n) fun i hi=>h i (by omega),h n (by omega)]
theorem sq_add:∀{n:Nat} {f g:Nat→Rat},sq n (fun i=>f i+g i)=sq n f+sq n g
 | 0,_,_=>by simp only[sq];grind
 | n+1,f,g=>by
  simp only[sq]
  rw[sq_add]
  grind
theorem sq_mul:∀{n:Nat} {c:Rat} {f:Nat→Rat},sq n (fun i=>c*f i)=c*sq n f
 | 0,c,_=>by simp[sq]
 | n+1,c,f=>by
  simp only[sq]
  rw[sq_mul]
  grind
theorem sq_zero:∀{n:Nat} {f:Nat→Rat},(∀i,i<n→f i=0)→sq n f=0
 | 0,_,_=>rfl
 | n+1,f,h=>by
  simp only[sq]
  rw[sq_zero fun i hi=>h i (by omega),h n (by omega)]
  grind
theorem sq_le:∀{n:Nat} {f g:Nat→Rat},(∀i,i<n→f i≤g i)→sq n f≤sq n g
 | 0,_,_,_=>Rat.le_refl
 | n+1,f,g,h=>by
  simp only[sq]
  have:=sq_le (n:=n) fun i hi=>h i (by omega)
  have:=h n (by omega)
  grind
theorem sq_swap:∀{m n:Nat} {f:Nat→Nat→Rat},sq m (fun i=>sq n (fun j=>f i j))=sq n (fun j=>sq m (fun i=>f i j))
 | 0,n,f=>by
  simp only[sq]
  exact (sq_zero fun _ _=>rfl).symm
 | m+1,n,f=>by
  simp only[sq]
  rw[sq_swap,sq_add]
structure Lin where
 n:Nat
 m:Nat
 A:Nat→Nat→Int
 b:Nat→Int
 c:Nat→Int
 kd:Nat→Int
def Lin.row (L:Lin) (x:Nat→Rat) (k:Nat):Rat:=sq L.n fun j=>(L.A k j:Rat)*x j
def Lin.col (L:Lin) (y:Nat→Rat) (j:Nat):Rat:=sq L.m fun k=>(L.A k j:Rat)*y k
def Lin.val (L:Lin) (x:Nat→Rat):Rat:=sq L.n fun j=>(L.c j:Rat)*x j
def Lin.rhs (L:Lin) (y:Nat→Rat):Rat:=sq L.m fun k=>(L.b k:Rat)*y k
structure Lin.Feas (L:Lin) (x:Nat→Rat):Prop where
 pos:∀j,j<L.n→0≤x j
 most:∀k,k<L.m→L.kd k≠2→L.row x k≤L.b k
 least:∀k,k<L.m→L.kd k≠1→(L.b k:Rat)≤L.row x k
structure Lin.Sgn (L:Lin) (y:Nat→Rat):Prop where
 most:∀k,k<L.m→L.kd k=1→y k≤0
 least:∀k,k<L.m→L.kd k=2→0≤y k
structure Lin.Dual (L:Lin) (y:Nat→Rat):Prop extends L.Sgn y where
 col:∀j,j<L.n→L.col y j≤L.c j
structure Lin.Ref (L:Lin) (y:Nat→Rat):Prop extends L.Sgn y where
 col:∀j,j<L.n→L.col y j≤0
 rhs:0<L.rhs y
structure Lin.Ray (L:Lin) (r:Nat→Rat):Prop where
 pos:∀j,j<L.n→0≤r j
 most:∀k,k<L.m→L.kd k≠2→L.row r k≤0
 least:∀k,k<L.m→L.kd k≠1→0≤L.row r k
 val:L.val r<0
section
variable {L:Lin}
theorem Lin.swap (x y:Nat→Rat):sq L.n (fun j=>L.col y j*x j)=sq L.m (fun k=>y k*L.row x k):=by
 have e1:sq L.n (fun j=>L.col y j*x j)=sq L.n (fun j=>sq L.m fun k=>(L.A k j:Rat)*y k*x j):=sq_congr fun j _=>by
  unfold Lin.col
  rw[←sq_mul (c:=x j) |>fun h=>(by rw[h];grind:(sq L.m fun k=>x j*((L.A k j:Rat)*y k))=sq L.m (fun k=>(L.A k j:Rat)*y k)*x j)]
  exact sq_congr fun k _=>by grind
 rw[e1,sq_swap]
 refine sq_congr fun k _=>?_
 unfold Lin.row
 rw[←sq_mul]
 exact sq_congr fun j _=>by grind
theorem rowle {y r b:Rat} (h:(y≤0∧r≤b)∨(0≤y∧b≤r)∨r=b):b*y≤y*r:=by
 rcases h with ⟨h1,h2⟩ | ⟨h1,h2⟩ | h
 ·have:0≤(-y)*(b - r):=Rat.mul_nonneg (by grind) (by grind)
  grind
 ·have:0≤y*(r - b):=Rat.mul_nonneg h1 (by grind)
  grind
 ·subst h;grind
theorem Lin.Sgn.rows {x y:Nat→Rat} (h:L.Sgn y) {b:Nat→Rat} (h1:∀k,k<L.m→L.kd k≠2→L.row x k≤b k) (h2:∀k,k<L.m→L.kd k≠1→b k≤L.row x k):sq L.m (fun k=>b k*y k)≤sq L.m (fun k=>y k*L.row x k):=sq_le fun k hk=>by
 apply rowle
 by_cases e1:L.kd k=1
 ·exact .inl ⟨h.most k hk e1,h1 k hk (by omega)⟩
 ·by_cases e2:L.kd k=2
  ·exact .inr (.inl ⟨h.least k hk e2,h2 k hk e1⟩)
  ·have a1:=h1 k hk e2
   have a2:=h2 k hk e1
   exact .inr (.inr (Rat.le_antisymm a1 a2))
theorem Lin.Ref.none {x y:Nat→Rat} (hy:L.Ref y) (hx:L.Feas x):False:=by
 have h1:=hy.rows (x:=x) (b:=fun k=>(L.b k:Rat)) hx.most hx.least
 rw[←L.swap x y] at h1
 have h2:sq L.n (fun j=>L.col y j*x j)≤sq L.n (fun _=>0):=sq_le fun j hj=>by
  have:0≤(-L.col y j)*x j:=Rat.mul_nonneg (by have:=hy.col j hj;grind) (hx.pos j hj)
  grind
 rw[sq_zero (f:=fun _=>0) fun _ _=>rfl] at h2
 have h3:=hy.rhs
 unfold Lin.rhs at h3
 grind
theorem Lin.Ray.none {r y:Nat→Rat} (hr:L.Ray r) (hy:L.Dual y):False:=by
 have h1:=hy.rows (x:=r) (b:=fun _=>0) hr.most hr.least
 rw[←L.swap r y,sq_zero (f:=fun k=>0*y k) fun k _=>by grind] at h1
 have h2:sq L.n (fun j=>L.col y j*r j)≤L.val r:=sq_le fun j hj=>Rat.mul_le_mul_of_nonneg_right (hy.col j hj) (hr.pos j hj)
 have h3:=hr.val
 grind
end
structure Lay where
 N:Nat
 sl:Nat→Nat
 σ:Nat→Int
def Lay.M (Y:Lay) (L:Lin) (k j:Nat):Int :=
 if j<L.n then Y.σ k*L.A k j else if j<Y.N then (if L.kd k≠3∧j=Y.sl k then Y.σ k*(if L.kd k=1 then 1 else -1) else 0) else if j<Y.N+L.m then (if j=Y.N+k then 1 else 0) else Y.σ k*L.b k
structure Lay.ok (Y:Lay) (L:Lin):Prop where
 n:L.n≤Y.N
 kd:∀k,k<L.m→L.kd k=1∨L.kd k=2∨L.kd k=3
 sl:∀k,k<L.m→L.kd k≠3→L.n≤Y.sl k∧Y.sl k<Y.N
 inj:∀k l,k<L.m→l<L.m→L.kd k≠3→L.kd l≠3→Y.sl k=Y.sl l→k=l
 sg:∀k,k<L.m→Y.σ k=1∨Y.σ k= -1
 b:∀k,k<L.m→0≤Y.σ k*L.b k
abbrev Lay.R (Y:Lay) (L:Lin):Nat:=Y.N+L.m
abbrev Lay.w (Y:Lay) (L:Lin):Nat:=Y.N+L.m+1
section
variable {L:Lin} {Y:Lay}
theorem Lay.M_a (h:Y.ok L) {k i:Nat} (hi:i<L.m):Y.M L k (Y.N+i)=if k=i then 1 else 0:=by
 have:=h.n
 unfold Lay.M
 rw[if_neg (by omega),if_neg (by omega),if_pos (by omega)]
 by_cases e:k=i
 ·rw[if_pos e,if_pos (by omega)]
 ·rw[if_neg e,if_neg (by omega)]
theorem Lay.M_R (h:Y.ok L) {k:Nat}:Y.M L k (Y.R L)=Y.σ k*L.b k:=by
 have:=h.n
 unfold Lay.M Lay.R
 rw[if_neg (by omega),if_neg (by omega),if_neg (by omega)]
abbrev Lay.Val (Y:Lay) (L:Lin) (S:Sx):Prop:=Dn.Val L.m (Y.w L) Y.N (Y.R L) (Y.M L) S
theorem Lay.art (h:Y.ok L):(∀i,i<L.m→Y.N+i<Y.w L)∧∀k,k<L.m→∀i,i<L.m→Y.M L k (Y.N+i)=if k=i then 1 else 0 :=
 ⟨fun i hi=>by unfold Lay.w;omega,fun k _ i hi=>Lay.M_a h hi⟩
theorem Lay.first (h:Y.ok L):Y.Val L ⟨Y.M L,1,fun i=>Y.N+i⟩:=by
 refine ⟨Tb.first (Lay.art h).1 (Lay.art h).2,fun i hi=>?_,fun i hi=>?_⟩
 ·show 0≤Y.M L i (Y.R L)
  rw[Lay.M_R h]
  exact h.b i hi
 ·show Y.N+i≠Y.N+L.m
  omega
def costs (L:Lin) (j:Nat):Int:=if j<L.n then L.c j else 0
end
end Dn
end Go.Proofs.YtfknoaclabfdlaaGreat

namespace Go.Proofs.YtfknoaclabfdlaaGreat
namespace Dn
def Lin.F (L:Lin) (k:Nat):Int:=1+ab (L.b k)+sz L.n fun j=>ab (L.A k j)
def Lin.P (L:Lin):Int:=pz L.m L.F
section
variable {L:Lin} {Y:Lay}
end
end Dn
end Go.Proofs.YtfknoaclabfdlaaGreat

namespace Go.Proofs.YtfknoaclabfdlaaGreat
namespace Dn
section
variable {L:Lin} {Y:Lay}
end
end Dn
end Go.Proofs.YtfknoaclabfdlaaGreat

namespace Go.Proofs.YtfknoaclabfdlaaGreat
namespace Dn
section
variable {α R:Type} {F:(α→Option R)→α→Option R}
theorem loopF_seq (n:Nat) (st:Nat→α) (r:Option R) (hb:∀again i,i<n→F again (st i)=again (st (i+1))) (hf:∀again,F again (st n)=r):∀(k i m:Nat),i+k=n→k<m→loopF F m (st i)=r
 | 0,i,m,h1,h2=>by
  obtain ⟨m,rfl⟩:∃m',m=m'+1:=⟨m - 1,by omega⟩
  rw[loopF_succ,show i=n by omega,hf]
 | k+1,i,m,h1,h2=>by
  obtain ⟨m,rfl⟩:∃m',m=m'+1:=⟨m - 1,by omega⟩
  rw[loopF_succ,hb _ _ (by omega)]
  exact loopF_seq n st r hb hf k (i+1) m (by omega) (by omega)
theorem lpK_seq (n:Nat) (hn:n≤1180591620717411303423) (st:Nat→α) (r:Option R) (hb:∀again i,i<n→F again (st i)=again (st (i+1))) (hf:∀again,F again (st n)=r):lpK α R F (st 0)=r :=
 loopF_seq n st r hb hf n 0 K0 (by omega) (by unfold K0;omega)
theorem lpK_seqX {x:α} (n:Nat) (hn:n≤1180591620717411303423) (st:Nat→α) (r:Option R) (hx:x=st 0) (hb:∀again i,i<n→F again (st i)=again (st (i+1))) (hf:∀again,F again (st n)=r):lpK α R F x=r:=by
 rw[hx]
 exact lpK_seq n hn st r hb hf
end
def rowL {α:Type} (w:Nat) (f:Nat→α):List α:=(List.range w).map f
def matL (m w:Nat) (T:Nat→Nat→Int):List (List Int):=(List.range m).map fun i=>rowL w (T i)
def cellL (m w:Nat) (T:Nat→Nat→Int):List (Option (List Int)):=(List.range m).map fun i=>some (rowL w (T i))
def tabL (m w:Nat) (T:Nat→Nat→Int):List Nat×List (Option (List Int)):=(List.range m,cellL m w T)
section
variable {α:Type} {m w:Nat} {T T':Nat→Nat→Int}
theorem rowL_len {f:Nat→α}:(rowL w f).length=w:=by unfold rowL;rw[List.length_map,List.length_range]
theorem rowL_get {f:Nat→α} {d:α} {j:Nat} (h:j<w):(rowL w f).getD j d=f j:=by
 unfold rowL
 rw[getD_nat (by rw[List.length_map,List.length_range];exact h),List.getElem_map,List.getElem_range]
theorem rowL_at {f:Nat→α} {j:Nat} (h:j<(rowL w f).length):(rowL w f)[j]=f j :=
 (List.getElem_map f (l:=List.range w) (h:=h)).trans (congrArg f (List.getElem_range _))
theorem rowL_congr {f g:Nat→α} (h:∀j,j<w→f j=g j):rowL w f=rowL w g:=by
 unfold rowL
 exact List.map_congr_left fun j hj=>h j (List.mem_range.1 hj)
theorem rowL_set {f:Nat→α} {j:Nat} {x:α} (hj:j<w):(rowL w f).set j x=rowL w fun k=>if k=j then x else f k:=by
 refine List.ext_getElem (by rw[List.length_set,rowL_len,rowL_len]) fun i h1 h2=>?_
 have h3:i<w:=by rw[rowL_len] at h2;exact h2
 rw[List.getElem_set,rowL_at,rowL_at]
 by_cases e:j=i
 ·rw[if_pos e,if_pos e.symm]
 ·rw[if_neg e,if_neg (Ne.symm e)]
theorem matL_len:(matL m w T).length=m:=by unfold matL;rw[List.length_map,List.length_range]
theorem matL_get {i:Nat} (h:i<m):(matL m w T).getD i []=rowL w (T i):=by
 unfold matL
 rw[getD_nat (by rw[List.length_map,List.length_range];exact h),List.getElem_map,List.getElem_range]
theorem cellL_len:(cellL m w T).length=m:=by unfold cellL;rw[List.length_map,List.length_range]
theorem tabL_len:(tabL m w T).1.length=m:=by unfold tabL;exact List.length_range
theorem cellL_get {i:Nat} (h:i<m):(cellL m w T).getD i none=some (rowL w (T i)):=by
 unfold cellL
 rw[getD_nat (by rw[List.length_map,List.length_range];exact h),List.getElem_map,List.getElem_range]
theorem cellL_at {i:Nat} (h:i<(cellL m w T).length):(cellL m w T)[i]=some (rowL w (T i)) :=
 (List.getElem_map (fun i=>some (rowL w (T i))) (l:=List.range m) (h:=h)).trans (congrArg (fun i=>some (rowL w (T i))) (List.getElem_range _))
theorem cell_row {i:Nat} (h:i<m):rowD (cellL m w T) i=rowL w (T i):=by unfold rowD;rw[cellL_get h];rfl
theorem cell_live {i:Nat} (h:i<m):liveB (cellL m w T) i=true:=by unfold liveB;rw[cellL_get h];rfl
theorem cellL_congr (h:∀i j,i<m→j<w→T i j=T' i j):cellL m w T=cellL m w T':=by
 unfold cellL
 exact List.map_congr_left fun i hi=>by rw[rowL_congr fun j hj=>h i j (List.mem_range.1 hi) hj]
theorem cell_set {i j:Nat} {x:Int} (hi:i<m) (hj:j<w):(cellL m w T).set i (some ((rowL w (T i)).set j x))=cellL m w fun k l=>if k=i∧l=j then x else T k l:=by
 rw[rowL_set hj]
 refine List.ext_getElem (by rw[List.length_set,cellL_len,cellL_len]) fun k h1 h2=>?_
 have h3:k<m:=by rw[cellL_len] at h2;exact h2
 rw[List.getElem_set,cellL_at,cellL_at]
 by_cases e:i=k
 ·subst e
  rw[if_pos rfl]
  congr 1
  refine rowL_congr fun l _=>?_
  simp
 ·rw[if_neg e]
  congr 1
  refine rowL_congr fun l _=>?_
  rw[if_neg fun h=>e h.1.symm]
theorem tab_all:((tabL m w T).1.all fun x=>liveB (tabL m w T).2 x)=true:=by
 rw[List.all_eq_true]
 intro i hi
 exact cell_live (List.mem_range.1 hi)
theorem tab_map:(tabL m w T).1.map (fun x=>rowD (tabL m w T).2 x)=matL m w T:=by
 unfold tabL matL
 exact List.map_congr_left fun i hi=>cell_row (List.mem_range.1 hi)
end
end Dn
end Go.Proofs.YtfknoaclabfdlaaGreat

namespace Go.Proofs.YtfknoaclabfdlaaGreat
open Tryz Dn Dn.Sh
def bnS (s:Sy) (i:Nat):ByteArray:=(s.1.getD i bk0).1
def bwS (s:Sy) (i:Nat):Int:=(s.1.getD i bk0).2
def rnS (s:Sy) (k:Nat):ByteArray:=(s.2.getD k rp0).1
def hsS (s:Sy) (k:Nat):List Hd:=(s.2.getD k rp0).2.1
structure ValidS (s:Sy):Prop where
 bl:1≤s.1.length∧s.1.length≤6
 rl:1≤s.2.length∧s.2.length≤6
 inj:∀i j,i<s.1.length→j<s.1.length→bnS s i=bnS s j→i=j
 rinj:∀i j,i<s.2.length→j<s.2.length→rnS s i=rnS s j→i=j
 wt:∀i,i<s.1.length→0≤bwS s i∧bwS s i≤16777216
 hl:∀k,k<s.2.length→(hsS s k).length≤10
 pl:∀k h,k<s.2.length→h<(hsS s k).length→ -2≤((hsS s k).getD h hd0).2.1∧((hsS s k).getD h hd0).2.1≤2
theorem range'_mem {n i:Nat} (h:i<n):i ∈ List.range' 0 n:=List.mem_range'.2 ⟨i,h,by omega⟩
theorem holdB_pulls {s:Sy} {h:Hd} {e:Bool} (hh:holdB s h e=true): -2≤h.2.1∧h.2.1≤2:=by
 unfold holdB at hh
 rw[Bool.and_eq_true] at hh
 have h2:=hh.2
 cases he:emptyB h.1 with
 | true=>rw[he,cT,decide_eq_true_iff] at h2;omega
 | false =>
  rw[he,cF,Bool.and_eq_true] at h2
  have h3:=h2.2
  cases e with
  | true=>rw[cT,Bool.or_eq_true,decide_eq_true_iff,decide_eq_true_iff] at h3;omega
  | false=>rw[cF,Bool.or_eq_true,Bool.or_eq_true,decide_eq_true_iff,decide_eq_true_iff,decide_eq_true_iff] at h3;omega
theorem mem_take_nth {l:List ByteArray} {i j:Nat} {d:ByteArray} (h1:i<j) (h2:j≤l.length):l.getD i d ∈ l.take j:=by
 rw[getD_nat (by omega)]
 exact List.mem_take_iff_getElem.2 ⟨i,by omega,rfl⟩
theorem validS_of {s:Sy} (h:validS s=true):ValidS s:=by
 unfold validS at h
 rw[Bool.and_eq_true,Bool.and_eq_true,Bool.and_eq_true,decide_eq_true_iff,List.all_eq_true,List.all_eq_true] at h
 obtain ⟨⟨h1,h2,h3,h4⟩,hb,hr,_⟩:=h
 have hb':∀i,i<s.1.length→bnS s i ∉ (s.1.map (·.fst)).take i∧0≤bwS s i∧bwS s i≤16777216:=fun i hi=>by
  have:=hb i (range'_mem hi)
  unfold blockB btwS at this
  rw[Bool.and_eq_true,Bool.and_eq_true,Bool.and_eq_true,Bool.not_eq_true',memY_not,decide_eq_true_iff,decide_eq_true_iff] at this
  exact this.2
 have hr':∀i,i<s.2.length→rnS s i ∉ (s.2.map (·.fst)).take i∧ropeB s (s.2.getD i rp0)=true:=fun i hi=>by
  have:=hr i (range'_mem hi)
  unfold ropeAtB at this
  rw[Bool.and_eq_true,Bool.and_eq_true,Bool.not_eq_true',memY_not,List.mem_append] at this
  exact ⟨fun hm=>this.2.1 (.inr hm),this.2.2⟩
 have hro:∀k,k<s.2.length→(2≤(hsS s k).length∧(hsS s k).length≤10)∧∀i,i<(hsS s k).length→∃e,holdB s ((hsS s k).getD i hd0) e=true:=fun k hk=>by
  have:=(hr' k hk).2
  unfold ropeB at this
  rw[Bool.and_eq_true,Bool.and_eq_true,decide_eq_true_iff,List.all_eq_true] at this
  exact ⟨this.1,fun i hi=>⟨_,this.2.1 i (range'_mem hi)⟩⟩
 refine ⟨⟨h1,h2⟩,⟨h3,h4⟩,fun i j hi hj he=>?_,fun i j hi hj he=>?_,fun i hi=>(hb' i hi).2,fun k hk=>(hro k hk).1.2,fun k h hk hh=>?_⟩
 ·have e1:∀k,k<s.1.length→(s.1.map (·.fst)).getD k bk0.1=bnS s k:=fun k hk=>getD_mapY (f:=fun b:Bk=>b.1) (d:=bk0) hk bk0.1
  rcases Nat.lt_trichotomy i j with h | h | h
  ·exfalso
   apply (hb' j hj).1
   rw[←he,←e1 i hi]
   exact mem_take_nth h (by rw[List.length_map];omega)
  ·exact h
  ·exfalso
   apply (hb' i hi).1
   rw[he,←e1 j hj]
   exact mem_take_nth h (by rw[List.length_map];omega)
 ·have e1:∀k,k<s.2.length→(s.2.map (·.fst)).getD k rp0.1=rnS s k:=fun k hk=>getD_mapY (f:=fun b:Rp=>b.1) (d:=rp0) hk rp0.1
  rcases Nat.lt_trichotomy i j with h | h | h
  ·exfalso
   apply (hr' j hj).1
   rw[←he,←e1 i hi]
   exact mem_take_nth h (by rw[List.length_map];omega)
  ·exact h
  ·exfalso
   apply (hr' i hi).1
   rw[he,←e1 j hj]
   exact mem_take_nth h (by rw[List.length_map];omega)
 ·obtain ⟨e,he⟩:=(hro k hk).2 h hh
  exact holdB_pulls he
theorem fbI_cases (s:Sy) (n:ByteArray):(fbI s n<0∧∀i,i<s.1.length→bnS s i≠n)∨∃i:Nat,i<s.1.length∧fbI s n=(i:Int)∧bnS s i=n:=by
 by_cases h:fbI s n<0
 ·refine .inl ⟨h,fun i hi he=>?_⟩
  have:=(idxI_neg (p:=fun b:Bk=>decide (b.1=n)) (l:=s.1) (i:=0) (by omega)).1 h (s.1.getD i bk0) (by rw[getD_nat hi];exact List.getElem_mem _)
  exact of_decide_eq_false this he
 ·obtain ⟨_,h2,h3⟩:=idxI_at (p:=fun b:Bk=>decide (b.1=n)) (d:=bk0) (l:=s.1) (i:=0) (by omega) (Int.not_lt.1 h)
  refine .inr ⟨(fbI s n).toNat,?_,?_,?_⟩
  ·unfold fbI;omega
  ·unfold fbI at h ⊢;omega
  ·have:=of_decide_eq_true h3
   rw[Int.sub_zero] at this
   exact this
def partP (hs:List Hd) (n:ByteArray) (h:Nat):Int:=sz h fun t=>if (hs.getD t hd0).1=n then (hs.getD t hd0).2.1 else 0
def Mx (s:Sy) (i k:Nat):Int:=partP (hsS s k) (bnS s i) (hsS s k).length
theorem partP_bound {hs:List Hd} {n:ByteArray} (hp:∀t,t<hs.length→ -2≤(hs.getD t hd0).2.1∧(hs.getD t hd0).2.1≤2):∀h,h≤hs.length→ -(2*(h:Int))≤partP hs n h∧partP hs n h≤2*(h:Int)
 | 0,_=>by simp[partP,sz]
 | h+1,hh=>by
  have:=partP_bound (n:=n) hp h (by omega)
  have h2:=hp h (by omega)
  unfold partP at *
  simp only[sz]
  split<;>omega
theorem Mx_bound {s:Sy} (hv:ValidS s) (i:Nat) {k:Nat} (hk:k<s.2.length): -20≤Mx s i k∧Mx s i k≤20:=by
 have h1:=partP_bound (n:=bnS s i) (hs:=hsS s k) (fun t ht=>hv.pl k t hk ht) _ (Nat.le_refl _)
 have h2:=hv.hl k hk
 unfold Mx
 omega
theorem succ_wrapS {i:Nat} (h:i≤1000000):IntKind.wrap .i64 ((i:Int)+1)=((i+1:Nat):Int):=by rw[wrap_id (by omega) (by omega)];rfl
theorem ypull_ok {s:Sy} (hv:ValidS s) (i:Nat) {k:Nat} (hk:k<s.2.length):ref10_Pull (s.2.getD k rp0) (bnS s i)=some (Mx s i k):=by
 have hp:=fun t ht=>hv.pl k t hk ht
 have hl:=hv.hl k hk
 have hb:=partP_bound (n:=bnS s i) (hs:=hsS s k) hp
 unfold Mx
 unfold hsS at hp hl hb ⊢
 generalize s.2.getD k rp0=r at hp hl hb ⊢
 obtain ⟨nm,hs,ha⟩:=r
 simp only at hp hl hb ⊢
 simp only[ref10_Pull,ref10_Pull_b,str_beq]
 refine lpK_seqX hs.length (by omega) (fun t=>(partP hs (bnS s i) t,(t:Int),PUnit.unit)) _ rfl (fun again t ht=>?_) (fun again=>?_)
 ·have h1:=hb t (by omega)
  have h2:=hb (t+1) (by omega)
  have e:partP hs (bnS s i) (t+1)=partP hs (bnS s i) t+if (hs.getD t hd0).1=bnS s i then (hs.getD t hd0).2.1 else 0:=rfl
  simp only[inB_nat,decide_eq_true ht,decide_eq_true (show (t:Int)<hs.length by omega),cT,Int.toNat_natCast,succ_wrapS (show t≤1000000 by omega),show List.getD hs t ({ data:={ toList:=[] } },(0:Int),(0:Int),(0:Int))=hs.getD t hd0 from rfl]
  rw[e] at h2 ⊢
  by_cases c:(hs.getD t hd0).1=bnS s i
  ·rw[if_pos c] at h2 ⊢
   rw[decide_eq_true c,cT,wrap_id (by omega) (by omega)]
  ·rw[if_neg c,decide_eq_false c,cF,Int.add_zero]
 ·simp only[decide_eq_false (show ¬ (hs.length:Int)<hs.length by omega),cF]
def matS (s:Sy):List (List Int):=matL s.1.length s.2.length (Mx s)
theorem rowL_snocS {α:Type} {w:Nat} {f:Nat→α}:rowL w f++[f w]=rowL (w+1) f:=by
 unfold rowL
 rw[List.range_succ,List.map_append]
 rfl
theorem cellL_snocS {m w:Nat} {T:Nat→Nat→Int}:cellL m w T++[some (rowL w (T m))]=cellL (m+1) w T:=by
 unfold cellL
 rw[List.range_succ,List.map_append]
 rfl
theorem yrmat_ok {s:Sy} (hv:ValidS s):ref10_Matrix s=some (matS s):=by
 have hb:=hv.bl
 have hr:=hv.rl
 simp only[ref10_Matrix,ref10_Matrix_b]
 refine lpK_seqX s.1.length (by omega) (fun i=>(tabL i s.2.length (Mx s),(i:Int),PUnit.unit)) _ rfl (fun again i hi=>?_) (fun again=>?_)
 ·simp only[inB_nat,decide_eq_true hi,decide_eq_true (show (i:Int)<s.1.length by omega),cT,Int.toNat_natCast]
  refine lpK_seqX s.2.length (by omega) (fun k=>(rowL k (Mx s i),(k:Int),PUnit.unit)) _ rfl (fun again1 k hk=>?_) (fun again1=>?_)
  ·have hp:ref10_Pull (s.2.getD k ({ data:={ toList:=[] } },[],false)) (s.1.getD i ({ data:={ toList:=[] } },(0:Int))).1=some (Mx s i k):=ypull_ok hv i hk
   simp only[inB_nat,decide_eq_true hk,decide_eq_true (show (k:Int)<s.2.length by omega),cT,Int.toNat_natCast,hp,obind_some',rowL_len,fitB_of (show (k+1)*8≤140737488355328 by omega),succ_wrapS (show k≤1000000 by omega),rowL_snocS]
  ·simp only[decide_eq_false (show ¬ (s.2.length:Int)<s.2.length by omega),cF,tabL_len,fitB_of (show (i+1)*24≤140737488355328 by omega),cT,succ_wrapS (show i≤1000000 by omega)]
   unfold tabL
   rw[cellL_len,Nat.add_zero,←List.range_succ,cellL_snocS]
 ·simp only[decide_eq_false (show ¬ (s.1.length:Int)<s.1.length by omega),cF]
  rw[tab_all,tab_map,cT]
  rfl
noncomputable def matB (T:List Nat) (x0:Sy):Option (List (List Int)×Int×Unit) :=
 obind (reeving_Valid x0) fun (t:Bool)=>bif !t then some ([],(1:Int),PUnit.unit) else bif decide ((0:Int)≤(↑(List.length x0.1):Int))&&fitB (Int.toNat (↑(List.length x0.1):Int)) (24:Nat) then lpK (Int×(List Nat×List (Option (List Int)))×PUnit) (List (List Int)×Int×PUnit) (fun (again:Int×(List Nat×List (Option (List Int)))×PUnit→Option (List (List Int)×Int×PUnit)) (x:Int×(List Nat×List (Option (List Int)))×PUnit)=>bif decide (x.1<(↑(List.length T):Int)) then bif decide ((0:Int)≤(↑(List.length x0.2):Int))&&fitB (Int.toNat (↑(List.length x0.2):Int)) (8:Nat) then bif inB x.1 (List.length x.2.1.1) then bif Nat.ble (Nat.succ (Int.toNat x.1)) (List.length x.2.1.1) then again (IntKind.wrap .i64 (x.1+(1:Int)),(List.set x.2.1.1 (Int.toNat x.1) (List.length x.2.1.2),x.2.1.2++[some (List.replicate (Int.toNat (↑(List.length x0.2):Int)) (0:Int))]),PUnit.unit) else none else none else none else lpK (Int×(List Nat×List (Option (List Int)))×PUnit) (List (List Int)×Int×PUnit) (fun (again:Int×(List Nat×List (Option (List Int)))×PUnit→Option (List (List Int)×Int×PUnit)) (x:Int×(List Nat×List (Option (List Int)))×PUnit)=>bif decide (x.1<(↑(List.length x0.2):Int)) then bif inB x.1 (List.length x0.2) then lpK (Int×(List Nat×List (Option (List Int)))×PUnit) (List (List Int)×Int×PUnit) (fun (again_1:Int×(List Nat×List (Option (List Int)))×PUnit→Option (List (List Int)×Int×PUnit)) (x_1:Int×(List Nat×List (Option (List Int)))×PUnit)=>let v10:Int:=IntKind.wrap .i64 (x_1.1+(1:Int));let v11:(List Nat×List (Option (List Int)))×PUnit:=(x_1.2.1,PUnit.unit);let v12:ByteArray×Int×Int×Int:=List.getD (List.getD x0.2 (Int.toNat x.1) ({ data:={ toList:=[] } },[],false)).2.1 (Int.toNat x_1.1) ({ data:={ toList:=[] } },(0:Int),(0:Int),(0:Int));bif decide (x_1.1<(↑(List.length (List.getD x0.2 (Int.toNat x.1) ({ data:={ toList:=[] } },[],false)).2.1):Int)) then bif inB x_1.1 (List.length (List.getD x0.2 (Int.toNat x.1) ({ data:={ toList:=[] } },[],false)).2.1) then obind (reeving_find x0 v12.1) fun (t:Int)=>bif decide (t≥(0:Int)) then bif inB t (List.length x_1.2.1.1) then bif Nat.ble (Nat.succ (Int.toNat t)) (List.length x_1.2.1.1) then bif inB x.1 (List.length (rowD x_1.2.1.2 (List.getD x_1.2.1.1 (Int.toNat t) (0:Nat)))) then bif Nat.ble (Nat.succ (Int.toNat x.1)) (List.length (rowD x_1.2.1.2 (List.getD x_1.2.1.1 (Int.toNat t) (0:Nat)))) then bif inB x.1 (List.length (rowD x_1.2.1.2 (List.getD x_1.2.1.1 (Int.toNat t) (0:Nat)))) then bif Nat.ble (Nat.succ (Int.toNat x.1)) (List.length (rowD x_1.2.1.2 (List.getD x_1.2.1.1 (Int.toNat t) (0:Nat)))) then again_1 (v10,(x_1.2.1.1,List.set x_1.2.1.2 (List.getD x_1.2.1.1 (Int.toNat t) (0:Nat)) (some (List.set (rowD x_1.2.1.2 (List.getD x_1.2.1.1 (Int.toNat t) (0:Nat))) (Int.toNat x.1) (IntKind.wrap .i64 (List.getD (rowD x_1.2.1.2 (List.getD x_1.2.1.1 (Int.toNat t) (0:Nat))) (Int.toNat x.1) (0:Int)+v12.2.1))))),PUnit.unit) else none else none else none else none else none else none else again_1 (v10,v11) else none else again (IntKind.wrap .i64 (x.1+(1:Int)),v11)) ((0:Int),x.2.1,PUnit.unit) else none else bif List.all x.2.1.1 fun (x_1:Nat)=>liveB x.2.1.2 x_1 then some (List.map (fun (x_1:Nat)=>rowD x.2.1.2 x_1) x.2.1.1,(0:Int),PUnit.unit) else none) ((0:Int),x.2.1,PUnit.unit)) ((0:Int),(T,List.replicate (Int.toNat (↑(List.length x0.1):Int)) (some [])),PUnit.unit) else none
theorem matB_eq (s:Sy):reeving_Matrix s=matB (tabZ Sh.ref (0:Nat) (Int.toNat (↑(List.length s.1):Int)) 0) s:=by kernel_rfl
theorem tabZ_range:∀(n k:Nat),tabZ Sh.ref (0:Nat) n k=(List.range n).map fun i=>k+i
 | 0,_=>rfl
 | n+1,k=>by
  rw[List.range_succ_eq_map,List.map_cons,List.map_map]
  unfold tabZ
  rw[tabZ_range n (k+1)]
  have e:shS k Sh.ref (0:Nat)=k+0:=rfl
  rw[e]
  congr 1
  refine List.map_congr_left fun i _=>?_
  simp only[Function.comp]
  omega
def tabM (m w:Nat) (T:Nat→Nat→Int):List Nat×List (Option (List Int)):=(rowL m fun k=>m+k,List.replicate m (some [])++cellL m w T)
theorem rep_rowS {n:Nat}:List.replicate n (0:Int)=rowL n fun _=>0:=by
 unfold rowL
 rw[List.map_const',List.length_range]
section
variable {m w:Nat} {T:Nat→Nat→Int}
theorem offc_get {i:Nat}:(List.replicate m (some ([]:List Int))++cellL m w T).getD (m+i) none=(cellL m w T).getD i none:=by
 rw[List.getD_eq_getElem?_getD,List.getD_eq_getElem?_getD,List.getElem?_append_right (by rw[List.length_replicate];omega),List.length_replicate,Nat.add_sub_cancel_left]
theorem offc_row {i:Nat} (h:i<m):rowD (List.replicate m (some ([]:List Int))++cellL m w T) (m+i)=rowL w (T i):=by
 unfold rowD
 rw[offc_get,cellL_get h]
 rfl
theorem offc_live {i:Nat} (h:i<m):liveB (List.replicate m (some ([]:List Int))++cellL m w T) (m+i)=true:=by
 unfold liveB
 rw[offc_get,cellL_get h]
 rfl
theorem offc_set {i j:Nat} {x:Int} (hi:i<m) (hj:j<w):(List.replicate m (some ([]:List Int))++cellL m w T).set (m+i) (some ((rowL w (T i)).set j x))=List.replicate m (some [])++cellL m w fun k l=>if k=i∧l=j then x else T k l:=by
 rw[List.set_append_right _ _ (by rw[List.length_replicate];omega),List.length_replicate,Nat.add_sub_cancel_left,cell_set hi hj]
end
theorem ymat_ok {s:Sy} (h:validS s=true):reeving_Matrix s=some (matS s,0,()):=by
 have hv:=validS_of h
 have hb:=hv.bl
 have hr:=hv.rl
 have hf:=fun n=>yfind_ok s n (show s.1.length≤1000000 by omega)
 rw[matB_eq,tabZ_range]
 simp only[matB,sysV_ok,h,obind_some',Bool.not_true,cF,Int.toNat_natCast,List.length_map,List.length_range,decide_eq_true (show (0:Int)≤(s.1.length:Nat) by omega),decide_eq_true (show (0:Int)≤(s.2.length:Nat) by omega),
  fitB_of (show s.1.length*24≤140737488355328 by omega),fitB_of (show s.2.length*8≤140737488355328 by omega),Bool.and_self,cT]
 obtain ⟨m,hm⟩:∃m,m=s.1.length:=⟨_,rfl⟩
 obtain ⟨w,hw⟩:∃w,w=s.2.length:=⟨_,rfl⟩
 rw[←hm] at hb ⊢
 rw[←hw] at hr ⊢
 refine lpK_seqX m (by omega) (fun i=>((i:Int),(rowL m (fun k=>if k<i then m+k else k),List.replicate m (some [])++cellL i w fun _ _=>0),PUnit.unit)) _ ?_ (fun again i hi=>?_) (fun again=>?_)
 ·have e:(List.range m).map (fun i=>0+i)=rowL m (fun k=>if k<0 then m+k else k):=rowL_congr (f:=fun i=>0+i) fun k _=>by rw[if_neg (by omega),Nat.zero_add]
  rw[e]
  show _=((0:Int),(_,List.replicate m (some ([]:List Int))++[]),PUnit.unit)
  rw[List.append_nil]
 ·simp only[inB_nat,rowL_len,decide_eq_true hi,decide_eq_true (show (i:Int)<m by omega),cT,Int.toNat_natCast,ble_of (show i.succ≤m by omega),succ_wrapS (show i≤1000000 by omega)]
  refine congrArg again ?_
  refine congrArg (fun p=>(((i+1:Nat):Int),p,PUnit.unit)) ?_
  rw[rowL_set hi,List.length_append,List.length_replicate,cellL_len,rep_rowS,List.append_assoc,cellL_snocS]
  refine congrArg (fun l=>(l,_)) ?_
  refine rowL_congr fun k _=>?_
  by_cases c:k=i
  ·rw[if_pos c,if_pos (by omega)];omega
  ·rw[if_neg c]
   by_cases c2:k<i
   ·rw[if_pos c2,if_pos (by omega)]
   ·rw[if_neg c2,if_neg (by omega)]
 ·simp only[decide_eq_false (show ¬ (m:Int)<m by omega),cF]
  refine lpK_seqX w (by omega) (fun k=>((k:Int),tabM m w (fun i j=>if j<k then Mx s i j else 0),PUnit.unit)) _ ?_ (fun again k hk=>?_) (fun again=>?_)
  ·refine congrArg (fun p=>((0:Int),p,PUnit.unit)) ?_
   unfold tabM
   refine Prod.ext (rowL_congr fun k hk=>by rw[if_pos hk]) ?_
   simp only
   rw[cellL_congr fun i j _ _=>(if_neg (show ¬ j<0 by omega)).symm]
  ·have hwk:k<s.2.length:=by omega
   have hpl:=fun t ht=>hv.pl k t hwk ht
   have hhl:=hv.hl k hwk
   have hpb:=fun n=>partP_bound (n:=n) (hs:=hsS s k) hpl
   simp only[inB_nat,decide_eq_true hk,decide_eq_true (show (k:Int)<w by omega),cT,Int.toNat_natCast,succ_wrapS (show k≤1000000 by omega),show (List.getD s.2 k ({ data:={ toList:=[] } },[],false)).2.1=hsS s k from rfl]
   refine lpK_seqX (hsS s k).length (by omega) (fun t=>((t:Int),tabM m w (fun i j=>if j<k then Mx s i j else if j=k then partP (hsS s k) (bnS s i) t else 0),PUnit.unit)) _ ?_ (fun again1 t ht=>?_) (fun again1=>?_)
   ·refine congrArg (fun p=>((0:Int),p,PUnit.unit)) ?_
    unfold tabM
    refine congrArg (fun c=>(_,List.replicate m (some ([]:List Int))++c)) (cellL_congr fun i j _ _=>?_)
    by_cases c1:j<k
    ·rw[if_pos c1,if_pos c1]
    ·rw[if_neg c1,if_neg c1]
     split<;>rfl
   ·obtain ⟨hd,hhd⟩:∃hd,hd=(hsS s k).getD t hd0:=⟨_,rfl⟩
    have hpt:=hpl t ht
    simp only[inB_nat,decide_eq_true ht,decide_eq_true (show (t:Int)<(hsS s k).length by omega),cT,Int.toNat_natCast,succ_wrapS (show t≤1000000 by omega),show List.getD (hsS s k) t ({ data:={ toList:=[] } },(0:Int),(0:Int),(0:Int))=(hsS s k).getD t hd0 from rfl,hf,obind_some']
    rw[←hhd] at hpt ⊢
    have estep:∀n,partP (hsS s k) n (t+1)=partP (hsS s k) n t+if hd.1=n then hd.2.1 else 0:=fun n=>by rw[hhd];rfl
    rcases fbI_cases s hd.1 with ⟨h1,h2⟩ | ⟨i0,h1,h2,h3⟩
    ·rw[decide_eq_false (show ¬ fbI s hd.1≥0 by omega),cF]
     refine congrArg again1 ?_
     refine congrArg (fun p=>(((t+1:Nat):Int),p,PUnit.unit)) ?_
     unfold tabM
     refine congrArg (fun c=>(_,List.replicate m (some ([]:List Int))++c)) (cellL_congr fun i j hi _=>?_)
     have e:partP (hsS s k) (bnS s i) (t+1)=partP (hsS s k) (bnS s i) t:=by
      rw[estep,if_neg fun e=>h2 i (by omega) e.symm,Int.add_zero]
     rw[e]
    ·have hi0:i0<m:=by omega
     have hTl:(rowL m fun k=>m+k).getD i0 0=m+i0:=rowL_get hi0
     have hrow:=offc_row (w:=w) (T:=fun i j=>if j<k then Mx s i j else if j=k then partP (hsS s k) (bnS s i) t else 0) hi0
     have hget:(rowL w fun j=>if j<k then Mx s i0 j else if j=k then partP (hsS s k) (bnS s i0) t else 0).getD k 0=partP (hsS s k) (bnS s i0) t:=by
      rw[rowL_get hk,if_neg (by omega),if_pos rfl]
     have hb1:=hpb (bnS s i0) t (by omega)
     simp only[h2,decide_eq_true (show (i0:Int)≥0 by omega),cT,Int.toNat_natCast]
     unfold tabM
     simp only[inB_nat,rowL_len,decide_eq_true hi0,cT,hTl,hrow,decide_eq_true hk,ble_of (show k.succ≤w by omega),ble_of (show i0.succ≤m by omega),hget]
     rw[wrap_id (by omega) (by omega),offc_set (T:=fun i j=>if j<k then Mx s i j else if j=k then partP (hsS s k) (bnS s i) t else 0) hi0 hk]
     refine congrArg again1 ?_
     refine congrArg (fun c=>(((t+1:Nat):Int),(_,List.replicate m (some ([]:List Int))++c),PUnit.unit)) (cellL_congr fun i j hi _=>?_)
     by_cases c1:j=k
     ·subst c1
      by_cases c2:i=i0
      ·subst c2
       rw[if_pos ⟨rfl,rfl⟩,if_neg (by omega),if_pos rfl,estep,if_pos h3.symm]
      ·rw[if_neg fun e=>c2 e.1,if_neg (by omega),if_pos rfl,if_neg (by omega),if_pos rfl,estep,if_neg,Int.add_zero]
       intro e
       exact c2 (hv.inj i i0 (by omega) h1 (by rw[h3,e]))
     ·rw[if_neg fun e=>c1 e.2,if_neg c1,if_neg c1]
   ·simp only[decide_eq_false (show ¬ ((hsS s k).length:Int)<(hsS s k).length by omega),cF]
    refine congrArg again ?_
    refine congrArg (fun p=>(((k+1:Nat):Int),p,PUnit.unit)) ?_
    unfold tabM
    refine congrArg (fun c=>(_,List.replicate m (some ([]:List Int))++c)) (cellL_congr fun i j _ _=>?_)
    by_cases c1:j<k
    ·rw[if_pos c1,if_pos (by omega)]
    ·rw[if_neg c1]
     by_cases c2:j=k
     ·subst c2
      rw[if_pos rfl,if_pos (by omega)]
      rfl
     ·rw[if_neg c2,if_neg (by omega)]
  ·simp only[decide_eq_false (show ¬ (w:Int)<w by omega),cF]
   have hall:((tabM m w fun i j=>if j<w then Mx s i j else 0).1.all fun x=>liveB (tabM m w fun i j=>if j<w then Mx s i j else 0).2 x)=true:=by
    rw[List.all_eq_true]
    intro x hx
    obtain ⟨i,hi,rfl⟩:=List.mem_map.1 hx
    exact offc_live (List.mem_range.1 hi)
   have hmap:(tabM m w fun i j=>if j<w then Mx s i j else 0).1.map (fun x=>rowD (tabM m w fun i j=>if j<w then Mx s i j else 0).2 x)=matS s:=by
    unfold matS matL
    rw[←hm,←hw]
    unfold tabM rowL
    rw[List.map_map]
    refine List.map_congr_left fun i hi=>?_
    have:=offc_row (w:=w) (T:=fun i j=>if j<w then Mx s i j else 0) (List.mem_range.1 hi)
    exact this.trans (rowL_congr fun j hj=>if_pos hj)
   rw[hall,hmap,cT]
theorem ymat_bad {s:Sy} (h:validS s=false):reeving_Matrix s=some ([],1,()):=by
 rw[matB_eq]
 simp only[matB,sysV_ok,h,obind_some',Bool.not_false,cT]
end Go.Proofs.YtfknoaclabfdlaaGreat

namespace Go.Proofs.YtfknoaclabfdlaaGreat
open Tryz Dn Dn.Sh
noncomputable def sumR:List Int→List Fq→Rat→Option Rat
 | n ::l,a ::x,s=>if fitsQ ((n:Rat)*qv a)∧fitsQ (s+(n:Rat)*qv a) then sumR l x (s+(n:Rat)*qv a) else none
 | _,_,s=>some s
noncomputable def endR {R:Type} (o:Option Rat) (bad:Option R) (good:Rat→Option R):Option R:=match o with
 | some q=>good q
 | none=>bad
theorem sum_up {σ R:Type} {l:List Int} {x:List Fq} (hl:l.length≤x.length) {b:Nat→σ→(σ→Option R)→Option R} {f:σ→Option R} {cur:σ→Rat} {bad:Option R} {good:Rat→Option R}
  (nx:∀i s,fitsQ (cur s+((l.getD i 0:Int):Rat)*qv (x.getD i (0,0)))→σ) (hnx:∀i s h,cur (nx i s h)=cur s+((l.getD i 0:Int):Rat)*qv (x.getD i (0,0)))
  (hb:∀i s k,i<l.length→b i s k=if h:fitsQ (((l.getD i 0:Int):Rat)*qv (x.getD i (0,0)))∧fitsQ (cur s+((l.getD i 0:Int):Rat)*qv (x.getD i (0,0))) then k (nx i s h.2) else bad)
  (hf:∀s,f s=good (cur s)):∀(k i:Nat) (s:σ),i+k=l.length→upF b f k i s=endR (sumR (l.drop i) (x.drop i) (cur s)) bad good
 | 0,i,s,h=>by
  rw[List.drop_eq_nil_of_le (by omega)]
  exact hf s
 | k+1,i,s,h=>by
  have h1:i<l.length:=by omega
  have h2:i<x.length:=by omega
  have e1:l.getD i 0=l[i]:=getD_nat h1
  have e2:x.getD i (0,0)=x[i]:=getD_nat h2
  simp only[upF]
  rw[hb i s _ h1,List.drop_eq_getElem_cons h1,List.drop_eq_getElem_cons h2,sumR,←e1,←e2]
  split
  ·rw[sum_up hl nx hnx hb hf k (i+1) _ (by omega),hnx]
  ·rfl
theorem obN {T R:Type} {t:T} {k:T→Option R}:obind (some t) k=k t:=id rfl
theorem rOf_ok (n:Int):ref02_Of n=some (n,1):=id rfl
theorem of_ok {l:List Int} {x:List Fq} {e:Int} (hl:l.length≤x.length) (h0:l.length≤1000000) (hc:∀n ∈ l,-1152921504606846976≤n∧n≤1152921504606846976) (hx:∀a ∈ x,okF a) :
  program_sums_of e l x=endR (sumR l x 0) (some (5,(0,1))) fun q=>some (e,prQ q):=by
 simp only[program_sums_of,program_sums_of_b]
 refine (lpK_up (α:=Int×Int×Fq×Fq×PUnit) l.length (by omega) (fun i (s:Fq×{q:Rat // fitsQ q})=>((i:Int),e,s.1,prQ s.2.1,PUnit.unit))
  (fun i s k=>if h:fitsQ (((l.getD i 0:Int):Rat)*qv (x.getD i (0,0)))∧fitsQ (s.2.1+((l.getD i 0:Int):Rat)*qv (x.getD i (0,0))) then k (s.1,⟨_,h.2⟩) else some (5,(0,1))) (fun s=>some (e,prQ s.2.1)) ?_ ?_ ((0,0),⟨0,by decide⟩)).trans ?_
 ·intro again i s hi
  have hw:IntKind.wrap .i64 ((i:Int)+1)=((i+1:Nat):Int):=by rw[wrap_id (by omega) (by omega)];rfl
  obtain ⟨w,q,hq⟩:=s
  have hn:l.getD i 0 ∈ l:=by rw[getD_nat hi];exact List.getElem_mem _
  have ha:okF (x.getD i (0,0)):=by rw[getD_nat (show i<x.length by omega)];exact hx _ (List.getElem_mem _)
  have hm:=Mul_ok (okF_int (hc _ hn).1 (hc _ hn).2) ha
  rw[qv_int] at hm
  simp only[inB_nat,decide_eq_true hi,decide_eq_true (show i<x.length by omega),decide_eq_true (show (i:Int)<l.length by omega),cT,Int.toNat_natCast,hw,jnK_eq',hm,obind_some']
  generalize l.getD i 0=n at *
  generalize x.getD i (0,0)=a at *
  rcases fitQ_cases ((n:Rat)*qv a) with ⟨f1,e1⟩ | ⟨f1,e1⟩
  ·have hA:=Add_ok (okF_prQ hq) (okF_prQ f1)
   rw[qv_prQ,qv_prQ] at hA
   simp only[e1,decide_true,cT,hA,obind_some']
   rcases fitQ_cases (q+(n:Rat)*qv a) with ⟨f2,e2⟩ | ⟨f2,e2⟩
   ·rw[dif_pos ⟨f1,f2⟩]
    simp only[e2,decide_true,Bool.not_true,cF]
   ·rw[dif_neg fun h=>f2 h.2]
    simp only[e2]
    rfl
  ·rw[dif_neg fun h=>f1 h.1]
   simp only[e1]
   rfl
 ·intro again s
  simp only[decide_eq_false (show ¬ (l.length:Int)<l.length by omega),cF]
 ·exact sum_up (cur:=fun s:Fq×{q:Rat // fitsQ q}=>s.2.1) (bad:=some (5,(0,1))) (good:=fun q=>some (e,prQ q)) hl (fun i s h=>(s.1,⟨_,h⟩)) (fun _ _ _=>rfl) (fun _ _ _ _=>rfl) (fun _=>rfl) l.length 0 ((0,0),⟨0,by decide⟩) (by omega)
theorem rsum_ok {l:List Int} {x:List Fq} (hl:l.length≤x.length) (h0:l.length≤1000000) (hc:∀n ∈ l,-1152921504606846976≤n∧n≤1152921504606846976) (hx:∀a ∈ x,okF a) :
  ref05_Sum l x=endR (sumR l x 0) (some ((0,0),5,())) fun q=>some (prQ q,0,()):=by
 unfold ref05_Sum ref05_Sum_b
 rw[rOf_ok,obN]
 refine (lpK_up (α:=Int×Fq×Fq×PUnit) l.length (by omega) (fun i (s:{q:Rat // fitsQ q})=>((i:Int),(0,0),prQ s.1,PUnit.unit))
  (fun i s k=>if h:fitsQ (((l.getD i 0:Int):Rat)*qv (x.getD i (0,0)))∧fitsQ (s.1+((l.getD i 0:Int):Rat)*qv (x.getD i (0,0))) then k ⟨_,h.2⟩ else some ((0,0),5,())) (fun s=>some (prQ s.1,0,())) ?_ ?_ ⟨0,by decide⟩).trans ?_
 ·intro again i s hi
  have hw:IntKind.wrap .i64 ((i:Int)+1)=((i+1:Nat):Int):=by rw[wrap_id (by omega) (by omega)];rfl
  obtain ⟨q,hq⟩:=s
  have hn:l.getD i 0 ∈ l:=by rw[getD_nat hi];exact List.getElem_mem _
  have ha:okF (x.getD i (0,0)):=by rw[getD_nat (show i<x.length by omega)];exact hx _ (List.getElem_mem _)
  have hm:=RTimes_ok (okF_int (hc _ hn).1 (hc _ hn).2) ha
  rw[qv_int] at hm
  simp only[inB_nat,decide_eq_true hi,decide_eq_true (show i<x.length by omega),decide_eq_true (show (i:Int)<l.length by omega),cT,Int.toNat_natCast,hw,rOf_ok,hm,obind_some']
  generalize l.getD i 0=n at *
  generalize x.getD i (0,0)=a at *
  rcases fitQ_cases ((n:Rat)*qv a) with ⟨f1,e1⟩ | ⟨f1,e1⟩
  ·have hA:=RAdd_ok (okF_prQ hq) (okF_prQ f1)
   rw[qv_prQ,qv_prQ] at hA
   simp only[e1,decide_true,Bool.not_true,cF,hA,obind_some']
   rcases fitQ_cases (q+(n:Rat)*qv a) with ⟨f2,e2⟩ | ⟨f2,e2⟩
   ·rw[dif_pos ⟨f1,f2⟩]
    simp only[e2,decide_true,Bool.not_true,cF]
   ·rw[dif_neg fun h=>f2 h.2]
    simp only[e2]
    rfl
  ·rw[dif_neg fun h=>f1 h.1]
   simp only[e1]
   rfl
 ·intro again s
  simp only[decide_eq_false (show ¬ (l.length:Int)<l.length by omega),cF]
 ·exact sum_up (cur:=fun s:{q:Rat // fitsQ q}=>s.1) (bad:=some ((0,0),5,())) (good:=fun q=>some (prQ q,0,())) hl (fun i s h=>⟨_,h⟩) (fun _ _ _=>rfl) (fun _ _ _ _=>rfl) (fun _=>rfl) l.length 0 ⟨0,by decide⟩ (by omega)
theorem sumR_fits:∀{l:List Int} {x:List Fq} {s q:Rat},fitsQ s→sumR l x s=some q→fitsQ q
 | [],_,s,q,hs,h=>by
  unfold sumR at h
  injection h with h
  rw[←h];exact hs
 | _ ::_,[],s,q,hs,h=>by
  unfold sumR at h
  injection h with h
  rw[←h];exact hs
 | n ::l,a ::x,s,q,hs,h=>by
  unfold sumR at h
  split at h
  ·rename_i hh
   exact sumR_fits hh.2 h
  ·cases h
end Go.Proofs.YtfknoaclabfdlaaGreat

namespace Go.Proofs.YtfknoaclabfdlaaGreat
open Tryz Dn Dn.Sh
theorem inC_big {n:Int} (h:inC n=true): -1152921504606846976≤n∧n≤1152921504606846976:=by
 have:=of_decide_eq_true h
 omega
theorem inR_big {n:Int} (h:inR n=true): -1152921504606846976≤n∧n≤1152921504606846976:=by
 have:=of_decide_eq_true h
 omega
structure ValidP (p:Pg):Prop where
 cost:1≤p.1.length∧p.1.length≤12
 rows:p.2.length≤6
 cs:∀n ∈ p.1,inC n=true
 len:∀r ∈ p.2,r.1.length=p.1.length
 kind:∀r ∈ p.2,1≤r.2.1∧r.2.1≤3
 right:∀r ∈ p.2,inR r.2.2=true
 coefs:∀r ∈ p.2,∀n ∈ r.1,inC n=true
theorem validP_iff {p:Pg}:validP p=true↔ValidP p:=by
 unfold validP sizeP
 rw[Bool.and_eq_true,Bool.and_eq_true,decide_eq_true_iff,List.all_eq_true,List.all_eq_true]
 constructor
 ·rintro ⟨⟨h1,h2,h3⟩,h4,h5⟩
  have h6:∀r ∈ p.2,r.1.length=p.1.length∧(1≤r.2.1∧r.2.1≤3)∧inR r.2.2=true∧∀n ∈ r.1,inC n=true:=fun r hr=>by
   have:=h5 r hr
   unfold rowOk at this
   rw[Bool.and_eq_true,Bool.and_eq_true,Bool.and_eq_true,decide_eq_true_iff,decide_eq_true_iff,List.all_eq_true] at this
   exact this
  exact ⟨⟨h1,h2⟩,h3,h4,fun r hr=>(h6 r hr).1,fun r hr=>(h6 r hr).2.1,fun r hr=>(h6 r hr).2.2.1,fun r hr=>(h6 r hr).2.2.2⟩
 ·rintro ⟨h1,h2,h3,h4,h5,h6,h7⟩
  refine ⟨⟨h1.1,h1.2,h2⟩,h3,fun r hr=>?_⟩
  unfold rowOk
  rw[Bool.and_eq_true,Bool.and_eq_true,Bool.and_eq_true,decide_eq_true_iff,decide_eq_true_iff,List.all_eq_true]
  exact ⟨h4 r hr,h5 r hr,h6 r hr,h7 r hr⟩
theorem pcmp_ok {a:Fq} {n:Int} (ha:okF a) (hn: -1152921504606846976≤n∧n≤1152921504606846976):program_cmp a n=some (cmpQ (qv a) (n:Rat)):=by
 have h:=Cmp_ok ha (okF_int hn.1 hn.2)
 rw[qv_int] at h
 simp only[program_cmp,program_cmp_b,h,obind_some']
theorem sumR_ok {l:List Int} {x:List Fq}:fitsQ ((sumR l x 0).getD 0):=by
 cases h:sumR l x 0 with
 | none=>decide
 | some q=>exact sumR_fits (by decide) h
theorem of_ok' {l:List Int} {x:List Fq} {e:Int} (hl:l.length≤x.length) (h0:l.length≤1000000) (hc:∀n ∈ l,inC n=true) (hx:∀a ∈ x,okF a) :
  program_sums_of e l x=some (bif (sumR l x 0).isSome then e else 5,prQ ((sumR l x 0).getD 0)):=by
 rw[of_ok hl h0 (fun n hn=>inC_big (hc n hn)) hx]
 cases sumR l x 0<;>rfl
end Go.Proofs.YtfknoaclabfdlaaGreat

namespace Go.Proofs.YtfknoaclabfdlaaGreat
open Tryz Dn Dn.Sh
def wtsS (s:Sy):List Int:=rowL s.1.length (bwS s)
theorem ywts_ok {s:Sy} (h:validS s=true):reeving_Weights s=some (wtsS s,0,()):=by
 have hv:=validS_of h
 have hb:=hv.bl
 simp only[reeving_Weights,reeving_Weights_b,sysV_ok,h,obind_some',Bool.not_true,cF]
 refine lpK_seqX s.1.length (by omega) (fun i=>(rowL i (bwS s),(i:Int),PUnit.unit)) _ rfl (fun again i hi=>?_) (fun again=>?_)
 ·simp only[inB_nat,decide_eq_true hi,decide_eq_true (show (i:Int)<s.1.length by omega),cT,Int.toNat_natCast,rowL_len,fitB_of (show (i+1)*8≤140737488355328 by omega),succ_wrapS (show i≤1000000 by omega),show (List.getD s.1 i ({ data:={ toList:=[] } },(0:Int))).2=bwS s i from rfl,rowL_snocS]
 ·simp only[decide_eq_false (show ¬ (s.1.length:Int)<s.1.length by omega),cF]
  rfl
def rowAt (s:Sy) (i:Nat):Rw:=(rowL s.2.length (Mx s i),(3:Int),bwS s i)
def progS (s:Sy) (c:List Int):Pg:=(c,rowL s.1.length (rowAt s))
theorem ymade_ok {s:Sy} (h:validS s=true) (c:List Int):slack_made s c=some (progS s c,0,()):=by
 have hv:=validS_of h
 have hb:=hv.bl
 unfold slack_made slack_made_b
 rw[ymat_ok h,obind_some',ywts_ok h,obind_some']
 refine (cF _ _).trans ((cF _ _).trans ?_)
 unfold matS wtsS
 refine lpK_seqX s.1.length (by omega) (fun i=>((i:Int),c,rowL i (rowAt s),PUnit.unit)) _ rfl (fun again i hi=>?_) (fun again=>?_)
 ·simp only[inB_nat,matL_len,rowL_len,decide_eq_true hi,decide_eq_true (show (i:Int)<s.1.length by omega),cT,Int.toNat_natCast,fitB_of (show (i+1)*40≤140737488355328 by omega),succ_wrapS (show i≤1000000 by omega),matL_get hi,rowL_get hi]
  rw[show (rowL s.2.length (Mx s i),(3:Int),bwS s i)=rowAt s i from rfl,rowL_snocS]
 ·simp only[matL_len,decide_eq_false (show ¬ (s.1.length:Int)<s.1.length by omega),cF]
  rfl
theorem ymade_bad {s:Sy} (h:validS s=false) (c:List Int):slack_made s c=some (([],[]),1,()):=by
 simp only[slack_made,slack_made_b,ymat_bad h,obind_some']
 rfl
theorem yrprog_ok {s:Sy} (h:validS s=true) (c:List Int):ref15_Program s c=some (progS s c):=by
 have hv:=validS_of h
 have hb:=hv.bl
 simp only[ref15_Program,ref15_Program_b,yrmat_ok hv,obind_some']
 unfold matS
 refine lpK_seqX s.1.length (by omega) (fun i=>((i:Int),c,rowL i (rowAt s),PUnit.unit)) _ rfl (fun again i hi=>?_) (fun again=>?_)
 ·simp only[inB_nat,matL_len,decide_eq_true hi,decide_eq_true (show (i:Int)<s.1.length by omega),cT,Int.toNat_natCast,rowL_len,fitB_of (show (i+1)*40≤140737488355328 by omega),succ_wrapS (show i≤1000000 by omega),matL_get hi]
  rw[show (rowL s.2.length (Mx s i),(3:Int),(List.getD s.1 i ({ data:={ toList:=[] } },(0:Int))).2)=rowAt s i from rfl,rowL_snocS]
 ·simp only[decide_eq_false (show ¬ (s.1.length:Int)<s.1.length by omega),cF]
  rfl
def onesS (s:Sy):List Int:=List.replicate s.2.length 1
theorem yones_ok (s:Sy) (hl:s.2.length≤1000000):ref15_Ones s=some (onesS s):=by
 simp only[ref15_Ones,ref15_Ones_b]
 refine lpK_seqX s.2.length (by omega) (fun i=>(List.replicate i 1,(i:Int),PUnit.unit)) _ rfl (fun again i hi=>?_) (fun again=>?_)
 ·simp only[decide_eq_true (show (i:Int)<s.2.length by omega),cT,List.length_replicate,fitB_of (show (i+1)*8≤140737488355328 by omega),succ_wrapS (show i≤1000000 by omega)]
  rw[List.replicate_succ']
 ·simp only[decide_eq_false (show ¬ (s.2.length:Int)<s.2.length by omega),cF]
  rfl
theorem yrepeat (z:Int) {n:Nat} (hn:n≤1000000):slices_Repeat_46 [z] (n:Int)=some (List.replicate n z):=by
 have hm:bits_Mul (IntKind.wrap .u64 ((List.length [z]:Nat):Int)) (IntKind.wrap .u64 (n:Int))=some (0,(n:Int),()):=by
  simp only[bits_Mul,bits_Mul_b]
  rw[u_wrap (by simp) (by simp),u_wrap (by omega) (by omega),mulW (by simp) (by simp) (by omega) (by omega),obind_some']
  simp only[List.length_singleton]
  congr 1
  refine Prod.ext ?_ (Prod.ext ?_ rfl)
  ·show ((1:Nat):Int)*n / 18446744073709551616=0
   omega
  ·show ((1:Nat):Int)*n % 18446744073709551616=n
   omega
 have hw:IntKind.wrap .i64 (n:Int)=(n:Int):=wrap_id (by omega) (by omega)
 simp only[slices_Repeat_46,slices_Repeat_46_b,jnT]
 rw[decide_eq_false (show ¬ (n:Int)<0 by omega),cF,hm,obind_some']
 have h63:decide ((n:Int)>9223372036854775807)=false:=decide_eq_false (by omega)
 have hz0:decide ((0:Int)>0)=false:=rfl
 have hz1:decide ((0:Int)≤(n:Int))=true:=decide_eq_true (by omega)
 have hfb:fitB n 8=true:=fitB_of (by omega)
 simp only[hw,hz0,h63,hz1,Int.toNat_natCast,hfb,Bool.not_false,Bool.not_true,Bool.or_true,Bool.and_self,cT,cF,List.drop_zero,List.take_zero,List.nil_append]
 refine lpK_loop (g:=fun _=>some (List.replicate n z)) (I:=fun (x:Int×List Int×PUnit)=>∃c:Nat,x.1=c∧c≤n∧(0<n→0<c)∧x.2.1.length=n∧x.2.1.take c=List.replicate c z) (μ:=fun (x:Int×List Int×PUnit)=>n - x.1.toNat) ?_ ?_ (by simp only;omega)
 ·rintro ⟨i,row,_⟩ rec ⟨c,h1,h2,h3,h4,h5⟩ hrec
  simp only at h1 h4 h5 hrec ⊢
  subst h1
  simp only[Int.toNat_natCast,h4]
  by_cases hc:c<n
  ·have hl:(List.take (n - c) (List.take c row)).length=min (n - c) c:=by rw[List.length_take,List.length_take,h4];omega
   rw[decide_eq_true (show (c:Int)<n by omega),cT,slB_of (by omega) (by omega) (by omega),slB_of (by omega) (by omega) (by omega),ble_of (by omega),ble_of (Nat.le_refl n)]
   simp only[Bool.and_self,cT]
   rw[wrap_id (by omega) (by omega)]
   refine hrec _ ⟨c+min (n - c) c,?_,by omega,by omega,?_,?_⟩ ?_
   ·simp only;rw[hl];omega
   ·simp only[List.length_append,List.length_drop,hl,h4,List.length_take];omega
   ·simp only
    rw[List.take_append_of_le_length (by rw[List.length_append,hl,List.length_take,h4];omega),h5,List.take_replicate,List.replicate_append_replicate,List.take_replicate]
    congr 1
    omega
   ·simp only;rw[hl];omega
  ·have:c=n:=by omega
   subst this
   rw[decide_eq_false (show ¬ (c:Int)<c by omega),cF]
   rw[←h5,List.take_of_length_le (by omega)]
 ·refine ⟨(List.take n [z]).length,rfl,by rw[List.length_take];omega,fun h=>by rw[List.length_take];simp;omega,?_,?_⟩
  ·simp only[List.length_append,List.length_drop,List.length_replicate,List.length_take,List.length_singleton];omega
  ·simp only
   rcases Nat.eq_zero_or_pos n with h | h
   ·subst h;rfl
   ·obtain ⟨m,rfl⟩:∃m,n=m+1:=⟨n - 1,by omega⟩
    simp
theorem yprog_ok {s:Sy} (h:validS s=true):slack_Program s=some (progS s (onesS s),0,()):=by
 have hr:=(validS_of h).rl
 simp only[slack_Program,slack_Program_b,yrepeat 1 (show s.2.length≤1000000 by omega),obind_some']
 rw[show List.replicate s.2.length (1:Int)=onesS s from rfl,ymade_ok h]
 rfl
theorem yprog_bad {s:Sy} (h:validS s=false) (hl:s.2.length≤1000000):slack_Program s=some (([],[]),1,()):=by
 simp only[slack_Program,slack_Program_b,yrepeat 1 hl,ymade_bad h,obind_some']
theorem rowL_mem {α:Type} {n:Nat} {f:Nat→α} {a:α}:a ∈ rowL n f↔∃i,i<n∧f i=a:=by
 unfold rowL
 rw[List.mem_map]
 exact ⟨fun ⟨i,h1,h2⟩=>⟨i,List.mem_range.1 h1,h2⟩,fun ⟨i,h1,h2⟩=>⟨i,List.mem_range.2 h1,h2⟩⟩
theorem progS_ok {s:Sy} (hv:ValidS s) {c:List Int} (hl:c.length=s.2.length) (hc:∀n ∈ c,inC n=true):ValidP (progS s c):=by
 have hb:=hv.bl
 have hr:=hv.rl
 refine ⟨⟨by show 1≤c.length;omega,by show c.length≤12;omega⟩,?_,hc,fun r h=>?_,fun r h=>?_,fun r h=>?_,fun r h n hn=>?_⟩
 ·show (rowL s.1.length (rowAt s)).length≤6
  rw[rowL_len];omega
 all_goals
  obtain ⟨i,hi,rfl⟩:=rowL_mem.1 h
 ·show (rowL s.2.length (Mx s i)).length=c.length
  rw[rowL_len,hl]
 ·exact ⟨by show (1:Int)≤3;omega,by show (3:Int)≤3;omega⟩
 ·have:=hv.wt i hi
  exact decide_eq_true (by show -1073741824≤bwS s i∧bwS s i≤1073741824;omega)
 ·obtain ⟨k,hk,rfl⟩:=rowL_mem.1 hn
  have:=Mx_bound hv i hk
  exact decide_eq_true (by omega)
theorem onesS_ok {s:Sy} (hv:ValidS s):ValidP (progS s (onesS s)):=progS_ok hv (by unfold onesS;rw[List.length_replicate]) fun n hn=>by
 rw[(List.mem_replicate.1 hn).2];rfl
def shortY (s:ByteArray):Bool:=!decide ((s.size:Int)>60)
def smallSB (s:Sy):Bool:=decide (s.1.length≤9∧s.2.length≤9)&&(s.1.all (fun b=>shortY b.1)&&s.2.all (fun r=>shortY r.1&&(!decide ((r.2.1.length:Int)>13)&&r.2.1.all fun h=>shortY h.1)))
theorem ysmall_ok (s:Sy):ref10_Small s=some (smallSB s):=by
 obtain ⟨bs,rs⟩:=s
 simp only[ref10_Small,ref10_Small_b,smallSB]
 by_cases h0:bs.length≤9∧rs.length≤9
 ·rw[decide_eq_true h0,decide_eq_false (show ¬ (bs.length:Int)>9 by omega),decide_eq_false (show ¬ (rs.length:Int)>9 by omega)]
  simp only[Bool.not_false,Bool.not_true,Bool.or_true,cT,cF,Bool.true_and]
  refine (ychk_loop (p:=fun b:Bk=>shortY b.1) (d:=bk0) (l:=bs) (no:=some false) (yes:=some (rs.all (fun r=>shortY r.1&&(!decide ((r.2.1.length:Int)>13)&&r.2.1.all fun h=>shortY h.1)))) (by omega) ?_ ?_).trans ?_
  ·intro again i hi
   simp only[inB_nat,decide_eq_true hi,decide_eq_true (show (i:Int)<bs.length by omega),cT,Int.toNat_natCast,succ_wrapS (show i≤1000000 by omega),shortY]
   generalize decide ((((bs.getD i bk0).1.size:Nat):Int)>60)=g
   cases g<;>rfl
  ·intro again
   simp only[decide_eq_false (show ¬ (bs.length:Int)<bs.length by omega),cF]
   refine (ychk_loop (p:=fun r:Rp=>shortY r.1&&(!decide ((r.2.1.length:Int)>13)&&r.2.1.all fun h=>shortY h.1)) (d:=rp0) (l:=rs) (no:=some false) (yes:=some true) (by omega) ?_ ?_).trans ?_
   ·intro again i hi
    simp only[inB_nat,decide_eq_true hi,decide_eq_true (show (i:Int)<rs.length by omega),cT,Int.toNat_natCast,succ_wrapS (show i≤1000000 by omega)]
    simp only[shortY]
    generalize decide ((((rs.getD i rp0).1.size:Nat):Int)>60)=g1
    by_cases g:((rs.getD i rp0).2.1.length:Int)>13
    ·rw[decide_eq_true g]
     cases g1<;>rfl
    ·rw[decide_eq_false g]
     cases g1 with
     | true=>rfl
     | false =>
      simp only[Bool.not_true,Bool.not_false,Bool.or_true,Bool.and_self,Bool.true_and,cT,cF]
      refine ychk_loop (p:=fun h:Hd=>!decide (((h.1.size:Nat):Int)>60)) (d:=hd0) (l:=(rs.getD i rp0).2.1) (by omega) ?_ ?_
      ·intro again1 t ht
       simp only[inB_nat,decide_eq_true ht,decide_eq_true (show (t:Int)<(rs.getD i rp0).2.1.length by omega),cT,Int.toNat_natCast,succ_wrapS (show t≤1000000 by omega)]
       generalize decide (((((rs.getD i rp0).2.1.getD t hd0).1.size:Nat):Int)>60)=g
       cases g<;>rfl
      ·intro again1
       simp only[decide_eq_false (show ¬ ((rs.getD i rp0).2.1.length:Int)<(rs.getD i rp0).2.1.length by omega),cF]
   ·intro again
    simp only[decide_eq_false (show ¬ (rs.length:Int)<rs.length by omega),cF]
   ·cases rs.all (fun r=>shortY r.1&&(!decide ((r.2.1.length:Int)>13)&&r.2.1.all fun h=>shortY h.1))<;>rfl
  ·cases bs.all (fun b=>shortY b.1)<;>rfl
 ·rw[decide_eq_false h0]
  by_cases g:(bs.length:Int)>9
  ·rw[decide_eq_true g];rfl
  ·rw[decide_eq_false g,decide_eq_true (show (rs.length:Int)>9 by omega)];rfl
theorem smallS_len {s:Sy} (h:smallSB s=true):s.1.length≤9∧s.2.length≤9:=by
 unfold smallSB at h
 rw[Bool.and_eq_true,decide_eq_true_iff] at h
 exact h.1
end Go.Proofs.YtfknoaclabfdlaaGreat

namespace Go.Proofs.YtfknoaclabfdlaaGreat
open Tryz Dn Dn.Sh
noncomputable def okL (x:List Fq):Bool:=x.all fun a=>decide (okF a)
theorem right_ok {x:List Fq} (h:x.length≤1000000):program_right x=some (okL x):=by
 have hc:slices_ContainsFunc_32 x (fun x=>program_right_1 x.1)=some (!okL x):=by
  unfold okL
  rw[←any_not]
  refine containsF (p:=fun a:Fq=>!decide (okF a)) h fun a _=>?_
  simp only[program_right_1,program_right_1_b,Valid_ok,obind_some']
 simp only[program_right,program_right_b,hc,obind_some',Bool.not_not]
theorem okL_iff {x:List Fq}:okL x=true↔∀a ∈ x,okF a:=by
 unfold okL
 rw[List.all_eq_true]
 exact ⟨fun h a ha=>of_decide_eq_true (h a ha),fun h a ha=>decide_eq_true (h a ha)⟩
theorem rsign_ok {a:Fq} (ha:okF a):ref05_sign a=some (cmpQ (qv a) 0):=by
 have h:=RCmp_ok ha (okF_int (n:=0) (by omega) (by omega))
 rw[qv_int] at h
 simp only[ref05_sign,ref05_sign_b,rOf_ok,obind_some',h]
 rfl
end Go.Proofs.YtfknoaclabfdlaaGreat

namespace Go.Proofs.YtfknoaclabfdlaaGreat
open Tryz Dn Dn.Sh
end Go.Proofs.YtfknoaclabfdlaaGreat

namespace Go.Proofs.YtfknoaclabfdlaaGreat
open Tryz Dn Dn.Sh
def colP (p:Pg) (j:Nat):List Int:=p.2.map fun r=>r.1.getD j 0
def rightP (p:Pg):List Int:=p.2.map fun r=>r.2.2
theorem map_loop {g:Rw→Int} {rs:List Rw} {F:(List Int×Int×PUnit→Option (List Int))→List Int×Int×PUnit→Option (List Int)} (h:rs.length≤1000000)
  (hF:∀again (i:Nat),i<rs.length→F again ((rs.take i).map g,(i:Int),PUnit.unit)=again ((rs.take i).map g++[g (rs.getD i rw0)],((i+1:Nat):Int),PUnit.unit))
  (hf:∀again,F again (rs.map g,(rs.length:Int),PUnit.unit)=some (rs.map g)):lpK (List Int×Int×PUnit) (List Int) F ([],(0:Int),PUnit.unit)=some (rs.map g):=by
 refine (lpK_up (α:=List Int×Int×PUnit) (σ:=Unit) rs.length (by omega) (fun i _=>((rs.take i).map g,(i:Int),PUnit.unit)) (fun i s k=>bif true then k s else none) (fun _=>some (rs.map g)) ?_ ?_ ()).trans ?_
 ·intro again i _ hi
  rw[hF again i hi,cT]
  congr 2
  rw[getD_nat hi,List.take_succ_eq_append_getElem hi,List.map_append]
  rfl
 ·intro again _
  rw[List.take_length]
  exact hf again
 ·refine (upF_all (p:=fun _=>true) (r:=none) rs.length (fun _ _ _=>rfl) rs.length 0 (by omega)).trans ?_
  rw[show ((List.range' 0 rs.length).all fun _=>true)=true from List.all_eq_true.2 fun _ _=>rfl]
  rfl
theorem take_map_len {g:Rw→Int} {rs:List Rw} {i:Nat}:((rs.take i).map g).length≤rs.length:=by
 rw[List.length_map,List.length_take];omega
theorem column_ok {p:Pg} {j:Nat} (hv:ValidP p) (hj:j<p.1.length):program_column p (j:Int)=some (colP p j):=by
 obtain ⟨c,rs⟩:=p
 unfold program_column program_column_b colP
 have h6:=hv.rows
 simp only at h6 hj
 refine map_loop (rs:=rs) (g:=fun r=>r.1.getD j 0) (by omega) (fun again i hi=>?_) (fun again=>by simp)
 have hw:IntKind.wrap .i64 ((i:Int)+1)=((i+1:Nat):Int):=by rw[wrap_id (by omega) (by omega)];rfl
 have hr:rs.getD i rw0 ∈ rs:=by rw[getD_nat hi];exact List.getElem_mem _
 have hL:=hv.len _ hr
 have hT:=take_map_len (g:=fun r=>r.1.getD j 0) (rs:=rs) (i:=i)
 simp only at hL
 simp only[inB_nat,decide_eq_true hi,decide_eq_true (show (i:Int)<rs.length by omega),cT,Int.toNat_natCast,hw,decide_eq_true (show j<(rs.getD i rw0).1.length by omega),fitB_of (show (((rs.take i).map fun r=>r.1.getD j 0).length+1)*8≤140737488355328 by omega)]
theorem rcolumn_ok {p:Pg} {j:Nat} (hv:ValidP p) (hj:j<p.1.length):ref05_Column p (j:Int)=some (colP p j):=column_ok hv hj
theorem rights_ok {p:Pg} (hv:ValidP p):program_rights p=some (rightP p):=by
 obtain ⟨c,rs⟩:=p
 unfold program_rights program_rights_b rightP
 have h6:=hv.rows
 simp only at h6
 refine map_loop (rs:=rs) (g:=fun r=>r.2.2) (by omega) (fun again i hi=>?_) (fun again=>by simp)
 have hw:IntKind.wrap .i64 ((i:Int)+1)=((i+1:Nat):Int):=by rw[wrap_id (by omega) (by omega)];rfl
 have hT:=take_map_len (g:=fun r=>r.2.2) (rs:=rs) (i:=i)
 simp only[inB_nat,decide_eq_true hi,decide_eq_true (show (i:Int)<rs.length by omega),cT,Int.toNat_natCast,hw,fitB_of (show (((rs.take i).map fun r=>r.2.2).length+1)*8≤140737488355328 by omega)]
theorem rrights_ok {p:Pg} (hv:ValidP p):ref05_Rights p=some (rightP p):=rights_ok hv
end Go.Proofs.YtfknoaclabfdlaaGreat

namespace Go.Proofs.YtfknoaclabfdlaaGreat
open Tryz Dn Dn.Sh
def signK (k n:Int):Bool:=(decide (k≠1)||decide (n≤0))&&(decide (k≠2)||decide (0≤n))
def signedB (p:Pg) (y:List Fq):Bool:=(List.range' 0 p.2.length).all fun i=>signK (p.2.getD i rw0).2.1 (y.getD i (0,0)).1
theorem signed_okP {p:Pg} {y:List Fq} (hv:ValidP p) (hl:y.length=p.2.length):program_signed p y=some (signedB p y):=by
 obtain ⟨c,rs⟩:=p
 unfold program_signed program_signed_b signedB
 have h6:=hv.rows
 simp only at h6 hl ⊢
 refine (lpK_up (α:=Int×PUnit) (σ:=Unit) rs.length (by omega) (fun i _=>((i:Int),PUnit.unit)) (fun i s k=>bif signK (rs.getD i rw0).2.1 (y.getD i (0,0)).1 then k s else some false) (fun _=>some true) ?_ ?_ ()).trans ?_
 ·intro again i _ hi
  have hw:IntKind.wrap .i64 ((i:Int)+1)=((i+1:Nat):Int):=by rw[wrap_id (by omega) (by omega)];rfl
  simp only[inB_nat,decide_eq_true hi,decide_eq_true (show (i:Int)<rs.length by omega),decide_eq_true (show i<y.length by omega),cT,Int.toNat_natCast,hw]
  obtain ⟨n,hn⟩:∃n,(y.getD i (0,0)).1=n:=⟨_,rfl⟩
  obtain ⟨kd,hkd⟩:∃kd,(rs.getD i rw0).2.1=kd:=⟨_,rfl⟩
  simp only[hn,hkd,signK]
  by_cases k1:kd=1<;>by_cases k2:kd=2<;>by_cases c1:n≤0<;>by_cases c2:0≤n<;>by_cases c3:n>0<;>by_cases c4:n<0<;>first | (exfalso;omega) | simp[k1,k2,c1,c2,c3,c4]
 ·intro again s
  simp only[decide_eq_false (show ¬ (rs.length:Int)<rs.length by omega),cF]
 ·refine (upF_all (p:=fun i=>signK (rs.getD i rw0).2.1 (y.getD i (0,0)).1) (r:=some false) rs.length (fun _ _ _=>rfl) rs.length 0 (by omega)).trans ?_
  cases (List.range' 0 rs.length).all fun i=>signK (rs.getD i rw0).2.1 (y.getD i (0,0)).1<;>rfl
theorem cmp_num {a:Fq} (ha:okF a):cmpQ (qv a) 0=if a.1<0 then -1 else if a.1=0 then 0 else 1:=by
 unfold cmpQ
 simp only[okF_neg ha,okF_zero ha]
theorem rsigned_ok {p:Pg} {y:List Fq} (hv:ValidP p) (hy:∀a ∈ y,okF a) (hl:y.length=p.2.length):ref05_Signed p y=some (signedB p y):=by
 obtain ⟨c,rs⟩:=p
 unfold ref05_Signed ref05_Signed_b signedB
 have h6:=hv.rows
 simp only at h6 hl ⊢
 refine (lpK_up (α:=Int×PUnit) (σ:=Unit) rs.length (by omega) (fun i _=>((i:Int),PUnit.unit)) (fun i s k=>bif signK (rs.getD i rw0).2.1 (y.getD i (0,0)).1 then k s else some false) (fun _=>some true) ?_ ?_ ()).trans ?_
 ·intro again i _ hi
  have hw:IntKind.wrap .i64 ((i:Int)+1)=((i+1:Nat):Int):=by rw[wrap_id (by omega) (by omega)];rfl
  have ha:okF (y.getD i (0,0)):=by rw[getD_nat (show i<y.length by omega)];exact hy _ (List.getElem_mem _)
  have hcn:=cmp_num ha
  simp only[inB_nat,decide_eq_true hi,decide_eq_true (show (i:Int)<y.length by omega),decide_eq_true (show i<y.length by omega),cT,Int.toNat_natCast,hw,rsign_ok ha]
  obtain ⟨cq,hcq⟩:∃cq,cmpQ (qv (y.getD i (0,0))) 0=cq:=⟨_,rfl⟩
  obtain ⟨n,hn⟩:∃n,(y.getD i (0,0)).1=n:=⟨_,rfl⟩
  obtain ⟨kd,hkd⟩:∃kd,(rs.getD i rw0).2.1=kd:=⟨_,rfl⟩
  rw[hcq,hn] at hcn
  simp only[hcq,hn,hkd,signK]
  have hneg:cq<0↔n<0:=by rw[hcn];split<;>(try split)<;>omega
  have hpos:cq>0↔0<n:=by rw[hcn];split<;>(try split)<;>omega
  by_cases k1:kd=1<;>by_cases k2:kd=2<;>by_cases c1:n≤0<;>by_cases c2:0≤n<;>by_cases c3:0<cq<;>by_cases c4:cq<0<;>first | (exfalso;omega) | simp[k1,k2,c1,c2,c3,c4,obind_some']
 ·intro again s
  simp only[hl,decide_eq_false (show ¬ (rs.length:Int)<rs.length by omega),cF]
 ·refine (upF_all (p:=fun i=>signK (rs.getD i rw0).2.1 (y.getD i (0,0)).1) (r:=some false) rs.length (fun _ _ _=>rfl) rs.length 0 (by omega)).trans ?_
  cases (List.range' 0 rs.length).all fun i=>signK (rs.getD i rw0).2.1 (y.getD i (0,0)).1<;>rfl
end Go.Proofs.YtfknoaclabfdlaaGreat

namespace Go.Proofs.YtfknoaclabfdlaaGreat
open Tryz Dn Dn.Sh
noncomputable def fitsY (p:Pg) (y:List Fq):Bool:=(List.range' 0 p.1.length).all fun j=>(sumR (colP p j) y 0).isSome
noncomputable def belowB (p:Pg) (y:List Fq) (f:Nat→Int):Bool:=(List.range' 0 p.1.length).all fun j=>decide (cmpQ ((sumR (colP p j) y 0).getD 0) (f j:Rat)≤0)
theorem col_inC {p:Pg} {j:Nat} (hv:ValidP p) (hj:j<p.1.length):∀n ∈ colP p j,inC n=true:=fun n hn=>by
 obtain ⟨r,hr,rfl⟩:=List.mem_map.1 hn
 rw[getD_nat (by rw[hv.len r hr];exact hj)]
 exact hv.coefs r hr _ (List.getElem_mem _)
theorem col_len {p:Pg} {j:Nat}:(colP p j).length=p.2.length:=by unfold colP;rw[List.length_map]
theorem right_len {p:Pg}:(rightP p).length=p.2.length:=by unfold rightP;rw[List.length_map]
theorem right_inR {p:Pg} (hv:ValidP p):∀n ∈ rightP p,inR n=true:=fun n hn=>by
 obtain ⟨r,hr,rfl⟩:=List.mem_map.1 hn
 exact hv.right r hr
theorem upF_and {R:Type} {n:Nat} {g h:Nat→Bool} {f:Bool×Int→Option R} {b:Nat→Bool×Int→(Bool×Int→Option R)→Option R}
  (hb:∀i s k,i<n→b i s k=k (s.1&&h i,bif g i then s.2 else 5)):∀(k i:Nat) (s:Bool×Int),i+k≤n →
  upF b f k i s=f (s.1&&(List.range' i k).all h,bif (List.range' i k).all g then s.2 else 5)
 | 0,i,s,_=>by simp[upF]
 | k+1,i,s,hi=>by
  simp only[upF,hb i s _ (by omega)]
  rw[upF_and hb k (i+1) _ (by omega)]
  simp only[List.range'_succ,List.all_cons,Bool.and_assoc]
  congr 2
  cases g i<;>cases (List.range' (i+1) k).all g<;>rfl
end Go.Proofs.YtfknoaclabfdlaaGreat

namespace Go.Proofs.YtfknoaclabfdlaaGreat
open Tryz Dn Dn.Sh
theorem of_okR {l:List Int} {x:List Fq} {e:Int} (hl:l.length≤x.length) (h0:l.length≤1000000) (hc:∀n ∈ l,inR n=true) (hx:∀a ∈ x,okF a) :
  program_sums_of e l x=some (bif (sumR l x 0).isSome then e else 5,prQ ((sumR l x 0).getD 0)):=by
 rw[of_ok hl h0 (fun n hn=>inR_big (hc n hn)) hx]
 cases sumR l x 0<;>rfl
noncomputable def sumY (p:Pg) (y:List Fq):Option Rat:=sumR (rightP p) y 0
noncomputable def posB (p:Pg) (y:List Fq):Bool:=decide (0<(prQ ((sumY p y).getD 0)).1)
noncomputable def refB (p:Pg) (y:List Fq):Bool:=posB p y&&(signedB p y&&belowB p y fun _=>0)
theorem prefutes_ok {p:Pg} {y:List Fq} (h:y.length≤1000000):program_Refutes p y=some (bif validP p&&okL y then bif decide (y.length=p.2.length) then bif fitsY p y&&(sumY p y).isSome then (refB p y,0,()) else (false,5,()) else (false,3,()) else (false,1,())):=by
 unfold program_Refutes program_Refutes_b
 rw[pValid_ok,obN]
 simp only[right_ok h,not_or_self',or_self_not,cT]
 cases hv:validP p with
 | false=>rfl
 | true =>
  simp only[Bool.not_true,Bool.not_false,cT]
  rw[obN]
  cases hx:okL y with
  | false=>rfl
  | true =>
   have hV:=validP_iff.1 hv
   have hX:=okL_iff.1 hx
   have h6:=hV.rows
   have h7:=hV.cost.2
   simp only[Bool.not_true,cF,Bool.and_self,cT]
   by_cases hl:y.length=p.2.length
   ·simp only[decide_eq_true hl,decide_eq_true (show (y.length:Int)=p.2.length by omega),Bool.not_true,cT,cF]
    refine (lpK_up (α:=Bool×Int×Int×PUnit) p.1.length (by omega) (fun i (s:Bool×Int)=>(s.1,(i:Int),s.2,PUnit.unit)) (fun j s k=>k (s.1&&decide (cmpQ ((sumR (colP p j) y 0).getD 0) ((0:Int):Rat)≤0),bif (sumR (colP p j) y 0).isSome then s.2 else 5))
     (fun s=>some ((posB p y&&(signedB p y&&s.1))&&decide ((bif (sumY p y).isSome then s.2 else 5)=0),bif (sumY p y).isSome then s.2 else 5,())) ?_ ?_ (true,0)).trans ?_
    ·intro again i s hi
     have hw:IntKind.wrap .i64 ((i:Int)+1)=((i+1:Nat):Int):=by rw[wrap_id (by omega) (by omega)];rfl
     have h1:=of_ok' (l:=colP p i) (x:=y) (e:=s.2) (by rw[col_len];omega) (by rw[col_len];omega) (col_inC hV hi) hX
     have h2:=pcmp_ok (n:=0) (okF_prQ (sumR_ok (l:=colP p i) (x:=y))) (by omega)
     rw[qv_prQ] at h2
     simp only[decide_eq_true (show (i:Int)<p.1.length by omega),cT,column_ok hV hi,h1,program_Refutes_1,program_Refutes_1_b,h2,obind_some',hw]
     cases decide (cmpQ ((sumR (colP p i) y 0).getD 0) ((0:Int):Rat)≤0)<;>cases s.1<;>rfl
    ·intro again s
     have h1:=of_okR (l:=rightP p) (x:=y) (e:=s.2) (by rw[right_len];omega) (by rw[right_len];omega) (right_inR hV) hX
     simp only[decide_eq_false (show ¬ (p.1.length:Int)<p.1.length by omega),cF,rights_ok hV,h1,obind_some',signed_okP hV hl]
     obtain ⟨n,hn⟩:∃n,(prQ ((sumR (rightP p) y 0).getD 0)).1=n:=⟨_,rfl⟩
     simp only[posB,sumY,hn]
     by_cases c1:n>0
     ·simp only[decide_eq_true c1]
      cases signedB p y<;>cases s.1<;>rfl
     ·simp only[decide_eq_false c1]
      cases signedB p y<;>cases s.1<;>rfl
    ·rw[upF_and (n:=p.1.length) (g:=fun j=>(sumR (colP p j) y 0).isSome) (h:=fun j=>decide (cmpQ ((sumR (colP p j) y 0).getD 0) ((0:Int):Rat)≤0)) (fun _ _ _ _=>rfl) p.1.length 0 _ (by omega)]
     rw[show ((List.range' 0 p.1.length).all fun j=>(sumR (colP p j) y 0).isSome)=fitsY p y from rfl,show ((List.range' 0 p.1.length).all fun j=>decide (cmpQ ((sumR (colP p j) y 0).getD 0) ((0:Int):Rat)≤0))=belowB p y (fun _=>0) from rfl]
     unfold refB
     cases fitsY p y<;>cases (sumY p y).isSome<;>cases posB p y<;>cases signedB p y<;>cases belowB p y (fun _=>0)<;>rfl
   ·simp only[decide_eq_false hl,decide_eq_false (show ¬ (y.length:Int)=p.2.length by omega),Bool.not_false,cT,cF]
end Go.Proofs.YtfknoaclabfdlaaGreat

namespace Go.Proofs.YtfknoaclabfdlaaGreat
open Tryz Dn Dn.Sh
theorem upF_stop {R:Type} {n:Nat} {g h:Nat→Bool} {f:Bool→Option R} {bad:Option R} {b:Nat→Bool→(Bool→Option R)→Option R}
  (hb:∀i s k,i<n→b i s k=bif g i then k (s&&h i) else bad):∀(k i:Nat) (s:Bool),i+k≤n →
  upF b f k i s=bif (List.range' i k).all g then f (s&&(List.range' i k).all h) else bad
 | 0,i,s,_=>by simp[upF]
 | k+1,i,s,hi=>by
  simp only[upF,hb i s _ (by omega)]
  simp only[List.range'_succ,List.all_cons,←Bool.and_assoc]
  cases g i with
  | false=>rfl
  | true =>
   rw[cT,upF_stop hb k (i+1) _ (by omega),Bool.true_and]
theorem rbelow_ok {p:Pg} {y:List Fq} {most:List Int} (hv:ValidP p) (hy:∀a ∈ y,okF a) (hl:y.length=p.2.length) (hm:most.length=p.1.length) (hmb:∀n ∈ most,inC n=true) :
  ref05_below p y most=bif fitsY p y then some (belowB p y (fun j=>most.getD j 0),0,()) else some (false,5,()):=by
 unfold ref05_below ref05_below_b
 have h6:=hv.rows
 have h7:=hv.cost.2
 refine (lpK_up (α:=Bool×Int×PUnit) p.1.length (by omega) (fun i (s:Bool)=>(s,(i:Int),PUnit.unit)) (fun j s k=>bif (sumR (colP p j) y 0).isSome then k (s&&decide (cmpQ ((sumR (colP p j) y 0).getD 0) ((most.getD j 0:Int):Rat)≤0)) else some (false,5,()))
  (fun s=>some (s,0,())) ?_ ?_ true).trans ?_
 ·intro again i s hi
  have hw:IntKind.wrap .i64 ((i:Int)+1)=((i+1:Nat):Int):=by rw[wrap_id (by omega) (by omega)];rfl
  have h1:=rsum_ok (l:=colP p i) (x:=y) (by rw[col_len];omega) (by rw[col_len];omega) (fun n hn=>inC_big (col_inC hv hi n hn)) hy
  have hn:most.getD i 0 ∈ most:=by rw[getD_nat (by omega)];exact List.getElem_mem _
  have h2:=RCmp_ok (okF_prQ (sumR_ok (l:=colP p i) (x:=y))) (okF_int (inC_big (hmb _ hn)).1 (inC_big (hmb _ hn)).2)
  rw[qv_prQ,qv_int] at h2
  simp only[inB_nat,decide_eq_true (show (i:Int)<most.length by omega),decide_eq_true (show i<most.length by omega),cT,rcolumn_ok hv hi,h1,obind_some',hw,Int.toNat_natCast,rOf_ok]
  cases hs:sumR (colP p i) y 0 with
  | none=>rfl
  | some q =>
   rw[hs] at h2
   simp only[Option.getD_some] at h2
   cases s with
   | false=>rfl
   | true =>
    simp only[endR,obind_some',cT,h2]
    rfl
 ·intro again s
  simp only[hm,decide_eq_false (show ¬ (p.1.length:Int)<p.1.length by omega),cF]
 ·rw[upF_stop (n:=p.1.length) (g:=fun j=>(sumR (colP p j) y 0).isSome) (h:=fun j=>decide (cmpQ ((sumR (colP p j) y 0).getD 0) ((most.getD j 0:Int):Rat)≤0)) (fun _ _ _ _=>rfl) p.1.length 0 _ (by omega)]
  rfl
end Go.Proofs.YtfknoaclabfdlaaGreat

namespace Go.Proofs.YtfknoaclabfdlaaGreat
open Tryz Dn Dn.Sh
theorem getD_zeros {n j:Nat}:(List.replicate n (0:Int)).getD j 0=0:=by
 rw[List.getD_eq_getElem?_getD,List.getElem?_replicate]
 split<;>rfl
theorem rrefutes_ok {p:Pg} {y:List Fq} (hV:ValidP p) (hX:∀a ∈ y,okF a) (hl:y.length=p.2.length):ref05_Refutes p y=some (bif fitsY p y&&(sumY p y).isSome then (refB p y,0,()) else (false,5,())):=by
 have h6:=hV.rows
 have h7:=hV.cost.2
 have hb:=rbelow_ok (most:=List.replicate p.1.length 0) hV hX hl (by simp) (fun n hn=>by rw[List.eq_of_mem_replicate hn];decide)
 have hf:(fun j=>(List.replicate p.1.length (0:Int)).getD j 0)=fun _=>0:=funext fun _=>getD_zeros
 rw[hf] at hb
 have hs:=rsum_ok (l:=rightP p) (x:=y) (by rw[right_len];omega) (by rw[right_len];omega) (fun n hn=>inR_big (right_inR hV n hn)) hX
 simp only[ref05_Refutes,ref05_Refutes_b,Int.toNat_natCast,fitB_of (show p.1.length*8≤140737488355328 by omega),decide_eq_true (show (0:Int)≤(p.1.length:Nat) by omega),Bool.and_self,cT,hb]
 cases fitsY p y with
 | false=>rfl
 | true =>
  simp only[cT,obind_some',decide_true,Bool.not_true,cF,rrights_ok hV,hs,Bool.true_and]
  unfold refB posB sumY
  cases hq:sumR (rightP p) y 0 with
  | none=>rfl
  | some q =>
   have hq':=sumR_fits (by decide) hq
   have hg:=cmp_num (okF_prQ hq')
   rw[qv_prQ] at hg
   simp only[endR,obind_some',decide_true,Bool.not_true,cF,rsign_ok (okF_prQ hq'),qv_prQ,hg,rsigned_ok hV hX hl,Option.getD_some]
   obtain ⟨n,hn⟩:∃n,(prQ q).1=n:=⟨_,rfl⟩
   simp only[hn]
   by_cases c1:n<0
   ·rw[if_pos c1,decide_eq_false (show ¬ 0<n by omega)]
    cases belowB p y (fun _=>0)<;>cases signedB p y<;>rfl
   ·by_cases c2:n=0
    ·rw[if_neg c1,if_pos c2,decide_eq_false (show ¬ 0<n by omega)]
     cases belowB p y (fun _=>0)<;>cases signedB p y<;>rfl
    ·rw[if_neg c1,if_neg c2,decide_eq_true (show 0<n by omega)]
     cases belowB p y (fun _=>0)<;>cases signedB p y<;>rfl
end Go.Proofs.YtfknoaclabfdlaaGreat

namespace Go.Proofs.YtfknoaclabfdlaaGreat
open Tryz Dn Dn.Sh
theorem awakeS_ok:law15_awake=some true:=by kernel_rfl
theorem few_ok (s:Sy) (y:List Fq):law15_few s y=some (smallSB s&&decide (y.length≤10)):=by
 simp only[law15_few,law15_few_b,ysmall_ok,obind_some']
 rw[show decide ((y.length:Int)≤10)=decide (y.length≤10) from decide_eq_decide.2 (by omega)]
 cases smallSB s<;>rfl
theorem ysame_refl {d:Pg} (h1:d.1.length≤1000000) (h2:d.2.length≤1000000) (h3:∀r ∈ d.2,r.1.length≤1000000):ref05_Same d d=some true:=by
 have hi:∀e0:Bool,(!e0||e0)=true:=fun e0=>by cases e0<;>rfl
 have hj:∀e0:Bool,(e0||!e0)=true:=fun e0=>by cases e0<;>rfl
 simp only[ref05_Same,ref05_Same_b,decide_true,hi,hj,cT,Bool.not_true,Bool.and_self,cF]
 refine lpK_seqX d.1.length (by omega) (fun i=>((i:Int),PUnit.unit)) _ rfl (fun again i hil=>?_) (fun again=>?_)
 ·simp only[decide_eq_true (show (i:Int)<d.1.length by omega),inB_nat,decide_eq_true hil,cT,succ_wrapS (show i≤1000000 by omega)]
 ·simp only[decide_eq_false (show ¬ (d.1.length:Int)<d.1.length by omega),cF]
  refine lpK_seqX d.2.length (by omega) (fun i=>((i:Int),PUnit.unit)) _ rfl (fun again2 i hil=>?_) (fun again2=>?_)
  ·have hr:=h3 (d.2.getD i rw0) (by rw[getD_nat hil];exact List.getElem_mem _)
   simp only[decide_eq_true (show (i:Int)<d.2.length by omega),inB_nat,decide_eq_true hil,Int.toNat_natCast,cT,succ_wrapS (show i≤1000000 by omega)]
   refine lpK_seqX (d.2.getD i rw0).1.length (by omega) (fun k=>((k:Int),PUnit.unit)) _ rfl (fun again3 k hk=>?_) (fun again3=>?_)
   ·simp only[decide_eq_true (show (k:Int)<(d.2.getD i rw0).1.length by omega),inB_nat,decide_eq_true hk,cT,succ_wrapS (show k≤1000000 by omega)]
   ·simp only[decide_eq_false (show ¬ ((d.2.getD i rw0).1.length:Int)<(d.2.getD i rw0).1.length by omega),cF]
  ·simp only[decide_eq_false (show ¬ (d.2.length:Int)<d.2.length by omega),cF]
theorem vsame {p:Pg} (hV:ValidP p):ref05_Same p p=some true:=ysame_refl (by have:=hV.cost;omega) (by have:=hV.rows;omega) fun r hr=>by rw[hV.len r hr];have:=hV.cost;omega
theorem yproves_ok {s:Sy} (h:validS s=true) (y:List Fq):slack_Proves s y=obind (program_Refutes (progS s (onesS s)) y) fun t=>some (t.1,t.2.1,()):=by
 unfold slack_Proves slack_Proves_b
 rw[yprog_ok h,obind_some']
 rfl
theorem yproves_bad {s:Sy} (h:validS s=false) (hl:s.2.length≤1000000) (y:List Fq):slack_Proves s y=some (false,1,()):=by
 unfold slack_Proves slack_Proves_b
 rw[yprog_bad h hl,obind_some']
 rfl
theorem lawPrograms15 (s:Sy) (y:List Fq):law15_SlackPrograms s y=some true:=by
 have hi:∀e0:Bool,(!e0||e0)=true:=fun e0=>by cases e0<;>rfl
 have hj:∀e0:Bool,(e0||!e0)=true:=fun e0=>by cases e0<;>rfl
 simp only[law15_SlackPrograms,law15_SlackPrograms_b,awakeS_ok,few_ok,obind_some',Bool.not_true,cF,hi,hj,Bool.and_self,cT]
 cases hs:smallSB s with
 | false=>rfl
 | true =>
  have hl:=smallS_len hs
  by_cases hy:y.length≤10
  ·rw[decide_eq_true hy]
   simp only[Bool.and_self,Bool.not_true,cF,rsysV_ok]
   cases hv:validS s with
   | false =>
    have e:ref05_Same ([],[]) ([],[])=some true:=ysame_refl (by simp) (by simp) (by simp)
    simp only[yprog_bad hv (show s.2.length≤1000000 by omega),yproves_bad hv (show s.2.length≤1000000 by omega),obind_some',Bool.not_false,cT,e]
    rfl
   | true =>
    have hV:=validS_of hv
    have hp:=onesS_ok hV
    have hpl:(progS s (onesS s)).2.length=s.1.length:=rowL_len
    simp only[yprog_ok hv,yproves_ok hv,yones_ok s (show s.2.length≤1000000 by omega),yrprog_ok hv,prefutes_ok (show y.length≤1000000 by omega),obind_some',vsame hp,RAll_ok (show y.length≤1000000 by omega),validP_iff.2 hp,Bool.not_true,cF,Bool.true_and]
    rw[hpl,show (y.all fun a=>decide (okF a))=okL y from rfl]
    cases ho:okL y with
    | false=>rfl
    | true =>
     simp only[Bool.not_true,cF,cT]
     by_cases hn:y.length=s.1.length
     ·have hr:=rrefutes_ok (p:=progS s (onesS s)) (y:=y) hp (okL_iff.1 ho) (by rw[hpl];exact hn)
      simp only[decide_eq_true hn,decide_eq_true (show (y.length:Int)=s.1.length by omega),Bool.not_true,cF,cT,hr,obind_some']
      cases fitsY (progS s (onesS s)) y&&(sumY (progS s (onesS s)) y).isSome with
      | false=>rfl
      | true=>cases refB (progS s (onesS s)) y<;>rfl
     ·simp only[decide_eq_false hn,decide_eq_false (show ¬ (y.length:Int)=s.1.length by omega),Bool.not_false,cF,cT]
      rfl
  ·rw[decide_eq_false hy]
   rfl
end Go.Proofs.YtfknoaclabfdlaaGreat
