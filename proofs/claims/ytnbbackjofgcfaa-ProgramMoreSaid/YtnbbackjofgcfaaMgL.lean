/- Steps of the simplex method by the rule of least indices: they never come back to a basis. Steps of the simplex method come to an end: a measure. Linear programs over the rationals: what points and multipliers prove; and what tables of the simplex method prove. How great the numbers of a program's tables may get: the product of the rows' factors. Tables of programs: how great the numbers of the artificial columns may get. Tables of numbers as lists of rows, and loops over them. Programs: products of two numbers, their differences and quotients. Programs: a step of the table. Programs: the row that leaves, the sums of artificial rows, and the reduced costs. Programs: the sums of artificial rows, and the reduced costs. Programs: improving a table to the least value. Programs: finding a feasible basis. Programs: the first table. Programs: which programs fit. Programs: what Solve answers. Programs: what Farkas answers. The law ProgramForms. Programs: columns and right sides. Programs: the signs of multipliers. Programs: sums of columns below numbers; refutations. Programs: refutations, as the program tells them. Programs: refutations, as they are specified. Programs: refutations are the same in both programs. Programs: answers that are proved, in both programs. Programs: points, multipliers and refutations are those of the theory. Programs: the sums of what the solver returns fit, so that its answers are accepted. Programs: what the solver says of a program; the law ProgramBeats. Programs with their rows and variables in the opposite order, and with one more row. Programs: the law ProgramMore. -/
import Derived.Test.YtnbbackjofgcfaaMgK

namespace Go.Proofs.Ytnbbackjofgcfaa
namespace Dn
structure Sx where
 T:Nat→Nat→Int
 d:Int
 β:Nat→Nat
def zr (m:Nat) (wc:Nat→Int) (S:Sx) (j:Nat):Int:=wc j*S.d - sz m fun i=>wc (S.β i)*S.T i j
structure Leaves (m R:Nat) (S:Sx) (c r:Nat):Prop where
 lt:r<m
 pos:0<S.T r c
 le:∀i,i<m→0<S.T i c→S.T r R*S.T i c≤S.T i R*S.T r c
 tie:∀i,i<m→0<S.T i c→S.T r R*S.T i c=S.T i R*S.T r c→S.β r≤S.β i
structure Enters (m N:Nat) (wc:Nat→Int) (S:Sx) (c:Nat):Prop where
 lt:c<N
 neg:zr m wc S c<0
 least:∀j,j<c→0≤zr m wc S j
structure StepAt (m w:Nat) (S S':Sx) (r c:Nat):Prop where
 T:∀i j,i<m→j<w→S'.T i j=if i=r then S.T r j else piv S.T S.d r c i j
 d:S'.d=S.T r c
 β:∀i,i<m→S'.β i=upd S.β r c i
structure Step (m w N R:Nat) (wc:Nat→Int) (S S':Sx) (r c:Nat):Prop where
 enters:Enters m N wc S c
 leaves:Leaves m R S c r
 at':StepAt m w S S' r c
structure Val (m w N R:Nat) (M:Nat→Nat→Int) (S:Sx):Prop where
 tb:Tb m w M S.T S.d S.β
 feas:∀i,i<m→0≤S.T i R
 ne:∀i,i<m→S.β i≠R
section
variable {m w N R:Nat} {M:Nat→Nat→Int} {wc:Nat→Int}
theorem dc_congr {β β':Nat→Nat} (h:∀i,i<m→β' i=β i):dc m M β'=dc m M β:=det_congr fun i j _ hj=>by unfold colsOf;rw[h j hj]
theorem Tb.congr {T T':Nat→Nat→Int} {d:Int} {β β':Nat→Nat} (h:Tb m w M T d β) (hT:∀i j,i<m→j<w→T' i j=T i j) (hβ:∀i,i<m→β' i=β i):Tb m w M T' d β':=by
 refine ⟨h.dpos,fun i hi=>by rw[hβ i hi];exact h.lt i hi,fun k hk j hj=>?_,?_⟩
 ·rw[h.co k hk j hj]
  exact sz_congr fun i hi=>by rw[hT i j hi hj,hβ i hi]
 ·obtain ⟨σ,h1,h2,h3⟩:=h.cr
  refine ⟨σ,h1,by rw[dc_congr hβ];exact h2,fun i hi j hj=>?_⟩
  rw[hT i j hi hj,h3 i hi j hj]
  congr 1
  exact (dc_congr fun k hk=>by unfold upd;rw[hβ k hk]).symm
theorem Val.stepAt {S S':Sx} (h:Val m w N R M S) (hR:R<w) {r c:Nat} (hc:c<w) (hcR:c≠R) (hl:Leaves m R S c r) (hs:StepAt m w S S' r c):Val m w N R M S':=by
 have hr:=hl.lt
 have e1:sg (S.T r c)=1:=by unfold sg;rw[if_neg (by have:=hl.pos;omega)]
 have h1:=h.tb.step hr hc (by have:=hl.pos;omega)
 have h2:=h1.congr (T':=S'.T) (β':=S'.β) (fun i j hi hj=>by rw[hs.T i j hi hj];unfold pivT;rw[e1,Int.one_mul]) hs.β
 rw[e1,Int.one_mul,←hs.d] at h2
 refine ⟨h2,fun i hi=>?_,fun i hi=>?_⟩
 ·rw[hs.T i R hi hR]
  split
  ·exact h.feas r hr
  ·rename_i hne
   have h3:=piv_exact h.tb hr hi (Ne.symm hne) hc hR
   have h4:=h.tb.dpos
   have h5:=hl.pos
   have h6:0≤S.T r c*S.T i R - S.T i c*S.T r R:=by
    by_cases h7:0<S.T i c
    ·have:=hl.le i hi h7
     have e1:=Int.mul_comm (S.T r R) (S.T i c)
     have e2:=Int.mul_comm (S.T i R) (S.T r c)
     omega
    ·have h8:0≤S.T r c*S.T i R:=Int.mul_nonneg (by omega) (h.feas i hi)
     have h9:0≤ -S.T i c*S.T r R:=Int.mul_nonneg (by omega) (h.feas r hr)
     rw[Int.neg_mul] at h9
     omega
   rw[←h3] at h6
   exact Int.nonneg_of_mul_nonneg_right h6 h4
 ·rw[hs.β i hi]
  unfold upd
  split
  ·exact hcR
  ·exact h.ne i hi
theorem zr_basis {S:Sx} (h:Tb m w M S.T S.d S.β) {i:Nat} (hi:i<m):zr m wc S (S.β i)=0:=by
 unfold zr
 rw[sz_one hi fun k hk hne=>by rw[h.other hk hi hne,Int.mul_zero],h.basis hi]
 omega
theorem zr_rows {S:Sx} (h:Tb m w M S.T S.d S.β) {a:Nat→Nat} (ha:∀i,i<m→a i<w) (hM:∀k,k<m→∀i,i<m→M k (a i)=if k=i then 1 else 0) {j:Nat} (hj:j<w) :
  zr m wc S j=wc j*S.d - sz m fun k=>(sz m fun i=>wc (S.β i)*S.T i (a k))*M k j:=by
 unfold zr
 congr 1
 rw[sz_congr (g:=fun i=>sz m fun k=>wc (S.β i)*S.T i (a k)*M k j) fun i hi=>by
  rw[h.rows ha hM hi hj,←sz_mul]
  exact sz_congr fun k _=>by rw[Int.mul_assoc]]
 rw[sz_swap]
 exact sz_congr fun k _=>sz_mulr
theorem zr_step {S S':Sx} (h:Tb m w M S.T S.d S.β) {r c j:Nat} (hr:r<m) (hc:c<w) (hj:j<w) (hs:StepAt m w S S' r c):S.d*zr m wc S' j=S.T r c*zr m wc S j - zr m wc S c*S.T r j:=by
 have h1:∀i,i<m→S.d*(wc (S'.β i)*S'.T i j)=(S.T r c*(wc (S.β i)*S.T i j) - S.T r j*(wc (S.β i)*S.T i c))+(if i=r then S.d*(wc c*S.T r j) else 0):=fun i hi=>by
  rw[hs.β i hi,hs.T i j hi hj]
  unfold upd
  by_cases e:i=r
  ·subst e
   simp only[if_true]
   grind
  ·simp only[e,if_false,Int.add_zero]
   have:=piv_exact h hr hi (Ne.symm e) hc hj
   grind
 have h2:S.d*(sz m fun i=>wc (S'.β i)*S'.T i j)=S.T r c*(sz m fun i=>wc (S.β i)*S.T i j) - S.T r j*(sz m fun i=>wc (S.β i)*S.T i c)+S.d*(wc c*S.T r j):=by
  rw[←sz_mul,sz_congr h1,sz_add,sz_sub,sz_mul,sz_mul,sz_one hr fun i _ hne=>if_neg hne,if_pos rfl]
 unfold zr
 rw[Int.mul_sub,h2,hs.d]
 grind
theorem zr_two {S S':Sx} (h:Tb m w M S.T S.d S.β) (h':Tb m w M S'.T S'.d S'.β) {a:Nat→Nat} (ha:∀i,i<m→a i<w) (hM:∀k,k<m→∀i,i<m→M k (a i)=if k=i then 1 else 0) {s:Nat} (hs:s<w) :
  S.d*zr m wc S' s=S'.d*zr m wc S s+sz m fun i=>S.T i s*zr m wc S' (S.β i):=by
 have e1:=zr_rows (wc:=wc) h' ha hM hs
 have e2:∀i,i<m→S.T i s*zr m wc S' (S.β i)=S'.d*(wc (S.β i)*S.T i s) - sz m fun k=>(sz m fun i=>wc (S'.β i)*S'.T i (a k))*(S.T i s*M k (S.β i)):=fun i hi=>by
  rw[zr_rows (wc:=wc) h' ha hM (h.lt i hi),Int.mul_sub,←sz_mul]
  congr 1
  ·grind
  ·exact sz_congr fun k _=>by grind
 rw[sz_congr e2,sz_sub,sz_mul,sz_swap]
 have e3:(sz m fun k=>sz m fun i=>(sz m fun i=>wc (S'.β i)*S'.T i (a k))*(S.T i s*M k (S.β i)))=S.d*sz m fun k=>(sz m fun i=>wc (S'.β i)*S'.T i (a k))*M k s:=by
  rw[←sz_mul]
  refine sz_congr fun k hk=>?_
  rw[sz_mul,←h.co k hk s hs]
  grind
 rw[e3,e1]
 unfold zr
 grind
theorem left_between {β:Nat→Nat→Nat} {q:Nat}:∀{k i:Nat},(∃p,p<m∧β i p=q)→(¬ ∃p,p<m∧β (i+k) p=q)→∃n,i≤n∧n<i+k∧(∃p,p<m∧β n p=q)∧¬ ∃p,p<m∧β (n+1) p=q
 | 0,i,h1,h2=>(h2 h1).elim
 | k+1,i,h1,h2=>by
  by_cases h:∃p,p<m∧β (i+k) p=q
  ·exact ⟨i+k,by omega,by omega,h,h2⟩
  ·obtain ⟨n,h3,h4,h5,h6⟩:=left_between h1 h
   exact ⟨n,h3,by omega,h5,h6⟩
theorem come_between {β:Nat→Nat→Nat} {q:Nat}:∀{k i:Nat},(¬ ∃p,p<m∧β i p=q)→(∃p,p<m∧β (i+k) p=q)→∃n,i≤n∧n<i+k∧(¬ ∃p,p<m∧β n p=q)∧∃p,p<m∧β (n+1) p=q
 | 0,i,h1,h2=>(h1 h2).elim
 | k+1,i,h1,h2=>by
  by_cases h:∃p,p<m∧β (i+k) p=q
  ·obtain ⟨n,h3,h4,h5,h6⟩:=come_between h1 h
   exact ⟨n,h3,by omega,h5,h6⟩
  ·exact ⟨i+k,by omega,by omega,h,h2⟩
theorem max_of {k:Nat} {f:Nat→Nat}:0<k→∃n,n<k∧∀i,i<k→f i≤f n:=by
 induction k with
 | zero=>intro h;omega
 | succ k ih =>
  intro _
  by_cases hk:k=0
  ·subst hk
   exact ⟨0,by omega,fun i hi=>by rw[show i=0 by omega];exact Nat.le_refl _⟩
  ·obtain ⟨n,h1,h2⟩:=ih (by omega)
   by_cases h3:f k≤f n
   ·refine ⟨n,by omega,fun i hi=>?_⟩
    by_cases h4:i=k
    ·rw[h4];exact h3
    ·exact h2 i (by omega)
   ·refine ⟨k,by omega,fun i hi=>?_⟩
    by_cases h4:i=k
    ·rw[h4];exact Nat.le_refl _
    ·have:=h2 i (by omega);omega
theorem le_cancel {e x y:Int} (he:0<e) (h:e*x≤e*y):x≤y:=Int.le_of_mul_le_mul_left h he
structure Run (m w N R:Nat) (M:Nat→Nat→Int) (wc:Nat→Int) (k:Nat) (S:Nat→Sx) (r c:Nat→Nat):Prop where
 val:∀n,n≤k→Val m w N R M (S n)
 step:∀n,n<k→Step m w N R wc (S n) (S (n+1)) (r n) (c n)
theorem Run.of {k:Nat} {S:Nat→Sx} {r c:Nat→Nat} (hN:N≤R) (hR:R<w) (h0:Val m w N R M (S 0)) (hs:∀n,n<k→Step m w N R wc (S n) (S (n+1)) (r n) (c n)):Run m w N R M wc k S r c:=by
 refine ⟨fun n=>?_,hs⟩
 induction n with
 | zero=>intro _;exact h0
 | succ n ih =>
  intro hn
  have h1:=hs n (by omega)
  have:=h1.enters.lt
  exact (ih (by omega)).stepAt hR (by omega) (by omega) h1.leaves h1.at'
theorem Run.nocycle {k:Nat} {S:Nat→Sx} {r c:Nat→Nat} {a:Nat→Nat} (ha:∀i,i<m→a i<w) (hM:∀k,k<m→∀i,i<m→M k (a i)=if k=i then 1 else 0) (hN:N≤R) (hR:R<w)
  (h:Run m w N R M wc k S r c) (hk:0<k):¬ ∀i,i<m→(S k).β i=(S 0).β i:=by
 intro hcyc
 have cw:∀n,n<k→c n<w:=fun n hn=>by have:=(h.step n hn).enters.lt;omega
 have dp:∀n,n≤k→0<(S n).d:=fun n hn=>(h.val n hn).tb.dpos
 have vstep:∀n,n<k→zr m wc (S n) R*(S (n+1)).d≤zr m wc (S (n+1)) R*(S n).d∧((S n).T (r n) R≠0→zr m wc (S n) R*(S (n+1)).d<zr m wc (S (n+1)) R*(S n).d):=fun n hn=>by
  have hs:=h.step n hn
  have h1:=zr_step (wc:=wc) (h.val n (by omega)).tb hs.leaves.lt (cw n hn) hR hs.at'
  have h2:=hs.enters.neg
  have h3:=(h.val n (by omega)).feas (r n) hs.leaves.lt
  have h4:0≤ -zr m wc (S n) (c n)*(S n).T (r n) R:=Int.mul_nonneg (by omega) h3
  rw[Int.neg_mul] at h4
  rw[hs.at'.d,Int.mul_comm (zr m wc (S (n+1)) R),h1,Int.mul_comm (zr m wc (S n) R)]
  refine ⟨by omega,fun hne=>?_⟩
  have h5:0< -zr m wc (S n) (c n)*(S n).T (r n) R:=Int.mul_pos (by omega) (by omega)
  rw[Int.neg_mul] at h5
  omega
 have vle:∀i j,i+j≤k→zr m wc (S i) R*(S (i+j)).d≤zr m wc (S (i+j)) R*(S i).d:=by
  intro i j
  induction j with
  | zero=>intro _;exact Int.le_refl _
  | succ j ih =>
   intro hj
   have h1:=ih (by omega)
   have h2:=(vstep (i+j) (by omega)).1
   have d1:=dp i (by omega)
   have d2:=dp (i+j) (by omega)
   have d3:=dp (i+j+1) (by omega)
   refine le_cancel d2 ?_
   have h3:=Int.mul_le_mul_of_nonneg_right h1 (Int.le_of_lt d3)
   have h4:=Int.mul_le_mul_of_nonneg_right h2 (Int.le_of_lt d1)
   rw[show i+(j+1)=i+j+1 by omega]
   calc (S (i+j)).d*(zr m wc (S i) R*(S (i+j+1)).d)=zr m wc (S i) R*(S (i+j)).d*(S (i+j+1)).d:=by grind
    _≤zr m wc (S (i+j)) R*(S i).d*(S (i+j+1)).d:=h3
    _=zr m wc (S (i+j)) R*(S (i+j+1)).d*(S i).d:=by grind
    _≤zr m wc (S (i+j+1)) R*(S (i+j)).d*(S i).d:=h4
    _=(S (i+j)).d*(zr m wc (S (i+j+1)) R*(S i).d):=by grind
 have same:(S k).d=(S 0).d∧∀i j,i<m→j<w→(S k).T i j=(S 0).T i j:=by
  obtain ⟨σ,s1,s2,s3⟩:=(h.val k (Nat.le_refl _)).tb.cr
  obtain ⟨τ,t1,t2,t3⟩:=(h.val 0 (by omega)).tb.cr
  rw[dc_congr hcyc] at s2
  have p1:=dp k (Nat.le_refl _)
  have p2:=dp 0 (by omega)
  have e:σ=τ:=by
   have h1:σ*(S k).d=dc m M (S 0).β:=by rw[s2,←Int.mul_assoc,s1,Int.one_mul]
   have h2:τ*(S 0).d=dc m M (S 0).β:=by rw[t2,←Int.mul_assoc,t1,Int.one_mul]
   have pm:∀x:Int,x*x=1→x=1∨x= -1:=fun x hx=>by
    have h4:x.natAbs*x.natAbs=1:=by
     have:=congrArg Int.natAbs hx
     rwa [Int.natAbs_mul] at this
    have h5:x.natAbs=1:=Nat.eq_one_of_mul_eq_one_left h4
    omega
   rcases pm σ s1 with rfl | rfl<;>rcases pm τ t1 with rfl | rfl<;>omega
  refine ⟨by rw[s2,e];exact t2.symm,fun i j hi hj=>?_⟩
  rw[s3 i hi j hj,t3 i hi j hj,e]
  congr 1
  exact dc_congr fun l hl=>by unfold upd;rw[hcyc l hl]
 have vend:zr m wc (S k) R=zr m wc (S 0) R:=by
  unfold zr
  rw[same.1]
  congr 1
  exact sz_congr fun i hi=>by rw[hcyc i hi,same.2 i R hi hR]
 have flat:∀n,n<k→(S n).T (r n) R=0:=fun n hn=>by
  by_cases e:(S n).T (r n) R=0
  ·exact e
  ·exfalso
   have h1:=(vstep n hn).2 e
   have h2:=vle 0 n (by omega)
   have h3:=vle (n+1) (k - (n+1)) (by omega)
   rw[Nat.zero_add] at h2
   rw[show n+1+(k - (n+1))=k by omega,vend,same.1] at h3
   have d0:=dp 0 (by omega)
   have d1:=dp n (by omega)
   have d2:=dp (n+1) (by omega)
   have h4:=Int.mul_lt_mul_of_pos_right h1 d0
   have h5:=Int.mul_le_mul_of_nonneg_right h2 (Int.le_of_lt d2)
   have h6:=Int.mul_le_mul_of_nonneg_right h3 (Int.le_of_lt d1)
   have:zr m wc (S 0) R*(S n).d*(S (n+1)).d<zr m wc (S 0) R*(S n).d*(S (n+1)).d:=by
    calc zr m wc (S 0) R*(S n).d*(S (n+1)).d≤zr m wc (S n) R*(S 0).d*(S (n+1)).d:=h5
     _=zr m wc (S n) R*(S (n+1)).d*(S 0).d:=by grind
     _<zr m wc (S (n+1)) R*(S n).d*(S 0).d:=h4
     _=zr m wc (S (n+1)) R*(S 0).d*(S n).d:=by grind
     _≤zr m wc (S 0) R*(S (n+1)).d*(S n).d:=h6
     _=zr m wc (S 0) R*(S n).d*(S (n+1)).d:=by grind
   omega
 have zeroStep:∀n q,n<k→((∀i,i<m→(S n).β i=q→(S n).T i R=0)↔(∀i,i<m→(S (n+1)).β i=q→(S (n+1)).T i R=0)):=fun n q hn=>by
  have hs:=h.step n hn
  have hf:=flat n hn
  have htb:=(h.val n (by omega)).tb
  have key:∀i,i<m→i≠r n→((S (n+1)).T i R=0↔(S n).T i R=0):=fun i hi hne=>by
   rw[hs.at'.T i R hi hR,if_neg hne]
   have h1:=piv_exact htb hs.leaves.lt hi (Ne.symm hne) (cw n hn) hR
   rw[hf,Int.mul_zero,Int.sub_zero] at h1
   have h2:=hs.leaves.pos
   have h3:=dp n (by omega)
   constructor
   ·intro e
    rw[e,Int.mul_zero] at h1
    rcases Int.mul_eq_zero.1 h1.symm with h4 | h4
    ·omega
    ·exact h4
   ·intro e
    rw[e,Int.mul_zero] at h1
    rcases Int.mul_eq_zero.1 h1 with h4 | h4
    ·omega
    ·exact h4
  constructor
  ·intro hz i hi hb
   by_cases e:i=r n
   ·rw[e,hs.at'.T _ R hs.leaves.lt hR,if_pos rfl];exact hf
   ·rw[hs.at'.β i hi] at hb
    unfold upd at hb
    rw[if_neg e] at hb
    exact (key i hi e).2 (hz i hi hb)
  ·intro hz i hi hb
   by_cases e:i=r n
   ·rw[e];exact hf
   ·refine (key i hi e).1 (hz i hi ?_)
    rw[hs.at'.β i hi]
    unfold upd
    rw[if_neg e]
    exact hb
 have zeroAll:∀q n,n≤k→((∀i,i<m→(S 0).β i=q→(S 0).T i R=0)↔(∀i,i<m→(S n).β i=q→(S n).T i R=0)):=fun q n=>by
  induction n with
  | zero=>intro _;exact Iff.rfl
  | succ n ih=>intro hn;exact (ih (by omega)).trans (zeroStep n q (by omega))
 have comes:∀n q,n<k→(¬ ∃p,p<m∧(S n).β p=q)→(∃p,p<m∧(S (n+1)).β p=q)→q=c n:=fun n q hn h1 ⟨p,hp,hq⟩=>by
  have hs:=h.step n hn
  rw[hs.at'.β p hp] at hq
  unfold upd at hq
  split at hq
  ·exact hq.symm
  ·exact (h1 ⟨p,hp,hq⟩).elim
 have goes:∀n q,n<k→(∃p,p<m∧(S n).β p=q)→(¬ ∃p,p<m∧(S (n+1)).β p=q)→q=(S n).β (r n):=fun n q hn ⟨p,hp,hq⟩ h1=>by
  have hs:=h.step n hn
  by_cases e:p=r n
  ·rw[←e];exact hq.symm
  ·refine (h1 ⟨p,hp,?_⟩).elim
   rw[hs.at'.β p hp]
   unfold upd
   rw[if_neg e]
   exact hq
 have notIn:∀n,n<k→¬ ∃p,p<m∧(S n).β p=c n:=fun n hn ⟨p,hp,hq⟩=>by
  have hs:=h.step n hn
  have h1:=hs.enters.neg
  rw[←hq,zr_basis (h.val n (by omega)).tb hp] at h1
  omega
 have isIn:∀n,n<k→∃p,p<m∧(S (n+1)).β p=c n:=fun n hn=>by
  have hs:=h.step n hn
  refine ⟨r n,hs.leaves.lt,?_⟩
  rw[hs.at'.β _ hs.leaves.lt]
  unfold upd
  rw[if_pos rfl]
 have ends:∀q,(∃p,p<m∧(S k).β p=q)↔∃p,p<m∧(S 0).β p=q:=fun q=>by
  constructor
  ·rintro ⟨p,hp,hq⟩;exact ⟨p,hp,by rw[←hcyc p hp];exact hq⟩
  ·rintro ⟨p,hp,hq⟩;exact ⟨p,hp,by rw[hcyc p hp];exact hq⟩
 obtain ⟨ns,hns,hmax⟩:=max_of (f:=c) hk
 have leaves:∃n,n<k∧(S n).β (r n)=c ns:=by
  by_cases h0:∃p,p<m∧(S 0).β p=c ns
  ·obtain ⟨n,h1,h2,h3,h4⟩:=left_between (β:=fun n=>(S n).β) (k:=ns) (i:=0) h0 (by rw[Nat.zero_add];exact notIn ns hns)
   exact ⟨n,by omega,(goes n _ (by omega) h3 h4).symm⟩
  ·have h1:¬ ∃p,p<m∧(S k).β p=c ns:=fun e=>h0 ((ends _).1 e)
   obtain ⟨n,h2,h3,h4,h5⟩:=left_between (β:=fun n=>(S n).β) (k:=k - (ns+1)) (i:=ns+1) (isIn ns hns) (by rw[show ns+1+(k - (ns+1))=k by omega];exact h1)
   exact ⟨n,by omega,(goes n _ (by omega) h4 h5).symm⟩
 obtain ⟨n,hn,hleave⟩:=leaves
 have hs:=h.step n hn
 have hst:=h.step ns hns
 have vn:=h.val n (by omega)
 have vs:=h.val ns (by omega)
 have hcn:=hmax n hn
 have hne:c n≠c ns:=fun e=>notIn n hn ⟨r n,hs.leaves.lt,by rw[hleave];exact e.symm⟩
 have id:=zr_two (wc:=wc) vn.tb vs.tb ha hM (cw n hn)
 have z1:0≤zr m wc (S ns) (c n):=hst.enters.least (c n) (by omega)
 have z2:=hs.enters.neg
 have d1:=dp n (by omega)
 have d2:=dp ns (by omega)
 have hsum:0<sz m fun i=>(S n).T i (c n)*zr m wc (S ns) ((S n).β i):=by
  have h1:0≤(S n).d*zr m wc (S ns) (c n):=Int.mul_nonneg (by omega) z1
  have h2:0<(S ns).d* -zr m wc (S n) (c n):=Int.mul_pos d2 (by omega)
  rw[Int.mul_neg] at h2
  omega
 have hex:∃i,i<m∧0<(S n).T i (c n)*zr m wc (S ns) ((S n).β i):=by
  by_cases e:∃i,i<m∧0<(S n).T i (c n)*zr m wc (S ns) ((S n).β i)
  ·exact e
  ·exfalso
   have:=sz_le (n:=m) (f:=fun i=>(S n).T i (c n)*zr m wc (S ns) ((S n).β i)) (g:=fun _=>0) fun i hi=>Int.not_lt.1 fun h'=>e ⟨i,hi,h'⟩
   rw[sz_zero (f:=fun _=>0) fun _ _=>rfl] at this
   omega
 obtain ⟨i,hi,hpos⟩:=hex
 have hq0:zr m wc (S ns) ((S n).β i)≠0:=fun e=>by rw[e,Int.mul_zero] at hpos;omega
 have hq1:¬ ∃p,p<m∧(S ns).β p=(S n).β i:=fun ⟨p,hp,hq⟩=>hq0 (by rw[←hq];exact zr_basis vs.tb hp)
 have hq2:∃p,p<m∧(S n).β p=(S n).β i:=⟨i,hi,rfl⟩
 have hq3:∃n',n'<k∧(S n).β i=c n':=by
  by_cases hlt:ns<n
  ·obtain ⟨n',h1,h2,h3,h4⟩:=come_between (β:=fun n=>(S n).β) (k:=n - ns) (i:=ns) hq1 (by rw[show ns+(n - ns)=n by omega];exact hq2)
   exact ⟨n',by omega,comes n' _ (by omega) h3 h4⟩
  ·by_cases h0:∃p,p<m∧(S 0).β p=(S n).β i
   ·obtain ⟨n',h1,h2,h3,h4⟩:=come_between (β:=fun n=>(S n).β) (k:=k - ns) (i:=ns) hq1 (by rw[show ns+(k - ns)=k by omega];exact (ends _).2 h0)
    exact ⟨n',by omega,comes n' _ (by omega) h3 h4⟩
   ·obtain ⟨n',h1,h2,h3,h4⟩:=come_between (β:=fun n=>(S n).β) (k:=n) (i:=0) h0 (by rw[Nat.zero_add];exact hq2)
    exact ⟨n',by omega,comes n' _ (by omega) h3 h4⟩
 obtain ⟨n',hn',hq4⟩:=hq3
 have hq5:(S n).β i≤c ns:=by rw[hq4];exact hmax n' hn'
 by_cases hqt:(S n).β i=c ns
 ·have:i=r n:=vn.tb.inj hi hs.leaves.lt (by rw[hqt,hleave])
  rw[this,hleave] at hpos
  have h1:=hs.leaves.pos
  have h2:=hst.enters.neg
  have h3:0<(S n).T (r n) (c n)* -zr m wc (S ns) (c ns):=Int.mul_pos h1 (by omega)
  rw[Int.mul_neg] at h3
  omega
 ·have z3:0≤zr m wc (S ns) ((S n).β i):=hst.enters.least _ (by omega)
  have hTi:0<(S n).T i (c n):=by
   by_cases e:0<(S n).T i (c n)
   ·exact e
   ·exfalso
    have:0≤ -(S n).T i (c n)*zr m wc (S ns) ((S n).β i):=Int.mul_nonneg (by omega) z3
    rw[Int.neg_mul] at this
    omega
  have hiR:(S n).T i R=0:=((zeroAll _ n (by omega)).1 ((zeroAll _ ns (by omega)).2 fun p hp hq=>(hq1 ⟨p,hp,hq⟩).elim)) i hi rfl
  have:=hs.leaves.tie i hi hTi (by rw[flat n hn,hiR,Int.zero_mul,Int.zero_mul])
  rw[hleave] at this
  omega
end
end Dn
end Go.Proofs.Ytnbbackjofgcfaa

namespace Go.Proofs.Ytnbbackjofgcfaa
namespace Dn
theorem pigeon:∀(K:Nat) (f:Nat→Nat),(∀i,i≤K→f i<K)→∃i j,i<j∧j≤K∧f i=f j
 | 0,f,h=>by have:=h 0 (by omega);omega
 | K+1,f,h=>by
  by_cases e:∃i,i≤K∧f i=f (K+1)
  ·obtain ⟨i,h1,h2⟩:=e
   exact ⟨i,K+1,by omega,by omega,h2⟩
  ·
   obtain ⟨i,j,h1,h2,h3⟩:=pigeon K (fun i=>if f i<f (K+1) then f i else f i - 1) fun i hi=>by
    have h4:=h i (by omega)
    have h5:=h (K+1) (by omega)
    have h6:f i≠f (K+1):=fun e'=>e ⟨i,hi,e'⟩
    show (if f i<f (K+1) then f i else f i - 1)<K
    split<;>omega
   refine ⟨i,j,h1,by omega,?_⟩
   have h6:f i≠f (K+1):=fun e'=>e ⟨i,by omega,e'⟩
   have h7:f j≠f (K+1):=fun e'=>e ⟨j,by omega,e'⟩
   have h3:(if f i<f (K+1) then f i else f i - 1)=(if f j<f (K+1) then f j else f j - 1):=h3
   split at h3<;>split at h3<;>omega
def code (w:Nat) (β:Nat→Nat):Nat→Nat
 | 0=>0
 | m+1=>code w β m*w+β m
theorem code_lt {w:Nat} {β:Nat→Nat}:∀{m:Nat},(∀i,i<m→β i<w)→code w β m<w ^ m
 | 0,_=>by simp[code]
 | m+1,h=>by
  simp only[code]
  have h1:=code_lt (m:=m) fun i hi=>h i (by omega)
  have h2:=h m (by omega)
  have h3:(code w β m+1)*w≤w ^ m*w:=Nat.mul_le_mul_right _ h1
  rw[Nat.pow_succ]
  rw[Nat.add_mul,Nat.one_mul] at h3
  omega
theorem code_inj {w:Nat} {β γ:Nat→Nat}:∀{m:Nat},(∀i,i<m→β i<w)→(∀i,i<m→γ i<w)→code w β m=code w γ m→∀i,i<m→β i=γ i
 | 0,_,_,_,i,hi=>by omega
 | m+1,hβ,hγ,h,i,hi=>by
  simp only[code] at h
  have h1:=hβ m (by omega)
  have h2:=hγ m (by omega)
  have e1:(code w β m*w+β m) % w=β m:=by rw[Nat.mul_comm,Nat.mul_add_mod,Nat.mod_eq_of_lt h1]
  have e2:(code w γ m*w+γ m) % w=γ m:=by rw[Nat.mul_comm,Nat.mul_add_mod,Nat.mod_eq_of_lt h2]
  have e3:β m=γ m:=by rw[←e1,←e2,h]
  have e4:code w β m=code w γ m:=by
   have:code w β m*w=code w γ m*w:=by omega
   exact Nat.eq_of_mul_eq_mul_right (by omega) this
  by_cases e:i=m
  ·rw[e];exact e3
  ·exact code_inj (fun i hi=>hβ i (by omega)) (fun i hi=>hγ i (by omega)) e4 i (by omega)
open Classical in
noncomputable def greatest (p:Nat→Prop):Nat→Nat
 | 0=>0
 | k+1=>if p k then k else greatest p k
theorem greatest_le {p:Nat→Prop}:∀{K k:Nat},k<K→p k→k≤greatest p K
 | K+1,k,hk,h=>by
  unfold greatest
  by_cases e:k=K
  ·subst e;rw[if_pos h];exact Nat.le_refl _
  ·split
   ·omega
   ·exact greatest_le (by omega) h
theorem greatest_spec {p:Nat→Prop} (h0:p 0):∀{K:Nat},p (greatest p K)
 | 0=>h0
 | K+1=>by
  unfold greatest
  split
  ·assumption
  ·exact greatest_spec h0
theorem greatest_lt {p:Nat→Prop}:∀{K:Nat},0<K→greatest p K<K
 | K+1,_=>by
  unfold greatest
  split
  ·omega
  ·by_cases h:K=0
   ·subst h;simp[greatest]
   ·have:=greatest_lt (p:=p) (K:=K) (by omega);omega
section
variable {m w N R:Nat} {M:Nat→Nat→Int} {wc:Nat→Int}
theorem Run.short {k:Nat} {S:Nat→Sx} {r c:Nat→Nat} {a:Nat→Nat} (ha:∀i,i<m→a i<w) (hM:∀k,k<m→∀i,i<m→M k (a i)=if k=i then 1 else 0) (hN:N≤R) (hR:R<w)
  (h:Run m w N R M wc k S r c):k<w ^ m:=by
 by_cases hk:k<w ^ m
 ·exact hk
 ·exfalso
  obtain ⟨i,j,h1,h2,h3⟩:=pigeon (w ^ m) (fun n=>code w (S n).β m) fun n hn=>code_lt (h.val n (by omega)).tb.lt
  have h4:=code_inj (h.val i (by omega)).tb.lt (h.val j (by omega)).tb.lt h3
  have h5:Run m w N R M wc (j - i) (fun n=>S (i+n)) (fun n=>r (i+n)) (fun n=>c (i+n)):=⟨fun n hn=>h.val (i+n) (by omega),fun n hn=>h.step (i+n) (by omega)⟩
  refine h5.nocycle ha hM hN hR (by omega) fun p hp=>?_
  show (S (i+(j - i))).β p=(S (i+0)).β p
  rw[show i+(j - i)=j by omega,Nat.add_zero]
  exact (h4 p hp).symm
noncomputable def left (m w N R:Nat) (M:Nat→Nat→Int) (wc:Nat→Int) (s:Sx):Nat:=greatest (fun k=>∃S r c,S 0=s∧Run m w N R M wc k S r c) (w ^ m)
theorem left_lt (hw:0<w) (s:Sx):left m w N R M wc s<w ^ m:=greatest_lt (Nat.pow_pos hw)
theorem left_step {a:Nat→Nat} (ha:∀i,i<m→a i<w) (hM:∀k,k<m→∀i,i<m→M k (a i)=if k=i then 1 else 0) (hN:N≤R) (hR:R<w)
  {s s':Sx} {r c:Nat} (hv:Val m w N R M s) (hs:Step m w N R wc s s' r c):left m w N R M wc s'<left m w N R M wc s:=by
 have hv':Val m w N R M s':=by
  have:=hs.enters.lt
  exact hv.stepAt hR (by omega) (by omega) hs.leaves hs.at'
 obtain ⟨S,rr,cc,h0,h1⟩:=greatest_spec (p:=fun k=>∃S r c,S 0=s'∧Run m w N R M wc k S r c) ⟨fun _=>s',fun _=>0,fun _=>0,rfl,⟨fun n _=>hv',fun n hn=>by omega⟩⟩ (K:=w ^ m)
 have h2:Run m w N R M wc (left m w N R M wc s'+1) (fun n=>match n with | 0=>s | n+1=>S n) (fun n=>match n with | 0=>r | n+1=>rr n) (fun n=>match n with | 0=>c | n+1=>cc n):=by
  refine ⟨fun n hn=>?_,fun n hn=>?_⟩
  ·cases n with
   | zero=>exact hv
   | succ n=>exact h1.val n (by have:n+1≤left m w N R M wc s'+1:=hn;unfold left at this;omega)
  ·cases n with
   | zero =>
    show Step m w N R wc s (S 0) r c
    rw[h0];exact hs
   | succ n=>exact h1.step n (by have:n+1<left m w N R M wc s'+1:=hn;unfold left at this;omega)
 have h3:=h2.short ha hM hN hR
 exact greatest_le h3 ⟨_,_,_,rfl,h2⟩
end
end Dn
end Go.Proofs.Ytnbbackjofgcfaa

namespace Go.Proofs.Ytnbbackjofgcfaa
namespace Dn
def sq:Nat→(Nat→Rat)→Rat
 | 0,_=>0
 | n+1,f=>sq n f+f n
theorem sq_congr:∀{n:Nat} {f g:Nat→Rat},(∀i,i<n→f i=g i)→sq n f=sq n g
 | 0,_,_,_=>rfl
 | n+1,f,g,h=>by
  simp only[sq]
  rw[sq_congr (n:=n) fun i hi=>h i (by omega),h n (by omega)]
theorem sq_add:∀{n:Nat} {f g:Nat→Rat},sq n (fun i=>f i+g i)=sq n f+sq n g
 | 0,_,_=>by simp only[sq];grind
 | n+1,f,g=>by
  simp only[sq]
  rw[sq_add]
  grind
theorem sq_mul:∀{n:Nat} {c:Rat} {f:Nat→Rat},sq n (fun i=>c*f i)=c*sq n f
 | 0,c,_=>by simp[sq]
 | n+1,c,f=>by
  simp only[sq]
  rw[sq_mul]
  grind
theorem sq_zero:∀{n:Nat} {f:Nat→Rat},(∀i,i<n→f i=0)→sq n f=0
 | 0,_,_=>rfl
 | n+1,f,h=>by
  simp only[sq]
  rw[sq_zero fun i hi=>h i (by omega),h n (by omega)]
  grind
theorem sq_le:∀{n:Nat} {f g:Nat→Rat},(∀i,i<n→f i≤g i)→sq n f≤sq n g
 | 0,_,_,_=>Rat.le_refl
 | n+1,f,g,h=>by
  simp only[sq]
  have:=sq_le (n:=n) fun i hi=>h i (by omega)
  have:=h n (by omega)
  grind
theorem sq_swap:∀{m n:Nat} {f:Nat→Nat→Rat},sq m (fun i=>sq n (fun j=>f i j))=sq n (fun j=>sq m (fun i=>f i j))
 | 0,n,f=>by
  simp only[sq]
  exact (sq_zero fun _ _=>rfl).symm
 | m+1,n,f=>by
  simp only[sq]
  rw[sq_swap,sq_add]
theorem sq_cast:∀{n:Nat} {f:Nat→Int},sq n (fun i=>(f i:Rat))=((sz n f:Int):Rat)
 | 0,_=>rfl
 | n+1,f=>by
  simp only[sq,sz]
  rw[sq_cast,Rat.intCast_add]
structure Lin where
 n:Nat
 m:Nat
 A:Nat→Nat→Int
 b:Nat→Int
 c:Nat→Int
 kd:Nat→Int
def Lin.row (L:Lin) (x:Nat→Rat) (k:Nat):Rat:=sq L.n fun j=>(L.A k j:Rat)*x j
def Lin.col (L:Lin) (y:Nat→Rat) (j:Nat):Rat:=sq L.m fun k=>(L.A k j:Rat)*y k
def Lin.val (L:Lin) (x:Nat→Rat):Rat:=sq L.n fun j=>(L.c j:Rat)*x j
def Lin.rhs (L:Lin) (y:Nat→Rat):Rat:=sq L.m fun k=>(L.b k:Rat)*y k
structure Lin.Feas (L:Lin) (x:Nat→Rat):Prop where
 pos:∀j,j<L.n→0≤x j
 most:∀k,k<L.m→L.kd k≠2→L.row x k≤L.b k
 least:∀k,k<L.m→L.kd k≠1→(L.b k:Rat)≤L.row x k
structure Lin.Sgn (L:Lin) (y:Nat→Rat):Prop where
 most:∀k,k<L.m→L.kd k=1→y k≤0
 least:∀k,k<L.m→L.kd k=2→0≤y k
structure Lin.Dual (L:Lin) (y:Nat→Rat):Prop extends L.Sgn y where
 col:∀j,j<L.n→L.col y j≤L.c j
structure Lin.Ref (L:Lin) (y:Nat→Rat):Prop extends L.Sgn y where
 col:∀j,j<L.n→L.col y j≤0
 rhs:0<L.rhs y
structure Lin.Ray (L:Lin) (r:Nat→Rat):Prop where
 pos:∀j,j<L.n→0≤r j
 most:∀k,k<L.m→L.kd k≠2→L.row r k≤0
 least:∀k,k<L.m→L.kd k≠1→0≤L.row r k
 val:L.val r<0
section
variable {L:Lin}
theorem Lin.swap (x y:Nat→Rat):sq L.n (fun j=>L.col y j*x j)=sq L.m (fun k=>y k*L.row x k):=by
 have e1:sq L.n (fun j=>L.col y j*x j)=sq L.n (fun j=>sq L.m fun k=>(L.A k j:Rat)*y k*x j):=sq_congr fun j _=>by
  unfold Lin.col
  rw[←sq_mul (c:=x j) |>fun h=>(by rw[h];grind:(sq L.m fun k=>x j*((L.A k j:Rat)*y k))=sq L.m (fun k=>(L.A k j:Rat)*y k)*x j)]
  exact sq_congr fun k _=>by grind
 rw[e1,sq_swap]
 refine sq_congr fun k _=>?_
 unfold Lin.row
 rw[←sq_mul]
 exact sq_congr fun j _=>by grind
theorem rowle {y r b:Rat} (h:(y≤0∧r≤b)∨(0≤y∧b≤r)∨r=b):b*y≤y*r:=by
 rcases h with ⟨h1,h2⟩ | ⟨h1,h2⟩ | h
 ·have:0≤(-y)*(b - r):=Rat.mul_nonneg (by grind) (by grind)
  grind
 ·have:0≤y*(r - b):=Rat.mul_nonneg h1 (by grind)
  grind
 ·subst h;grind
theorem Lin.Sgn.rows {x y:Nat→Rat} (h:L.Sgn y) {b:Nat→Rat} (h1:∀k,k<L.m→L.kd k≠2→L.row x k≤b k) (h2:∀k,k<L.m→L.kd k≠1→b k≤L.row x k):sq L.m (fun k=>b k*y k)≤sq L.m (fun k=>y k*L.row x k):=sq_le fun k hk=>by
 apply rowle
 by_cases e1:L.kd k=1
 ·exact .inl ⟨h.most k hk e1,h1 k hk (by omega)⟩
 ·by_cases e2:L.kd k=2
  ·exact .inr (.inl ⟨h.least k hk e2,h2 k hk e1⟩)
  ·have a1:=h1 k hk e2
   have a2:=h2 k hk e1
   exact .inr (.inr (Rat.le_antisymm a1 a2))
theorem Lin.weak {x y:Nat→Rat} (hx:L.Feas x) (hy:L.Dual y):L.rhs y≤L.val x:=by
 have h1:=hy.rows (x:=x) (b:=fun k=>(L.b k:Rat)) hx.most hx.least
 rw[←L.swap x y] at h1
 refine Rat.le_trans h1 (sq_le fun j hj=>?_)
 exact Rat.mul_le_mul_of_nonneg_right (hy.col j hj) (hx.pos j hj)
theorem Lin.Ref.none {x y:Nat→Rat} (hy:L.Ref y) (hx:L.Feas x):False:=by
 have h1:=hy.rows (x:=x) (b:=fun k=>(L.b k:Rat)) hx.most hx.least
 rw[←L.swap x y] at h1
 have h2:sq L.n (fun j=>L.col y j*x j)≤sq L.n (fun _=>0):=sq_le fun j hj=>by
  have:0≤(-L.col y j)*x j:=Rat.mul_nonneg (by have:=hy.col j hj;grind) (hx.pos j hj)
  grind
 rw[sq_zero (f:=fun _=>0) fun _ _=>rfl] at h2
 have h3:=hy.rhs
 unfold Lin.rhs at h3
 grind
theorem Lin.Ray.none {r y:Nat→Rat} (hr:L.Ray r) (hy:L.Dual y):False:=by
 have h1:=hy.rows (x:=r) (b:=fun _=>0) hr.most hr.least
 rw[←L.swap r y,sq_zero (f:=fun k=>0*y k) fun k _=>by grind] at h1
 have h2:sq L.n (fun j=>L.col y j*r j)≤L.val r:=sq_le fun j hj=>Rat.mul_le_mul_of_nonneg_right (hy.col j hj) (hr.pos j hj)
 have h3:=hr.val
 grind
end
structure Lay where
 N:Nat
 sl:Nat→Nat
 σ:Nat→Int
def Lay.M (Y:Lay) (L:Lin) (k j:Nat):Int :=
 if j<L.n then Y.σ k*L.A k j else if j<Y.N then (if L.kd k≠3∧j=Y.sl k then Y.σ k*(if L.kd k=1 then 1 else -1) else 0) else if j<Y.N+L.m then (if j=Y.N+k then 1 else 0) else Y.σ k*L.b k
structure Lay.ok (Y:Lay) (L:Lin):Prop where
 n:L.n≤Y.N
 kd:∀k,k<L.m→L.kd k=1∨L.kd k=2∨L.kd k=3
 sl:∀k,k<L.m→L.kd k≠3→L.n≤Y.sl k∧Y.sl k<Y.N
 inj:∀k l,k<L.m→l<L.m→L.kd k≠3→L.kd l≠3→Y.sl k=Y.sl l→k=l
 sg:∀k,k<L.m→Y.σ k=1∨Y.σ k= -1
 b:∀k,k<L.m→0≤Y.σ k*L.b k
abbrev Lay.R (Y:Lay) (L:Lin):Nat:=Y.N+L.m
abbrev Lay.w (Y:Lay) (L:Lin):Nat:=Y.N+L.m+1
section
variable {L:Lin} {Y:Lay}
theorem Lay.M_x {k j:Nat} (hj:j<L.n):Y.M L k j=Y.σ k*L.A k j:=by unfold Lay.M;rw[if_pos hj]
theorem Lay.M_sl (h:Y.ok L) {k:Nat} (hk:k<L.m) (h3:L.kd k≠3):Y.M L k (Y.sl k)=Y.σ k*(if L.kd k=1 then 1 else -1):=by
 obtain ⟨h1,h2⟩:=h.sl k hk h3
 unfold Lay.M
 rw[if_neg (by omega),if_pos h2,if_pos ⟨h3,rfl⟩]
theorem Lay.M_slo {k j:Nat} (h1:L.n≤j) (h2:j<Y.N) (h:¬ (L.kd k≠3∧j=Y.sl k)):Y.M L k j=0:=by
 unfold Lay.M
 rw[if_neg (by omega),if_pos h2,if_neg h]
theorem Lay.M_a (h:Y.ok L) {k i:Nat} (hi:i<L.m):Y.M L k (Y.N+i)=if k=i then 1 else 0:=by
 have:=h.n
 unfold Lay.M
 rw[if_neg (by omega),if_neg (by omega),if_pos (by omega)]
 by_cases e:k=i
 ·rw[if_pos e,if_pos (by omega)]
 ·rw[if_neg e,if_neg (by omega)]
theorem Lay.M_R (h:Y.ok L) {k:Nat}:Y.M L k (Y.R L)=Y.σ k*L.b k:=by
 have:=h.n
 unfold Lay.M Lay.R
 rw[if_neg (by omega),if_neg (by omega),if_neg (by omega)]
theorem Lay.ss (h:Y.ok L) {k:Nat} (hk:k<L.m):Y.σ k*Y.σ k=1:=by
 rcases h.sg k hk with e | e<;>rw[e]<;>rfl
theorem Lay.ss' (h:Y.ok L) {k:Nat} (hk:k<L.m) (x:Int):Y.σ k*(Y.σ k*x)=x:=by rw[←Int.mul_assoc,Lay.ss h hk,Int.one_mul]
abbrev Lay.Val (Y:Lay) (L:Lin) (S:Sx):Prop:=Dn.Val L.m (Y.w L) Y.N (Y.R L) (Y.M L) S
theorem Lay.art (h:Y.ok L):(∀i,i<L.m→Y.N+i<Y.w L)∧∀k,k<L.m→∀i,i<L.m→Y.M L k (Y.N+i)=if k=i then 1 else 0 :=
 ⟨fun i hi=>by unfold Lay.w;omega,fun k _ i hi=>Lay.M_a h hi⟩
theorem Lay.first (h:Y.ok L):Y.Val L ⟨Y.M L,1,fun i=>Y.N+i⟩:=by
 refine ⟨Tb.first (Lay.art h).1 (Lay.art h).2,fun i hi=>?_,fun i hi=>?_⟩
 ·show 0≤Y.M L i (Y.R L)
  rw[Lay.M_R h]
  exact h.b i hi
 ·show Y.N+i≠Y.N+L.m
  omega
def xnum (m R:Nat) (S:Sx) (j:Nat):Int:=sz m fun i=>if S.β i=j then S.T i R else 0
theorem xnum_nonneg {S:Sx} (hv:Y.Val L S) (j:Nat):0≤xnum L.m (Y.R L) S j:=sz_nonneg fun i hi=>by
 split
 ·exact hv.feas i hi
 ·exact Int.le_refl _
theorem sum_basis {m n:Nat} {β:Nat→Nat} {t f:Nat→Int}:(sz m fun i=>if β i<n then t i*f (β i) else 0)=sz n fun j=>f j*sz m fun i=>if β i=j then t i else 0:=by
 have e:∀i,i<m→(if β i<n then t i*f (β i) else 0)=sz n fun j=>if β i=j then t i*f j else 0:=fun i _=>by
  by_cases h:β i<n
  ·rw[if_pos h,sz_one h fun j _ hne=>if_neg (Ne.symm hne),if_pos rfl]
  ·rw[if_neg h,sz_zero fun j hj=>if_neg (by omega)]
 rw[sz_congr e,sz_swap]
 refine sz_congr fun j _=>?_
 rw[←sz_mul]
 refine sz_congr fun i _=>?_
 split
 ·rw[Int.mul_comm]
 ·rw[Int.mul_zero]
def noArt (m N:Nat) (S:Sx) (q:Nat):Prop:=∀i,i<m→N≤S.β i→S.T i q=0
theorem row_of (h:Y.ok L) {S:Sx} (hv:Y.Val L S) {q k:Nat} (hq:q<Y.w L) (hk:k<L.m) (ha:noArt L.m Y.N S q) :
  S.d*(Y.σ k*Y.M L k q)=(sz L.n fun j=>L.A k j*sz L.m fun i=>if S.β i=j then S.T i q else 0)+(if L.kd k≠3 then (if L.kd k=1 then 1 else -1)*sz L.m (fun i=>if S.β i=Y.sl k then S.T i q else 0) else 0):=by
 have h1:=hv.tb.co k hk q hq
 have e1:∀i,i<L.m→S.T i q*Y.M L k (S.β i)=(if S.β i<L.n then S.T i q*(Y.σ k*L.A k (S.β i)) else 0)+(if L.kd k≠3 then (Y.σ k*(if L.kd k=1 then 1 else -1))*(if S.β i=Y.sl k then S.T i q else 0) else 0):=fun i hi=>by
  by_cases c1:S.β i<L.n
  ·rw[if_pos c1,Lay.M_x c1]
   by_cases c2:L.kd k≠3
   ·rw[if_pos c2,if_neg (show ¬ S.β i=Y.sl k by have:=(h.sl k hk c2).1;omega)];omega
   ·rw[if_neg c2];omega
  ·rw[if_neg c1]
   by_cases c3:S.β i<Y.N
   ·by_cases c4:L.kd k≠3∧S.β i=Y.sl k
    ·rw[c4.2,Lay.M_sl h hk c4.1,if_pos c4.1,if_pos rfl,Int.mul_comm];omega
    ·rw[Lay.M_slo (by omega) c3 c4]
     by_cases c2:L.kd k≠3
     ·rw[if_pos c2,if_neg (show ¬ S.β i=Y.sl k from fun e=>c4 ⟨c2,e⟩)];omega
     ·rw[if_neg c2];omega
   ·rw[ha i hi (by omega)]
    by_cases c2:L.kd k≠3
    ·rw[if_pos c2,if_neg (show ¬ S.β i=Y.sl k by have:=(h.sl k hk c2).2;omega)];omega
    ·rw[if_neg c2];omega
 rw[sz_congr e1,sz_add,sum_basis (f:=fun j=>Y.σ k*L.A k j)] at h1
 have e2:(sz L.m fun i=>if L.kd k≠3 then (Y.σ k*(if L.kd k=1 then 1 else -1))*(if S.β i=Y.sl k then S.T i q else 0) else 0)=Y.σ k*(if L.kd k≠3 then (if L.kd k=1 then 1 else -1)*sz L.m (fun i=>if S.β i=Y.sl k then S.T i q else 0) else 0):=by
  by_cases c2:L.kd k≠3
  ·simp only[c2,not_false_eq_true,if_true,ne_eq]
   rw[sz_mul,Int.mul_assoc]
  ·have c2:L.kd k=3:=by omega
   simp only[c2,ne_eq,not_true_eq_false,if_false]
   rw[sz_zero fun _ _=>rfl,Int.mul_zero]
 have e3:(sz L.n fun j=>Y.σ k*L.A k j*sz L.m fun i=>if S.β i=j then S.T i q else 0)=Y.σ k*sz L.n fun j=>L.A k j*sz L.m fun i=>if S.β i=j then S.T i q else 0:=by
  rw[←sz_mul]
  exact sz_congr fun j _=>by rw[Int.mul_assoc]
 rw[e2,e3,←Int.mul_add] at h1
 have h2:=Lay.ss h hk
 have:S.d*(Y.σ k*Y.M L k q)=Y.σ k*(S.d*Y.M L k q):=by grind
 rw[this,h1,←Int.mul_assoc,h2,Int.one_mul]
theorem le_div {x y d:Int} (hd:0<d) (h:x≤y*d):(x:Rat) / (d:Rat)≤(y:Rat):=by
 have hd':(0:Rat)<(d:Rat):=by have:=Rat.intCast_lt_intCast.2 hd;simpa using this
 have h':(x:Rat)≤(y:Rat)*(d:Rat):=by rw[←Rat.intCast_mul];exact Rat.intCast_le_intCast.2 h
 refine Rat.le_of_mul_le_mul_right ?_ hd'
 have:(x:Rat) / (d:Rat)*(d:Rat)=(x:Rat):=by grind
 rw[this]
 exact h'
theorem div_le {x y d:Int} (hd:0<d) (h:y*d≤x):(y:Rat)≤(x:Rat) / (d:Rat):=by
 have hd':(0:Rat)<(d:Rat):=by have:=Rat.intCast_lt_intCast.2 hd;simpa using this
 have h':(y:Rat)*(d:Rat)≤(x:Rat):=by rw[←Rat.intCast_mul];exact Rat.intCast_le_intCast.2 h
 refine Rat.le_of_mul_le_mul_right ?_ hd'
 have:(x:Rat) / (d:Rat)*(d:Rat)=(x:Rat):=by grind
 rw[this]
 exact h'
theorem pos_div {x d:Rat} (hx:0<x) (hd:0<d):0<x / d:=by
 have e:x / d*d=x:=by grind
 refine Rat.not_le.1 fun h=>?_
 have h1:=Rat.mul_le_mul_of_nonneg_right h (Rat.le_of_lt hd)
 rw[e,Rat.zero_mul] at h1
 exact Rat.not_le.2 hx h1
theorem sum_div {n:Nat} {a X:Nat→Int} {d:Int} (hd:0<d):sq n (fun j=>(a j:Rat)*((X j:Rat) / (d:Rat)))=((sz n fun j=>a j*X j:Int):Rat) / (d:Rat):=by
 have hd':(0:Rat)<(d:Rat):=by have:=Rat.intCast_lt_intCast.2 hd;simpa using this
 have e:sq n (fun j=>(a j:Rat)*((X j:Rat) / (d:Rat)))=sq n (fun j=>(1 / (d:Rat))*((a j*X j:Int):Rat)):=sq_congr fun j _=>by
  rw[Rat.intCast_mul]
  grind
 rw[e,sq_mul,sq_cast]
 grind
def xval (m R:Nat) (S:Sx) (j:Nat):Rat:=(xnum m R S j:Rat) / (S.d:Rat)
theorem table_feas (h:Y.ok L) {S:Sx} (hv:Y.Val L S) (ha:noArt L.m Y.N S (Y.R L)):L.Feas (xval L.m (Y.R L) S):=by
 have hd:=hv.tb.dpos
 have row:∀k,k<L.m→S.d*L.b k=(sz L.n fun j=>L.A k j*xnum L.m (Y.R L) S j)+(if L.kd k≠3 then (if L.kd k=1 then 1 else -1)*xnum L.m (Y.R L) S (Y.sl k) else 0):=fun k hk=>by
  have h1:=row_of h hv (q:=Y.R L) (by unfold Lay.R Lay.w;omega) hk ha
  rw[Lay.M_R h,Lay.ss' h hk] at h1
  exact h1
 have rowq:∀k,L.row (xval L.m (Y.R L) S) k=((sz L.n fun j=>L.A k j*xnum L.m (Y.R L) S j:Int):Rat) / (S.d:Rat):=fun k=>sum_div hd
 refine ⟨fun j _=>?_,fun k hk h2=>?_,fun k hk h1=>?_⟩
 ·have:=div_le (x:=xnum L.m (Y.R L) S j) (y:=0) hd (by rw[Int.zero_mul];exact xnum_nonneg hv j)
  simpa [xval] using this
 ·rw[rowq]
  have h3:=row k hk
  have h4:=xnum_nonneg hv (Y.sl k)
  refine le_div hd ?_
  rw[Int.mul_comm,h3]
  rcases h.kd k hk with e | e | e
  ·simp[e];omega
  ·exact (h2 e).elim
  ·simp[e]
 ·rw[rowq]
  have h3:=row k hk
  have h4:=xnum_nonneg hv (Y.sl k)
  refine div_le hd ?_
  rw[Int.mul_comm,h3]
  rcases h.kd k hk with e | e | e
  ·exact (h1 e).elim
  ·simp[e];omega
  ·simp[e]
def ynum (m N:Nat) (wc:Nat→Int) (S:Sx) (σ:Nat→Int) (k:Nat):Int:=σ k*sz m fun i=>wc (S.β i)*S.T i (N+k)
def yval (m N:Nat) (wc:Nat→Int) (S:Sx) (σ:Nat→Int) (k:Nat):Rat:=(ynum m N wc S σ k:Rat) / (S.d:Rat)
theorem z_col (h:Y.ok L) {S:Sx} (hv:Y.Val L S) {wc:Nat→Int} {j:Nat} (hj:j<L.n):zr L.m wc S j=wc j*S.d - sz L.m fun k=>L.A k j*ynum L.m Y.N wc S Y.σ k:=by
 have hw:j<Y.w L:=by have:=h.n;unfold Lay.w;omega
 rw[zr_rows hv.tb (Lay.art h).1 (Lay.art h).2 hw]
 congr 1
 refine sz_congr fun k hk=>?_
 rw[Lay.M_x hj]
 unfold ynum
 grind
theorem z_slack (h:Y.ok L) {S:Sx} (hv:Y.Val L S) {wc:Nat→Int} {k:Nat} (hk:k<L.m) (h3:L.kd k≠3):zr L.m wc S (Y.sl k)=wc (Y.sl k)*S.d - (if L.kd k=1 then 1 else -1)*ynum L.m Y.N wc S Y.σ k:=by
 obtain ⟨h1,h2⟩:=h.sl k hk h3
 rw[zr_rows hv.tb (Lay.art h).1 (Lay.art h).2 (by unfold Lay.w;omega)]
 congr 1
 rw[sz_one hk fun l hl hne=>by rw[Lay.M_slo h1 h2 fun e=>hne (h.inj l k hl hk e.1 h3 e.2.symm),Int.mul_zero],Lay.M_sl h hk h3]
 unfold ynum
 grind
theorem z_right (h:Y.ok L) {S:Sx} (hv:Y.Val L S) {wc:Nat→Int}:zr L.m wc S (Y.R L)=wc (Y.R L)*S.d - sz L.m fun k=>L.b k*ynum L.m Y.N wc S Y.σ k:=by
 rw[zr_rows hv.tb (Lay.art h).1 (Lay.art h).2 (by unfold Lay.R Lay.w;omega)]
 congr 1
 refine sz_congr fun k hk=>?_
 rw[Lay.M_R h]
 unfold ynum
 grind
theorem table_sgn (h:Y.ok L) {S:Sx} (hv:Y.Val L S) {wc:Nat→Int} (hw:∀j,L.n≤j→j<Y.N→wc j=0) (hz:∀j,j<Y.N→0≤zr L.m wc S j):L.Sgn (yval L.m Y.N wc S Y.σ):=by
 have hd:=hv.tb.dpos
 refine ⟨fun k hk e=>?_,fun k hk e=>?_⟩
 ·obtain ⟨h1,h2⟩:=h.sl k hk (by omega)
  have h3:=z_slack h hv (wc:=wc) hk (by omega)
  have h4:=hz _ h2
  rw[h3,hw _ h1 h2,if_pos e] at h4
  have:=le_div (x:=ynum L.m Y.N wc S Y.σ k) (y:=0) hd (by omega)
  simpa [yval] using this
 ·obtain ⟨h1,h2⟩:=h.sl k hk (by omega)
  have h3:=z_slack h hv (wc:=wc) hk (by omega)
  have h4:=hz _ h2
  rw[h3,hw _ h1 h2,if_neg (by omega)] at h4
  have:=div_le (x:=ynum L.m Y.N wc S Y.σ k) (y:=0) hd (by omega)
  simpa [yval] using this
def costs (L:Lin) (j:Nat):Int:=if j<L.n then L.c j else 0
theorem table_dual (h:Y.ok L) {S:Sx} (hv:Y.Val L S) (hz:∀j,j<Y.N→0≤zr L.m (costs L) S j):L.Dual (yval L.m Y.N (costs L) S Y.σ):=by
 have hd:=hv.tb.dpos
 refine ⟨table_sgn h hv (fun j h1 _=>if_neg (by omega)) hz,fun j hj=>?_⟩
 have h1:=hz j (by have:=h.n;omega)
 rw[z_col h hv hj] at h1
 have e:L.col (yval L.m Y.N (costs L) S Y.σ) j=((sz L.m fun k=>L.A k j*ynum L.m Y.N (costs L) S Y.σ k:Int):Rat) / (S.d:Rat):=sum_div hd
 rw[e]
 have e2:costs L j=L.c j:=if_pos hj
 rw[e2] at h1
 exact le_div hd (by omega)
theorem table_value (h:Y.ok L) {S:Sx} (hv:Y.Val L S):L.val (xval L.m (Y.R L) S)=((sz L.m fun i=>costs L (S.β i)*S.T i (Y.R L):Int):Rat) / (S.d:Rat)∧L.rhs (yval L.m Y.N (costs L) S Y.σ)=((sz L.m fun i=>costs L (S.β i)*S.T i (Y.R L):Int):Rat) / (S.d:Rat):=by
 have hd:=hv.tb.dpos
 constructor
 ·have e:L.val (xval L.m (Y.R L) S)=((sz L.n fun j=>L.c j*xnum L.m (Y.R L) S j:Int):Rat) / (S.d:Rat):=sum_div hd
  rw[e]
  congr 2
  rw[show (sz L.n fun j=>L.c j*xnum L.m (Y.R L) S j)=sz L.n fun j=>L.c j*sz L.m fun i=>if S.β i=j then S.T i (Y.R L) else 0 from rfl,←sum_basis (f:=L.c)]
  refine sz_congr fun i _=>?_
  unfold costs
  split
  ·rw[Int.mul_comm]
  ·rw[Int.zero_mul]
 ·have e:L.rhs (yval L.m Y.N (costs L) S Y.σ)=((sz L.m fun k=>L.b k*ynum L.m Y.N (costs L) S Y.σ k:Int):Rat) / (S.d:Rat):=sum_div hd
  rw[e]
  congr 2
  have h1:=z_right h hv (wc:=costs L)
  have e0:costs L (Y.R L)=0:=if_neg (by have:=h.n;unfold Lay.R;omega)
  unfold zr at h1
  rw[e0] at h1
  omega
def arts (N:Nat) (j:Nat):Int:=if N≤j then 1 else 0
theorem table_ref (h:Y.ok L) {S:Sx} (hv:Y.Val L S) (hz:∀j,j<Y.N→0≤zr L.m (arts Y.N) S j) (hp:0<sz L.m fun i=>arts Y.N (S.β i)*S.T i (Y.R L)):L.Ref (yval L.m Y.N (arts Y.N) S Y.σ):=by
 have hd:=hv.tb.dpos
 refine ⟨table_sgn h hv (fun j _ h2=>if_neg (by omega)) hz,fun j hj=>?_,?_⟩
 ·have h1:=hz j (by have:=h.n;omega)
  rw[z_col h hv hj] at h1
  have e:L.col (yval L.m Y.N (arts Y.N) S Y.σ) j=((sz L.m fun k=>L.A k j*ynum L.m Y.N (arts Y.N) S Y.σ k:Int):Rat) / (S.d:Rat):=sum_div hd
  have e2:arts Y.N j=0:=if_neg (by have:=h.n;omega)
  rw[e2] at h1
  have:=le_div (x:=sz L.m fun k=>L.A k j*ynum L.m Y.N (arts Y.N) S Y.σ k) (y:=0) hd (by omega)
  rw[e]
  simpa using this
 ·have e:L.rhs (yval L.m Y.N (arts Y.N) S Y.σ)=((sz L.m fun k=>L.b k*ynum L.m Y.N (arts Y.N) S Y.σ k:Int):Rat) / (S.d:Rat):=sum_div hd
  have h1:=z_right h hv (wc:=arts Y.N)
  unfold zr at h1
  have h2:0<sz L.m fun k=>L.b k*ynum L.m Y.N (arts Y.N) S Y.σ k:=by omega
  rw[e]
  have hd':(0:Rat)<(S.d:Rat):=by have:=Rat.intCast_lt_intCast.2 hd;simpa using this
  have h2':(0:Rat)<((sz L.m fun k=>L.b k*ynum L.m Y.N (arts Y.N) S Y.σ k:Int):Rat):=by have:=Rat.intCast_lt_intCast.2 h2;simpa using this
  exact pos_div h2' hd'
def rnum (m:Nat) (S:Sx) (q j:Nat):Int:=(if j=q then S.d else 0) - sz m fun i=>if S.β i=j then S.T i q else 0
theorem table_ray (h:Y.ok L) {S:Sx} (hv:Y.Val L S) {q:Nat} (hq:q<Y.N) (ha:noArt L.m Y.N S q) (hz:zr L.m (costs L) S q<0) (hno:∀i,i<L.m→S.T i q≤0):L.Ray (fun j=>(rnum L.m S q j:Rat)):=by
 have hd:=hv.tb.dpos
 have hqw:q<Y.w L:=by unfold Lay.w;omega
 have pos:∀j,0≤rnum L.m S q j:=fun j=>by
  unfold rnum
  have h1:(sz L.m fun i=>if S.β i=j then S.T i q else 0)≤sz L.m fun _=>0:=sz_le fun i hi=>by
   split
   ·exact hno i hi
   ·exact Int.le_refl _
  rw[sz_zero (f:=fun _=>0) fun _ _=>rfl] at h1
  split<;>omega
 have row:∀k,k<L.m→(sz L.n fun j=>L.A k j*rnum L.m S q j)=(if L.kd k≠3 then -(if L.kd k=1 then 1 else -1)*rnum L.m S q (Y.sl k) else 0):=fun k hk=>by
  have h1:=row_of h hv hqw hk ha
  have e1:(sz L.n fun j=>L.A k j*rnum L.m S q j)=(if q<L.n then L.A k q*S.d else 0) - sz L.n fun j=>L.A k j*sz L.m fun i=>if S.β i=j then S.T i q else 0:=by
   have e0:(if q<L.n then L.A k q*S.d else 0)=sz L.n fun j=>if j=q then L.A k q*S.d else 0:=by
    by_cases e:q<L.n
    ·rw[if_pos e,sz_one e fun j _ hne=>if_neg hne,if_pos rfl]
    ·rw[if_neg e,sz_zero fun j hj=>if_neg (by omega)]
   rw[e0,←sz_sub]
   refine sz_congr fun j _=>?_
   unfold rnum
   by_cases e:j=q
   ·subst e;rw[if_pos rfl,if_pos rfl];grind
   ·rw[if_neg e,if_neg e];grind
  rw[e1]
  by_cases c1:q<L.n
  ·rw[if_pos c1]
   rw[Lay.M_x c1,Lay.ss' h hk] at h1
   by_cases c2:L.kd k≠3
   ·rw[if_pos c2] at h1 ⊢
    unfold rnum
    rw[if_neg (show ¬ Y.sl k=q by have:=(h.sl k hk c2).1;omega)]
    grind
   ·rw[if_neg c2] at h1 ⊢
    grind
  ·rw[if_neg c1]
   by_cases c2:L.kd k≠3
   ·rw[if_pos c2] at h1 ⊢
    unfold rnum
    by_cases c3:Y.sl k=q
    ·rw[if_pos c3]
     rw[←c3] at h1 ⊢
     rw[Lay.M_sl h hk c2,Lay.ss' h hk] at h1
     rcases h.kd k hk with e | e | e
     ·simp[e] at h1 ⊢;omega
     ·simp[e] at h1 ⊢;omega
     ·exact (c2 e).elim
    ·rw[if_neg c3]
     rw[Lay.M_slo (by omega) hq fun e=>c3 e.2.symm] at h1
     rcases h.kd k hk with e | e | e
     ·simp[e] at h1 ⊢;omega
     ·simp[e] at h1 ⊢;omega
     ·exact (c2 e).elim
   ·rw[if_neg c2] at h1 ⊢
    rw[Lay.M_slo (by omega) hq fun e=>c2 e.1] at h1
    omega
 have cast:∀a:Nat→Int,sq L.n (fun j=>(a j:Rat)*(rnum L.m S q j:Rat))=((sz L.n fun j=>a j*rnum L.m S q j:Int):Rat):=fun a=>by
  rw[←sq_cast]
  exact sq_congr fun j _=>by rw[Rat.intCast_mul]
 refine ⟨fun j _=>by have:=Rat.intCast_le_intCast.2 (pos j);simpa using this,fun k hk h2=>?_,fun k hk h1=>?_,?_⟩
 ·have e:L.row (fun j=>(rnum L.m S q j:Rat)) k=((sz L.n fun j=>L.A k j*rnum L.m S q j:Int):Rat):=cast _
  rw[e,row k hk]
  have h4:=pos (Y.sl k)
  have h5:(if L.kd k≠3 then -(if L.kd k=1 then 1 else -1)*rnum L.m S q (Y.sl k) else 0)≤0:=by
   rcases h.kd k hk with e | e | e
   ·simp[e];omega
   ·exact (h2 e).elim
   ·simp[e]
  have:=Rat.intCast_le_intCast.2 h5
  simpa using this
 ·have e:L.row (fun j=>(rnum L.m S q j:Rat)) k=((sz L.n fun j=>L.A k j*rnum L.m S q j:Int):Rat):=cast _
  rw[e,row k hk]
  have h4:=pos (Y.sl k)
  have h5:0≤(if L.kd k≠3 then -(if L.kd k=1 then 1 else -1)*rnum L.m S q (Y.sl k) else 0):=by
   rcases h.kd k hk with e | e | e
   ·exact (h1 e).elim
   ·simp[e];omega
   ·simp[e]
  have:=Rat.intCast_le_intCast.2 h5
  simpa using this
 ·have e:L.val (fun j=>(rnum L.m S q j:Rat))=((sz L.n fun j=>L.c j*rnum L.m S q j:Int):Rat):=cast _
  rw[e]
  have e2:(sz L.n fun j=>L.c j*rnum L.m S q j)=zr L.m (costs L) S q:=by
   unfold zr
   have e3:(sz L.m fun i=>costs L (S.β i)*S.T i q)=sz L.n fun j=>L.c j*sz L.m fun i=>if S.β i=j then S.T i q else 0:=by
    rw[←sum_basis (f:=L.c)]
    refine sz_congr fun i _=>?_
    unfold costs
    split
    ·rw[Int.mul_comm]
    ·rw[Int.zero_mul]
   rw[e3]
   have e4:costs L q*S.d=sz L.n fun j=>if j=q then L.c j*S.d else 0:=by
    unfold costs
    by_cases c:q<L.n
    ·rw[if_pos c,sz_one c fun j _ hne=>if_neg hne,if_pos rfl]
    ·rw[if_neg c,sz_zero fun j hj=>if_neg (by omega),Int.zero_mul]
   rw[e4,←sz_sub]
   refine sz_congr fun j _=>?_
   unfold rnum
   by_cases c:j=q
   ·rw[if_pos c,if_pos c];grind
   ·rw[if_neg c,if_neg c];grind
  rw[e2]
  have:=Rat.intCast_lt_intCast.2 hz
  simpa using this
end
end Dn
end Go.Proofs.Ytnbbackjofgcfaa

namespace Go.Proofs.Ytnbbackjofgcfaa
namespace Dn
theorem sz_split {a b:Nat} {f:Nat→Int}:sz (a+b) f=sz a f+sz b fun i=>f (a+i):=by
 induction b with
 | zero=>simp[sz]
 | succ b ih =>
  rw[show a+(b+1)=a+b+1 by omega,sz,sz,ih]
  omega
theorem sz_inj {m w:Nat} {γ:Nat→Nat} {f:Nat→Int} (hlt:∀p,p<m→γ p<w) (hinj:∀p q,p<m→q<m→γ p=γ q→p=q) (hf:∀j,j<w→0≤f j):(sz m fun p=>f (γ p))≤sz w f:=by
 have e:(sz m fun p=>f (γ p))=sz w fun j=>f j*sz m fun p=>if γ p=j then 1 else 0:=by
  rw[sz_congr (g:=fun p=>sz w fun j=>if γ p=j then f j else 0) fun p hp=>by
   rw[sz_one (hlt p hp) fun j _ hne=>if_neg (Ne.symm hne),if_pos rfl],sz_swap]
  refine sz_congr fun j _=>?_
  rw[←sz_mul]
  refine sz_congr fun p _=>?_
  split<;>omega
 rw[e]
 refine sz_le fun j hj=>?_
 have hc:(sz m fun p=>if γ p=j then (1:Int) else 0)≤1:=by
  by_cases h:∃p,p<m∧γ p=j
  ·obtain ⟨p,hp,rfl⟩:=h
   rw[sz_one hp fun q hq hne=>if_neg fun e'=>hne (hinj q p hq hp e'),if_pos rfl]
   exact Int.le_refl _
  ·rw[sz_zero fun p hp=>if_neg fun e'=>h ⟨p,hp,e'⟩]
   omega
 have:=Int.mul_le_mul_of_nonneg_left hc (hf j hj)
 omega
def Lin.F (L:Lin) (k:Nat):Int:=1+ab (L.b k)+sz L.n fun j=>ab (L.A k j)
def Lin.F0 (L:Lin):Int:=1+sz L.n fun j=>ab (L.c j)
theorem Lin.F_pos (L:Lin) (k:Nat):1≤L.F k:=by
 have h1:=ab_nonneg (L.b k)
 have h2:0≤sz L.n fun j=>ab (L.A k j):=sz_nonneg fun j _=>ab_nonneg _
 unfold Lin.F
 omega
theorem Lin.F0_pos (L:Lin):1≤L.F0:=by
 have h2:0≤sz L.n fun j=>ab (L.c j):=sz_nonneg fun j _=>ab_nonneg _
 unfold Lin.F0
 omega
def Lin.P (L:Lin):Int:=pz L.m L.F
theorem pz_pos:∀{n:Nat} {f:Nat→Int},(∀i,i<n→1≤f i)→1≤pz n f
 | 0,_,_=>by simp[pz]
 | n+1,f,h=>by
  simp only[pz]
  have h1:=h 0 (by omega)
  have h2:=pz_pos (n:=n) (f:=fun i=>f (i+1)) fun i hi=>h (i+1) (by omega)
  have:=Int.mul_le_mul h1 h2 (by omega) (by omega)
  omega
theorem Lin.P_pos (L:Lin):1≤L.P:=pz_pos fun k _=>L.F_pos k
section
variable {L:Lin} {Y:Lay}
theorem ab_sg (h:Y.ok L) {k:Nat} (hk:k<L.m) (x:Int):ab (Y.σ k*x)=ab x:=by
 rw[ab_mul]
 rcases h.sg k hk with e | e<;>rw[e]<;>simp[ab]
theorem row_all (h:Y.ok L) {k:Nat} (hk:k<L.m) {f:Nat→Int} (h1:∀j,j<L.n→f j=ab (Y.M L k j)) (hR:f (Y.R L)=ab (Y.M L k (Y.R L)))
  (h2:((∀j,L.n≤j→j<Y.N→f j=0)∧∀i,i<L.m→f (Y.N+i)=if i=k then 1 else 0)∨(L.kd k≠3∧(∀j,L.n≤j→j<Y.N→f j=if j=Y.sl k then 1 else 0)∧∀i,i<L.m→f (Y.N+i)=0)) :
  sz (Y.w L) f=L.F k:=by
 have hn:=h.n
 have e:Y.w L=(L.n+(Y.N - L.n))+L.m+1:=by unfold Lay.w;omega
 rw[e,sz,sz_split,sz_split,show L.n+(Y.N - L.n)+L.m=Y.R L by unfold Lay.R;omega,hR,Lay.M_R h,ab_sg h hk]
 have e1:sz L.n f=sz L.n fun j=>ab (L.A k j):=sz_congr fun j hj=>by rw[h1 j hj,Lay.M_x hj,ab_sg h hk]
 rw[e1,show L.n+(Y.N - L.n)=Y.N by omega]
 unfold Lin.F
 rcases h2 with ⟨h3,h4⟩ | ⟨h3,h4,h5⟩
 ·rw[sz_zero fun i hi=>h3 (L.n+i) (by omega) (by omega),sz_one hk fun i hi hne=>by rw[h4 i hi,if_neg hne],h4 k hk,if_pos rfl]
  omega
 ·obtain ⟨h6,h7⟩:=h.sl k hk h3
  have a1:(sz (Y.N - L.n) fun i=>f (L.n+i))=1:=by
   rw[sz_one (k:=Y.sl k - L.n) (by omega) fun i hi hne=>by rw[h4 _ (by omega) (by omega),if_neg (by omega)],h4 _ (by omega) (by omega),if_pos (by omega)]
  have a2:(sz L.m fun i=>f (Y.N+i))=0:=sz_zero fun i hi=>h5 i hi
  rw[a1,a2]
  omega
theorem dc_rows (h:Y.ok L) {γ:Nat→Nat} (hlt:∀p,p<L.m→γ p<Y.w L):dc L.m (Y.M L) γ=0∨∀k,k<L.m→(sz L.m fun p=>ab (Y.M L k (γ p)))≤L.F k:=by
 have zero:dc L.m (Y.M L) γ=0→dc L.m (Y.M L) γ=0∨∀k,k<L.m→(sz L.m fun p=>ab (Y.M L k (γ p)))≤L.F k:=fun e=>.inl e
 by_cases hinj:∀p q,p<L.m→q<L.m→γ p=γ q→p=q
 ·by_cases hboth:∃k p q,k<L.m∧L.kd k≠3∧p<L.m∧q<L.m∧γ p=Y.sl k∧γ q=Y.N+k
  ·obtain ⟨k,p,q,hk,h3,hp,hq,e1,e2⟩:=hboth
   obtain ⟨h4,h5⟩:=h.sl k hk h3
   have hpq:p≠q:=fun e=>by rw[e,e2] at e1;omega
   apply zero
   unfold dc
   have e3:det L.m (colsOf (Y.M L) γ)=det L.m (setC (colsOf (Y.M L) γ) p fun l=>(Y.σ k*(if L.kd k=1 then 1 else -1))*Y.M L l (Y.N+k)):=by
    refine det_congr fun l j hl hj=>?_
    unfold setC
    split
    ·rename_i e
     rw[e]
     show Y.M L l (γ p)=(Y.σ k*(if L.kd k=1 then 1 else -1))*Y.M L l (Y.N+k)
     rw[e1,Lay.M_a h hk]
     by_cases el:l=k
     ·subst el
      rw[Lay.M_sl h hl h3,if_pos rfl,Int.mul_one]
     ·rw[if_neg el,Int.mul_zero,Lay.M_slo h4 h5 fun e'=>el (h.inj l k hl hk e'.1 h3 e'.2.symm)]
    ·rfl
   rw[e3,det_smul hp,det_alt hp hq hpq fun l _=>by
    unfold setC
    rw[if_pos rfl,if_neg (Ne.symm hpq)]
    show Y.M L l (Y.N+k)=Y.M L l (γ q)
    rw[e2],Int.mul_zero]
  ·refine .inr fun k hk=>?_
   by_cases hs:L.kd k≠3∧∃p,p<L.m∧γ p=Y.sl k
   ·obtain ⟨h3,p,hp,e1⟩:=hs
    obtain ⟨h4,h5⟩:=h.sl k hk h3
    have e:(sz L.m fun p=>ab (Y.M L k (γ p)))=sz L.m fun p=>(fun j=>if Y.N≤j∧j<Y.N+L.m then 0 else ab (Y.M L k j)) (γ p):=sz_congr fun q hq=>by
     show _=if Y.N≤γ q∧γ q<Y.N+L.m then 0 else ab (Y.M L k (γ q))
     split
     ·rename_i hr
      obtain ⟨i,hi⟩:∃i,γ q=Y.N+i:=⟨γ q - Y.N,by omega⟩
      rw[hi,Lay.M_a h (by omega),if_neg fun e'=>hboth ⟨k,p,q,hk,h3,hp,hq,e1,by rw[hi,e']⟩]
      rfl
     ·rfl
    rw[e]
    refine Int.le_trans (sz_inj (f:=fun j=>if Y.N≤j∧j<Y.N+L.m then 0 else ab (Y.M L k j)) hlt hinj fun j _=>?_) (Int.le_of_eq (row_all h hk (fun j hj=>?_) ?_ (.inr ⟨h3,fun j h6 h7=>?_,fun i hi=>?_⟩)))
    ·split
     ·exact Int.le_refl _
     ·exact ab_nonneg _
    ·have:=h.n
     rw[if_neg (by omega)]
    ·rw[if_neg (by unfold Lay.R;omega)]
    ·rw[if_neg (by omega)]
     by_cases ej:j=Y.sl k
     ·subst ej
      rw[Lay.M_sl h hk h3,ab_sg h hk,if_pos rfl]
      split<;>rfl
     ·rw[if_neg ej,Lay.M_slo h6 h7 fun e'=>ej e'.2]
      rfl
    ·rw[if_pos (by omega)]
   ·have e:(sz L.m fun p=>ab (Y.M L k (γ p)))=sz L.m fun p=>(fun j=>if L.n≤j∧j<Y.N then 0 else ab (Y.M L k j)) (γ p):=sz_congr fun q hq=>by
     show _=if L.n≤γ q∧γ q<Y.N then 0 else ab (Y.M L k (γ q))
     split
     ·rename_i hr
      rw[Lay.M_slo hr.1 hr.2 fun e'=>hs ⟨e'.1,q,hq,e'.2⟩]
      rfl
     ·rfl
    rw[e]
    refine Int.le_trans (sz_inj (f:=fun j=>if L.n≤j∧j<Y.N then 0 else ab (Y.M L k j)) hlt hinj fun j _=>?_) (Int.le_of_eq (row_all h hk (fun j hj=>?_) ?_ (.inl ⟨fun j h6 h7=>?_,fun i hi=>?_⟩)))
    ·split
     ·exact Int.le_refl _
     ·exact ab_nonneg _
    ·rw[if_neg (by omega)]
    ·rw[if_neg (by unfold Lay.R;omega)]
    ·rw[if_pos ⟨h6,h7⟩]
    ·rw[if_neg (by omega),Lay.M_a h hi]
     by_cases ei:k=i
     ·rw[if_pos ei,if_pos ei.symm];rfl
     ·rw[if_neg ei,if_neg (Ne.symm ei)];rfl
 ·have:∃p q,p<L.m∧q<L.m∧γ p=γ q∧p≠q:=by
   apply Classical.byContradiction
   intro hno
   refine hinj fun p q hp hq e=>?_
   apply Classical.byContradiction
   intro hne
   exact hno ⟨p,q,hp,hq,e,hne⟩
  obtain ⟨p,q,hp,hq,e,hne⟩:=this
  apply zero
  refine det_alt hp hq hne fun l _=>?_
  show Y.M L l (γ p)=Y.M L l (γ q)
  rw[e]
theorem dc_bound (h:Y.ok L) {γ:Nat→Nat} (hlt:∀p,p<L.m→γ p<Y.w L):ab (dc L.m (Y.M L) γ)≤L.P:=by
 rcases dc_rows h hlt with e | e
 ·have hP:=L.P_pos
  rw[e]
  simp[ab]
  omega
 ·exact Int.le_trans det_bound (pz_le fun k hk=>⟨sz_nonneg fun _ _=>ab_nonneg _,e k hk⟩)
theorem upd_lt {m w:Nat} {β:Nat→Nat} {r c:Nat} (h:∀p,p<m→β p<w) (hc:c<w):∀p,p<m→upd β r c p<w:=fun p hp=>by
 unfold upd
 split
 ·exact hc
 ·exact h p hp
theorem table_bound (h:Y.ok L) {T:Nat→Nat→Int} {d:Int} {β:Nat→Nat} (ht:Tb L.m (Y.w L) (Y.M L) T d β):d≤L.P∧∀i j,i<L.m→j<Y.w L→ab (T i j)≤L.P:=by
 refine ⟨?_,fun i j hi hj=>by rw[ht.bound hi hj];exact dc_bound h (upd_lt ht.lt hj)⟩
 obtain ⟨σ,h1,h2,_⟩:=ht.cr
 have h3:=dc_bound h ht.lt
 have h4:ab d=ab (dc L.m (Y.M L) β):=by
  have h5:ab σ=1:=by
   have h6:ab σ*ab σ=1:=by rw[←ab_mul,h1];rfl
   have h7:=ab_nonneg σ
   have h8:ab σ≤1:=by
    apply Int.not_lt.1
    intro h9
    have:2*2≤ab σ*ab σ:=Int.mul_le_mul (by omega) (by omega) (by omega) h7
    omega
   have:ab σ≠0:=fun e=>by rw[e] at h6;simp at h6
   omega
  have h6:ab (σ*dc L.m (Y.M L) β)=ab d:=by rw[←h2]
  rw[ab_mul,h5,Int.one_mul] at h6
  exact h6.symm
 rw[←h4] at h3
 exact (ab_le.1 h3).2
end
end Dn
end Go.Proofs.Ytnbbackjofgcfaa

namespace Go.Proofs.Ytnbbackjofgcfaa
namespace Dn
theorem det_unit {n:Nat} {A:Nat→Nat→Int} {i k:Nat} (hi:i<n) (hA:∀r,r<n→A r i=if r=k then 1 else 0):∀t,t≤n→det n A=det n (fun r c=>if r=k∧c≠i∧c<t then 0 else A r c)
 | 0,_=>det_congr fun r c _ _=>by rw[if_neg (by omega)]
 | t+1,ht=>by
  rw[det_unit hi hA t (by omega)]
  obtain ⟨B,hB⟩:∃B:Nat→Nat→Int,B=fun r c=>if r=k∧c≠i∧c<t then 0 else A r c:=⟨_,rfl⟩
  rw[←hB]
  by_cases e:t=i
  ·refine det_congr fun r c _ _=>?_
   rw[hB]
   by_cases c1:r=k∧c≠i∧c<t
   ·simp only
    rw[if_pos c1,if_pos ⟨c1.1,c1.2.1,by omega⟩]
   ·simp only
    rw[if_neg c1,if_neg (by omega)]
  ·have e1:det n B=det n (setC B t fun r=>(if r=k then 0 else A r t)+(A k t*if r=k then 1 else 0)):=by
    refine det_congr fun r c _ _=>?_
    unfold setC
    by_cases c1:c=t
    ·rw[if_pos c1,hB,c1]
     simp only
     rw[if_neg (by omega)]
     by_cases c2:r=k
     ·rw[if_pos c2,if_pos c2,c2];omega
     ·rw[if_neg c2,if_neg c2];omega
    ·rw[if_neg c1]
   rw[e1,det_add (u:=fun r=>if r=k then 0 else A r t) (v:=fun r=>A k t*if r=k then 1 else 0) (by omega),det_smul (u:=fun r=>if r=k then (1:Int) else 0) (by omega)]
   have e2:det n (setC B t fun r=>if r=k then (1:Int) else 0)=0:=by
    refine det_alt (show t<n by omega) hi e fun r hr=>?_
    unfold setC
    rw[if_pos rfl,if_neg (Ne.symm e),hB]
    simp only
    rw[if_neg (show ¬ (r=k∧i≠i∧i<t) from fun h=>h.2.1 rfl),hA r hr]
   rw[e2,Int.mul_zero,Int.add_zero]
   refine det_congr fun r c _ _=>?_
   unfold setC
   by_cases c1:c=t
   ·rw[if_pos c1,c1]
    simp only
    by_cases c2:r=k
    ·rw[if_pos c2,if_pos ⟨c2,e,by omega⟩]
    ·rw[if_neg c2,if_neg fun h=>c2 h.1]
   ·rw[if_neg c1,hB]
    by_cases c2:r=k∧c≠i∧c<t
    ·simp only
     rw[if_pos c2,if_pos ⟨c2.1,c2.2.1,by omega⟩]
    ·simp only
     rw[if_neg c2,if_neg (by omega)]
theorem pz_one:∀{n k:Nat} {f:Nat→Int},k<n→f k*pz n (fun r=>if r=k then 1 else f r)=pz n f
 | 0,k,_,h=>by omega
 | n+1,k,f,h=>by
  simp only[pz]
  cases k with
  | zero =>
   rw[if_pos rfl,Int.one_mul]
   congr 1
  | succ k =>
   rw[if_neg (by omega)]
   have h1:=pz_one (n:=n) (k:=k) (f:=fun i=>f (i+1)) (by omega)
   rw[←h1]
   have e:(fun i=>if i+1=k+1 then (1:Int) else f (i+1))=fun r=>if r=k then 1 else f (r+1):=by
    funext r
    by_cases c:r=k
    ·rw[if_pos c,if_pos (by omega)]
    ·rw[if_neg c,if_neg (by omega)]
   rw[e]
   grind
section
variable {L:Lin} {Y:Lay}
theorem art_bound (h:Y.ok L) {T:Nat→Nat→Int} {d:Int} {β:Nat→Nat} (ht:Tb L.m (Y.w L) (Y.M L) T d β) {i k:Nat} (hi:i<L.m) (hk:k<L.m):L.F k*ab (T i (Y.N+k))≤L.P:=by
 have hw:Y.N+k<Y.w L:=by unfold Lay.w;omega
 have hF:=L.F_pos k
 rw[ht.bound hi hw]
 rcases dc_rows h (upd_lt ht.lt hw (r:=i)) with e | e
 ·have:=L.P_pos
  rw[e]
  simp[ab]
  omega
 ·have hcol:∀r,r<L.m→colsOf (Y.M L) (upd β i (Y.N+k)) r i=if r=k then 1 else 0:=fun r _=>by
   unfold colsOf upd
   rw[if_pos rfl,Lay.M_a h hk]
  have e1:dc L.m (Y.M L) (upd β i (Y.N+k))=_:=det_unit hi hcol L.m (Nat.le_refl _)
  rw[e1]
  have e2:=det_bound (n:=L.m) (A:=fun r c=>if r=k∧c≠i∧c<L.m then 0 else colsOf (Y.M L) (upd β i (Y.N+k)) r c)
  have e3:pz L.m (fun r=>sz L.m fun c=>ab (if r=k∧c≠i∧c<L.m then 0 else colsOf (Y.M L) (upd β i (Y.N+k)) r c))≤pz L.m (fun r=>if r=k then 1 else L.F r):=pz_le fun r hr=>by
   refine ⟨sz_nonneg fun _ _=>ab_nonneg _,?_⟩
   by_cases c:r=k
   ·rw[if_pos c,sz_one hi fun l hl hne=>by rw[if_pos ⟨c,hne,hl⟩];rfl,if_neg (by simp),hcol i hi |>fun _=>hcol r hr,if_pos c]
    exact Int.le_refl _
   ·rw[if_neg c,sz_congr (g:=fun p=>ab (Y.M L r (upd β i (Y.N+k) p))) fun l _=>by rw[if_neg fun h=>c h.1];rfl]
    exact e r hr
  have e4:=Int.le_trans e2 e3
  have e5:=Int.mul_le_mul_of_nonneg_left e4 (show 0≤L.F k by omega)
  have e6:L.F k*pz L.m (fun r=>if r=k then 1 else L.F r)=L.P:=pz_one hk
  rw[e6] at e5
  exact e5
end
end Dn
end Go.Proofs.Ytnbbackjofgcfaa

namespace Go.Proofs.Ytnbbackjofgcfaa
namespace Dn
section
variable {α R:Type} {F:(α→Option R)→α→Option R}
theorem loopF_seq (n:Nat) (st:Nat→α) (r:Option R) (hb:∀again i,i<n→F again (st i)=again (st (i+1))) (hf:∀again,F again (st n)=r):∀(k i m:Nat),i+k=n→k<m→loopF F m (st i)=r
 | 0,i,m,h1,h2=>by
  obtain ⟨m,rfl⟩:∃m',m=m'+1:=⟨m - 1,by omega⟩
  rw[loopF_succ,show i=n by omega,hf]
 | k+1,i,m,h1,h2=>by
  obtain ⟨m,rfl⟩:∃m',m=m'+1:=⟨m - 1,by omega⟩
  rw[loopF_succ,hb _ _ (by omega)]
  exact loopF_seq n st r hb hf k (i+1) m (by omega) (by omega)
theorem lpK_seq (n:Nat) (hn:n≤1180591620717411303423) (st:Nat→α) (r:Option R) (hb:∀again i,i<n→F again (st i)=again (st (i+1))) (hf:∀again,F again (st n)=r):lpK α R F (st 0)=r :=
 loopF_seq n st r hb hf n 0 K0 (by omega) (by unfold K0;omega)
theorem lpK_seqX {x:α} (n:Nat) (hn:n≤1180591620717411303423) (st:Nat→α) (r:Option R) (hx:x=st 0) (hb:∀again i,i<n→F again (st i)=again (st (i+1))) (hf:∀again,F again (st n)=r):lpK α R F x=r:=by
 rw[hx]
 exact lpK_seq n hn st r hb hf
theorem loopF_ex (I:α→Prop) (Q:R→Prop) (μ:α→Nat) (h:∀x,I x→(∃r,Q r∧∀rec,F rec x=some r)∨∃y,I y∧μ y<μ x∧∀rec,F rec x=rec y):∀(m:Nat) (x:α),I x→μ x<m→∃r,loopF F m x=some r∧Q r
 | 0,_,_,hm=>by omega
 | m+1,x,hx,hm=>by
  rw[loopF_succ]
  rcases h x hx with ⟨r,h1,h2⟩ | ⟨y,h1,h2,h3⟩
  ·exact ⟨r,h2 _,h1⟩
  ·rw[h3]
   exact loopF_ex I Q μ h m y h1 (by omega)
theorem lpK_ex (I:α→Prop) (Q:R→Prop) (μ:α→Nat) (h:∀x,I x→(∃r,Q r∧∀rec,F rec x=some r)∨∃y,I y∧μ y<μ x∧∀rec,F rec x=rec y) {x:α} (hx:I x) (hn:μ x<1180591620717411303424):∃r,lpK α R F x=some r∧Q r :=
 loopF_ex I Q μ h K0 x hx hn
theorem loopF_exG {γ:Type} (I:γ→α→Prop) (Q:R→Prop) (μ:γ→Nat) (h:∀s x,I s x→(∃r,Q r∧∀rec,F rec x=some r)∨∃s' y,I s' y∧μ s'<μ s∧∀rec,F rec x=rec y):∀(m:Nat) (s:γ) (x:α),I s x→μ s<m→∃r,loopF F m x=some r∧Q r
 | 0,_,_,_,hm=>by omega
 | m+1,s,x,hx,hm=>by
  rw[loopF_succ]
  rcases h s x hx with ⟨r,h1,h2⟩ | ⟨s',y,h1,h2,h3⟩
  ·exact ⟨r,h2 _,h1⟩
  ·rw[h3]
   exact loopF_exG I Q μ h m s' y h1 (by omega)
theorem lpK_exG {γ:Type} (I:γ→α→Prop) (Q:R→Prop) (μ:γ→Nat) (h:∀s x,I s x→(∃r,Q r∧∀rec,F rec x=some r)∨∃s' y,I s' y∧μ s'<μ s∧∀rec,F rec x=rec y) {s:γ} {x:α} (hx:I s x) (hn:μ s<1180591620717411303424):∃r,lpK α R F x=some r∧Q r :=
 loopF_exG I Q μ h K0 s x hx hn
theorem loopF_exR {γ:Type} (I:γ→α→Prop) (Q:Option R→Prop) (μ:γ→Nat) (h:∀rec s x,I s x→Q (F rec x)∨∃s' y,I s' y∧μ s'<μ s∧F rec x=rec y):∀(m:Nat) (s:γ) (x:α),I s x→μ s<m→Q (loopF F m x)
 | 0,_,_,_,hm=>by omega
 | m+1,s,x,hx,hm=>by
  rw[loopF_succ]
  rcases h (loopF F m) s x hx with h1 | ⟨s',y,h1,h2,h3⟩
  ·exact h1
  ·rw[h3]
   exact loopF_exR I Q μ h m s' y h1 (by omega)
theorem lpK_exR {γ:Type} (I:γ→α→Prop) (Q:Option R→Prop) (μ:γ→Nat) (h:∀rec s x,I s x→Q (F rec x)∨∃s' y,I s' y∧μ s'<μ s∧F rec x=rec y) {s:γ} {x:α} (hx:I s x) (hn:μ s<1180591620717411303424):Q (lpK α R F x) :=
 loopF_exR I Q μ h K0 s x hx hn
theorem lpK_seqQ {x:α} (Q:Option R→Prop) (n:Nat) (hn:n≤1180591620717411303423) (st:Nat→α) (hx:x=st 0) (hb:∀again i,i<n→F again (st i)=again (st (i+1))) (hf:∀again,Q (F again (st n))):Q (lpK α R F x) :=
 lpK_exR (γ:=Nat) (fun i x=>i≤n∧x=st i) Q (fun i=>n - i) (fun rec i x ⟨h1,h2⟩=>by
  by_cases e:i=n
  ·subst h2;subst e;exact .inl (hf rec)
  ·exact .inr ⟨i+1,st (i+1),⟨by omega,rfl⟩,by omega,by rw[h2];exact hb rec i (by omega)⟩) (s:=0) ⟨by omega,hx⟩ (by omega)
end
theorem first_of (n:Nat) (p:Nat→Bool):(∀j,j<n→p j=false)∨∃j,j<n∧p j=true∧∀i,i<j→p i=false:=by
 induction n with
 | zero=>exact .inl fun j hj=>by omega
 | succ n ih =>
  rcases ih with h | ⟨j,h1,h2,h3⟩
  ·cases hp:p n with
   | true=>exact .inr ⟨n,by omega,hp,h⟩
   | false =>
    refine .inl fun j hj=>?_
    by_cases e:j=n
    ·rw[e];exact hp
    ·exact h j (by omega)
  ·exact .inr ⟨j,by omega,h2,h3⟩
def rowL {α:Type} (w:Nat) (f:Nat→α):List α:=(List.range w).map f
def matL (m w:Nat) (T:Nat→Nat→Int):List (List Int):=(List.range m).map fun i=>rowL w (T i)
def cellL (m w:Nat) (T:Nat→Nat→Int):List (Option (List Int)):=(List.range m).map fun i=>some (rowL w (T i))
def tabL (m w:Nat) (T:Nat→Nat→Int):List Nat×List (Option (List Int)):=(List.range m,cellL m w T)
def basL (m:Nat) (β:Nat→Nat):List Int:=rowL m fun i=>(β i:Int)
section
variable {α:Type} {m w:Nat} {T T':Nat→Nat→Int}
theorem rowL_len {f:Nat→α}:(rowL w f).length=w:=by unfold rowL;rw[List.length_map,List.length_range]
theorem rowL_get {f:Nat→α} {d:α} {j:Nat} (h:j<w):(rowL w f).getD j d=f j:=by
 unfold rowL
 rw[getD_nat (by rw[List.length_map,List.length_range];exact h),List.getElem_map,List.getElem_range]
theorem rowL_at {f:Nat→α} {j:Nat} (h:j<(rowL w f).length):(rowL w f)[j]=f j :=
 (List.getElem_map f (l:=List.range w) (h:=h)).trans (congrArg f (List.getElem_range _))
theorem rowL_congr {f g:Nat→α} (h:∀j,j<w→f j=g j):rowL w f=rowL w g:=by
 unfold rowL
 exact List.map_congr_left fun j hj=>h j (List.mem_range.1 hj)
theorem rowL_set {f:Nat→α} {j:Nat} {x:α} (hj:j<w):(rowL w f).set j x=rowL w fun k=>if k=j then x else f k:=by
 refine List.ext_getElem (by rw[List.length_set,rowL_len,rowL_len]) fun i h1 h2=>?_
 have h3:i<w:=by rw[rowL_len] at h2;exact h2
 rw[List.getElem_set,rowL_at,rowL_at]
 by_cases e:j=i
 ·rw[if_pos e,if_pos e.symm]
 ·rw[if_neg e,if_neg (Ne.symm e)]
theorem matL_len:(matL m w T).length=m:=by unfold matL;rw[List.length_map,List.length_range]
theorem matL_get {i:Nat} (h:i<m):(matL m w T).getD i []=rowL w (T i):=by
 unfold matL
 rw[getD_nat (by rw[List.length_map,List.length_range];exact h),List.getElem_map,List.getElem_range]
theorem cellL_len:(cellL m w T).length=m:=by unfold cellL;rw[List.length_map,List.length_range]
theorem tabL_len:(tabL m w T).1.length=m:=by unfold tabL;exact List.length_range
theorem tabL_idx {i:Nat} (h:i<m):(tabL m w T).1.getD i 0=i:=by
 unfold tabL
 rw[getD_nat (by rw[List.length_range];exact h),List.getElem_range]
theorem cellL_get {i:Nat} (h:i<m):(cellL m w T).getD i none=some (rowL w (T i)):=by
 unfold cellL
 rw[getD_nat (by rw[List.length_map,List.length_range];exact h),List.getElem_map,List.getElem_range]
theorem cellL_at {i:Nat} (h:i<(cellL m w T).length):(cellL m w T)[i]=some (rowL w (T i)) :=
 (List.getElem_map (fun i=>some (rowL w (T i))) (l:=List.range m) (h:=h)).trans (congrArg (fun i=>some (rowL w (T i))) (List.getElem_range _))
theorem cell_row {i:Nat} (h:i<m):rowD (cellL m w T) i=rowL w (T i):=by unfold rowD;rw[cellL_get h];rfl
theorem cell_live {i:Nat} (h:i<m):liveB (cellL m w T) i=true:=by unfold liveB;rw[cellL_get h];rfl
theorem cellL_congr (h:∀i j,i<m→j<w→T i j=T' i j):cellL m w T=cellL m w T':=by
 unfold cellL
 exact List.map_congr_left fun i hi=>by rw[rowL_congr fun j hj=>h i j (List.mem_range.1 hi) hj]
theorem tabL_congr (h:∀i j,i<m→j<w→T i j=T' i j):tabL m w T=tabL m w T':=by unfold tabL;rw[cellL_congr h]
theorem cell_set {i j:Nat} {x:Int} (hi:i<m) (hj:j<w):(cellL m w T).set i (some ((rowL w (T i)).set j x))=cellL m w fun k l=>if k=i∧l=j then x else T k l:=by
 rw[rowL_set hj]
 refine List.ext_getElem (by rw[List.length_set,cellL_len,cellL_len]) fun k h1 h2=>?_
 have h3:k<m:=by rw[cellL_len] at h2;exact h2
 rw[List.getElem_set,cellL_at,cellL_at]
 by_cases e:i=k
 ·subst e
  rw[if_pos rfl]
  congr 1
  refine rowL_congr fun l _=>?_
  simp
 ·rw[if_neg e]
  congr 1
  refine rowL_congr fun l _=>?_
  rw[if_neg fun h=>e h.1.symm]
theorem tab_all:((tabL m w T).1.all fun x=>liveB (tabL m w T).2 x)=true:=by
 rw[List.all_eq_true]
 intro i hi
 exact cell_live (List.mem_range.1 hi)
theorem tab_map:(tabL m w T).1.map (fun x=>rowD (tabL m w T).2 x)=matL m w T:=by
 unfold tabL matL
 exact List.map_congr_left fun i hi=>cell_row (List.mem_range.1 hi)
theorem basL_len {β:Nat→Nat}:(basL m β).length=m:=rowL_len
theorem basL_get {β:Nat→Nat} {i:Nat} (h:i<m):(basL m β).getD i 0=(β i:Int):=rowL_get h
theorem basL_set {β:Nat→Nat} {r c:Nat} (h:r<m):(basL m β).set r (c:Int)=basL m (upd β r c):=by
 unfold basL
 rw[rowL_set h]
 refine rowL_congr fun k _=>?_
 unfold upd
 by_cases e:k=r
 ·rw[if_pos e,if_pos e]
 ·rw[if_neg e,if_neg e]
end
end Dn
end Go.Proofs.Ytnbbackjofgcfaa

namespace Go.Proofs.Ytnbbackjofgcfaa
open Try Dn Dn.Sh
def prodR (x:Int):Bool×Int×Int:=(decide (x<0),hl x.natAbs)
theorem psize_ok {x:Int} (h1: -9223372036854775808≤x) (h2:x<9223372036854775808):program_size x=some (x.natAbs:Int):=size_ok h1 h2
theorem hl_ne {n:Nat}:(bif !decide ((hl n).1=0) then true else !decide ((hl n).2=0))=decide (n≠0):=by
 unfold hl
 simp only
 by_cases h:n=0
 ·subst h;rfl
 ·rw[decide_eq_true h]
  by_cases c1:((n / 18446744073709551616:Nat):Int)=0
  ·rw[decide_eq_true c1,decide_eq_false (show ¬ ((n % 18446744073709551616:Nat):Int)=0 by omega)];rfl
  ·rw[decide_eq_false c1];rfl
theorem mul_sign {a b:Int}:(bif !decide (decide (a<0)=decide (b<0)) then decide ((a.natAbs*b.natAbs)≠0) else false)=decide (a*b<0):=by
 by_cases ha:a<0
 ·by_cases hb:b<0
  ·have:=Int.mul_pos_of_neg_of_neg ha hb
   rw[decide_eq_false (show ¬ a*b<0 by omega)]
   simp[ha,hb]
  ·by_cases hb0:b=0
   ·subst hb0;simp
   ·have:=Int.mul_neg_of_neg_of_pos ha (show 0<b by omega)
    rw[decide_eq_true this,decide_eq_true (show a.natAbs*b.natAbs≠0 by rw[←Int.natAbs_mul];omega)]
    simp[ha,hb]
 ·by_cases ha0:a=0
  ·subst ha0;simp
  ·by_cases hb:b<0
   ·have:=Int.mul_neg_of_pos_of_neg (show 0<a by omega) hb
    rw[decide_eq_true this,decide_eq_true (show a.natAbs*b.natAbs≠0 by rw[←Int.natAbs_mul];omega)]
    simp[ha,hb]
   ·have:=Int.mul_nonneg (show 0≤a by omega) (show 0≤b by omega)
    rw[decide_eq_false (show ¬ a*b<0 by omega)]
    simp[ha,hb]
theorem ptimes_ok {a b:Int} (ha: -9223372036854775808≤a∧a<9223372036854775808) (hb: -9223372036854775808≤b∧b<9223372036854775808):program_times a b=some (prodR (a*b)):=by
 have e:(((a.natAbs:Nat):Int)*(b.natAbs:Int) / 18446744073709551616,((a.natAbs:Nat):Int)*(b.natAbs:Int) % 18446744073709551616,PUnit.unit)=((hl (a.natAbs*b.natAbs)).1,(hl (a.natAbs*b.natAbs)).2,PUnit.unit):=by
  rw[←Int.natCast_mul];rfl
 simp only[program_times,program_times_b,psize_ok ha.1 ha.2,psize_ok hb.1 hb.2,obind_some']
 rw[mulW (by omega) (by omega) (by omega) (by omega),obind_some',e]
 have h1:=hl_ne (n:=a.natAbs*b.natAbs)
 have h2:=mul_sign (a:=a) (b:=b)
 rw[←h1] at h2
 unfold prodR
 rw[Int.natAbs_mul,←h2]
 generalize hl (a.natAbs*b.natAbs)=p
 obtain ⟨c,hc⟩:∃c,(decide (decide (a<0)=decide (b<0)))=c:=⟨_,rfl⟩
 obtain ⟨c1,hc1⟩:∃c,decide (p.1=0)=c:=⟨_,rfl⟩
 simp only[hc,hc1]
 cases c<;>cases c1<;>rfl
theorem cmpSize_ok {s t:Bool} {m n:Nat}:program_product_cmpSize (s,hl m) (t,hl n)=some (if m<n then -1 else if m=n then 0 else 1):=by
 simp only[program_product_cmpSize,program_product_cmpSize_b]
 have e1:(hl m).1=(hl n).1↔m / 18446744073709551616=n / 18446744073709551616:=by unfold hl;simp only;omega
 have e2:(hl m).1<(hl n).1↔m / 18446744073709551616<n / 18446744073709551616:=by unfold hl;simp only;omega
 have e3:(hl m).2=(hl n).2↔m % 18446744073709551616=n % 18446744073709551616:=by unfold hl;simp only;omega
 have e4:(hl m).2<(hl n).2↔m % 18446744073709551616<n % 18446744073709551616:=by unfold hl;simp only;omega
 rw[decide_eq_decide.2 e1,decide_eq_decide.2 e2,decide_eq_decide.2 e3,decide_eq_decide.2 e4]
 generalize q1:decide (m / 18446744073709551616=n / 18446744073709551616)=c1
 generalize q2:decide (m / 18446744073709551616<n / 18446744073709551616)=c2
 generalize q3:decide (m % 18446744073709551616=n % 18446744073709551616)=c3
 generalize q4:decide (m % 18446744073709551616<n % 18446744073709551616)=c4
 cases c1<;>cases c2<;>cases c3<;>cases c4<;>simp only[decide_eq_true_iff,decide_eq_false_iff_not] at q1 q2 q3 q4 <;>
  first
  | (exfalso;omega)
  | (rw[if_pos (show m<n by omega)];rfl)
  | (rw[if_neg (show ¬ m<n by omega),if_pos (show m=n by omega)];rfl)
  | (rw[if_neg (show ¬ m<n by omega),if_neg (show ¬ m=n by omega)];rfl)
theorem pcmp2_ok {x y:Int}:program_product_cmp (prodR x) (prodR y)=some (if x<y then -1 else if x=y then 0 else 1):=by
 have key:∀{a b:Nat} (h1:a<b↔x<y) (h2:a=b↔x=y),(if a<b then (-1:Int) else if a=b then 0 else 1)=if x<y then -1 else if x=y then 0 else 1:=fun h1 h2=>by simp only[h1,h2]
 unfold prodR
 simp only[program_product_cmp,program_product_cmp_b,cmpSize_ok,obind_some']
 by_cases hx:x<0
 ·by_cases hy:y<0
  ·rw[decide_eq_true hx,decide_eq_true hy,key (by omega) (by omega)]
   rfl
  ·rw[if_pos (show x<y by omega),decide_eq_true hx,decide_eq_false hy]
   rfl
 ·by_cases hy:y<0
  ·rw[if_neg (show ¬ x<y by omega),if_neg (show ¬ x=y by omega),decide_eq_false hx,decide_eq_true hy]
   rfl
  ·rw[decide_eq_false hx,decide_eq_false hy,key (a:=x.natAbs) (b:=y.natAbs) (by omega) (by omega)]
   rfl
theorem addO_hl {m n:Nat} (h:m+n<340282366920938463463374607431768211456):(addO (hl m).1 (hl n).1 (addC (hl m).2 (hl n).2 0),addO (hl m).2 (hl n).2 0)=hl (m+n):=by
 have h1:=rPlus_ok h
 have c1:(0:Int)≤addC (hl m).2 (hl n).2 0:=by rw[addC_hl];omega
 have c2:addC (hl m).2 (hl n).2 0≤1:=by rw[addC_hl];omega
 simp only[ratio_plus,ratio_plus_b,decide_eq_true c1,decide_eq_true c2] at h1
 exact Option.some.inj h1
theorem subO_hl {m n:Nat} (h:n≤m) (hm:m<340282366920938463463374607431768211456):(subO (hl m).1 (hl n).1 (subC (hl m).2 (hl n).2 0),subO (hl m).2 (hl n).2 0)=hl (m - n):=by
 have h1:=rMinus_ok h hm
 have c1:(0:Int)≤subC (hl m).2 (hl n).2 0:=by rw[subC_hl];omega
 have c2:subC (hl m).2 (hl n).2 0≤1:=by rw[subC_hl];split<;>omega
 simp only[ratio_minus,ratio_minus_b,decide_eq_true c1,decide_eq_true c2] at h1
 exact Option.some.inj h1
theorem subC_range {m n:Nat}:(decide ((0:Int)≤subC (hl m).2 (hl n).2 0)&&decide (subC (hl m).2 (hl n).2 0≤(1:Int)))=true:=by
 rw[decide_eq_true (show (0:Int)≤subC (hl m).2 (hl n).2 0 by rw[subC_hl];omega),decide_eq_true (show subC (hl m).2 (hl n).2 0≤1 by rw[subC_hl];split<;>omega)]
 rfl
theorem addC_range {m n:Nat}:(decide ((0:Int)≤addC (hl m).2 (hl n).2 0)&&decide (addC (hl m).2 (hl n).2 0≤(1:Int)))=true:=by
 rw[decide_eq_true (show (0:Int)≤addC (hl m).2 (hl n).2 0 by rw[addC_hl];omega),decide_eq_true (show addC (hl m).2 (hl n).2 0≤1 by rw[addC_hl];omega)]
 rfl
theorem pminus_ok {x y:Int} (hx:x.natAbs<85070591730234615865843651857942052864) (hy:y.natAbs<85070591730234615865843651857942052864):program_product_minus (prodR x) (prodR y)=some (prodR (x - y)):=by
 unfold prodR
 simp only[program_product_minus,program_product_minus_b,cmpSize_ok,obind_some',jnK_eq',subC_range,addC_range]
 by_cases hs:decide (x<0)=decide (y<0)
 ·
  rw[decide_eq_true hs]
  simp only[Bool.not_true,cF]
  by_cases hlt:x.natAbs<y.natAbs
  ·have h1:=subO_hl (m:=y.natAbs) (n:=x.natAbs) (by omega) (by omega)
   have h2:=congrArg Prod.fst h1
   have h3:=congrArg Prod.snd h1
   simp only at h2 h3
   rw[if_pos hlt]
   simp only[show decide ((-1:Int)<0)=true from rfl,cT,h2,h3]
   have h4:=hl_ne (n:=y.natAbs - x.natAbs)
   have e1:decide (x - y<0)=(bif !decide (x<0) then decide (y.natAbs - x.natAbs≠0) else false):=by
    rw[decide_eq_true (show y.natAbs - x.natAbs≠0 by omega)]
    by_cases c:x<0
    ·have c':y<0:=by rw[decide_eq_true c] at hs;exact of_decide_eq_true hs.symm
     rw[decide_eq_true c,decide_eq_false (show ¬ x - y<0 by omega)];rfl
    ·have c':¬ y<0:=by rw[decide_eq_false c] at hs;exact of_decide_eq_false hs.symm
     rw[decide_eq_false c,decide_eq_true (show x - y<0 by omega)];rfl
   have e2:(x - y).natAbs=y.natAbs - x.natAbs:=by
    by_cases c:x<0
    ·have c':y<0:=by rw[decide_eq_true c] at hs;exact of_decide_eq_true hs.symm
     omega
    ·have c':¬ y<0:=by rw[decide_eq_false c] at hs;exact of_decide_eq_false hs.symm
     omega
   rw[e1,e2,←h4]
   generalize hl (y.natAbs - x.natAbs)=p
   obtain ⟨c,hc⟩:∃c,decide (p.1=0)=c:=⟨_,rfl⟩
   simp only[hc]
   cases decide (x<0)<;>cases c<;>rfl
  ·have h1:=subO_hl (m:=x.natAbs) (n:=y.natAbs) (by omega) (by omega)
   have h2:=congrArg Prod.fst h1
   have h3:=congrArg Prod.snd h1
   simp only at h2 h3
   have h0:¬ (if x.natAbs<y.natAbs then (-1:Int) else if x.natAbs=y.natAbs then 0 else 1)<0:=by
    rw[if_neg hlt]
    split<;>simp
   rw[decide_eq_false h0]
   simp only[cF,h2,h3]
   have h4:=hl_ne (n:=x.natAbs - y.natAbs)
   have e1:decide (x - y<0)=(bif decide (x<0) then decide (x.natAbs - y.natAbs≠0) else false):=by
    by_cases c:x<0
    ·have c':y<0:=by rw[decide_eq_true c] at hs;exact of_decide_eq_true hs.symm
     rw[decide_eq_true c,cond_true]
     exact decide_eq_decide.2 (by omega)
    ·have c':¬ y<0:=by rw[decide_eq_false c] at hs;exact of_decide_eq_false hs.symm
     rw[decide_eq_false c,decide_eq_false (show ¬ x - y<0 by omega)];rfl
   have e2:(x - y).natAbs=x.natAbs - y.natAbs:=by
    by_cases c:x<0
    ·have c':y<0:=by rw[decide_eq_true c] at hs;exact of_decide_eq_true hs.symm
     omega
    ·have c':¬ y<0:=by rw[decide_eq_false c] at hs;exact of_decide_eq_false hs.symm
     omega
   rw[e1,e2,←h4]
   generalize hl (x.natAbs - y.natAbs)=p
   obtain ⟨c,hc⟩:∃c,decide (p.1=0)=c:=⟨_,rfl⟩
   simp only[hc]
   cases decide (x<0)<;>cases c<;>rfl
 ·rw[decide_eq_false hs]
  have h1:=addO_hl (m:=x.natAbs) (n:=y.natAbs) (by omega)
  have h2:=congrArg Prod.fst h1
  have h3:=congrArg Prod.snd h1
  simp only at h2 h3
  simp only[Bool.not_false,cT,h2,h3]
  have h4:=hl_ne (n:=y.natAbs)
  by_cases c:x<0
  ·have c':¬ y<0:=fun c'=>hs (by rw[decide_eq_true c,decide_eq_true c'])
   rw[decide_eq_true c,decide_eq_false c',decide_eq_true (show x - y<0 by omega),show (x - y).natAbs=x.natAbs+y.natAbs by omega]
   generalize hl y.natAbs=p
   obtain ⟨d,hd⟩:∃d,decide (p.1=0)=d:=⟨_,rfl⟩
   simp only[hd]
   cases d<;>rfl
  ·have c':y<0:=by
    apply Classical.byContradiction
    intro c'
    exact hs (by rw[decide_eq_false c,decide_eq_false c'])
   rw[decide_eq_false c,decide_eq_true c',decide_eq_false (show ¬ x - y<0 by omega),show (x - y).natAbs=x.natAbs+y.natAbs by omega]
   generalize hl y.natAbs=p
   obtain ⟨d,hd⟩:∃d,decide (p.1=0)=d:=⟨_,rfl⟩
   simp only[hd]
   cases d<;>rfl
theorem pover_ok {d q:Int} (hd:0<d) (hd2:d<9223372036854775808) (hq:q.natAbs<9223372036854775808):program_product_over (prodR (d*q)) d=some q:=by
 unfold prodR
 simp only[program_product_over,program_product_over_b]
 have e:(d*q).natAbs=d.natAbs*q.natAbs:=Int.natAbs_mul _ _
 have hdn:(d.natAbs:Int)=d:=by omega
 have h1:(d*q).natAbs / 18446744073709551616<d.natAbs:=by
  rw[e]
  refine (Nat.div_lt_iff_lt_mul (by omega)).2 ?_
  exact Nat.mul_lt_mul_of_pos_left (by omega) (by omega)
 have h2:=Div64_ok (h:=(d*q).natAbs / 18446744073709551616) (l:=(d*q).natAbs % 18446744073709551616) (y:=d.natAbs) h1 (by omega) (by omega)
 have h3:(d*q).natAbs / 18446744073709551616*18446744073709551616+(d*q).natAbs % 18446744073709551616=(d*q).natAbs:=by omega
 rw[h3,e,Nat.mul_div_cancel_left _ (by omega)] at h2
 have h4:IntKind.wrap .u64 d=(d.natAbs:Int):=by rw[u_wrap (by omega) (by omega)];omega
 rw[h4]
 unfold hl
 simp only
 rw[e,h2,obind_some']
 simp only
 rw[wrap_id (x:=(q.natAbs:Int)) (by omega) (by omega)]
 by_cases c:q<0
 ·rw[decide_eq_true (show d*q<0 from Int.mul_neg_of_pos_of_neg hd c),cond_true,wrap_id (by omega) (by omega)]
  congr 1
  omega
 ·rw[decide_eq_false (show ¬ d*q<0 by have:=Int.mul_nonneg (show 0≤d by omega) (show 0≤q by omega);omega),cond_false]
  congr 1
  omega
end Go.Proofs.Ytnbbackjofgcfaa

namespace Go.Proofs.Ytnbbackjofgcfaa
open Try Dn Dn.Sh
theorem succ_wrap {i:Nat} (h:i≤1000000):IntKind.wrap .i64 ((i:Int)+1)=((i+1:Nat):Int):=by rw[wrap_id (by omega) (by omega)];rfl
def mid (T:Nat→Nat→Int) (d:Int) (r c i j:Nat):Nat→Nat→Int:=fun k l=>if k≠r∧(k<i∨(k=i∧l<j)) then piv T d r c k l else T k l
theorem mid_row {T:Nat→Nat→Int} {d:Int} {r c i j l:Nat}:mid T d r c i j r l=T r l:=if_neg fun h=>h.1 rfl
theorem mid_here {T:Nat→Nat→Int} {d:Int} {r c i j l:Nat} (h:j≤l):mid T d r c i j i l=T i l:=by
 unfold mid
 rw[if_neg fun h=>by omega]
theorem mid_zero {T:Nat→Nat→Int} {d:Int} {r c k l:Nat}:T k l=mid T d r c 0 0 k l:=by
 unfold mid
 rw[if_neg fun h=>by omega]
def midN (T:Nat→Nat→Int) (i j:Nat):Nat→Nat→Int:=fun k l=>if k<i∨(k=i∧l<j) then - T k l else T k l
theorem midN_here {T:Nat→Nat→Int} {i j l:Nat} (h:j≤l):midN T i j i l=T i l:=by
 unfold midN
 rw[if_neg fun h=>by omega]
theorem midN_zero {T:Nat→Nat→Int} {k l:Nat}:T k l=midN T 0 0 k l:=by
 unfold midN
 rw[if_neg fun h=>by omega]
theorem tab_snd {m w:Nat} {T:Nat→Nat→Int}:(tabL m w T).2=cellL m w T:=rfl
theorem tab_put {m w:Nat} {T T':Nat→Nat→Int} {i j:Nat} {x:Int} (hi:i<m) (hj:j<w) (h:∀k l,k<m→l<w→(if k=i∧l=j then x else T k l)=T' k l) :
  ((tabL m w T).1,(cellL m w T).set i (some ((rowL w (T i)).set j x)))=tabL m w T':=by
 rw[cell_set hi hj,cellL_congr h]
 rfl
structure PivOk (m w:Nat) (T:Nat→Nat→Int) (d:Int) (r c:Nat):Prop where
 hm:m≤1000
 hw:w≤1000
 hr:r<m
 hc:c<w
 hd:0<d∧d<4611686018427387904
 b:∀i j,i<m→j<w→(T i j).natAbs<4611686018427387904
 q:∀i j,i<m→i≠r→j<w→d*piv T d r c i j=T r c*T i j - T i c*T r j
 qb:∀i j,i<m→i≠r→j<w→(piv T d r c i j).natAbs<4611686018427387904
theorem abs_small {x:Int} (h:x.natAbs<4611686018427387904): -9223372036854775808≤x∧x<9223372036854775808:=by omega
theorem abs_prod {x y:Int} (hx:x.natAbs<4611686018427387904) (hy:y.natAbs<4611686018427387904):(x*y).natAbs<85070591730234615865843651857942052864:=by
 rw[Int.natAbs_mul]
 exact Nat.lt_of_le_of_lt (Nat.mul_le_mul (Nat.le_of_lt_succ (n:=4611686018427387903) hx) (Nat.le_of_lt_succ (n:=4611686018427387903) hy)) (by decide)
theorem pivot_ok {m w:Nat} {T:Nat→Nat→Int} {d:Int} {β:Nat→Nat} {r c:Nat} {x3 x4:List Int} {x5 x6:Int} (h:PivOk m w T d r c) :
  program_table_pivot (tabL m w T) d (basL m β) x3 x4 x5 x6 (r:Int) (c:Int)=some (tabL m w (pivT T d r c),sg (T r c)*T r c,basL m (upd β r c),x3,x4,x5,x6,()):=by
 obtain ⟨hm,hw,hr,hc,hd,hb,hq,hqb⟩:=h
 unfold program_table_pivot program_table_pivot_b
 simp only[tabL_len,tabL_idx hr,tab_snd,cell_row hr,rowL_len,rowL_get hc,inB_nat,Int.toNat_natCast,decide_eq_true hr,decide_eq_true hc,ble_of (show Nat.succ r≤m from hr),ble_of (show Nat.succ c≤w from hc),cT,basL_set hr,basL_len]
 refine lpK_seqX m (by omega) (fun i=>((i:Int),tabL m w (mid T d r c i 0),PUnit.unit)) _ (by rw[tabL_congr fun k l _ _=>mid_zero];rfl) (fun again i hi=>?_) (fun again=>?_)
 ·simp only[tabL_len,tabL_idx hi,tab_snd,cell_row hi,rowL_len,rowL_get hc,inB_nat,Int.toNat_natCast,decide_eq_true hi,decide_eq_true hc,decide_eq_true (show (i:Int)<m by omega),ble_of (show Nat.succ i≤m from hi),ble_of (show Nat.succ c≤w from hc),cT,cell_live hi,succ_wrap (show i≤1000000 by omega)]
  by_cases e:i=r
  ·rw[decide_eq_true (show (i:Int)=r by omega),cond_true]
   congr 3
   refine tabL_congr fun k l _ _=>?_
   unfold mid
   by_cases c1:k≠r∧(k<i∨(k=i∧l<0))
   ·rw[if_pos c1,if_pos (by omega)]
   ·rw[if_neg c1,if_neg (by omega)]
  ·rw[decide_eq_false (show ¬ (i:Int)=r by omega),cond_false]
   refine lpK_seq w (by omega) (fun j=>((j:Int),tabL m w (mid T d r c i j),PUnit.unit)) _ (fun again2 j hj=>?_) (fun again2=>?_)
   ·have t1:=ptimes_ok (abs_small (hb i j hi hj)) (abs_small (hb r c hr hc))
    have t2:=ptimes_ok (abs_small (hb i c hi hc)) (abs_small (hb r j hr hj))
    have t3:=pminus_ok (abs_prod (hb i j hi hj) (hb r c hr hc)) (abs_prod (hb i c hi hc) (hb r j hr hj))
    have t4:program_product_over (prodR (T i j*T r c - T i c*T r j)) d=some (piv T d r c i j):=by
     rw[Int.mul_comm (T i j),←hq i j hi e hj]
     exact pover_ok hd.1 (by omega) (by have:=hqb i j hi e hj;omega)
    simp only[tabL_len,tabL_idx hi,tabL_idx hr,tab_snd,cell_row hi,cell_row hr,rowL_len,rowL_get hc,rowL_get hj,inB_nat,Int.toNat_natCast,decide_eq_true hi,decide_eq_true hj,decide_eq_true hr,decide_eq_true hc,decide_eq_true (show (j:Int)<w by omega),
     ble_of (show Nat.succ j≤w from hj),ble_of (show Nat.succ r≤m from hr),cT,mid_row,mid_here (Nat.le_refl j),mid_here (Nat.zero_le c),t1,t2,t3,t4,obind_some',succ_wrap (show j≤1000000 by omega)]
    congr 3
    refine tab_put hi hj fun k l hk hl=>?_
    unfold mid
    by_cases c0:k=i∧l=j
    ·rw[if_pos c0,if_pos (by omega),c0.1,c0.2]
    ·rw[if_neg c0]
     by_cases c1:k≠r∧(k<i∨(k=i∧l<j))
     ·rw[if_pos c1,if_pos (by omega)]
     ·rw[if_neg c1,if_neg (by omega)]
   ·simp only[tabL_idx hi,tab_snd,cell_row hi,rowL_len,decide_eq_false (show ¬ (w:Int)<w by omega),cF]
    congr 3
    refine tabL_congr fun k l hk hl=>?_
    unfold mid
    by_cases c1:k≠r∧(k<i∨(k=i∧l<w))
    ·rw[if_pos c1,if_pos (by omega)]
    ·rw[if_neg c1,if_neg (by omega)]
 ·simp only[tabL_len,decide_eq_false (show ¬ (m:Int)<m by omega),cF]
  by_cases hneg:T r c<0
  ·rw[decide_eq_true hneg,cond_true]
   refine lpK_seqX m (by omega) (fun i=>((i:Int),tabL m w (midN (mid T d r c m 0) i 0),PUnit.unit)) _ (by rw[tabL_congr fun k l _ _=>midN_zero];rfl) (fun again i hi=>?_) (fun again=>?_)
   ·simp only[tabL_len,tabL_idx hi,tab_snd,cell_row hi,rowL_len,inB_nat,Int.toNat_natCast,decide_eq_true hi,decide_eq_true (show (i:Int)<m by omega),ble_of (show Nat.succ i≤m from hi),cT,cell_live hi,succ_wrap (show i≤1000000 by omega)]
    refine lpK_seq w (by omega) (fun j=>((j:Int),tabL m w (midN (mid T d r c m 0) i j),PUnit.unit)) _ (fun again2 j hj=>?_) (fun again2=>?_)
    ·have hbb:(mid T d r c m 0 i j).natAbs<4611686018427387904:=by
      unfold mid
      split
      ·rename_i hh;exact hqb i j hi hh.1 hj
      ·exact hb i j hi hj
     simp only[tabL_len,tabL_idx hi,tab_snd,cell_row hi,rowL_len,rowL_get hj,inB_nat,Int.toNat_natCast,decide_eq_true hi,decide_eq_true hj,decide_eq_true (show (j:Int)<w by omega),
      ble_of (show Nat.succ j≤w from hj),cT,midN_here (Nat.le_refl j),succ_wrap (show j≤1000000 by omega),wrap_id (show -9223372036854775808≤0 - mid T d r c m 0 i j by omega) (by omega)]
     congr 3
     refine tab_put hi hj fun k l hk hl=>?_
     unfold midN
     by_cases c0:k=i∧l=j
     ·rw[if_pos c0,if_pos (by omega),c0.1,c0.2]
      omega
     ·rw[if_neg c0]
      by_cases c1:k<i∨(k=i∧l<j)
      ·rw[if_pos c1,if_pos (by omega)]
      ·rw[if_neg c1,if_neg (by omega)]
    ·simp only[tabL_idx hi,tab_snd,cell_row hi,rowL_len,decide_eq_false (show ¬ (w:Int)<w by omega),cF]
     congr 3
     refine tabL_congr fun k l hk hl=>?_
     unfold midN
     by_cases c1:k<i∨(k=i∧l<w)
     ·rw[if_pos c1,if_pos (by omega)]
     ·rw[if_neg c1,if_neg (by omega)]
   ·have hrc:=hb r c hr hc
    simp only[tabL_len,decide_eq_false (show ¬ (m:Int)<m by omega),cF,wrap_id (show -9223372036854775808≤0 - T r c by omega) (by omega)]
    have e1:sg (T r c)= -1:=by unfold sg;rw[if_pos hneg]
    congr 2
    ·refine tabL_congr fun k l hk hl=>?_
     unfold midN mid pivT
     rw[if_pos (by omega),e1]
     by_cases c0:k=r
     ·rw[if_neg (by omega),if_pos c0,c0];omega
     ·rw[if_pos (by omega),if_neg c0];omega
    ·rw[e1]
     congr 1
     omega
  ·rw[decide_eq_false hneg,cond_false]
   have e1:sg (T r c)=1:=by unfold sg;rw[if_neg hneg]
   congr 2
   ·refine tabL_congr fun k l hk hl=>?_
    unfold mid pivT
    rw[e1,Int.one_mul]
    by_cases c0:k=r
    ·rw[if_neg (by omega),if_pos c0,c0]
    ·rw[if_pos (by omega),if_neg c0]
   ·rw[e1,Int.one_mul]
end Go.Proofs.Ytnbbackjofgcfaa

namespace Go.Proofs.Ytnbbackjofgcfaa
open Try Dn Dn.Sh
theorem frac_trans {x y z p q r:Int} (hp:0<p) (hq:0<q) (hr:0<r) (h1:x*q≤y*p) (h2:y*r≤z*q):x*r≤z*p:=by
 refine le_cancel hq ?_
 have a1:=Int.mul_le_mul_of_nonneg_right h1 (Int.le_of_lt hr)
 have a2:=Int.mul_le_mul_of_nonneg_right h2 (Int.le_of_lt hp)
 calc q*(x*r)=x*q*r:=by grind
  _≤y*p*r:=a1
  _=y*r*p:=by grind
  _≤z*q*p:=a2
  _=q*(z*p):=by grind
theorem frac_tie {x y z p q r:Int} (hp:0<p) (hq:0<q) (hr:0<r) (h1:x*q≤y*p) (h2:y*r≤z*q) (h:x*r=z*p):x*q=y*p∧y*r=z*q:=by
 have h3:=frac_trans hq hr hp h2 (by rw[h];exact Int.le_refl _)
 have h4:=frac_trans (x:=z) (y:=x) (z:=y) (p:=r) (q:=p) (r:=q) hr hp hq (by rw[h];exact Int.le_refl _) h1
 exact ⟨Int.le_antisymm h1 h3,Int.le_antisymm h2 h4⟩
theorem leaving_ok {m w:Nat} {T:Nat→Nat→Int} {d:Int} {β:Nat→Nat} {c R:Nat} {x1:Int} {x3 x4:List Int} {x5:Int} (hm:m≤1000) (hc:c<w) (hR:R<w) (hb:∀i j,i<m→j<w→(T i j).natAbs<4611686018427387904) :
  ∃b,program_table_leaving (matL m w T,x1,basL m β,x3,x4,x5,(R:Int)) (c:Int)=some b∧((b= -1∧∀i,i<m→T i c≤0)∨∃r:Nat,b=r∧Dn.Leaves m R ⟨T,d,β⟩ c r):=by
 unfold program_table_leaving program_table_leaving_b
 refine lpK_ex (fun (x:Int×Int×PUnit)=>∃i:Nat,i≤m∧x.2.1=i∧((x.1= -1∧∀k,k<i→T k c≤0)∨∃r:Nat,x.1=r∧Dn.Leaves i R ⟨T,d,β⟩ c r)) _ (fun x=>((m:Int) - x.2.1).toNat) ?_ ⟨0,by omega,rfl,.inl ⟨rfl,fun k hk=>by omega⟩⟩ (by simp only;omega)
 rintro ⟨b,_,_⟩ ⟨i,hi,rfl,hI⟩
 simp only at hI
 by_cases hlt:i<m
 ·have gR:=matL_get (w:=w) (T:=T) hlt
  have ext:∀r,Dn.Leaves i R ⟨T,d,β⟩ c r→(0<T i c→T r R*T i c≤T i R*T r c∧(T r R*T i c=T i R*T r c→β r≤β i))→Dn.Leaves (i+1) R ⟨T,d,β⟩ c r:=fun r h hn=>by
   refine ⟨by have:=h.lt;omega,h.pos,fun k hk hp=>?_,fun k hk hp he=>?_⟩
   ·by_cases e:k=i
    ·subst e;exact (hn hp).1
    ·exact h.le k (by omega) hp
   ·by_cases e:k=i
    ·subst e;exact (hn hp).2 he
    ·exact h.tie k (by omega) hp he
  right
  by_cases hpos:T i c≤0
  ·refine ⟨(b,((i+1:Nat):Int),PUnit.unit),⟨i+1,by omega,rfl,?_⟩,by simp only;omega,fun rec=>?_⟩
   ·rcases hI with ⟨h1,h2⟩ | ⟨r,h1,h2⟩
    ·exact .inl ⟨h1,fun k hk=>by
      by_cases e:k=i
      ·rw[e];exact hpos
      ·exact h2 k (by omega)⟩
    ·exact .inr ⟨r,h1,ext r h2 fun h=>by omega⟩
   ·simp only[matL_len,inB_nat,Int.toNat_natCast,decide_eq_true hlt,decide_eq_true (show (i:Int)<m by omega),gR,rowL_len,rowL_get hc,decide_eq_true hc,decide_eq_true hpos,cT,succ_wrap (show i≤1000000 by omega)]
  ·rcases hI with ⟨h1,h2⟩ | ⟨r,h1,h2⟩
   ·refine ⟨((i:Int),((i+1:Nat):Int),PUnit.unit),⟨i+1,by omega,rfl,.inr ⟨i,rfl,⟨by omega,show 0<T i c by omega,fun k hk hp=>?_,fun k hk hp _=>?_⟩⟩⟩,by simp only;omega,fun rec=>?_⟩
    ·by_cases e:k=i
     ·subst e;exact Int.le_refl _
     ·have h3:=h2 k (by omega)
      have hp:0<T k c:=hp
      omega
    ·by_cases e:k=i
     ·subst e;exact Nat.le_refl _
     ·have h3:=h2 k (by omega)
      have hp:0<T k c:=hp
      omega
    ·simp only[matL_len,inB_nat,Int.toNat_natCast,decide_eq_true hlt,decide_eq_true (show (i:Int)<m by omega),gR,rowL_len,rowL_get hc,decide_eq_true hc,decide_eq_false hpos,decide_eq_true (show b<0 by omega),cT,cF,succ_wrap (show i≤1000000 by omega)]
   ·subst h1
    have hr:r<m:=by have:=h2.lt;omega
    have gr:=matL_get (w:=w) (T:=T) hr
    have t1:=ptimes_ok (abs_small (hb i R hlt hR)) (abs_small (hb r c hr hc))
    have t2:=ptimes_ok (abs_small (hb r R hr hR)) (abs_small (hb i c hlt hc))
    have hpr:0<T r c:=h2.pos
    refine ⟨(if T i R*T r c<T r R*T i c∨(T i R*T r c=T r R*T i c∧β i<β r) then (i:Int) else (r:Int),((i+1:Nat):Int),PUnit.unit),⟨i+1,by omega,rfl,.inr ?_⟩,by simp only;omega,fun rec=>?_⟩
    ·simp only
     by_cases hq:T i R*T r c<T r R*T i c∨(T i R*T r c=T r R*T i c∧β i<β r)
     ·rw[if_pos hq]
      have hle:T i R*T r c≤T r R*T i c:=by rcases hq with h | h<;>omega
      have hpi:0<T i c:=by omega
      refine ⟨i,rfl,⟨by omega,hpi,fun k hk hp=>?_,fun k hk hp he=>?_⟩⟩
      ·have hp:0<T k c:=hp
       by_cases e:k=i
       ·subst e;exact Int.le_refl _
       ·exact frac_trans hpi hpr hp hle (h2.le k (by omega) hp)
      ·have hp:0<T k c:=hp
       have he:T i R*T k c=T k R*T i c:=he
       by_cases e:k=i
       ·subst e;exact Nat.le_refl _
       ·obtain ⟨e1,e2⟩:=frac_tie hpi hpr hp hle (h2.le k (by omega) hp) he
        have h3:β r≤β k:=h2.tie k (by omega) hp e2
        show β i≤β k
        rcases hq with h | h<;>omega
     ·rw[if_neg hq]
      have h3:=fun h=>hq (.inl h)
      refine ⟨r,rfl,ext r h2 fun hp=>⟨by omega,fun he=>?_⟩⟩
      have h4:=fun h=>hq (.inr ⟨he.symm,h⟩)
      omega
    ·simp only[matL_len,inB_nat,Int.toNat_natCast,decide_eq_true hlt,decide_eq_true hr,decide_eq_true (show (i:Int)<m by omega),gR,gr,rowL_len,rowL_get hc,rowL_get hR,decide_eq_true hc,decide_eq_true hR,decide_eq_false hpos,decide_eq_false (show ¬ (r:Int)<0 by omega),cT,cF,succ_wrap (show i≤1000000 by omega),
      t1,t2,obind_some',pcmp2_ok,basL_len,basL_get hlt,basL_get hr]
     by_cases c1:T i R*T r c<T r R*T i c
     ·rw[if_pos c1,if_pos (.inl c1)]
      generalize decide ((β i:Int)<β r)=bb
      cases bb<;>rfl
     ·by_cases c2:T i R*T r c=T r R*T i c
      ·rw[if_neg c1,if_pos c2]
       by_cases c3:β i<β r
       ·rw[if_pos (.inr ⟨c2,c3⟩),decide_eq_true (show (β i:Int)<β r by omega)]
        rfl
       ·rw[if_neg (by rintro (h | h)<;>omega),decide_eq_false (show ¬ (β i:Int)<β r by omega)]
        rfl
      ·rw[if_neg c1,if_neg c2,if_neg (by rintro (h | h)<;>omega)]
       generalize decide ((β i:Int)<β r)=bb
       cases bb<;>rfl
 ·left
  have e:i=m:=by omega
  subst e
  refine ⟨b,hI,fun rec=>?_⟩
  simp only[matL_len,decide_eq_false (show ¬ (i:Int)<i by omega),cF]
end Go.Proofs.Ytnbbackjofgcfaa

namespace Go.Proofs.Ytnbbackjofgcfaa
open Try Dn Dn.Sh
theorem sz_bound {n:Nat} {f:Nat→Int} {B:Int} (h:∀i,i<n→ -B≤f i∧f i≤B): -(n*B)≤sz n f∧sz n f≤n*B:=by
 induction n with
 | zero=>simp[sz]
 | succ n ih =>
  have h1:=ih fun i hi=>h i (by omega)
  have h2:=h n (by omega)
  simp only[sz]
  rw[show ((n+1:Nat):Int)*B=n*B+B by rw[show ((n+1:Nat):Int)=(n:Int)+1 by omega,Int.add_mul,Int.one_mul]]
  omega
theorem artificial_ok {m w:Nat} {T:Nat→Nat→Int} {β:Nat→Nat} {N j:Nat} {x1 x6:Int} {x3 x4:List Int} (hm:m≤1000) (hj:j<w) (hb:∀i,i<m→ -1125899906842624≤T i j∧T i j≤1125899906842624) :
  program_table_artificial (matL m w T,x1,basL m β,x3,x4,(N:Int),x6) (j:Int)=some (sz m fun i=>arts N (β i)*T i j):=by
 unfold program_table_artificial program_table_artificial_b
 have hterm:∀i,i<m→ -1125899906842624≤arts N (β i)*T i j∧arts N (β i)*T i j≤1125899906842624:=fun i hi=>by
  have:=hb i hi
  unfold arts
  split<;>omega
 refine lpK_seq m (by omega) (fun i=>(sz i (fun k=>arts N (β k)*T k j),(i:Int),PUnit.unit)) _ (fun again i hi=>?_) (fun again=>?_)
 ·have h1:=sz_bound (n:=i) (f:=fun k=>arts N (β k)*T k j) (B:=1125899906842624) fun k hk=>hterm k (by omega)
  have h2:=hterm i hi
  have hi2:(i:Int)≤1000:=by omega
  have h3:(i:Int)*1125899906842624≤1000*1125899906842624:=Int.mul_le_mul_of_nonneg_right hi2 (by omega)
  simp only[matL_len,basL_len,inB_nat,Int.toNat_natCast,decide_eq_true hi,decide_eq_true (show (i:Int)<m by omega),matL_get hi,basL_get hi,rowL_len,rowL_get hj,decide_eq_true hj,cT,succ_wrap (show i≤1000000 by omega)]
  have hT:=hb i hi
  by_cases e:N≤β i
  ·have e1:arts N (β i)*T i j=T i j:=by unfold arts;rw[if_pos e];omega
   rw[decide_eq_true (show (β i:Int)≥N by omega),cond_true,wrap_id (by omega) (by omega)]
   simp only[sz,e1]
  ·have e1:arts N (β i)*T i j=0:=by unfold arts;rw[if_neg e];omega
   rw[decide_eq_false (show ¬ (β i:Int)≥N by omega),cond_false]
   simp only[sz,e1,Int.add_zero]
 ·simp only[matL_len,decide_eq_false (show ¬ (m:Int)<m by omega),cF]
def costAt (cs:List Int) (j:Nat):Int:=cs.getD j 0
theorem cost_ok {M:List (List Int)} {x1:Int} {x2 x3 cs:List Int} {x5 x6:Int} {j:Nat}:program_table_cost (M,x1,x2,x3,cs,x5,x6) (j:Int)=some (costAt cs j):=by
 unfold costAt
 simp only[program_table_cost,program_table_cost_b,inB_nat,Int.toNat_natCast]
 by_cases h:j<cs.length
 ·rw[decide_eq_true h,decide_eq_true (show (j:Int)<cs.length by omega)];rfl
 ·rw[decide_eq_false (show ¬ (j:Int)<cs.length by omega),cond_false,List.getD_eq_getElem?_getD,List.getElem?_eq_none (by omega)];rfl
theorem reduced_ok {m w:Nat} {T:Nat→Nat→Int} {d:Int} {β:Nat→Nat} {j:Nat} {x3 cs:List Int} {x5 x6:Int} (hm:m≤1000) (hj:j<w) (hd: -1125899906842624≤costAt cs j*d∧costAt cs j*d≤1125899906842624)
  (hb:∀i,i<m→ -1125899906842624≤costAt cs (β i)*T i j∧costAt cs (β i)*T i j≤1125899906842624) :
  program_table_reduced (matL m w T,d,basL m β,x3,cs,x5,x6) (j:Int)=some (zr m (costAt cs) ⟨T,d,β⟩ j):=by
 unfold program_table_reduced program_table_reduced_b
 rw[cost_ok,obN]
 refine lpK_seqX m (by omega) (fun i=>(costAt cs j*d - sz i (fun k=>costAt cs (β k)*T k j),(i:Int),PUnit.unit)) _ ?_ (fun again i hi=>?_) (fun again=>?_)
 ·simp only[sz,Int.sub_zero]
  rw[wrap_id (by omega) (by omega)]
  rfl
 ·have h1:=sz_bound (n:=i) (f:=fun k=>costAt cs (β k)*T k j) (B:=1125899906842624) fun k hk=>hb k (by omega)
  have h2:=hb i hi
  have hi2:(i:Int)≤1000:=by omega
  have h3:(i:Int)*1125899906842624≤1000*1125899906842624:=Int.mul_le_mul_of_nonneg_right hi2 (by omega)
  simp only[matL_len,basL_len,inB_nat,Int.toNat_natCast,decide_eq_true hi,decide_eq_true (show (i:Int)<m by omega),matL_get hi,basL_get hi,rowL_len,rowL_get hj,decide_eq_true hj,cT,succ_wrap (show i≤1000000 by omega),cost_ok,obind_some']
  rw[wrap_id (x:=costAt cs (β i)*T i j) (by omega) (by omega),wrap_id (by omega) (by omega)]
  simp only[sz]
  congr 2
  omega
 ·simp only[matL_len,decide_eq_false (show ¬ (m:Int)<m by omega),cF]
  rfl
end Go.Proofs.Ytnbbackjofgcfaa

namespace Go.Proofs.Ytnbbackjofgcfaa
open Try Dn Dn.Sh
structure Bnd (L:Lin) (Y:Lay):Prop where
 ok:Y.ok L
 m:L.m≤12
 w:Y.w L≤64
 P:L.F0*L.P≤17592186044416
theorem ab_abs {x:Int}:ab x=x.natAbs:=rfl
section
variable {L:Lin} {Y:Lay}
theorem Bnd.P' (h:Bnd L Y):L.P≤17592186044416:=by
 have h1:=L.F0_pos
 have h2:=L.P_pos
 have h3:1*L.P≤L.F0*L.P:=Int.mul_le_mul_of_nonneg_right h1 (by omega)
 have:=h.P
 omega
theorem Bnd.tab (h:Bnd L Y) {T:Nat→Nat→Int} {d:Int} {β:Nat→Nat} (ht:Tb L.m (Y.w L) (Y.M L) T d β):(0<d∧d≤17592186044416)∧∀i j,i<L.m→j<Y.w L→(T i j).natAbs≤17592186044416:=by
 obtain ⟨h1,h2⟩:=table_bound h.ok ht
 have h3:=h.P'
 refine ⟨⟨ht.dpos,by omega⟩,fun i j hi hj=>?_⟩
 have:=h2 i j hi hj
 rw[ab_abs] at this
 omega
theorem costs_le (j:Nat):(costs L j).natAbs≤L.F0 - 1:=by
 unfold costs Lin.F0
 have h0:0≤sz L.n fun j=>ab (L.c j):=sz_nonneg fun j _=>ab_nonneg _
 split
 ·rename_i hj
  have h1:(sz L.n fun i=>if i=j then ab (L.c j) else 0)≤sz L.n fun j=>ab (L.c j):=sz_le fun i _=>by
   by_cases e:i=j
   ·rw[if_pos e,e];exact Int.le_refl _
   ·rw[if_neg e];exact ab_nonneg _
  rw[sz_one hj fun i _ hne=>if_neg hne,if_pos rfl,ab_abs] at h1
  omega
 ·simp only[Int.natAbs_zero]
  omega
theorem Bnd.cost (h:Bnd L Y) {x:Int} (hx:(x.natAbs:Int)≤L.P) (j:Nat): -17592186044416≤costs L j*x∧costs L j*x≤17592186044416:=by
 have h1:=costs_le (L:=L) j
 have h2:((costs L j*x).natAbs:Int)≤L.F0*L.P:=by
  rw[Int.natAbs_mul,Int.natCast_mul]
  refine Int.le_trans (Int.mul_le_mul (show ((costs L j).natAbs:Int)≤L.F0 by omega) hx (by omega) (by omega)) (Int.le_refl _)
 have:=h.P
 omega
theorem Bnd.tabP (h:Bnd L Y) {T:Nat→Nat→Int} {d:Int} {β:Nat→Nat} (ht:Tb L.m (Y.w L) (Y.M L) T d β):(d.natAbs:Int)≤L.P∧∀i j,i<L.m→j<Y.w L→((T i j).natAbs:Int)≤L.P:=by
 obtain ⟨h1,h2⟩:=table_bound h.ok ht
 have:=ht.dpos
 exact ⟨by omega,fun i j hi hj=>h2 i j hi hj⟩
theorem sg_abs (x:Int) (y:Int):(sg x*y).natAbs=y.natAbs:=by unfold sg;split<;>omega
theorem Bnd.piv (h:Bnd L Y) {T:Nat→Nat→Int} {d:Int} {β:Nat→Nat} (ht:Tb L.m (Y.w L) (Y.M L) T d β) {r c:Nat} (hr:r<L.m) (hc:c<Y.w L) (he:T r c≠0):PivOk L.m (Y.w L) T d r c:=by
 obtain ⟨h1,h2⟩:=h.tab ht
 obtain ⟨h3,h4⟩:=h.tab (ht.step hr hc he)
 have:=h.m
 have:=h.w
 refine ⟨by omega,by omega,hr,hc,by omega,fun i j hi hj=>by have:=h2 i j hi hj;omega,fun i j hi hne hj=>piv_exact ht hr hi (Ne.symm hne) hc hj,fun i j hi hne hj=>?_⟩
 have h5:=h4 i j hi hj
 unfold pivT at h5
 rw[if_neg hne,sg_abs] at h5
 omega
def AZ (L:Lin) (Y:Lay) (S:Sx):Prop:=∀i,i<L.m→Y.N≤S.β i→(∀j,j<Y.N→S.T i j=0)∧S.T i (Y.R L)=0
theorem AZ.art (S:Sx) (h:AZ L Y S):noArt L.m Y.N S (Y.R L):=fun i hi hN=>(h i hi hN).2
theorem AZ.col (S:Sx) (h:AZ L Y S) {q:Nat} (hq:q<Y.N):noArt L.m Y.N S q:=fun i hi hN=>(h i hi hN).1 q hq
def stepS (S:Sx) (r c:Nat):Sx:=⟨pivT S.T S.d r c,sg (S.T r c)*S.T r c,upd S.β r c⟩
theorem stepS_at {m w:Nat} {S:Sx} {r c:Nat} (hp:0<S.T r c):StepAt m w S (stepS S r c) r c:=by
 have e:sg (S.T r c)=1:=by unfold sg;rw[if_neg (by omega)]
 refine ⟨fun i j _ _=>?_,?_,fun i _=>rfl⟩
 ·show pivT S.T S.d r c i j=_
  unfold pivT
  rw[e,Int.one_mul]
 ·show sg (S.T r c)*S.T r c=_
  rw[e,Int.one_mul]
theorem AZ.step {S:Sx} (h:AZ L Y S) {r c:Nat} (hc:c<Y.N):AZ L Y (stepS S r c):=fun i hi hN=>by
 have hb:(stepS S r c).β i=upd S.β r c i:=rfl
 rw[hb] at hN
 unfold upd at hN
 by_cases e:i=r
 ·rw[if_pos e] at hN;omega
 ·rw[if_neg e] at hN
  obtain ⟨h1,h2⟩:=h i hi hN
  have hT:∀j,(stepS S r c).T i j=sg (S.T r c)*Dn.piv S.T S.d r c i j:=fun j=>by
   show pivT S.T S.d r c i j=_
   unfold pivT
   rw[if_neg e]
  have hz:∀j,S.T i j=0→Dn.piv S.T S.d r c i j=0:=fun j hj=>by
   unfold Dn.piv
   rw[hj,h1 c hc,Int.mul_zero,Int.zero_mul,Int.sub_zero,Int.zero_ediv]
  exact ⟨fun j hj=>by rw[hT,hz j (h1 j hj),Int.mul_zero],by rw[hT,hz _ h2,Int.mul_zero]⟩
abbrev encS (L:Lin) (Y:Lay) (x3 cs:List Int) (S:Sx):(List Nat×List (Option (List Int)))×Int×List Int×List Int×List Int×Int×Int×PUnit:=(tabL L.m (Y.w L) S.T,S.d,basL L.m S.β,x3,cs,(Y.N:Int),((Y.R L:Nat):Int),PUnit.unit)
theorem improve_ok (h:Bnd L Y) (hp:(Y.w L) ^ L.m≤1180591620717411303424) {x3 cs:List Int} (hcs:∀j,costAt cs j=costs L j) {S:Sx} (hv:Y.Val L S) (ha:AZ L Y S) :
  ∃S' ok,program_table_improve (tabL L.m (Y.w L) S.T) S.d (basL L.m S.β) x3 cs (Y.N:Int) ((Y.R L:Nat):Int)=some (tabL L.m (Y.w L) S'.T,S'.d,basL L.m S'.β,x3,cs,(Y.N:Int),((Y.R L:Nat):Int),ok,())∧Y.Val L S'∧AZ L Y S' ∧
   (ok=true→∀j,j<Y.N→0≤zr L.m (costs L) S' j)∧(ok=false→∃q,q<Y.N∧zr L.m (costs L) S' q<0∧∀i,i<L.m→S'.T i q≤0):=by
 have hcs':costAt cs=costs L:=funext hcs
 have hm:=h.m
 have hw:=h.w
 have hN:Y.N≤Y.R L:=by unfold Lay.R;omega
 have hRw:Y.R L<Y.w L:=by unfold Lay.R Lay.w;omega
 unfold program_table_improve program_table_improve_b
 have fin:∀{x:Option ((List Nat×List (Option (List Int)))×Int×List Int×List Int×List Int×Int×Int×Bool×Unit)},(∃r,x=some r∧∃S' ok,r=(tabL L.m (Y.w L) S'.T,S'.d,basL L.m S'.β,x3,cs,(Y.N:Int),((Y.R L:Nat):Int),ok,PUnit.unit)∧Y.Val L S'∧AZ L Y S' ∧
   (ok=true→∀j,j<Y.N→0≤zr L.m (costs L) S' j)∧(ok=false→∃q,q<Y.N∧zr L.m (costs L) S' q<0∧∀i,i<L.m→S'.T i q≤0))→∃S' ok,x=some (tabL L.m (Y.w L) S'.T,S'.d,basL L.m S'.β,x3,cs,(Y.N:Int),((Y.R L:Nat):Int),ok,())∧Y.Val L S'∧AZ L Y S' ∧
   (ok=true→∀j,j<Y.N→0≤zr L.m (costs L) S' j)∧(ok=false→∃q,q<Y.N∧zr L.m (costs L) S' q<0∧∀i,i<L.m→S'.T i q≤0):=by
  rintro x ⟨r,h1,S',ok,rfl,h3⟩
  exact ⟨S',ok,h1,h3⟩
 refine fin (lpK_exG (γ:=Sx) (I:=fun (S:Sx) x=>x=encS L Y x3 cs S∧Y.Val L S∧AZ L Y S)
  (Q:=fun r=>∃S' ok,r=(tabL L.m (Y.w L) S'.T,S'.d,basL L.m S'.β,x3,cs,(Y.N:Int),((Y.R L:Nat):Int),ok,PUnit.unit)∧Y.Val L S'∧AZ L Y S' ∧
   (ok=true→∀j,j<Y.N→0≤zr L.m (costs L) S' j)∧(ok=false→∃q,q<Y.N∧zr L.m (costs L) S' q<0∧∀i,i<L.m→S'.T i q≤0))
  (μ:=fun S=>left L.m (Y.w L) Y.N (Y.R L) (Y.M L) (costs L) S) ?_ (s:=S) ⟨rfl,hv,ha⟩ (Nat.lt_of_lt_of_le (left_lt (by unfold Lay.w;omega) S) hp))
 rintro S _ ⟨rfl,hv,ha⟩
 obtain ⟨hd,hb⟩:=h.tabP hv.tb
 have hred:∀j,j<Y.N→program_table_reduced (matL L.m (Y.w L) S.T,S.d,basL L.m S.β,x3,cs,(Y.N:Int),((Y.R L:Nat):Int)) (j:Int)=some (zr L.m (costs L) S j):=fun j hj=>by
  have hjw:j<Y.w L:=by omega
  have:=reduced_ok (m:=L.m) (w:=Y.w L) (T:=S.T) (d:=S.d) (β:=S.β) (j:=j) (x3:=x3) (cs:=cs) (x5:=(Y.N:Int)) (x6:=((Y.R L:Nat):Int)) (by omega) hjw
   (by rw[hcs'];have:=h.cost hd j;omega) (fun i hi=>by rw[hcs'];have:=h.cost (hb i j hi hjw) (S.β i);omega)
  rw[this,hcs']
 rcases first_of Y.N (fun j=>decide (zr L.m (costs L) S j<0)) with hnone | ⟨q,hq,hneg,hleast⟩
 ·left
  refine ⟨_,⟨S,true,rfl,hv,ha,fun _ j hj=>by have:=of_decide_eq_false (hnone j hj);omega,fun e=>by cases e⟩,fun rec=>?_⟩
  refine lpK_seq Y.N (by omega) (fun j=>((-1:Int),(j:Int),PUnit.unit)) _ (fun again j hj=>?_) (fun again=>?_)
  ·simp only[not_or_self',cT,decide_eq_true (show (j:Int)<Y.N by omega),show decide ((-1:Int)<0)=true from rfl,tab_all,tab_map,hred j hj,obind_some',hnone j hj,cF,succ_wrap (show j≤1000000 by omega)]
  ·simp only[not_or_self',cT,cF,decide_eq_false (show ¬ (Y.N:Int)<Y.N by omega),show decide ((-1:Int)<0)=true from rfl]
 ·have hneg:=of_decide_eq_true hneg
  have hqw:q<Y.w L:=by omega
  have hent:Enters L.m Y.N (costs L) S q:=⟨hq,hneg,fun j hj=>by have:=of_decide_eq_false (hleast j hj);omega⟩
  have hbb:∀i j,i<L.m→j<Y.w L→(S.T i j).natAbs<4611686018427387904:=fun i j hi hj=>by have:=(h.tab hv.tb).2 i j hi hj;omega
  obtain ⟨b,hl1,hl2⟩:=leaving_ok (m:=L.m) (w:=Y.w L) (T:=S.T) (d:=S.d) (β:=S.β) (c:=q) (R:=Y.R L) (x1:=S.d) (x3:=x3) (x4:=cs) (x5:=(Y.N:Int)) (by omega) hqw hRw hbb
  have search:∀{R:Type} {F:(Int×Int×PUnit→Option R)→Int×Int×PUnit→Option R} {res:Option R},(∀again j,j<q→F again ((-1:Int),(j:Int),PUnit.unit)=again ((-1:Int),((j+1:Nat):Int),PUnit.unit)) →
    (∀again,F again ((-1:Int),(q:Int),PUnit.unit)=again ((q:Int),((q+1:Nat):Int),PUnit.unit))→(∀again,F again ((q:Int),((q+1:Nat):Int),PUnit.unit)=res)→lpK (Int×Int×PUnit) R F ((-1:Int),(0:Int),PUnit.unit)=res:=fun h1 h2 h3=>by
   refine lpK_seqX (q+1) (by omega) (fun j=>if j≤q then ((-1:Int),(j:Int),PUnit.unit) else ((q:Int),(j:Int),PUnit.unit)) _ (by rw[if_pos (by omega)];rfl) (fun again j hj=>?_) (fun again=>?_)
   ·by_cases e:j=q
    ·subst e
     rw[if_pos (by omega),if_neg (by omega)]
     exact h2 again
    ·rw[if_pos (by omega),if_pos (by omega)]
     exact h1 again j (by omega)
   ·rw[if_neg (by omega)]
    exact h3 again
  rcases hl2 with ⟨e,hno⟩ | ⟨r,e,hlv⟩
  ·subst e
   left
   refine ⟨_,⟨S,false,rfl,hv,ha,fun e=>(by cases e),fun _=>⟨q,hq,hneg,hno⟩⟩,fun rec=>?_⟩
   refine search (fun again j hj=>?_) (fun again=>?_) (fun again=>?_)
   ·simp only[not_or_self',cT,decide_eq_true (show (j:Int)<Y.N by omega),show decide ((-1:Int)<0)=true from rfl,tab_all,tab_map,hred j (by omega),obind_some',hleast j hj,cF,succ_wrap (show j≤1000000 by omega)]
   ·simp only[not_or_self',cT,decide_eq_true (show (q:Int)<Y.N by omega),show decide ((-1:Int)<0)=true from rfl,tab_all,tab_map,hred q hq,obind_some',decide_eq_true hneg,succ_wrap (show q≤1000000 by omega)]
   ·simp only[not_or_self',cT,decide_eq_false (show ¬ (q:Int)<0 by omega),bif_false',Bool.and_false,cF,tab_all,tab_map,hl1,obind_some',show decide ((-1:Int)<0)=true from rfl]
  ·subst e
   right
   have hpr:0<S.T r q:=hlv.pos
   have hr:=hlv.lt
   have hs:=stepS_at (m:=L.m) (w:=Y.w L) hpr
   refine ⟨stepS S r q,encS L Y x3 cs (stepS S r q),⟨rfl,hv.stepAt hRw hqw (by omega) hlv hs,ha.step hq⟩,left_step (Lay.art h.ok).1 (Lay.art h.ok).2 hN hRw hv ⟨hent,hlv,hs⟩,fun rec=>?_⟩
   refine search (fun again j hj=>?_) (fun again=>?_) (fun again=>?_)
   ·simp only[not_or_self',cT,decide_eq_true (show (j:Int)<Y.N by omega),show decide ((-1:Int)<0)=true from rfl,tab_all,tab_map,hred j (by omega),obind_some',hleast j hj,cF,succ_wrap (show j≤1000000 by omega)]
   ·simp only[not_or_self',cT,decide_eq_true (show (q:Int)<Y.N by omega),show decide ((-1:Int)<0)=true from rfl,tab_all,tab_map,hred q hq,obind_some',decide_eq_true hneg,succ_wrap (show q≤1000000 by omega)]
   ·simp only[not_or_self',cT,decide_eq_false (show ¬ (q:Int)<0 by omega),bif_false',Bool.and_false,cF,tab_all,tab_map,hl1,obind_some',decide_eq_false (show ¬ (r:Int)<0 by omega),pivot_ok (h.piv hv.tb hr hqw (show S.T r q≠0 by omega))]
    rfl
end
end Go.Proofs.Ytnbbackjofgcfaa

namespace Go.Proofs.Ytnbbackjofgcfaa
open Try Dn Dn.Sh
section
variable {L:Lin} {Y:Lay}
theorem Val.flat {S:Sx} (hv:Y.Val L S) {r c:Nat} (hr:r<L.m) (hc:c<Y.N) (he:S.T r c≠0) (h0:S.T r (Y.R L)=0):Y.Val L (stepS S r c):=by
 have hcw:c<Y.w L:=by unfold Lay.w;omega
 have hRw:Y.R L<Y.w L:=by unfold Lay.R Lay.w;omega
 have hd:=hv.tb.dpos
 refine ⟨hv.tb.step hr hcw he,fun i hi=>?_,fun i hi=>?_⟩
 ·show 0≤pivT S.T S.d r c i (Y.R L)
  unfold pivT
  by_cases e:i=r
  ·rw[if_pos e,h0,Int.mul_zero];exact Int.le_refl _
  ·rw[if_neg e]
   have h1:=piv_exact hv.tb hr hi (Ne.symm e) hcw hRw
   rw[h0,Int.mul_zero,Int.sub_zero] at h1
   have h2:0≤sg (S.T r c)*S.T r c*S.T i (Y.R L):=Int.mul_nonneg (Int.le_of_lt (sg_pos he)) (hv.feas i hi)
   rw[Int.mul_assoc,←h1] at h2
   have h3:sg (S.T r c)*(S.d*Dn.piv S.T S.d r c i (Y.R L))=S.d*(sg (S.T r c)*Dn.piv S.T S.d r c i (Y.R L)):=by grind
   rw[h3] at h2
   exact Int.nonneg_of_mul_nonneg_right h2 hd
 ·show upd S.β r c i≠_
  unfold upd
  split
  ·unfold Lay.R;omega
  ·exact hv.ne i hi
theorem piv_zero {T:Nat→Nat→Int} {d:Int} {r c i j:Nat} (h1:T i j=0) (h2:T i c=0∨T r j=0):Dn.piv T d r c i j=0:=by
 unfold Dn.piv
 rw[h1,Int.mul_zero]
 rcases h2 with h | h
 ·rw[h,Int.zero_mul,Int.sub_zero,Int.zero_ediv]
 ·rw[h,Int.mul_zero,Int.sub_zero,Int.zero_ediv]
structure Swp (L:Lin) (Y:Lay) (i:Nat) (S:Sx):Prop where
 val:Y.Val L S
 right:∀k,k<L.m→Y.N≤S.β k→S.T k (Y.R L)=0
 rows:∀k,k<L.m→k<i→Y.N≤S.β k→∀j,j<Y.N→S.T k j=0
theorem Swp.step {i:Nat} {S:Sx} (h:Swp L Y i S) {j:Nat} (hi:i<L.m) (hj:j<Y.N) (hN:Y.N≤S.β i) (he:S.T i j≠0):Swp L Y i (stepS S i j):=by
 have h0:=h.right i hi hN
 have up:∀k,k≠i→(stepS S i j).β k=S.β k:=fun k hk=>by
  show upd S.β i j k=_
  unfold upd
  rw[if_neg hk]
 have ui:(stepS S i j).β i=j:=by
  show upd S.β i j i=_
  unfold upd
  rw[if_pos rfl]
 have hT:∀k l,k≠i→(stepS S i j).T k l=sg (S.T i j)*Dn.piv S.T S.d i j k l:=fun k l hk=>by
  show pivT S.T S.d i j k l=_
  unfold pivT
  rw[if_neg hk]
 refine ⟨Val.flat h.val hi hj he h0,fun k hk hb=>?_,fun k hk hlt hb l hl=>?_⟩
 ·have e:k≠i:=fun e=>by rw[e,ui] at hb;omega
  rw[up k e] at hb
  rw[hT k _ e,piv_zero (h.right k hk hb) (.inr h0),Int.mul_zero]
 ·have e:k≠i:=by omega
  rw[up k e] at hb
  rw[hT k _ e,piv_zero (h.rows k hk hlt hb l hl) (.inl (h.rows k hk hlt hb j hj)),Int.mul_zero]
def StartQ (L:Lin) (Y:Lay) (x3 cs:List Int) (o:Option ((List Nat×List (Option (List Int)))×Int×List Int×List Int×List Int×Int×Int×Bool×Unit)):Prop :=
 ∃S' ok,o=some (tabL L.m (Y.w L) S'.T,S'.d,basL L.m S'.β,x3,cs,(Y.N:Int),((Y.R L:Nat):Int),ok,PUnit.unit)∧Y.Val L S' ∧
   (ok=true→AZ L Y S')∧(ok=false→(∀j,j<Y.N→0≤zr L.m (arts Y.N) S' j)∧0<sz L.m fun i=>arts Y.N (S'.β i)*S'.T i (Y.R L))
theorem start_ok (h:Bnd L Y) (hp:(Y.w L) ^ L.m≤1180591620717411303424) {x3 cs:List Int} {S:Sx} (hv:Y.Val L S) :
  StartQ L Y x3 cs (program_table_start (tabL L.m (Y.w L) S.T) S.d (basL L.m S.β) x3 cs (Y.N:Int) ((Y.R L:Nat):Int)):=by
 have hm:=h.m
 have hw:=h.w
 have hN:Y.N≤Y.R L:=by unfold Lay.R;omega
 have hRw:Y.R L<Y.w L:=by unfold Lay.R Lay.w;omega
 unfold program_table_start program_table_start_b
 refine lpK_exR (γ:=Sx) (I:=fun (S:Sx) x=>x=encS L Y x3 cs S∧Y.Val L S)
  (Q:=StartQ L Y x3 cs)
  (μ:=fun S=>left L.m (Y.w L) Y.N (Y.R L) (Y.M L) (arts Y.N) S) ?_ (s:=S) ⟨rfl,hv⟩ (Nat.lt_of_lt_of_le (left_lt (by unfold Lay.w;omega) S) hp)
 rintro rec S _ ⟨rfl,hv⟩
 obtain ⟨hd,hb⟩:=h.tab hv.tb
 have hbb:∀i j,i<L.m→j<Y.w L→(S.T i j).natAbs<4611686018427387904:=fun i j hi hj=>by have:=hb i j hi hj;omega
 have hart:∀j,j<Y.w L→program_table_artificial (matL L.m (Y.w L) S.T,S.d,basL L.m S.β,x3,cs,(Y.N:Int),((Y.R L:Nat):Int)) (j:Int)=some (sz L.m fun i=>arts Y.N (S.β i)*S.T i j):=fun j hj =>
  artificial_ok (by omega) hj fun i hi=>by have:=hb i j hi hj;omega
 have hz:∀j,j<Y.N→zr L.m (arts Y.N) S j= - sz L.m fun i=>arts Y.N (S.β i)*S.T i j:=fun j hj=>by
  unfold zr
  rw[show arts Y.N j=0 from if_neg (by omega),Int.zero_mul,Int.zero_sub]
 rcases first_of Y.N (fun j=>decide ((sz L.m fun i=>arts Y.N (S.β i)*S.T i j)>0)) with hnone | ⟨q,hq,hneg,hleast⟩
 ·left
  have search:∀{R:Type} {F:(Int×Int×PUnit→Option R)→Int×Int×PUnit→Option R} {Q:Option R→Prop},(∀again j,j<Y.N→F again ((-1:Int),(j:Int),PUnit.unit)=again ((-1:Int),((j+1:Nat):Int),PUnit.unit)) →
    (∃res,Q res∧∀again,F again ((-1:Int),(Y.N:Int),PUnit.unit)=res)→Q (lpK (Int×Int×PUnit) R F ((-1:Int),(0:Int),PUnit.unit)):=fun {R} {F} {Q} h1 h3=>by
   obtain ⟨res,h4,h5⟩:=h3
   have e:lpK (Int×Int×PUnit) R F ((-1:Int),(0:Int),PUnit.unit)=res:=lpK_seqX Y.N (by omega) (fun j=>((-1:Int),(j:Int),PUnit.unit)) res rfl h1 h5
   rw[e]
   exact h4
  refine search (Q:=StartQ L Y x3 cs) (fun again j hj=>?_) ?_
  ·simp only[not_or_self',cT,decide_eq_true (show (j:Int)<Y.N by omega),show decide ((-1:Int)<0)=true from rfl,tab_all,tab_map,hart j (by omega),obind_some',hnone j hj,cF,succ_wrap (show j≤1000000 by omega)]
  ·simp only[not_or_self',cT,cF,decide_eq_false (show ¬ (Y.N:Int)<Y.N by omega),show decide ((-1:Int)<0)=true from rfl,tab_all,tab_map,hart _ hRw,obind_some']
   have hzr:∀j,j<Y.N→0≤zr L.m (arts Y.N) S j:=fun j hj=>by
    rw[hz j hj]
    have:=of_decide_eq_false (hnone j hj)
    omega
   by_cases hpos:(sz L.m fun i=>arts Y.N (S.β i)*S.T i (Y.R L))>0
   ·rw[decide_eq_true hpos]
    simp only[cT]
    exact ⟨_,⟨S,false,rfl,hv,fun e=>(by cases e),fun _=>⟨hzr,hpos⟩⟩,fun _=>rfl⟩
   ·rw[decide_eq_false hpos]
    simp only[cF]
    refine ⟨_,?_,fun _=>rfl⟩
    have hnn:∀i,i<L.m→0≤arts Y.N (S.β i)*S.T i (Y.R L):=fun i hi=>Int.mul_nonneg (by unfold arts;split<;>omega) (hv.feas i hi)
    have hS:Swp L Y 0 S:=by
     refine ⟨hv,fun k hk hNk=>?_,fun k _ h0=>by omega⟩
     have h1:(sz L.m fun i=>if i=k then arts Y.N (S.β k)*S.T k (Y.R L) else 0)≤sz L.m fun i=>arts Y.N (S.β i)*S.T i (Y.R L):=sz_le fun i hi=>by
      by_cases e:i=k
      ·rw[if_pos e,e];exact Int.le_refl _
      ·rw[if_neg e];exact hnn i hi
     rw[sz_one hk fun i _ hne=>if_neg hne,if_pos rfl] at h1
     have h2:=hnn k hk
     have h3:arts Y.N (S.β k)=1:=if_pos hNk
     rw[h3,Int.one_mul] at h1 h2
     omega
    refine lpK_exR (γ:=Nat×Sx) (I:=fun g x=>x=((g.1:Int),encS L Y x3 cs g.2)∧g.1≤L.m∧Swp L Y g.1 g.2)
     (Q:=StartQ L Y x3 cs)
     (μ:=fun g=>L.m - g.1) ?_ (s:=(0,S)) ⟨rfl,by omega,hS⟩ (by simp only;omega)
    rintro rec2 ⟨i,S⟩ _ ⟨rfl,hi,hS⟩
    simp only at hi hS
    by_cases hlt:i<L.m
    ·right
     simp only[tabL_len,decide_eq_true (show (i:Int)<L.m by omega),cT]
     have inner:∀{R:Type} {F:(Int×(List Nat×List (Option (List Int)))×Int×List Int×List Int×List Int×Int×Int×PUnit→Option R)→Int×(List Nat×List (Option (List Int)))×Int×List Int×List Int×List Int×Int×Int×PUnit→Option R} {k:(Int×(List Nat×List (Option (List Int)))×Int×List Int×List Int×List Int×Int×Int×PUnit→Option R)},
       (∀again (j:Nat) S,Swp L Y i S→j≤Y.N→(j<Y.N→Y.N≤S.β i→S.T i j=0→F again ((j:Int),encS L Y x3 cs S)=again (((j+1:Nat):Int),encS L Y x3 cs S))∧(j<Y.N→Y.N≤S.β i→S.T i j≠0→F again ((j:Int),encS L Y x3 cs S)=again (((j+1:Nat):Int),encS L Y x3 cs (stepS S i j))) ∧
        (¬ (j<Y.N∧Y.N≤S.β i)→F again ((j:Int),encS L Y x3 cs S)=k (((i+1:Nat):Int),encS L Y x3 cs S))) →
       ∃S',Swp L Y (i+1) S'∧lpK _ R F ((0:Int),encS L Y x3 cs S)=k (((i+1:Nat):Int),encS L Y x3 cs S'):=fun {R} {F} {k} hF=>by
      refine lpK_exR (γ:=Nat×Sx) (I:=fun g x=>x=((g.1:Int),encS L Y x3 cs g.2)∧g.1≤Y.N∧Swp L Y i g.2∧(Y.N≤g.2.β i→∀l,l<g.1→g.2.T i l=0))
       (Q:=fun o=>∃S',Swp L Y (i+1) S'∧o=k (((i+1:Nat):Int),encS L Y x3 cs S')) (μ:=fun g=>Y.N - g.1) ?_ (s:=(0,S)) ⟨rfl,by omega,hS,fun _ l hl=>by omega⟩ (by simp only;omega)
      rintro rec3 ⟨j,S⟩ _ ⟨rfl,hj,hS,hz⟩
      simp only at hj hS hz
      obtain ⟨f1,f2,f3⟩:=hF rec3 j S hS hj
      by_cases hc:j<Y.N∧Y.N≤S.β i
      ·right
       by_cases h0:S.T i j=0
       ·refine ⟨(j+1,S),_,⟨rfl,by simp only;omega,hS,fun hN l hl=>?_⟩,by simp only;omega,f1 hc.1 hc.2 h0⟩
        simp only at hl
        by_cases e:l=j
        ·rw[e];exact h0
        ·exact hz hN l (by omega)
       ·refine ⟨(j+1,stepS S i j),_,⟨rfl,by simp only;omega,hS.step hlt hc.1 hc.2 h0,fun hN=>?_⟩,by simp only;omega,f2 hc.1 hc.2 h0⟩
        have e:(stepS S i j).β i=j:=by
         show upd S.β i j i=_
         unfold upd
         rw[if_pos rfl]
        rw[e] at hN
        omega
      ·left
       refine ⟨S,⟨hS.val,hS.right,fun k hk hlt' hN l hl=>?_⟩,f3 hc⟩
       by_cases e:k=i
       ·subst e
        exact hz hN l (by omega)
       ·exact hS.rows k hk (by omega) hN l hl
     have fin:∀{o},(∃S',Swp L Y (i+1) S'∧o=rec2 (((i+1:Nat):Int),encS L Y x3 cs S'))→∃(g:Nat×Sx) (y:_),(y=((g.1:Int),encS L Y x3 cs g.2)∧g.1≤L.m∧Swp L Y g.1 g.2)∧L.m - g.1<L.m - i∧o=rec2 y:=by
      rintro o ⟨S',h1,h2⟩
      exact ⟨(i+1,S'),_,⟨rfl,by simp only;omega,h1⟩,by simp only;omega,h2⟩
     refine fin (inner (fun again j S hS hj=>⟨fun c1 c2 c3=>?_,fun c1 c2 c3=>?_,fun c1=>?_⟩))
     ·have hjw:j<Y.w L:=by omega
      simp only[encS,decide_eq_true (show (j:Int)<Y.N by omega),basL_len,inB_nat,Int.toNat_natCast,decide_eq_true hlt,ble_of (show Nat.succ i≤L.m from hlt),basL_get hlt,decide_eq_true (show (S.β i:Int)≥Y.N by omega),Bool.not_true,Bool.or_true,Bool.and_self,cT,tabL_len,tabL_idx hlt,tab_snd,cell_row hlt,rowL_len,rowL_get hjw,decide_eq_true hjw,ble_of (show Nat.succ j≤Y.w L from hjw),decide_eq_true c3,cF,succ_wrap (show j≤1000000 by omega)]
     ·have hjw:j<Y.w L:=by omega
      simp only[encS,decide_eq_true (show (j:Int)<Y.N by omega),basL_len,inB_nat,Int.toNat_natCast,decide_eq_true hlt,ble_of (show Nat.succ i≤L.m from hlt),basL_get hlt,decide_eq_true (show (S.β i:Int)≥Y.N by omega),Bool.not_true,Bool.not_false,Bool.or_true,Bool.and_self,cT,tabL_len,tabL_idx hlt,tab_snd,cell_row hlt,rowL_len,rowL_get hjw,decide_eq_true hjw,ble_of (show Nat.succ j≤Y.w L from hjw),decide_eq_false c3,cF,succ_wrap (show j≤1000000 by omega),
       pivot_ok (h.piv hS.val.tb hlt hjw c3),obind_some']
      rfl
     ·by_cases c2:j<Y.N
      ·simp only[encS,decide_eq_true (show (j:Int)<Y.N by omega),basL_len,inB_nat,Int.toNat_natCast,decide_eq_true hlt,ble_of (show Nat.succ i≤L.m from hlt),basL_get hlt,decide_eq_false (show ¬ (S.β i:Int)≥Y.N by omega),Bool.not_true,Bool.or_true,Bool.and_self,cT,cF,succ_wrap (show i≤1000000 by omega)]
      ·simp only[encS,decide_eq_false (show ¬ (j:Int)<Y.N by omega),Bool.not_false,Bool.true_or,Bool.and_self,cT,cF,succ_wrap (show i≤1000000 by omega)]
    ·left
     have e:i=L.m:=by omega
     subst e
     simp only[tabL_len,decide_eq_false (show ¬ (L.m:Int)<L.m by omega),cF]
     exact ⟨S,true,rfl,hS.val,fun _ k hk hN=>⟨hS.rows k hk hk hN,hS.right k hk hN⟩,fun e=>by cases e⟩
 ·have hneg:=of_decide_eq_true hneg
  have hqw:q<Y.w L:=by omega
  have hent:Enters L.m Y.N (arts Y.N) S q:=⟨hq,by rw[hz q hq];omega,fun j hj=>by rw[hz j (by omega)];have:=of_decide_eq_false (hleast j hj);omega⟩
  obtain ⟨b,hl1,hl2⟩:=leaving_ok (m:=L.m) (w:=Y.w L) (T:=S.T) (d:=S.d) (β:=S.β) (c:=q) (R:=Y.R L) (x1:=S.d) (x3:=x3) (x4:=cs) (x5:=(Y.N:Int)) (by omega) hqw hRw hbb
  rcases hl2 with ⟨e,hno⟩ | ⟨r,e,hlv⟩
  ·exfalso
   have h1:(sz L.m fun i=>arts Y.N (S.β i)*S.T i q)≤sz L.m fun _=>0:=sz_le fun i hi=>by
    have:=hno i hi
    unfold arts
    split<;>omega
   rw[sz_zero (f:=fun _=>0) fun _ _=>rfl] at h1
   omega
  ·subst e
   right
   have hpr:0<S.T r q:=hlv.pos
   have hr:=hlv.lt
   have hs:=stepS_at (m:=L.m) (w:=Y.w L) hpr
   refine ⟨stepS S r q,encS L Y x3 cs (stepS S r q),⟨rfl,hv.stepAt hRw hqw (by omega) hlv hs⟩,left_step (Lay.art h.ok).1 (Lay.art h.ok).2 hN hRw hv ⟨hent,hlv,hs⟩,?_⟩
   refine lpK_seqX (q+1) (by omega) (fun j=>if j≤q then ((-1:Int),(j:Int),PUnit.unit) else ((q:Int),(j:Int),PUnit.unit)) _ (by rw[if_pos (by omega)];rfl) (fun again j hj=>?_) (fun again=>?_)
   ·by_cases e:j=q
    ·subst e
     rw[if_pos (by omega),if_neg (by omega)]
     simp only[not_or_self',cT,decide_eq_true (show (j:Int)<Y.N by omega),show decide ((-1:Int)<0)=true from rfl,tab_all,tab_map,hart j hqw,obind_some',decide_eq_true hneg,succ_wrap (show j≤1000000 by omega)]
    ·rw[if_pos (by omega),if_pos (by omega)]
     simp only[not_or_self',cT,decide_eq_true (show (j:Int)<Y.N by omega),show decide ((-1:Int)<0)=true from rfl,tab_all,tab_map,hart j (by omega),obind_some',hleast j (by omega),cF,succ_wrap (show j≤1000000 by omega)]
   ·rw[if_neg (by omega)]
    simp only[not_or_self',cT,decide_eq_false (show ¬ (q:Int)<0 by omega),bif_false',Bool.and_false,cF,tab_all,tab_map,hl1,obind_some',show decide ((-1:Int)<0)=true from rfl,pivot_ok (h.piv hv.tb hr hqw (show S.T r q≠0 by omega))]
    rfl
end
end Go.Proofs.Ytnbbackjofgcfaa

namespace Go.Proofs.Ytnbbackjofgcfaa
open Try Dn Dn.Sh
def linP (p:Pg):Lin:=⟨p.1.length,p.2.length,fun k j=>(p.2.getD k rw0).1.getD j 0,fun k=>(p.2.getD k rw0).2.2,fun j=>p.1.getD j 0,fun k=>(p.2.getD k rw0).2.1⟩
def cntS (p:Pg):Nat→Nat
 | 0=>0
 | k+1=>cntS p k+if (p.2.getD k rw0).2.1=3 then 0 else 1
def layP (p:Pg):Lay:=⟨p.1.length+cntS p p.2.length,fun k=>p.1.length+cntS p k,fun k=>if (p.2.getD k rw0).2.2<0 then -1 else 1⟩
theorem cntS_le {p:Pg}:∀k,cntS p k≤k
 | 0=>Nat.le_refl _
 | k+1=>by
  have:=cntS_le (p:=p) k
  simp only[cntS]
  split<;>omega
theorem cntS_lt {p:Pg} {k:Nat}:∀{l:Nat},k<l→(p.2.getD k rw0).2.1≠3→cntS p k<cntS p l
 | 0,h,_=>by omega
 | l+1,h,h3=>by
  simp only[cntS]
  by_cases e:k=l
  ·subst e
   rw[if_neg h3];omega
  ·have:=cntS_lt (l:=l) (by omega) h3
   split<;>omega
theorem layP_ok {p:Pg} (hv:ValidP p):(layP p).ok (linP p):=by
 have row:∀k,k<p.2.length→p.2.getD k rw0 ∈ p.2:=fun k hk=>by rw[getD_nat hk];exact List.getElem_mem _
 refine ⟨Nat.le_add_right _ _,fun k hk=>?_,fun k hk h3=>⟨Nat.le_add_right _ _,?_⟩,fun k l hk hl h3 h4 e=>?_,fun k _=>?_,fun k _=>?_⟩
 ·have:=hv.kind _ (row k hk)
  show (p.2.getD k rw0).2.1=1∨(p.2.getD k rw0).2.1=2∨(p.2.getD k rw0).2.1=3
  omega
 ·have:=cntS_lt (p:=p) (k:=k) (l:=p.2.length) hk h3
  show p.1.length+cntS p k<p.1.length+cntS p p.2.length
  omega
 ·have e:p.1.length+cntS p k=p.1.length+cntS p l:=e
  rcases Nat.lt_trichotomy k l with h | h | h
  ·have:=cntS_lt (p:=p) h h3;omega
  ·exact h
  ·have:=cntS_lt (p:=p) h h4;omega
 ·show (if (p.2.getD k rw0).2.2<0 then (-1:Int) else 1)=1∨(if (p.2.getD k rw0).2.2<0 then (-1:Int) else 1)= -1
  split<;>omega
 ·show 0≤(if (p.2.getD k rw0).2.2<0 then (-1:Int) else 1)*(p.2.getD k rw0).2.2
  split<;>omega
theorem layP_w {p:Pg} (hv:ValidP p):(layP p).w (linP p)≤25∧(linP p).m≤6:=by
 have h1:=cntS_le (p:=p) p.2.length
 have h2:=hv.rows
 have h3:=hv.cost.2
 refine ⟨?_,h2⟩
 show p.1.length+cntS p p.2.length+p.2.length+1≤25
 omega
theorem rowL_snoc {α:Type} {w:Nat} {f:Nat→α}:rowL w f++[f w]=rowL (w+1) f:=by
 unfold rowL
 rw[List.range_succ,List.map_append]
 rfl
theorem cellL_snoc {m w:Nat} {T:Nat→Nat→Int}:cellL m w T++[some (rowL w (T m))]=cellL (m+1) w T:=by
 unfold cellL
 rw[List.range_succ,List.map_append]
 rfl
theorem base_row {l:List Int} {w:Nat} (h:l.length≤w):List.take 0 (List.replicate w (0:Int))++List.take w l++List.drop (0+(List.take w l).length) (List.replicate w 0)=rowL w fun j=>l.getD j 0:=by
 rw[List.take_of_length_le h]
 refine List.ext_getElem (by rw[rowL_len];simp;omega) fun i h1 h2=>?_
 rw[rowL_at]
 have hi:i<w:=by rw[rowL_len] at h2;exact h2
 by_cases e:i<l.length
 ·rw[getD_nat e,List.getElem_append_left (by simp;exact e)]
  simp
 ·rw[List.getElem_append_right (by simp;omega),List.getD_eq_getElem?_getD,List.getElem?_eq_none (by omega)]
  simp
abbrev St:=Int×Int×(List Nat×List (Option (List Int)))×Int×List Int×List Int×List Int×Int×Int×PUnit
noncomputable def newJ {R:Type} (p:Pg) (again:St→Option R) (x:St) (x_1:Int×List Int×PUnit):Option R :=
 let v21:List Int×PUnit:=(x_1.2.1,PUnit.unit);jnK (Int×List Int×PUnit) R (fun (x_2:Int×List Int×PUnit)=>bif inB (IntKind.wrap .i64 (x.2.2.2.2.2.2.2.1+x.2.1)) (List.length x_2.2.1) then bif Nat.ble (Nat.succ (Int.toNat (IntKind.wrap .i64 (x.2.2.2.2.2.2.2.1+x.2.1)))) (List.length x_2.2.1) then bif fitB (List.length x.2.2.1.1+(1:Nat)) (24:Nat) then bif fitB (List.length x.2.2.2.2.2.1+(1:Nat)) (8:Nat) then bif fitB (List.length x.2.2.2.2.1+(1:Nat)) (8:Nat) then again (x_1.1,IntKind.wrap .i64 (x.2.1+(1:Int)),(x.2.2.1.1++[List.length x.2.2.1.2+(0:Nat)],x.2.2.1.2++[some (List.set x_2.2.1 (Int.toNat (IntKind.wrap .i64 (x.2.2.2.2.2.2.2.1+x.2.1))) (1:Int))]),x.2.2.2.1,x.2.2.2.2.1++[(IntKind.wrap .i64 (x.2.2.2.2.2.2.2.1+x.2.1))],x.2.2.2.2.2.1++[x_2.1],x.2.2.2.2.2.2.1,x.2.2.2.2.2.2.2.1,x.2.2.2.2.2.2.2.2.1,PUnit.unit) else none else none else none else none else none) fun (j:Int×List Int×PUnit→Option R)=>bif decide ((List.getD p.2 (Int.toNat x.2.1) ([],(0:Int),(0:Int))).2.2<(0:Int)) then lpK (Int×List Int×PUnit) R (fun (again:Int×List Int×PUnit→Option R) (x:Int×List Int×PUnit) =>
 let v25:Bool:=inB x.1 (List.length x.2.1);
 let v26:Bool:=Nat.ble (Nat.succ (Int.toNat x.1)) (List.length x.2.1);
 bif decide (x.1<(↑(List.length x_1.2.1):Int)) then bif v25 then bif v26 then bif v25 then bif v26 then again (IntKind.wrap .i64 (x.1+(1:Int)),List.set x.2.1 (Int.toNat x.1) (IntKind.wrap .i64 ((0:Int) - List.getD x.2.1 (Int.toNat x.1) (0:Int))),PUnit.unit) else none else none else none else none else j ((-1:Int),x.2.1,PUnit.unit)) ((0:Int),v21) else j ((1:Int),v21)
noncomputable def newB {R:Type} (p:Pg) (again k:St→Option R) (x:St):Option R :=
 let v12:Int:=IntKind.wrap .i64 (x.1+(1:Int));
 let v13:List Int×Int×Int:=List.getD p.2 (Int.toNat x.2.1) ([],(0:Int),(0:Int));
 let v14:List Int:=List.replicate (Int.toNat (IntKind.wrap .i64 (x.2.2.2.2.2.2.2.2.1+(1:Int)))) (0:Int);
 let v15:Bool:=inB x.1 (Int.toNat (IntKind.wrap .i64 (x.2.2.2.2.2.2.2.2.1+(1:Int))));
 let v16:Bool:=Nat.ble (Nat.succ (Int.toNat x.1)) (Int.toNat (IntKind.wrap .i64 (x.2.2.2.2.2.2.2.2.1+(1:Int))));
 let v17:Int:=IntKind.wrap .i64 (x.2.2.2.2.2.2.2.1+x.2.1);
 let v18:List Int:=List.take (Int.toNat (IntKind.wrap .i64 (x.2.2.2.2.2.2.2.2.1+(1:Int)))) v13.1;
 let v19:List Int:=List.set (List.take (0:Nat) v14++v18++List.drop ((0:Nat)+List.length v18) v14) (Int.toNat x.2.2.2.2.2.2.2.2.1) v13.2.2;
 bif decide (x.2.1<(↑(List.length p.2):Int)) then bif inB x.2.1 (List.length p.2) then bif decide ((0:Int)≤IntKind.wrap .i64 (x.2.2.2.2.2.2.2.2.1+(1:Int)))&&fitB (Int.toNat (IntKind.wrap .i64 (x.2.2.2.2.2.2.2.2.1+(1:Int)))) (8:Nat) then bif inB x.2.2.2.2.2.2.2.2.1 (Int.toNat (IntKind.wrap .i64 (x.2.2.2.2.2.2.2.2.1+(1:Int)))) then bif Nat.ble (Nat.succ (Int.toNat x.2.2.2.2.2.2.2.2.1)) (Int.toNat (IntKind.wrap .i64 (x.2.2.2.2.2.2.2.2.1+(1:Int)))) then jnK (Int×List Int×PUnit) R (newJ p again x) fun (j:Int×List Int×PUnit→Option R)=>bif decide (v13.2.1=(1:Int)) then bif v15 then bif v16 then j (v12,List.set v19 (Int.toNat x.1) (1:Int),PUnit.unit) else none else none else jnK (Int×List Int×PUnit) R (fun (x:Int×List Int×PUnit)=>j (x.1,x.2.1,PUnit.unit)) fun (j:Int×List Int×PUnit→Option R)=>bif decide (v13.2.1=(2:Int)) then bif v15 then bif v16 then j (v12,List.set v19 (Int.toNat x.1) (-1:Int),PUnit.unit) else none else none else j (x.1,v19,PUnit.unit) else none else none else none else none else k x
theorem newJ_ok {p:Pg} (hv:ValidP p) {R:Type} {again:St→Option R} {i:Nat} (hi:i<p.2.length) {f:Nat→Int} {s s0:Int}
  (hf:∀k,k<(layP p).w (linP p)→f k=if k=(layP p).R (linP p) then (linP p).b i else if (linP p).kd i≠3∧k=(layP p).sl i then (if (linP p).kd i=1 then 1 else -1) else (p.2.getD i rw0).1.getD k 0) :
  newJ p again (s0,(i:Int),(List.range i,cellL i ((layP p).w (linP p)) ((layP p).M (linP p))),1,basL i (fun k=>(layP p).N+k),rowL i (layP p).σ,p.1,((layP p).N:Int),(((layP p).R (linP p):Nat):Int),PUnit.unit) (s,rowL ((layP p).w (linP p)) f,PUnit.unit) =
   again (s,((i+1:Nat):Int),(List.range (i+1),cellL (i+1) ((layP p).w (linP p)) ((layP p).M (linP p))),1,basL (i+1) (fun k=>(layP p).N+k),rowL (i+1) (layP p).σ,p.1,((layP p).N:Int),(((layP p).R (linP p):Nat):Int),PUnit.unit):=by
 obtain ⟨h1,h2⟩:=layP_w hv
 have hr:p.2.getD i rw0 ∈ p.2:=by rw[getD_nat hi];exact List.getElem_mem _
 have hR:=hv.right _ hr
 have hl:=hv.len _ hr
 have hc:=hv.coefs _ hr
 have hn:=hv.cost.2
 have hbb:∀k,k<(layP p).w (linP p)→ -1073741824≤f k∧f k≤1073741824:=fun k hk=>by
  rw[hf k hk]
  split
  ·exact of_decide_eq_true hR
  ·split
   ·split<;>omega
   ·by_cases e:k<(p.2.getD i rw0).1.length
    ·have:=of_decide_eq_true (hc ((p.2.getD i rw0).1.getD k 0) (by rw[getD_nat e];exact List.getElem_mem _))
     omega
    ·rw[List.getD_eq_getElem?_getD,List.getElem?_eq_none (by omega)]
     simp
 obtain ⟨w,hw⟩:∃w,w=(layP p).w (linP p):=⟨_,rfl⟩
 have hNi:(layP p).N+i<w:=by rw[hw];show (layP p).N+i<(layP p).N+p.2.length+1;omega
 have hNw:(layP p).N+p.2.length+1=w:=hw.symm
 have hm6:p.2.length≤6:=h2
 rw[←hw] at hf hbb h1 ⊢
 have fin:∀(σ:Int),σ=(layP p).σ i→(List.range i++[(cellL i w ((layP p).M (linP p))).length+0],cellL i w ((layP p).M (linP p))++[some ((rowL w fun k=>σ*f k).set ((layP p).N+i) 1)])=(List.range (i+1),cellL (i+1) w ((layP p).M (linP p))):=fun σ hσ=>by
  rw[cellL_len,Nat.add_zero,←List.range_succ,rowL_set hNi,←cellL_snoc]
  congr 3
  congr 1
  refine rowL_congr fun k hk=>?_
  have hok:=layP_ok hv
  unfold Lay.M
  rw[hf k hk,hσ]
  have hNn:(linP p).n≤(layP p).N:=hok.n
  have hRe:(layP p).R (linP p)=(layP p).N+p.2.length:=rfl
  have hme:(linP p).m=p.2.length:=rfl
  rw[hRe,hme]
  by_cases c1:k<(linP p).n
  ·rw[if_neg (by omega),if_neg (by omega),if_pos c1,if_neg]
   ·rfl
   ·rintro ⟨e1,e2⟩
    have:=(hok.sl i hi e1).1
    omega
  ·rw[if_neg c1]
   by_cases c2:k<(layP p).N
   ·rw[if_neg (by omega),if_neg (by omega),if_pos c2]
    by_cases c3:(linP p).kd i≠3∧k=(layP p).sl i
    ·rw[if_pos c3,if_pos c3]
    ·rw[if_neg c3,if_neg c3,List.getD_eq_getElem?_getD,List.getElem?_eq_none (by rw[hl];exact Nat.not_lt.1 c1)]
     simp
   ·rw[if_neg c2]
    by_cases c3:k<(layP p).N+p.2.length
    ·rw[if_pos c3]
     by_cases c4:k=(layP p).N+i
     ·rw[if_pos c4,if_pos c4]
     ·rw[if_neg c4,if_neg c4,if_neg (by omega),if_neg]
      ·rw[List.getD_eq_getElem?_getD,List.getElem?_eq_none (by rw[hl];exact Nat.not_lt.1 c1)]
       simp
      ·rintro ⟨e1,e2⟩
       have:=(hok.sl i hi e1).2
       omega
    ·rw[if_neg c3,if_neg (by omega),if_pos (by omega)]
 have hadd:IntKind.wrap .i64 (((layP p).N:Int)+(i:Int))=(((layP p).N+i:Nat):Int):=by rw[wrap_id (by omega) (by omega)];rfl
 have hg:∀{n k:Nat},n≤1000→k≤24→fitB n k=true:=fun {n k} h1 h2=>fitB_of (Nat.le_trans (Nat.mul_le_mul h1 h2) (by decide))
 have tail:∀(σ:Int),σ=(layP p).σ i→(bif inB (IntKind.wrap .i64 (((layP p).N:Int)+(i:Int))) (rowL w fun k=>σ*f k).length then bif Nat.ble (Nat.succ (Int.toNat (IntKind.wrap .i64 (((layP p).N:Int)+(i:Int))))) (rowL w fun k=>σ*f k).length then
   bif fitB ((List.range i).length+1) 24 then bif fitB ((rowL i (layP p).σ).length+1) 8 then bif fitB ((basL i fun k=>(layP p).N+k).length+1) 8 then
   again (s,IntKind.wrap .i64 ((i:Int)+1),(List.range i++[(cellL i w ((layP p).M (linP p))).length+0],cellL i w ((layP p).M (linP p))++[some ((rowL w fun k=>σ*f k).set (Int.toNat (IntKind.wrap .i64 (((layP p).N:Int)+(i:Int)))) 1)]),1,
    (basL i fun k=>(layP p).N+k)++[IntKind.wrap .i64 (((layP p).N:Int)+(i:Int))],rowL i (layP p).σ++[σ],p.1,((layP p).N:Int),(((layP p).R (linP p):Nat):Int),PUnit.unit) else none else none else none else none else none) =
   again (s,((i+1:Nat):Int),(List.range (i+1),cellL (i+1) w ((layP p).M (linP p))),1,basL (i+1) (fun k=>(layP p).N+k),rowL (i+1) (layP p).σ,p.1,((layP p).N:Int),(((layP p).R (linP p):Nat):Int),PUnit.unit):=fun σ hσ=>by
  rw[hadd,Int.toNat_natCast,fin σ hσ,rowL_len,inB_nat,decide_eq_true hNi,ble_of hNi,List.length_range,rowL_len,basL_len,hg (by omega) (by omega),hg (by omega) (by omega),succ_wrap (show i≤1000000 by omega),hσ,rowL_snoc]
  simp only[cT]
  rw[show (basL i fun k=>(layP p).N+k)++[(((layP p).N+i:Nat):Int)]=basL (i+1) (fun k=>(layP p).N+k) from rowL_snoc (f:=fun k=>(((layP p).N+k:Nat):Int))]
 unfold newJ
 simp only[jnK_eq',Int.toNat_natCast]
 by_cases hneg:(p.2.getD i rw0).2.2<0
 ·have hs:(layP p).σ i= -1:=if_pos hneg
  rw[decide_eq_true hneg,cond_true]
  refine lpK_seqX w (by omega) (fun k=>((k:Int),rowL w (fun j=>if j<k then -1*f j else f j),PUnit.unit)) _ ?_ (fun again2 k hk=>?_) (fun again2=>?_)
  ·rw[rowL_congr (f:=fun j=>if j<0 then -1*f j else f j) (g:=f) fun j _=>if_neg (by omega)];rfl
  ·have hb:=hbb k hk
   simp only[rowL_len,inB_nat,Int.toNat_natCast,decide_eq_true hk,decide_eq_true (show (k:Int)<w by omega),ble_of (show Nat.succ k≤w from hk),rowL_get hk,cT,if_neg (Nat.lt_irrefl k),succ_wrap (show k≤1000000 by omega),wrap_id (show -9223372036854775808≤0 - f k by omega) (by omega),rowL_set hk]
   congr 3
   refine rowL_congr fun j _=>?_
   by_cases c:j=k
   ·rw[if_pos c,if_pos (by omega),c];omega
   ·rw[if_neg c]
    by_cases c2:j<k
    ·rw[if_pos c2,if_pos (by omega)]
    ·rw[if_neg c2,if_neg (by omega)]
  ·simp only[rowL_len,decide_eq_false (show ¬ (w:Int)<w by omega),cF]
   rw[rowL_congr (f:=fun j=>if j<w then -1*f j else f j) (g:=fun j=> -1*f j) fun j hj=>if_pos hj]
   have:=tail (-1) hs.symm
   simp only[rowL_len] at this
   exact this
 ·have hs:(layP p).σ i=1:=if_neg hneg
  rw[decide_eq_false hneg,cond_false]
  have:=tail 1 hs.symm
  rw[rowL_congr (f:=fun j=>1*f j) (g:=f) fun j _=>Int.one_mul _] at this
  exact this
theorem newB_loop {p:Pg} (hv:ValidP p) {R:Type} {k:St→Option R} :
  lpK St R (fun again x=>newB p again k x) ((p.1.length:Int),(0:Int),([],[]),(1:Int),[],[],p.1,((layP p).N:Int),(((layP p).R (linP p):Nat):Int),PUnit.unit) =
   k (((layP p).N:Int),(p.2.length:Int),tabL p.2.length ((layP p).w (linP p)) ((layP p).M (linP p)),1,basL p.2.length (fun k=>(layP p).N+k),rowL p.2.length (layP p).σ,p.1,((layP p).N:Int),(((layP p).R (linP p):Nat):Int),PUnit.unit):=by
 obtain ⟨h1,h2⟩:=layP_w hv
 have hok:=layP_ok hv
 have hm6:p.2.length≤6:=h2
 obtain ⟨w,hw⟩:∃w,w=(layP p).w (linP p):=⟨_,rfl⟩
 have hR1:(layP p).R (linP p)+1=w:=by rw[hw]
 refine lpK_seqX p.2.length (by omega) (fun i=>(((p.1.length+cntS p i:Nat):Int),(i:Int),(List.range i,cellL i ((layP p).w (linP p)) ((layP p).M (linP p))),1,basL i (fun k=>(layP p).N+k),rowL i (layP p).σ,p.1,((layP p).N:Int),(((layP p).R (linP p):Nat):Int),PUnit.unit)) _ rfl (fun again i hi=>?_) (fun again=>?_)
 ·have hr:p.2.getD i rw0 ∈ p.2:=by rw[getD_nat hi];exact List.getElem_mem _
  have hl:=hv.len _ hr
  have hkd:=hv.kind _ hr
  have hN:p.1.length≤(layP p).N:=hok.n
  have hNR:(layP p).N+p.2.length=(layP p).R (linP p):=rfl
  have hRw:(layP p).R (linP p)<w:=by omega
  rw[←hw] at h1
  have hsl:(layP p).sl i=p.1.length+cntS p i:=rfl
  have hcs:=cntS_le (p:=p) i
  unfold newB
  simp only[succ_wrap (show (layP p).R (linP p)≤1000000 by omega),hR1,Int.toNat_natCast,inB_nat,decide_eq_true hi,decide_eq_true (show (i:Int)<p.2.length by omega),decide_eq_true (show (0:Int)≤(w:Nat) by omega),fitB_of (show w*8≤140737488355328 by omega),decide_eq_true hRw,ble_of (show Nat.succ ((layP p).R (linP p))≤w from hRw),Bool.and_self,cT,jnK_eq',base_row (show (p.2.getD i rw0).1.length≤w by omega),rowL_set hRw]
  by_cases k3:(p.2.getD i rw0).2.1=3
  ·have ec:cntS p (i+1)=cntS p i:=by simp only[cntS,if_pos k3,Nat.add_zero]
   rw[ec,decide_eq_false (show ¬ (p.2.getD i rw0).2.1=1 by omega),decide_eq_false (show ¬ (p.2.getD i rw0).2.1=2 by omega)]
   simp only[cF]
   have:=newJ_ok hv (again:=again) (s0:=((p.1.length+cntS p i:Nat):Int)) (s:=((p.1.length+cntS p i:Nat):Int)) hi (f:=fun k=>if k=(layP p).R (linP p) then (p.2.getD i rw0).2.2 else (p.2.getD i rw0).1.getD k 0) (fun k hk=>by
    show (if k=(layP p).R (linP p) then (p.2.getD i rw0).2.2 else (p.2.getD i rw0).1.getD k 0)=if k=(layP p).R (linP p) then (p.2.getD i rw0).2.2 else _
    by_cases c:k=(layP p).R (linP p)
    ·rw[if_pos c,if_pos c]
    ·rw[if_neg c,if_neg c,if_neg]
     rintro ⟨e,_⟩
     exact e k3)
   rw[←hw] at this
   exact this
  ·have hslN:(layP p).sl i<(layP p).N:=(hok.sl i hi k3).2
   have hslw:p.1.length+cntS p i<w:=by omega
   have ec:cntS p (i+1)=cntS p i+1:=by simp only[cntS,if_neg k3]
   rw[ec]
   have step:∀(v:Int),v=(if (linP p).kd i=1 then 1 else -1)→newJ p again ((((p.1.length+cntS p i:Nat):Int)),(i:Int),(List.range i,cellL i ((layP p).w (linP p)) ((layP p).M (linP p))),1,basL i (fun k=>(layP p).N+k),rowL i (layP p).σ,p.1,((layP p).N:Int),(((layP p).R (linP p):Nat):Int),PUnit.unit)
     (((p.1.length+cntS p i+1:Nat):Int),(rowL w fun k=>if k=(layP p).R (linP p) then (p.2.getD i rw0).2.2 else (p.2.getD i rw0).1.getD k 0).set (p.1.length+cntS p i) v,PUnit.unit)=again (((p.1.length+(cntS p i+1):Nat):Int),((i+1:Nat):Int),(List.range (i+1),cellL (i+1) ((layP p).w (linP p)) ((layP p).M (linP p))),1,basL (i+1) (fun k=>(layP p).N+k),rowL (i+1) (layP p).σ,p.1,((layP p).N:Int),(((layP p).R (linP p):Nat):Int),PUnit.unit):=fun v hvv=>by
    rw[rowL_set hslw]
    have:=newJ_ok hv (again:=again) (s0:=((p.1.length+cntS p i:Nat):Int)) (s:=((p.1.length+cntS p i+1:Nat):Int)) hi (f:=fun k=>if k=p.1.length+cntS p i then v else if k=(layP p).R (linP p) then (p.2.getD i rw0).2.2 else (p.2.getD i rw0).1.getD k 0) (fun k hk=>by
     show (if k=p.1.length+cntS p i then v else if k=(layP p).R (linP p) then (p.2.getD i rw0).2.2 else (p.2.getD i rw0).1.getD k 0)=if k=(layP p).R (linP p) then (p.2.getD i rw0).2.2 else _
     by_cases c:k=(layP p).R (linP p)
     ·rw[if_pos c,if_pos c,if_neg (by omega)]
     ·rw[if_neg c,if_neg c]
      by_cases c2:k=p.1.length+cntS p i
      ·rw[if_pos c2,if_pos ⟨k3,c2⟩,hvv]
      ·rw[if_neg c2,if_neg fun h=>c2 h.2])
    rw[←hw] at this ⊢
    exact this
   by_cases k1:(p.2.getD i rw0).2.1=1
   ·have:=step 1 (if_pos (show (linP p).kd i=1 from k1)).symm
    rw[←hw] at this
    rw[decide_eq_true k1]
    simp only[cT,decide_eq_true hslw,ble_of (show Nat.succ (p.1.length+cntS p i)≤w from hslw),succ_wrap (show p.1.length+cntS p i≤1000000 by omega)]
    exact this
   ·have k2:(p.2.getD i rw0).2.1=2:=by omega
    have:=step (-1) (if_neg (show ¬ (linP p).kd i=1 from k1)).symm
    rw[←hw] at this
    rw[decide_eq_false k1,decide_eq_true k2]
    simp only[cT,cF,decide_eq_true hslw,ble_of (show Nat.succ (p.1.length+cntS p i)≤w from hslw),succ_wrap (show p.1.length+cntS p i≤1000000 by omega)]
    exact this
 ·unfold newB
  simp only[decide_eq_false (show ¬ (p.2.length:Int)<p.2.length by omega),cF]
  rfl
theorem cnt_loopQ {p:Pg} (hv:ValidP p) {R:Type} {F:(Int×Int×PUnit→Option R)→Int×Int×PUnit→Option R} (Q:Option R→Prop)
  (hF:∀again (i:Nat) (s:Int),i<p.2.length→F again (s,(i:Int),PUnit.unit)=bif !decide ((p.2.getD i rw0).2.1=3) then again (IntKind.wrap .i64 (s+1),((i+1:Nat):Int),PUnit.unit) else again (s,((i+1:Nat):Int),PUnit.unit))
  (hf:∀again,Q (F again (((cntS p p.2.length:Nat):Int),(p.2.length:Int),PUnit.unit))):Q (lpK (Int×Int×PUnit) R F ((0:Int),(0:Int),PUnit.unit)):=by
 have hm:=hv.rows
 refine lpK_seqQ Q p.2.length (by omega) (fun i=>(((cntS p i:Nat):Int),(i:Int),PUnit.unit)) rfl (fun again i hi=>?_) hf
 rw[hF again i _ hi]
 have:=cntS_le (p:=p) i
 by_cases k3:(p.2.getD i rw0).2.1=3
 ·rw[decide_eq_true k3]
  simp only[cntS,if_pos k3,Nat.add_zero,Bool.not_true,cF]
 ·rw[decide_eq_false k3]
  simp only[cntS,if_neg k3,Bool.not_false,cT,succ_wrap (show cntS p i≤1000000 by omega)]
theorem newB_loopQ {p:Pg} (hv:ValidP p) {R:Type} {k:St→Option R} (Q:Option R→Prop)
  (h:Q (k (((layP p).N:Int),(p.2.length:Int),tabL p.2.length ((layP p).w (linP p)) ((layP p).M (linP p)),1,basL p.2.length (fun k=>(layP p).N+k),rowL p.2.length (layP p).σ,p.1,((layP p).N:Int),(((layP p).R (linP p):Nat):Int),PUnit.unit))) :
  Q (lpK St R (fun again x=>newB p again k x) ((p.1.length:Int),(0:Int),([],[]),(1:Int),[],[],p.1,((layP p).N:Int),(((layP p).R (linP p):Nat):Int),PUnit.unit)):=by
 rw[newB_loop hv]
 exact h
end Go.Proofs.Ytnbbackjofgcfaa

namespace Go.Proofs.Ytnbbackjofgcfaa
open Try Dn Dn.Sh
def fac (L:Lin):Nat→Int
 | 0=>L.F0
 | k+1=>L.F k
def pp (f:Nat→Int):Nat→Int
 | 0=>1
 | n+1=>pp f n*f n
def mx (f:Nat→Int):Nat→Int
 | 0=>f 0
 | n+1=>max (mx f n) (f (n+1))
def FitsL (L:Lin):Prop:=pp (fac L) (L.m+1)≤17592186044416∧pp (fac L) (L.m+1)*mx (fac L) L.m≤144115188075855872
instance (L:Lin):Decidable (FitsL L):=by unfold FitsL;infer_instance
theorem fac_pos (L:Lin) (k:Nat):1≤fac L k:=by
 cases k with
 | zero=>exact L.F0_pos
 | succ k=>exact L.F_pos k
theorem pp_front {f:Nat→Int}:∀{n:Nat},pp f (n+1)=f 0*pz n fun i=>f (i+1)
 | 0=>by simp[pp,pz]
 | n+1=>by
  have e:∀{n:Nat} {g:Nat→Int},pz (n+1) g=pz n g*g n:=by
   intro n
   induction n with
   | zero=>intro g;simp[pz]
   | succ n ih =>
    intro g
    have h:=ih (g:=fun i=>g (i+1))
    rw[pz,h,pz,Int.mul_assoc]
  rw[pp,pp_front (n:=n),e,Int.mul_assoc]
theorem pp_P (L:Lin):pp (fac L) (L.m+1)=L.F0*L.P:=pp_front
theorem pp_pos {f:Nat→Int} (h:∀i,1≤f i):∀n,1≤pp f n
 | 0=>by simp[pp]
 | n+1=>by
  have h1:=pp_pos h n
  have h2:=Int.mul_le_mul h1 (h n) (by omega) (by omega)
  simp only[pp]
  omega
theorem pp_mono {f:Nat→Int} (h:∀i,1≤f i) {n:Nat}:∀{k:Nat},pp f n≤pp f (n+k)
 | 0=>Int.le_refl _
 | k+1=>by
  have h1:=pp_mono h (n:=n) (k:=k)
  have h2:=pp_pos h (n+k)
  have h3:pp f (n+k)*1≤pp f (n+k)*f (n+k):=Int.mul_le_mul_of_nonneg_left (h _) (by omega)
  rw[←Nat.add_assoc]
  simp only[pp]
  omega
theorem mx_le {f:Nat→Int} {n:Nat}:∀{i:Nat},i≤n→f i≤mx f n:=by
 induction n with
 | zero=>intro i h;rw[show i=0 by omega];exact Int.le_refl _
 | succ n ih =>
  intro i h
  simp only[mx]
  by_cases e:i=n+1
  ·rw[e];omega
  ·have:=ih (i:=i) (by omega)
   omega
theorem mx_ub {f:Nat→Int} {B:Int}:∀{n:Nat},(∀i,i≤n→f i≤B)→mx f n≤B
 | 0,h=>h 0 (by omega)
 | n+1,h=>by
  have h1:=mx_ub (n:=n) fun i hi=>h i (by omega)
  have h2:=h (n+1) (by omega)
  simp only[mx]
  omega
theorem size_small {l:List Int} (h:∀n ∈ l,inC n=true) (j:Nat):ab (l.getD j 0)≤1048576:=by
 rw[ab_le]
 by_cases e:j<l.length
 ·exact of_decide_eq_true (h _ (by rw[getD_nat e];exact List.getElem_mem _))
 ·rw[List.getD_eq_getElem?_getD,List.getElem?_eq_none (by omega)]
  simp
theorem sum_small {l:List Int} (h:∀n ∈ l,inC n=true) {n:Nat} (hn:n≤12):0≤sz n (fun j=>ab (l.getD j 0))∧sz n (fun j=>ab (l.getD j 0))≤12582912:=by
 refine ⟨sz_nonneg fun _ _=>ab_nonneg _,?_⟩
 have h1:=(sz_bound (n:=n) (f:=fun j=>ab (l.getD j 0)) (B:=1048576) fun j _=>⟨by have:=ab_nonneg (l.getD j 0);omega,size_small h j⟩).2
 omega
theorem fac_small {p:Pg} (hv:ValidP p) {k:Nat} (hk:k≤p.2.length):fac (linP p) k≤2147483648:=by
 have hn:=hv.cost.2
 cases k with
 | zero =>
  have:=sum_small hv.cs hn
  show 1+sz p.1.length (fun j=>ab (p.1.getD j 0))≤_
  omega
 | succ k =>
  have hr:p.2.getD k rw0 ∈ p.2:=by rw[getD_nat (show k<p.2.length by omega)];exact List.getElem_mem _
  have h1:=sum_small (hv.coefs _ hr) hn
  have h2:=of_decide_eq_true (hv.right _ hr)
  have h3:ab (p.2.getD k rw0).2.2≤1073741824:=ab_le.2 h2
  show 1+ab (p.2.getD k rw0).2.2+sz p.1.length (fun j=>ab ((p.2.getD k rw0).1.getD j 0))≤_
  omega
theorem fits1_ok {l:List Int} {more:Int} (h:∀n ∈ l,inC n=true) (hl:l.length≤12) (hm:inR more=true):program_fits_1 l more=some (1+ab more+sz l.length fun j=>ab (l.getD j 0)):=by
 have hm:=of_decide_eq_true hm
 have hma:ab more≤1073741824:=ab_le.2 hm
 have hma0:=ab_nonneg more
 unfold program_fits_1 program_fits_1_b
 rw[psize_ok (by omega) (by omega),obN]
 have e0:((more.natAbs:Nat):Int)=ab more:=rfl
 refine lpK_seqX l.length (by omega) (fun i=>(1+ab more+sz i (fun j=>ab (l.getD j 0)),(i:Int),PUnit.unit)) _ ?_ (fun again i hi=>?_) (fun again=>?_)
 ·rw[e0,wrap_id (x:=ab more) (by omega) (by omega),wrap_id (by omega) (by omega)]
  simp only[sz,Int.add_zero]
  rfl
 ·have h1:=size_small h i
  have h0:=ab_nonneg (l.getD i 0)
  have h2:=sum_small h (n:=i) (by omega)
  have h3: -1048576≤l.getD i 0∧l.getD i 0≤1048576:=ab_le.1 h1
  have e1:((l.getD i 0).natAbs:Int)=ab (l.getD i 0):=rfl
  simp only[inB_nat,Int.toNat_natCast,decide_eq_true hi,decide_eq_true (show (i:Int)<l.length by omega),cT,psize_ok (show -9223372036854775808≤l.getD i 0 by omega) (by omega),obind_some',e1,succ_wrap (show i≤1000000 by omega)]
  rw[wrap_id (x:=ab (l.getD i 0)) (by omega) (by omega),wrap_id (by omega) (by omega)]
  simp only[sz]
  congr 2
  omega
 ·simp only[decide_eq_false (show ¬ (l.length:Int)<l.length by omega),cF]
theorem max_okP {n:Nat} {f:Nat→Int} (hn:n≤1000):slices_Max_108 (rowL (n+1) f)=some (mx f n):=by
 unfold slices_Max_108 slices_Max_108_b
 simp only[jnK_eq',rowL_len,decide_eq_false (show ¬ ((n+1:Nat):Int)<1 by omega),cF,show inB (0:Int) (n+1)=true from inB_of (by omega) (by omega),cT,rowL_get (show 0<n+1 by omega)]
 refine lpK_seqX n (by omega) (fun i=>(mx f i,((i+1:Nat):Int),PUnit.unit)) _ rfl (fun again i hi=>?_) (fun again=>?_)
 ·simp only[decide_eq_true (show ((i+1:Nat):Int)<(n+1:Nat) by omega),inB_nat,decide_eq_true (show i+1<n+1 by omega),Int.toNat_natCast,cT,rowL_get (show i+1<n+1 by omega),ite_max,succ_wrap (show i+1≤1000000 by omega)]
  rfl
 ·simp only[decide_eq_false (show ¬ ((n+1:Nat):Int)<(n+1:Nat) by omega),cF]
theorem le_div_iff {a b c:Int} (hc:0<c):a≤b / c↔a*c≤b:=Int.le_ediv_iff_mul_le hc
theorem gt_div_iff {a b c:Int} (hc:0<c):a>b / c↔b<a*c:=Int.ediv_lt_iff_lt_mul hc
theorem fits_okP {p:Pg} (hv:ValidP p):program_fits p=some (decide (FitsL (linP p))):=by
 have hm:=hv.rows
 have hn:=hv.cost.2
 unfold program_fits program_fits_b
 rw[fits1_ok hv.cs hn (by decide),obN]
 obtain ⟨f,hf⟩:∃f,f=fac (linP p):=⟨_,rfl⟩
 have hpos:∀i,1≤f i:=fun i=>by rw[hf];exact fac_pos _ i
 have hsm:∀k,k≤p.2.length→f k≤2147483648:=fun k hk=>by rw[hf];exact fac_small hv hk
 have hF:FitsL (linP p)=(pp f (p.2.length+1)≤17592186044416∧pp f (p.2.length+1)*mx f p.2.length≤144115188075855872):=by rw[hf];rfl
 refine lpK_seqX p.2.length (by omega) (fun i=>(rowL (i+1) f,(i:Int),PUnit.unit)) _ ?_ (fun again i hi=>?_) (fun again=>?_)
 ·rw[hf]
  show _=([fac (linP p) 0],(0:Int),PUnit.unit)
  congr 2
 ·have hr:p.2.getD i rw0 ∈ p.2:=by rw[getD_nat hi];exact List.getElem_mem _
  have h1:=fits1_ok (hv.coefs _ hr) (by rw[hv.len _ hr];exact hn) (hv.right _ hr)
  simp only[inB_nat,Int.toNat_natCast,decide_eq_true hi,decide_eq_true (show (i:Int)<p.2.length by omega),cT,h1,obind_some',rowL_len,fitB_of (show (i+1+1)*8≤140737488355328 by omega),succ_wrap (show i≤1000000 by omega)]
  have e:f (i+1)=1+ab (p.2.getD i rw0).2.2+sz (p.2.getD i rw0).1.length (fun j=>ab ((p.2.getD i rw0).1.getD j 0)):=by
   rw[hf,hv.len _ hr]
   rfl
  rw[←e,rowL_snoc]
 ·simp only[decide_eq_false (show ¬ (p.2.length:Int)<p.2.length by omega),cF,rowL_len,max_okP (show p.2.length≤1000 by omega),obind_some']
  have hmx:1≤mx f p.2.length∧mx f p.2.length≤2147483648:=⟨Int.le_trans (hpos 0) (mx_le (by omega)),mx_ub hsm⟩
  have round:∀{R:Type} {a b:Option R} (i:Nat),i<p.2.length+1→(bif nzB (f i) then bif decide (pp f i>IntKind.wrap .i64 (Int.tdiv 17592186044416 (f i))) then a else b else none)=bif decide (pp f (i+1)>17592186044416) then a else b:=fun i hi=>by
   have h1:=hpos i
   have h2:=hsm i (by omega)
   rw[nzB_of (by omega),cond_true,Int.tdiv_eq_ediv_of_nonneg (by omega)]
   have h3:0≤17592186044416 / f i:=Int.ediv_nonneg (by omega) (by omega)
   have h4:17592186044416 / f i≤17592186044416:=Int.ediv_le_self _ (by omega)
   rw[wrap_id (by omega) (by omega),decide_eq_decide.2 (gt_div_iff (a:=pp f i) (show 0<f i by omega))]
   rfl
  rcases first_of (p.2.length+1) (fun i=>decide (pp f (i+1)>17592186044416)) with hnone | ⟨q,hq,hbig,hleast⟩
  ·have hall:∀i,i≤p.2.length+1→pp f i≤17592186044416:=fun i hi=>by
    cases i with
    | zero=>simp[pp]
    | succ i=>have:=of_decide_eq_false (hnone i (by omega));omega
   refine lpK_seqX (p.2.length+1) (by omega) (fun i=>(pp f i,(i:Int),PUnit.unit)) _ rfl (fun again i hi=>?_) (fun again=>?_)
   ·have h2:=hall (i+1) (by omega)
    have h3:=pp_pos hpos (i+1)
    simp only[decide_eq_true (show (i:Int)<(p.2.length+1:Nat) by omega),inB_nat,decide_eq_true hi,Int.toNat_natCast,rowL_get hi,ble_of (show Nat.succ i≤p.2.length+1 from hi),cT,round i hi,hnone i hi,cF,succ_wrap (show i≤1000000 by omega)]
    rw[wrap_id (x:=pp f i*f i) (by simp only[pp] at h2 h3;omega) (by simp only[pp] at h2;omega)]
    rfl
   ·simp only[decide_eq_false (show ¬ ((p.2.length+1:Nat):Int)<(p.2.length+1:Nat) by omega),cF]
    rw[nzB_of (by omega),cond_true,Int.tdiv_eq_ediv_of_nonneg (by omega)]
    have h3:0≤144115188075855872 / mx f p.2.length:=Int.ediv_nonneg (by omega) (by omega)
    have h4:144115188075855872 / mx f p.2.length≤144115188075855872:=Int.ediv_le_self _ (by omega)
    rw[wrap_id (by omega) (by omega)]
    congr 1
    refine decide_eq_decide.2 ?_
    rw[le_div_iff (a:=pp f (p.2.length+1)) (show 0<mx f p.2.length by omega),hF]
    exact ⟨fun h=>⟨hall _ (by omega),h⟩,fun h=>h.2⟩
  ·have hlow:∀i,i≤q→pp f i≤17592186044416:=fun i hi=>by
    cases i with
    | zero=>simp[pp]
    | succ i=>have:=of_decide_eq_false (hleast i (by omega));omega
   refine lpK_seqX q (by omega) (fun i=>(pp f i,(i:Int),PUnit.unit)) _ rfl (fun again i hi=>?_) (fun again=>?_)
   ·have h2:=hlow (i+1) (by omega)
    have h3:=pp_pos hpos (i+1)
    simp only[decide_eq_true (show (i:Int)<(p.2.length+1:Nat) by omega),inB_nat,decide_eq_true (show i<p.2.length+1 by omega),Int.toNat_natCast,rowL_get (show i<p.2.length+1 by omega),ble_of (show Nat.succ i≤p.2.length+1 by omega),cT,round i (by omega),hleast i hi,cF,succ_wrap (show i≤1000000 by omega)]
    rw[wrap_id (x:=pp f i*f i) (by simp only[pp] at h2 h3;omega) (by simp only[pp] at h2;omega)]
    rfl
   ·simp only[decide_eq_true (show (q:Int)<(p.2.length+1:Nat) by omega),inB_nat,decide_eq_true hq,Int.toNat_natCast,rowL_get hq,ble_of (show Nat.succ q≤p.2.length+1 from hq),cT,round q hq,hbig]
    congr 1
    refine (decide_eq_false ?_).symm
    rw[hF]
    rintro ⟨h1,_⟩
    have h2:=of_decide_eq_true hbig
    have h3:=pp_mono hpos (n:=q+1) (k:=p.2.length - q)
    rw[show q+1+(p.2.length - q)=p.2.length+1 by omega] at h3
    omega
theorem bnd_of {p:Pg} (hv:ValidP p) (hf:FitsL (linP p)):Bnd (linP p) (layP p):=by
 obtain ⟨h1,h2⟩:=layP_w hv
 refine ⟨layP_ok hv,by omega,by omega,?_⟩
 rw[←pp_P]
 exact hf.1
theorem fac_fits {p:Pg} (hf:FitsL (linP p)) {k:Nat} (hk:k≤p.2.length):(linP p).F0*(linP p).P*fac (linP p) k≤144115188075855872:=by
 rw[←pp_P]
 have h1:=mx_le (f:=fac (linP p)) hk
 have h2:=pp_pos (fac_pos (linP p)) ((linP p).m+1)
 have h3:=Int.mul_le_mul_of_nonneg_left h1 (show 0≤pp (fac (linP p)) ((linP p).m+1) by omega)
 exact Int.le_trans h3 hf.2
end Go.Proofs.Ytnbbackjofgcfaa

namespace Go.Proofs.Ytnbbackjofgcfaa
open Try Dn Dn.Sh
theorem costAt_eq {p:Pg} (j:Nat):costAt p.1 j=costs (linP p) j:=by
 unfold costs costAt
 by_cases h:j<(linP p).n
 ·rw[if_pos h];rfl
 ·rw[if_neg h,List.getD_eq_getElem?_getD,List.getElem?_eq_none (Nat.not_lt.1 h)];rfl
theorem fitsDivQ {n d:Int} (hd:d≠0) (hn:n.natAbs≤1152921504606846976) (hd2:d.natAbs≤1152921504606846976):fitQ (divQ n d)=(prQ ((n:Rat) / d),0,()):=by
 obtain ⟨m1,m2,m3⟩:=mkQ_div (s:=decide (n<0) !=decide (d<0)) (n:=n.natAbs) (d:=d.natAbs) (by omega)
 obtain ⟨m4,m5⟩:=mkQ_low (s:=decide (n<0) !=decide (d<0)) m2 m3
 have hf:fitsQ (divQ n d):=by
  unfold fitsQ divQ
  rw[m1,m4,m5]
  have a1:n.natAbs / Nat.gcd n.natAbs d.natAbs≤n.natAbs:=Nat.div_le_self _ _
  have a2:d.natAbs / Nat.gcd n.natAbs d.natAbs≤d.natAbs:=Nat.div_le_self _ _
  refine ⟨?_,by rw[←m5] at *;omega⟩
  unfold sgn
  generalize n.natAbs / Nat.gcd n.natAbs d.natAbs=p at *
  split<;>omega
 unfold fitQ
 rw[if_pos hf,divQ_eq hd]
theorem fitsDiv {n d:Int} (hd:d≠0) (hn:n.natAbs≤1152921504606846976) (hd2:d.natAbs≤1152921504606846976):fitsQ ((n:Rat) / d):=by
 have h:=fitsDivQ hd hn hd2
 rw[divQ_eq hd] at h
 rcases fitQ_cases ((n:Rat) / d) with ⟨h1,_⟩ | ⟨_,h2⟩
 ·exact h1
 ·rw[h2] at h
  exact absurd (show (5:Int)=0 from congrArg (fun x:Fq×Int×Unit=>x.2.1) h) (by decide)
theorem part_ok {M:List (List Int)} {d n:Int} {x2 x3 cs:List Int} {x5 x6:Int} (hd:0<d∧d≤17592186044416) (hn:n.natAbs≤1152921504606846976):program_table_part (M,d,x2,x3,cs,x5,x6) n=some (prQ ((n:Rat) / (d:Rat))):=by
 simp only[program_table_part,program_table_part_b,Make_ok (show -9223372036854775808≤n by omega) (by omega) (show -9223372036854775808≤d by omega) (by omega),obind_some',if_neg (show ¬ d=0 by omega)]
 rw[divQ_eq (by omega)]
 unfold fitQ
 rw[if_pos (fitsDiv (by omega) hn (by omega))]
theorem rep_row {n:Nat}:List.replicate n (0:Int)=rowL n fun _=>0:=by
 refine List.ext_getElem (by rw[rowL_len];simp) fun i h1 h2=>?_
 rw[rowL_at,List.getElem_replicate]
theorem sig_abs {p:Pg} (k:Nat) (x:Int):((layP p).σ k*x).natAbs=x.natAbs:=by
 show ((if (p.2.getD k rw0).2.2<0 then (-1:Int) else 1)*x).natAbs=_
 split<;>omega
theorem tab_all' {m w:Nat} {T:Nat→Nat→Int}:((tabL m w T).1.all fun x=>liveB (cellL m w T) x)=true:=tab_all
theorem tab_map' {m w:Nat} {T:Nat→Nat→Int}:(tabL m w T).1.map (fun x=>rowD (cellL m w T) x)=matL m w T:=tab_map
noncomputable abbrev xL (p:Pg) (S:Sx):List Fq:=rowL p.1.length fun j=>prQ (xval (linP p).m ((layP p).R (linP p)) S j)
noncomputable abbrev yL (p:Pg) (wc:Nat→Int) (S:Sx):List Fq:=rowL p.2.length fun k=>prQ (yval (linP p).m (layP p).N wc S (layP p).σ k)
def vnum (p:Pg) (S:Sx):Int:=sz (linP p).m fun i=>costs (linP p) (S.β i)*S.T i ((layP p).R (linP p))
noncomputable abbrev valL (p:Pg) (S:Sx):Rat:=(vnum p S:Rat) / (S.d:Rat)
structure Infeas (p:Pg) (S:Sx):Prop where
 val:(layP p).Val (linP p) S
 zr:∀j,j<(layP p).N→0≤zr (linP p).m (arts (layP p).N) S j
 pos:0<sz (linP p).m fun i=>arts (layP p).N (S.β i)*S.T i ((layP p).R (linP p))
structure Free (p:Pg) (S:Sx) (q:Nat):Prop where
 val:(layP p).Val (linP p) S
 az:AZ (linP p) (layP p) S
 lt:q<(layP p).N
 neg:zr (linP p).m (costs (linP p)) S q<0
 no:∀i,i<(linP p).m→S.T i q≤0
structure Opt (p:Pg) (S:Sx):Prop where
 val:(layP p).Val (linP p) S
 az:AZ (linP p) (layP p) S
 zr:∀j,j<(layP p).N→0≤zr (linP p).m (costs (linP p)) S j
noncomputable abbrev none3:Fq×List Fq×List Fq:=((0,0),[],[])
def SolveQ (p:Pg) (o:Option ((Fq×List Fq×List Fq)×Int×Unit)):Prop :=
 (∃S,Infeas p S∧o=some (none3,22,()))∨(∃S q,Free p S q∧o=some (none3,21,()))∨∃S,Opt p S∧o=some ((prQ (valL p S),xL p S,yL p (costs (linP p)) S),0,())
theorem obQ {T R:Type} {Q:Option R→Prop} {o:Option T} {t:T} {k:T→Option R} (h:o=some t) (hk:Q (k t)):Q (obind o k):=by
 rw[h]
 exact hk
theorem solve_ok {p:Pg} (hv:ValidP p) (hf:FitsL (linP p)):SolveQ p (program_Solve p):=by
 have hB:=bnd_of hv hf
 obtain ⟨hw25,hm6'⟩:=layP_w hv
 have hm6:p.2.length≤6:=hm6'
 have hn:=hv.cost.2
 have hok:=layP_ok hv
 have hpow:(layP p).w (linP p) ^ (linP p).m≤1180591620717411303424:=Nat.le_trans (Nat.pow_le_pow_left (show _≤64 by omega) _) (Nat.le_trans (Nat.pow_le_pow_right (by omega) hm6') (by decide))
 have hcnt:=cntS_le (p:=p) p.2.length
 have hNe:IntKind.wrap .i64 ((p.1.length:Int)+(cntS p p.2.length:Nat))=((layP p).N:Int):=by rw[wrap_id (by omega) (by omega)];rfl
 have hRe:IntKind.wrap .i64 (((layP p).N:Int)+(p.2.length:Int))=(((layP p).R (linP p):Nat):Int):=by
  have:(layP p).N=p.1.length+cntS p p.2.length:=rfl
  rw[wrap_id (by omega) (by omega)];rfl
 unfold program_Solve program_Solve_b
 rw[pValid_ok,obN,validP_iff.2 hv]
 simp only[Bool.not_true,cF]
 rw[fits_okP hv,obN,decide_eq_true hf]
 simp only[Bool.not_true,cF]
 refine cnt_loopQ hv (SolveQ p) (fun again i s hi=>?_) (fun again=>?_)
 ·simp only[decide_eq_true (show (i:Int)<p.2.length by omega),inB_nat,decide_eq_true hi,Int.toNat_natCast,cT,succ_wrap (show i≤1000000 by omega)]
 simp only[decide_eq_false (show ¬ (p.2.length:Int)<p.2.length by omega),cF,slices_Clone_22,slices_Clone_22_b,fitB_of (show (0+p.1.length)*8≤140737488355328 by omega),cT,obind_some',hNe,hRe]
 refine newB_loopQ hv (SolveQ p) ?_
 obtain ⟨S,ok,h1,hvS,h2,h3⟩:=start_ok hB hpow (x3:=rowL p.2.length (layP p).σ) (cs:=p.1) (Lay.first hok)
 refine obQ (Q:=SolveQ p) h1 ?_
 cases ok with
 | false =>
  simp only[Bool.not_false,cT]
  exact .inl ⟨S,⟨hvS,(h3 rfl).1,(h3 rfl).2⟩,rfl⟩
 | true =>
  simp only[Bool.not_true,cF]
  obtain ⟨S,ok,h1,hvS,haS,h2,h3⟩:=improve_ok hB hpow (x3:=rowL p.2.length (layP p).σ) costAt_eq hvS (h2 rfl)
  refine obQ (Q:=SolveQ p) h1 ?_
  cases ok with
  | false =>
   simp only[Bool.not_false,cT]
   obtain ⟨q,e1,e2,e3⟩:=h3 rfl
   exact .inr (.inl ⟨S,q,⟨hvS,haS,e1,e2,e3⟩,rfl⟩)
  | true =>
   simp only[Bool.not_true,cF,Int.toNat_natCast,decide_eq_true (show (0:Int)≤(p.1.length:Nat) by omega),fitB_of (show p.1.length*8≤140737488355328 by omega),Bool.and_self,cT,rep_row]
   refine .inr (.inr ⟨S,⟨hvS,haS,h2 rfl⟩,?_⟩)
   obtain ⟨⟨d1,d2⟩,hb⟩:=hB.tab hvS.tb
   obtain ⟨_,hbP⟩:=hB.tabP hvS.tb
   have hRw:(layP p).R (linP p)<(layP p).w (linP p):=by unfold Lay.R Lay.w;omega
   have hm:(linP p).m=p.2.length:=rfl
   have hcR:∀i,i<(linP p).m→ -17592186044416≤costs (linP p) (S.β i)*S.T i ((layP p).R (linP p))∧costs (linP p) (S.β i)*S.T i ((layP p).R (linP p))≤17592186044416:=fun i hi=>hB.cost (hbP i _ hi hRw) _
   have hTR:∀i,i<(linP p).m→ -17592186044416≤S.T i ((layP p).R (linP p))∧S.T i ((layP p).R (linP p))≤17592186044416:=fun i hi=>by have:=hb i _ hi hRw;omega
   refine lpK_seqX (linP p).m (by omega) (fun i=>(sz i (fun k=>costs (linP p) (S.β k)*S.T k ((layP p).R (linP p))),(i:Int),rowL p.1.length (fun j=>sz i fun k=>if S.β k=j then S.T k ((layP p).R (linP p)) else 0),PUnit.unit)) _ rfl (fun again i hi=>?_) (fun again=>?_)
   ·have hiR:=hcR i hi
    have hs:=sz_bound (n:=i) (f:=fun k=>costs (linP p) (S.β k)*S.T k ((layP p).R (linP p))) (B:=17592186044416) fun k hk=>hcR k (by omega)
    have h3:(i:Int)*17592186044416≤6*17592186044416:=Int.mul_le_mul_of_nonneg_right (by omega) (by omega)
    simp only[basL_len,inB_nat,Int.toNat_natCast,decide_eq_true hi,decide_eq_true (show (i:Int)<(linP p).m by omega),ble_of (show Nat.succ i≤(linP p).m from hi),basL_get hi,cT,tab_all',tab_map',cost_ok,costAt_eq,obind_some',tabL_len,tabL_idx hi,tab_snd,cell_row hi,rowL_len,rowL_get hRw,decide_eq_true hRw,ble_of (show Nat.succ ((layP p).R (linP p))≤(layP p).w (linP p) from hRw),succ_wrap (show i≤1000000 by omega)]
    rw[wrap_id (x:=costs (linP p) (S.β i)*S.T i ((layP p).R (linP p))) (by omega) (by omega),wrap_id (by omega) (by omega)]
    by_cases c:S.β i<p.1.length
    ·simp only[decide_eq_true (show (S.β i:Int)<p.1.length by omega),decide_eq_true c,ble_of (show Nat.succ (S.β i)≤p.1.length from c),cT,rowL_set c]
     congr 3
     congr 1
     refine rowL_congr fun j _=>?_
     by_cases e:j=S.β i
     ·subst e
      rw[if_pos rfl]
      simp only[sz]
      rw[sz_zero fun k hk=>if_neg fun e=>by have:=hvS.tb.inj (show k<(linP p).m by omega) hi e;omega,if_pos trivial,Int.zero_add]
     ·rw[if_neg e]
      simp only[sz]
      rw[if_neg (Ne.symm e),Int.add_zero]
    ·simp only[decide_eq_false (show ¬ (S.β i:Int)<p.1.length by omega),cF]
     congr 3
     congr 1
     refine rowL_congr fun j hj=>?_
     simp only[sz]
     rw[if_neg (by omega),Int.add_zero]
   have hsV:=sz_bound (n:=(linP p).m) (f:=fun k=>costs (linP p) (S.β k)*S.T k ((layP p).R (linP p))) (B:=17592186044416) hcR
   have h6:((linP p).m:Int)*17592186044416≤6*17592186044416:=Int.mul_le_mul_of_nonneg_right (by omega) (by omega)
   simp only[basL_len,decide_eq_false (show ¬ ((linP p).m:Int)<(linP p).m by omega),cF,tab_all,tab_map,cT,part_ok ⟨d1,d2⟩ (show (sz (linP p).m fun k=>costs (linP p) (S.β k)*S.T k ((layP p).R (linP p))).natAbs≤1152921504606846976 by omega),obind_some',rowL_len]
   refine lpK_seqX p.1.length (by omega) (fun j=>((j:Int),prQ (valL p S),rowL j (fun j=>prQ (xval (linP p).m ((layP p).R (linP p)) S j)),[],PUnit.unit)) _ rfl (fun again j hj=>?_) (fun again=>?_)
   ·have hx:=sz_bound (n:=(linP p).m) (f:=fun k=>if S.β k=j then S.T k ((layP p).R (linP p)) else 0) (B:=17592186044416) fun k hk=>by
     have:=hTR k hk
     split<;>omega
    simp only[inB_nat,Int.toNat_natCast,decide_eq_true hj,decide_eq_true (show (j:Int)<p.1.length by omega),ble_of (show Nat.succ j≤p.1.length from hj),rowL_get hj,cT,part_ok ⟨d1,d2⟩ (show (sz (linP p).m fun k=>if S.β k=j then S.T k ((layP p).R (linP p)) else 0).natAbs≤1152921504606846976 by omega),obind_some',rowL_len,fitB_of (show (j+1)*16≤140737488355328 by omega),succ_wrap (show j≤1000000 by omega)]
    rw[show prQ (((sz (linP p).m fun k=>if S.β k=j then S.T k ((layP p).R (linP p)) else 0:Int):Rat) / (S.d:Rat))=(fun j=>prQ (xval (linP p).m ((layP p).R (linP p)) S j)) j from rfl,rowL_snoc]
   simp only[decide_eq_false (show ¬ (p.1.length:Int)<p.1.length by omega),cF]
   refine lpK_seqX p.2.length (by omega) (fun k=>((k:Int),prQ (valL p S),xL p S,rowL k (fun k=>prQ (yval (linP p).m (layP p).N (costs (linP p)) S (layP p).σ k)),PUnit.unit)) _ rfl (fun again k hk=>?_) (fun again=>?_)
   ·have hNk:(layP p).N+k<(layP p).w (linP p):=by unfold Lay.w;omega
    have hcN:∀i,i<(linP p).m→ -17592186044416≤costs (linP p) (S.β i)*S.T i ((layP p).N+k)∧costs (linP p) (S.β i)*S.T i ((layP p).N+k)≤17592186044416:=fun i hi=>hB.cost (hbP i _ hi hNk) _
    have hNke:IntKind.wrap .i64 (((layP p).N:Int)+(k:Int))=(((layP p).N+k:Nat):Int):=by rw[wrap_id (by omega) (by omega)];rfl
    simp only[decide_eq_true (show (k:Int)<p.2.length by omega),cT,hNke]
    refine lpK_seqX (linP p).m (by omega) (fun i=>(sz i (fun i=>costs (linP p) (S.β i)*S.T i ((layP p).N+k)),(i:Int),PUnit.unit)) _ rfl (fun again2 i hi=>?_) (fun again2=>?_)
    ·have hiR:=hcN i hi
     have hs:=sz_bound (n:=i) (f:=fun i=>costs (linP p) (S.β i)*S.T i ((layP p).N+k)) (B:=17592186044416) fun k hk=>hcN k (by omega)
     have h3:(i:Int)*17592186044416≤6*17592186044416:=Int.mul_le_mul_of_nonneg_right (by omega) (by omega)
     simp only[basL_len,inB_nat,Int.toNat_natCast,decide_eq_true hi,decide_eq_true (show (i:Int)<(linP p).m by omega),ble_of (show Nat.succ i≤(linP p).m from hi),basL_get hi,cT,tab_all',tab_map',cost_ok,costAt_eq,obind_some',tabL_len,tabL_idx hi,tab_snd,cell_row hi,rowL_len,rowL_get hNk,decide_eq_true hNk,ble_of (show Nat.succ ((layP p).N+k)≤(layP p).w (linP p) from hNk),succ_wrap (show i≤1000000 by omega)]
     rw[wrap_id (x:=costs (linP p) (S.β i)*S.T i ((layP p).N+k)) (by omega) (by omega),wrap_id (by omega) (by omega)]
     rfl
    ·have hs:=sz_bound (n:=(linP p).m) (f:=fun i=>costs (linP p) (S.β i)*S.T i ((layP p).N+k)) (B:=17592186044416) hcN
     have hab:=sig_abs (p:=p) k (sz (linP p).m fun i=>costs (linP p) (S.β i)*S.T i ((layP p).N+k))
     simp only[basL_len,decide_eq_false (show ¬ ((linP p).m:Int)<(linP p).m by omega),cF,rowL_len,inB_nat,Int.toNat_natCast,decide_eq_true hk,ble_of (show Nat.succ k≤p.2.length from hk),rowL_get hk,cT,tab_all,tab_map,wrap_id (x:=(layP p).σ k*sz (linP p).m fun i=>costs (linP p) (S.β i)*S.T i ((layP p).N+k)) (by omega) (by omega),part_ok ⟨d1,d2⟩ (show ((layP p).σ k*sz (linP p).m fun i=>costs (linP p) (S.β i)*S.T i ((layP p).N+k)).natAbs≤1152921504606846976 by omega),obind_some',fitB_of (show (k+1)*16≤140737488355328 by omega),succ_wrap (show k≤1000000 by omega)]
     rw[show prQ ((((layP p).σ k*sz (linP p).m fun i=>costs (linP p) (S.β i)*S.T i ((layP p).N+k):Int):Rat) / (S.d:Rat))=(fun k=>prQ (yval (linP p).m (layP p).N (costs (linP p)) S (layP p).σ k)) k from rfl,rowL_snoc]
   ·simp only[decide_eq_false (show ¬ (p.2.length:Int)<p.2.length by omega),cF]
end Go.Proofs.Ytnbbackjofgcfaa

namespace Go.Proofs.Ytnbbackjofgcfaa
open Try Dn Dn.Sh
end Go.Proofs.Ytnbbackjofgcfaa

namespace Go.Proofs.Ytnbbackjofgcfaa
open Try Dn Dn.Sh
end Go.Proofs.Ytnbbackjofgcfaa

namespace Go.Proofs.Ytnbbackjofgcfaa
open Try Dn Dn.Sh
def colP (p:Pg) (j:Nat):List Int:=p.2.map fun r=>r.1.getD j 0
def rightP (p:Pg):List Int:=p.2.map fun r=>r.2.2
theorem map_loop {g:Rw→Int} {rs:List Rw} {F:(List Int×Int×PUnit→Option (List Int))→List Int×Int×PUnit→Option (List Int)} (h:rs.length≤1000000)
  (hF:∀again (i:Nat),i<rs.length→F again ((rs.take i).map g,(i:Int),PUnit.unit)=again ((rs.take i).map g++[g (rs.getD i rw0)],((i+1:Nat):Int),PUnit.unit))
  (hf:∀again,F again (rs.map g,(rs.length:Int),PUnit.unit)=some (rs.map g)):lpK (List Int×Int×PUnit) (List Int) F ([],(0:Int),PUnit.unit)=some (rs.map g):=by
 refine (lpK_up (α:=List Int×Int×PUnit) (σ:=Unit) rs.length (by omega) (fun i _=>((rs.take i).map g,(i:Int),PUnit.unit)) (fun i s k=>bif true then k s else none) (fun _=>some (rs.map g)) ?_ ?_ ()).trans ?_
 ·intro again i _ hi
  rw[hF again i hi,cT]
  congr 2
  rw[getD_nat hi,List.take_succ_eq_append_getElem hi,List.map_append]
  rfl
 ·intro again _
  rw[List.take_length]
  exact hf again
 ·refine (upF_all (p:=fun _=>true) (r:=none) rs.length (fun _ _ _=>rfl) rs.length 0 (by omega)).trans ?_
  rw[show ((List.range' 0 rs.length).all fun _=>true)=true from List.all_eq_true.2 fun _ _=>rfl]
  rfl
theorem take_map_len {g:Rw→Int} {rs:List Rw} {i:Nat}:((rs.take i).map g).length≤rs.length:=by
 rw[List.length_map,List.length_take];omega
theorem column_ok {p:Pg} {j:Nat} (hv:ValidP p) (hj:j<p.1.length):program_column p (j:Int)=some (colP p j):=by
 obtain ⟨c,rs⟩:=p
 unfold program_column program_column_b colP
 have h6:=hv.rows
 simp only at h6 hj
 refine map_loop (rs:=rs) (g:=fun r=>r.1.getD j 0) (by omega) (fun again i hi=>?_) (fun again=>by simp)
 have hw:IntKind.wrap .i64 ((i:Int)+1)=((i+1:Nat):Int):=by rw[wrap_id (by omega) (by omega)];rfl
 have hr:rs.getD i rw0 ∈ rs:=by rw[getD_nat hi];exact List.getElem_mem _
 have hL:=hv.len _ hr
 have hT:=take_map_len (g:=fun r=>r.1.getD j 0) (rs:=rs) (i:=i)
 simp only at hL
 simp only[inB_nat,decide_eq_true hi,decide_eq_true (show (i:Int)<rs.length by omega),cT,Int.toNat_natCast,hw,decide_eq_true (show j<(rs.getD i rw0).1.length by omega),fitB_of (show (((rs.take i).map fun r=>r.1.getD j 0).length+1)*8≤140737488355328 by omega)]
theorem rights_ok {p:Pg} (hv:ValidP p):program_rights p=some (rightP p):=by
 obtain ⟨c,rs⟩:=p
 unfold program_rights program_rights_b rightP
 have h6:=hv.rows
 simp only at h6
 refine map_loop (rs:=rs) (g:=fun r=>r.2.2) (by omega) (fun again i hi=>?_) (fun again=>by simp)
 have hw:IntKind.wrap .i64 ((i:Int)+1)=((i+1:Nat):Int):=by rw[wrap_id (by omega) (by omega)];rfl
 have hT:=take_map_len (g:=fun r=>r.2.2) (rs:=rs) (i:=i)
 simp only[inB_nat,decide_eq_true hi,decide_eq_true (show (i:Int)<rs.length by omega),cT,Int.toNat_natCast,hw,fitB_of (show (((rs.take i).map fun r=>r.2.2).length+1)*8≤140737488355328 by omega)]
end Go.Proofs.Ytnbbackjofgcfaa

namespace Go.Proofs.Ytnbbackjofgcfaa
open Try Dn Dn.Sh
def signK (k n:Int):Bool:=(decide (k≠1)||decide (n≤0))&&(decide (k≠2)||decide (0≤n))
def signedB (p:Pg) (y:List Fq):Bool:=(List.range' 0 p.2.length).all fun i=>signK (p.2.getD i rw0).2.1 (y.getD i (0,0)).1
theorem signed_okP {p:Pg} {y:List Fq} (hv:ValidP p) (hl:y.length=p.2.length):program_signed p y=some (signedB p y):=by
 obtain ⟨c,rs⟩:=p
 unfold program_signed program_signed_b signedB
 have h6:=hv.rows
 simp only at h6 hl ⊢
 refine (lpK_up (α:=Int×PUnit) (σ:=Unit) rs.length (by omega) (fun i _=>((i:Int),PUnit.unit)) (fun i s k=>bif signK (rs.getD i rw0).2.1 (y.getD i (0,0)).1 then k s else some false) (fun _=>some true) ?_ ?_ ()).trans ?_
 ·intro again i _ hi
  have hw:IntKind.wrap .i64 ((i:Int)+1)=((i+1:Nat):Int):=by rw[wrap_id (by omega) (by omega)];rfl
  simp only[inB_nat,decide_eq_true hi,decide_eq_true (show (i:Int)<rs.length by omega),decide_eq_true (show i<y.length by omega),cT,Int.toNat_natCast,hw]
  obtain ⟨n,hn⟩:∃n,(y.getD i (0,0)).1=n:=⟨_,rfl⟩
  obtain ⟨kd,hkd⟩:∃kd,(rs.getD i rw0).2.1=kd:=⟨_,rfl⟩
  simp only[hn,hkd,signK]
  by_cases k1:kd=1<;>by_cases k2:kd=2<;>by_cases c1:n≤0<;>by_cases c2:0≤n<;>by_cases c3:n>0<;>by_cases c4:n<0<;>first | (exfalso;omega) | simp[k1,k2,c1,c2,c3,c4]
 ·intro again s
  simp only[decide_eq_false (show ¬ (rs.length:Int)<rs.length by omega),cF]
 ·refine (upF_all (p:=fun i=>signK (rs.getD i rw0).2.1 (y.getD i (0,0)).1) (r:=some false) rs.length (fun _ _ _=>rfl) rs.length 0 (by omega)).trans ?_
  cases (List.range' 0 rs.length).all fun i=>signK (rs.getD i rw0).2.1 (y.getD i (0,0)).1<;>rfl
end Go.Proofs.Ytnbbackjofgcfaa

namespace Go.Proofs.Ytnbbackjofgcfaa
open Try Dn Dn.Sh
noncomputable def fitsY (p:Pg) (y:List Fq):Bool:=(List.range' 0 p.1.length).all fun j=>(sumR (colP p j) y 0).isSome
noncomputable def belowB (p:Pg) (y:List Fq) (f:Nat→Int):Bool:=(List.range' 0 p.1.length).all fun j=>decide (cmpQ ((sumR (colP p j) y 0).getD 0) (f j:Rat)≤0)
theorem col_inC {p:Pg} {j:Nat} (hv:ValidP p) (hj:j<p.1.length):∀n ∈ colP p j,inC n=true:=fun n hn=>by
 obtain ⟨r,hr,rfl⟩:=List.mem_map.1 hn
 rw[getD_nat (by rw[hv.len r hr];exact hj)]
 exact hv.coefs r hr _ (List.getElem_mem _)
theorem col_len {p:Pg} {j:Nat}:(colP p j).length=p.2.length:=by unfold colP;rw[List.length_map]
theorem right_len {p:Pg}:(rightP p).length=p.2.length:=by unfold rightP;rw[List.length_map]
theorem right_inR {p:Pg} (hv:ValidP p):∀n ∈ rightP p,inR n=true:=fun n hn=>by
 obtain ⟨r,hr,rfl⟩:=List.mem_map.1 hn
 exact hv.right r hr
theorem upF_and {R:Type} {n:Nat} {g h:Nat→Bool} {f:Bool×Int→Option R} {b:Nat→Bool×Int→(Bool×Int→Option R)→Option R}
  (hb:∀i s k,i<n→b i s k=k (s.1&&h i,bif g i then s.2 else 5)):∀(k i:Nat) (s:Bool×Int),i+k≤n →
  upF b f k i s=f (s.1&&(List.range' i k).all h,bif (List.range' i k).all g then s.2 else 5)
 | 0,i,s,_=>by simp[upF]
 | k+1,i,s,hi=>by
  simp only[upF,hb i s _ (by omega)]
  rw[upF_and hb k (i+1) _ (by omega)]
  simp only[List.range'_succ,List.all_cons,Bool.and_assoc]
  congr 2
  cases g i<;>cases (List.range' (i+1) k).all g<;>rfl
end Go.Proofs.Ytnbbackjofgcfaa

namespace Go.Proofs.Ytnbbackjofgcfaa
open Try Dn Dn.Sh
theorem of_okR {l:List Int} {x:List Fq} {e:Int} (hl:l.length≤x.length) (h0:l.length≤1000000) (hc:∀n ∈ l,inR n=true) (hx:∀a ∈ x,okF a) :
  program_sums_of e l x=some (bif (sumR l x 0).isSome then e else 5,prQ ((sumR l x 0).getD 0)):=by
 rw[of_ok hl h0 (fun n hn=>inR_big (hc n hn)) hx]
 cases sumR l x 0<;>rfl
noncomputable def sumY (p:Pg) (y:List Fq):Option Rat:=sumR (rightP p) y 0
end Go.Proofs.Ytnbbackjofgcfaa

namespace Go.Proofs.Ytnbbackjofgcfaa
open Try Dn Dn.Sh
end Go.Proofs.Ytnbbackjofgcfaa

namespace Go.Proofs.Ytnbbackjofgcfaa
open Try Dn Dn.Sh
end Go.Proofs.Ytnbbackjofgcfaa

namespace Go.Proofs.Ytnbbackjofgcfaa
open Try Dn Dn.Sh
def eqV (q:Rat) (v:Fq):Bool:=decide ((prQ q).1=v.1)&&(decide ((prQ q).2=v.2)&&true)
noncomputable def provesB (p:Pg) (y:List Fq) (v:Fq):Bool:=belowB p y (fun j=>p.1.getD j 0)&&(eqV ((sumY p y).getD 0) v&&signedB p y)
noncomputable def fitsA (p:Pg) (x y:List Fq):Bool:=fitsX p x&&((sumR p.1 x 0).isSome&&(fitsY p y&&(sumY p y).isSome))
noncomputable def checkB (p:Pg) (v:Fq) (x y:List Fq):Bool:=feasB p x&&(eqV ((sumR p.1 x 0).getD 0) v&&provesB p y v)
theorem pcheck_ok {p:Pg} {v:Fq} {x y:List Fq} (hx:x.length≤1000000) (hy:y.length≤1000000):program_Check p (v,x,y)=some (bif validP p&&(decide (okF v)&&(okL x&&okL y)) then bif decide (x.length=p.1.length)&&decide (y.length=p.2.length) then bif fitsA p x y then (checkB p v x y,0,()) else (false,5,()) else (false,3,()) else (false,1,())):=by
 unfold program_Check program_Check_b
 rw[pValid_ok,obN]
 simp only[right_ok hx,right_ok hy,Valid_ok,not_or_self',or_self_not,cT]
 cases hv:validP p with
 | false=>rfl
 | true =>
  simp only[Bool.not_true,Bool.not_false,cT]
  rw[obN]
  cases hvv:decide (okF v) with
  | false=>rfl
  | true =>
  simp only[Bool.not_true,Bool.not_false,cT,cF]
  rw[obN]
  cases hx':okL x with
  | false=>rfl
  | true =>
  simp only[Bool.not_true,Bool.not_false,cT,cF]
  rw[obN]
  cases hy':okL y with
  | false=>rfl
  | true =>
   have hV:=validP_iff.1 hv
   have hX:=okL_iff.1 hx'
   have hY:=okL_iff.1 hy'
   have h6:=hV.rows
   have h7:=hV.cost.2
   simp only[Bool.not_true,cF,Bool.and_self,cT]
   by_cases hl:x.length=p.1.length
   ·simp only[decide_eq_true hl,decide_eq_true (show (x.length:Int)=p.1.length by omega),Bool.not_true,cT,cF,Bool.true_and]
    by_cases hm:y.length=p.2.length
    ·simp only[decide_eq_true hm,decide_eq_true (show (y.length:Int)=p.2.length by omega),Bool.not_true,cT,cF]
     rw[sfeas_ok hV hX hl,obN,of_ok' (by omega) (by omega) (fun n hn=>hV.cs n hn) hX,obN]
     have hi:∀e0:Bool,(!e0||e0)=true:=fun e0=>by cases e0<;>rfl
     simp only[hi,cT]
     refine (lpK_up (α:=Bool×Int×Int×PUnit) p.1.length (by omega) (fun i (s:Bool×Int)=>(s.1,(i:Int),s.2,PUnit.unit)) (fun j s k=>k (s.1&&decide (cmpQ ((sumR (colP p j) y 0).getD 0) ((p.1.getD j 0:Int):Rat)≤0),bif (sumR (colP p j) y 0).isSome then s.2 else 5))
      (fun s=>some ((feasB p x&&(eqV ((sumR p.1 x 0).getD 0) v&&(s.1&&(eqV ((sumY p y).getD 0) v&&signedB p y))))&&decide ((bif (sumY p y).isSome then s.2 else 5)=0),bif (sumY p y).isSome then s.2 else 5,())) ?_ ?_ (true,_)).trans ?_
     ·intro again i s hi'
      have hw:IntKind.wrap .i64 ((i:Int)+1)=((i+1:Nat):Int):=by rw[wrap_id (by omega) (by omega)];rfl
      have h1:=of_ok' (l:=colP p i) (x:=y) (e:=s.2) (by rw[col_len];omega) (by rw[col_len];omega) (col_inC hV hi') hY
      have hn:p.1.getD i 0 ∈ p.1:=by rw[getD_nat (by omega)];exact List.getElem_mem _
      have h2:=pcmp_ok (n:=p.1.getD i 0) (okF_prQ (sumR_ok (l:=colP p i) (x:=y))) (inC_big (hV.cs _ hn))
      rw[qv_prQ] at h2
      simp only[decide_eq_true (show (i:Int)<p.1.length by omega),cT,column_ok hV hi',h1,program_Check_1,program_Check_1_b,inB_nat,decide_eq_true hi',Int.toNat_natCast,h2,obind_some',hw,hi]
      cases decide (cmpQ ((sumR (colP p i) y 0).getD 0) ((p.1.getD i 0:Int):Rat)≤0)<;>cases s.1<;>rfl
     ·intro again s
      have h1:=of_okR (l:=rightP p) (x:=y) (e:=s.2) (by rw[right_len];omega) (by rw[right_len];omega) (right_inR hV) hY
      simp only[decide_eq_false (show ¬ (p.1.length:Int)<p.1.length by omega),cF,rights_ok hV,h1,obind_some',signed_okP hV hm,hi,cT,Bool.and_self]
      unfold eqV sumY
      obtain ⟨b1,e1⟩:∃b,(decide ((prQ ((sumR (rightP p) y 0).getD 0)).1=v.1)&&(decide ((prQ ((sumR (rightP p) y 0).getD 0)).2=v.2)&&true))=b:=⟨_,rfl⟩
      obtain ⟨b2,e2⟩:∃b,(decide ((prQ ((sumR p.1 x 0).getD 0)).1=v.1)&&(decide ((prQ ((sumR p.1 x 0).getD 0)).2=v.2)&&true))=b:=⟨_,rfl⟩
      simp only[e1,e2]
      cases b1<;>cases b2<;>cases signedB p y<;>cases s.1<;>cases feasB p x<;>rfl
     ·rw[upF_and (n:=p.1.length) (g:=fun j=>(sumR (colP p j) y 0).isSome) (h:=fun j=>decide (cmpQ ((sumR (colP p j) y 0).getD 0) ((p.1.getD j 0:Int):Rat)≤0)) (fun _ _ _ _=>rfl) p.1.length 0 _ (by omega)]
      rw[show ((List.range' 0 p.1.length).all fun j=>(sumR (colP p j) y 0).isSome)=fitsY p y from rfl,show ((List.range' 0 p.1.length).all fun j=>decide (cmpQ ((sumR (colP p j) y 0).getD 0) ((p.1.getD j 0:Int):Rat)≤0))=belowB p y (fun j=>p.1.getD j 0) from rfl]
      unfold fitsA checkB provesB
      generalize fitsY p y=b1
      generalize (sumY p y).isSome=b2
      generalize fitsX p x=b3
      generalize (sumR p.1 x 0).isSome=b4
      generalize feasB p x=b5
      generalize eqV ((sumR p.1 x 0).getD 0) v=b6
      generalize belowB p y (fun j=>p.1.getD j 0)=b7
      generalize eqV ((sumY p y).getD 0) v=b8
      generalize signedB p y=b9
      cases b1<;>cases b2<;>cases b3<;>cases b4<;>(try rfl)<;>cases b5<;>cases b6<;>cases b7<;>cases b8<;>cases b9<;>rfl
    ·simp only[decide_eq_false hm,decide_eq_false (show ¬ (y.length:Int)=p.2.length by omega),Bool.not_false,cT,cF]
   ·simp only[decide_eq_false hl,decide_eq_false (show ¬ (x.length:Int)=p.1.length by omega),Bool.not_false,Bool.not_true,cT,cF,Bool.false_and]
end Go.Proofs.Ytnbbackjofgcfaa

namespace Go.Proofs.Ytnbbackjofgcfaa
open Try Dn Dn.Sh
def vX (x:List Fq) (j:Nat):Rat:=qv (x.getD j (0,0))
theorem sq_front {f:Nat→Rat}:∀{n:Nat},sq (n+1) f=f 0+sq n fun i=>f (i+1)
 | 0=>by simp only[sq];grind
 | n+1=>by
  rw[sq,sq_front (n:=n)]
  simp only[sq]
  grind
theorem sumR_val:∀{l:List Int} {x:List Fq} {s q:Rat},l.length≤x.length→sumR l x s=some q→q=s+sq l.length fun j=>((l.getD j 0:Int):Rat)*vX x j
 | [],x,s,q,_,h=>by
  unfold sumR at h
  injection h with h
  simp only[List.length_nil,sq]
  grind
 | n ::l,[],s,q,hl,h=>by simp at hl
 | n ::l,a ::x,s,q,hl,h=>by
  unfold sumR at h
  split at h
  ·have h1:=sumR_val (l:=l) (x:=x) (by simpa using hl) h
   rw[List.length_cons,sq_front,h1]
   have e1:∀j,(n ::l).getD (j+1) 0=l.getD j 0:=fun j=>rfl
   have e2:∀j,vX (a ::x) (j+1)=vX x j:=fun j=>rfl
   simp only[e1,e2]
   have e3:((n ::l).getD 0 0:Int)=n:=rfl
   have e4:vX (a ::x) 0=qv a:=rfl
   rw[e3,e4]
   grind
  ·cases h
theorem sumR_get {l:List Int} {x:List Fq} (hl:l.length≤x.length) (h:(sumR l x 0).isSome=true):(sumR l x 0).getD 0=sq l.length fun j=>((l.getD j 0:Int):Rat)*vX x j:=by
 cases hq:sumR l x 0 with
 | none=>rw[hq] at h;cases h
 | some q =>
  have:=sumR_val hl hq
  rw[Option.getD_some,this]
  grind
theorem cmpQ_le {a b:Rat}:cmpQ a b≤0↔a≤b:=by
 unfold cmpQ
 by_cases h:a<b
 ·rw[if_pos h]
  exact ⟨fun _=>Rat.le_of_lt h,fun _=>by omega⟩
 ·rw[if_neg h]
  by_cases h2:a=b
  ·rw[if_pos h2]
   exact ⟨fun _=>by rw[h2];exact Rat.le_refl,fun _=>by omega⟩
  ·rw[if_neg h2]
   refine ⟨fun h3=>by omega,fun h3=>?_⟩
   exact (h (Rat.lt_of_le_of_ne h3 h2)).elim
theorem cmpQ_ge {a b:Rat}:cmpQ a b≥0↔b≤a:=by
 unfold cmpQ
 by_cases h:a<b
 ·rw[if_pos h]
  exact ⟨fun h3=>by omega,fun h3=>(Rat.not_lt.2 h3 h).elim⟩
 ·rw[if_neg h]
  have h1:=Rat.not_lt.1 h
  split<;>exact ⟨fun _=>h1,fun _=>by omega⟩
theorem cmpQ_eq {a b:Rat}:cmpQ a b=0↔a=b:=by
 unfold cmpQ
 by_cases h:a<b
 ·rw[if_pos h]
  exact ⟨fun h3=>by omega,fun h3=>by rw[h3] at h;exact (Rat.lt_irrefl h).elim⟩
 ·rw[if_neg h]
  by_cases h2:a=b
  ·rw[if_pos h2]
   exact ⟨fun _=>h2,fun _=>rfl⟩
  ·rw[if_neg h2]
   exact ⟨fun h3=>by omega,fun h3=>(h2 h3).elim⟩
theorem all_idx {α:Type} {P:α→Bool} {l:List α} (d:α):l.all P=true↔∀k,k<l.length→P (l.getD k d)=true:=by
 rw[←all_range (p:=P) d,List.all_eq_true]
 exact ⟨fun h k hk=>h k (List.mem_range'.2 ⟨k,hk,by omega⟩),fun h i hi=>by obtain ⟨k,hk,rfl⟩:=List.mem_range'.1 hi;exact h _ (by omega)⟩
theorem row_sum {p:Pg} {x:List Fq} (hv:ValidP p) (hl:x.length=p.1.length) {k:Nat} (hk:k<p.2.length) (h:(sumR (p.2.getD k rw0).1 x 0).isSome=true):(sumR (p.2.getD k rw0).1 x 0).getD 0=(linP p).row (vX x) k:=by
 have hr:p.2.getD k rw0 ∈ p.2:=by rw[getD_nat hk];exact List.getElem_mem _
 rw[sumR_get (by rw[hv.len _ hr,hl];exact Nat.le_refl _) h,hv.len _ hr]
 rfl
theorem feas_iff {p:Pg} {x:List Fq} (hv:ValidP p) (hx:∀a ∈ x,okF a) (hl:x.length=p.1.length) (hf:fitsX p x=true):feasB p x=true↔(linP p).Feas (vX x):=by
 have hrow:∀k,k<p.2.length→(sumR (p.2.getD k rw0).1 x 0).getD 0=(linP p).row (vX x) k:=fun k hk=>row_sum hv hl hk ((all_idx (P:=fun r:Rw=>(sumR r.1 x 0).isSome) rw0).1 hf k hk)
 have hkd:∀k,k<p.2.length→1≤(p.2.getD k rw0).2.1∧(p.2.getD k rw0).2.1≤3:=fun k hk=>hv.kind _ (by rw[getD_nat hk];exact List.getElem_mem _)
 have hpos:∀j,j<x.length→(decide (0≤(x.getD j (0,0)).1)=true↔0≤vX x j):=fun j hj=>by
  rw[decide_eq_true_iff]
  exact (okF_nonneg (hx _ (by rw[getD_nat hj];exact List.getElem_mem _))).symm
 unfold feasB
 rw[Bool.and_eq_true,all_idx (0,0),all_idx rw0]
 have hhold:∀k,k<p.2.length→(holdR x (p.2.getD k rw0)=true↔((linP p).kd k≠2→(linP p).row (vX x) k≤(linP p).b k)∧((linP p).kd k≠1→((linP p).b k:Rat)≤(linP p).row (vX x) k)):=fun k hk=>by
  unfold holdR holdK
  rw[hrow k hk]
  have h1:=hkd k hk
  have e1:(linP p).kd k=(p.2.getD k rw0).2.1:=rfl
  have e2:(linP p).b k=(p.2.getD k rw0).2.2:=rfl
  rw[e1,e2]
  simp only[Bool.and_eq_true,Bool.or_eq_true,decide_eq_true_iff,cmpQ_le,cmpQ_ge,cmpQ_eq]
  generalize (p.2.getD k rw0).2.1=kd at *
  generalize (linP p).row (vX x) k=r at *
  generalize ((p.2.getD k rw0).2.2:Rat)=b at *
  constructor
  ·rintro ⟨a1,a2,a3⟩
   refine ⟨fun h=>?_,fun h=>?_⟩
   ·rcases a1 with a1 | a1
    ·rcases a3 with a3 | a3
     ·omega
     ·rw[a3];exact Rat.le_refl
    ·exact a1
   ·rcases a2 with a2 | a2
    ·rcases a3 with a3 | a3
     ·omega
     ·rw[a3];exact Rat.le_refl
    ·exact a2
  ·rintro ⟨a1,a2⟩
   by_cases c1:kd=1
   ·exact ⟨.inr (a1 (by omega)),.inl (by omega),.inl (by omega)⟩
   ·by_cases c2:kd=2
    ·exact ⟨.inl c1,.inr (a2 c1),.inl (by omega)⟩
    ·exact ⟨.inl c1,.inl c2,.inr (Rat.le_antisymm (a1 c2) (a2 c1))⟩
 constructor
 ·rintro ⟨h1,h2⟩
  exact ⟨fun j hj=>(hpos j (by rw[hl];exact hj)).1 (h1 j (by rw[hl];exact hj)),fun k hk=>((hhold k hk).1 (h2 k hk)).1,fun k hk=>((hhold k hk).1 (h2 k hk)).2⟩
 ·rintro ⟨h1,h2,h3⟩
  exact ⟨fun j hj=>(hpos j hj).2 (h1 j (show j<p.1.length by omega)),fun k hk=>(hhold k hk).2 ⟨h2 k hk,h3 k hk⟩⟩
theorem signed_iff {p:Pg} {y:List Fq} (hy:∀a ∈ y,okF a) (hl:y.length=p.2.length):signedB p y=true↔(linP p).Sgn (vX y):=by
 have hpos:∀j,j<y.length→((0≤(y.getD j (0,0)).1↔0≤vX y j)∧((y.getD j (0,0)).1≤0↔vX y j≤0)):=fun j hj=>by
  have hok:=hy (y.getD j (0,0)) (by rw[getD_nat hj];exact List.getElem_mem _)
  have h1:=okF_nonneg hok
  have h2:=okF_neg hok
  have h3:=okF_zero hok
  refine ⟨h1.symm,?_⟩
  unfold vX
  constructor
  ·intro h
   by_cases c:(y.getD j (0,0)).1=0
   ·rw[h3.2 c];exact Rat.le_refl
   ·exact Rat.le_of_lt (h2.2 (by omega))
  ·intro h
   apply Int.not_lt.1
   intro h4
   have h5:=h1.2 (by omega)
   have h6:=h3.1 (Rat.le_antisymm h h5)
   omega
 unfold signedB
 rw[List.all_eq_true]
 have key:∀k,k<p.2.length→(signK (p.2.getD k rw0).2.1 (y.getD k (0,0)).1=true↔((linP p).kd k=1→vX y k≤0)∧((linP p).kd k=2→0≤vX y k)):=fun k hk=>by
  obtain ⟨h1,h2⟩:=hpos k (by omega)
  unfold signK
  have e1:(linP p).kd k=(p.2.getD k rw0).2.1:=rfl
  rw[e1,Bool.and_eq_true,Bool.or_eq_true,Bool.or_eq_true,decide_eq_true_iff,decide_eq_true_iff,decide_eq_true_iff,decide_eq_true_iff,h1,h2]
  constructor
  ·rintro ⟨a1,a2⟩
   exact ⟨fun e=>a1.resolve_left fun h=>h e,fun e=>a2.resolve_left fun h=>h e⟩
  ·rintro ⟨a1,a2⟩
   refine ⟨?_,?_⟩
   ·by_cases c:(p.2.getD k rw0).2.1=1
    ·exact .inr (a1 c)
    ·exact .inl c
   ·by_cases c:(p.2.getD k rw0).2.1=2
    ·exact .inr (a2 c)
    ·exact .inl c
 constructor
 ·intro h
  exact ⟨fun k hk=>((key k hk).1 (h k (List.mem_range'.2 ⟨k,hk,by omega⟩))).1,fun k hk=>((key k hk).1 (h k (List.mem_range'.2 ⟨k,hk,by omega⟩))).2⟩
 ·rintro ⟨h1,h2⟩ i hi
  obtain ⟨k,hk,rfl⟩:=List.mem_range'.1 hi
  simp only[Nat.one_mul,Nat.zero_add]
  exact (key k hk).2 ⟨h1 k hk,h2 k hk⟩
theorem col_sum {p:Pg} {y:List Fq} (hl:y.length=p.2.length) {j:Nat} (h:(sumR (colP p j) y 0).isSome=true):(sumR (colP p j) y 0).getD 0=(linP p).col (vX y) j:=by
 rw[sumR_get (by rw[col_len];omega) h,col_len]
 refine sq_congr fun k hk=>?_
 unfold colP
 have hk:k<p.2.length:=hk
 rw[getD_nat (show k<(p.2.map fun r=>r.1.getD j 0).length by rw[List.length_map];exact hk),List.getElem_map]
 show _=(((p.2.getD k rw0).1.getD j 0:Int):Rat)*_
 rw[getD_nat hk]
theorem right_sum {p:Pg} {y:List Fq} (hl:y.length=p.2.length) (h:(sumY p y).isSome=true):(sumY p y).getD 0=(linP p).rhs (vX y):=by
 unfold sumY at h ⊢
 rw[sumR_get (by rw[right_len];omega) h,right_len]
 refine sq_congr fun k hk=>?_
 unfold rightP
 have hk:k<p.2.length:=hk
 rw[getD_nat (show k<(p.2.map fun r=>r.2.2).length by rw[List.length_map];exact hk),List.getElem_map]
 show _=(((p.2.getD k rw0).2.2:Int):Rat)*_
 rw[getD_nat hk]
theorem val_sum {p:Pg} {x:List Fq} (hl:x.length=p.1.length) (h:(sumR p.1 x 0).isSome=true):(sumR p.1 x 0).getD 0=(linP p).val (vX x):=by
 rw[sumR_get (by omega) h]
 rfl
theorem below_iff {p:Pg} {y:List Fq} {f:Nat→Int} (hl:y.length=p.2.length) (hf:fitsY p y=true):belowB p y f=true↔∀j,j<p.1.length→(linP p).col (vX y) j≤(f j:Rat):=by
 unfold fitsY at hf
 rw[List.all_eq_true] at hf
 unfold belowB
 rw[List.all_eq_true]
 have hc:∀j,j<p.1.length→(sumR (colP p j) y 0).getD 0=(linP p).col (vX y) j:=fun j hj=>col_sum hl (hf j (List.mem_range'.2 ⟨j,hj,by omega⟩))
 constructor
 ·intro h j hj
  have:=h j (List.mem_range'.2 ⟨j,hj,by omega⟩)
  rw[decide_eq_true_iff,cmpQ_le,hc j hj] at this
  exact this
 ·intro h i hi
  obtain ⟨k,hk,rfl⟩:=List.mem_range'.1 hi
  simp only[Nat.one_mul,Nat.zero_add]
  rw[decide_eq_true_iff,cmpQ_le,hc k hk]
  exact h k hk
theorem eqV_iff {q r:Rat}:eqV q (prQ r)=true↔q=r:=by
 unfold eqV prQ
 rw[Bool.and_eq_true,Bool.and_eq_true,decide_eq_true_iff,decide_eq_true_iff]
 constructor
 ·rintro ⟨h1,h2,_⟩
  simp only at h1 h2
  exact Rat.ext h1 (by omega)
 ·rintro rfl
  exact ⟨rfl,rfl,rfl⟩
theorem check_iff {p:Pg} {x y:List Fq} {v:Rat} (hv:ValidP p) (hx:∀a ∈ x,okF a) (hy:∀a ∈ y,okF a) (hlx:x.length=p.1.length) (hly:y.length=p.2.length) (hf:fitsA p x y=true) :
  checkB p (prQ v) x y=true↔(linP p).Feas (vX x)∧(linP p).Dual (vX y)∧(linP p).val (vX x)=v∧(linP p).rhs (vX y)=v:=by
 unfold fitsA at hf
 simp only[Bool.and_eq_true] at hf
 obtain ⟨f1,f2,f3,f4⟩:=hf
 unfold checkB provesB
 simp only[Bool.and_eq_true]
 rw[feas_iff hv hx hlx f1,val_sum hlx f2,right_sum hly f4,eqV_iff,eqV_iff,signed_iff hy hly,below_iff hly f3]
 constructor
 ·rintro ⟨a1,a2,a3,a4,a5⟩
  exact ⟨a1,⟨a5,fun j hj=>a3 j hj⟩,a2,a4⟩
 ·rintro ⟨a1,a2,a3,a4⟩
  exact ⟨a1,a3,fun j hj=>a2.col j hj,a4,a2.toSgn⟩
end Go.Proofs.Ytnbbackjofgcfaa

namespace Go.Proofs.Ytnbbackjofgcfaa
open Try Dn Dn.Sh
theorem sz_front {f:Nat→Int}:∀{n:Nat},sz (n+1) f=f 0+sz n fun i=>f (i+1)
 | 0=>by simp[sz]
 | n+1=>by
  rw[sz,sz_front (n:=n)]
  simp only[sz]
  omega
theorem rowL_cons {α:Type} {n:Nat} {f:Nat→α}:rowL (n+1) f=f 0 ::rowL n fun i=>f (i+1):=by
 unfold rowL
 rw[List.range_succ_eq_map,List.map_cons,List.map_map]
 rfl
theorem sumR_int {d B:Int} (hd:0<d∧d≤1152921504606846976) (hB:B≤1152921504606846976):∀{l:List Int} {X:Nat→Int} {s:Int},(∀j,j<l.length→ab (l.getD j 0*X j)≤B)→(∀i,i≤l.length→ab (s+sz i fun j=>l.getD j 0*X j)≤B) →
  sumR l (rowL l.length fun j=>prQ ((X j:Rat) / (d:Rat))) ((s:Rat) / (d:Rat))=some (((s+sz l.length fun j=>l.getD j 0*X j:Int):Rat) / (d:Rat))
 | [],X,s,_,_=>by
  unfold sumR
  simp[sz]
 | n ::l,X,s,h1,h2=>by
  have e1:∀j,(n ::l).getD (j+1) 0=l.getD j 0:=fun j=>rfl
  have e0:((n ::l).getD 0 0:Int)=n:=rfl
  have a1:=h1 0 (by simp)
  have a2:=h2 1 (by simp)
  simp only[sz,e0,Int.zero_add] at a1 a2
  rw[List.length_cons,rowL_cons]
  unfold sumR
  rw[qv_prQ]
  have q1:(n:Rat)*((X 0:Rat) / (d:Rat))=((n*X 0:Int):Rat) / (d:Rat):=by rw[Rat.intCast_mul];grind
  have q2:(s:Rat) / (d:Rat)+((n*X 0:Int):Rat) / (d:Rat)=((s+n*X 0:Int):Rat) / (d:Rat):=by rw[Rat.intCast_add];grind
  have b1:(n*X 0).natAbs≤1152921504606846976:=by rw[ab_abs] at a1;omega
  have b2:(s+n*X 0).natAbs≤1152921504606846976:=by rw[ab_abs] at a2;omega
  rw[q1,q2,if_pos ⟨fitsDiv (by omega) b1 (by omega),fitsDiv (by omega) b2 (by omega)⟩]
  have ih:=sumR_int hd hB (l:=l) (X:=fun j=>X (j+1)) (s:=s+n*X 0) (fun j hj=>h1 (j+1) (by simpa using hj)) (fun i hi=>by
   have:=h2 (i+1) (by simpa using hi)
   rw[sz_front] at this
   simp only[e1,e0] at this
   rw[←Int.add_assoc] at this
   exact this)
  rw[ih]
  congr 3
  rw[sz_front]
  simp only[e1,e0]
  omega
theorem part_bound {n i:Nat} {a X:Nat→Int} {B:Int} (hi:i≤n) (hB:0≤B) (hX:∀j,j<n→ab (X j)≤B):ab (sz i fun j=>a j*X j)≤(sz n fun j=>ab (a j))*B:=by
 refine Int.le_trans sz_abs ?_
 have h1:(sz i fun j=>ab (a j*X j))≤sz i fun j=>ab (a j)*B:=sz_le fun j hj=>by
  rw[ab_mul]
  exact Int.mul_le_mul_of_nonneg_left (hX j (by omega)) (ab_nonneg _)
 refine Int.le_trans h1 ?_
 rw[sz_mulr]
 refine Int.mul_le_mul_of_nonneg_right ?_ hB
 obtain ⟨k,rfl⟩:∃k,n=i+k:=⟨n - i,by omega⟩
 rw[sz_split]
 have:0≤sz k fun l=>ab (a (i+l)):=sz_nonneg fun _ _=>ab_nonneg _
 omega
theorem term_le {n j:Nat} {f:Nat→Int} (hj:j<n) (hf:∀i,i<n→0≤f i):f j≤sz n f:=by
 have h1:(sz n fun i=>if i=j then f j else 0)≤sz n f:=sz_le fun i hi=>by
  by_cases e:i=j
  ·rw[if_pos e,e];exact Int.le_refl _
  ·rw[if_neg e];exact hf i hi
 rw[sz_one hj fun i _ hne=>if_neg hne,if_pos rfl] at h1
 exact h1
theorem prod_bound {n j:Nat} {a X:Nat→Int} {B:Int} (hj:j<n) (hB:0≤B) (hX:∀j,j<n→ab (X j)≤B):ab (a j*X j)≤(sz n fun j=>ab (a j))*B:=by
 rw[ab_mul]
 refine Int.le_trans (Int.mul_le_mul_of_nonneg_left (hX j hj) (ab_nonneg _)) (Int.mul_le_mul_of_nonneg_right ?_ hB)
 exact term_le (f:=fun j=>ab (a j)) hj fun _ _=>ab_nonneg _
theorem sumR_dot {l:List Int} {X:Nat→Int} {d B:Int} (hd:0<d∧d≤1152921504606846976) (hB:0≤B) (hX:∀j,j<l.length→ab (X j)≤B) (h:(sz l.length fun j=>ab (l.getD j 0))*B≤1152921504606846976) :
  (sumR l (rowL l.length fun j=>prQ ((X j:Rat) / (d:Rat))) 0).isSome=true:=by
 have h0:(0:Rat)=((0:Int):Rat) / (d:Rat):=by rw[show ((0:Int):Rat)=0 from rfl,Rat.div_def,Rat.zero_mul]
 rw[h0,sumR_int hd h (fun j hj=>prod_bound (a:=fun j=>l.getD j 0) hj hB hX) (fun i hi=>by rw[Int.zero_add];exact part_bound (a:=fun j=>l.getD j 0) hi hB hX)]
 rfl
theorem sumR_small {l:List Int} {X:Nat→Int} {d B:Int} (hd:0<d∧d≤1152921504606846976) (hB:0≤B) (hX:∀j,j<l.length→ab (l.getD j 0*X j)≤B) (h:(l.length:Int)*B≤1152921504606846976) (hB2:B≤1152921504606846976) :
  (sumR l (rowL l.length fun j=>prQ ((X j:Rat) / (d:Rat))) 0).isSome=true:=by
 have h0:(0:Rat)=((0:Int):Rat) / (d:Rat):=by rw[show ((0:Int):Rat)=0 from rfl,Rat.div_def,Rat.zero_mul]
 have hsum:∀i,i≤l.length→ab (0+sz i fun j=>l.getD j 0*X j)≤1152921504606846976:=fun i hi=>by
  rw[Int.zero_add]
  have h1:=sz_bound (n:=i) (f:=fun j=>l.getD j 0*X j) (B:=B) fun j hj=>ab_le.1 (hX j (by omega))
  have h2:(i:Int)*B≤l.length*B:=Int.mul_le_mul_of_nonneg_right (by omega) hB
  refine ab_le.2 ⟨?_,?_⟩<;>omega
 rw[h0,sumR_int hd (Int.le_refl _) (fun j hj=>Int.le_trans (hX j hj) hB2) hsum]
 rfl
section
variable {p:Pg} {S:Sx}
theorem xnum_le (hB:Bnd (linP p) (layP p)) (hv:(layP p).Val (linP p) S) (j:Nat):0≤xnum (linP p).m ((layP p).R (linP p)) S j∧xnum (linP p).m ((layP p).R (linP p)) S j≤(linP p).P:=by
 refine ⟨xnum_nonneg hv j,?_⟩
 have hRw:(layP p).R (linP p)<(layP p).w (linP p):=by unfold Lay.R Lay.w;omega
 obtain ⟨_,hb⟩:=hB.tabP hv.tb
 unfold xnum
 by_cases h:∃i,i<(linP p).m∧S.β i=j
 ·obtain ⟨i,hi,e⟩:=h
  rw[sz_one hi fun k hk hne=>if_neg fun e2=>hne (hv.tb.inj hk hi (by rw[e,e2])),if_pos e]
  have:=hb i _ hi hRw
  omega
 ·rw[sz_zero fun i hi=>if_neg fun e=>h ⟨i,hi,e⟩]
  have:=(linP p).P_pos
  omega
theorem sgn_abs' (k:Nat) (x:Int):ab ((layP p).σ k*x)=ab x:=by
 rw[ab_abs,ab_abs,sig_abs]
theorem ynum_le (hB:Bnd (linP p) (layP p)) (hv:(layP p).Val (linP p) S) {wc:Nat→Int} {W:Int} (hW:∀j,ab (wc j)≤W) {k:Nat} (hk:k<(linP p).m):(linP p).F k*ab (ynum (linP p).m (layP p).N wc S (layP p).σ k)≤12*(W*(linP p).P):=by
 have hF:=(linP p).F_pos k
 have hW0:0≤W:=Int.le_trans (ab_nonneg _) (hW 0)
 have hP:=(linP p).P_pos
 have hm:=hB.m
 unfold ynum
 rw[sgn_abs']
 have h1:ab (sz (linP p).m fun i=>wc (S.β i)*S.T i ((layP p).N+k))≤sz (linP p).m fun i=>W*ab (S.T i ((layP p).N+k)):=Int.le_trans sz_abs (sz_le fun i _=>by
  rw[ab_mul]
  exact Int.mul_le_mul_of_nonneg_right (hW _) (ab_nonneg _))
 have h2:(linP p).F k*(sz (linP p).m fun i=>W*ab (S.T i ((layP p).N+k)))=sz (linP p).m fun i=>W*((linP p).F k*ab (S.T i ((layP p).N+k))):=by
  rw[←sz_mul]
  exact sz_congr fun i _=>by grind
 have h3:(sz (linP p).m fun i=>W*((linP p).F k*ab (S.T i ((layP p).N+k))))≤sz (linP p).m fun _=>W*(linP p).P:=sz_le fun i hi=>Int.mul_le_mul_of_nonneg_left (art_bound hB.ok hv.tb hi hk) hW0
 have h4:∀n:Nat,(sz n fun _=>W*(linP p).P)=n*(W*(linP p).P):=fun n=>by
  induction n with
  | zero=>simp[sz]
  | succ n ih =>
   simp only[sz]
   rw[ih,show ((n+1:Nat):Int)=(n:Int)+1 by omega,Int.add_mul,Int.one_mul]
 have h5:0≤W*(linP p).P:=Int.mul_nonneg hW0 (by omega)
 have h6:((linP p).m:Int)*(W*(linP p).P)≤12*(W*(linP p).P):=Int.mul_le_mul_of_nonneg_right (by omega) h5
 have h7:=Int.mul_le_mul_of_nonneg_left h1 (show 0≤(linP p).F k by omega)
 rw[h2] at h7
 rw[h4] at h3
 omega
theorem coef_F (k j:Nat) (hj:j<(linP p).n):ab ((linP p).A k j)≤(linP p).F k∧ab ((linP p).b k)≤(linP p).F k:=by
 have h1:=term_le (n:=(linP p).n) (f:=fun j=>ab ((linP p).A k j)) hj fun _ _=>ab_nonneg _
 have h2:=ab_nonneg ((linP p).b k)
 have h3:=ab_nonneg ((linP p).A k j)
 unfold Lin.F
 omega
theorem y_fits (hV:ValidP p) (hB:Bnd (linP p) (layP p)) (hv:(layP p).Val (linP p) S) {wc:Nat→Int} {W:Int} (hW:∀j,ab (wc j)≤W) (hWP:W*(linP p).P≤17592186044416):fitsY p (yL p wc S)=true∧(sumY p (yL p wc S)).isSome=true:=by
 obtain ⟨⟨d1,d2⟩,hb⟩:=hB.tab hv.tb
 have hm:=hV.rows
 have hn:=hV.cost
 have term:∀(k:Nat) (a:Int),k<p.2.length→ab a≤(linP p).F k→ab (a*ynum (linP p).m (layP p).N wc S (layP p).σ k)≤211106232532992:=fun k a hk ha=>by
  have h1:=ynum_le hB hv hW (k:=k) hk
  rw[ab_mul]
  have h2:=Int.mul_le_mul_of_nonneg_right ha (ab_nonneg (ynum (linP p).m (layP p).N wc S (layP p).σ k))
  omega
 have gen:∀{l:List Int},l.length=p.2.length→(∀k,k<p.2.length→ab (l.getD k 0)≤(linP p).F k)→(sumR l (yL p wc S) 0).isSome=true:=fun {l} hl hF=>by
  have h1:=sumR_small (l:=l) (X:=fun k=>ynum (linP p).m (layP p).N wc S (layP p).σ k) (d:=S.d) (B:=211106232532992) ⟨d1,by omega⟩ (by omega) (fun k hk=>term k _ (by omega) (hF k (by omega))) (by omega) (by omega)
  rw[hl] at h1
  exact h1
 constructor
 ·unfold fitsY
  rw[List.all_eq_true]
  intro i hi
  obtain ⟨j,hj,rfl⟩:=List.mem_range'.1 hi
  simp only[Nat.one_mul,Nat.zero_add]
  refine gen col_len fun k hk=>?_
  have:(colP p j).getD k 0=(linP p).A k j:=by
   unfold colP
   rw[getD_nat (show k<(p.2.map fun r=>r.1.getD j 0).length by rw[List.length_map];exact hk),List.getElem_map]
   show _=(p.2.getD k rw0).1.getD j 0
   rw[getD_nat hk]
  rw[this]
  exact (coef_F k j hj).1
 ·unfold sumY
  refine gen right_len fun k hk=>?_
  have:(rightP p).getD k 0=(linP p).b k:=by
   unfold rightP
   rw[getD_nat (show k<(p.2.map fun r=>r.2.2).length by rw[List.length_map];exact hk),List.getElem_map]
   show _=(p.2.getD k rw0).2.2
   rw[getD_nat hk]
  rw[this]
  exact (coef_F k 0 hn.1).2
theorem x_fits (hV:ValidP p) (hf:FitsL (linP p)) (hv:(layP p).Val (linP p) S):fitsX p (xL p S)=true∧(sumR p.1 (xL p S) 0).isSome=true:=by
 have hB:=bnd_of hV hf
 obtain ⟨⟨d1,d2⟩,hb⟩:=hB.tab hv.tb
 have hm:=hV.rows
 have hP:=(linP p).P_pos
 have hF0:=(linP p).F0_pos
 have hx:∀j,ab (xnum (linP p).m ((layP p).R (linP p)) S j)≤(linP p).P:=fun j=>by
  have:=xnum_le hB hv j
  exact ab_le.2 ⟨by omega,this.2⟩
 have gen:∀{l:List Int} {k:Nat},l.length=p.1.length→k≤p.2.length→(sz p.1.length fun j=>ab (l.getD j 0))≤fac (linP p) k→(sumR l (xL p S) 0).isSome=true:=fun {l k} hl hk hF=>by
  have h2:=fac_fits hf hk
  have h3:1*((linP p).P*fac (linP p) k)≤(linP p).F0*((linP p).P*fac (linP p) k):=Int.mul_le_mul_of_nonneg_right hF0 (Int.mul_nonneg (by omega) (by have:=fac_pos (linP p) k;omega))
  have h5:=Int.mul_assoc (linP p).F0 (linP p).P (fac (linP p) k)
  have h4:=Int.mul_le_mul_of_nonneg_right hF (show 0≤(linP p).P by omega)
  rw[Int.mul_comm (fac (linP p) k)] at h4
  have h1:=sumR_dot (l:=l) (X:=fun j=>xnum (linP p).m ((layP p).R (linP p)) S j) (d:=S.d) (B:=(linP p).P) ⟨d1,by omega⟩ (by omega) (fun j _=>hx j) (by rw[hl];omega)
  rw[hl] at h1
  exact h1
 constructor
 ·unfold fitsX
  rw[all_idx rw0]
  intro k hk
  have hr:p.2.getD k rw0 ∈ p.2:=by rw[getD_nat hk];exact List.getElem_mem _
  refine gen (k:=k+1) (hV.len _ hr) (by omega) ?_
  show _≤1+ab (p.2.getD k rw0).2.2+sz p.1.length (fun j=>ab ((p.2.getD k rw0).1.getD j 0))
  have:=ab_nonneg (p.2.getD k rw0).2.2
  omega
 ·refine gen (k:=0) rfl (by omega) ?_
  show _≤1+sz p.1.length (fun j=>ab (p.1.getD j 0))
  omega
theorem costs_ab (j:Nat):ab (costs (linP p) j)≤(linP p).F0:=by
 have:=costs_le (L:=linP p) j
 rw[ab_abs]
 omega
theorem vX_row {n:Nat} {f:Nat→Rat} {j:Nat} (hj:j<n):vX (rowL n fun j=>prQ (f j)) j=f j:=by
 unfold vX
 rw[rowL_get hj,qv_prQ]
theorem row_okF {n:Nat} {f:Nat→Rat} (h:∀j,j<n→fitsQ (f j)):∀a ∈ rowL n (fun j=>prQ (f j)),okF a:=fun a ha=>by
 unfold rowL at ha
 obtain ⟨j,hj,rfl⟩:=List.mem_map.1 ha
 exact okF_prQ (h j (List.mem_range.1 hj))
theorem xL_ok (hV:ValidP p) (hf:FitsL (linP p)) (hv:(layP p).Val (linP p) S):∀a ∈ xL p S,okF a:=row_okF fun j _=>by
 have hB:=bnd_of hV hf
 obtain ⟨⟨d1,d2⟩,_⟩:=hB.tab hv.tb
 have:=xnum_le hB hv j
 have:=hB.P'
 exact fitsDiv (by omega) (by omega) (by omega)
theorem yL_ok (hV:ValidP p) (hB:Bnd (linP p) (layP p)) (hv:(layP p).Val (linP p) S) {wc:Nat→Int} {W:Int} (hW:∀j,ab (wc j)≤W) (hWP:W*(linP p).P≤17592186044416):∀a ∈ yL p wc S,okF a:=row_okF fun k hk=>by
 obtain ⟨⟨d1,d2⟩,_⟩:=hB.tab hv.tb
 have h1:=ynum_le hB hv hW (k:=k) hk
 have h2:=(linP p).F_pos k
 have h3:1*ab (ynum (linP p).m (layP p).N wc S (layP p).σ k)≤(linP p).F k*ab (ynum (linP p).m (layP p).N wc S (layP p).σ k):=Int.mul_le_mul_of_nonneg_right h2 (ab_nonneg _)
 have h4:ab (ynum (linP p).m (layP p).N wc S (layP p).σ k)≤211106232532992:=by omega
 rw[ab_abs] at h4
 exact fitsDiv (by omega) (by omega) (by omega)
theorem Dn.Lin.Feas.congr {L:Lin} {x x':Nat→Rat} (h:∀j,j<L.n→x j=x' j) (hx:L.Feas x):L.Feas x':=by
 have hr:∀k,L.row x' k=L.row x k:=fun k=>sq_congr fun j hj=>by rw[h j hj]
 exact ⟨fun j hj=>by rw[←h j hj];exact hx.pos j hj,fun k hk h2=>by rw[hr];exact hx.most k hk h2,fun k hk h2=>by rw[hr];exact hx.least k hk h2⟩
theorem Dn.Lin.Sgn.congr {L:Lin} {y y':Nat→Rat} (h:∀k,k<L.m→y k=y' k) (hy:L.Sgn y):L.Sgn y' :=
 ⟨fun k hk e=>by rw[←h k hk];exact hy.most k hk e,fun k hk e=>by rw[←h k hk];exact hy.least k hk e⟩
theorem Dn.Lin.col_congr {L:Lin} {y y':Nat→Rat} (h:∀k,k<L.m→y k=y' k) (j:Nat):L.col y' j=L.col y j:=sq_congr fun k hk=>by rw[h k hk]
theorem Dn.Lin.rhs_congr {L:Lin} {y y':Nat→Rat} (h:∀k,k<L.m→y k=y' k):L.rhs y'=L.rhs y:=sq_congr fun k hk=>by rw[h k hk]
theorem Dn.Lin.val_congr {L:Lin} {x x':Nat→Rat} (h:∀j,j<L.n→x j=x' j):L.val x'=L.val x:=sq_congr fun j hj=>by rw[h j hj]
theorem opt_lin (hV:ValidP p) (hf:FitsL (linP p)) (ho:Opt p S):(linP p).Feas (vX (xL p S))∧(linP p).Dual (vX (yL p (costs (linP p)) S))∧(linP p).val (vX (xL p S))=valL p S∧(linP p).rhs (vX (yL p (costs (linP p)) S))=valL p S:=by
 have hok:=layP_ok hV
 have ex:∀j,j<(linP p).n→xval (linP p).m ((layP p).R (linP p)) S j=vX (xL p S) j:=fun j hj=>(vX_row hj).symm
 have ey:∀k,k<(linP p).m→yval (linP p).m (layP p).N (costs (linP p)) S (layP p).σ k=vX (yL p (costs (linP p)) S) k:=fun k hk=>(vX_row hk).symm
 have h1:=table_feas hok ho.val (ho.az.art S)
 have h2:=table_dual hok ho.val ho.zr
 obtain ⟨h3,h4⟩:=table_value hok ho.val
 refine ⟨h1.congr ex,⟨h2.toSgn.congr ey,fun j hj=>?_⟩,?_,?_⟩
 ·rw[Lin.col_congr ey];exact h2.col j hj
 ·rw[Lin.val_congr ex];exact h3
 ·rw[Lin.rhs_congr ey];exact h4
theorem opt_check (hV:ValidP p) (hf:FitsL (linP p)) (ho:Opt p S):program_Check p (prQ (valL p S),xL p S,yL p (costs (linP p)) S)=some (true,0,()):=by
 have hB:=bnd_of hV hf
 have hn:=hV.cost
 have hm:=hV.rows
 obtain ⟨⟨d1,d2⟩,_⟩:=hB.tab ho.val.tb
 have hx:=xL_ok hV hf ho.val
 have hy:=yL_ok hV hB ho.val costs_ab hB.P
 have hlx:(xL p S).length=p.1.length:=rowL_len
 have hly:(yL p (costs (linP p)) S).length=p.2.length:=rowL_len
 obtain ⟨f1,f2⟩:=x_fits hV hf ho.val
 obtain ⟨f3,f4⟩:=y_fits hV hB ho.val costs_ab hB.P
 have hfit:fitsA p (xL p S) (yL p (costs (linP p)) S)=true:=by unfold fitsA;rw[f1,f2,f3,f4];rfl
 have hvf:okF (prQ (valL p S)):=okF_prQ (fitsDiv (by omega) (by
  have hRw:(layP p).R (linP p)<(layP p).w (linP p):=by unfold Lay.R Lay.w;omega
  obtain ⟨_,hbP⟩:=hB.tabP ho.val.tb
  have hm':(linP p).m=p.2.length:=rfl
  have hs:=sz_bound (n:=(linP p).m) (f:=fun k=>costs (linP p) (S.β k)*S.T k ((layP p).R (linP p))) (B:=17592186044416) fun i hi=>hB.cost (hbP i _ hi hRw) _
  have h6:((linP p).m:Int)*17592186044416≤6*17592186044416:=Int.mul_le_mul_of_nonneg_right (by omega) (by omega)
  unfold vnum
  omega) (by omega))
 have hc:=(check_iff hV hx hy hlx hly hfit).2 (opt_lin hV hf ho)
 rw[pcheck_ok (by omega) (by omega),validP_iff.2 hV,decide_eq_true hvf,okL_iff.2 hx,okL_iff.2 hy,decide_eq_true hlx,decide_eq_true hly,hfit,hc]
 rfl
theorem infeas_lin (hV:ValidP p) (ho:Infeas p S):(linP p).Ref (vX (yL p (arts (layP p).N) S)):=by
 have hok:=layP_ok hV
 have ey:∀k,k<(linP p).m→yval (linP p).m (layP p).N (arts (layP p).N) S (layP p).σ k=vX (yL p (arts (layP p).N) S) k:=fun k hk=>(vX_row hk).symm
 have h2:=table_ref hok ho.val ho.zr ho.pos
 refine ⟨h2.toSgn.congr ey,fun j hj=>?_,?_⟩
 ·rw[Lin.col_congr ey];exact h2.col j hj
 ·rw[Lin.rhs_congr ey];exact h2.rhs
end
end Go.Proofs.Ytnbbackjofgcfaa

namespace Go.Proofs.Ytnbbackjofgcfaa
open Try Dn Dn.Sh
def Sem (p:Pg) (a:Fq×List Fq×List Fq) (e:Int):Prop :=
 (e=1∧a=none3∧validP p=false)∨(e=5∧a=none3∧ValidP p∧¬ FitsL (linP p))∨(e=22∧a=none3∧ValidP p∧FitsL (linP p)∧∃y,(linP p).Ref y) ∨
 (e=21∧a=none3∧ValidP p∧FitsL (linP p)∧(∃x,(linP p).Feas x)∧∃r,(linP p).Ray r) ∨
 (e=0∧ValidP p∧FitsL (linP p)∧program_Check p a=some (true,0,())∧∃v x y,a.1=prQ v∧fitsQ v∧(linP p).Feas x∧(linP p).Dual y∧(linP p).val x=v∧(linP p).rhs y=v)
theorem solve_bad {p:Pg} (h:validP p=false):program_Solve p=some (none3,1,()):=by
 unfold program_Solve program_Solve_b
 rw[pValid_ok,obN,h]
 rfl
theorem solve_big {p:Pg} (h:ValidP p) (hf:¬ FitsL (linP p)):program_Solve p=some (none3,5,()):=by
 unfold program_Solve program_Solve_b
 rw[pValid_ok,obN,validP_iff.2 h]
 simp only[Bool.not_true,cF]
 rw[fits_okP h,obN,decide_eq_false hf]
 rfl
theorem solve_sem (p:Pg):∃a e,program_Solve p=some (a,e,())∧Sem p a e:=by
 cases hv:validP p with
 | false=>exact ⟨_,_,solve_bad hv,.inl ⟨rfl,rfl,hv⟩⟩
 | true =>
  have hV:=validP_iff.1 hv
  by_cases hf:FitsL (linP p)
  ·have hB:=bnd_of hV hf
   have hok:=layP_ok hV
   rcases solve_ok hV hf with ⟨S,h1,h2⟩ | ⟨S,q,h1,h2⟩ | ⟨S,h1,h2⟩
   ·exact ⟨_,_,h2,.inr (.inr (.inl ⟨rfl,rfl,hV,hf,_,infeas_lin hV h1⟩))⟩
   ·exact ⟨_,_,h2,.inr (.inr (.inr (.inl ⟨rfl,rfl,hV,hf,⟨_,table_feas hok h1.val (h1.az.art S)⟩,_,table_ray hok h1.val h1.lt (h1.az.col S h1.lt) h1.neg h1.no⟩)))⟩
   ·obtain ⟨a1,a2,a3,a4⟩:=opt_lin hV hf h1
    refine ⟨_,_,h2,.inr (.inr (.inr (.inr ⟨rfl,hV,hf,opt_check hV hf h1,valL p S,_,_,rfl,?_,a1,a2,a3,a4⟩)))⟩
    obtain ⟨⟨d1,d2⟩,_⟩:=hB.tab h1.val.tb
    have hRw:(layP p).R (linP p)<(layP p).w (linP p):=by unfold Lay.R Lay.w;omega
    obtain ⟨_,hbP⟩:=hB.tabP h1.val.tb
    have hm':(linP p).m=p.2.length:=rfl
    have hm:=hV.rows
    have hs:=sz_bound (n:=(linP p).m) (f:=fun k=>costs (linP p) (S.β k)*S.T k ((layP p).R (linP p))) (B:=17592186044416) fun i hi=>hB.cost (hbP i _ hi hRw) _
    have h6:((linP p).m:Int)*17592186044416≤6*17592186044416:=Int.mul_le_mul_of_nonneg_right (by omega) (by omega)
    exact fitsDiv (by omega) (by unfold vnum;omega) (by omega)
  ·exact ⟨_,_,solve_big hV hf,.inr (.inl ⟨rfl,rfl,hV,hf⟩)⟩
theorem cmp_le {q r:Rat}:decide (cmpQ q r≤0)=decide (q≤r):=decide_eq_decide.2 cmpQ_le
end Go.Proofs.Ytnbbackjofgcfaa

namespace Go.Proofs.Ytnbbackjofgcfaa
open Try Dn Dn.Sh
def revL (l:List Int):List Int:=rowL l.length fun k=>l.getD (l.length - 1 - k) 0
theorem revL_len {l:List Int}:(revL l).length=l.length:=rowL_len
theorem revL_get {l:List Int} {k:Nat} (h:k<l.length):(revL l).getD k 0=l.getD (l.length - 1 - k) 0:=rowL_get h
theorem row_self (l:List Int):l=rowL l.length fun k=>l.getD k 0:=by
 refine List.ext_getElem (by rw[rowL_len]) fun i h1 h2=>?_
 rw[rowL_at,getD_nat h1]
theorem rev_loop {l:List Int} (hl:l.length≤1000) {R:Type} {F:(Int×Int×List Int×PUnit→Option R)→Int×Int×List Int×PUnit→Option R} {res:Option R}
  (hF:∀again (i j:Nat) (l':List Int),l'.length=l.length→i<j→j<l.length→F again ((i:Int),(j:Int),l',PUnit.unit)=again (((i+1:Nat):Int),(j:Int) - 1,(l'.set i (l'.getD j 0)).set j (l'.getD i 0),PUnit.unit))
  (hend:∀again (i j:Int) (l':List Int),¬ i<j→l'=revL l→F again (i,j,l',PUnit.unit)=res):lpK (Int×Int×List Int×PUnit) R F ((0:Int),(l.length:Int) - 1,l,PUnit.unit)=res:=by
 refine lpK_seqX (l.length / 2) (by omega) (fun i=>((i:Int),(l.length:Int) - 1 - i,rowL l.length (fun k=>if k<i∨l.length - i≤k then l.getD (l.length - 1 - k) 0 else l.getD k 0),PUnit.unit)) _ ?_ (fun again i hi=>?_) (fun again=>?_)
 ·rw[rowL_congr (f:=fun k=>if k<0∨l.length - 0≤k then l.getD (l.length - 1 - k) 0 else l.getD k 0) (g:=fun k=>l.getD k 0) fun k hk=>if_neg (by omega),←row_self]
  simp
 ·have e:(l.length:Int) - 1 - i=((l.length - 1 - i:Nat):Int):=by omega
  simp only[e]
  rw[hF again i (l.length - 1 - i) _ rowL_len (by omega) (by omega),rowL_get (show l.length - 1 - i<l.length by omega),rowL_get (show i<l.length by omega),rowL_set (show i<l.length by omega),rowL_set (show l.length - 1 - i<l.length by omega)]
  rw[if_neg (by omega),if_neg (by omega)]
  have e2:((l.length - 1 - i:Nat):Int) - 1=(l.length:Int) - 1 - (i+1:Nat):=by omega
  rw[e2]
  congr 4
  refine rowL_congr fun k hk=>?_
  by_cases c1:k=l.length - 1 - i
  ·rw[if_pos c1,if_pos (by omega),c1]
   congr 1
   omega
  ·rw[if_neg c1]
   by_cases c2:k=i
   ·rw[if_pos c2,if_pos (by omega),c2]
   ·rw[if_neg c2]
    by_cases c3:k<i∨l.length - i≤k
    ·rw[if_pos c3,if_pos (by omega)]
    ·rw[if_neg c3,if_neg (by omega)]
 ·refine hend again _ _ _ (by omega) ?_
  unfold revL
  refine rowL_congr fun k hk=>?_
  by_cases c:k<l.length / 2∨l.length - l.length / 2≤k
  ·rw[if_pos c]
  ·rw[if_neg c]
   congr 1
   omega
def turnRow (r:Rw):Rw:=(revL r.1,r.2)
def turnP (p:Pg):Pg:=(revL p.1,rowL p.2.length fun k=>turnRow (p.2.getD (p.2.length - 1 - k) rw0))
theorem mem_rev {l:List Int} {x:Int}:x ∈ revL l↔x ∈ l:=by
 unfold revL rowL
 rw[List.mem_map]
 constructor
 ·rintro ⟨k,hk,rfl⟩
  rw[List.mem_range] at hk
  rw[getD_nat (by omega)]
  exact List.getElem_mem _
 ·intro h
  obtain ⟨k,hk,rfl⟩:=List.getElem_of_mem h
  refine ⟨l.length - 1 - k,List.mem_range.2 (by omega),?_⟩
  rw[show l.length - 1 - (l.length - 1 - k)=k by omega,getD_nat hk]
theorem mem_turn {p:Pg} {r:Rw}:r ∈ (turnP p).2↔∃r0 ∈ p.2,r=turnRow r0:=by
 show r ∈ rowL p.2.length _↔_
 unfold rowL
 rw[List.mem_map]
 constructor
 ·rintro ⟨k,hk,rfl⟩
  rw[List.mem_range] at hk
  exact ⟨_,by rw[getD_nat (by omega)];exact List.getElem_mem _,rfl⟩
 ·rintro ⟨r0,h,rfl⟩
  obtain ⟨k,hk,rfl⟩:=List.getElem_of_mem h
  refine ⟨p.2.length - 1 - k,List.mem_range.2 (by omega),?_⟩
  rw[show p.2.length - 1 - (p.2.length - 1 - k)=k by omega,getD_nat hk]
theorem turn_n {p:Pg}:(turnP p).1.length=p.1.length:=revL_len
theorem turn_m {p:Pg}:(turnP p).2.length=p.2.length:=rowL_len
theorem turn_valid {p:Pg}:ValidP (turnP p)↔ValidP p:=by
 constructor
 ·rintro ⟨h1,h2,h3,h4,h5,h6,h7⟩
  rw[turn_n] at h1
  rw[turn_m] at h2
  refine ⟨h1,h2,fun n hn=>h3 n (mem_rev.2 hn),fun r hr=>?_,fun r hr=>h5 (turnRow r) (mem_turn.2 ⟨r,hr,rfl⟩),fun r hr=>h6 (turnRow r) (mem_turn.2 ⟨r,hr,rfl⟩),fun r hr n hn=>h7 (turnRow r) (mem_turn.2 ⟨r,hr,rfl⟩) n (mem_rev.2 hn)⟩
  have:=h4 (turnRow r) (mem_turn.2 ⟨r,hr,rfl⟩)
  rw[turn_n] at this
  rw[←this]
  exact revL_len.symm
 ·rintro ⟨h1,h2,h3,h4,h5,h6,h7⟩
  refine ⟨by rw[turn_n];exact h1,by rw[turn_m];exact h2,fun n hn=>h3 n (mem_rev.1 hn),fun r hr=>?_,fun r hr=>?_,fun r hr=>?_,fun r hr n hn=>?_⟩<;>obtain ⟨r0,hr0,rfl⟩:=mem_turn.1 hr
  ·rw[turn_n,←h4 r0 hr0];exact revL_len
  ·exact h5 r0 hr0
  ·exact h6 r0 hr0
  ·exact h7 r0 hr0 n (mem_rev.1 hn)
theorem sz_rev:∀{n:Nat} {f:Nat→Int},sz n (fun j=>f (n - 1 - j))=sz n f
 | 0,_=>rfl
 | n+1,f=>by
  rw[sz_front]
  simp only[sz]
  rw[←sz_rev (n:=n) (f:=f)]
  rw[sz_congr (f:=fun i=>f (n+1 - 1 - (i+1))) (g:=fun j=>f (n - 1 - j)) fun i hi=>by congr 1;omega]
  rw[show n+1 - 1 - 0=n by omega]
  omega
theorem sq_rev:∀{n:Nat} {f:Nat→Rat},sq n (fun j=>f (n - 1 - j))=sq n f
 | 0,_=>rfl
 | n+1,f=>by
  rw[sq_front]
  simp only[sq]
  rw[←sq_rev (n:=n) (f:=f)]
  rw[sq_congr (f:=fun i=>f (n+1 - 1 - (i+1))) (g:=fun j=>f (n - 1 - j)) fun i hi=>by congr 1;omega]
  rw[show n+1 - 1 - 0=n by omega]
  grind
theorem pz_last:∀{n:Nat} {g:Nat→Int},pz (n+1) g=pz n g*g n
 | 0,g=>by simp[pz]
 | n+1,g=>by
  have h:=pz_last (n:=n) (g:=fun i=>g (i+1))
  rw[pz,h,pz,Int.mul_assoc]
theorem pz_congr:∀{n:Nat} {f g:Nat→Int},(∀i,i<n→f i=g i)→pz n f=pz n g
 | 0,_,_,_=>rfl
 | n+1,f,g,h=>by
  simp only[pz]
  rw[h 0 (by omega),pz_congr (n:=n) fun i hi=>h (i+1) (by omega)]
theorem pz_rev:∀{n:Nat} {f:Nat→Int},pz n (fun j=>f (n - 1 - j))=pz n f
 | 0,_=>rfl
 | n+1,f=>by
  rw[pz_last (g:=f),←pz_rev (n:=n) (f:=f),pz]
  rw[pz_congr (f:=fun i=>f (n+1 - 1 - (i+1))) (g:=fun j=>f (n - 1 - j)) fun i hi=>by congr 1;omega]
  rw[show n+1 - 1 - 0=n by omega,Int.mul_comm]
section
variable {p:Pg}
theorem turn_row {k:Nat} (hk:k<p.2.length):(turnP p).2.getD k rw0=turnRow (p.2.getD (p.2.length - 1 - k) rw0):=rowL_get hk
theorem turn_A (hV:ValidP p) {k j:Nat} (hk:k<p.2.length) (hj:j<p.1.length):(linP (turnP p)).A k j=(linP p).A (p.2.length - 1 - k) (p.1.length - 1 - j):=by
 have hl:=hV.len (p.2.getD (p.2.length - 1 - k) rw0) (by rw[getD_nat (by omega)];exact List.getElem_mem _)
 show ((turnP p).2.getD k rw0).1.getD j 0=_
 rw[turn_row hk]
 show (revL (p.2.getD (p.2.length - 1 - k) rw0).1).getD j 0=_
 rw[revL_get (by rw[hl];exact hj),hl]
 rfl
theorem turn_b {k:Nat} (hk:k<p.2.length):(linP (turnP p)).b k=(linP p).b (p.2.length - 1 - k):=by
 show ((turnP p).2.getD k rw0).2.2=_
 rw[turn_row hk]
 rfl
theorem turn_kd {k:Nat} (hk:k<p.2.length):(linP (turnP p)).kd k=(linP p).kd (p.2.length - 1 - k):=by
 show ((turnP p).2.getD k rw0).2.1=_
 rw[turn_row hk]
 rfl
theorem turn_c {j:Nat} (hj:j<p.1.length):(linP (turnP p)).c j=(linP p).c (p.1.length - 1 - j):=revL_get hj
theorem turn_F0:(linP (turnP p)).F0=(linP p).F0:=by
 unfold Lin.F0
 show 1+sz (turnP p).1.length _=1+sz p.1.length _
 rw[turn_n,←sz_rev (n:=p.1.length) (f:=fun j=>ab ((linP p).c j))]
 congr 1
 exact sz_congr fun j hj=>by rw[turn_c hj]
theorem turn_F (hV:ValidP p) {k:Nat} (hk:k<p.2.length):(linP (turnP p)).F k=(linP p).F (p.2.length - 1 - k):=by
 unfold Lin.F
 rw[turn_b hk]
 congr 1
 show sz (turnP p).1.length _=sz p.1.length _
 rw[turn_n,←sz_rev (n:=p.1.length) (f:=fun j=>ab ((linP p).A (p.2.length - 1 - k) j))]
 exact sz_congr fun j hj=>by rw[turn_A hV hk hj]
theorem turn_P (hV:ValidP p):(linP (turnP p)).P=(linP p).P:=by
 unfold Lin.P
 show pz (turnP p).2.length _=pz p.2.length _
 rw[turn_m,←pz_rev (n:=p.2.length) (f:=(linP p).F)]
 exact pz_congr fun k hk=>turn_F hV hk
theorem turn_mx (hV:ValidP p):mx (fac (linP (turnP p))) p.2.length=mx (fac (linP p)) p.2.length:=by
 have e:∀i,i≤p.2.length→∃k,k≤p.2.length∧fac (linP (turnP p)) i=fac (linP p) k:=fun i hi=>by
  cases i with
  | zero=>exact ⟨0,by omega,turn_F0⟩
  | succ i=>exact ⟨p.2.length - 1 - i+1,by omega,turn_F hV (by omega)⟩
 have e':∀i,i≤p.2.length→∃k,k≤p.2.length∧fac (linP p) i=fac (linP (turnP p)) k:=fun i hi=>by
  cases i with
  | zero=>exact ⟨0,by omega,turn_F0.symm⟩
  | succ i =>
   refine ⟨p.2.length - 1 - i+1,by omega,?_⟩
   have h:=turn_F hV (k:=p.2.length - 1 - i) (by omega)
   rw[show p.2.length - 1 - (p.2.length - 1 - i)=i by omega] at h
   exact h.symm
 refine Int.le_antisymm (mx_ub fun i hi=>?_) (mx_ub fun i hi=>?_)
 ·obtain ⟨k,hk,h⟩:=e i hi
  rw[h];exact mx_le hk
 ·obtain ⟨k,hk,h⟩:=e' i hi
  rw[h];exact mx_le hk
theorem turn_fits (hV:ValidP p):FitsL (linP (turnP p))↔FitsL (linP p):=by
 have e:FitsL (linP (turnP p))=FitsL (linP p):=by
  unfold FitsL
  rw[pp_P,pp_P,turn_F0,turn_P hV,show (linP (turnP p)).m=p.2.length from turn_m,turn_mx hV]
  rfl
 rw[e]
def rv (n:Nat) (x:Nat→Rat) (j:Nat):Rat:=x (n - 1 - j)
theorem turn_lrow (hV:ValidP p) {k:Nat} (hk:k<p.2.length) {x:Nat→Rat}:(linP (turnP p)).row x k=(linP p).row (rv p.1.length x) (p.2.length - 1 - k):=by
 unfold Lin.row
 show sq (turnP p).1.length _=sq p.1.length _
 rw[turn_n,←sq_rev (n:=p.1.length) (f:=fun j=>((linP p).A (p.2.length - 1 - k) j:Rat)*rv p.1.length x j)]
 refine sq_congr fun j hj=>?_
 rw[turn_A hV hk hj]
 unfold rv
 rw[show p.1.length - 1 - (p.1.length - 1 - j)=j by omega]
theorem turn_lcol (hV:ValidP p) {j:Nat} (hj:j<p.1.length) {y:Nat→Rat}:(linP (turnP p)).col y j=(linP p).col (rv p.2.length y) (p.1.length - 1 - j):=by
 unfold Lin.col
 show sq (turnP p).2.length _=sq p.2.length _
 rw[turn_m,←sq_rev (n:=p.2.length) (f:=fun k=>((linP p).A k (p.1.length - 1 - j):Rat)*rv p.2.length y k)]
 refine sq_congr fun k hk=>?_
 rw[turn_A hV hk hj]
 unfold rv
 rw[show p.2.length - 1 - (p.2.length - 1 - k)=k by omega]
theorem turn_val {x:Nat→Rat}:(linP (turnP p)).val x=(linP p).val (rv p.1.length x):=by
 unfold Lin.val
 show sq (turnP p).1.length _=sq p.1.length _
 rw[turn_n,←sq_rev (n:=p.1.length) (f:=fun j=>((linP p).c j:Rat)*rv p.1.length x j)]
 refine sq_congr fun j hj=>?_
 rw[turn_c hj]
 unfold rv
 rw[show p.1.length - 1 - (p.1.length - 1 - j)=j by omega]
theorem turn_rhs {y:Nat→Rat}:(linP (turnP p)).rhs y=(linP p).rhs (rv p.2.length y):=by
 unfold Lin.rhs
 show sq (turnP p).2.length _=sq p.2.length _
 rw[turn_m,←sq_rev (n:=p.2.length) (f:=fun k=>((linP p).b k:Rat)*rv p.2.length y k)]
 refine sq_congr fun k hk=>?_
 rw[turn_b hk]
 unfold rv
 rw[show p.2.length - 1 - (p.2.length - 1 - k)=k by omega]
theorem turn_feas (hV:ValidP p) {x:Nat→Rat} (hx:(linP (turnP p)).Feas x):(linP p).Feas (rv p.1.length x):=by
 have e:∀k,k<p.2.length→(linP p).row (rv p.1.length x) k=(linP (turnP p)).row x (p.2.length - 1 - k):=fun k hk=>by
  rw[turn_lrow hV (show p.2.length - 1 - k<p.2.length by omega),show p.2.length - 1 - (p.2.length - 1 - k)=k by omega]
 have eb:∀k,k<p.2.length→(linP (turnP p)).b (p.2.length - 1 - k)=(linP p).b k:=fun k hk=>by rw[turn_b (by omega),show p.2.length - 1 - (p.2.length - 1 - k)=k by omega]
 have ek:∀k,k<p.2.length→(linP (turnP p)).kd (p.2.length - 1 - k)=(linP p).kd k:=fun k hk=>by rw[turn_kd (by omega),show p.2.length - 1 - (p.2.length - 1 - k)=k by omega]
 refine ⟨fun j hj=>hx.pos _ ?_,fun k hk h2=>?_,fun k hk h1=>?_⟩
 ·have hj:j<p.1.length:=hj
  show _<(turnP p).1.length
  rw[turn_n];omega
 ·have hk:k<p.2.length:=hk
  have hk':p.2.length - 1 - k<(linP (turnP p)).m:=by show _<(turnP p).2.length;rw[turn_m];omega
  have:=hx.most _ hk' (by rw[ek k hk];exact h2)
  rw[e k hk,←eb k hk];exact this
 ·have hk:k<p.2.length:=hk
  have hk':p.2.length - 1 - k<(linP (turnP p)).m:=by show _<(turnP p).2.length;rw[turn_m];omega
  have:=hx.least _ hk' (by rw[ek k hk];exact h1)
  rw[e k hk,←eb k hk];exact this
theorem turn_ray (hV:ValidP p) {x:Nat→Rat} (hx:(linP (turnP p)).Ray x):(linP p).Ray (rv p.1.length x):=by
 have e:∀k,k<p.2.length→(linP p).row (rv p.1.length x) k=(linP (turnP p)).row x (p.2.length - 1 - k):=fun k hk=>by
  rw[turn_lrow hV (show p.2.length - 1 - k<p.2.length by omega),show p.2.length - 1 - (p.2.length - 1 - k)=k by omega]
 have ek:∀k,k<p.2.length→(linP (turnP p)).kd (p.2.length - 1 - k)=(linP p).kd k:=fun k hk=>by rw[turn_kd (by omega),show p.2.length - 1 - (p.2.length - 1 - k)=k by omega]
 refine ⟨fun j hj=>hx.pos _ ?_,fun k hk h2=>?_,fun k hk h1=>?_,by rw[←turn_val];exact hx.val⟩
 ·have hj:j<p.1.length:=hj
  show _<(turnP p).1.length
  rw[turn_n];omega
 ·have hk:k<p.2.length:=hk
  have hk':p.2.length - 1 - k<(linP (turnP p)).m:=by show _<(turnP p).2.length;rw[turn_m];omega
  have:=hx.most _ hk' (by rw[ek k hk];exact h2)
  rw[e k hk];exact this
 ·have hk:k<p.2.length:=hk
  have hk':p.2.length - 1 - k<(linP (turnP p)).m:=by show _<(turnP p).2.length;rw[turn_m];omega
  have:=hx.least _ hk' (by rw[ek k hk];exact h1)
  rw[e k hk];exact this
theorem turn_sgn {y:Nat→Rat} (hy:(linP (turnP p)).Sgn y):(linP p).Sgn (rv p.2.length y):=by
 have ek:∀k,k<p.2.length→(linP (turnP p)).kd (p.2.length - 1 - k)=(linP p).kd k:=fun k hk=>by rw[turn_kd (by omega),show p.2.length - 1 - (p.2.length - 1 - k)=k by omega]
 refine ⟨fun k hk e=>?_,fun k hk e=>?_⟩
 ·have hk:k<p.2.length:=hk
  exact hy.most _ (by show _<(turnP p).2.length;rw[turn_m];omega) (by rw[ek k hk];exact e)
 ·have hk:k<p.2.length:=hk
  exact hy.least _ (by show _<(turnP p).2.length;rw[turn_m];omega) (by rw[ek k hk];exact e)
theorem turn_col' (hV:ValidP p) {y:Nat→Rat} {j:Nat} (hj:j<p.1.length):(linP p).col (rv p.2.length y) j=(linP (turnP p)).col y (p.1.length - 1 - j):=by
 rw[turn_lcol hV (show p.1.length - 1 - j<p.1.length by omega),show p.1.length - 1 - (p.1.length - 1 - j)=j by omega]
theorem turn_dual (hV:ValidP p) {y:Nat→Rat} (hy:(linP (turnP p)).Dual y):(linP p).Dual (rv p.2.length y):=by
 refine ⟨turn_sgn hy.toSgn,fun j hj=>?_⟩
 have hj:j<p.1.length:=hj
 have:=hy.col (p.1.length - 1 - j) (by show _<(turnP p).1.length;rw[turn_n];omega)
 rw[turn_c (by omega),show p.1.length - 1 - (p.1.length - 1 - j)=j by omega] at this
 rw[turn_col' hV hj]
 exact this
theorem turn_ref (hV:ValidP p) {y:Nat→Rat} (hy:(linP (turnP p)).Ref y):(linP p).Ref (rv p.2.length y):=by
 refine ⟨turn_sgn hy.toSgn,fun j hj=>?_,by rw[←turn_rhs];exact hy.rhs⟩
 have hj:j<p.1.length:=hj
 rw[turn_col' hV hj]
 exact hy.col _ (by show _<(turnP p).1.length;rw[turn_n];omega)
def moreP (p:Pg) (r:Rw):Pg:=(p.1,p.2++[r])
theorem more_row {r:Rw} {k:Nat} (hk:k<p.2.length):(moreP p r).2.getD k rw0=p.2.getD k rw0:=by
 show (p.2++[r]).getD k rw0=_
 rw[List.getD_eq_getElem?_getD,List.getElem?_append_left hk,←List.getD_eq_getElem?_getD]
theorem more_m {r:Rw}:(moreP p r).2.length=p.2.length+1:=by
 show (p.2++[r]).length=_
 rw[List.length_append];rfl
theorem more_valid {r:Rw} (h:ValidP (moreP p r)):ValidP p:=by
 have hm:=h.rows
 rw[more_m] at hm
 have sub:∀q ∈ p.2,q ∈ (moreP p r).2:=fun q hq=>List.mem_append_left _ hq
 exact ⟨h.cost,by omega,h.cs,fun q hq=>h.len q (sub q hq),fun q hq=>h.kind q (sub q hq),fun q hq=>h.right q (sub q hq),fun q hq=>h.coefs q (sub q hq)⟩
theorem more_feas {r:Rw} {x:Nat→Rat} (hx:(linP (moreP p r)).Feas x):(linP p).Feas x:=by
 have e:∀k,k<p.2.length→(linP (moreP p r)).row x k=(linP p).row x k∧(linP (moreP p r)).kd k=(linP p).kd k∧(linP (moreP p r)).b k=(linP p).b k:=fun k hk=>by
  refine ⟨sq_congr fun j _=>?_,?_,?_⟩
  ·show (((((moreP p r).2.getD k rw0).1.getD j 0:Int)):Rat)*x j=_
   rw[more_row hk];rfl
  ·show ((moreP p r).2.getD k rw0).2.1=_
   rw[more_row hk];rfl
  ·show ((moreP p r).2.getD k rw0).2.2=_
   rw[more_row hk];rfl
 have lt:∀k,k<p.2.length→k<(linP (moreP p r)).m:=fun k hk=>by show k<(moreP p r).2.length;rw[more_m];omega
 refine ⟨hx.pos,fun k hk h2=>?_,fun k hk h1=>?_⟩
 ·obtain ⟨e1,e2,e3⟩:=e k hk
  have:=hx.most k (lt k hk) (by rw[e2];exact h2)
  rw[←e1,←e3];exact this
 ·obtain ⟨e1,e2,e3⟩:=e k hk
  have:=hx.least k (lt k hk) (by rw[e2];exact h1)
  rw[←e1,←e3];exact this
theorem more_ray {r:Rw} {x:Nat→Rat} (hx:(linP (moreP p r)).Ray x):(linP p).Ray x:=by
 have e:∀k,k<p.2.length→(linP (moreP p r)).row x k=(linP p).row x k∧(linP (moreP p r)).kd k=(linP p).kd k:=fun k hk=>by
  refine ⟨sq_congr fun j _=>?_,?_⟩
  ·show (((((moreP p r).2.getD k rw0).1.getD j 0:Int)):Rat)*x j=_
   rw[more_row hk];rfl
  ·show ((moreP p r).2.getD k rw0).2.1=_
   rw[more_row hk];rfl
 have lt:∀k,k<p.2.length→k<(linP (moreP p r)).m:=fun k hk=>by show k<(moreP p r).2.length;rw[more_m];omega
 refine ⟨hx.pos,fun k hk h2=>?_,fun k hk h1=>?_,hx.val⟩
 ·obtain ⟨e1,e2⟩:=e k hk
  rw[←e1];exact hx.most k (lt k hk) (by rw[e2];exact h2)
 ·obtain ⟨e1,e2⟩:=e k hk
  rw[←e1];exact hx.least k (lt k hk) (by rw[e2];exact h1)
theorem more_fits {r:Rw} (h:FitsL (linP (moreP p r))):FitsL (linP p):=by
 have hF:∀k,k<p.2.length→(linP (moreP p r)).F k=(linP p).F k:=fun k hk=>by
  unfold Lin.F
  show 1+ab ((moreP p r).2.getD k rw0).2.2+sz p.1.length (fun j=>ab (((moreP p r).2.getD k rw0).1.getD j 0))=_
  rw[more_row hk]
  rfl
 have hfac:∀k,k≤p.2.length→fac (linP (moreP p r)) k=fac (linP p) k:=fun k hk=>by
  cases k with
  | zero=>rfl
  | succ k=>exact hF k (by omega)
 have hpp:∀k,k≤p.2.length+1→pp (fac (linP (moreP p r))) k=pp (fac (linP p)) k:=fun k hk=>by
  induction k with
  | zero=>rfl
  | succ k ih=>simp only[pp];rw[ih (by omega),hfac k (by omega)]
 obtain ⟨h1,h2⟩:=h
 have em:(linP (moreP p r)).m=p.2.length+1:=more_m
 rw[em] at h1 h2
 have h3:=pp_mono (fac_pos (linP (moreP p r))) (n:=p.2.length+1) (k:=1)
 rw[hpp (p.2.length+1) (Nat.le_refl _)] at h3
 have h4:mx (fac (linP p)) p.2.length≤mx (fac (linP (moreP p r))) (p.2.length+1):=mx_ub fun i hi=>by
  rw[←hfac i hi]
  exact mx_le (by omega)
 have p1:=pp_pos (fac_pos (linP p)) (p.2.length+1)
 have p2:1≤mx (fac (linP p)) p.2.length:=Int.le_trans (fac_pos (linP p) 0) (mx_le (by omega))
 have h5:=Int.mul_le_mul h3 h4 (by omega) (by omega)
 refine ⟨?_,?_⟩
 ·show pp (fac (linP p)) (p.2.length+1)≤_
  omega
 ·show pp (fac (linP p)) (p.2.length+1)*mx (fac (linP p)) p.2.length≤_
  omega
end
theorem turn_sem {p:Pg} {a b:Fq×List Fq×List Fq} {e f:Int} (h1:Sem p a e) (h2:Sem (turnP p) b f):e=f∧a.1=b.1:=by
 rcases h1 with ⟨rfl,rfl,hv⟩ | ⟨rfl,rfl,hV,hf⟩ | ⟨rfl,rfl,hV,hf,y,hy⟩ | ⟨rfl,rfl,hV,hf,⟨x,hx⟩,r,hr⟩ | ⟨rfl,hV,hf,_,v,x,y,ha,_,hx,hy,hxv,hyv⟩
 ·have nv:¬ ValidP (turnP p):=fun h=>by rw[validP_iff.2 (turn_valid.1 h)] at hv;cases hv
  rcases h2 with ⟨rfl,rfl,_⟩ | ⟨_,_,h,_⟩ | ⟨_,_,h,_⟩ | ⟨_,_,h,_⟩ | ⟨_,h,_⟩
  ·exact ⟨rfl,rfl⟩
  all_goals exact (nv h).elim
 all_goals have nvt:validP (turnP p)=true:=validP_iff.2 (turn_valid.2 hV)
 ·have nf:¬ FitsL (linP (turnP p)):=fun h=>hf ((turn_fits hV).1 h)
  rcases h2 with ⟨_,_,h⟩ | ⟨rfl,rfl,_⟩ | ⟨_,_,_,h,_⟩ | ⟨_,_,_,h,_⟩ | ⟨_,_,h,_⟩
  ·rw[nvt] at h;cases h
  ·exact ⟨rfl,rfl⟩
  all_goals exact (nf h).elim
 all_goals have yf:FitsL (linP (turnP p)):=(turn_fits hV).2 hf
 ·rcases h2 with ⟨_,_,h⟩ | ⟨_,_,_,h⟩ | ⟨rfl,rfl,_⟩ | ⟨_,_,_,_,⟨x,hx⟩,_⟩ | ⟨_,_,_,_,_,x,_,_,_,hx,_⟩
  ·rw[nvt] at h;cases h
  ·exact (h yf).elim
  ·exact ⟨rfl,rfl⟩
  ·exact (hy.none (turn_feas hV hx)).elim
  ·exact (hy.none (turn_feas hV hx)).elim
 ·rcases h2 with ⟨_,_,h⟩ | ⟨_,_,_,h⟩ | ⟨_,_,_,_,y,hy⟩ | ⟨rfl,rfl,_⟩ | ⟨_,_,_,_,_,_,y,_,_,_,hy,_⟩
  ·rw[nvt] at h;cases h
  ·exact (h yf).elim
  ·exact ((turn_ref hV hy).none hx).elim
  ·exact ⟨rfl,rfl⟩
  ·exact (hr.none (turn_dual hV hy)).elim
 ·rcases h2 with ⟨_,_,h⟩ | ⟨_,_,_,h⟩ | ⟨_,_,_,_,y2,hy2⟩ | ⟨_,_,_,_,_,r,hr⟩ | ⟨rfl,_,_,_,v2,x2,y2,hb,_,hx2,hy2,hx2v,hy2v⟩
  ·rw[nvt] at h;cases h
  ·exact (h yf).elim
  ·exact ((turn_ref hV hy2).none hx).elim
  ·exact ((turn_ray hV hr).none hy).elim
  ·refine ⟨rfl,?_⟩
   have w1:=Lin.weak (turn_feas hV hx2) hy
   have w2:=Lin.weak hx (turn_dual hV hy2)
   rw[←turn_val,hx2v,hyv] at w1
   rw[←turn_rhs,hy2v,hxv] at w2
   rw[ha,hb,Rat.le_antisymm w1 w2]
end Go.Proofs.Ytnbbackjofgcfaa

namespace Go.Proofs.Ytnbbackjofgcfaa
open Try Dn Dn.Sh
theorem fewB_iff {p:Pg}:fewB p=true↔(p.1.length≤14∧p.2.length≤8)∧∀r ∈ p.2,r.1.length≤14:=by
 unfold fewB
 rw[Bool.and_eq_true,decide_eq_true_iff,List.all_eq_true]
 exact ⟨fun h=>⟨h.1,fun r hr=>of_decide_eq_true (h.2 r hr)⟩,fun h=>⟨h.1,fun r hr=>decide_eq_true (h.2 r hr)⟩⟩
theorem emptyN:law05_empty none3=some true:=by
 simp only[law05_empty,law05_empty_b,none3]
 rfl
theorem lawMore (p:Pg) (r:Rw):law05_ProgramMore p r=some true:=by
 have hi:∀e0:Bool,(!e0||e0)=true:=fun e0=>by cases e0<;>rfl
 have hj:∀e0:Bool,(e0||!e0)=true:=fun e0=>by cases e0<;>rfl
 obtain ⟨a,e,h1,h2⟩:=solve_sem p
 obtain ⟨b,f,g1,g2⟩:=solve_sem (turnP p)
 obtain ⟨c,g,k1,k2⟩:=solve_sem (moreP p r)
 obtain ⟨ef,av⟩:=turn_sem h2 g2
 simp only[law05_ProgramMore,law05_ProgramMore_b,awakeP_ok,fewP_ok,obN,Bool.not_true,cF,hi,hj,Bool.and_self,cT]
 cases hfew:fewB p with
 | false=>simp only[Bool.not_false,cT]
 | true =>
  obtain ⟨⟨f1,f2⟩,f3⟩:=fewB_iff.1 hfew
  simp only[Bool.not_true,cF]
  by_cases hr:(r.1.length:Int)>14
  ·rw[decide_eq_true hr,cT]
  ·rw[decide_eq_false hr]
   simp only[cF,h1,obN,slices_Clone_22,slices_Clone_22_b,slices_Clone_24,slices_Clone_24_b,fitB_of (show (0+p.1.length)*8≤140737488355328 by omega),fitB_of (show (0+p.2.length)*40≤140737488355328 by omega),cT]
   have hw:∀n:Nat,n≤1000→IntKind.wrap .i64 ((n:Int) - 1)=(n:Int) - 1:=fun n hn=>by rw[wrap_id (by omega) (by omega)]
   rw[hw p.1.length (by omega)]
   refine rev_loop (by omega) (fun again i j l' hl hij hjl=>?_) (fun again i j l' hij hl'=>?_)
   ·simp only[decide_eq_true (show (i:Int)<j by omega),inB_nat,Int.toNat_natCast,hl,decide_eq_true (show i<p.1.length by omega),decide_eq_true hjl,ble_of (show Nat.succ i≤p.1.length by omega),ble_of (show Nat.succ j≤p.1.length by omega),cT,succ_wrap (show i≤1000000 by omega),hw j (by omega)]
   ·simp only[decide_eq_false hij,cF,hl']
    refine lpK_seqX p.2.length (by omega) (fun i=>((i:Int),revL p.1,rowL i (fun k=>turnRow (p.2.getD (i - 1 - k) rw0)),PUnit.unit)) _ rfl (fun again2 i hil=>?_) (fun again2=>?_)
    ·have hrm:p.2.getD i rw0 ∈ p.2:=by rw[getD_nat hil];exact List.getElem_mem _
     have hrl:=f3 _ hrm
     simp only[decide_eq_true (show (i:Int)<p.2.length by omega),inB_nat,Int.toNat_natCast,decide_eq_true hil,cT,fitB_of (show (0+(p.2.getD i rw0).1.length)*8≤140737488355328 by omega),obN,hw (p.2.getD i rw0).1.length (by omega)]
     refine rev_loop (by omega) (fun again3 i2 j l' hl hij hjl=>?_) (fun again3 i2 j l' hij hl'=>?_)
     ·simp only[decide_eq_true (show (i2:Int)<j by omega),inB_nat,Int.toNat_natCast,hl,decide_eq_true (show i2<(p.2.getD i rw0).1.length by omega),decide_eq_true hjl,ble_of (show Nat.succ i2≤(p.2.getD i rw0).1.length by omega),ble_of (show Nat.succ j≤(p.2.getD i rw0).1.length by omega),cT,succ_wrap (show i2≤1000000 by omega),hw j (by omega)]
     ·simp only[decide_eq_false hij,cF,hl',rowL_len,fitB_of (show (1+i)*40≤140737488355328 by omega),cT,succ_wrap (show i≤1000000 by omega)]
      rw[rowL_cons,rowL_congr (g:=fun k=>turnRow (p.2.getD (i+1 - 1 - (k+1)) rw0)) (f:=fun k=>turnRow (p.2.getD (i - 1 - k) rw0)) fun k hk=>by rw[show i - 1 - k=i+1 - 1 - (k+1) by omega]]
      rfl
    ·simp only[decide_eq_false (show ¬ (p.2.length:Int)<p.2.length by omega),cF]
     rw[show program_Solve (revL p.1,rowL p.2.length fun k=>turnRow (p.2.getD (p.2.length - 1 - k) rw0))=_ from g1,obN]
     simp only[←ef,←av,decide_true,Bool.and_self,Bool.not_true,cF,fitB_of (show (p.2.length+1)*40≤140737488355328 by omega),cT]
     rw[show program_Solve (p.1,p.2++[r])=_ from k1,obN]
     simp only
     rcases k2 with ⟨rfl,rfl,hq⟩ | ⟨rfl,rfl,_⟩ | ⟨rfl,rfl,hQ,hF,y,hy⟩ | ⟨rfl,rfl,hQ,hF,⟨x,hx⟩,r2,hr2⟩ | ⟨rfl,hQ,hF,_,v2,x,y,hc,hfv2,hx,hy,hxv,hyv⟩
     ·simp only[emptyN,obN]
      rfl
     ·simp only[emptyN,obN]
      rfl
     all_goals have pv:validP p=true:=validP_iff.2 (more_valid hQ)
     all_goals have pf:FitsL (linP p):=more_fits hF
     ·rcases h2 with ⟨_,_,h⟩ | ⟨_,_,_,h⟩ | ⟨rfl,_⟩ | ⟨rfl,_⟩ | ⟨rfl,_⟩
      ·rw[pv] at h;cases h
      ·exact (h pf).elim
      ·rfl
      ·rfl
      ·rfl
     ·rcases h2 with ⟨_,_,h⟩ | ⟨_,_,_,h⟩ | ⟨_,_,_,_,y0,hy0⟩ | ⟨rfl,_⟩ | ⟨_,_,_,_,_,_,y0,_,_,_,hy0,_⟩
      ·rw[pv] at h;cases h
      ·exact (h pf).elim
      ·exact (hy0.none (more_feas hx)).elim
      ·rfl
      ·exact ((more_ray hr2).none hy0).elim
     ·rcases h2 with ⟨_,_,h⟩ | ⟨_,_,_,h⟩ | ⟨_,_,_,_,y0,hy0⟩ | ⟨rfl,_⟩ | ⟨rfl,_,_,_,v,x0,y0,ha,hfv,_,hy0,_,hy0v⟩
      ·rw[pv] at h;cases h
      ·exact (h pf).elim
      ·exact (hy0.none (more_feas hx)).elim
      ·rfl
      ·have w1:=Lin.weak (more_feas hx) hy0
       have e1:(linP (moreP p r)).val x=(linP p).val x:=rfl
       rw[hy0v,←e1,hxv] at w1
       have hcmp:=Cmp_ok (okF_prQ hfv) (okF_prQ hfv2)
       rw[qv_prQ,qv_prQ] at hcmp
       simp only[ha,hc,hcmp,obN,cmp_le,decide_eq_true w1]
       rfl
end Go.Proofs.Ytnbbackjofgcfaa
