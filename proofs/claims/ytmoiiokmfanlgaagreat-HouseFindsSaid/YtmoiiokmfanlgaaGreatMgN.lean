/- Steps of the simplex method by the rule of least indices: they never come back to a basis. Steps of the simplex method come to an end: a measure. Linear programs over the rationals: what points and multipliers prove; and what tables of the simplex method prove. How great the numbers of a program's tables may get: the product of the rows' factors. Tables of programs: how great the numbers of the artificial columns may get. Tables of numbers as lists of rows, and loops over them. Sorting by insertion: the order of the sets of a house, as a function of the place. Houses: a set is put into a list of sets. Houses: both programs put a set as the list law says. Houses: the order of the sets is the sorted one, as the program's insertion sort makes it. Houses: the gaps between sets, and the law that the order has each set once. Houses: the reference's order and gaps, and the law HouseFinds. Houses: the law HouseFinds. -/
import Derived.Test.YtmoiiokmfanlgaaGreatMgM

namespace Go.Proofs.YtmoiiokmfanlgaaGreat
namespace Dn
structure Sx where
 T:Nat→Nat→Int
 d:Int
 β:Nat→Nat
def zr (m:Nat) (wc:Nat→Int) (S:Sx) (j:Nat):Int:=wc j*S.d - sz m fun i=>wc (S.β i)*S.T i j
structure Leaves (m R:Nat) (S:Sx) (c r:Nat):Prop where
 lt:r<m
 pos:0<S.T r c
 le:∀i,i<m→0<S.T i c→S.T r R*S.T i c≤S.T i R*S.T r c
 tie:∀i,i<m→0<S.T i c→S.T r R*S.T i c=S.T i R*S.T r c→S.β r≤S.β i
structure Enters (m N:Nat) (wc:Nat→Int) (S:Sx) (c:Nat):Prop where
 lt:c<N
 neg:zr m wc S c<0
 least:∀j,j<c→0≤zr m wc S j
structure StepAt (m w:Nat) (S S':Sx) (r c:Nat):Prop where
 T:∀i j,i<m→j<w→S'.T i j=if i=r then S.T r j else piv S.T S.d r c i j
 d:S'.d=S.T r c
 β:∀i,i<m→S'.β i=upd S.β r c i
structure Step (m w N R:Nat) (wc:Nat→Int) (S S':Sx) (r c:Nat):Prop where
 enters:Enters m N wc S c
 leaves:Leaves m R S c r
 at':StepAt m w S S' r c
structure Val (m w N R:Nat) (M:Nat→Nat→Int) (S:Sx):Prop where
 tb:Tb m w M S.T S.d S.β
 feas:∀i,i<m→0≤S.T i R
 ne:∀i,i<m→S.β i≠R
section
variable {m w N R:Nat} {M:Nat→Nat→Int} {wc:Nat→Int}
theorem dc_congr {β β':Nat→Nat} (h:∀i,i<m→β' i=β i):dc m M β'=dc m M β:=det_congr fun i j _ hj=>by unfold colsOf;rw[h j hj]
theorem Tb.congr {T T':Nat→Nat→Int} {d:Int} {β β':Nat→Nat} (h:Tb m w M T d β) (hT:∀i j,i<m→j<w→T' i j=T i j) (hβ:∀i,i<m→β' i=β i):Tb m w M T' d β':=by
 refine ⟨h.dpos,fun i hi=>by rw[hβ i hi];exact h.lt i hi,fun k hk j hj=>?_,?_⟩
 ·rw[h.co k hk j hj]
  exact sz_congr fun i hi=>by rw[hT i j hi hj,hβ i hi]
 ·obtain ⟨σ,h1,h2,h3⟩:=h.cr
  refine ⟨σ,h1,by rw[dc_congr hβ];exact h2,fun i hi j hj=>?_⟩
  rw[hT i j hi hj,h3 i hi j hj]
  congr 1
  exact (dc_congr fun k hk=>by unfold upd;rw[hβ k hk]).symm
theorem Val.stepAt {S S':Sx} (h:Val m w N R M S) (hR:R<w) {r c:Nat} (hc:c<w) (hcR:c≠R) (hl:Leaves m R S c r) (hs:StepAt m w S S' r c):Val m w N R M S':=by
 have hr:=hl.lt
 have e1:sg (S.T r c)=1:=by unfold sg;rw[if_neg (by have:=hl.pos;omega)]
 have h1:=h.tb.step hr hc (by have:=hl.pos;omega)
 have h2:=h1.congr (T':=S'.T) (β':=S'.β) (fun i j hi hj=>by rw[hs.T i j hi hj];unfold pivT;rw[e1,Int.one_mul]) hs.β
 rw[e1,Int.one_mul,←hs.d] at h2
 refine ⟨h2,fun i hi=>?_,fun i hi=>?_⟩
 ·rw[hs.T i R hi hR]
  split
  ·exact h.feas r hr
  ·rename_i hne
   have h3:=piv_exact h.tb hr hi (Ne.symm hne) hc hR
   have h4:=h.tb.dpos
   have h5:=hl.pos
   have h6:0≤S.T r c*S.T i R - S.T i c*S.T r R:=by
    by_cases h7:0<S.T i c
    ·have:=hl.le i hi h7
     have e1:=Int.mul_comm (S.T r R) (S.T i c)
     have e2:=Int.mul_comm (S.T i R) (S.T r c)
     omega
    ·have h8:0≤S.T r c*S.T i R:=Int.mul_nonneg (by omega) (h.feas i hi)
     have h9:0≤ -S.T i c*S.T r R:=Int.mul_nonneg (by omega) (h.feas r hr)
     rw[Int.neg_mul] at h9
     omega
   rw[←h3] at h6
   exact Int.nonneg_of_mul_nonneg_right h6 h4
 ·rw[hs.β i hi]
  unfold upd
  split
  ·exact hcR
  ·exact h.ne i hi
theorem zr_basis {S:Sx} (h:Tb m w M S.T S.d S.β) {i:Nat} (hi:i<m):zr m wc S (S.β i)=0:=by
 unfold zr
 rw[sz_one hi fun k hk hne=>by rw[h.other hk hi hne,Int.mul_zero],h.basis hi]
 omega
theorem zr_rows {S:Sx} (h:Tb m w M S.T S.d S.β) {a:Nat→Nat} (ha:∀i,i<m→a i<w) (hM:∀k,k<m→∀i,i<m→M k (a i)=if k=i then 1 else 0) {j:Nat} (hj:j<w) :
  zr m wc S j=wc j*S.d - sz m fun k=>(sz m fun i=>wc (S.β i)*S.T i (a k))*M k j:=by
 unfold zr
 congr 1
 rw[sz_congr (g:=fun i=>sz m fun k=>wc (S.β i)*S.T i (a k)*M k j) fun i hi=>by
  rw[h.rows ha hM hi hj,←sz_mul]
  exact sz_congr fun k _=>by rw[Int.mul_assoc]]
 rw[sz_swap]
 exact sz_congr fun k _=>sz_mulr
theorem zr_step {S S':Sx} (h:Tb m w M S.T S.d S.β) {r c j:Nat} (hr:r<m) (hc:c<w) (hj:j<w) (hs:StepAt m w S S' r c):S.d*zr m wc S' j=S.T r c*zr m wc S j - zr m wc S c*S.T r j:=by
 have h1:∀i,i<m→S.d*(wc (S'.β i)*S'.T i j)=(S.T r c*(wc (S.β i)*S.T i j) - S.T r j*(wc (S.β i)*S.T i c))+(if i=r then S.d*(wc c*S.T r j) else 0):=fun i hi=>by
  rw[hs.β i hi,hs.T i j hi hj]
  unfold upd
  by_cases e:i=r
  ·subst e
   simp only[if_true]
   grind
  ·simp only[e,if_false,Int.add_zero]
   have:=piv_exact h hr hi (Ne.symm e) hc hj
   grind
 have h2:S.d*(sz m fun i=>wc (S'.β i)*S'.T i j)=S.T r c*(sz m fun i=>wc (S.β i)*S.T i j) - S.T r j*(sz m fun i=>wc (S.β i)*S.T i c)+S.d*(wc c*S.T r j):=by
  rw[←sz_mul,sz_congr h1,sz_add,sz_sub,sz_mul,sz_mul,sz_one hr fun i _ hne=>if_neg hne,if_pos rfl]
 unfold zr
 rw[Int.mul_sub,h2,hs.d]
 grind
theorem zr_two {S S':Sx} (h:Tb m w M S.T S.d S.β) (h':Tb m w M S'.T S'.d S'.β) {a:Nat→Nat} (ha:∀i,i<m→a i<w) (hM:∀k,k<m→∀i,i<m→M k (a i)=if k=i then 1 else 0) {s:Nat} (hs:s<w) :
  S.d*zr m wc S' s=S'.d*zr m wc S s+sz m fun i=>S.T i s*zr m wc S' (S.β i):=by
 have e1:=zr_rows (wc:=wc) h' ha hM hs
 have e2:∀i,i<m→S.T i s*zr m wc S' (S.β i)=S'.d*(wc (S.β i)*S.T i s) - sz m fun k=>(sz m fun i=>wc (S'.β i)*S'.T i (a k))*(S.T i s*M k (S.β i)):=fun i hi=>by
  rw[zr_rows (wc:=wc) h' ha hM (h.lt i hi),Int.mul_sub,←sz_mul]
  congr 1
  ·grind
  ·exact sz_congr fun k _=>by grind
 rw[sz_congr e2,sz_sub,sz_mul,sz_swap]
 have e3:(sz m fun k=>sz m fun i=>(sz m fun i=>wc (S'.β i)*S'.T i (a k))*(S.T i s*M k (S.β i)))=S.d*sz m fun k=>(sz m fun i=>wc (S'.β i)*S'.T i (a k))*M k s:=by
  rw[←sz_mul]
  refine sz_congr fun k hk=>?_
  rw[sz_mul,←h.co k hk s hs]
  grind
 rw[e3,e1]
 unfold zr
 grind
theorem left_between {β:Nat→Nat→Nat} {q:Nat}:∀{k i:Nat},(∃p,p<m∧β i p=q)→(¬ ∃p,p<m∧β (i+k) p=q)→∃n,i≤n∧n<i+k∧(∃p,p<m∧β n p=q)∧¬ ∃p,p<m∧β (n+1) p=q
 | 0,i,h1,h2=>(h2 h1).elim
 | k+1,i,h1,h2=>by
  by_cases h:∃p,p<m∧β (i+k) p=q
  ·exact ⟨i+k,by omega,by omega,h,h2⟩
  ·obtain ⟨n,h3,h4,h5,h6⟩:=left_between h1 h
   exact ⟨n,h3,by omega,h5,h6⟩
theorem come_between {β:Nat→Nat→Nat} {q:Nat}:∀{k i:Nat},(¬ ∃p,p<m∧β i p=q)→(∃p,p<m∧β (i+k) p=q)→∃n,i≤n∧n<i+k∧(¬ ∃p,p<m∧β n p=q)∧∃p,p<m∧β (n+1) p=q
 | 0,i,h1,h2=>(h1 h2).elim
 | k+1,i,h1,h2=>by
  by_cases h:∃p,p<m∧β (i+k) p=q
  ·obtain ⟨n,h3,h4,h5,h6⟩:=come_between h1 h
   exact ⟨n,h3,by omega,h5,h6⟩
  ·exact ⟨i+k,by omega,by omega,h,h2⟩
theorem max_of {k:Nat} {f:Nat→Nat}:0<k→∃n,n<k∧∀i,i<k→f i≤f n:=by
 induction k with
 | zero=>intro h;omega
 | succ k ih =>
  intro _
  by_cases hk:k=0
  ·subst hk
   exact ⟨0,by omega,fun i hi=>by rw[show i=0 by omega];exact Nat.le_refl _⟩
  ·obtain ⟨n,h1,h2⟩:=ih (by omega)
   by_cases h3:f k≤f n
   ·refine ⟨n,by omega,fun i hi=>?_⟩
    by_cases h4:i=k
    ·rw[h4];exact h3
    ·exact h2 i (by omega)
   ·refine ⟨k,by omega,fun i hi=>?_⟩
    by_cases h4:i=k
    ·rw[h4];exact Nat.le_refl _
    ·have:=h2 i (by omega);omega
theorem le_cancel {e x y:Int} (he:0<e) (h:e*x≤e*y):x≤y:=Int.le_of_mul_le_mul_left h he
structure Run (m w N R:Nat) (M:Nat→Nat→Int) (wc:Nat→Int) (k:Nat) (S:Nat→Sx) (r c:Nat→Nat):Prop where
 val:∀n,n≤k→Val m w N R M (S n)
 step:∀n,n<k→Step m w N R wc (S n) (S (n+1)) (r n) (c n)
theorem Run.of {k:Nat} {S:Nat→Sx} {r c:Nat→Nat} (hN:N≤R) (hR:R<w) (h0:Val m w N R M (S 0)) (hs:∀n,n<k→Step m w N R wc (S n) (S (n+1)) (r n) (c n)):Run m w N R M wc k S r c:=by
 refine ⟨fun n=>?_,hs⟩
 induction n with
 | zero=>intro _;exact h0
 | succ n ih =>
  intro hn
  have h1:=hs n (by omega)
  have:=h1.enters.lt
  exact (ih (by omega)).stepAt hR (by omega) (by omega) h1.leaves h1.at'
theorem Run.nocycle {k:Nat} {S:Nat→Sx} {r c:Nat→Nat} {a:Nat→Nat} (ha:∀i,i<m→a i<w) (hM:∀k,k<m→∀i,i<m→M k (a i)=if k=i then 1 else 0) (hN:N≤R) (hR:R<w)
  (h:Run m w N R M wc k S r c) (hk:0<k):¬ ∀i,i<m→(S k).β i=(S 0).β i:=by
 intro hcyc
 have cw:∀n,n<k→c n<w:=fun n hn=>by have:=(h.step n hn).enters.lt;omega
 have dp:∀n,n≤k→0<(S n).d:=fun n hn=>(h.val n hn).tb.dpos
 have vstep:∀n,n<k→zr m wc (S n) R*(S (n+1)).d≤zr m wc (S (n+1)) R*(S n).d∧((S n).T (r n) R≠0→zr m wc (S n) R*(S (n+1)).d<zr m wc (S (n+1)) R*(S n).d):=fun n hn=>by
  have hs:=h.step n hn
  have h1:=zr_step (wc:=wc) (h.val n (by omega)).tb hs.leaves.lt (cw n hn) hR hs.at'
  have h2:=hs.enters.neg
  have h3:=(h.val n (by omega)).feas (r n) hs.leaves.lt
  have h4:0≤ -zr m wc (S n) (c n)*(S n).T (r n) R:=Int.mul_nonneg (by omega) h3
  rw[Int.neg_mul] at h4
  rw[hs.at'.d,Int.mul_comm (zr m wc (S (n+1)) R),h1,Int.mul_comm (zr m wc (S n) R)]
  refine ⟨by omega,fun hne=>?_⟩
  have h5:0< -zr m wc (S n) (c n)*(S n).T (r n) R:=Int.mul_pos (by omega) (by omega)
  rw[Int.neg_mul] at h5
  omega
 have vle:∀i j,i+j≤k→zr m wc (S i) R*(S (i+j)).d≤zr m wc (S (i+j)) R*(S i).d:=by
  intro i j
  induction j with
  | zero=>intro _;exact Int.le_refl _
  | succ j ih =>
   intro hj
   have h1:=ih (by omega)
   have h2:=(vstep (i+j) (by omega)).1
   have d1:=dp i (by omega)
   have d2:=dp (i+j) (by omega)
   have d3:=dp (i+j+1) (by omega)
   refine le_cancel d2 ?_
   have h3:=Int.mul_le_mul_of_nonneg_right h1 (Int.le_of_lt d3)
   have h4:=Int.mul_le_mul_of_nonneg_right h2 (Int.le_of_lt d1)
   rw[show i+(j+1)=i+j+1 by omega]
   calc (S (i+j)).d*(zr m wc (S i) R*(S (i+j+1)).d)=zr m wc (S i) R*(S (i+j)).d*(S (i+j+1)).d:=by grind
    _≤zr m wc (S (i+j)) R*(S i).d*(S (i+j+1)).d:=h3
    _=zr m wc (S (i+j)) R*(S (i+j+1)).d*(S i).d:=by grind
    _≤zr m wc (S (i+j+1)) R*(S (i+j)).d*(S i).d:=h4
    _=(S (i+j)).d*(zr m wc (S (i+j+1)) R*(S i).d):=by grind
 have same:(S k).d=(S 0).d∧∀i j,i<m→j<w→(S k).T i j=(S 0).T i j:=by
  obtain ⟨σ,s1,s2,s3⟩:=(h.val k (Nat.le_refl _)).tb.cr
  obtain ⟨τ,t1,t2,t3⟩:=(h.val 0 (by omega)).tb.cr
  rw[dc_congr hcyc] at s2
  have p1:=dp k (Nat.le_refl _)
  have p2:=dp 0 (by omega)
  have e:σ=τ:=by
   have h1:σ*(S k).d=dc m M (S 0).β:=by rw[s2,←Int.mul_assoc,s1,Int.one_mul]
   have h2:τ*(S 0).d=dc m M (S 0).β:=by rw[t2,←Int.mul_assoc,t1,Int.one_mul]
   have pm:∀x:Int,x*x=1→x=1∨x= -1:=fun x hx=>by
    have h4:x.natAbs*x.natAbs=1:=by
     have:=congrArg Int.natAbs hx
     rwa [Int.natAbs_mul] at this
    have h5:x.natAbs=1:=Nat.eq_one_of_mul_eq_one_left h4
    omega
   rcases pm σ s1 with rfl | rfl<;>rcases pm τ t1 with rfl | rfl<;>omega
  refine ⟨by rw[s2,e];exact t2.symm,fun i j hi hj=>?_⟩
  rw[s3 i hi j hj,t3 i hi j hj,e]
  congr 1
  exact dc_congr fun l hl=>by unfold upd;rw[hcyc l hl]
 have vend:zr m wc (S k) R=zr m wc (S 0) R:=by
  unfold zr
  rw[same.1]
  congr 1
  exact sz_congr fun i hi=>by rw[hcyc i hi,same.2 i R hi hR]
 have flat:∀n,n<k→(S n).T (r n) R=0:=fun n hn=>by
  by_cases e:(S n).T (r n) R=0
  ·exact e
  ·exfalso
   have h1:=(vstep n hn).2 e
   have h2:=vle 0 n (by omega)
   have h3:=vle (n+1) (k - (n+1)) (by omega)
   rw[Nat.zero_add] at h2
   rw[show n+1+(k - (n+1))=k by omega,vend,same.1] at h3
   have d0:=dp 0 (by omega)
   have d1:=dp n (by omega)
   have d2:=dp (n+1) (by omega)
   have h4:=Int.mul_lt_mul_of_pos_right h1 d0
   have h5:=Int.mul_le_mul_of_nonneg_right h2 (Int.le_of_lt d2)
   have h6:=Int.mul_le_mul_of_nonneg_right h3 (Int.le_of_lt d1)
   have:zr m wc (S 0) R*(S n).d*(S (n+1)).d<zr m wc (S 0) R*(S n).d*(S (n+1)).d:=by
    calc zr m wc (S 0) R*(S n).d*(S (n+1)).d≤zr m wc (S n) R*(S 0).d*(S (n+1)).d:=h5
     _=zr m wc (S n) R*(S (n+1)).d*(S 0).d:=by grind
     _<zr m wc (S (n+1)) R*(S n).d*(S 0).d:=h4
     _=zr m wc (S (n+1)) R*(S 0).d*(S n).d:=by grind
     _≤zr m wc (S 0) R*(S (n+1)).d*(S n).d:=h6
     _=zr m wc (S 0) R*(S n).d*(S (n+1)).d:=by grind
   omega
 have zeroStep:∀n q,n<k→((∀i,i<m→(S n).β i=q→(S n).T i R=0)↔(∀i,i<m→(S (n+1)).β i=q→(S (n+1)).T i R=0)):=fun n q hn=>by
  have hs:=h.step n hn
  have hf:=flat n hn
  have htb:=(h.val n (by omega)).tb
  have key:∀i,i<m→i≠r n→((S (n+1)).T i R=0↔(S n).T i R=0):=fun i hi hne=>by
   rw[hs.at'.T i R hi hR,if_neg hne]
   have h1:=piv_exact htb hs.leaves.lt hi (Ne.symm hne) (cw n hn) hR
   rw[hf,Int.mul_zero,Int.sub_zero] at h1
   have h2:=hs.leaves.pos
   have h3:=dp n (by omega)
   constructor
   ·intro e
    rw[e,Int.mul_zero] at h1
    rcases Int.mul_eq_zero.1 h1.symm with h4 | h4
    ·omega
    ·exact h4
   ·intro e
    rw[e,Int.mul_zero] at h1
    rcases Int.mul_eq_zero.1 h1 with h4 | h4
    ·omega
    ·exact h4
  constructor
  ·intro hz i hi hb
   by_cases e:i=r n
   ·rw[e,hs.at'.T _ R hs.leaves.lt hR,if_pos rfl];exact hf
   ·rw[hs.at'.β i hi] at hb
    unfold upd at hb
    rw[if_neg e] at hb
    exact (key i hi e).2 (hz i hi hb)
  ·intro hz i hi hb
   by_cases e:i=r n
   ·rw[e];exact hf
   ·refine (key i hi e).1 (hz i hi ?_)
    rw[hs.at'.β i hi]
    unfold upd
    rw[if_neg e]
    exact hb
 have zeroAll:∀q n,n≤k→((∀i,i<m→(S 0).β i=q→(S 0).T i R=0)↔(∀i,i<m→(S n).β i=q→(S n).T i R=0)):=fun q n=>by
  induction n with
  | zero=>intro _;exact Iff.rfl
  | succ n ih=>intro hn;exact (ih (by omega)).trans (zeroStep n q (by omega))
 have comes:∀n q,n<k→(¬ ∃p,p<m∧(S n).β p=q)→(∃p,p<m∧(S (n+1)).β p=q)→q=c n:=fun n q hn h1 ⟨p,hp,hq⟩=>by
  have hs:=h.step n hn
  rw[hs.at'.β p hp] at hq
  unfold upd at hq
  split at hq
  ·exact hq.symm
  ·exact (h1 ⟨p,hp,hq⟩).elim
 have goes:∀n q,n<k→(∃p,p<m∧(S n).β p=q)→(¬ ∃p,p<m∧(S (n+1)).β p=q)→q=(S n).β (r n):=fun n q hn ⟨p,hp,hq⟩ h1=>by
  have hs:=h.step n hn
  by_cases e:p=r n
  ·rw[←e];exact hq.symm
  ·refine (h1 ⟨p,hp,?_⟩).elim
   rw[hs.at'.β p hp]
   unfold upd
   rw[if_neg e]
   exact hq
 have notIn:∀n,n<k→¬ ∃p,p<m∧(S n).β p=c n:=fun n hn ⟨p,hp,hq⟩=>by
  have hs:=h.step n hn
  have h1:=hs.enters.neg
  rw[←hq,zr_basis (h.val n (by omega)).tb hp] at h1
  omega
 have isIn:∀n,n<k→∃p,p<m∧(S (n+1)).β p=c n:=fun n hn=>by
  have hs:=h.step n hn
  refine ⟨r n,hs.leaves.lt,?_⟩
  rw[hs.at'.β _ hs.leaves.lt]
  unfold upd
  rw[if_pos rfl]
 have ends:∀q,(∃p,p<m∧(S k).β p=q)↔∃p,p<m∧(S 0).β p=q:=fun q=>by
  constructor
  ·rintro ⟨p,hp,hq⟩;exact ⟨p,hp,by rw[←hcyc p hp];exact hq⟩
  ·rintro ⟨p,hp,hq⟩;exact ⟨p,hp,by rw[hcyc p hp];exact hq⟩
 obtain ⟨ns,hns,hmax⟩:=max_of (f:=c) hk
 have leaves:∃n,n<k∧(S n).β (r n)=c ns:=by
  by_cases h0:∃p,p<m∧(S 0).β p=c ns
  ·obtain ⟨n,h1,h2,h3,h4⟩:=left_between (β:=fun n=>(S n).β) (k:=ns) (i:=0) h0 (by rw[Nat.zero_add];exact notIn ns hns)
   exact ⟨n,by omega,(goes n _ (by omega) h3 h4).symm⟩
  ·have h1:¬ ∃p,p<m∧(S k).β p=c ns:=fun e=>h0 ((ends _).1 e)
   obtain ⟨n,h2,h3,h4,h5⟩:=left_between (β:=fun n=>(S n).β) (k:=k - (ns+1)) (i:=ns+1) (isIn ns hns) (by rw[show ns+1+(k - (ns+1))=k by omega];exact h1)
   exact ⟨n,by omega,(goes n _ (by omega) h4 h5).symm⟩
 obtain ⟨n,hn,hleave⟩:=leaves
 have hs:=h.step n hn
 have hst:=h.step ns hns
 have vn:=h.val n (by omega)
 have vs:=h.val ns (by omega)
 have hcn:=hmax n hn
 have hne:c n≠c ns:=fun e=>notIn n hn ⟨r n,hs.leaves.lt,by rw[hleave];exact e.symm⟩
 have id:=zr_two (wc:=wc) vn.tb vs.tb ha hM (cw n hn)
 have z1:0≤zr m wc (S ns) (c n):=hst.enters.least (c n) (by omega)
 have z2:=hs.enters.neg
 have d1:=dp n (by omega)
 have d2:=dp ns (by omega)
 have hsum:0<sz m fun i=>(S n).T i (c n)*zr m wc (S ns) ((S n).β i):=by
  have h1:0≤(S n).d*zr m wc (S ns) (c n):=Int.mul_nonneg (by omega) z1
  have h2:0<(S ns).d* -zr m wc (S n) (c n):=Int.mul_pos d2 (by omega)
  rw[Int.mul_neg] at h2
  omega
 have hex:∃i,i<m∧0<(S n).T i (c n)*zr m wc (S ns) ((S n).β i):=by
  by_cases e:∃i,i<m∧0<(S n).T i (c n)*zr m wc (S ns) ((S n).β i)
  ·exact e
  ·exfalso
   have:=sz_le (n:=m) (f:=fun i=>(S n).T i (c n)*zr m wc (S ns) ((S n).β i)) (g:=fun _=>0) fun i hi=>Int.not_lt.1 fun h'=>e ⟨i,hi,h'⟩
   rw[sz_zero (f:=fun _=>0) fun _ _=>rfl] at this
   omega
 obtain ⟨i,hi,hpos⟩:=hex
 have hq0:zr m wc (S ns) ((S n).β i)≠0:=fun e=>by rw[e,Int.mul_zero] at hpos;omega
 have hq1:¬ ∃p,p<m∧(S ns).β p=(S n).β i:=fun ⟨p,hp,hq⟩=>hq0 (by rw[←hq];exact zr_basis vs.tb hp)
 have hq2:∃p,p<m∧(S n).β p=(S n).β i:=⟨i,hi,rfl⟩
 have hq3:∃n',n'<k∧(S n).β i=c n':=by
  by_cases hlt:ns<n
  ·obtain ⟨n',h1,h2,h3,h4⟩:=come_between (β:=fun n=>(S n).β) (k:=n - ns) (i:=ns) hq1 (by rw[show ns+(n - ns)=n by omega];exact hq2)
   exact ⟨n',by omega,comes n' _ (by omega) h3 h4⟩
  ·by_cases h0:∃p,p<m∧(S 0).β p=(S n).β i
   ·obtain ⟨n',h1,h2,h3,h4⟩:=come_between (β:=fun n=>(S n).β) (k:=k - ns) (i:=ns) hq1 (by rw[show ns+(k - ns)=k by omega];exact (ends _).2 h0)
    exact ⟨n',by omega,comes n' _ (by omega) h3 h4⟩
   ·obtain ⟨n',h1,h2,h3,h4⟩:=come_between (β:=fun n=>(S n).β) (k:=n) (i:=0) h0 (by rw[Nat.zero_add];exact hq2)
    exact ⟨n',by omega,comes n' _ (by omega) h3 h4⟩
 obtain ⟨n',hn',hq4⟩:=hq3
 have hq5:(S n).β i≤c ns:=by rw[hq4];exact hmax n' hn'
 by_cases hqt:(S n).β i=c ns
 ·have:i=r n:=vn.tb.inj hi hs.leaves.lt (by rw[hqt,hleave])
  rw[this,hleave] at hpos
  have h1:=hs.leaves.pos
  have h2:=hst.enters.neg
  have h3:0<(S n).T (r n) (c n)* -zr m wc (S ns) (c ns):=Int.mul_pos h1 (by omega)
  rw[Int.mul_neg] at h3
  omega
 ·have z3:0≤zr m wc (S ns) ((S n).β i):=hst.enters.least _ (by omega)
  have hTi:0<(S n).T i (c n):=by
   by_cases e:0<(S n).T i (c n)
   ·exact e
   ·exfalso
    have:0≤ -(S n).T i (c n)*zr m wc (S ns) ((S n).β i):=Int.mul_nonneg (by omega) z3
    rw[Int.neg_mul] at this
    omega
  have hiR:(S n).T i R=0:=((zeroAll _ n (by omega)).1 ((zeroAll _ ns (by omega)).2 fun p hp hq=>(hq1 ⟨p,hp,hq⟩).elim)) i hi rfl
  have:=hs.leaves.tie i hi hTi (by rw[flat n hn,hiR,Int.zero_mul,Int.zero_mul])
  rw[hleave] at this
  omega
end
end Dn
end Go.Proofs.YtmoiiokmfanlgaaGreat

namespace Go.Proofs.YtmoiiokmfanlgaaGreat
namespace Dn
theorem pigeon:∀(K:Nat) (f:Nat→Nat),(∀i,i≤K→f i<K)→∃i j,i<j∧j≤K∧f i=f j
 | 0,f,h=>by have:=h 0 (by omega);omega
 | K+1,f,h=>by
  by_cases e:∃i,i≤K∧f i=f (K+1)
  ·obtain ⟨i,h1,h2⟩:=e
   exact ⟨i,K+1,by omega,by omega,h2⟩
  ·
   obtain ⟨i,j,h1,h2,h3⟩:=pigeon K (fun i=>if f i<f (K+1) then f i else f i - 1) fun i hi=>by
    have h4:=h i (by omega)
    have h5:=h (K+1) (by omega)
    have h6:f i≠f (K+1):=fun e'=>e ⟨i,hi,e'⟩
    show (if f i<f (K+1) then f i else f i - 1)<K
    split<;>omega
   refine ⟨i,j,h1,by omega,?_⟩
   have h6:f i≠f (K+1):=fun e'=>e ⟨i,by omega,e'⟩
   have h7:f j≠f (K+1):=fun e'=>e ⟨j,by omega,e'⟩
   have h3:(if f i<f (K+1) then f i else f i - 1)=(if f j<f (K+1) then f j else f j - 1):=h3
   split at h3<;>split at h3<;>omega
def code (w:Nat) (β:Nat→Nat):Nat→Nat
 | 0=>0
 | m+1=>code w β m*w+β m
theorem code_lt {w:Nat} {β:Nat→Nat}:∀{m:Nat},(∀i,i<m→β i<w)→code w β m<w ^ m
 | 0,_=>by simp[code]
 | m+1,h=>by
  simp only[code]
  have h1:=code_lt (m:=m) fun i hi=>h i (by omega)
  have h2:=h m (by omega)
  have h3:(code w β m+1)*w≤w ^ m*w:=Nat.mul_le_mul_right _ h1
  rw[Nat.pow_succ]
  rw[Nat.add_mul,Nat.one_mul] at h3
  omega
theorem code_inj {w:Nat} {β γ:Nat→Nat}:∀{m:Nat},(∀i,i<m→β i<w)→(∀i,i<m→γ i<w)→code w β m=code w γ m→∀i,i<m→β i=γ i
 | 0,_,_,_,i,hi=>by omega
 | m+1,hβ,hγ,h,i,hi=>by
  simp only[code] at h
  have h1:=hβ m (by omega)
  have h2:=hγ m (by omega)
  have e1:(code w β m*w+β m) % w=β m:=by rw[Nat.mul_comm,Nat.mul_add_mod,Nat.mod_eq_of_lt h1]
  have e2:(code w γ m*w+γ m) % w=γ m:=by rw[Nat.mul_comm,Nat.mul_add_mod,Nat.mod_eq_of_lt h2]
  have e3:β m=γ m:=by rw[←e1,←e2,h]
  have e4:code w β m=code w γ m:=by
   have:code w β m*w=code w γ m*w:=by omega
   exact Nat.eq_of_mul_eq_mul_right (by omega) this
  by_cases e:i=m
  ·rw[e];exact e3
  ·exact code_inj (fun i hi=>hβ i (by omega)) (fun i hi=>hγ i (by omega)) e4 i (by omega)
open Classical in
noncomputable def greatest (p:Nat→Prop):Nat→Nat
 | 0=>0
 | k+1=>if p k then k else greatest p k
section
variable {m w N R:Nat} {M:Nat→Nat→Int} {wc:Nat→Int}
theorem Run.short {k:Nat} {S:Nat→Sx} {r c:Nat→Nat} {a:Nat→Nat} (ha:∀i,i<m→a i<w) (hM:∀k,k<m→∀i,i<m→M k (a i)=if k=i then 1 else 0) (hN:N≤R) (hR:R<w)
  (h:Run m w N R M wc k S r c):k<w ^ m:=by
 by_cases hk:k<w ^ m
 ·exact hk
 ·exfalso
  obtain ⟨i,j,h1,h2,h3⟩:=pigeon (w ^ m) (fun n=>code w (S n).β m) fun n hn=>code_lt (h.val n (by omega)).tb.lt
  have h4:=code_inj (h.val i (by omega)).tb.lt (h.val j (by omega)).tb.lt h3
  have h5:Run m w N R M wc (j - i) (fun n=>S (i+n)) (fun n=>r (i+n)) (fun n=>c (i+n)):=⟨fun n hn=>h.val (i+n) (by omega),fun n hn=>h.step (i+n) (by omega)⟩
  refine h5.nocycle ha hM hN hR (by omega) fun p hp=>?_
  show (S (i+(j - i))).β p=(S (i+0)).β p
  rw[show i+(j - i)=j by omega,Nat.add_zero]
  exact (h4 p hp).symm
noncomputable def left (m w N R:Nat) (M:Nat→Nat→Int) (wc:Nat→Int) (s:Sx):Nat:=greatest (fun k=>∃S r c,S 0=s∧Run m w N R M wc k S r c) (w ^ m)
end
end Dn
end Go.Proofs.YtmoiiokmfanlgaaGreat

namespace Go.Proofs.YtmoiiokmfanlgaaGreat
namespace Dn
def sq:Nat→(Nat→Rat)→Rat
 | 0,_=>0
 | n+1,f=>sq n f+f n
theorem sq_congr:∀{n:Nat} {f g:Nat→Rat},(∀i,i<n→f i=g i)→sq n f=sq n g
 | 0,_,_,_=>rfl
 | n+1,f,g,h=>by
  simp only[sq]
  rw[sq_congr (n:=n) fun i hi=>h i (by omega),h n (by omega)]
theorem sq_add:∀{n:Nat} {f g:Nat→Rat},sq n (fun i=>f i+g i)=sq n f+sq n g
 | 0,_,_=>by simp only[sq];grind
 | n+1,f,g=>by
  simp only[sq]
  rw[sq_add]
  grind
theorem sq_mul:∀{n:Nat} {c:Rat} {f:Nat→Rat},sq n (fun i=>c*f i)=c*sq n f
 | 0,c,_=>by simp[sq]
 | n+1,c,f=>by
  simp only[sq]
  rw[sq_mul]
  grind
theorem sq_zero:∀{n:Nat} {f:Nat→Rat},(∀i,i<n→f i=0)→sq n f=0
 | 0,_,_=>rfl
 | n+1,f,h=>by
  simp only[sq]
  rw[sq_zero fun i hi=>h i (by omega),h n (by omega)]
  grind
theorem sq_le:∀{n:Nat} {f g:Nat→Rat},(∀i,i<n→f i≤g i)→sq n f≤sq n g
 | 0,_,_,_=>Rat.le_refl
 | n+1,f,g,h=>by
  simp only[sq]
  have:=sq_le (n:=n) fun i hi=>h i (by omega)
  have:=h n (by omega)
  grind
theorem sq_swap:∀{m n:Nat} {f:Nat→Nat→Rat},sq m (fun i=>sq n (fun j=>f i j))=sq n (fun j=>sq m (fun i=>f i j))
 | 0,n,f=>by
  simp only[sq]
  exact (sq_zero fun _ _=>rfl).symm
 | m+1,n,f=>by
  simp only[sq]
  rw[sq_swap,sq_add]
structure Lin where
 n:Nat
 m:Nat
 A:Nat→Nat→Int
 b:Nat→Int
 c:Nat→Int
 kd:Nat→Int
def Lin.row (L:Lin) (x:Nat→Rat) (k:Nat):Rat:=sq L.n fun j=>(L.A k j:Rat)*x j
def Lin.col (L:Lin) (y:Nat→Rat) (j:Nat):Rat:=sq L.m fun k=>(L.A k j:Rat)*y k
def Lin.val (L:Lin) (x:Nat→Rat):Rat:=sq L.n fun j=>(L.c j:Rat)*x j
def Lin.rhs (L:Lin) (y:Nat→Rat):Rat:=sq L.m fun k=>(L.b k:Rat)*y k
structure Lin.Feas (L:Lin) (x:Nat→Rat):Prop where
 pos:∀j,j<L.n→0≤x j
 most:∀k,k<L.m→L.kd k≠2→L.row x k≤L.b k
 least:∀k,k<L.m→L.kd k≠1→(L.b k:Rat)≤L.row x k
structure Lin.Sgn (L:Lin) (y:Nat→Rat):Prop where
 most:∀k,k<L.m→L.kd k=1→y k≤0
 least:∀k,k<L.m→L.kd k=2→0≤y k
structure Lin.Dual (L:Lin) (y:Nat→Rat):Prop extends L.Sgn y where
 col:∀j,j<L.n→L.col y j≤L.c j
structure Lin.Ref (L:Lin) (y:Nat→Rat):Prop extends L.Sgn y where
 col:∀j,j<L.n→L.col y j≤0
 rhs:0<L.rhs y
structure Lin.Ray (L:Lin) (r:Nat→Rat):Prop where
 pos:∀j,j<L.n→0≤r j
 most:∀k,k<L.m→L.kd k≠2→L.row r k≤0
 least:∀k,k<L.m→L.kd k≠1→0≤L.row r k
 val:L.val r<0
section
variable {L:Lin}
theorem Lin.swap (x y:Nat→Rat):sq L.n (fun j=>L.col y j*x j)=sq L.m (fun k=>y k*L.row x k):=by
 have e1:sq L.n (fun j=>L.col y j*x j)=sq L.n (fun j=>sq L.m fun k=>(L.A k j:Rat)*y k*x j):=sq_congr fun j _=>by
  unfold Lin.col
  rw[←sq_mul (c:=x j) |>fun h=>(by rw[h];grind:(sq L.m fun k=>x j*((L.A k j:Rat)*y k))=sq L.m (fun k=>(L.A k j:Rat)*y k)*x j)]
  exact sq_congr fun k _=>by grind
 rw[e1,sq_swap]
 refine sq_congr fun k _=>?_
 unfold Lin.row
 rw[←sq_mul]
 exact sq_congr fun j _=>by grind
theorem rowle {y r b:Rat} (h:(y≤0∧r≤b)∨(0≤y∧b≤r)∨r=b):b*y≤y*r:=by
 rcases h with ⟨h1,h2⟩ | ⟨h1,h2⟩ | h
 ·have:0≤(-y)*(b - r):=Rat.mul_nonneg (by grind) (by grind)
  grind
 ·have:0≤y*(r - b):=Rat.mul_nonneg h1 (by grind)
  grind
 ·subst h;grind
theorem Lin.Sgn.rows {x y:Nat→Rat} (h:L.Sgn y) {b:Nat→Rat} (h1:∀k,k<L.m→L.kd k≠2→L.row x k≤b k) (h2:∀k,k<L.m→L.kd k≠1→b k≤L.row x k):sq L.m (fun k=>b k*y k)≤sq L.m (fun k=>y k*L.row x k):=sq_le fun k hk=>by
 apply rowle
 by_cases e1:L.kd k=1
 ·exact .inl ⟨h.most k hk e1,h1 k hk (by omega)⟩
 ·by_cases e2:L.kd k=2
  ·exact .inr (.inl ⟨h.least k hk e2,h2 k hk e1⟩)
  ·have a1:=h1 k hk e2
   have a2:=h2 k hk e1
   exact .inr (.inr (Rat.le_antisymm a1 a2))
theorem Lin.Ref.none {x y:Nat→Rat} (hy:L.Ref y) (hx:L.Feas x):False:=by
 have h1:=hy.rows (x:=x) (b:=fun k=>(L.b k:Rat)) hx.most hx.least
 rw[←L.swap x y] at h1
 have h2:sq L.n (fun j=>L.col y j*x j)≤sq L.n (fun _=>0):=sq_le fun j hj=>by
  have:0≤(-L.col y j)*x j:=Rat.mul_nonneg (by have:=hy.col j hj;grind) (hx.pos j hj)
  grind
 rw[sq_zero (f:=fun _=>0) fun _ _=>rfl] at h2
 have h3:=hy.rhs
 unfold Lin.rhs at h3
 grind
theorem Lin.Ray.none {r y:Nat→Rat} (hr:L.Ray r) (hy:L.Dual y):False:=by
 have h1:=hy.rows (x:=r) (b:=fun _=>0) hr.most hr.least
 rw[←L.swap r y,sq_zero (f:=fun k=>0*y k) fun k _=>by grind] at h1
 have h2:sq L.n (fun j=>L.col y j*r j)≤L.val r:=sq_le fun j hj=>Rat.mul_le_mul_of_nonneg_right (hy.col j hj) (hr.pos j hj)
 have h3:=hr.val
 grind
end
structure Lay where
 N:Nat
 sl:Nat→Nat
 σ:Nat→Int
def Lay.M (Y:Lay) (L:Lin) (k j:Nat):Int :=
 if j<L.n then Y.σ k*L.A k j else if j<Y.N then (if L.kd k≠3∧j=Y.sl k then Y.σ k*(if L.kd k=1 then 1 else -1) else 0) else if j<Y.N+L.m then (if j=Y.N+k then 1 else 0) else Y.σ k*L.b k
structure Lay.ok (Y:Lay) (L:Lin):Prop where
 n:L.n≤Y.N
 kd:∀k,k<L.m→L.kd k=1∨L.kd k=2∨L.kd k=3
 sl:∀k,k<L.m→L.kd k≠3→L.n≤Y.sl k∧Y.sl k<Y.N
 inj:∀k l,k<L.m→l<L.m→L.kd k≠3→L.kd l≠3→Y.sl k=Y.sl l→k=l
 sg:∀k,k<L.m→Y.σ k=1∨Y.σ k= -1
 b:∀k,k<L.m→0≤Y.σ k*L.b k
abbrev Lay.R (Y:Lay) (L:Lin):Nat:=Y.N+L.m
abbrev Lay.w (Y:Lay) (L:Lin):Nat:=Y.N+L.m+1
section
variable {L:Lin} {Y:Lay}
theorem Lay.M_a (h:Y.ok L) {k i:Nat} (hi:i<L.m):Y.M L k (Y.N+i)=if k=i then 1 else 0:=by
 have:=h.n
 unfold Lay.M
 rw[if_neg (by omega),if_neg (by omega),if_pos (by omega)]
 by_cases e:k=i
 ·rw[if_pos e,if_pos (by omega)]
 ·rw[if_neg e,if_neg (by omega)]
theorem Lay.M_R (h:Y.ok L) {k:Nat}:Y.M L k (Y.R L)=Y.σ k*L.b k:=by
 have:=h.n
 unfold Lay.M Lay.R
 rw[if_neg (by omega),if_neg (by omega),if_neg (by omega)]
theorem Lay.ss (h:Y.ok L) {k:Nat} (hk:k<L.m):Y.σ k*Y.σ k=1:=by
 rcases h.sg k hk with e | e<;>rw[e]<;>rfl
abbrev Lay.Val (Y:Lay) (L:Lin) (S:Sx):Prop:=Dn.Val L.m (Y.w L) Y.N (Y.R L) (Y.M L) S
theorem Lay.art (h:Y.ok L):(∀i,i<L.m→Y.N+i<Y.w L)∧∀k,k<L.m→∀i,i<L.m→Y.M L k (Y.N+i)=if k=i then 1 else 0 :=
 ⟨fun i hi=>by unfold Lay.w;omega,fun k _ i hi=>Lay.M_a h hi⟩
theorem Lay.first (h:Y.ok L):Y.Val L ⟨Y.M L,1,fun i=>Y.N+i⟩:=by
 refine ⟨Tb.first (Lay.art h).1 (Lay.art h).2,fun i hi=>?_,fun i hi=>?_⟩
 ·show 0≤Y.M L i (Y.R L)
  rw[Lay.M_R h]
  exact h.b i hi
 ·show Y.N+i≠Y.N+L.m
  omega
def costs (L:Lin) (j:Nat):Int:=if j<L.n then L.c j else 0
end
end Dn
end Go.Proofs.YtmoiiokmfanlgaaGreat

namespace Go.Proofs.YtmoiiokmfanlgaaGreat
namespace Dn
def Lin.F (L:Lin) (k:Nat):Int:=1+ab (L.b k)+sz L.n fun j=>ab (L.A k j)
def Lin.P (L:Lin):Int:=pz L.m L.F
section
variable {L:Lin} {Y:Lay}
end
end Dn
end Go.Proofs.YtmoiiokmfanlgaaGreat

namespace Go.Proofs.YtmoiiokmfanlgaaGreat
namespace Dn
section
variable {L:Lin} {Y:Lay}
end
end Dn
end Go.Proofs.YtmoiiokmfanlgaaGreat

namespace Go.Proofs.YtmoiiokmfanlgaaGreat
namespace Dn
section
variable {α R:Type} {F:(α→Option R)→α→Option R}
theorem loopF_seq (n:Nat) (st:Nat→α) (r:Option R) (hb:∀again i,i<n→F again (st i)=again (st (i+1))) (hf:∀again,F again (st n)=r):∀(k i m:Nat),i+k=n→k<m→loopF F m (st i)=r
 | 0,i,m,h1,h2=>by
  obtain ⟨m,rfl⟩:∃m',m=m'+1:=⟨m - 1,by omega⟩
  rw[loopF_succ,show i=n by omega,hf]
 | k+1,i,m,h1,h2=>by
  obtain ⟨m,rfl⟩:∃m',m=m'+1:=⟨m - 1,by omega⟩
  rw[loopF_succ,hb _ _ (by omega)]
  exact loopF_seq n st r hb hf k (i+1) m (by omega) (by omega)
theorem lpK_seq (n:Nat) (hn:n≤1180591620717411303423) (st:Nat→α) (r:Option R) (hb:∀again i,i<n→F again (st i)=again (st (i+1))) (hf:∀again,F again (st n)=r):lpK α R F (st 0)=r :=
 loopF_seq n st r hb hf n 0 K0 (by omega) (by unfold K0;omega)
theorem lpK_seqX {x:α} (n:Nat) (hn:n≤1180591620717411303423) (st:Nat→α) (r:Option R) (hx:x=st 0) (hb:∀again i,i<n→F again (st i)=again (st (i+1))) (hf:∀again,F again (st n)=r):lpK α R F x=r:=by
 rw[hx]
 exact lpK_seq n hn st r hb hf
end
def rowL {α:Type} (w:Nat) (f:Nat→α):List α:=(List.range w).map f
section
variable {α:Type} {m w:Nat} {T T':Nat→Nat→Int}
theorem rowL_len {f:Nat→α}:(rowL w f).length=w:=by unfold rowL;rw[List.length_map,List.length_range]
theorem rowL_get {f:Nat→α} {d:α} {j:Nat} (h:j<w):(rowL w f).getD j d=f j:=by
 unfold rowL
 rw[getD_nat (by rw[List.length_map,List.length_range];exact h),List.getElem_map,List.getElem_range]
theorem rowL_at {f:Nat→α} {j:Nat} (h:j<(rowL w f).length):(rowL w f)[j]=f j :=
 (List.getElem_map f (l:=List.range w) (h:=h)).trans (congrArg f (List.getElem_range _))
theorem rowL_congr {f g:Nat→α} (h:∀j,j<w→f j=g j):rowL w f=rowL w g:=by
 unfold rowL
 exact List.map_congr_left fun j hj=>h j (List.mem_range.1 hj)
theorem rowL_set {f:Nat→α} {j:Nat} {x:α} (hj:j<w):(rowL w f).set j x=rowL w fun k=>if k=j then x else f k:=by
 refine List.ext_getElem (by rw[List.length_set,rowL_len,rowL_len]) fun i h1 h2=>?_
 have h3:i<w:=by rw[rowL_len] at h2;exact h2
 rw[List.getElem_set,rowL_at,rowL_at]
 by_cases e:j=i
 ·rw[if_pos e,if_pos e.symm]
 ·rw[if_neg e,if_neg (Ne.symm e)]
end
end Dn
end Go.Proofs.YtmoiiokmfanlgaaGreat

namespace Go.Proofs.YtmoiiokmfanlgaaGreat
open Dn Dn.Sh
def kk (d:Int→Int) (f:Nat→Int) (x:Int):Nat→Nat
 | 0=>0
 | n+1=>if d x<d (f n) then kk d f x n else n+1
theorem kk_le {d:Int→Int} {f:Nat→Int} {x:Int}:∀{n:Nat},kk d f x n≤n
 | 0=>Nat.le_refl _
 | n+1=>by
  unfold kk
  split
  ·exact Nat.le_succ_of_le kk_le
  ·exact Nat.le_refl _
theorem kk_hi {d:Int→Int} {f:Nat→Int} {x:Int}:∀{n p:Nat},kk d f x n≤p→p<n→d x<d (f p)
 | 0,p,_,h=>by omega
 | n+1,p,h,hp=>by
  unfold kk at h
  split at h
  ·rename_i c
   by_cases e:p=n
   ·rw[e];exact c
   ·exact kk_hi h (by omega)
  ·omega
theorem kk_stop {d:Int→Int} {f:Nat→Int} {x:Int}:∀{n:Nat},0<kk d f x n→¬ d x<d (f (kk d f x n - 1))
 | 0,h=>by simp[kk] at h
 | n+1,h=>by
  by_cases c:d x<d (f n)
  ·have e:kk d f x (n+1)=kk d f x n:=by rw[kk,if_pos c]
   rw[e] at h ⊢
   exact kk_stop h
  ·have e:kk d f x (n+1)=n+1:=by rw[kk,if_neg c]
   rw[e,Nat.add_sub_cancel]
   exact c
def insF (f:Nat→Int) (x:Int) (k i:Nat) (p:Nat):Int:=if p<k then f p else if p=k then x else if p≤i then f (p - 1) else p
def pf (d:Int→Int):Nat→Nat→Int
 | 0=>fun p=>p
 | i+1=>insF (pf d i) i (kk d (pf d i) i i) i
section
variable {d:Int→Int}
theorem pf_above:∀{i p:Nat},i≤p→pf d i p=p
 | 0,_,_=>rfl
 | i+1,p,h=>by
  have:=kk_le (d:=d) (f:=pf d i) (x:=i) (n:=i)
  simp only[pf,insF]
  rw[if_neg (by omega),if_neg (by omega),if_neg (by omega)]
theorem pf_range:∀{i p:Nat},p<i→0≤pf d i p∧pf d i p<i
 | 0,_,h=>by omega
 | i+1,p,h=>by
  have hk:=kk_le (d:=d) (f:=pf d i) (x:=i) (n:=i)
  simp only[pf,insF]
  by_cases c1:p<kk d (pf d i) i i
  ·rw[if_pos c1]
   have:=pf_range (i:=i) (p:=p) (by omega)
   omega
  ·rw[if_neg c1]
   by_cases c2:p=kk d (pf d i) i i
   ·rw[if_pos c2];omega
   ·rw[if_neg c2,if_pos (by omega)]
    have:=pf_range (i:=i) (p:=p - 1) (by omega)
    omega
theorem pf_onto:∀{i j:Nat},j<i→∃p,p<i∧pf d i p=j
 | 0,_,h=>by omega
 | i+1,j,h=>by
  have hk:=kk_le (d:=d) (f:=pf d i) (x:=i) (n:=i)
  by_cases e:j=i
  ·refine ⟨kk d (pf d i) i i,by omega,?_⟩
   show insF _ _ _ _ _=_
   unfold insF
   rw[if_neg (by omega),if_pos rfl,e]
  ·obtain ⟨p,h1,h2⟩:=pf_onto (i:=i) (j:=j) (by omega)
   by_cases c1:p<kk d (pf d i) i i
   ·refine ⟨p,by omega,?_⟩
    simp only[pf,insF]
    rw[if_pos c1,h2]
   ·refine ⟨p+1,by omega,?_⟩
    simp only[pf,insF]
    rw[if_neg (by omega),if_neg (by omega),if_pos (by omega),Nat.add_sub_cancel,h2]
def Lex (d:Int→Int) (a b:Int):Prop:=d a<d b∨d a=d b∧a<b
theorem pf_sorted:∀{i p q:Nat},p<q→q<i→Lex d (pf d i p) (pf d i q)
 | 0,_,_,_,h=>by omega
 | i+1,p,q,hpq,hq=>by
  have hk:=kk_le (d:=d) (f:=pf d i) (x:=i) (n:=i)
  have hlow:∀p,p<kk d (pf d i) i i→Lex d (pf d i p) i:=fun p hp=>by
   have h1:=kk_stop (d:=d) (f:=pf d i) (x:=i) (n:=i) (by omega)
   have h2:=(pf_range (d:=d) (i:=i) (p:=p) (by omega)).2
   have h3:d (pf d i p)≤d (pf d i (kk d (pf d i) i i - 1)):=by
    by_cases e:p=kk d (pf d i) i i - 1
    ·rw[e];exact Int.le_refl _
    ·rcases pf_sorted (i:=i) (p:=p) (q:=kk d (pf d i) i i - 1) (by omega) (by omega) with h | h<;>omega
   by_cases e:d (pf d i p)<d i
   ·exact .inl e
   ·exact .inr ⟨by omega,h2⟩
  have hhi:∀p,kk d (pf d i) i i≤p→p<i→Lex d i (pf d i p):=fun p h1 h2=>.inl (kk_hi h1 h2)
  simp only[pf,insF]
  by_cases c1:p<kk d (pf d i) i i
  ·rw[if_pos c1]
   by_cases c2:q<kk d (pf d i) i i
   ·rw[if_pos c2]
    exact pf_sorted hpq (by omega)
   ·rw[if_neg c2]
    by_cases c3:q=kk d (pf d i) i i
    ·rw[if_pos c3];exact hlow p c1
    ·rw[if_neg c3,if_pos (by omega)]
     exact pf_sorted (by omega) (by omega)
  ·rw[if_neg c1,if_neg (show ¬ q<kk d (pf d i) i i by omega),if_neg (show ¬ q=kk d (pf d i) i i by omega),if_pos (show q≤i by omega)]
   by_cases c3:p=kk d (pf d i) i i
   ·rw[if_pos c3];exact hhi (q - 1) (by omega) (by omega)
   ·rw[if_neg c3,if_pos (by omega)]
    exact pf_sorted (by omega) (by omega)
theorem Lex.irr {a:Int} (h:Lex d a a):False:=by rcases h with h | h<;>omega
theorem Lex.asymm {a b:Int} (h:Lex d a b) (g:Lex d b a):False:=by rcases h with h | h<;>rcases g with g | g<;>omega
theorem pf_inj {i p q:Nat} (hp:p<i) (hq:q<i) (h:pf d i p=pf d i q):p=q:=by
 by_cases c:p=q
 ·exact c
 ·by_cases c':p<q
  ·have:=pf_sorted (d:=d) c' hq
   rw[h] at this
   exact this.irr.elim
  ·have:=pf_sorted (d:=d) (show q<p by omega) hp
   rw[h] at this
   exact this.irr.elim
theorem pf_lt {i p q:Nat} (hp:p<i) (hq:q<i):p<q↔Lex d (pf d i p) (pf d i q):=by
 constructor
 ·exact fun h=>pf_sorted h hq
 ·intro h
  by_cases c:p<q
  ·exact c
  ·by_cases e:p=q
   ·rw[e] at h;exact h.irr.elim
   ·exact (h.asymm (pf_sorted (show q<p by omega) hp)).elim
end
def ordL (d:Int→Int) (n:Nat):List Int:=rowL n (pf d n)
end Go.Proofs.YtmoiiokmfanlgaaGreat

namespace Go.Proofs.YtmoiiokmfanlgaaGreat
open Tryz Dn Dn.Sh
theorem succ_wrap {i:Nat} (h:i≤1000000):IntKind.wrap .i64 ((i:Int)+1)=((i+1:Nat):Int):=by rw[wrap_id (by omega) (by omega)];rfl
theorem obN {T R:Type} {t:T} {k:T→Option R}:obind (some t) k=k t:=id rfl
theorem idxI_first {α:Type} {p:α→Bool} {d:α}:∀{l:List α} {k:Nat} {i:Int},k<l.length→p (l.getD k d)=true→(∀j,j<k→p (l.getD j d)=false)→idxI p l i=i+k
 | [],k,i,hk,_,_=>by simp at hk
 | a ::l,0,i,_,hp,_=>by
  unfold idxI
  rw[show p a=true from hp]
  simp
 | a ::l,k+1,i,hk,hp,hj=>by
  unfold idxI
  rw[show p a=false from hj 0 (by omega),cond_false,idxI_first (k:=k) (i:=i+1) (by simpa using hk) hp (fun j h=>hj (j+1) (by omega))]
  omega
def fI (ss:List HS) (n:ByteArray):Int:=idxI (fun s:HS=>decide (s.1=n)) ss 0
def Uq (ss:List HS):Prop:=∀i,i<ss.length→fI ss (ss.getD i set0).1=(i:Int)
theorem fI_at {ss:List HS} {n:ByteArray} (h:0≤fI ss n):(fI ss n).toNat<ss.length∧(ss.getD (fI ss n).toNat set0).1=n:=by
 obtain ⟨h1,h2,h3⟩:=idxI_at (d:=set0) (i:=0) (by omega) h
 refine ⟨by unfold fI at h ⊢;omega,?_⟩
 have:=of_decide_eq_true h3
 rw[Int.sub_zero] at this
 exact this
theorem validHB_iff {nm:ByteArray} {ht:Int} {ss:List HS} {rs:List Bm}:validHB (nm,ht,ss,rs)=true↔nameB nm=true∧1≤ht∧ht≤1048576∧ss.length≤60∧validG rs=true∧(∀s ∈ ss,setB s=true∧s.2.2.2.1≤ht)∧Uq ss:=by
 unfold validHB
 simp only[Bool.and_eq_true,Bool.not_eq_true',decide_eq_false_iff_not,List.all_eq_true,List.mem_range',decide_eq_true_eq,Nat.one_mul,Nat.zero_add]
 constructor
 ·rintro ⟨h1,h2,h3,h4,h5,h6⟩
  refine ⟨h1,by omega,by omega,by omega,h5,fun s hs=>?_,fun i hi=>?_⟩
  ·obtain ⟨i,hi,rfl⟩:=List.getElem_of_mem hs
   obtain ⟨g1,g2,_⟩:=h6 i ⟨i,hi,rfl⟩
   rw[getD_nat hi] at g1 g2
   exact ⟨g1,by omega⟩
  ·exact (h6 i ⟨i,hi,rfl⟩).2.2
 ·rintro ⟨h1,h2,h3,h4,h5,h6,h7⟩
  refine ⟨h1,by omega,by omega,by omega,h5,fun i hi=>?_⟩
  obtain ⟨_,hi,rfl⟩:=hi
  have:=h6 (ss.getD _ set0) (by rw[getD_nat hi];exact List.getElem_mem _)
  exact ⟨this.1,by omega,h7 _ hi⟩
end Go.Proofs.YtmoiiokmfanlgaaGreat

namespace Go.Proofs.YtmoiiokmfanlgaaGreat
open Tryz Dn Dn.Sh
abbrev h0:HH:=({ data:=#[] },(0:Int),[],[])
section
variable {nm:ByteArray} {ht:Int} {ss:List HS} {rs:List Bm} {s:HS}
end
end Go.Proofs.YtmoiiokmfanlgaaGreat

namespace Go.Proofs.YtmoiiokmfanlgaaGreat
open Tryz Dn Dn.Sh
def dk (ss:List HS) (k:Int):Int:=(ss.getD k.toNat set0).2.1
theorem set_depth {s:HS} (h:setB s=true):0≤s.2.1∧s.2.1≤1048576:=by
 unfold setB btw at h
 simp only[Bool.and_eq_true,decide_eq_true_eq] at h
 exact h.2.1
theorem set_items {s:HS} (h:setB s=true):∀x ∈ s.2.2.2.2.2.2.2.2.2.2.2.1,0≤x.2.2.2.2.2.1∧x.2.2.2.2.2.1≤1048576∧0≤x.2.2.2.2.2.2∧x.2.2.2.2.2.2≤1048576:=by
 intro x hx
 have h1:itemsB s.2.2.2.2.2.2.2.2.2.2.2.1 s.2.2.2.2.1=true:=by
  unfold setB at h
  simp only[Bool.and_eq_true] at h
  exact h.2.2.2.2.2.2.2.2.2.2.2.2.1
 unfold itemsB at h1
 simp only[Bool.and_eq_true,List.all_eq_true] at h1
 have h2:=h1.2.1 x hx
 unfold itemB btw at h2
 simp only[Bool.and_eq_true,decide_eq_true_eq] at h2
 obtain ⟨_,_,_,_,_,h3,h4⟩:=h2
 exact ⟨h3.1,h3.2,h4.1,h4.2⟩
theorem rowL_snoc {α:Type} {n:Nat} {f:Nat→α}:rowL (n+1) f=rowL n f++[f n]:=by
 unfold rowL
 rw[List.range_succ,List.map_append]
 rfl
theorem pred_wrap {i:Nat} (h0:1≤i) (h:i≤1000000):IntKind.wrap .i64 ((i:Int) - 1)=((i - 1:Nat):Int):=by rw[wrap_id (by omega) (by omega)];omega
section
variable {nm:ByteArray} {ht:Int} {ss:List HS} {rs:List Bm}
theorem order1_ok (hD:∀k,k<ss.length→0≤(ss.getD k set0).2.1∧(ss.getD k set0).2.1≤1048576) {a b:Int} (ha:0≤a∧a<ss.length) (hb:0≤b∧b<ss.length):house_Order_1 a b (nm,ht,ss,rs)=some (dk ss a - dk ss b):=by
 have d1:=hD a.toNat (by omega)
 have d2:=hD b.toNat (by omega)
 have e1:a<ss.length:=ha.2
 simp only[house_Order_1,house_Order_1_b,inB_of ha.1 ha.2,inB_of hb.1 hb.2,cT]
 show some (IntKind.wrap .i64 (dk ss a - dk ss b))=_
 unfold dk
 rw[wrap_id (by omega) (by omega)]
theorem insF_step {f:Nat→Int} {x:Int} {n i j:Nat} (hj:1≤j) (hi:j≤i) (hn:i<n):((rowL n (insF f x j i)).set j (f (j - 1))).set (j - 1) x=rowL n (insF f x (j - 1) i):=by
 rw[rowL_set (show j<n by omega),rowL_set (show j - 1<n by omega)]
 refine rowL_congr fun p hp=>?_
 unfold insF
 by_cases c1:p=j - 1
 ·rw[if_pos c1,if_neg (by omega),if_pos c1]
 ·rw[if_neg c1]
  by_cases c2:p=j
  ·rw[if_pos c2,if_neg (by omega),if_neg (by omega),if_pos (by omega),c2]
  ·rw[if_neg c2]
   by_cases c3:p<j
   ·rw[if_pos c3,if_pos (by omega)]
   ·rw[if_neg c3,if_neg c2,if_neg (show ¬ p<j - 1 by omega),if_neg c1]
theorem order_ok (hv:validHB (nm,ht,ss,rs)=true) (hl:ss.length≤19):house_Order (nm,ht,ss,rs)=some (ordL (dk ss) ss.length,(0:Int),PUnit.unit):=by
 obtain ⟨_,_,_,_,_,h6,_⟩:=validHB_iff.1 hv
 have hD:∀k,k<ss.length→0≤(ss.getD k set0).2.1∧(ss.getD k set0).2.1≤1048576:=fun k hk=>set_depth (h6 _ (by rw[getD_nat hk];exact List.getElem_mem _)).1
 have hcmp:=fun {a b:Int}=>order1_ok (nm:=nm) (ht:=ht) (rs:=rs) hD (a:=a) (b:=b)
 simp only[house_Order,house_Order_b,hValid_ok,hv,obN,Bool.not_true,cF]
 refine lpK_seqX ss.length (by omega) (fun i=>(rowL i (fun p=>(p:Int)),(i:Int),PUnit.unit)) _ rfl (fun again i hi=>?_) (fun again=>?_)
 ·simp only[decide_eq_true (show (i:Int)<ss.length by omega),cT,rowL_len,fitB_of (show (i+1)*8≤140737488355328 by omega),succ_wrap (show i≤1000000 by omega),rowL_snoc]
 ·simp only[decide_eq_false (show ¬ (ss.length:Int)<ss.length by omega),cF,rowL_len]
  refine lpK_seqX 0 (by omega) (fun _=>((0:Int),(20:Int),rowL ss.length (fun p=>(p:Int)),PUnit.unit)) _ rfl (fun _ i hi=>by omega) (fun again2=>?_)
  simp only[decide_eq_false (show ¬ (20:Int)≤ss.length by omega),cF]
  refine lpK_seqX (ss.length - 1) (by omega) (fun i=>(((i+1:Nat):Int),rowL ss.length (pf (dk ss) (i+1)),PUnit.unit)) _ ?_ (fun again3 i hi=>?_) (fun again3=>?_)
  ·have e:rowL ss.length (fun p=>(p:Int))=rowL ss.length (pf (dk ss) (0+1)):=rowL_congr fun p hp=>by
    show (p:Int)=insF _ _ _ _ _
    unfold insF
    rw[show kk (dk ss) (pf (dk ss) 0) ((0:Nat):Int) 0=0 from rfl]
    by_cases c:p=0
    ·rw[if_neg (by omega),if_pos c,c]
    ·rw[if_neg (show ¬ p<0 by omega),if_neg c,if_neg (show ¬ p≤0 by omega)]
   rw[e]
   rfl
  ·simp only[decide_eq_true (show ((i+1:Nat):Int)<ss.length by omega),cT]
   generalize hf:pf (dk ss) (i+1)=f
   have hkl:=kk_le (d:=dk ss) (f:=f) (x:=((i+1:Nat):Int)) (n:=i+1)
   have hrange:∀p,p<i+1→0≤f p∧f p<ss.length:=fun p hp=>by
    rw[←hf]
    have:=pf_range (d:=dk ss) (i:=i+1) (p:=p) hp
    omega
   have habove:∀p,i+1≤p→f p=p:=fun p hp=>by rw[←hf];exact pf_above hp
   refine lpK_seqX (i+1 - kk (dk ss) f ((i+1:Nat):Int) (i+1)) (by omega) (fun t=>(((i+1 - t:Nat):Int),rowL ss.length (insF f ((i+1:Nat):Int) (i+1 - t) (i+1)),PUnit.unit)) _ ?_ (fun again4 t ht=>?_) (fun again4=>?_)
   ·have e:rowL ss.length f=rowL ss.length (insF f ((i+1:Nat):Int) (i+1 - 0) (i+1)):=rowL_congr fun p hp=>by
     unfold insF
     by_cases c1:p<i+1
     ·rw[if_pos (by omega)]
     ·rw[if_neg (by omega),habove p (by omega)]
      by_cases c2:p=i+1
      ·rw[if_pos (by omega),c2]
      ·rw[if_neg (by omega),if_neg (by omega)]
    rw[e]
    rfl
   ·obtain ⟨j,hj⟩:∃j,i+1 - t=j:=⟨_,rfl⟩
    have hj1:1≤j:=by omega
    have hj2:j≤i+1:=by omega
    have hjk:kk (dk ss) f ((i+1:Nat):Int) (i+1)≤j - 1:=by omega
    rw[show i+1 - (t+1)=j - 1 by omega,hj]
    have g1:(rowL ss.length (insF f ((i+1:Nat):Int) j (i+1))).getD j 0=((i+1:Nat):Int):=by
     rw[rowL_get (by omega)];unfold insF;rw[if_neg (by omega),if_pos rfl]
    have g2:(rowL ss.length (insF f ((i+1:Nat):Int) j (i+1))).getD (j - 1) 0=f (j - 1):=by
     rw[rowL_get (by omega)];unfold insF;rw[if_pos (by omega)]
    have hlt:=kk_hi (d:=dk ss) (f:=f) (x:=((i+1:Nat):Int)) hjk (show j - 1<i+1 by omega)
    simp only[pred_wrap hj1 (show j≤1000000 by omega),Int.toNat_natCast,inB_nat,rowL_len,decide_eq_true (show j<ss.length by omega),decide_eq_true (show j - 1<ss.length by omega),decide_eq_true (show (j:Int)>0 by omega),ble_of (show Nat.succ j≤ss.length by omega),ble_of (show Nat.succ (j - 1)≤ss.length by omega),g1,g2,hcmp (a:=((i+1:Nat):Int)) (b:=f (j - 1)) (by omega) (hrange (j - 1) (by omega)),obN,decide_eq_true (show dk ss ((i+1:Nat):Int) - dk ss (f (j - 1))<0 by omega),Bool.not_true,Bool.or_true,Bool.and_self,cT,insF_step hj1 hj2 (show i+1<ss.length by omega)]
   ·obtain ⟨j,hj⟩:∃j,kk (dk ss) f ((i+1:Nat):Int) (i+1)=j:=⟨_,rfl⟩
    rw[show i+1 - (i+1 - kk (dk ss) f ((i+1:Nat):Int) (i+1))=j by omega]
    have e2:rowL ss.length (pf (dk ss) (i+1+1))=rowL ss.length (insF f ((i+1:Nat):Int) j (i+1)):=by
     rw[←hj,←hf]
     rfl
    rw[e2]
    by_cases c0:j=0
    ·subst c0
     simp only[decide_eq_false (show ¬ ((0:Nat):Int)>0 by omega),Bool.not_false,Bool.true_or,Bool.and_self,cT,cF,obN,succ_wrap (show i+1≤1000000 by omega)]
    ·have hj1:1≤j:=by omega
     have hst:=kk_stop (d:=dk ss) (f:=f) (x:=((i+1:Nat):Int)) (n:=i+1) (by omega)
     rw[hj] at hst
     have g1:(rowL ss.length (insF f ((i+1:Nat):Int) j (i+1))).getD j 0=((i+1:Nat):Int):=by
      rw[rowL_get (by omega)];unfold insF;rw[if_neg (by omega),if_pos rfl]
     have g2:(rowL ss.length (insF f ((i+1:Nat):Int) j (i+1))).getD (j - 1) 0=f (j - 1):=by
      rw[rowL_get (by omega)];unfold insF;rw[if_pos (by omega)]
     simp only[pred_wrap hj1 (show j≤1000000 by omega),Int.toNat_natCast,inB_nat,rowL_len,decide_eq_true (show j<ss.length by omega),decide_eq_true (show j - 1<ss.length by omega),decide_eq_true (show (j:Int)>0 by omega),ble_of (show Nat.succ j≤ss.length by omega),ble_of (show Nat.succ (j - 1)≤ss.length by omega),g1,g2,hcmp (a:=((i+1:Nat):Int)) (b:=f (j - 1)) (by omega) (hrange (j - 1) (by omega)),obN,decide_eq_false (show ¬ dk ss ((i+1:Nat):Int) - dk ss (f (j - 1))<0 by omega),Bool.not_true,Bool.or_true,Bool.and_self,cT,cF,succ_wrap (show i+1≤1000000 by omega)]
  ·simp only[decide_eq_false (show ¬ ((ss.length - 1+1:Nat):Int)<ss.length by omega),cF]
   refine lpK_seqX 0 (by omega) (fun _=>((20:Int),PUnit.unit)) _ rfl (fun _ i hi=>by omega) (fun again5=>?_)
   simp only[decide_eq_false (show ¬ (20:Int)<ss.length by omega),cF]
   by_cases c:ss.length=0
   ·rw[c];rfl
   ·rw[show ss.length - 1+1=ss.length by omega]
    rfl
end
end Go.Proofs.YtmoiiokmfanlgaaGreat

namespace Go.Proofs.YtmoiiokmfanlgaaGreat
open Tryz Dn Dn.Sh
def mxF (f:Itm→Int) (l:List Itm) (a:Int):Int:=l.foldl (fun n x=>if f x>n then f x else n) a
theorem mxF_ge {f:Itm→Int}:∀{l:List Itm} {a:Int},a≤mxF f l a∧∀x ∈ l,f x≤mxF f l a
 | [],a=>⟨Int.le_refl _,fun x hx=>by cases hx⟩
 | y ::l,a=>by
  obtain ⟨h1,h2⟩:=mxF_ge (f:=f) (l:=l) (a:=if f y>a then f y else a)
  have e:mxF f (y ::l) a=mxF f l (if f y>a then f y else a):=rfl
  have h3:a≤(if f y>a then f y else a)∧f y≤(if f y>a then f y else a):=by split<;>omega
  rw[e]
  refine ⟨Int.le_trans h3.1 h1,fun x hx=>?_⟩
  rcases List.mem_cons.1 hx with rfl | hx
  ·exact Int.le_trans h3.2 h1
  ·exact h2 x hx
theorem mxF_le {f:Itm→Int} {B:Int}:∀{l:List Itm} {a:Int},a≤B→(∀x ∈ l,f x≤B)→mxF f l a≤B
 | [],a,h,_=>h
 | y ::l,a,h,hl=>by
  have e:mxF f (y ::l) a=mxF f l (if f y>a then f y else a):=rfl
  rw[e]
  refine mxF_le ?_ fun x hx=>hl x (List.mem_cons_of_mem _ hx)
  have:=hl y (List.mem_cons_self ..)
  split<;>omega
theorem mxF_next {f:Itm→Int} {l:List Itm} {i:Nat} (h:i<l.length):mxF f (l.take (i+1)) 0=if f (l.getD i itm0)>mxF f (l.take i) 0 then f (l.getD i itm0) else mxF f (l.take i) 0:=by
 unfold mxF
 rw[←List.take_append_getElem h,List.foldl_append,getD_nat h]
 rfl
def frontI (s:HS):Int:=s.2.1+mxF (fun x=>x.2.2.2.2.2.1) s.2.2.2.2.2.2.2.2.2.2.2.1 0
def backI (s:HS):Int:=s.2.1 - mxF (fun x=>x.2.2.2.2.2.2) s.2.2.2.2.2.2.2.2.2.2.2.1 0
theorem front_bound {s:HS} (h:setB s=true):s.2.1≤frontI s∧frontI s≤2097152∧backI s≤s.2.1∧ -1048576≤backI s:=by
 have h1:=set_depth h
 have h2:=set_items h
 have g1:=(mxF_ge (f:=fun x=>x.2.2.2.2.2.1) (l:=s.2.2.2.2.2.2.2.2.2.2.2.1) (a:=0)).1
 have g2:=(mxF_ge (f:=fun x=>x.2.2.2.2.2.2) (l:=s.2.2.2.2.2.2.2.2.2.2.2.1) (a:=0)).1
 have g3:=mxF_le (f:=fun x=>x.2.2.2.2.2.1) (l:=s.2.2.2.2.2.2.2.2.2.2.2.1) (a:=0) (B:=1048576) (by omega) fun x hx=>(h2 x hx).2.1
 have g4:=mxF_le (f:=fun x=>x.2.2.2.2.2.2) (l:=s.2.2.2.2.2.2.2.2.2.2.2.1) (a:=0) (B:=1048576) (by omega) fun x hx=>(h2 x hx).2.2.2
 unfold frontI backI
 omega
theorem front_ok {s:HS} (h:setB s=true) (hl:s.2.2.2.2.2.2.2.2.2.2.2.1.length≤1000000):house_front s=some (frontI s):=by
 have hb:=front_bound h
 have hd:=set_depth h
 simp only[house_front,house_front_b]
 refine lpK_seqX s.2.2.2.2.2.2.2.2.2.2.2.1.length (by omega) (fun i=>(mxF (fun x=>x.2.2.2.2.2.1) (s.2.2.2.2.2.2.2.2.2.2.2.1.take i) 0,(i:Int),PUnit.unit)) _ rfl (fun again i hi=>?_) (fun again=>?_)
 ·simp only[decide_eq_true (show (i:Int)<s.2.2.2.2.2.2.2.2.2.2.2.1.length by omega),inB_nat,decide_eq_true hi,cT,Int.toNat_natCast,succ_wrap (show i≤1000000 by omega),mxF_next hi]
 ·simp only[decide_eq_false (show ¬ (s.2.2.2.2.2.2.2.2.2.2.2.1.length:Int)<s.2.2.2.2.2.2.2.2.2.2.2.1.length by omega),cF,List.take_length]
  show some (IntKind.wrap .i64 (frontI s))=_
  rw[wrap_id (by omega) (by omega)]
theorem back_ok {s:HS} (h:setB s=true) (hl:s.2.2.2.2.2.2.2.2.2.2.2.1.length≤1000000):house_back s=some (backI s):=by
 have hb:=front_bound h
 have hd:=set_depth h
 simp only[house_back,house_back_b]
 refine lpK_seqX s.2.2.2.2.2.2.2.2.2.2.2.1.length (by omega) (fun i=>(mxF (fun x=>x.2.2.2.2.2.2) (s.2.2.2.2.2.2.2.2.2.2.2.1.take i) 0,(i:Int),PUnit.unit)) _ rfl (fun again i hi=>?_) (fun again=>?_)
 ·simp only[decide_eq_true (show (i:Int)<s.2.2.2.2.2.2.2.2.2.2.2.1.length by omega),inB_nat,decide_eq_true hi,cT,Int.toNat_natCast,succ_wrap (show i≤1000000 by omega),mxF_next hi]
 ·simp only[decide_eq_false (show ¬ (s.2.2.2.2.2.2.2.2.2.2.2.1.length:Int)<s.2.2.2.2.2.2.2.2.2.2.2.1.length by omega),cF,List.take_length]
  show some (IntKind.wrap .i64 (backI s))=_
  rw[wrap_id (by omega) (by omega)]
theorem index46_ok {l:List Int} {x:Int} (hl:l.length≤1000000):slices_Index_46 l x=some (idxI (fun y=>decide (x=y)) l 0):=by
 simp only[slices_Index_46,slices_Index_46_b]
 exact find_loop (p:=fun y:Int=>decide (x=y)) (d:=(0:Int)) hl
theorem ord_len {d:Int→Int} {n:Nat}:(ordL d n).length=n:=rowL_len
theorem ord_get {d:Int→Int} {n p:Nat} (h:p<n):(ordL d n).getD p 0=pf d n p:=rowL_get h
theorem ord_idx {d:Int→Int} {n p:Nat} (h:p<n):idxI (fun y=>decide (pf d n p=y)) (ordL d n) 0=(p:Int):=by
 rw[idxI_first (d:=(0:Int)) (k:=p) (by rw[ord_len];exact h) (by rw[ord_get h];exact decide_eq_true rfl) fun j hj=>by
  rw[ord_get (by omega)]
  exact decide_eq_false fun e=>by have:=pf_inj h (show j<n by omega) e;omega]
 omega
section
variable {nm:ByteArray} {ht:Int} {ss:List HS} {rs:List Bm}
theorem gap_ok (hv:validHB (nm,ht,ss,rs)=true) (hl:ss.length≤19) (hit:∀s ∈ ss,s.2.2.2.2.2.2.2.2.2.2.2.1.length≤1000000) {i k:Nat} (hi:i<ss.length) (hk:k<ss.length) (hlex:Lex (dk ss) i k) :
  house_Gap (nm,ht,ss,rs) (ss.getD i set0).1 (ss.getD k set0).1=some (backI (ss.getD k set0) - frontI (ss.getD i set0),(0:Int),PUnit.unit) ∧
  house_Gap (nm,ht,ss,rs) (ss.getD k set0).1 (ss.getD i set0).1=some (backI (ss.getD k set0) - frontI (ss.getD i set0),(0:Int),PUnit.unit):=by
 obtain ⟨_,_,_,_,_,h6,hu⟩:=validHB_iff.1 hv
 have hfind:∀j,j<ss.length→house_find (nm,ht,ss,rs) (ss.getD j set0).1=some (j:Int):=fun j hj=>by
  rw[find_ok _ _ (show ss.length≤1000000 by omega)]
  exact congrArg some (hu j hj)
 have hmem:∀j,j<ss.length→ss.getD j set0 ∈ ss:=fun j hj=>by rw[getD_nat hj];exact List.getElem_mem _
 obtain ⟨p,hp,ep⟩:=pf_onto (d:=dk ss) hi
 obtain ⟨q,hq,eq⟩:=pf_onto (d:=dk ss) hk
 have hpq:p<q:=(pf_lt hp hq).2 (by rw[ep,eq];exact hlex)
 have hidx:∀{j p:Nat},p<ss.length→pf (dk ss) ss.length p=(j:Int)→slices_Index_46 (ordL (dk ss) ss.length) (j:Int)=some (p:Int):=fun {j p} h e=>by
  rw[index46_ok (by rw[ord_len];omega),←e,ord_idx h]
 have hne:i≠k:=fun e=>by rw[e] at hlex;exact hlex.irr
 have b1:=front_bound (h6 _ (hmem i hi)).1
 have b2:=front_bound (h6 _ (hmem k hk)).1
 have d1:=set_depth (h6 _ (hmem i hi)).1
 have d2:=set_depth (h6 _ (hmem k hk)).1
 have hw:IntKind.wrap .i64 (backI (ss.getD k set0) - frontI (ss.getD i set0))=backI (ss.getD k set0) - frontI (ss.getD i set0):=by rw[wrap_id (by omega) (by omega)]
 have e1:∀e0:Bool,(!e0||e0)=true:=fun e0=>by cases e0<;>rfl
 have e2:∀e0:Bool,(e0||!e0)=true:=fun e0=>by cases e0<;>rfl
 constructor
 ·simp only[house_Gap,house_Gap_b,order_ok hv hl,obN,decide_true,Bool.not_true,cF,hfind i hi,hfind k hk,e1,e2,cT,decide_eq_false (show ¬ (i:Int)<0 by omega),decide_eq_false (show ¬ (k:Int)<0 by omega),decide_eq_false (show ¬ (i:Int)=k by omega),inB_nat,decide_eq_true hi,decide_eq_true hk,hidx hp ep,hidx hq eq,decide_eq_false (show ¬ (p:Int)>q by omega),Int.toNat_natCast,back_ok (h6 _ (hmem k hk)).1 (hit _ (hmem k hk)),front_ok (h6 _ (hmem i hi)).1 (hit _ (hmem i hi)),hw]
 ·simp only[house_Gap,house_Gap_b,order_ok hv hl,obN,decide_true,Bool.not_true,cF,hfind i hi,hfind k hk,e1,e2,cT,decide_eq_false (show ¬ (i:Int)<0 by omega),decide_eq_false (show ¬ (k:Int)<0 by omega),decide_eq_false (show ¬ (k:Int)=i by omega),inB_nat,decide_eq_true hi,decide_eq_true hk,hidx hp ep,hidx hq eq,decide_eq_true (show (q:Int)>p by omega),Int.toNat_natCast,back_ok (h6 _ (hmem k hk)).1 (hit _ (hmem k hk)),front_ok (h6 _ (hmem i hi)).1 (hit _ (hmem i hi)),hw]
end
end Go.Proofs.YtmoiiokmfanlgaaGreat

namespace Go.Proofs.YtmoiiokmfanlgaaGreat
open Tryz Dn Dn.Sh
theorem rowL_append {α:Type} {f:Nat→α} {a:Nat}:∀{b:Nat},rowL (a+b) f=rowL a f++rowL b (fun k=>f (a+k))
 | 0=>by
  show rowL a f=rowL a f++[]
  rw[List.append_nil]
 | b+1=>by
  rw[←Nat.add_assoc,rowL_snoc,rowL_append (b:=b),rowL_snoc,List.append_assoc]
theorem rowL_ins {f:Nat→Int} {x:Int} {i j:Nat} (h:j≤i):(rowL i f).take j++[x]++(rowL i f).drop j=rowL (i+1) (insF f x j i):=by
 obtain ⟨m,rfl⟩:∃m,i=j+m:=⟨i - j,by omega⟩
 have hl:(rowL j f).length=j:=rowL_len
 rw[rowL_append (a:=j) (b:=m),List.take_left' hl,List.drop_left' hl,show j+m+1=j+(m+1) by omega,rowL_append (a:=j) (b:=m+1),show m+1=1+m by omega,rowL_append (a:=1) (b:=m),List.append_assoc]
 congr 1
 ·refine rowL_congr fun p hp=>?_
  unfold insF
  rw[if_pos hp]
 ·congr 1
  ·show [x]=[insF f x j (j+m) (j+0)]
   unfold insF
   rw[if_neg (by omega),if_pos (by omega)]
  ·refine rowL_congr fun p hp=>?_
   unfold insF
   rw[if_neg (by omega),if_neg (by omega),if_pos (by omega),show j+(1+p) - 1=j+p by omega]
theorem rfront_ok {s:HS} (h:setB s=true) (hl:s.2.2.2.2.2.2.2.2.2.2.2.1.length≤1000000):ref30_Front s=some (frontI s):=by
 have hb:=front_bound h
 have hd:=set_depth h
 simp only[ref30_Front,ref30_Front_b]
 refine lpK_seqX s.2.2.2.2.2.2.2.2.2.2.2.1.length (by omega) (fun i=>(mxF (fun x=>x.2.2.2.2.2.1) (s.2.2.2.2.2.2.2.2.2.2.2.1.take i) 0,(i:Int),PUnit.unit)) _ rfl (fun again i hi=>?_) (fun again=>?_)
 ·simp only[decide_eq_true (show (i:Int)<s.2.2.2.2.2.2.2.2.2.2.2.1.length by omega),inB_nat,decide_eq_true hi,cT,Int.toNat_natCast,succ_wrap (show i≤1000000 by omega),mxF_next hi]
  by_cases c:(s.2.2.2.2.2.2.2.2.2.2.2.1.getD i itm0).2.2.2.2.2.1>mxF (fun x=>x.2.2.2.2.2.1) (s.2.2.2.2.2.2.2.2.2.2.2.1.take i) 0
  ·rw[decide_eq_true c,cT,if_pos c]
  ·rw[decide_eq_false c,cF,if_neg c]
 ·simp only[decide_eq_false (show ¬ (s.2.2.2.2.2.2.2.2.2.2.2.1.length:Int)<s.2.2.2.2.2.2.2.2.2.2.2.1.length by omega),cF,List.take_length]
  show some (IntKind.wrap .i64 (frontI s))=_
  rw[wrap_id (by omega) (by omega)]
theorem rback_ok {s:HS} (h:setB s=true) (hl:s.2.2.2.2.2.2.2.2.2.2.2.1.length≤1000000):ref30_Back s=some (backI s):=by
 have hb:=front_bound h
 have hd:=set_depth h
 simp only[ref30_Back,ref30_Back_b]
 refine lpK_seqX s.2.2.2.2.2.2.2.2.2.2.2.1.length (by omega) (fun i=>(mxF (fun x=>x.2.2.2.2.2.2) (s.2.2.2.2.2.2.2.2.2.2.2.1.take i) 0,(i:Int),PUnit.unit)) _ rfl (fun again i hi=>?_) (fun again=>?_)
 ·simp only[decide_eq_true (show (i:Int)<s.2.2.2.2.2.2.2.2.2.2.2.1.length by omega),inB_nat,decide_eq_true hi,cT,Int.toNat_natCast,succ_wrap (show i≤1000000 by omega),mxF_next hi]
  by_cases c:(s.2.2.2.2.2.2.2.2.2.2.2.1.getD i itm0).2.2.2.2.2.2>mxF (fun x=>x.2.2.2.2.2.2) (s.2.2.2.2.2.2.2.2.2.2.2.1.take i) 0
  ·rw[decide_eq_true c,cT,if_pos c]
  ·rw[decide_eq_false c,cF,if_neg c]
 ·simp only[decide_eq_false (show ¬ (s.2.2.2.2.2.2.2.2.2.2.2.1.length:Int)<s.2.2.2.2.2.2.2.2.2.2.2.1.length by omega),cF,List.take_length]
  show some (IntKind.wrap .i64 (backI s))=_
  rw[wrap_id (by omega) (by omega)]
section
variable {nm:ByteArray} {ht:Int} {ss:List HS} {rs:List Bm}
theorem rorder_ok (hl:ss.length≤19):ref30_Order (nm,ht,ss,rs)=some (ordL (dk ss) ss.length):=by
 have e1:∀e0:Bool,(!e0||e0)=true:=fun e0=>by cases e0<;>rfl
 simp only[ref30_Order,ref30_Order_b]
 refine lpK_seqX ss.length (by omega) (fun i=>(ordL (dk ss) i,(i:Int),PUnit.unit)) _ rfl (fun again i hi=>?_) (fun again=>?_)
 ·have hkl:=kk_le (d:=dk ss) (f:=pf (dk ss) i) (x:=(i:Int)) (n:=i)
  have hdk:∀k:Nat,dk ss k=(ss.getD k set0).2.1:=fun k=>by unfold dk;rw[Int.toNat_natCast]
  have hrange:∀p,p<i→∃c:Nat,pf (dk ss) i p=(c:Int)∧c<ss.length:=fun p hp=>by
   have:=pf_range (d:=dk ss) hp
   exact ⟨(pf (dk ss) i p).toNat,by omega,by omega⟩
  simp only[decide_eq_true (show (i:Int)<ss.length by omega),cT]
  refine lpK_seqX (i - kk (dk ss) (pf (dk ss) i) i i) (by omega) (fun t=>(((i - t:Nat):Int),PUnit.unit)) _ (by rw[ord_len];rfl) (fun again2 t ht=>?_) (fun again2=>?_)
  ·obtain ⟨j,hj⟩:∃j,i - t=j:=⟨_,rfl⟩
   rw[show i - (t+1)=j - 1 by omega,hj]
   obtain ⟨c,hc,hcn⟩:=hrange (j - 1) (by omega)
   have hlt:=kk_hi (d:=dk ss) (f:=pf (dk ss) i) (x:=(i:Int)) (p:=j - 1) (n:=i) (by omega) (by omega)
   rw[hc,hdk,hdk] at hlt
   simp only[pred_wrap (show 1≤j by omega) (show j≤1000000 by omega),Int.toNat_natCast,inB_nat,ord_len,decide_eq_true (show j - 1<i by omega),ord_get (show j - 1<i by omega),hc,decide_eq_true hcn,decide_eq_true hi,decide_eq_true (show (j:Int)>0 by omega),ble_of (show Nat.succ (j - 1)≤i by omega),e1,Bool.and_self,cT,decide_eq_true (show (ss.getD c set0).2.1>(ss.getD i set0).2.1 by omega)]
  ·obtain ⟨j,hj⟩:∃j,kk (dk ss) (pf (dk ss) i) i i=j:=⟨_,rfl⟩
   rw[show i - (i - kk (dk ss) (pf (dk ss) i) i i)=j by omega]
   have hins:List.drop 0 (List.take j (ordL (dk ss) i))++[(i:Int)]++List.drop j (List.take i (ordL (dk ss) i))=ordL (dk ss) (i+1):=by
    rw[List.drop_zero,show List.take i (ordL (dk ss) i)=ordL (dk ss) i from List.take_of_length_le (by rw[ord_len];omega)]
    show (rowL i (pf (dk ss) i)).take j++[(i:Int)]++(rowL i (pf (dk ss) i)).drop j=rowL (i+1) (insF (pf (dk ss) i) i (kk (dk ss) (pf (dk ss) i) i i) i)
    rw[hj]
    exact rowL_ins (by omega)
   have hfits:fitB ((0:Nat)+(List.drop 0 (List.take j (ordL (dk ss) i))).length) 8=true:=fitB_of (by rw[List.drop_zero,List.length_take,ord_len];omega)
   have hfits2:fitB ((List.drop 0 (List.take j (ordL (dk ss) i))).length+1) 8=true:=fitB_of (by rw[List.drop_zero,List.length_take,ord_len];omega)
   have hfits3:fitB ((List.drop 0 (List.take j (ordL (dk ss) i))++[(i:Int)]).length+(List.drop j (List.take i (ordL (dk ss) i))).length) 8=true:=fitB_of (by rw[List.length_append,List.drop_zero,List.length_take,List.length_drop,List.length_take,ord_len];simp;omega)
   have hs1:slB (0:Int) (j:Int) i=true:=slB_of (by omega) (by omega) (by omega)
   have hs2:slB (j:Int) (i:Int) i=true:=slB_of (by omega) (by omega) (by omega)
   by_cases c0:j=0
   ·subst c0
    simp only[decide_eq_false (show ¬ ((0:Nat):Int)>0 by omega),Bool.not_false,Bool.true_or,Bool.and_self,cT,cF,ord_len,Int.toNat_natCast,hs1,hs2,hfits,hfits2,hfits3,ble_of (show 0≤i by omega),ble_of (Nat.le_refl i),hins,succ_wrap (show i≤1000000 by omega)]
   ·obtain ⟨c,hc,hcn⟩:=hrange (j - 1) (by omega)
    have hst:=kk_stop (d:=dk ss) (f:=pf (dk ss) i) (x:=(i:Int)) (n:=i) (by omega)
    rw[hj,hc,hdk,hdk] at hst
    simp only[pred_wrap (show 1≤j by omega) (show j≤1000000 by omega),Int.toNat_natCast,inB_nat,ord_len,decide_eq_true (show j - 1<i by omega),ord_get (show j - 1<i by omega),hc,decide_eq_true hcn,decide_eq_true hi,decide_eq_true (show (j:Int)>0 by omega),ble_of (show Nat.succ (j - 1)≤i by omega),e1,Bool.and_self,cT,cF,decide_eq_false (show ¬ (ss.getD c set0).2.1>(ss.getD i set0).2.1 by omega),hs1,hs2,hfits,hfits2,hfits3,ble_of (show j≤i by omega),ble_of (Nat.le_refl i),hins,succ_wrap (show i≤1000000 by omega)]
 ·simp only[decide_eq_false (show ¬ (ss.length:Int)<ss.length by omega),cF]
theorem gap_same (hl:ss.length≤19) (hit:∀s ∈ ss,s.2.2.2.2.2.2.2.2.2.2.2.1.length≤1000000) {a b:ByteArray}:∃n e,house_Gap (nm,ht,ss,rs) a b=some (n,e,PUnit.unit)∧ref30_Gap (nm,ht,ss,rs) a b=some (n,e,PUnit.unit):=by
 have e1:∀e0:Bool,(!e0||e0)=true:=fun e0=>by cases e0<;>rfl
 have e2:∀e0:Bool,(e0||!e0)=true:=fun e0=>by cases e0<;>rfl
 have hRv:=hRefValid_ok (nm,ht,ss,rs) hit
 cases hv:validHB (nm,ht,ss,rs) with
 | false =>
  rw[hv] at hRv
  exact ⟨0,1,by simp only[house_Gap,house_Gap_b,house_Order,house_Order_b,hValid_ok,hv,obN,Bool.not_false,cT,decide_eq_false (show ¬ (1:Int)=0 by omega)],by simp only[ref30_Gap,ref30_Gap_b,hRv,obN,Bool.not_false,cT]⟩
 | true =>
  rw[hv] at hRv
  obtain ⟨_,_,_,_,_,h6,hu⟩:=validHB_iff.1 hv
  have hfind:∀n,house_find (nm,ht,ss,rs) n=some (fI ss n):=fun n=>find_ok _ _ (show ss.length≤1000000 by omega)
  have hfindR:∀n,ref30_FindSet (nm,ht,ss,rs) n=some (fI ss n):=fun n=>findSet_ok _ _ (show ss.length≤1000000 by omega)
  by_cases ci:fI ss a<0
  ·exact ⟨0,9,by simp only[house_Gap,house_Gap_b,order_ok hv hl,obN,decide_true,Bool.not_true,cF,hfind,e1,e2,cT,decide_eq_true ci],by simp only[ref30_Gap,ref30_Gap_b,hRv,obN,Bool.not_true,cF,hfindR,e1,e2,cT,decide_eq_true ci]⟩
  by_cases ck:fI ss b<0
  ·exact ⟨0,9,by simp only[house_Gap,house_Gap_b,order_ok hv hl,obN,decide_true,Bool.not_true,cF,hfind,e1,e2,cT,decide_eq_false ci,decide_eq_true ck],by simp only[ref30_Gap,ref30_Gap_b,hRv,obN,Bool.not_true,cF,hfindR,e1,e2,cT,decide_eq_false ci,decide_eq_true ck,Bool.or_true]⟩
  obtain ⟨i1,i2⟩:=fI_at (show 0≤fI ss a by omega)
  obtain ⟨k1,k2⟩:=fI_at (show 0≤fI ss b by omega)
  obtain ⟨i,hi⟩:∃i:Nat,fI ss a=(i:Int):=⟨(fI ss a).toNat,by omega⟩
  obtain ⟨k,hk⟩:∃k:Nat,fI ss b=(k:Int):=⟨(fI ss b).toNat,by omega⟩
  rw[hi,Int.toNat_natCast] at i1 i2
  rw[hk,Int.toNat_natCast] at k1 k2
  have hmem:∀j,j<ss.length→ss.getD j set0 ∈ ss:=fun j hj=>by rw[getD_nat hj];exact List.getElem_mem _
  have hF:∀j,j<ss.length→ref30_Front (ss.getD j set0)=some (frontI (ss.getD j set0)):=fun j hj=>rfront_ok (h6 _ (hmem j hj)).1 (hit _ (hmem j hj))
  have hB:∀j,j<ss.length→ref30_Back (ss.getD j set0)=some (backI (ss.getD j set0)):=fun j hj=>rback_ok (h6 _ (hmem j hj)).1 (hit _ (hmem j hj))
  have hw:∀x y,x<ss.length→y<ss.length→IntKind.wrap .i64 (backI (ss.getD x set0) - frontI (ss.getD y set0))=backI (ss.getD x set0) - frontI (ss.getD y set0):=fun x y hx hy=>by
   have b1:=front_bound (h6 _ (hmem x hx)).1
   have b2:=front_bound (h6 _ (hmem y hy)).1
   have d1:=set_depth (h6 _ (hmem x hx)).1
   have d2:=set_depth (h6 _ (hmem y hy)).1
   rw[wrap_id (by omega) (by omega)]
  have hd:∀j:Nat,dk ss j=(ss.getD j set0).2.1:=fun j=>by unfold dk;rw[Int.toNat_natCast]
  by_cases ce:i=k
  ·subst ce
   exact ⟨0,10,by simp only[house_Gap,house_Gap_b,order_ok hv hl,obN,decide_true,Bool.not_true,cF,hfind,e1,e2,cT,hi,hk,decide_eq_false (show ¬ (i:Int)<0 by omega)],by simp only[ref30_Gap,ref30_Gap_b,hRv,obN,decide_true,Bool.not_true,cF,hfindR,e1,e2,cT,hi,hk,decide_eq_false (show ¬ (i:Int)<0 by omega),Bool.or_true]⟩
  ·have hlex:Lex (dk ss) i k∨Lex (dk ss) k i:=by
    unfold Lex
    omega
   rcases hlex with hlex | hlex
   ·obtain ⟨g1,_⟩:=gap_ok hv hl hit i1 k1 hlex
    rw[i2,k2] at g1
    refine ⟨_,_,g1,?_⟩
    have hsw:(bif decide ((ss.getD k set0).2.1<(ss.getD i set0).2.1) then true else bif decide ((ss.getD k set0).2.1=(ss.getD i set0).2.1) then decide ((k:Int)<i) else false)=false:=by
     unfold Lex at hlex
     rw[hd,hd] at hlex
     rw[decide_eq_false (show ¬ (ss.getD k set0).2.1<(ss.getD i set0).2.1 by omega),cF]
     by_cases c:(ss.getD k set0).2.1=(ss.getD i set0).2.1
     ·rw[decide_eq_true c,cT,decide_eq_false (by omega)]
     ·rw[decide_eq_false c,cF]
    simp only[ref30_Gap,ref30_Gap_b,hRv,obN,Bool.not_true,cF,hfindR,e1,e2,cT,hi,hk,decide_eq_false (show ¬ (i:Int)<0 by omega),decide_eq_false (show ¬ (k:Int)<0 by omega),decide_eq_false (show ¬ (i:Int)=k by omega),inB_nat,decide_eq_true i1,decide_eq_true k1,Int.toNat_natCast,Bool.or_true,Bool.and_self,Bool.not_not]
    generalize hx:decide ((ss.getD k set0).2.1<(ss.getD i set0).2.1)=bx at *
    generalize hy:decide ((ss.getD k set0).2.1=(ss.getD i set0).2.1)=bY at *
    cases bx
    ·rw[cF] at hsw
     cases bY<;>simp only[Bool.not_true,Bool.not_false,Bool.and_self,Bool.or_self,Bool.or_true,Bool.or_false,Bool.and_false,cT,cF,jnK,joinF,inB_nat,decide_eq_true i1,decide_eq_true k1,Int.toNat_natCast,hB k k1,hF i i1,obN,hw k i k1 i1] at hsw ⊢
     rw[hsw,cF]
    ·rw[cT] at hsw;cases hsw
   ·obtain ⟨_,g1⟩:=gap_ok hv hl hit k1 i1 hlex
    rw[i2,k2] at g1
    refine ⟨_,_,g1,?_⟩
    have hsw:(bif decide ((ss.getD k set0).2.1<(ss.getD i set0).2.1) then true else bif decide ((ss.getD k set0).2.1=(ss.getD i set0).2.1) then decide ((k:Int)<i) else false)=true:=by
     unfold Lex at hlex
     rw[hd,hd] at hlex
     by_cases c:(ss.getD k set0).2.1<(ss.getD i set0).2.1
     ·rw[decide_eq_true c,cT]
     ·rw[decide_eq_false c,cF,decide_eq_true (show (ss.getD k set0).2.1=(ss.getD i set0).2.1 by omega),cT,decide_eq_true (by omega)]
    simp only[ref30_Gap,ref30_Gap_b,hRv,obN,Bool.not_true,cF,hfindR,e1,e2,cT,hi,hk,decide_eq_false (show ¬ (i:Int)<0 by omega),decide_eq_false (show ¬ (k:Int)<0 by omega),decide_eq_false (show ¬ (i:Int)=k by omega),inB_nat,decide_eq_true i1,decide_eq_true k1,Int.toNat_natCast,Bool.or_true,Bool.and_self,Bool.not_not]
    generalize hx:decide ((ss.getD k set0).2.1<(ss.getD i set0).2.1)=bx at *
    generalize hy:decide ((ss.getD k set0).2.1=(ss.getD i set0).2.1)=bY at *
    cases bx
    ·rw[cF] at hsw
     cases bY
     ·rw[cF] at hsw;cases hsw
     ·rw[cT] at hsw
      simp only[Bool.not_true,Bool.not_false,Bool.and_self,Bool.or_true,cT,cF,jnK,joinF,hsw,inB_nat,decide_eq_true i1,decide_eq_true k1,Int.toNat_natCast,hB i i1,hF k k1,obN,hw i k i1 k1]
    ·simp only[Bool.not_true,Bool.and_self,Bool.or_self,Bool.or_true,Bool.or_false,Bool.false_and,cT,jnK,joinF,inB_nat,decide_eq_true i1,decide_eq_true k1,Int.toNat_natCast,hB i i1,hF k k1,obN,hw i k i1 k1]
end
end Go.Proofs.YtmoiiokmfanlgaaGreat

namespace Go.Proofs.YtmoiiokmfanlgaaGreat
open Tryz Dn Dn.Sh
set_option maxRecDepth 10000 in
theorem lawFinds (h:HH) (a b:ByteArray):law30_HouseFinds h a b=some true:=by
 have e1:∀e0:Bool,(!e0||e0)=true:=fun e0=>by cases e0<;>rfl
 have e2:∀e0:Bool,(e0||!e0)=true:=fun e0=>by cases e0<;>rfl
 obtain ⟨nm,ht,ss,rs⟩:=h
 simp only[law30_HouseFinds,law30_HouseFinds_b,awakeH_ok,smallH_ok,obN,Bool.not_true,cF,e1,e2,cT,Bool.and_self]
 cases hsm:smallHB (nm,ht,ss,rs) with
 | false=>simp only[Bool.not_false,cT]
 | true =>
  simp only[Bool.not_true,cF]
  generalize decide ((a.size:Int)>100)=b1
  generalize decide ((b.size:Int)>100)=b2
  cases b1 with
  | true=>simp only[cT]
  | false =>
   cases b2 with
   | true=>simp only[cT,cF]
   | false =>
    simp only[cF]
    obtain ⟨l1,l2,l3⟩:=small_len hsm
    simp only at l1 l2 l3
    have hit:∀s ∈ ss,s.2.2.2.2.2.2.2.2.2.2.2.1.length≤1000000:=fun s hs=>by have:=l3 s hs;omega
    have hl:ss.length≤19:=by omega
    obtain ⟨n,e,g1,g2⟩:=gap_same (nm:=nm) (ht:=ht) (rs:=rs) hl hit (a:=a) (b:=b)
    have hRv:=hRefValid_ok (nm,ht,ss,rs) hit
    have hfind:∀n,house_find (nm,ht,ss,rs) n=some (fI ss n):=fun n=>find_ok _ _ (show ss.length≤1000000 by omega)
    have hfindR:∀n,ref30_FindSet (nm,ht,ss,rs) n=some (fI ss n):=fun n=>findSet_ok _ _ (show ss.length≤1000000 by omega)
    simp only[g1,g2,hRv,obN,decide_true,Bool.not_true,cF]
    cases hv:validHB (nm,ht,ss,rs) with
    | false =>
     simp only[house_Find,house_Find_b,house_Order,house_Order_b,hValid_ok,hv,obN,Bool.not_false,cT]
     rfl
    | true =>
     have heq:slices_Equal_26 (ordL (dk ss) ss.length) (ordL (dk ss) ss.length)=some true:=by
      rw[equal26 (by rw[ord_len];omega),eqL_refl fun x _=>intE_refl x]
     simp only[house_Find,house_Find_b,hValid_ok,hv,hfind,hfindR,order_ok hv hl,rorder_ok hl,heq,obN,Bool.not_true,Bool.not_false,cT,cF,decide_true]
     by_cases c:fI ss a<0
     ·simp only[decide_eq_true c,cT]
      rfl
     ·simp only[decide_eq_false c,cF,decide_true,cT,obN]
end Go.Proofs.YtmoiiokmfanlgaaGreat
