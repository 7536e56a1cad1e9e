/- Elimination: the theory; a matrix beside a unit matrix, and its table. Elimination: what the program's function answers. Programs: the row that leaves, the sums of artificial rows, and the reduced costs. Programs: the sums of artificial rows, and the reduced costs. Programs: improving a table to the least value. Programs: finding a feasible basis. Programs: the first table. Programs: which programs fit. Programs: what Solve answers. Programs: what Farkas answers. The law ProgramForms. Programs: columns and right sides. Programs: the signs of multipliers. Programs: sums of columns below numbers; refutations. Programs: refutations, as the program tells them. Programs: refutations, as they are specified. Programs: refutations are the same in both programs. Programs: answers that are proved, in both programs. Programs: points, multipliers and refutations are those of the theory. Elimination: how great the numbers are, and what a finished table proves. Systems: their programs, as both programs make them. Null spaces: what a finished elimination says of the vectors that a matrix takes to 0; pivots depend on the null space alone. Null spaces of a matrix and of its columns: when the columns are independent, and which of them is redundant. The top: the matrix whose rows are the ropes. Systems: the law SlackPrograms. Programs: the sums of what the solver returns fit, so that its answers are accepted. Programs: what the solver says of a program; the law ProgramBeats. Programs, as they are specified: the layout of the table, and a step of it. Programs, as they are specified: steps until the last row has no negative number. Programs, as they are specified: artificial variables leave the basis. Programs, as they are specified: the first table. Programs, as they are specified: the least value. Programs: the law ProgramSolves. Systems: what the solver says of their programs. Systems: equilibria, as the program checks them. Systems: the law SlackHolds. Systems: the law SlackBounds. Systems: the law SlackLeast. Elimination: what linear.Solve answers. Systems: the law SlackOnly. The top: null vectors are found; the free motions are the modes. The top: redundant ropes. The top: the travel of a block: the speeds for a haul of 1. The top: quotients of fractions. The top: the unit system of a block; its advantages by forces and by travels are the same. The top: advantages by forces and by travels are the same. The top: tensions, taut tensions, and proofs. The top: ropes without losses. The top: the grips of a rope without losses are its pulls. The top: the free motions beside a hauled rope. The top: sums of products. The top: systems without losses. The top: what the null vectors that are found are. The top: the balance of a lossless system. The top: the first tension of a lossless system. The top: the first tension of a lossless system. The top: without losses the forces to raise and to lower are the tension of the hauled rope. The top: the statements are awake. The top: a tackle is understood from all sides. -/
import Derived.KernelRfl
import Derived.Test.YtlfdhaiigdllcaaGreatMgP
open Bool renaming and_self→h_,not_false→e_,not_true→bt,or_true→p_
open Go.IntKind renaming wrap→aQ
open Int renaming le_refl→pH,le_trans→nE,mul_assoc→ld,mul_le_mul_of_nonneg_left→iD,mul_nonneg→ph,mul_zero→lT,natCast_mul→iS,toNat→aS
open List renaming all_eq_true→mv,append_nil→gO,getD→aT,getD_eq_getElem?_getD→c_,getElem?_append_left→o_,getElem?_append_right→mT,getElem?_eq_none→m_,getElem_mem→eX,length→aq,length_append→cL,length_cons→j_,length_drop→l_,length_map→iN,length_range→pI,length_replicate→q_,length_set→oN,length_take→b_,range'→rD,replicate→bx,set→iF,take→n_,take_of_length_le→oK
open Nat renaming add_zero→lE,ble→cl,gcd→f_,le_refl→bY,lt_of_lt_of_le→fD,succ→bT,zero_add→d_
open PUnit renaming unit→aC
open Prod.mk renaming injEq→dO
open Rat renaming intCast_mul→oF

namespace Go.Proofs.YtlfdhaiigdllcaaGreat
open Tryz Dn Dn.Sh
def om (w:Nat) (N:Nat->Nat->Int):Nat->Nat->Int:=fun i j=>if j<w then N i j else if j=w+i then 1 else 0
section
variable {m w:Nat} {a b:Nat}
theorem Xf {f:Nat->Int} (ha:a<m) (hb:b<m) (hab:a≠b):sz m (fun i=>f (swp a b i))=sz m f:=by
 have e:sz m (fun i=>f (swp a b i))=sz m fun i=>f i+((if i=a then f b - f a else 0)+(if i=b then f a - f b else 0)):=bO fun i hi=>by
  unfold swp
  by_cases h1:i=a
  ·subst h1
   rw[if_pos rfl,if_pos rfl,if_neg hab]
   omega
  ·rw[if_neg h1,if_neg h1]
   by_cases h2:i=b
   ·subst h2
    rw[if_pos rfl,if_pos rfl]
    omega
   ·rw[if_neg h2,if_neg h2]
    omega
 rw[e,rN,rN,ia ha (f:=fun i=>if i=a then f b - f a else 0) (fun i _ hne=>if_neg hne),ia hb (f:=fun i=>if i=b then f a - f b else 0) (fun i _ hne=>if_neg hne)]
 simp only[if_true]
 omega
theorem OY {M:Nat->Nat->Int} {γ:Nat->Nat} (ha:a<m) (hb:b<m) (hab:a≠b):dc m M (fun k=>γ (swp a b k))= - dc m M γ:=by
 have e1:fp M (fun k=>γ (swp a b k))=cO (cO (fp M γ) a fun i=>M i (γ b)) b fun i=>M i (γ a):=by
  funext i k
  show M i (γ (if k=a then b else if k=b then a else k))=if k=b then M i (γ a) else if k=a then M i (γ b) else M i (γ k)
  by_cases h1:k=b
  ·subst h1
   rw[if_neg (Ne.symm hab),if_pos rfl,if_pos rfl]
  ·rw[if_neg h1,if_neg h1]
   by_cases h2:k=a
   ·rw[if_pos h2,if_pos h2]
   ·rw[if_neg h2,if_neg h2]
 have e2:fp M γ=cO (cO (fp M γ) a fun i=>M i (γ a)) b fun i=>M i (γ b):=by
  funext i k
  show M i (γ k)=if k=b then M i (γ b) else if k=a then M i (γ a) else M i (γ k)
  by_cases h1:k=b
  ·rw[if_pos h1,h1]
  ·rw[if_neg h1]
   by_cases h2:k=a
   ·rw[if_pos h2,h2]
   ·rw[if_neg h2]
 have e3:det m (fp M γ)=det m (cO (cO (fp M γ) a fun i=>M i (γ a)) b fun i=>M i (γ b)):=by rw[<-e2]
 unfold dc
 rw[e1,H9 ha hb hab,e3]
theorem Dn.Tb.swap {W:Nat} {M T:Nat->Nat->Int} {d:Int} {β:Nat->Nat} (h:Tb m W M T d β) (ha:a<m) (hb:b<m) (hab:a≠b):Tb m W M (fun i=>T (swp a b i)) d (fun i=>β (swp a b i)):=by
 refine ⟨h.dpos,fun i hi=>h.lt _ (uK ha hb hi),fun k hk j hj=>?_,?_⟩
 ·rw[Xf (f:=fun i=>T i j*M k (β i)) ha hb hab]
  exact h.co k hk j hj
 ·obtain ⟨σ,h1,h2,h3⟩:=h.cr
  refine ⟨-σ,by rw[Int.neg_mul_neg];exact h1,by rw[OY ha hb hab,Int.neg_mul_neg];exact h2,fun i hi j hj=>?_⟩
  have e:upd (fun i=>β (swp a b i)) i j=fun k=>upd β (swp a b i) j (swp a b k):=by
   funext k
   unfold upd
   by_cases c:k=i
   ·rw[if_pos c,c,if_pos rfl]
   ·rw[if_neg c,if_neg fun h=>c (by rw[<-A4 a b k,h,A4])]
  rw[e,OY ha hb hab,Int.neg_mul_neg]
  exact h3 _ (uK ha hb hi) j hj
end
structure ElBnd (m w c:Nat) (N:Nat->Nat->Int):Prop where
 hm:1<=m/\m<=1000
 hw:w<=1000
 hc:c<=w
 b:∀T d β,Tb m (w+m) (om w N) T d β->(∀i,i<m->β i<c\/w<=β i)->∀i j,i<m->j<w+m->ab (T i j)<4611686018427387904
structure El (m w c:Nat) (N:Nat->Nat->Int) (C k:Nat) (p:Nat->Nat) (L:Nat->Nat->Int) (e:Int) (T:Nat->Nat->Int) (d:Int) (β:Nat->Nat) (s:Int):Prop where
 tb:Tb m (w+m) (om w N) T d β
 cc:C<=c
 s1:s=1\/s= -1
 le:∀i j,i<m->j<w->L i j=s*T i j
 de:e=s*d
 km:k<=m
 bp:∀i,i<k->β i=p i/\p i<C
 inc:∀i j,i<j->j<k->p i<p j
 bs:∀i,k<=i->i<m->w<=β i
 z:∀i j,k<=i->i<m->j<C->T i j=0
 ech:∀i j,i<k->j<p i->T i j=0
section
variable {m w c:Nat} {N:Nat->Nat->Int} {C k:Nat} {p:Nat->Nat} {L:Nat->Nat->Int} {e:Int} {T:Nat->Nat->Int} {d:Int} {β:Nat->Nat} {s:Int}
theorem El.first (_:m<=1000):El m w c N 0 0 (fun _=>0) N 1 (om w N) 1 (fun i=>w+i) 1:=by
 refine ⟨Tb.first (fun i hi=>by omega) (fun k hk i hi=>?_),Nat.zero_le _,.inl rfl,fun i j hi hj=>?_,rfl,Nat.zero_le _,fun i hi=>by omega,fun i j _ hj=>by omega,fun i _ _=>Nat.le_add_right _ _,fun i j _ _ hj=>by omega,fun i j hi=>by omega⟩
 ·unfold om
  rw[if_neg (by omega)]
  by_cases h:k=i
  ·rw[if_pos (by omega),if_pos h]
  ·rw[if_neg (by omega),if_neg h]
 ·unfold om
  rw[if_pos hj,Int.one_mul]
theorem El.swap (h:El m w c N C k p L e T d β s) {a b:Nat} (ha:k<=a/\a<m) (hb:k<=b/\b<m) (hab:a≠b):El m w c N C k p (fun i=>L (swp a b i)) e (fun i=>T (swp a b i)) d (fun i=>β (swp a b i)) s:=by
 have hs:∀i,i<k->swp a b i=i:=fun i hi=>by unfold swp;rw[if_neg (by omega),if_neg (by omega)]
 have hs2:∀i,k<=i->k<=swp a b i:=fun i hi=>by unfold swp;(repeat' split)<;>omega
 refine ⟨h.tb.swap ha.2 hb.2 hab,h.cc,h.s1,fun i j hi hj=>h.le _ j (uK ha.2 hb.2 hi) hj,h.de,h.km,fun i hi=>?_,h.inc,fun i h1 h2=>h.bs _ (hs2 i h1) (uK ha.2 hb.2 h2),fun i j h1 h2 h3=>h.z _ j (hs2 i h1) (uK ha.2 hb.2 h2) h3,fun i j h1 h2=>by show T (swp a b i) j=0;rw[hs i h1];exact h.ech i j h1 h2⟩
 show β (swp a b i)=p i/\_
 rw[hs i hi]
 exact h.bp i hi
theorem El.sne (h:El m w c N C k p L e T d β s):s*s=1:=by rcases h.s1 with h | h<;>rw[h]<;>rfl
theorem El.ene (h:El m w c N C k p L e T d β s):e≠0:=by
 have:=h.tb.dpos
 rw[h.de]
 rcases h.s1 with h | h<;>rw[h]<;>omega
theorem El.skip (h:El m w c N C k p L e T d β s) (hC:C<c) (hw:c<=w) (h0:∀i,k<=i->i<m->L i C=0):El m w c N (C+1) k p L e T d β s:=by
 refine ⟨h.tb,hC,h.s1,h.le,h.de,h.km,fun i hi=>⟨(h.bp i hi).1,by have:=(h.bp i hi).2;omega⟩,h.inc,h.bs,fun i j h1 h2 h3=>?_,h.ech⟩
 by_cases c:j=C
 ·subst c
  have h4:=h.le i j h2 (by omega)
  rw[h0 i h1 h2] at h4
  rcases h.s1 with h5 | h5<;>rw[h5] at h4<;>omega
 ·exact h.z i j h1 h2 (by omega)
def elq (L:Nat->Nat->Int) (e:Int) (r c i j:Nat):Int:=(L i j*L r c - L i c*L r j) / e
def elL (L:Nat->Nat->Int) (e:Int) (r c:Nat):Nat->Nat->Int:=fun i j=>if i=r then L r j else elq L e r c i j
theorem El.exact (h:El m w c N C k p L e T d β s) (hk:k<m) (hC:C<w) {i j:Nat} (hi:i<m) (hne:i≠k) (hj:j<w) :
  e*elq L e k C i j=L i j*L k C - L i C*L k j/\elq L e k C i j=s*piv T d k C i j:=by
 have h1:=lW h.tb hk hi (Ne.symm hne) (show C<w+m by omega) (show j<w+m by omega)
 have h2:L i j*L k C - L i C*L k j=e*(s*piv T d k C i j):=by
  rw[h.le i j hi hj,h.le k C hk hC,h.le i C hi hC,h.le k j hk hj,h.de]
  have h3:=h.sne
  have h4:s*d*(s*piv T d k C i j)=s*s*(d*piv T d k C i j):=by grind
  rw[h4,h1,h3]
  have h5:s*T i j*(s*T k C) - s*T i C*(s*T k j)=s*s*(T k C*T i j - T i C*T k j):=by grind
  rw[h5,h3]
 have h6:elq L e k C i j=s*piv T d k C i j:=by
  unfold elq
  rw[h2,Int.mul_ediv_cancel_left _ h.ene]
 exact ⟨by rw[h6,h2],h6⟩
theorem El.pivot (h:El m w c N C k p L e T d β s) (hk:k<m) (hC:C<c) (hw:c<=w) (h0:L k C≠0) :
  El m w c N (C+1) (k+1) (upd p k C) (elL L e k C) (L k C) (qL T d k C) (sg (T k C)*T k C) (upd β k C) (s*sg (T k C)):=by
 have hT:T k C≠0:=fun h1=>h0 (by rw[h.le k C hk (by omega),h1,lT])
 have hs1:sg (T k C)=1\/sg (T k C)= -1:=by unfold sg;split<;>omega
 refine ⟨h.tb.step hk (by omega) hT,hC,?_,fun i j hi hj=>?_,?_,hk,fun i hi=>?_,fun i j h1 h2=>?_,fun i h1 h2=>?_,fun i j h1 h2 h3=>?_,fun i j h1 h2=>?_⟩
 ·rcases h.s1 with h1 | h1<;>rcases hs1 with h2 | h2<;>rw[h1,h2]<;>simp
 ·have e0:s*sg (T k C)*(sg (T k C)*(if i=k then T k j else piv T d k C i j))=s*(if i=k then T k j else piv T d k C i j):=by
   have:=Km (T k C)
   grind
  unfold qL
  rw[e0]
  unfold elL
  by_cases c:i=k
  ·rw[if_pos c,if_pos c]
   exact h.le k j hk hj
  ·rw[if_neg c,if_neg c]
   exact (h.exact hk (by omega) hi c hj).2
 ·have:=Km (T k C)
  rw[h.le k C hk (by omega)]
  grind
 ·unfold upd
  by_cases c:i=k
  ·rw[if_pos c,if_pos c]
   exact ⟨rfl,by omega⟩
  ·rw[if_neg c,if_neg c]
   have:=h.bp i (by omega)
   exact ⟨this.1,by omega⟩
 ·unfold upd
  rw[if_neg (by omega)]
  by_cases c:j=k
  ·rw[if_pos c]
   exact (h.bp i (by omega)).2
  ·rw[if_neg c]
   exact h.inc i j h1 (by omega)
 ·unfold upd
  rw[if_neg (by omega)]
  exact h.bs i (by omega) h2
 ·unfold qL
  rw[if_neg (by omega)]
  have h4:T k C*T i j - T i C*T k j=0:=by
   by_cases c:j=C
   ·subst c
    rw[Int.mul_comm]
    omega
   ·rw[h.z i j (by omega) h2 (by omega),h.z k j (bY _) hk (by omega)]
    simp
  unfold piv
  rw[h4]
  simp
 ·unfold upd at h2
  unfold qL
  by_cases c:i=k
  ·rw[if_pos c] at h2 ⊢
   rw[h.z k j (bY _) hk h2,lT]
  ·rw[if_neg c] at h2 ⊢
   have h3:=h.bp i (by omega)
   have h4:T k C*T i j - T i C*T k j=0:=by
    rw[h.ech i j (by omega) h2,h.z k j (bY _) hk (by omega)]
    simp
   unfold piv
   rw[h4]
   simp
theorem El.bound (h:El m w c N C k p L e T d β s) (hB:ElBnd m w c N):(∀i j,i<m->j<w->(L i j).natAbs<4611686018427387904)/\e.natAbs<4611686018427387904:=by
 have hb:=hB.b T d β h.tb fun i hi=>by
  by_cases h1:i<k
  ·have:=h.bp i h1
   have:=h.cc
   exact .inl (by omega)
  ·exact .inr (h.bs i (by omega) hi)
 have key:∀x:Int,ab x<4611686018427387904->(s*x).natAbs<4611686018427387904:=fun x hx=>by
  unfold ab at hx
  rcases h.s1 with h1 | h1<;>rw[h1]<;>omega
 refine ⟨fun i j hi hj=>?_,?_⟩
 ·rw[h.le i j hi hj]
  exact key _ (hb i j hi (by omega))
 ·rw[h.de]
  refine key _ ?_
  have hm:=hB.hm
  have:=hb 0 (β 0) (by omega) (h.tb.lt 0 (by omega))
  rwa [h.tb.basis (show 0<m by omega)] at this
def yv (L:Nat->Nat->Int) (e:Int) (r c i j:Nat):Nat->Nat->Int:=fun k l=>if k≠r/\(k<i\/(k=i/\l<j)) then elq L e r c k l else L k l
end
theorem Sf {l:List Int} (h:l.length<=1000):aj l=some l:=by
 simp only[aj,iO,cZ (show (0+l.length)*8<=140737488355328 by omega),cT]
theorem wz {w i:Nat} {N:Nat->Nat->Int}:((ja i w N).1++[aq (ja i w N).2+0],(ja i w N).2++[some (aW w (N i))])=ja (i+1) w N:=by
 have h1:(ja i w N).2.length=i:=pF
 rw[h1,lE]
 unfold ja
 simp only
 rw[<-List.range_succ]
 unfold fu
 rw[List.range_succ,List.map_append]
 rfl
theorem tx {α:Type} {n:Nat} {f:Nat->α}:aW n f++[f n]=aW (n+1) f:=by
 unfold aW
 rw[List.range_succ,List.map_append]
 rfl
theorem Ow {k C:Nat} {p:Nat->Nat}:aW k (fun i=>(p i:Int))++[(C:Int)]=aW (k+1) fun i=>(upd p k C i:Int):=by
 rw[<-tx]
 congr 1
 ·refine cz fun j hj=>?_
  unfold upd
  rw[if_neg (by omega)]
 ·unfold upd
  rw[if_pos rfl]
def ElQ (m w c:Nat) (N:Nat->Nat->Int) (o:Option (List (List Int)×Int×List Int×List Int×Bool)):Prop :=
 ∃k p L e T d β s fr tu,o=some (jH m w L,e,aW k (fun i=>(p i:Int)),fr,tu)/\El m w c N c k p L e T d β s
abbrev ElS:=Int×(List Nat×List (Option (List Int)))×Int×List Int×List Int×Bool×PUnit
def ElI (m w c:Nat) (N:Nat->Nat->Int) (C:Nat) (x:ElS):Prop :=
 ∃k p L e T d β s t fr tu,x=((C:Int),t,e,aW k (fun i=>(p i:Int)),fr,tu,aC)/\TabR m w L t/\fr.length=m/\El m w c N C k p L e T d β s
theorem tw {m w c:Nat} {N:Nat->Nat->Int} (hB:ElBnd m w c N):ElQ m w c N (be (jH m w N) (c:Int)):=by
 obtain ⟨hm1,hm⟩:=hB.hm
 have hw:=hB.hw
 have hc:=hB.hc
 unfold be lN
 refine nW (ElQ m w c N) m (by omega) (fun i=>((i:Int),ja i w N,(1:Int),[],aW i (fun k=>(k:Int)),false,aC)) rfl (fun again i hi=>?_) (fun again=>?_)
 ·simp only[cv,z7 (show (i:Int)<m by omega),aH,z7 hi,z9,fV hi,Sf (l:=aW w (N i)) (by rw[av];omega),af,gZ,av,
   cZ (show (i+1)*24<=140737488355328 by omega),cZ (show (i+1)*8<=140737488355328 by omega),cT,bo (show i<=1000000 by omega),wz]
  rw[show ((i:Nat):Int)=(fun k:Nat=>(k:Int)) i from rfl,tx]
 simp only[cv,z8 (show ¬ (m:Int)<m by omega),cF]
 refine wm (ElQ m w c N) c (by omega) (ElI m w c N) ⟨0,_,N,1,_,1,_,1,ja m w N,aW m (fun k=>(k:Int)),false,rfl,Zt,av,El.first hm⟩ (fun again C x hC hx=>?_) (fun again x hx=>?_)
 ·obtain ⟨k,p,L,e,T,d,β,s,t,fr,tu,rfl,hR,hfr,hE⟩:=hx
  have hkm:=hE.km
  simp only[z7 (show (C:Int)<c by omega),cT,av,hR.len,bo (show C<=1000000 by omega)]
  rcases vv (m - k) (fun j=>decide (L (k+j) C≠0)) with hn | ⟨j0,hj0,hp0,hpn⟩
  ·refine nW (fun o=>∃y,ElI m w c N (C+1) y/\o=again y) (m - k) (by omega) (fun j=>((-1:Int),((k+j:Nat):Int),aC)) rfl (fun again1 j hj=>?_) (fun again1=>?_)
   ·have h1:=of_decide_eq_false (hn j hj)
    have h2:L (k+j) C=0:=Decidable.not_not.1 h1
    simp only[show decide ((-1:Int)<0)=true from rfl,z7 (show ((k+j:Nat):Int)<m by omega),p_,cT,aH,z7 (show k+j<m by omega),z9,cE (show bT (k+j)<=m by omega),hR.row (show k+j<m by omega),
     av,z7 (show C<w by omega),cE (show bT C<=w by omega),aX (show C<w by omega),h2,decide_true,bt,cF,bo (show k+j<=1000000 by omega)]
    rfl
   ·simp only[show decide ((-1:Int)<0)=true from rfl,z8 (show ¬ ((k+(m - k):Nat):Int)<m by omega),Bool.or_false,e_,cT,cF]
    refine ⟨_,⟨k,p,L,e,T,d,β,s,t,fr,tu,rfl,hR,hfr,hE.skip hC hc fun i h1 h2=>?_⟩,rfl⟩
    have:=of_decide_eq_false (hn (i - k) (by omega))
    rw[show k+(i - k)=i by omega] at this
    exact Decidable.not_not.1 this
  ·have hL0:L (k+j0) C≠0:=z12 hp0
   refine nW (fun o=>∃y,ElI m w c N (C+1) y/\o=again y) (j0+1) (by omega) (fun j=>if j<=j0 then ((-1:Int),((k+j:Nat):Int),aC) else (((k+j0:Nat):Int),((k+j0+1:Nat):Int),aC)) rfl (fun again1 j hj=>?_) (fun again1=>?_)
   ·simp only[if_pos (show j<=j0 by omega),show decide ((-1:Int)<0)=true from rfl,z7 (show ((k+j:Nat):Int)<m by omega),p_,cT,aH,z7 (show k+j<m by omega),z9,cE (show bT (k+j)<=m by omega),hR.row (show k+j<m by omega),
     av,z7 (show C<w by omega),cE (show bT C<=w by omega),aX (show C<w by omega),bo (show k+j<=1000000 by omega)]
    by_cases cj:j=j0
    ·subst cj
     rw[z8 hL0,if_neg (by omega)]
     rfl
    ·have h1:=of_decide_eq_false (hpn j (by omega))
     rw[z7 (Decidable.not_not.1 h1),if_pos (by omega)]
     rfl
   ·simp only[if_neg (show ¬ j0+1<=j0 by omega),z8 (show ¬ ((k+j0:Nat):Int)<0 by omega)]
    obtain ⟨c15,hc15⟩:∃c15,decide (((k+j0+1:Nat):Int)<(m:Int))=c15:=⟨_,rfl⟩
    rw[hc15]
    have e16:(!c15||c15)=true:=by cases c15<;>rfl
    have e15:(bif c15 then false else false)=false:=by cases c15<;>rfl
    simp only[e16,e15,cT,cF]
    refine wm (fun o=>∃y,ElI m w c N (C+1) y/\o=again y) j0 (by omega)
     (fun t x=>∃L T β fr tu tab,x=(((k+(j0 - t):Nat):Int),tab,e,aW k (fun i=>(p i:Int)),fr,tu,aC)/\TabR m w L tab/\fr.length=m/\El m w c N C k p L e T d β s/\L (k+(j0 - t)) C≠0)
     ⟨L,T,β,fr,tu,t,rfl,hR,hfr,hE,hL0⟩ (fun again2 t x ht hx=>?_) (fun again2 x hx=>?_)
    ·obtain ⟨L,T,β,fr,tu,tab,rfl,hR,hfr,hE,hL0⟩:=hx
     have ha:k<=k+(j0 - t)/\k+(j0 - t)<m:=by omega
     have hb:k<=k+(j0 - (t+1))/\k+(j0 - (t+1))<m:=by omega
     have hab:k+(j0 - t)≠k+(j0 - (t+1)):=by omega
     have e19:aQ .i64 (((k+(j0 - t):Nat):Int) - 1)=((k+(j0 - (t+1)):Nat):Int):=by rw[aZ (by omega) (by omega)];omega
     refine ⟨_,⟨fun i=>L (swp (k+(j0 - t)) (k+(j0 - (t+1))) i),fun i=>T (swp (k+(j0 - t)) (k+(j0 - (t+1))) i),fun i=>β (swp (k+(j0 - t)) (k+(j0 - (t+1))) i),
      (fr.set (k+(j0 - t)) (fr.getD (k+(j0 - (t+1))) 0)).set (k+(j0 - (t+1))) (fr.getD (k+(j0 - t)) 0),!tu,_,rfl,hR.swap ha.2 hb.2,by rw[oN,oN];exact hfr,hE.swap ha hb hab,?_⟩,?_⟩
     ·show L (swp (k+(j0 - t)) (k+(j0 - (t+1))) (k+(j0 - (t+1)))) C≠0
      unfold swp
      rw[if_neg (Ne.symm hab),if_pos rfl]
      exact hL0
     ·simp only[e19,hR.len,hfr,oN,z7 (show ((k+(j0 - t):Nat):Int)>(k:Int) by omega),cT,aH,z7 ha.2,z7 hb.2,z9,cE (show bT (k+(j0 - t))<=m by omega),cE (show bT (k+(j0 - (t+1)))<=m by omega)]
    ·obtain ⟨L,T,β,fr,tu,⟨ids,cells⟩,rfl,hR,hfr,hE,hL0⟩:=hx
     rw[Nat.sub_self,lE] at hL0
     have hk:k<m:=by omega
     have hCw:C<w:=by omega
     have hlen:ids.length=m:=hR.len
     simp only[Nat.sub_self,lE,z8 (show ¬ ((k:Nat):Int)>(k:Int) by omega),cF,hlen,aH,z7 hk,z9,cE (show bT k<=m by omega),cT,hR.row hk,av,z7 hCw,cE (show bT C<=w by omega),aX hCw]
     have hP:=hE.pivot hk hC hc hL0
     obtain ⟨hb1,hb2⟩:=hE.bound hB
     obtain ⟨hb3,_⟩:=hP.bound hB
     have hb4:∀i j,i<m->i≠k->j<w->(elq L e k C i j).natAbs<4611686018427387904:=fun i j hi hne hj=>by
      have:=hb3 i j hi hj
      unfold elL at this
      rwa [if_neg hne] at this
     refine wm (fun o=>∃y,ElI m w c N (C+1) y/\o=again y) m (by omega) (fun i x=>∃cells,x=((i:Int),(ids,cells),aC)/\TabR m w (yv L e k C i 0) (ids,cells))
      ⟨cells,rfl,hR.congr fun i j _ _=>?_⟩ (fun again3 i x hi hx=>?_) (fun again3 x hx=>?_)
     ·unfold yv
      rw[if_neg fun h=>by omega]
     ·obtain ⟨cs,rfl,hS⟩:=hx
      simp only[hlen,z7 (show (i:Int)<m by omega),aH,z7 hi,z9,cE (show bT i<=m by omega),cT,bo (show i<=1000000 by omega)]
      by_cases ci:i=k
      ·rw[z7 (show (i:Int)=k by omega),cond_true]
       refine ⟨_,⟨cs,rfl,hS.congr fun a b _ _=>?_⟩,rfl⟩
       unfold yv
       by_cases c1:a≠k/\(a<i\/(a=i/\b<0))
       ·rw[if_pos c1,if_pos (by omega)]
       ·rw[if_neg c1,if_neg (by omega)]
      ·have hSr:=hS.row hi
       have hSl:=hS.live hi
       simp only at hSr hSl
       simp only[z8 (show ¬ (i:Int)=k by omega),cF,hSr,hSl,av,z7 hCw,cE (show bT C<=w by omega),cT,aX hCw]
       refine wm (fun o=>∃y,(∃cells,y=(((i+1:Nat):Int),(ids,cells),aC)/\TabR m w (yv L e k C (i+1) 0) (ids,cells))/\o=again3 y) w (by omega)
        (fun j x=>∃cells,x=((j:Int),(ids,cells),aC)/\TabR m w (yv L e k C i j) (ids,cells)) ⟨cs,rfl,hS⟩ (fun again4 j x hj hx=>?_) (fun again4 x hx=>?_)
       ·obtain ⟨cs2,rfl,hS2⟩:=hx
        have hr1:=hS2.row hi
        have hr2:=hS2.row hk
        simp only at hr1 hr2
        have e1:yv L e k C i j i j=L i j:=by unfold yv;rw[if_neg (by omega)]
        have e2:yv L e k C i j k j=L k j:=by unfold yv;rw[if_neg (by omega)]
        have e3:yv L e k C i 0 i C=L i C:=by unfold yv;rw[if_neg (by omega)]
        have hst:=Sa (q:=elq L e k C i j) (hb1 i j hi hj) (hb1 k C hk hCw) (hb1 i C hi hCw) (hb1 k j hk hj) hE.ene hb2 (hE.exact hk hCw hi ci hj).1 (hb4 i j hi ci hj)
        simp only[hr1,hr2,av,z7 (show (j:Int)<w by omega),aH,z7 hj,z7 hk,z9,cE (show bT j<=w by omega),cE (show bT k<=m by omega),cT,hlen,aX hj,e1,e2,e3,hst,af,bo (show j<=1000000 by omega)]
        refine ⟨_,⟨_,rfl,hS2.put hi hj fun a b ha hb=>?_⟩,rfl⟩
        unfold yv
        by_cases c0:a=i/\b=j
        ·rw[if_pos c0,if_pos (by omega),c0.1,c0.2]
        ·rw[if_neg c0]
         by_cases c1:a≠k/\(a<i\/(a=i/\b<j))
         ·rw[if_pos c1,if_pos (by omega)]
         ·rw[if_neg c1,if_neg (by omega)]
       ·obtain ⟨cs2,rfl,hS2⟩:=hx
        simp only[z8 (show ¬ (w:Int)<w by omega),cF]
        refine ⟨_,⟨cs2,rfl,hS2.congr fun a b _ hb=>?_⟩,rfl⟩
        unfold yv
        by_cases c1:a≠k/\(a<i\/(a=i/\b<w))
        ·rw[if_pos c1,if_pos (by omega)]
        ·rw[if_neg c1,if_neg (by omega)]
     ·obtain ⟨cs,rfl,hS⟩:=hx
      simp only[hlen,z8 (show ¬ (m:Int)<m by omega),cF,cZ (show (k+1)*8<=140737488355328 by omega),cT,Ow]
      refine ⟨_,⟨k+1,upd p k C,elL L e k C,L k C,_,_,_,_,(ids,cs),fr,tu,rfl,hS.congr fun a b ha _=>?_,hfr,hP⟩,rfl⟩
      unfold yv elL
      by_cases c1:a=k
      ·rw[if_neg (by omega),if_pos c1,c1]
      ·rw[if_pos (by omega),if_neg c1]
 ·obtain ⟨k,p,L,e,T,d,β,s,t,fr,tu,rfl,hR,hfr,hE⟩:=hx
  simp only[z8 (show ¬ (c:Int)<c by omega),cF,hR.all,cT,hR.map]
  exact ⟨k,p,L,e,T,d,β,s,fr,tu,rfl,hE⟩
theorem xp {x y z p q r:Int} (hp:0<p) (hq:0<q) (hr:0<r) (h1:x*q<=y*p) (h2:y*r<=z*q):x*r<=z*p:=by
 refine Dx hq ?_
 have a1:=z11 h1 (Int.le_of_lt hr)
 have a2:=z11 h2 (Int.le_of_lt hp)
 calc q*(x*r)=x*q*r:=by grind
  _<=y*p*r:=a1
  _=y*r*p:=by grind
  _<=z*q*p:=a2
  _=q*(z*p):=by grind
theorem Tc {x y z p q r:Int} (hp:0<p) (hq:0<q) (hr:0<r) (h1:x*q<=y*p) (h2:y*r<=z*q) (h:x*r=z*p):x*q=y*p/\y*r=z*q:=by
 have h3:=xp hq hr hp h2 (by rw[h];exact pH _)
 have h4:=xp (x:=z) (y:=x) (z:=y) (p:=r) (q:=p) (r:=q) hr hp hq (by rw[h];exact pH _) h1
 exact ⟨Int.le_antisymm h1 h3,Int.le_antisymm h2 h4⟩
theorem CG {m w:Nat} {T:Nat->Nat->Int} {d:Int} {β:Nat->Nat} {c R:Nat} {x1:Int} {x3 x4:List Int} {x5:Int} (hm:m<=1000) (hc:c<w) (hR:R<w) (hb:∀i j,i<m->j<w->(T i j).natAbs<4611686018427387904) :
  ∃b,aY (jH m w T,x1,lF m β,x3,x4,x5,(R:Int)) (c:Int)=some b/\((b= -1/\∀i,i<m->T i c<=0)\/∃r:Nat,b=r/\Dn.Leaves m R ⟨T,d,β⟩ c r):=by
 unfold aY jP
 refine FU (fun (x:Int×Int×PUnit)=>∃i:Nat,i<=m/\x.2.1=i/\((x.1= -1/\∀k,k<i->T k c<=0)\/∃r:Nat,x.1=r/\Dn.Leaves i R ⟨T,d,β⟩ c r)) _ (fun x=>((m:Int) - x.2.1).toNat) ?_ ⟨0,by omega,rfl,.inl ⟨rfl,fun k hk=>by omega⟩⟩ (by simp only;omega)
 rintro ⟨b,_,_⟩ ⟨i,hi,rfl,hI⟩
 simp only at hI
 by_cases hlt:i<m
 ·have gR:=fV (w:=w) (T:=T) hlt
  have ext:∀r,Dn.Leaves i R ⟨T,d,β⟩ c r->(0<T i c->T r R*T i c<=T i R*T r c/\(T r R*T i c=T i R*T r c->β r<=β i))->Dn.Leaves (i+1) R ⟨T,d,β⟩ c r:=fun r h hn=>by
   refine ⟨by have:=h.lt;omega,h.pos,fun k hk hp=>?_,fun k hk hp he=>?_⟩
   ·by_cases e:k=i
    ·subst e;exact (hn hp).1
    ·exact h.le k (by omega) hp
   ·by_cases e:k=i
    ·subst e;exact (hn hp).2 he
    ·exact h.tie k (by omega) hp he
  right
  by_cases hpos:T i c<=0
  ·refine ⟨(b,((i+1:Nat):Int),aC),⟨i+1,by omega,rfl,?_⟩,by simp only;omega,fun rec=>?_⟩
   ·rcases hI with ⟨h1,h2⟩ | ⟨r,h1,h2⟩
    ·exact .inl ⟨h1,fun k hk=>by
      by_cases e:k=i
      ·rw[e];exact hpos
      ·exact h2 k (by omega)⟩
    ·exact .inr ⟨r,h1,ext r h2 fun h=>by omega⟩
   ·simp only[cv,aH,z9,z7 hlt,z7 (show (i:Int)<m by omega),gR,av,aX hc,z7 hc,z7 hpos,cT,bo (show i<=1000000 by omega)]
  ·rcases hI with ⟨h1,h2⟩ | ⟨r,h1,h2⟩
   ·refine ⟨((i:Int),((i+1:Nat):Int),aC),⟨i+1,by omega,rfl,.inr ⟨i,rfl,⟨by omega,show 0<T i c by omega,fun k hk hp=>?_,fun k hk hp _=>?_⟩⟩⟩,by simp only;omega,fun rec=>?_⟩
    ·by_cases e:k=i
     ·subst e;exact pH _
     ·have h3:=h2 k (by omega)
      have hp:0<T k c:=hp
      omega
    ·by_cases e:k=i
     ·subst e;exact bY _
     ·have h3:=h2 k (by omega)
      have hp:0<T k c:=hp
      omega
    ·simp only[cv,aH,z9,z7 hlt,z7 (show (i:Int)<m by omega),gR,av,aX hc,z7 hc,z8 hpos,z7 (show b<0 by omega),cT,cF,bo (show i<=1000000 by omega)]
   ·subst h1
    have hr:r<m:=by have:=h2.lt;omega
    have gr:=fV (w:=w) (T:=T) hr
    have t1:=wj (lZ (hb i R hlt hR)) (lZ (hb r c hr hc))
    have t2:=wj (lZ (hb r R hr hR)) (lZ (hb i c hlt hc))
    have hpr:0<T r c:=h2.pos
    refine ⟨(if T i R*T r c<T r R*T i c\/(T i R*T r c=T r R*T i c/\β i<β r) then (i:Int) else (r:Int),((i+1:Nat):Int),aC),⟨i+1,by omega,rfl,.inr ?_⟩,by simp only;omega,fun rec=>?_⟩
    ·simp only
     by_cases hq:T i R*T r c<T r R*T i c\/(T i R*T r c=T r R*T i c/\β i<β r)
     ·rw[if_pos hq]
      have hle:T i R*T r c<=T r R*T i c:=by rcases hq with h | h<;>omega
      have hpi:0<T i c:=by omega
      refine ⟨i,rfl,⟨by omega,hpi,fun k hk hp=>?_,fun k hk hp he=>?_⟩⟩
      ·have hp:0<T k c:=hp
       by_cases e:k=i
       ·subst e;exact pH _
       ·exact xp hpi hpr hp hle (h2.le k (by omega) hp)
      ·have hp:0<T k c:=hp
       have he:T i R*T k c=T k R*T i c:=he
       by_cases e:k=i
       ·subst e;exact bY _
       ·obtain ⟨e1,e2⟩:=Tc hpi hpr hp hle (h2.le k (by omega) hp) he
        have h3:β r<=β k:=h2.tie k (by omega) hp e2
        show β i<=β k
        rcases hq with h | h<;>omega
     ·rw[if_neg hq]
      have h3:=fun h=>hq (.inl h)
      refine ⟨r,rfl,ext r h2 fun hp=>⟨by omega,fun he=>?_⟩⟩
      have h4:=fun h=>hq (.inr ⟨he.symm,h⟩)
      omega
    ·simp only[cv,aH,z9,z7 hlt,z7 hr,z7 (show (i:Int)<m by omega),gR,gr,av,aX hc,aX hR,z7 hc,z7 hR,z8 hpos,z8 (show ¬ (r:Int)<0 by omega),cT,cF,bo (show i<=1000000 by omega),
      t1,t2,af,Qh,lx,mg hlt,mg hr]
     by_cases c1:T i R*T r c<T r R*T i c
     ·rw[if_pos c1,if_pos (.inl c1)]
      generalize decide ((β i:Int)<β r)=bb
      cases bb<;>rfl
     ·by_cases c2:T i R*T r c=T r R*T i c
      ·rw[if_neg c1,if_pos c2]
       by_cases c3:β i<β r
       ·rw[if_pos (.inr ⟨c2,c3⟩),z7 (show (β i:Int)<β r by omega)]
        rfl
       ·rw[if_neg (by rintro (h | h)<;>omega),z8 (show ¬ (β i:Int)<β r by omega)]
        rfl
      ·rw[if_neg c1,if_neg c2,if_neg (by rintro (h | h)<;>omega)]
       generalize decide ((β i:Int)<β r)=bb
       cases bb<;>rfl
 ·left
  have e:i=m:=by omega
  subst e
  refine ⟨b,hI,fun rec=>?_⟩
  simp only[cv,z8 (show ¬ (i:Int)<i by omega),cF]
theorem lv {n:Nat} {f:Nat->Int} {B:Int} (h:∀i,i<n-> -B<=f i/\f i<=B): -(n*B)<=sz n f/\sz n f<=n*B:=by
 induction n with
 | zero=>simp[sz]
 | succ n ih =>
  have h1:=ih fun i hi=>h i (by omega)
  have h2:=h n (by omega)
  simp only[sz]
  rw[show ((n+1:Nat):Int)*B=n*B+B by rw[show ((n+1:Nat):Int)=(n:Int)+1 by omega,Int.add_mul,Int.one_mul]]
  omega
theorem xi {m w:Nat} {T:Nat->Nat->Int} {β:Nat->Nat} {N j:Nat} {x1 x6:Int} {x3 x4:List Int} (hm:m<=1000) (hj:j<w) (hb:∀i,i<m-> -1125899906842624<=T i j/\T i j<=1125899906842624) :
  aG (jH m w T,x1,lF m β,x3,x4,(N:Int),x6) (j:Int)=some (sz m fun i=>fX N (β i)*T i j):=by
 unfold aG iK
 have hterm:∀i,i<m-> -1125899906842624<=fX N (β i)*T i j/\fX N (β i)*T i j<=1125899906842624:=fun i hi=>by
  have:=hb i hi
  unfold fX
  split<;>omega
 refine yh m (by omega) (fun i=>(sz i (fun k=>fX N (β k)*T k j),(i:Int),aC)) _ (fun again i hi=>?_) (fun again=>?_)
 ·have h1:=lv (n:=i) (f:=fun k=>fX N (β k)*T k j) (B:=1125899906842624) fun k hk=>hterm k (by omega)
  have h2:=hterm i hi
  have hi2:(i:Int)<=1000:=by omega
  have h3:(i:Int)*1125899906842624<=1000*1125899906842624:=z11 hi2 (by omega)
  simp only[cv,lx,aH,z9,z7 hi,z7 (show (i:Int)<m by omega),fV hi,mg hi,av,aX hj,z7 hj,cT,bo (show i<=1000000 by omega)]
  have hT:=hb i hi
  by_cases e:N<=β i
  ·have e1:fX N (β i)*T i j=T i j:=by unfold fX;rw[if_pos e];omega
   rw[z7 (show (β i:Int)>=N by omega),cond_true,aZ (by omega) (by omega)]
   simp only[sz,e1]
  ·have e1:fX N (β i)*T i j=0:=by unfold fX;rw[if_neg e];omega
   rw[z8 (show ¬ (β i:Int)>=N by omega),cond_false]
   simp only[sz,e1,Int.add_zero]
 ·simp only[cv,z8 (show ¬ (m:Int)<m by omega),cF]
def lL (cs:List Int) (j:Nat):Int:=cs.getD j 0
theorem Bd {M:List (List Int)} {x1:Int} {x2 x3 cs:List Int} {x5 x6:Int} {j:Nat}:bm (M,x1,x2,x3,cs,x5,x6) (j:Int)=some (lL cs j):=by
 unfold lL
 simp only[bm,kV,aH,z9]
 by_cases h:j<cs.length
 ·rw[z7 h,z7 (show (j:Int)<cs.length by omega)];rfl
 ·rw[z8 (show ¬ (j:Int)<cs.length by omega),cond_false,c_,m_ (by omega)];rfl
theorem I4 {m w:Nat} {T:Nat->Nat->Int} {d:Int} {β:Nat->Nat} {j:Nat} {x3 cs:List Int} {x5 x6:Int} (hm:m<=1000) (hj:j<w) (hd: -1125899906842624<=lL cs j*d/\lL cs j*d<=1125899906842624)
  (hb:∀i,i<m-> -1125899906842624<=lL cs (β i)*T i j/\lL cs (β i)*T i j<=1125899906842624) :
  cD (jH m w T,d,lF m β,x3,cs,x5,x6) (j:Int)=some (zr m (lL cs) ⟨T,d,β⟩ j):=by
 unfold cD jM
 rw[Bd,obN]
 refine cq m (by omega) (fun i=>(lL cs j*d - sz i (fun k=>lL cs (β k)*T k j),(i:Int),aC)) _ ?_ (fun again i hi=>?_) (fun again=>?_)
 ·simp only[sz,Int.sub_zero]
  rw[aZ (by omega) (by omega)]
  rfl
 ·have h1:=lv (n:=i) (f:=fun k=>lL cs (β k)*T k j) (B:=1125899906842624) fun k hk=>hb k (by omega)
  have h2:=hb i hi
  have hi2:(i:Int)<=1000:=by omega
  have h3:(i:Int)*1125899906842624<=1000*1125899906842624:=z11 hi2 (by omega)
  simp only[cv,lx,aH,z9,z7 hi,z7 (show (i:Int)<m by omega),fV hi,mg hi,av,aX hj,z7 hj,cT,bo (show i<=1000000 by omega),Bd,af]
  rw[aZ (x:=lL cs (β i)*T i j) (by omega) (by omega),aZ (by omega) (by omega)]
  simp only[sz]
  congr 2
  omega
 ·simp only[cv,z8 (show ¬ (m:Int)<m by omega),cF]
  rfl
structure Bnd (L:Lin) (Y:Lay):Prop where
 ok:Y.ok L
 m:L.m<=12
 w:Y.w L<=64
 P:L.F0*L.P<=17592186044416
theorem xE {x:Int}:ab x=x.natAbs:=rfl
section
variable {L:Lin} {Y:Lay}
theorem Bnd.P' (h:Bnd L Y):L.P<=17592186044416:=by
 have h1:=L.F0_pos
 have h2:=L.P_pos
 have h3:1*L.P<=L.F0*L.P:=z11 h1 (by omega)
 have:=h.P
 omega
theorem Bnd.tab (h:Bnd L Y) {T:Nat->Nat->Int} {d:Int} {β:Nat->Nat} (ht:Tb L.m (Y.w L) (Y.M L) T d β):(0<d/\d<=17592186044416)/\∀i j,i<L.m->j<Y.w L->(T i j).natAbs<=17592186044416:=by
 obtain ⟨h1,h2⟩:=Ag h.ok ht
 have h3:=h.P'
 refine ⟨⟨ht.dpos,by omega⟩,fun i j hi hj=>?_⟩
 have:=h2 i j hi hj
 rw[xE] at this
 omega
theorem Ov (j:Nat):(dk L j).natAbs<=L.F0 - 1:=by
 unfold dk Lin.F0
 have h0:0<=sz L.n fun j=>ab (L.c j):=kr fun j _=>cn _
 split
 ·rename_i hj
  have h1:(sz L.n fun i=>if i=j then ab (L.c j) else 0)<=sz L.n fun j=>ab (L.c j):=qY fun i _=>by
   by_cases e:i=j
   ·rw[if_pos e,e];exact pH _
   ·rw[if_neg e];exact cn _
  rw[ia hj fun i _ hne=>if_neg hne,if_pos rfl,xE] at h1
  omega
 ·simp only[Int.natAbs_zero]
  omega
theorem Bnd.cost (h:Bnd L Y) {x:Int} (hx:(x.natAbs:Int)<=L.P) (j:Nat): -17592186044416<=dk L j*x/\dk L j*x<=17592186044416:=by
 have h1:=Ov (L:=L) j
 have h2:((dk L j*x).natAbs:Int)<=L.F0*L.P:=by
  rw[Int.natAbs_mul,iS]
  refine nE (Int.mul_le_mul (show ((dk L j).natAbs:Int)<=L.F0 by omega) hx (by omega) (by omega)) (pH _)
 have:=h.P
 omega
theorem Bnd.tabP (h:Bnd L Y) {T:Nat->Nat->Int} {d:Int} {β:Nat->Nat} (ht:Tb L.m (Y.w L) (Y.M L) T d β):(d.natAbs:Int)<=L.P/\∀i j,i<L.m->j<Y.w L->((T i j).natAbs:Int)<=L.P:=by
 obtain ⟨h1,h2⟩:=Ag h.ok ht
 have:=ht.dpos
 exact ⟨by omega,fun i j hi hj=>h2 i j hi hj⟩
theorem YK (x:Int) (y:Int):(sg x*y).natAbs=y.natAbs:=by unfold sg;split<;>omega
theorem Bnd.piv (h:Bnd L Y) {T:Nat->Nat->Int} {d:Int} {β:Nat->Nat} (ht:Tb L.m (Y.w L) (Y.M L) T d β) {r c:Nat} (hr:r<L.m) (hc:c<Y.w L) (he:T r c≠0):PivOk L.m (Y.w L) T d r c:=by
 obtain ⟨h1,h2⟩:=h.tab ht
 obtain ⟨h3,h4⟩:=h.tab (ht.step hr hc he)
 have:=h.m
 have:=h.w
 refine ⟨by omega,by omega,hr,hc,by omega,fun i j hi hj=>by have:=h2 i j hi hj;omega,fun i j hi hne hj=>lW ht hr hi (Ne.symm hne) hc hj,fun i j hi hne hj=>?_⟩
 have h5:=h4 i j hi hj
 unfold qL at h5
 rw[if_neg hne,YK] at h5
 omega
def AZ (L:Lin) (Y:Lay) (S:Sx):Prop:=∀i,i<L.m->Y.N<=S.β i->(∀j,j<Y.N->S.T i j=0)/\S.T i (Y.R L)=0
theorem AZ.art (S:Sx) (h:AZ L Y S):Hu L.m Y.N S (Y.R L):=fun i hi hN=>(h i hi hN).2
theorem AZ.col (S:Sx) (h:AZ L Y S) {q:Nat} (hq:q<Y.N):Hu L.m Y.N S q:=fun i hi hN=>(h i hi hN).1 q hq
def oH (S:Sx) (r c:Nat):Sx:=⟨qL S.T S.d r c,sg (S.T r c)*S.T r c,upd S.β r c⟩
theorem Ix {m w:Nat} {S:Sx} {r c:Nat} (hp:0<S.T r c):StepAt m w S (oH S r c) r c:=by
 have e:sg (S.T r c)=1:=by unfold sg;rw[if_neg (by omega)]
 refine ⟨fun i j _ _=>?_,?_,fun i _=>rfl⟩
 ·show qL S.T S.d r c i j=_
  unfold qL
  rw[e,Int.one_mul]
 ·show sg (S.T r c)*S.T r c=_
  rw[e,Int.one_mul]
theorem AZ.step {S:Sx} (h:AZ L Y S) {r c:Nat} (hc:c<Y.N):AZ L Y (oH S r c):=fun i hi hN=>by
 have hb:(oH S r c).β i=upd S.β r c i:=rfl
 rw[hb] at hN
 unfold upd at hN
 by_cases e:i=r
 ·rw[if_pos e] at hN;omega
 ·rw[if_neg e] at hN
  obtain ⟨h1,h2⟩:=h i hi hN
  have hT:∀j,(oH S r c).T i j=sg (S.T r c)*Dn.piv S.T S.d r c i j:=fun j=>by
   show qL S.T S.d r c i j=_
   unfold qL
   rw[if_neg e]
  have hz:∀j,S.T i j=0->Dn.piv S.T S.d r c i j=0:=fun j hj=>by
   unfold Dn.piv
   rw[hj,h1 c hc,lT,Int.zero_mul,Int.sub_zero,Int.zero_ediv]
  exact ⟨fun j hj=>by rw[hT,hz j (h1 j hj),lT],by rw[hT,hz _ h2,lT]⟩
abbrev rL (L:Lin) (Y:Lay) (x3 cs:List Int) (S:Sx):(List Nat×List (Option (List Int)))×Int×List Int×List Int×List Int×Int×Int×PUnit:=(ja L.m (Y.w L) S.T,S.d,lF L.m S.β,x3,cs,(Y.N:Int),((Y.R L:Nat):Int),aC)
theorem JS (h:Bnd L Y) (hp:(Y.w L) ^ L.m<=1180591620717411303424) {x3 cs:List Int} (hcs:∀j,lL cs j=dk L j) {S:Sx} (hv:Y.Val L S) (ha:AZ L Y S) :
  ∃S' ok,cf (ja L.m (Y.w L) S.T) S.d (lF L.m S.β) x3 cs (Y.N:Int) ((Y.R L:Nat):Int)=some (ja L.m (Y.w L) S'.T,S'.d,lF L.m S'.β,x3,cs,(Y.N:Int),((Y.R L:Nat):Int),ok,())/\Y.Val L S'/\AZ L Y S' /\
   (ok=true->∀j,j<Y.N->0<=zr L.m (dk L) S' j)/\(ok=false->∃q,q<Y.N/\zr L.m (dk L) S' q<0/\∀i,i<L.m->S'.T i q<=0):=by
 have hcs':lL cs=dk L:=funext hcs
 have hm:=h.m
 have hw:=h.w
 have hN:Y.N<=Y.R L:=by unfold Lay.R;omega
 have hRw:Y.R L<Y.w L:=by unfold Lay.R Lay.w;omega
 unfold cf jQ
 have fin:∀{x:Option ((List Nat×List (Option (List Int)))×Int×List Int×List Int×List Int×Int×Int×Bool×Unit)},(∃r,x=some r/\∃S' ok,r=(ja L.m (Y.w L) S'.T,S'.d,lF L.m S'.β,x3,cs,(Y.N:Int),((Y.R L:Nat):Int),ok,aC)/\Y.Val L S'/\AZ L Y S' /\
   (ok=true->∀j,j<Y.N->0<=zr L.m (dk L) S' j)/\(ok=false->∃q,q<Y.N/\zr L.m (dk L) S' q<0/\∀i,i<L.m->S'.T i q<=0))->∃S' ok,x=some (ja L.m (Y.w L) S'.T,S'.d,lF L.m S'.β,x3,cs,(Y.N:Int),((Y.R L:Nat):Int),ok,())/\Y.Val L S'/\AZ L Y S' /\
   (ok=true->∀j,j<Y.N->0<=zr L.m (dk L) S' j)/\(ok=false->∃q,q<Y.N/\zr L.m (dk L) S' q<0/\∀i,i<L.m->S'.T i q<=0):=by
  rintro x ⟨r,h1,S',ok,rfl,h3⟩
  exact ⟨S',ok,h1,h3⟩
 refine fin (UN (γ:=Sx) (I:=fun (S:Sx) x=>x=rL L Y x3 cs S/\Y.Val L S/\AZ L Y S)
  (Q:=fun r=>∃S' ok,r=(ja L.m (Y.w L) S'.T,S'.d,lF L.m S'.β,x3,cs,(Y.N:Int),((Y.R L:Nat):Int),ok,aC)/\Y.Val L S'/\AZ L Y S' /\
   (ok=true->∀j,j<Y.N->0<=zr L.m (dk L) S' j)/\(ok=false->∃q,q<Y.N/\zr L.m (dk L) S' q<0/\∀i,i<L.m->S'.T i q<=0))
  (μ:=fun S=>left L.m (Y.w L) Y.N (Y.R L) (Y.M L) (dk L) S) ?_ (s:=S) ⟨rfl,hv,ha⟩ (fD (KB (by unfold Lay.w;omega) S) hp))
 rintro S _ ⟨rfl,hv,ha⟩
 obtain ⟨hd,hb⟩:=h.tabP hv.tb
 have hred:∀j,j<Y.N->cD (jH L.m (Y.w L) S.T,S.d,lF L.m S.β,x3,cs,(Y.N:Int),((Y.R L:Nat):Int)) (j:Int)=some (zr L.m (dk L) S j):=fun j hj=>by
  have hjw:j<Y.w L:=by omega
  have:=I4 (m:=L.m) (w:=Y.w L) (T:=S.T) (d:=S.d) (β:=S.β) (j:=j) (x3:=x3) (cs:=cs) (x5:=(Y.N:Int)) (x6:=((Y.R L:Nat):Int)) (by omega) hjw
   (by rw[hcs'];have:=h.cost hd j;omega) (fun i hi=>by rw[hcs'];have:=h.cost (hb i j hi hjw) (S.β i);omega)
  rw[this,hcs']
 rcases vv Y.N (fun j=>decide (zr L.m (dk L) S j<0)) with hnone | ⟨q,hq,hneg,hleast⟩
 ·left
  refine ⟨_,⟨S,true,rfl,hv,ha,fun _ j hj=>by have:=of_decide_eq_false (hnone j hj);omega,fun e=>by cases e⟩,fun rec=>?_⟩
  refine yh Y.N (by omega) (fun j=>((-1:Int),(j:Int),aC)) _ (fun again j hj=>?_) (fun again=>?_)
  ·simp only[bC,cT,z7 (show (j:Int)<Y.N by omega),show decide ((-1:Int)<0)=true from rfl,iV,iT,hred j hj,af,hnone j hj,cF,bo (show j<=1000000 by omega)]
  ·simp only[bC,cT,cF,z8 (show ¬ (Y.N:Int)<Y.N by omega),show decide ((-1:Int)<0)=true from rfl]
 ·have hneg:=z12 hneg
  have hqw:q<Y.w L:=by omega
  have hent:EntersB L.m Y.N (dk L) S q:=⟨hq,hneg,fun j hj=>by have:=of_decide_eq_false (hleast j hj);omega⟩
  have hbb:∀i j,i<L.m->j<Y.w L->(S.T i j).natAbs<4611686018427387904:=fun i j hi hj=>by have:=(h.tab hv.tb).2 i j hi hj;omega
  obtain ⟨b,hl1,hl2⟩:=CG (m:=L.m) (w:=Y.w L) (T:=S.T) (d:=S.d) (β:=S.β) (c:=q) (R:=Y.R L) (x1:=S.d) (x3:=x3) (x4:=cs) (x5:=(Y.N:Int)) (by omega) hqw hRw hbb
  have search:∀{R:Type} {F:(Int×Int×PUnit->Option R)->Int×Int×PUnit->Option R} {res:Option R},(∀again j,j<q->F again ((-1:Int),(j:Int),aC)=again ((-1:Int),((j+1:Nat):Int),aC)) ->
    (∀again,F again ((-1:Int),(q:Int),aC)=again ((q:Int),((q+1:Nat):Int),aC))->(∀again,F again ((q:Int),((q+1:Nat):Int),aC)=res)->lpK (Int×Int×PUnit) R F ((-1:Int),(0:Int),aC)=res:=fun h1 h2 h3=>by
   refine cq (q+1) (by omega) (fun j=>if j<=q then ((-1:Int),(j:Int),aC) else ((q:Int),(j:Int),aC)) _ (by rw[if_pos (by omega)];rfl) (fun again j hj=>?_) (fun again=>?_)
   ·by_cases e:j=q
    ·subst e
     rw[if_pos (by omega),if_neg (by omega)]
     exact h2 again
    ·rw[if_pos (by omega),if_pos (by omega)]
     exact h1 again j (by omega)
   ·rw[if_neg (by omega)]
    exact h3 again
  rcases hl2 with ⟨e,hno⟩ | ⟨r,e,hlv⟩
  ·subst e
   left
   refine ⟨_,⟨S,false,rfl,hv,ha,fun e=>(by cases e),fun _=>⟨q,hq,hneg,hno⟩⟩,fun rec=>?_⟩
   refine search (fun again j hj=>?_) (fun again=>?_) (fun again=>?_)
   ·simp only[bC,cT,z7 (show (j:Int)<Y.N by omega),show decide ((-1:Int)<0)=true from rfl,iV,iT,hred j (by omega),af,hleast j hj,cF,bo (show j<=1000000 by omega)]
   ·simp only[bC,cT,z7 (show (q:Int)<Y.N by omega),show decide ((-1:Int)<0)=true from rfl,iV,iT,hred q hq,af,z7 hneg,bo (show q<=1000000 by omega)]
   ·simp only[bC,cT,z8 (show ¬ (q:Int)<0 by omega),nH,Bool.and_false,cF,iV,iT,hl1,af,show decide ((-1:Int)<0)=true from rfl]
  ·subst e
   right
   have hpr:0<S.T r q:=hlv.pos
   have hr:=hlv.lt
   have hs:=Ix (m:=L.m) (w:=Y.w L) hpr
   refine ⟨oH S r q,rL L Y x3 cs (oH S r q),⟨rfl,hv.stepAt hRw hqw (by omega) hlv hs,ha.step hq⟩,D1 (Lay.art h.ok).1 (Lay.art h.ok).2 hN hRw hv ⟨hent,hlv,hs⟩,fun rec=>?_⟩
   refine search (fun again j hj=>?_) (fun again=>?_) (fun again=>?_)
   ·simp only[bC,cT,z7 (show (j:Int)<Y.N by omega),show decide ((-1:Int)<0)=true from rfl,iV,iT,hred j (by omega),af,hleast j hj,cF,bo (show j<=1000000 by omega)]
   ·simp only[bC,cT,z7 (show (q:Int)<Y.N by omega),show decide ((-1:Int)<0)=true from rfl,iV,iT,hred q hq,af,z7 hneg,bo (show q<=1000000 by omega)]
   ·simp only[bC,cT,z8 (show ¬ (q:Int)<0 by omega),nH,Bool.and_false,cF,iV,iT,hl1,af,z8 (show ¬ (r:Int)<0 by omega),Bi (h.piv hv.tb hr hqw (show S.T r q≠0 by omega))]
    rfl
end
section
variable {L:Lin} {Y:Lay}
theorem Val.flat {S:Sx} (hv:Y.Val L S) {r c:Nat} (hr:r<L.m) (hc:c<Y.N) (he:S.T r c≠0) (h0:S.T r (Y.R L)=0):Y.Val L (oH S r c):=by
 have hcw:c<Y.w L:=by unfold Lay.w;omega
 have hRw:Y.R L<Y.w L:=by unfold Lay.R Lay.w;omega
 have hd:=hv.tb.dpos
 refine ⟨hv.tb.step hr hcw he,fun i hi=>?_,fun i hi=>?_⟩
 ·show 0<=qL S.T S.d r c i (Y.R L)
  unfold qL
  by_cases e:i=r
  ·rw[if_pos e,h0,lT];exact pH _
  ·rw[if_neg e]
   have h1:=lW hv.tb hr hi (Ne.symm e) hcw hRw
   rw[h0,lT,Int.sub_zero] at h1
   have h2:0<=sg (S.T r c)*S.T r c*S.T i (Y.R L):=ph (Int.le_of_lt (QQ he)) (hv.feas i hi)
   rw[ld,<-h1] at h2
   have h3:sg (S.T r c)*(S.d*Dn.piv S.T S.d r c i (Y.R L))=S.d*(sg (S.T r c)*Dn.piv S.T S.d r c i (Y.R L)):=by grind
   rw[h3] at h2
   exact Int.nonneg_of_mul_nonneg_right h2 hd
 ·show upd S.β r c i≠_
  unfold upd
  split
  ·unfold Lay.R;omega
  ·exact hv.ne i hi
theorem HX {T:Nat->Nat->Int} {d:Int} {r c i j:Nat} (h1:T i j=0) (h2:T i c=0\/T r j=0):Dn.piv T d r c i j=0:=by
 unfold Dn.piv
 rw[h1,lT]
 rcases h2 with h | h
 ·rw[h,Int.zero_mul,Int.sub_zero,Int.zero_ediv]
 ·rw[h,lT,Int.sub_zero,Int.zero_ediv]
structure Swp (L:Lin) (Y:Lay) (i:Nat) (S:Sx):Prop where
 val:Y.Val L S
 right:∀k,k<L.m->Y.N<=S.β k->S.T k (Y.R L)=0
 rows:∀k,k<L.m->k<i->Y.N<=S.β k->∀j,j<Y.N->S.T k j=0
theorem Swp.step {i:Nat} {S:Sx} (h:Swp L Y i S) {j:Nat} (hi:i<L.m) (hj:j<Y.N) (hN:Y.N<=S.β i) (he:S.T i j≠0):Swp L Y i (oH S i j):=by
 have h0:=h.right i hi hN
 have up:∀k,k≠i->(oH S i j).β k=S.β k:=fun k hk=>by
  show upd S.β i j k=_
  unfold upd
  rw[if_neg hk]
 have ui:(oH S i j).β i=j:=by
  show upd S.β i j i=_
  unfold upd
  rw[if_pos rfl]
 have hT:∀k l,k≠i->(oH S i j).T k l=sg (S.T i j)*Dn.piv S.T S.d i j k l:=fun k l hk=>by
  show qL S.T S.d i j k l=_
  unfold qL
  rw[if_neg hk]
 refine ⟨Val.flat h.val hi hj he h0,fun k hk hb=>?_,fun k hk hlt hb l hl=>?_⟩
 ·have e:k≠i:=fun e=>by rw[e,ui] at hb;omega
  rw[up k e] at hb
  rw[hT k _ e,HX (h.right k hk hb) (.inr h0),lT]
 ·have e:k≠i:=by omega
  rw[up k e] at hb
  rw[hT k _ e,HX (h.rows k hk hlt hb l hl) (.inl (h.rows k hk hlt hb j hj)),lT]
def EY (L:Lin) (Y:Lay) (x3 cs:List Int) (o:Option ((List Nat×List (Option (List Int)))×Int×List Int×List Int×List Int×Int×Int×Bool×Unit)):Prop :=
 ∃S' ok,o=some (ja L.m (Y.w L) S'.T,S'.d,lF L.m S'.β,x3,cs,(Y.N:Int),((Y.R L:Nat):Int),ok,aC)/\Y.Val L S' /\
   (ok=true->AZ L Y S')/\(ok=false->(∀j,j<Y.N->0<=zr L.m (fX Y.N) S' j)/\0<sz L.m fun i=>fX Y.N (S'.β i)*S'.T i (Y.R L))
theorem H4 (h:Bnd L Y) (hp:(Y.w L) ^ L.m<=1180591620717411303424) {x3 cs:List Int} {S:Sx} (hv:Y.Val L S) :
  EY L Y x3 cs (bu (ja L.m (Y.w L) S.T) S.d (lF L.m S.β) x3 cs (Y.N:Int) ((Y.R L:Nat):Int)):=by
 have hm:=h.m
 have hw:=h.w
 have hN:Y.N<=Y.R L:=by unfold Lay.R;omega
 have hRw:Y.R L<Y.w L:=by unfold Lay.R Lay.w;omega
 unfold bu kC
 refine uf (γ:=Sx) (I:=fun (S:Sx) x=>x=rL L Y x3 cs S/\Y.Val L S)
  (Q:=EY L Y x3 cs)
  (μ:=fun S=>left L.m (Y.w L) Y.N (Y.R L) (Y.M L) (fX Y.N) S) ?_ (s:=S) ⟨rfl,hv⟩ (fD (KB (by unfold Lay.w;omega) S) hp)
 rintro rec S _ ⟨rfl,hv⟩
 obtain ⟨hd,hb⟩:=h.tab hv.tb
 have hbb:∀i j,i<L.m->j<Y.w L->(S.T i j).natAbs<4611686018427387904:=fun i j hi hj=>by have:=hb i j hi hj;omega
 have hart:∀j,j<Y.w L->aG (jH L.m (Y.w L) S.T,S.d,lF L.m S.β,x3,cs,(Y.N:Int),((Y.R L:Nat):Int)) (j:Int)=some (sz L.m fun i=>fX Y.N (S.β i)*S.T i j):=fun j hj =>
  xi (by omega) hj fun i hi=>by have:=hb i j hi hj;omega
 have hz:∀j,j<Y.N->zr L.m (fX Y.N) S j= - sz L.m fun i=>fX Y.N (S.β i)*S.T i j:=fun j hj=>by
  unfold zr
  rw[show fX Y.N j=0 from if_neg (by omega),Int.zero_mul,Int.zero_sub]
 rcases vv Y.N (fun j=>decide ((sz L.m fun i=>fX Y.N (S.β i)*S.T i j)>0)) with hnone | ⟨q,hq,hneg,hleast⟩
 ·left
  have search:∀{R:Type} {F:(Int×Int×PUnit->Option R)->Int×Int×PUnit->Option R} {Q:Option R->Prop},(∀again j,j<Y.N->F again ((-1:Int),(j:Int),aC)=again ((-1:Int),((j+1:Nat):Int),aC)) ->
    (∃res,Q res/\∀again,F again ((-1:Int),(Y.N:Int),aC)=res)->Q (lpK (Int×Int×PUnit) R F ((-1:Int),(0:Int),aC)):=fun {R} {F} {Q} h1 h3=>by
   obtain ⟨res,h4,h5⟩:=h3
   have e:lpK (Int×Int×PUnit) R F ((-1:Int),(0:Int),aC)=res:=cq Y.N (by omega) (fun j=>((-1:Int),(j:Int),aC)) res rfl h1 h5
   rw[e]
   exact h4
  refine search (Q:=EY L Y x3 cs) (fun again j hj=>?_) ?_
  ·simp only[bC,cT,z7 (show (j:Int)<Y.N by omega),show decide ((-1:Int)<0)=true from rfl,iV,iT,hart j (by omega),af,hnone j hj,cF,bo (show j<=1000000 by omega)]
  ·simp only[bC,cT,cF,z8 (show ¬ (Y.N:Int)<Y.N by omega),show decide ((-1:Int)<0)=true from rfl,iV,iT,hart _ hRw,af]
   have hzr:∀j,j<Y.N->0<=zr L.m (fX Y.N) S j:=fun j hj=>by
    rw[hz j hj]
    have:=of_decide_eq_false (hnone j hj)
    omega
   by_cases hpos:(sz L.m fun i=>fX Y.N (S.β i)*S.T i (Y.R L))>0
   ·rw[z7 hpos]
    simp only[cT]
    exact ⟨_,⟨S,false,rfl,hv,fun e=>(by cases e),fun _=>⟨hzr,hpos⟩⟩,fun _=>rfl⟩
   ·rw[z8 hpos]
    simp only[cF]
    refine ⟨_,?_,fun _=>rfl⟩
    have hnn:∀i,i<L.m->0<=fX Y.N (S.β i)*S.T i (Y.R L):=fun i hi=>ph (by unfold fX;split<;>omega) (hv.feas i hi)
    have hS:Swp L Y 0 S:=by
     refine ⟨hv,fun k hk hNk=>?_,fun k _ h0=>by omega⟩
     have h1:(sz L.m fun i=>if i=k then fX Y.N (S.β k)*S.T k (Y.R L) else 0)<=sz L.m fun i=>fX Y.N (S.β i)*S.T i (Y.R L):=qY fun i hi=>by
      by_cases e:i=k
      ·rw[if_pos e,e];exact pH _
      ·rw[if_neg e];exact hnn i hi
     rw[ia hk fun i _ hne=>if_neg hne,if_pos rfl] at h1
     have h2:=hnn k hk
     have h3:fX Y.N (S.β k)=1:=if_pos hNk
     rw[h3,Int.one_mul] at h1 h2
     omega
    refine uf (γ:=Nat×Sx) (I:=fun g x=>x=((g.1:Int),rL L Y x3 cs g.2)/\g.1<=L.m/\Swp L Y g.1 g.2)
     (Q:=EY L Y x3 cs)
     (μ:=fun g=>L.m - g.1) ?_ (s:=(0,S)) ⟨rfl,by omega,hS⟩ (by simp only;omega)
    rintro rec2 ⟨i,S⟩ _ ⟨rfl,hi,hS⟩
    simp only at hi hS
    by_cases hlt:i<L.m
    ·right
     simp only[gZ,z7 (show (i:Int)<L.m by omega),cT]
     have inner:∀{R:Type} {F:(Int×(List Nat×List (Option (List Int)))×Int×List Int×List Int×List Int×Int×Int×PUnit->Option R)->Int×(List Nat×List (Option (List Int)))×Int×List Int×List Int×List Int×Int×Int×PUnit->Option R} {k:(Int×(List Nat×List (Option (List Int)))×Int×List Int×List Int×List Int×Int×Int×PUnit->Option R)},
       (∀again (j:Nat) S,Swp L Y i S->j<=Y.N->(j<Y.N->Y.N<=S.β i->S.T i j=0->F again ((j:Int),rL L Y x3 cs S)=again (((j+1:Nat):Int),rL L Y x3 cs S))/\(j<Y.N->Y.N<=S.β i->S.T i j≠0->F again ((j:Int),rL L Y x3 cs S)=again (((j+1:Nat):Int),rL L Y x3 cs (oH S i j))) /\
        (¬ (j<Y.N/\Y.N<=S.β i)->F again ((j:Int),rL L Y x3 cs S)=k (((i+1:Nat):Int),rL L Y x3 cs S))) ->
       ∃S',Swp L Y (i+1) S'/\lpK _ R F ((0:Int),rL L Y x3 cs S)=k (((i+1:Nat):Int),rL L Y x3 cs S'):=fun {R} {F} {k} hF=>by
      refine uf (γ:=Nat×Sx) (I:=fun g x=>x=((g.1:Int),rL L Y x3 cs g.2)/\g.1<=Y.N/\Swp L Y i g.2/\(Y.N<=g.2.β i->∀l,l<g.1->g.2.T i l=0))
       (Q:=fun o=>∃S',Swp L Y (i+1) S'/\o=k (((i+1:Nat):Int),rL L Y x3 cs S')) (μ:=fun g=>Y.N - g.1) ?_ (s:=(0,S)) ⟨rfl,by omega,hS,fun _ l hl=>by omega⟩ (by simp only;omega)
      rintro rec3 ⟨j,S⟩ _ ⟨rfl,hj,hS,hz⟩
      simp only at hj hS hz
      obtain ⟨f1,f2,f3⟩:=hF rec3 j S hS hj
      by_cases hc:j<Y.N/\Y.N<=S.β i
      ·right
       by_cases h0:S.T i j=0
       ·refine ⟨(j+1,S),_,⟨rfl,by simp only;omega,hS,fun hN l hl=>?_⟩,by simp only;omega,f1 hc.1 hc.2 h0⟩
        simp only at hl
        by_cases e:l=j
        ·rw[e];exact h0
        ·exact hz hN l (by omega)
       ·refine ⟨(j+1,oH S i j),_,⟨rfl,by simp only;omega,hS.step hlt hc.1 hc.2 h0,fun hN=>?_⟩,by simp only;omega,f2 hc.1 hc.2 h0⟩
        have e:(oH S i j).β i=j:=by
         show upd S.β i j i=_
         unfold upd
         rw[if_pos rfl]
        rw[e] at hN
        omega
      ·left
       refine ⟨S,⟨hS.val,hS.right,fun k hk hlt' hN l hl=>?_⟩,f3 hc⟩
       by_cases e:k=i
       ·subst e
        exact hz hN l (by omega)
       ·exact hS.rows k hk (by omega) hN l hl
     have fin:∀{o},(∃S',Swp L Y (i+1) S'/\o=rec2 (((i+1:Nat):Int),rL L Y x3 cs S'))->∃(g:Nat×Sx) (y:_),(y=((g.1:Int),rL L Y x3 cs g.2)/\g.1<=L.m/\Swp L Y g.1 g.2)/\L.m - g.1<L.m - i/\o=rec2 y:=by
      rintro o ⟨S',h1,h2⟩
      exact ⟨(i+1,S'),_,⟨rfl,by simp only;omega,h1⟩,by simp only;omega,h2⟩
     refine fin (inner (fun again j S hS hj=>⟨fun c1 c2 c3=>?_,fun c1 c2 c3=>?_,fun c1=>?_⟩))
     ·have hjw:j<Y.w L:=by omega
      simp only[rL,z7 (show (j:Int)<Y.N by omega),lx,aH,z9,z7 hlt,cE (show bT i<=L.m from hlt),mg hlt,z7 (show (S.β i:Int)>=Y.N by omega),bt,p_,h_,cT,gZ,kR hlt,mm,jR hlt,av,aX hjw,z7 hjw,cE (show bT j<=Y.w L from hjw),z7 c3,cF,bo (show j<=1000000 by omega)]
     ·have hjw:j<Y.w L:=by omega
      simp only[rL,z7 (show (j:Int)<Y.N by omega),lx,aH,z9,z7 hlt,cE (show bT i<=L.m from hlt),mg hlt,z7 (show (S.β i:Int)>=Y.N by omega),bt,e_,p_,h_,cT,gZ,kR hlt,mm,jR hlt,av,aX hjw,z7 hjw,cE (show bT j<=Y.w L from hjw),z8 c3,bo (show j<=1000000 by omega),
       Bi (h.piv hS.val.tb hlt hjw c3),af]
      rfl
     ·by_cases c2:j<Y.N
      ·simp only[rL,z7 (show (j:Int)<Y.N by omega),lx,aH,z9,z7 hlt,cE (show bT i<=L.m from hlt),mg hlt,z8 (show ¬ (S.β i:Int)>=Y.N by omega),bt,p_,h_,cT,cF,bo (show i<=1000000 by omega)]
      ·simp only[rL,z8 (show ¬ (j:Int)<Y.N by omega),e_,Bool.true_or,h_,cT,cF,bo (show i<=1000000 by omega)]
    ·left
     have e:i=L.m:=by omega
     subst e
     simp only[gZ,z8 (show ¬ (L.m:Int)<L.m by omega),cF]
     exact ⟨S,true,rfl,hS.val,fun _ k hk hN=>⟨hS.rows k hk hk hN,hS.right k hk hN⟩,fun e=>by cases e⟩
 ·have hneg:=z12 hneg
  have hqw:q<Y.w L:=by omega
  have hent:EntersB L.m Y.N (fX Y.N) S q:=⟨hq,by rw[hz q hq];omega,fun j hj=>by rw[hz j (by omega)];have:=of_decide_eq_false (hleast j hj);omega⟩
  obtain ⟨b,hl1,hl2⟩:=CG (m:=L.m) (w:=Y.w L) (T:=S.T) (d:=S.d) (β:=S.β) (c:=q) (R:=Y.R L) (x1:=S.d) (x3:=x3) (x4:=cs) (x5:=(Y.N:Int)) (by omega) hqw hRw hbb
  rcases hl2 with ⟨e,hno⟩ | ⟨r,e,hlv⟩
  ·exfalso
   have h1:(sz L.m fun i=>fX Y.N (S.β i)*S.T i q)<=sz L.m fun _=>0:=qY fun i hi=>by
    have:=hno i hi
    unfold fX
    split<;>omega
   rw[jJ (f:=fun _=>0) fun _ _=>rfl] at h1
   omega
  ·subst e
   right
   have hpr:0<S.T r q:=hlv.pos
   have hr:=hlv.lt
   have hs:=Ix (m:=L.m) (w:=Y.w L) hpr
   refine ⟨oH S r q,rL L Y x3 cs (oH S r q),⟨rfl,hv.stepAt hRw hqw (by omega) hlv hs⟩,D1 (Lay.art h.ok).1 (Lay.art h.ok).2 hN hRw hv ⟨hent,hlv,hs⟩,?_⟩
   refine cq (q+1) (by omega) (fun j=>if j<=q then ((-1:Int),(j:Int),aC) else ((q:Int),(j:Int),aC)) _ (by rw[if_pos (by omega)];rfl) (fun again j hj=>?_) (fun again=>?_)
   ·by_cases e:j=q
    ·subst e
     rw[if_pos (by omega),if_neg (by omega)]
     simp only[bC,cT,z7 (show (j:Int)<Y.N by omega),show decide ((-1:Int)<0)=true from rfl,iV,iT,hart j hqw,af,z7 hneg,bo (show j<=1000000 by omega)]
    ·rw[if_pos (by omega),if_pos (by omega)]
     simp only[bC,cT,z7 (show (j:Int)<Y.N by omega),show decide ((-1:Int)<0)=true from rfl,iV,iT,hart j (by omega),af,hleast j (by omega),cF,bo (show j<=1000000 by omega)]
   ·rw[if_neg (by omega)]
    simp only[bC,cT,z8 (show ¬ (q:Int)<0 by omega),nH,Bool.and_false,cF,iV,iT,hl1,af,Bi (h.piv hv.tb hr hqw (show S.T r q≠0 by omega))]
    rfl
open Tryz Dn Dn.Sh
def an (p:Pg):Lin:=⟨p.1.length,p.2.length,fun k j=>(p.2.getD k rw0).1.getD j 0,fun k=>(p.2.getD k rw0).2.2,fun j=>p.1.getD j 0,fun k=>(p.2.getD k rw0).2.1⟩
def iQ (p:Pg):Nat->Nat
 | 0=>0
 | k+1=>iQ p k+if (p.2.getD k rw0).2.1=3 then 0 else 1
def ay (p:Pg):Lay:=⟨p.1.length+iQ p p.2.length,fun k=>p.1.length+iQ p k,fun k=>if (p.2.getD k rw0).2.2<0 then -1 else 1⟩
theorem wh {p:Pg}:∀k,iQ p k<=k
 | 0=>bY _
 | k+1=>by
  have:=wh (p:=p) k
  simp only[iQ]
  split<;>omega
theorem AX {p:Pg} {k:Nat}:∀{l:Nat},k<l->(p.2.getD k rw0).2.1≠3->iQ p k<iQ p l
 | 0,h,_=>by omega
 | l+1,h,h3=>by
  simp only[iQ]
  by_cases e:k=l
  ·subst e
   rw[if_neg h3];omega
  ·have:=AX (l:=l) (by omega) h3
   split<;>omega
theorem po {p:Pg} (hv:ValidP p):(ay p).ok (an p):=by
 have row:∀k,k<p.2.length->p.2.getD k rw0 ∈ p.2:=fun k hk=>by rw[aI hk];exact eX _
 refine ⟨Nat.le_add_right _ _,fun k hk=>?_,fun k hk h3=>⟨Nat.le_add_right _ _,?_⟩,fun k l hk hl h3 h4 e=>?_,fun k _=>?_,fun k _=>?_⟩
 ·have:=hv.kind _ (row k hk)
  show (p.2.getD k rw0).2.1=1\/(p.2.getD k rw0).2.1=2\/(p.2.getD k rw0).2.1=3
  omega
 ·have:=AX (p:=p) (k:=k) (l:=p.2.length) hk h3
  show p.1.length+iQ p k<p.1.length+iQ p p.2.length
  omega
 ·have e:p.1.length+iQ p k=p.1.length+iQ p l:=e
  rcases Nat.lt_trichotomy k l with h | h | h
  ·have:=AX (p:=p) h h3;omega
  ·exact h
  ·have:=AX (p:=p) h h4;omega
 ·show (if (p.2.getD k rw0).2.2<0 then (-1:Int) else 1)=1\/(if (p.2.getD k rw0).2.2<0 then (-1:Int) else 1)= -1
  split<;>omega
 ·show 0<=(if (p.2.getD k rw0).2.2<0 then (-1:Int) else 1)*(p.2.getD k rw0).2.2
  split<;>omega
theorem Cm {p:Pg} (hv:ValidP p):(ay p).w (an p)<=25/\(an p).m<=6:=by
 have h1:=wh (p:=p) p.2.length
 have h2:=hv.rows
 have h3:=hv.cost.2
 refine ⟨?_,h2⟩
 show p.1.length+iQ p p.2.length+p.2.length+1<=25
 omega
theorem pv {α:Type} {w:Nat} {f:Nat->α}:aW w f++[f w]=aW (w+1) f:=by
 unfold aW
 rw[List.range_succ,List.map_append]
 rfl
theorem J9 {m w:Nat} {T:Nat->Nat->Int}:fu m w T++[some (aW w (T m))]=fu (m+1) w T:=by
 unfold fu
 rw[List.range_succ,List.map_append]
 rfl
theorem Qg {l:List Int} {w:Nat} (h:l.length<=w):n_ 0 (bx w (0:Int))++n_ w l++List.drop (0+(n_ w l).length) (bx w 0)=aW w fun j=>l.getD j 0:=by
 rw[oK h]
 refine List.ext_getElem (by rw[av];simp;omega) fun i h1 h2=>?_
 rw[wk]
 have hi:i<w:=by rw[av] at h2;exact h2
 by_cases e:i<l.length
 ·rw[aI e,List.getElem_append_left (by simp;exact e)]
  simp
 ·rw[List.getElem_append_right (by simp;omega),c_,m_ (by omega)]
  simp
abbrev St:=Int×Int×(List Nat×List (Option (List Int)))×Int×List Int×List Int×List Int×Int×Int×PUnit
def Vg {R:Type} (p:Pg) (again:St->Option R) (x:St) (x_1:Int×List Int×PUnit):Option R :=
 let v21:List Int×PUnit:=(x_1.2.1,aC);jnK (Int×List Int×PUnit) R (fun (x_2:Int×List Int×PUnit)=>bif inB (aQ .i64 (x.2.2.2.2.2.2.2.1+x.2.1)) (aq x_2.2.1) then bif cl (bT (aS (aQ .i64 (x.2.2.2.2.2.2.2.1+x.2.1)))) (aq x_2.2.1) then bif dS (aq x.2.2.1.1+(1:Nat)) (24:Nat) then bif dS (aq x.2.2.2.2.2.1+(1:Nat)) (8:Nat) then bif dS (aq x.2.2.2.2.1+(1:Nat)) (8:Nat) then again (x_1.1,aQ .i64 (x.2.1+(1:Int)),(x.2.2.1.1++[aq x.2.2.1.2+(0:Nat)],x.2.2.1.2++[some (iF x_2.2.1 (aS (aQ .i64 (x.2.2.2.2.2.2.2.1+x.2.1))) (1:Int))]),x.2.2.2.1,x.2.2.2.2.1++[(aQ .i64 (x.2.2.2.2.2.2.2.1+x.2.1))],x.2.2.2.2.2.1++[x_2.1],x.2.2.2.2.2.2.1,x.2.2.2.2.2.2.2.1,x.2.2.2.2.2.2.2.2.1,aC) else none else none else none else none else none) fun (j:Int×List Int×PUnit->Option R)=>bif decide ((aT p.2 (aS x.2.1) ([],(0:Int),(0:Int))).2.2<(0:Int)) then lpK (Int×List Int×PUnit) R (fun (again:Int×List Int×PUnit->Option R) (x:Int×List Int×PUnit) =>
 let v25:Bool:=inB x.1 (aq x.2.1);
 let v26:Bool:=cl (bT (aS x.1)) (aq x.2.1);
 bif decide (x.1<(↑(aq x_1.2.1):Int)) then bif v25 then bif v26 then bif v25 then bif v26 then again (aQ .i64 (x.1+(1:Int)),iF x.2.1 (aS x.1) (aQ .i64 ((0:Int) - aT x.2.1 (aS x.1) (0:Int))),aC) else none else none else none else none else j ((-1:Int),x.2.1,aC)) ((0:Int),v21) else j ((1:Int),v21)
def UC {R:Type} (p:Pg) (again k:St->Option R) (x:St):Option R :=
 let v12:Int:=aQ .i64 (x.1+(1:Int));
 let v13:List Int×Int×Int:=aT p.2 (aS x.2.1) ([],(0:Int),(0:Int));
 let v14:List Int:=bx (aS (aQ .i64 (x.2.2.2.2.2.2.2.2.1+(1:Int)))) (0:Int);
 let v15:Bool:=inB x.1 (aS (aQ .i64 (x.2.2.2.2.2.2.2.2.1+(1:Int))));
 let v16:Bool:=cl (bT (aS x.1)) (aS (aQ .i64 (x.2.2.2.2.2.2.2.2.1+(1:Int))));
 let _:Int:=aQ .i64 (x.2.2.2.2.2.2.2.1+x.2.1);
 let v18:List Int:=n_ (aS (aQ .i64 (x.2.2.2.2.2.2.2.2.1+(1:Int)))) v13.1;
 let v19:List Int:=iF (n_ (0:Nat) v14++v18++List.drop ((0:Nat)+aq v18) v14) (aS x.2.2.2.2.2.2.2.2.1) v13.2.2;
 bif decide (x.2.1<(↑(aq p.2):Int)) then bif inB x.2.1 (aq p.2) then bif decide ((0:Int)<=aQ .i64 (x.2.2.2.2.2.2.2.2.1+(1:Int)))&&dS (aS (aQ .i64 (x.2.2.2.2.2.2.2.2.1+(1:Int)))) (8:Nat) then bif inB x.2.2.2.2.2.2.2.2.1 (aS (aQ .i64 (x.2.2.2.2.2.2.2.2.1+(1:Int)))) then bif cl (bT (aS x.2.2.2.2.2.2.2.2.1)) (aS (aQ .i64 (x.2.2.2.2.2.2.2.2.1+(1:Int)))) then jnK (Int×List Int×PUnit) R (Vg p again x) fun (j:Int×List Int×PUnit->Option R)=>bif decide (v13.2.1=(1:Int)) then bif v15 then bif v16 then j (v12,iF v19 (aS x.1) (1:Int),aC) else none else none else jnK (Int×List Int×PUnit) R (fun (x:Int×List Int×PUnit)=>j (x.1,x.2.1,aC)) fun (j:Int×List Int×PUnit->Option R)=>bif decide (v13.2.1=(2:Int)) then bif v15 then bif v16 then j (v12,iF v19 (aS x.1) (-1:Int),aC) else none else none else j (x.1,v19,aC) else none else none else none else none else k x
theorem KR {p:Pg} (hv:ValidP p) {R:Type} {again:St->Option R} {i:Nat} (hi:i<p.2.length) {f:Nat->Int} {s s0:Int}
  (hf:∀k,k<(ay p).w (an p)->f k=if k=(ay p).R (an p) then (an p).b i else if (an p).kd i≠3/\k=(ay p).sl i then (if (an p).kd i=1 then 1 else -1) else (p.2.getD i rw0).1.getD k 0) :
  Vg p again (s0,(i:Int),(List.range i,fu i ((ay p).w (an p)) ((ay p).M (an p))),1,lF i (fun k=>(ay p).N+k),aW i (ay p).σ,p.1,((ay p).N:Int),(((ay p).R (an p):Nat):Int),aC) (s,aW ((ay p).w (an p)) f,aC) =
   again (s,((i+1:Nat):Int),(List.range (i+1),fu (i+1) ((ay p).w (an p)) ((ay p).M (an p))),1,lF (i+1) (fun k=>(ay p).N+k),aW (i+1) (ay p).σ,p.1,((ay p).N:Int),(((ay p).R (an p):Nat):Int),aC):=by
 obtain ⟨h1,h2⟩:=Cm hv
 have hr:p.2.getD i rw0 ∈ p.2:=by rw[aI hi];exact eX _
 have hR:=hv.right _ hr
 have hl:=hv.len _ hr
 have hc:=hv.coefs _ hr
 have hn:=hv.cost.2
 have hbb:∀k,k<(ay p).w (an p)-> -1073741824<=f k/\f k<=1073741824:=fun k hk=>by
  rw[hf k hk]
  split
  ·exact z12 hR
  ·split
   ·split<;>omega
   ·by_cases e:k<(p.2.getD i rw0).1.length
    ·have:=z12 (hc ((p.2.getD i rw0).1.getD k 0) (by rw[aI e];exact eX _))
     omega
    ·rw[c_,m_ (by omega)]
     simp
 obtain ⟨w,hw⟩:∃w,w=(ay p).w (an p):=⟨_,rfl⟩
 have hNi:(ay p).N+i<w:=by rw[hw];show (ay p).N+i<(ay p).N+p.2.length+1;omega
 have hNw:(ay p).N+p.2.length+1=w:=hw.symm
 have hm6:p.2.length<=6:=h2
 rw[<-hw] at hf hbb h1 ⊢
 have fin:∀(σ:Int),σ=(ay p).σ i->(List.range i++[(fu i w ((ay p).M (an p))).length+0],fu i w ((ay p).M (an p))++[some ((aW w fun k=>σ*f k).set ((ay p).N+i) 1)])=(List.range (i+1),fu (i+1) w ((ay p).M (an p))):=fun σ hσ=>by
  rw[pF,lE,<-List.range_succ,iJ hNi,<-J9]
  congr 3
  congr 1
  refine cz fun k hk=>?_
  have hok:=po hv
  unfold Lay.M
  rw[hf k hk,hσ]
  have hNn:(an p).n<=(ay p).N:=hok.n
  have hRe:(ay p).R (an p)=(ay p).N+p.2.length:=rfl
  have hme:(an p).m=p.2.length:=rfl
  rw[hRe,hme]
  by_cases c1:k<(an p).n
  ·rw[if_neg (by omega),if_neg (by omega),if_pos c1,if_neg]
   ·rfl
   ·rintro ⟨e1,e2⟩
    have:=(hok.sl i hi e1).1
    omega
  ·rw[if_neg c1]
   by_cases c2:k<(ay p).N
   ·rw[if_neg (by omega),if_neg (by omega),if_pos c2]
    by_cases c3:(an p).kd i≠3/\k=(ay p).sl i
    ·rw[if_pos c3,if_pos c3]
    ·rw[if_neg c3,if_neg c3,c_,m_ (by rw[hl];exact Nat.not_lt.1 c1)]
     simp
   ·rw[if_neg c2]
    by_cases c3:k<(ay p).N+p.2.length
    ·rw[if_pos c3]
     by_cases c4:k=(ay p).N+i
     ·rw[if_pos c4,if_pos c4]
     ·rw[if_neg c4,if_neg c4,if_neg (by omega),if_neg]
      ·rw[c_,m_ (by rw[hl];exact Nat.not_lt.1 c1)]
       simp
      ·rintro ⟨e1,e2⟩
       have:=(hok.sl i hi e1).2
       omega
    ·rw[if_neg c3,if_neg (by omega),if_pos (by omega)]
 have hadd:aQ .i64 (((ay p).N:Int)+(i:Int))=(((ay p).N+i:Nat):Int):=by rw[aZ (by omega) (by omega)];rfl
 have hg:∀{n k:Nat},n<=1000->k<=24->dS n k=true:=fun {n k} h1 h2=>cZ (Nat.le_trans (Nat.mul_le_mul h1 h2) (by decide))
 have tail:∀(σ:Int),σ=(ay p).σ i->(bif inB (aQ .i64 (((ay p).N:Int)+(i:Int))) (aW w fun k=>σ*f k).length then bif cl (bT (aS (aQ .i64 (((ay p).N:Int)+(i:Int))))) (aW w fun k=>σ*f k).length then
   bif dS ((List.range i).length+1) 24 then bif dS ((aW i (ay p).σ).length+1) 8 then bif dS ((lF i fun k=>(ay p).N+k).length+1) 8 then
   again (s,aQ .i64 ((i:Int)+1),(List.range i++[(fu i w ((ay p).M (an p))).length+0],fu i w ((ay p).M (an p))++[some ((aW w fun k=>σ*f k).set (aS (aQ .i64 (((ay p).N:Int)+(i:Int)))) 1)]),1,
    (lF i fun k=>(ay p).N+k)++[aQ .i64 (((ay p).N:Int)+(i:Int))],aW i (ay p).σ++[σ],p.1,((ay p).N:Int),(((ay p).R (an p):Nat):Int),aC) else none else none else none else none else none) =
   again (s,((i+1:Nat):Int),(List.range (i+1),fu (i+1) w ((ay p).M (an p))),1,lF (i+1) (fun k=>(ay p).N+k),aW (i+1) (ay p).σ,p.1,((ay p).N:Int),(((ay p).R (an p):Nat):Int),aC):=fun σ hσ=>by
  rw[hadd,z9,fin σ hσ,av,aH,z7 hNi,cE hNi,pI,av,lx,hg (by omega) (by omega),hg (by omega) (by omega),bo (show i<=1000000 by omega),hσ,pv]
  simp only[cT]
  rw[show (lF i fun k=>(ay p).N+k)++[(((ay p).N+i:Nat):Int)]=lF (i+1) (fun k=>(ay p).N+k) from pv (f:=fun k=>(((ay p).N+k:Nat):Int))]
 unfold Vg
 simp only[wn,z9]
 by_cases hneg:(p.2.getD i rw0).2.2<0
 ·have hs:(ay p).σ i= -1:=if_pos hneg
  rw[z7 hneg,cond_true]
  refine cq w (by omega) (fun k=>((k:Int),aW w (fun j=>if j<k then -1*f j else f j),aC)) _ ?_ (fun again2 k hk=>?_) (fun again2=>?_)
  ·rw[cz (f:=fun j=>if j<0 then -1*f j else f j) (g:=f) fun j _=>if_neg (by omega)];rfl
  ·have hb:=hbb k hk
   simp only[av,aH,z9,z7 hk,z7 (show (k:Int)<w by omega),cE (show bT k<=w from hk),aX hk,cT,if_neg (Nat.lt_irrefl k),bo (show k<=1000000 by omega),aZ (show -9223372036854775808<=0 - f k by omega) (by omega),iJ hk]
   congr 3
   refine cz fun j _=>?_
   by_cases c:j=k
   ·rw[if_pos c,if_pos (by omega),c];omega
   ·rw[if_neg c]
    by_cases c2:j<k
    ·rw[if_pos c2,if_pos (by omega)]
    ·rw[if_neg c2,if_neg (by omega)]
  ·simp only[av,z8 (show ¬ (w:Int)<w by omega),cF]
   rw[cz (f:=fun j=>if j<w then -1*f j else f j) (g:=fun j=> -1*f j) fun j hj=>if_pos hj]
   have:=tail (-1) hs.symm
   simp only[av] at this
   exact this
 ·have hs:(ay p).σ i=1:=if_neg hneg
  rw[z8 hneg,cond_false]
  have:=tail 1 hs.symm
  rw[cz (f:=fun j=>1*f j) (g:=f) fun j _=>Int.one_mul _] at this
  exact this
theorem Mz {p:Pg} (hv:ValidP p) {R:Type} {k:St->Option R} :
  lpK St R (fun again x=>UC p again k x) ((p.1.length:Int),(0:Int),([],[]),(1:Int),[],[],p.1,((ay p).N:Int),(((ay p).R (an p):Nat):Int),aC) =
   k (((ay p).N:Int),(p.2.length:Int),ja p.2.length ((ay p).w (an p)) ((ay p).M (an p)),1,lF p.2.length (fun k=>(ay p).N+k),aW p.2.length (ay p).σ,p.1,((ay p).N:Int),(((ay p).R (an p):Nat):Int),aC):=by
 obtain ⟨h1,h2⟩:=Cm hv
 have hok:=po hv
 have hm6:p.2.length<=6:=h2
 obtain ⟨w,hw⟩:∃w,w=(ay p).w (an p):=⟨_,rfl⟩
 have hR1:(ay p).R (an p)+1=w:=by rw[hw]
 refine cq p.2.length (by omega) (fun i=>(((p.1.length+iQ p i:Nat):Int),(i:Int),(List.range i,fu i ((ay p).w (an p)) ((ay p).M (an p))),1,lF i (fun k=>(ay p).N+k),aW i (ay p).σ,p.1,((ay p).N:Int),(((ay p).R (an p):Nat):Int),aC)) _ rfl (fun again i hi=>?_) (fun again=>?_)
 ·have hr:p.2.getD i rw0 ∈ p.2:=by rw[aI hi];exact eX _
  have hl:=hv.len _ hr
  have hkd:=hv.kind _ hr
  have hN:p.1.length<=(ay p).N:=hok.n
  have hNR:(ay p).N+p.2.length=(ay p).R (an p):=rfl
  have hRw:(ay p).R (an p)<w:=by omega
  rw[<-hw] at h1
  have hsl:(ay p).sl i=p.1.length+iQ p i:=rfl
  have hcs:=wh (p:=p) i
  unfold UC
  simp only[bo (show (ay p).R (an p)<=1000000 by omega),hR1,z9,aH,z7 hi,z7 (show (i:Int)<p.2.length by omega),z7 (show (0:Int)<=(w:Nat) by omega),cZ (show w*8<=140737488355328 by omega),z7 hRw,cE (show bT ((ay p).R (an p))<=w from hRw),h_,cT,wn,Qg (show (p.2.getD i rw0).1.length<=w by omega),iJ hRw]
  by_cases k3:(p.2.getD i rw0).2.1=3
  ·have ec:iQ p (i+1)=iQ p i:=by simp only[iQ,if_pos k3,lE]
   rw[ec,z8 (show ¬ (p.2.getD i rw0).2.1=1 by omega),z8 (show ¬ (p.2.getD i rw0).2.1=2 by omega)]
   simp only[cF]
   have:=KR hv (again:=again) (s0:=((p.1.length+iQ p i:Nat):Int)) (s:=((p.1.length+iQ p i:Nat):Int)) hi (f:=fun k=>if k=(ay p).R (an p) then (p.2.getD i rw0).2.2 else (p.2.getD i rw0).1.getD k 0) (fun k hk=>by
    show (if k=(ay p).R (an p) then (p.2.getD i rw0).2.2 else (p.2.getD i rw0).1.getD k 0)=if k=(ay p).R (an p) then (p.2.getD i rw0).2.2 else _
    by_cases c:k=(ay p).R (an p)
    ·rw[if_pos c,if_pos c]
    ·rw[if_neg c,if_neg c,if_neg]
     rintro ⟨e,_⟩
     exact e k3)
   rw[<-hw] at this
   exact this
  ·have hslN:(ay p).sl i<(ay p).N:=(hok.sl i hi k3).2
   have hslw:p.1.length+iQ p i<w:=by omega
   have ec:iQ p (i+1)=iQ p i+1:=by simp only[iQ,if_neg k3]
   rw[ec]
   have step:∀(v:Int),v=(if (an p).kd i=1 then 1 else -1)->Vg p again ((((p.1.length+iQ p i:Nat):Int)),(i:Int),(List.range i,fu i ((ay p).w (an p)) ((ay p).M (an p))),1,lF i (fun k=>(ay p).N+k),aW i (ay p).σ,p.1,((ay p).N:Int),(((ay p).R (an p):Nat):Int),aC)
     (((p.1.length+iQ p i+1:Nat):Int),(aW w fun k=>if k=(ay p).R (an p) then (p.2.getD i rw0).2.2 else (p.2.getD i rw0).1.getD k 0).set (p.1.length+iQ p i) v,aC)=again (((p.1.length+(iQ p i+1):Nat):Int),((i+1:Nat):Int),(List.range (i+1),fu (i+1) ((ay p).w (an p)) ((ay p).M (an p))),1,lF (i+1) (fun k=>(ay p).N+k),aW (i+1) (ay p).σ,p.1,((ay p).N:Int),(((ay p).R (an p):Nat):Int),aC):=fun v hvv=>by
    rw[iJ hslw]
    have:=KR hv (again:=again) (s0:=((p.1.length+iQ p i:Nat):Int)) (s:=((p.1.length+iQ p i+1:Nat):Int)) hi (f:=fun k=>if k=p.1.length+iQ p i then v else if k=(ay p).R (an p) then (p.2.getD i rw0).2.2 else (p.2.getD i rw0).1.getD k 0) (fun k hk=>by
     show (if k=p.1.length+iQ p i then v else if k=(ay p).R (an p) then (p.2.getD i rw0).2.2 else (p.2.getD i rw0).1.getD k 0)=if k=(ay p).R (an p) then (p.2.getD i rw0).2.2 else _
     by_cases c:k=(ay p).R (an p)
     ·rw[if_pos c,if_pos c,if_neg (by omega)]
     ·rw[if_neg c,if_neg c]
      by_cases c2:k=p.1.length+iQ p i
      ·rw[if_pos c2,if_pos ⟨k3,c2⟩,hvv]
      ·rw[if_neg c2,if_neg fun h=>c2 h.2])
    rw[<-hw] at this ⊢
    exact this
   by_cases k1:(p.2.getD i rw0).2.1=1
   ·have:=step 1 (if_pos (show (an p).kd i=1 from k1)).symm
    rw[<-hw] at this
    rw[z7 k1]
    simp only[cT,z7 hslw,cE (show bT (p.1.length+iQ p i)<=w from hslw),bo (show p.1.length+iQ p i<=1000000 by omega)]
    exact this
   ·have k2:(p.2.getD i rw0).2.1=2:=by omega
    have:=step (-1) (if_neg (show ¬ (an p).kd i=1 from k1)).symm
    rw[<-hw] at this
    rw[z8 k1,z7 k2]
    simp only[cT,cF,z7 hslw,cE (show bT (p.1.length+iQ p i)<=w from hslw),bo (show p.1.length+iQ p i<=1000000 by omega)]
    exact this
 ·unfold UC
  simp only[z8 (show ¬ (p.2.length:Int)<p.2.length by omega),cF]
  rfl
theorem DF {p:Pg} (hv:ValidP p) {R:Type} {F:(Int×Int×PUnit->Option R)->Int×Int×PUnit->Option R} (Q:Option R->Prop)
  (hF:∀again (i:Nat) (s:Int),i<p.2.length->F again (s,(i:Int),aC)=bif !decide ((p.2.getD i rw0).2.1=3) then again (aQ .i64 (s+1),((i+1:Nat):Int),aC) else again (s,((i+1:Nat):Int),aC))
  (hf:∀again,Q (F again (((iQ p p.2.length:Nat):Int),(p.2.length:Int),aC))):Q (lpK (Int×Int×PUnit) R F ((0:Int),(0:Int),aC)):=by
 have hm:=hv.rows
 refine nW Q p.2.length (by omega) (fun i=>(((iQ p i:Nat):Int),(i:Int),aC)) rfl (fun again i hi=>?_) hf
 rw[hF again i _ hi]
 have:=wh (p:=p) i
 by_cases k3:(p.2.getD i rw0).2.1=3
 ·rw[z7 k3]
  simp only[iQ,if_pos k3,lE,bt,cF]
 ·rw[z8 k3]
  simp only[iQ,if_neg k3,e_,cT,bo (show iQ p i<=1000000 by omega)]
theorem Bh {p:Pg} (hv:ValidP p) {R:Type} {k:St->Option R} (Q:Option R->Prop)
  (h:Q (k (((ay p).N:Int),(p.2.length:Int),ja p.2.length ((ay p).w (an p)) ((ay p).M (an p)),1,lF p.2.length (fun k=>(ay p).N+k),aW p.2.length (ay p).σ,p.1,((ay p).N:Int),(((ay p).R (an p):Nat):Int),aC))) :
  Q (lpK St R (fun again x=>UC p again k x) ((p.1.length:Int),(0:Int),([],[]),(1:Int),[],[],p.1,((ay p).N:Int),(((ay p).R (an p):Nat):Int),aC)):=by
 rw[Mz hv]
 exact h
end
end Go.Proofs.YtlfdhaiigdllcaaGreat

namespace Go.Proofs.YtlfdhaiigdllcaaGreat
open Tryz Dn Dn.Sh
def fac (L:Lin):Nat->Int
 | 0=>L.F0
 | k+1=>L.F k
def pp (f:Nat->Int):Nat->Int
 | 0=>1
 | n+1=>pp f n*f n
def mx (f:Nat->Int):Nat->Int
 | 0=>f 0
 | n+1=>max (mx f n) (f (n+1))
def kI (L:Lin):Prop:=pp (fac L) (L.m+1)<=17592186044416/\pp (fac L) (L.m+1)*mx (fac L) L.m<=144115188075855872
instance (L:Lin):Decidable (kI L):=by unfold kI;infer_instance
theorem ER (L:Lin) (k:Nat):1<=fac L k:=by
 cases k with
 | zero=>exact L.F0_pos
 | succ k=>exact L.F_pos k
theorem Hj {f:Nat->Int}:∀{n:Nat},pp f (n+1)=f 0*pz n fun i=>f (i+1)
 | 0=>by simp[pp,pz]
 | n+1=>by
  have e:∀{n:Nat} {g:Nat->Int},pz (n+1) g=pz n g*g n:=by
   intro n
   induction n with
   | zero=>intro g;simp[pz]
   | succ n ih =>
    intro g
    have h:=ih (g:=fun i=>g (i+1))
    rw[pz,h,pz,ld]
  rw[pp,Hj (n:=n),e,ld]
theorem aex (L:Lin):pp (fac L) (L.m+1)=L.F0*L.P:=Hj
theorem BP {f:Nat->Int} (h:∀i,1<=f i):∀n,1<=pp f n
 | 0=>by simp[pp]
 | n+1=>by
  have h1:=BP h n
  have h2:=Int.mul_le_mul h1 (h n) (by omega) (by omega)
  simp only[pp]
  omega
theorem K6 {f:Nat->Int} (h:∀i,1<=f i) {n:Nat}:∀{k:Nat},pp f n<=pp f (n+k)
 | 0=>pH _
 | k+1=>by
  have h1:=K6 h (n:=n) (k:=k)
  have h2:=BP h (n+k)
  have h3:pp f (n+k)*1<=pp f (n+k)*f (n+k):=iD (h _) (by omega)
  rw[<-Nat.add_assoc]
  simp only[pp]
  omega
theorem W4 {f:Nat->Int} {n:Nat}:∀{i:Nat},i<=n->f i<=mx f n:=by
 induction n with
 | zero=>intro i h;rw[show i=0 by omega];exact pH _
 | succ n ih =>
  intro i h
  simp only[mx]
  by_cases e:i=n+1
  ·rw[e];omega
  ·have:=ih (i:=i) (by omega)
   omega
theorem WC {f:Nat->Int} {B:Int}:∀{n:Nat},(∀i,i<=n->f i<=B)->mx f n<=B
 | 0,h=>h 0 (by omega)
 | n+1,h=>by
  have h1:=WC (n:=n) fun i hi=>h i (by omega)
  have h2:=h (n+1) (by omega)
  simp only[mx]
  omega
theorem B4 {l:List Int} (h:∀n ∈ l,inC n=true) (j:Nat):ab (l.getD j 0)<=1048576:=by
 rw[sJ]
 by_cases e:j<l.length
 ·exact z12 (h _ (by rw[aI e];exact eX _))
 ·rw[c_,m_ (by omega)]
  simp
theorem zI {l:List Int} (h:∀n ∈ l,inC n=true) {n:Nat} (hn:n<=12):0<=sz n (fun j=>ab (l.getD j 0))/\sz n (fun j=>ab (l.getD j 0))<=12582912:=by
 refine ⟨kr fun _ _=>cn _,?_⟩
 have h1:=(lv (n:=n) (f:=fun j=>ab (l.getD j 0)) (B:=1048576) fun j _=>⟨by have:=cn (l.getD j 0);omega,B4 h j⟩).2
 omega
theorem M9 {p:Pg} (hv:ValidP p) {k:Nat} (hk:k<=p.2.length):fac (an p) k<=2147483648:=by
 have hn:=hv.cost.2
 cases k with
 | zero =>
  have:=zI hv.cs hn
  show 1+sz p.1.length (fun j=>ab (p.1.getD j 0))<=_
  omega
 | succ k =>
  have hr:p.2.getD k rw0 ∈ p.2:=by rw[aI (show k<p.2.length by omega)];exact eX _
  have h1:=zI (hv.coefs _ hr) hn
  have h2:=z12 (hv.right _ hr)
  have h3:ab (p.2.getD k rw0).2.2<=1073741824:=sJ.2 h2
  show 1+ab (p.2.getD k rw0).2.2+sz p.1.length (fun j=>ab ((p.2.getD k rw0).1.getD j 0))<=_
  omega
theorem GJ {l:List Int} {more:Int} (h:∀n ∈ l,inC n=true) (hl:l.length<=12) (hm:inR more=true):eU l more=some (1+ab more+sz l.length fun j=>ab (l.getD j 0)):=by
 have hm:=z12 hm
 have hma:ab more<=1073741824:=sJ.2 hm
 have hma0:=cn more
 unfold eU mZ
 rw[yJ (by omega) (by omega),obN]
 have e0:((more.natAbs:Nat):Int)=ab more:=rfl
 refine cq l.length (by omega) (fun i=>(1+ab more+sz i (fun j=>ab (l.getD j 0)),(i:Int),aC)) _ ?_ (fun again i hi=>?_) (fun again=>?_)
 ·rw[e0,aZ (x:=ab more) (by omega) (by omega),aZ (by omega) (by omega)]
  simp only[sz,Int.add_zero]
  rfl
 ·have h1:=B4 h i
  have h0:=cn (l.getD i 0)
  have h2:=zI h (n:=i) (by omega)
  have h3: -1048576<=l.getD i 0/\l.getD i 0<=1048576:=sJ.1 h1
  have e1:((l.getD i 0).natAbs:Int)=ab (l.getD i 0):=rfl
  simp only[aH,z9,z7 hi,z7 (show (i:Int)<l.length by omega),cT,yJ (show -9223372036854775808<=l.getD i 0 by omega) (by omega),af,e1,bo (show i<=1000000 by omega)]
  rw[aZ (x:=ab (l.getD i 0)) (by omega) (by omega),aZ (by omega) (by omega)]
  simp only[sz]
  congr 2
  omega
 ·simp only[z8 (show ¬ (l.length:Int)<l.length by omega),cF]
theorem Wh {n:Nat} {f:Nat->Int} (hn:n<=1000):fC (aW (n+1) f)=some (mx f n):=by
 unfold fC nq
 simp only[wn,av,z8 (show ¬ ((n+1:Nat):Int)<1 by omega),cF,show inB (0:Int) (n+1)=true from zC (by omega) (by omega),cT,aX (show 0<n+1 by omega)]
 refine cq n (by omega) (fun i=>(mx f i,((i+1:Nat):Int),aC)) _ rfl (fun again i hi=>?_) (fun again=>?_)
 ·simp only[z7 (show ((i+1:Nat):Int)<(n+1:Nat) by omega),aH,z7 (show i+1<n+1 by omega),z9,cT,aX (show i+1<n+1 by omega),Ve,bo (show i+1<=1000000 by omega)]
  rfl
 ·simp only[z8 (show ¬ ((n+1:Nat):Int)<(n+1:Nat) by omega),cF]
theorem JV {a b c:Int} (hc:0<c):a<=b / c↔a*c<=b:=Int.le_ediv_iff_mul_le hc
theorem IC {a b c:Int} (hc:0<c):a>b / c↔b<a*c:=Int.ediv_lt_iff_lt_mul hc
theorem yp {p:Pg} (hv:ValidP p):dn p=some (decide (kI (an p))):=by
 have hm:=hv.rows
 have hn:=hv.cost.2
 unfold dn pS
 rw[GJ hv.cs hn (by decide),obN]
 obtain ⟨f,hf⟩:∃f,f=fac (an p):=⟨_,rfl⟩
 have hpos:∀i,1<=f i:=fun i=>by rw[hf];exact ER _ i
 have hsm:∀k,k<=p.2.length->f k<=2147483648:=fun k hk=>by rw[hf];exact M9 hv hk
 have hF:kI (an p)=(pp f (p.2.length+1)<=17592186044416/\pp f (p.2.length+1)*mx f p.2.length<=144115188075855872):=by rw[hf];rfl
 refine cq p.2.length (by omega) (fun i=>(aW (i+1) f,(i:Int),aC)) _ ?_ (fun again i hi=>?_) (fun again=>?_)
 ·rw[hf]
  show _=([fac (an p) 0],(0:Int),aC)
  congr 2
 ·have hr:p.2.getD i rw0 ∈ p.2:=by rw[aI hi];exact eX _
  have h1:=GJ (hv.coefs _ hr) (by rw[hv.len _ hr];exact hn) (hv.right _ hr)
  simp only[aH,z9,z7 hi,z7 (show (i:Int)<p.2.length by omega),cT,h1,af,av,cZ (show (i+1+1)*8<=140737488355328 by omega),bo (show i<=1000000 by omega)]
  have e:f (i+1)=1+ab (p.2.getD i rw0).2.2+sz (p.2.getD i rw0).1.length (fun j=>ab ((p.2.getD i rw0).1.getD j 0)):=by
   rw[hf,hv.len _ hr]
   rfl
  rw[<-e,pv]
 ·simp only[z8 (show ¬ (p.2.length:Int)<p.2.length by omega),cF,av,Wh (show p.2.length<=1000 by omega),af]
  have hmx:1<=mx f p.2.length/\mx f p.2.length<=2147483648:=⟨nE (hpos 0) (W4 (by omega)),WC hsm⟩
  have round:∀{R:Type} {a b:Option R} (i:Nat),i<p.2.length+1->(bif nzB (f i) then bif decide (pp f i>aQ .i64 (Int.tdiv 17592186044416 (f i))) then a else b else none)=bif decide (pp f (i+1)>17592186044416) then a else b:=fun i hi=>by
   have h1:=hpos i
   have h2:=hsm i (by omega)
   rw[pZ (by omega),cond_true,Int.tdiv_eq_ediv_of_nonneg (by omega)]
   have h3:0<=17592186044416 / f i:=Int.ediv_nonneg (by omega) (by omega)
   have h4:17592186044416 / f i<=17592186044416:=Int.ediv_le_self _ (by omega)
   rw[aZ (by omega) (by omega),decide_eq_decide.2 (IC (a:=pp f i) (show 0<f i by omega))]
   rfl
  rcases vv (p.2.length+1) (fun i=>decide (pp f (i+1)>17592186044416)) with hnone | ⟨q,hq,hbig,hleast⟩
  ·have hall:∀i,i<=p.2.length+1->pp f i<=17592186044416:=fun i hi=>by
    cases i with
    | zero=>simp[pp]
    | succ i=>have:=of_decide_eq_false (hnone i (by omega));omega
   refine cq (p.2.length+1) (by omega) (fun i=>(pp f i,(i:Int),aC)) _ rfl (fun again i hi=>?_) (fun again=>?_)
   ·have h2:=hall (i+1) (by omega)
    have h3:=BP hpos (i+1)
    simp only[z7 (show (i:Int)<(p.2.length+1:Nat) by omega),aH,z7 hi,z9,aX hi,cE (show bT i<=p.2.length+1 from hi),cT,round i hi,hnone i hi,cF,bo (show i<=1000000 by omega)]
    rw[aZ (x:=pp f i*f i) (by simp only[pp] at h2 h3;omega) (by simp only[pp] at h2;omega)]
    rfl
   ·simp only[z8 (show ¬ ((p.2.length+1:Nat):Int)<(p.2.length+1:Nat) by omega),cF]
    rw[pZ (by omega),cond_true,Int.tdiv_eq_ediv_of_nonneg (by omega)]
    have h3:0<=144115188075855872 / mx f p.2.length:=Int.ediv_nonneg (by omega) (by omega)
    have h4:144115188075855872 / mx f p.2.length<=144115188075855872:=Int.ediv_le_self _ (by omega)
    rw[aZ (by omega) (by omega)]
    congr 1
    refine decide_eq_decide.2 ?_
    rw[JV (a:=pp f (p.2.length+1)) (show 0<mx f p.2.length by omega),hF]
    exact ⟨fun h=>⟨hall _ (by omega),h⟩,fun h=>h.2⟩
  ·have hlow:∀i,i<=q->pp f i<=17592186044416:=fun i hi=>by
    cases i with
    | zero=>simp[pp]
    | succ i=>have:=of_decide_eq_false (hleast i (by omega));omega
   refine cq q (by omega) (fun i=>(pp f i,(i:Int),aC)) _ rfl (fun again i hi=>?_) (fun again=>?_)
   ·have h2:=hlow (i+1) (by omega)
    have h3:=BP hpos (i+1)
    simp only[z7 (show (i:Int)<(p.2.length+1:Nat) by omega),aH,z7 (show i<p.2.length+1 by omega),z9,aX (show i<p.2.length+1 by omega),cE (show bT i<=p.2.length+1 by omega),cT,round i (by omega),hleast i hi,cF,bo (show i<=1000000 by omega)]
    rw[aZ (x:=pp f i*f i) (by simp only[pp] at h2 h3;omega) (by simp only[pp] at h2;omega)]
    rfl
   ·simp only[z7 (show (q:Int)<(p.2.length+1:Nat) by omega),aH,z7 hq,z9,aX hq,cE (show bT q<=p.2.length+1 from hq),cT,round q hq,hbig]
    congr 1
    refine (z8 ?_).symm
    rw[hF]
    rintro ⟨h1,_⟩
    have h2:=z12 hbig
    have h3:=K6 hpos (n:=q+1) (k:=p.2.length - q)
    rw[show q+1+(p.2.length - q)=p.2.length+1 by omega] at h3
    omega
theorem Cd {p:Pg} (hv:ValidP p) (hf:kI (an p)):Bnd (an p) (ay p):=by
 obtain ⟨h1,h2⟩:=Cm hv
 refine ⟨po hv,by omega,by omega,?_⟩
 rw[<-aex]
 exact hf.1
theorem R0 {p:Pg} (hf:kI (an p)) {k:Nat} (hk:k<=p.2.length):(an p).F0*(an p).P*fac (an p) k<=144115188075855872:=by
 rw[<-aex]
 have h1:=W4 (f:=fac (an p)) hk
 have h2:=BP (ER (an p)) ((an p).m+1)
 have h3:=iD h1 (show 0<=pp (fac (an p)) ((an p).m+1) by omega)
 exact nE h3 hf.2
end Go.Proofs.YtlfdhaiigdllcaaGreat

namespace Go.Proofs.YtlfdhaiigdllcaaGreat
noncomputable section
open Tryz Dn Dn.Sh
theorem zw {p:Pg} (j:Nat):lL p.1 j=dk (an p) j:=by
 unfold dk lL
 by_cases h:j<(an p).n
 ·rw[if_pos h];rfl
 ·rw[if_neg h,c_,m_ (Nat.not_lt.1 h)];rfl
theorem Ol {n d:Int} (hd:d≠0) (hn:n.natAbs<=1152921504606846976) (hd2:d.natAbs<=1152921504606846976):vj (C7 n d)=(prQ ((n:Rat) / d),0,()):=by
 obtain ⟨m1,m2,m3⟩:=Fj (s:=decide (n<0) !=decide (d<0)) (n:=n.natAbs) (d:=d.natAbs) (by omega)
 obtain ⟨m4,m5⟩:=E9 (s:=decide (n<0) !=decide (d<0)) m2 m3
 have hf:gF (C7 n d):=by
  unfold gF C7
  rw[m1,m4,m5]
  have a1:n.natAbs / f_ n.natAbs d.natAbs<=n.natAbs:=Nat.div_le_self _ _
  have a2:d.natAbs / f_ n.natAbs d.natAbs<=d.natAbs:=Nat.div_le_self _ _
  refine ⟨?_,by rw[<-m5] at *;omega⟩
  unfold sgn
  generalize n.natAbs / f_ n.natAbs d.natAbs=p at *
  split<;>omega
 unfold vj
 rw[if_pos hf,vY hd]
theorem yj {n d:Int} (hd:d≠0) (hn:n.natAbs<=1152921504606846976) (hd2:d.natAbs<=1152921504606846976):gF ((n:Rat) / d):=by
 have h:=Ol hd hn hd2
 rw[vY hd] at h
 rcases jY ((n:Rat) / d) with ⟨h1,_⟩ | ⟨_,h2⟩
 ·exact h1
 ·rw[h2] at h
  exact absurd (show (5:Int)=0 from congrArg (fun x:Fq×Int×Unit=>x.2.1) h) (by decide)
theorem A2 {M:List (List Int)} {d n:Int} {x2 x3 cs:List Int} {x5 x6:Int} (hd:0<d/\d<=17592186044416) (hn:n.natAbs<=1152921504606846976):bj (M,d,x2,x3,cs,x5,x6) n=some (prQ ((n:Rat) / (d:Rat))):=by
 simp only[bj,kH,FV (show -9223372036854775808<=n by omega) (by omega) (show -9223372036854775808<=d by omega) (by omega),af,if_neg (show ¬ d=0 by omega)]
 rw[vY (by omega)]
 unfold vj
 rw[if_pos (yj (by omega) hn (by omega))]
theorem Uq {n:Nat}:bx n (0:Int)=aW n fun _=>0:=by
 refine List.ext_getElem (by rw[av];simp) fun i h1 h2=>?_
 rw[wk,List.getElem_replicate]
theorem FR {p:Pg} (k:Nat) (x:Int):((ay p).σ k*x).natAbs=x.natAbs:=by
 show ((if (p.2.getD k rw0).2.2<0 then (-1:Int) else 1)*x).natAbs=_
 split<;>omega
theorem Tp {m w:Nat} {T:Nat->Nat->Int}:((ja m w T).1.all fun x=>fK (fu m w T) x)=true:=iV
theorem Rq {m w:Nat} {T:Nat->Nat->Int}:(ja m w T).1.map (fun x=>bD (fu m w T) x)=jH m w T:=iT
abbrev xL (p:Pg) (S:Sx):List Fq:=aW p.1.length fun j=>prQ (FZ (an p).m ((ay p).R (an p)) S j)
abbrev yL (p:Pg) (wc:Nat->Int) (S:Sx):List Fq:=aW p.2.length fun k=>prQ (vL (an p).m (ay p).N wc S (ay p).σ k)
def aeS (p:Pg) (S:Sx):Int:=sz (an p).m fun i=>dk (an p) (S.β i)*S.T i ((ay p).R (an p))
abbrev Kl (p:Pg) (S:Sx):Rat:=(aeS p S:Rat) / (S.d:Rat)
structure Infeas (p:Pg) (S:Sx):Prop where
 val:(ay p).Val (an p) S
 zr:∀j,j<(ay p).N->0<=zr (an p).m (fX (ay p).N) S j
 pos:0<sz (an p).m fun i=>fX (ay p).N (S.β i)*S.T i ((ay p).R (an p))
structure kp (p:Pg) (S:Sx) (q:Nat):Prop where
 val:(ay p).Val (an p) S
 az:AZ (an p) (ay p) S
 lt:q<(ay p).N
 neg:zr (an p).m (dk (an p)) S q<0
 no:∀i,i<(an p).m->S.T i q<=0
structure Opt (p:Pg) (S:Sx):Prop where
 val:(ay p).Val (an p) S
 az:AZ (an p) (ay p) S
 zr:∀j,j<(ay p).N->0<=zr (an p).m (dk (an p)) S j
abbrev DI:Fq×List Fq×List Fq:=((0,0),[],[])
def BZ (p:Pg) (o:Option ((Fq×List Fq×List Fq)×Int×Unit)):Prop :=
 (∃S,Infeas p S/\o=some (DI,22,()))\/(∃S q,kp p S q/\o=some (DI,21,()))\/∃S,Opt p S/\o=some ((prQ (Kl p S),xL p S,yL p (dk (an p)) S),0,())
theorem obQ {T R:Type} {Q:Option R->Prop} {o:Option T} {t:T} {k:T->Option R} (h:o=some t) (hk:Q (k t)):Q (ah o k):=by
 rw[h]
 exact hk
theorem Oq {p:Pg} (hv:ValidP p) (hf:kI (an p)):BZ p (ep p):=by
 have hB:=Cd hv hf
 obtain ⟨hw25,hm6'⟩:=Cm hv
 have hm6:p.2.length<=6:=hm6'
 have hn:=hv.cost.2
 have hok:=po hv
 have hpow:(ay p).w (an p) ^ (an p).m<=1180591620717411303424:=Nat.le_trans (Nat.pow_le_pow_left (show _<=64 by omega) _) (Nat.le_trans (Nat.pow_le_pow_right (by omega) hm6') (by decide))
 have hcnt:=wh (p:=p) p.2.length
 have hNe:aQ .i64 ((p.1.length:Int)+(iQ p p.2.length:Nat))=((ay p).N:Int):=by rw[aZ (by omega) (by omega)];rfl
 have hRe:aQ .i64 (((ay p).N:Int)+(p.2.length:Int))=(((ay p).R (an p):Nat):Int):=by
  have:(ay p).N=p.1.length+iQ p p.2.length:=rfl
  rw[aZ (by omega) (by omega)];rfl
 unfold ep lJ
 rw[pC,obN,kN.2 hv]
 simp only[bt,cF]
 rw[yp hv,obN,z7 hf]
 simp only[bt,cF]
 refine DF hv (BZ p) (fun again i s hi=>?_) (fun again=>?_)
 ·simp only[z7 (show (i:Int)<p.2.length by omega),aH,z7 hi,z9,cT,bo (show i<=1000000 by omega)]
 simp only[z8 (show ¬ (p.2.length:Int)<p.2.length by omega),cF,aj,iO,cZ (show (0+p.1.length)*8<=140737488355328 by omega),cT,af,hNe,hRe]
 refine Bh hv (BZ p) ?_
 obtain ⟨S,ok,h1,hvS,h2,h3⟩:=H4 hB hpow (x3:=aW p.2.length (ay p).σ) (cs:=p.1) (Lay.first hok)
 refine obQ (Q:=BZ p) h1 ?_
 cases ok with
 | false =>
  simp only[e_,cT]
  exact .inl ⟨S,⟨hvS,(h3 rfl).1,(h3 rfl).2⟩,rfl⟩
 | true =>
  simp only[bt,cF]
  obtain ⟨S,ok,h1,hvS,haS,h2,h3⟩:=JS hB hpow (x3:=aW p.2.length (ay p).σ) zw hvS (h2 rfl)
  refine obQ (Q:=BZ p) h1 ?_
  cases ok with
  | false =>
   simp only[e_,cT]
   obtain ⟨q,e1,e2,e3⟩:=h3 rfl
   exact .inr (.inl ⟨S,q,⟨hvS,haS,e1,e2,e3⟩,rfl⟩)
  | true =>
   simp only[bt,cF,z9,z7 (show (0:Int)<=(p.1.length:Nat) by omega),cZ (show p.1.length*8<=140737488355328 by omega),h_,cT,Uq]
   refine .inr (.inr ⟨S,⟨hvS,haS,h2 rfl⟩,?_⟩)
   obtain ⟨⟨d1,d2⟩,hb⟩:=hB.tab hvS.tb
   obtain ⟨_,hbP⟩:=hB.tabP hvS.tb
   have hRw:(ay p).R (an p)<(ay p).w (an p):=by unfold Lay.R Lay.w;omega
   have hm:(an p).m=p.2.length:=rfl
   have hcR:∀i,i<(an p).m-> -17592186044416<=dk (an p) (S.β i)*S.T i ((ay p).R (an p))/\dk (an p) (S.β i)*S.T i ((ay p).R (an p))<=17592186044416:=fun i hi=>hB.cost (hbP i _ hi hRw) _
   have hTR:∀i,i<(an p).m-> -17592186044416<=S.T i ((ay p).R (an p))/\S.T i ((ay p).R (an p))<=17592186044416:=fun i hi=>by have:=hb i _ hi hRw;omega
   refine cq (an p).m (by omega) (fun i=>(sz i (fun k=>dk (an p) (S.β k)*S.T k ((ay p).R (an p))),(i:Int),aW p.1.length (fun j=>sz i fun k=>if S.β k=j then S.T k ((ay p).R (an p)) else 0),aC)) _ rfl (fun again i hi=>?_) (fun again=>?_)
   ·have hiR:=hcR i hi
    have hs:=lv (n:=i) (f:=fun k=>dk (an p) (S.β k)*S.T k ((ay p).R (an p))) (B:=17592186044416) fun k hk=>hcR k (by omega)
    have h3:(i:Int)*17592186044416<=6*17592186044416:=z11 (by omega) (by omega)
    simp only[lx,aH,z9,z7 hi,z7 (show (i:Int)<(an p).m by omega),cE (show bT i<=(an p).m from hi),mg hi,cT,Tp,Rq,Bd,zw,af,gZ,kR hi,mm,jR hi,av,aX hRw,z7 hRw,cE (show bT ((ay p).R (an p))<=(ay p).w (an p) from hRw),bo (show i<=1000000 by omega)]
    rw[aZ (x:=dk (an p) (S.β i)*S.T i ((ay p).R (an p))) (by omega) (by omega),aZ (by omega) (by omega)]
    by_cases c:S.β i<p.1.length
    ·simp only[z7 (show (S.β i:Int)<p.1.length by omega),z7 c,cE (show bT (S.β i)<=p.1.length from c),cT,iJ c]
     congr 3
     congr 1
     refine cz fun j _=>?_
     by_cases e:j=S.β i
     ·subst e
      rw[if_pos rfl]
      simp only[sz]
      rw[jJ fun k hk=>if_neg fun e=>by have:=hvS.tb.inj (show k<(an p).m by omega) hi e;omega,if_pos trivial,Int.zero_add]
     ·rw[if_neg e]
      simp only[sz]
      rw[if_neg (Ne.symm e),Int.add_zero]
    ·simp only[z8 (show ¬ (S.β i:Int)<p.1.length by omega),cF]
     congr 3
     congr 1
     refine cz fun j hj=>?_
     simp only[sz]
     rw[if_neg (by omega),Int.add_zero]
   have hsV:=lv (n:=(an p).m) (f:=fun k=>dk (an p) (S.β k)*S.T k ((ay p).R (an p))) (B:=17592186044416) hcR
   have h6:((an p).m:Int)*17592186044416<=6*17592186044416:=z11 (by omega) (by omega)
   simp only[lx,z8 (show ¬ ((an p).m:Int)<(an p).m by omega),cF,iV,iT,cT,A2 ⟨d1,d2⟩ (show (sz (an p).m fun k=>dk (an p) (S.β k)*S.T k ((ay p).R (an p))).natAbs<=1152921504606846976 by omega),af,av]
   refine cq p.1.length (by omega) (fun j=>((j:Int),prQ (Kl p S),aW j (fun j=>prQ (FZ (an p).m ((ay p).R (an p)) S j)),[],aC)) _ rfl (fun again j hj=>?_) (fun again=>?_)
   ·have hx:=lv (n:=(an p).m) (f:=fun k=>if S.β k=j then S.T k ((ay p).R (an p)) else 0) (B:=17592186044416) fun k hk=>by
     have:=hTR k hk
     split<;>omega
    simp only[aH,z9,z7 hj,z7 (show (j:Int)<p.1.length by omega),cE (show bT j<=p.1.length from hj),aX hj,cT,A2 ⟨d1,d2⟩ (show (sz (an p).m fun k=>if S.β k=j then S.T k ((ay p).R (an p)) else 0).natAbs<=1152921504606846976 by omega),af,av,cZ (show (j+1)*16<=140737488355328 by omega),bo (show j<=1000000 by omega)]
    rw[show prQ (((sz (an p).m fun k=>if S.β k=j then S.T k ((ay p).R (an p)) else 0:Int):Rat) / (S.d:Rat))=(fun j=>prQ (FZ (an p).m ((ay p).R (an p)) S j)) j from rfl,pv]
   simp only[z8 (show ¬ (p.1.length:Int)<p.1.length by omega),cF]
   refine cq p.2.length (by omega) (fun k=>((k:Int),prQ (Kl p S),xL p S,aW k (fun k=>prQ (vL (an p).m (ay p).N (dk (an p)) S (ay p).σ k)),aC)) _ rfl (fun again k hk=>?_) (fun again=>?_)
   ·have hNk:(ay p).N+k<(ay p).w (an p):=by unfold Lay.w;omega
    have hcN:∀i,i<(an p).m-> -17592186044416<=dk (an p) (S.β i)*S.T i ((ay p).N+k)/\dk (an p) (S.β i)*S.T i ((ay p).N+k)<=17592186044416:=fun i hi=>hB.cost (hbP i _ hi hNk) _
    have hNke:aQ .i64 (((ay p).N:Int)+(k:Int))=(((ay p).N+k:Nat):Int):=by rw[aZ (by omega) (by omega)];rfl
    simp only[z7 (show (k:Int)<p.2.length by omega),cT,hNke]
    refine cq (an p).m (by omega) (fun i=>(sz i (fun i=>dk (an p) (S.β i)*S.T i ((ay p).N+k)),(i:Int),aC)) _ rfl (fun again2 i hi=>?_) (fun again2=>?_)
    ·have hiR:=hcN i hi
     have hs:=lv (n:=i) (f:=fun i=>dk (an p) (S.β i)*S.T i ((ay p).N+k)) (B:=17592186044416) fun k hk=>hcN k (by omega)
     have h3:(i:Int)*17592186044416<=6*17592186044416:=z11 (by omega) (by omega)
     simp only[aH,z9,z7 hi,z7 (show (i:Int)<(an p).m by omega),cE (show bT i<=(an p).m from hi),mg hi,cT,Bd,zw,af,gZ,kR hi,mm,jR hi,av,aX hNk,z7 hNk,cE (show bT ((ay p).N+k)<=(ay p).w (an p) from hNk),bo (show i<=1000000 by omega)]
     rw[aZ (x:=dk (an p) (S.β i)*S.T i ((ay p).N+k)) (by omega) (by omega),aZ (by omega) (by omega)]
     rfl
    ·have hs:=lv (n:=(an p).m) (f:=fun i=>dk (an p) (S.β i)*S.T i ((ay p).N+k)) (B:=17592186044416) hcN
     have hab:=FR (p:=p) k (sz (an p).m fun i=>dk (an p) (S.β i)*S.T i ((ay p).N+k))
     simp only[z8 (show ¬ ((an p).m:Int)<(an p).m by omega),cF,av,aH,z9,z7 hk,cE (show bT k<=p.2.length from hk),aX hk,cT,aZ (x:=(ay p).σ k*sz (an p).m fun i=>dk (an p) (S.β i)*S.T i ((ay p).N+k)) (by omega) (by omega),A2 ⟨d1,d2⟩ (show ((ay p).σ k*sz (an p).m fun i=>dk (an p) (S.β i)*S.T i ((ay p).N+k)).natAbs<=1152921504606846976 by omega),af,cZ (show (k+1)*16<=140737488355328 by omega),bo (show k<=1000000 by omega)]
     rw[show prQ ((((ay p).σ k*sz (an p).m fun i=>dk (an p) (S.β i)*S.T i ((ay p).N+k):Int):Rat) / (S.d:Rat))=(fun k=>prQ (vL (an p).m (ay p).N (dk (an p)) S (ay p).σ k)) k from rfl,pv]
   ·simp only[z8 (show ¬ (p.2.length:Int)<p.2.length by omega),cF]
end
end Go.Proofs.YtlfdhaiigdllcaaGreat

namespace Go.Proofs.YtlfdhaiigdllcaaGreat
open Tryz Dn Dn.Sh
def AV (p:Pg) (o:Option (List Fq×Int×Unit)):Prop :=
 (∃S,Infeas p S/\o=some (yL p (fX (ay p).N) S,0,()))\/∃S,(ay p).Val (an p) S/\AZ (an p) (ay p) S/\o=some ([],12,())
theorem M2 {p:Pg} (hv:ValidP p) (hf:kI (an p)):AV p (dl p):=by
 have hB:=Cd hv hf
 obtain ⟨hw25,hm6'⟩:=Cm hv
 have hm6:p.2.length<=6:=hm6'
 have hn:=hv.cost.2
 have hok:=po hv
 have hpow:(ay p).w (an p) ^ (an p).m<=1180591620717411303424:=Nat.le_trans (Nat.pow_le_pow_left (show _<=64 by omega) _) (Nat.le_trans (Nat.pow_le_pow_right (by omega) hm6') (by decide))
 have hcnt:=wh (p:=p) p.2.length
 have hNe:aQ .i64 ((p.1.length:Int)+(iQ p p.2.length:Nat))=((ay p).N:Int):=by rw[aZ (by omega) (by omega)];rfl
 have hRe:aQ .i64 (((ay p).N:Int)+(p.2.length:Int))=(((ay p).R (an p):Nat):Int):=by
  have:(ay p).N=p.1.length+iQ p p.2.length:=rfl
  rw[aZ (by omega) (by omega)];rfl
 unfold dl jL
 rw[pC,obN,kN.2 hv]
 simp only[bt,cF]
 rw[yp hv,obN,z7 hf]
 simp only[bt,cF]
 refine DF hv (AV p) (fun again i s hi=>?_) (fun again=>?_)
 ·simp only[z7 (show (i:Int)<p.2.length by omega),aH,z7 hi,z9,cT,bo (show i<=1000000 by omega)]
 simp only[z8 (show ¬ (p.2.length:Int)<p.2.length by omega),cF,aj,iO,cZ (show (0+p.1.length)*8<=140737488355328 by omega),cT,af,hNe,hRe]
 refine Bh hv (AV p) ?_
 obtain ⟨S,ok,h1,hvS,h2,h3⟩:=H4 hB hpow (x3:=aW p.2.length (ay p).σ) (cs:=p.1) (Lay.first hok)
 refine obQ (Q:=AV p) h1 ?_
 cases ok with
 | true =>
  simp only[cT]
  exact .inr ⟨S,hvS,h2 rfl,rfl⟩
 | false =>
  simp only[cF]
  refine .inl ⟨S,⟨hvS,(h3 rfl).1,(h3 rfl).2⟩,?_⟩
  obtain ⟨⟨d1,d2⟩,hb⟩:=hB.tab hvS.tb
  have hm:(an p).m=p.2.length:=rfl
  refine cq p.2.length (by omega) (fun k=>(aW k (fun k=>prQ (vL (an p).m (ay p).N (fX (ay p).N) S (ay p).σ k)),(k:Int),aC)) _ rfl (fun again k hk=>?_) (fun again=>?_)
  ·have hNk:(ay p).N+k<(ay p).w (an p):=by unfold Lay.w;omega
   have hNke:aQ .i64 (((ay p).N:Int)+(k:Int))=(((ay p).N+k:Nat):Int):=by
    have:(ay p).N=p.1.length+iQ p p.2.length:=rfl
    rw[aZ (by omega) (by omega)];rfl
   have hbk:∀i,i<(an p).m-> -1125899906842624<=S.T i ((ay p).N+k)/\S.T i ((ay p).N+k)<=1125899906842624:=fun i hi=>by have:=hb i _ hi hNk;omega
   have hbk2:∀i,i<(an p).m-> -17592186044416<=fX (ay p).N (S.β i)*S.T i ((ay p).N+k)/\fX (ay p).N (S.β i)*S.T i ((ay p).N+k)<=17592186044416:=fun i hi=>by
    have:=hb i _ hi hNk
    unfold fX
    split<;>omega
   have hs:=lv (n:=(an p).m) (f:=fun i=>fX (ay p).N (S.β i)*S.T i ((ay p).N+k)) (B:=17592186044416) hbk2
   have h6:((an p).m:Int)*17592186044416<=6*17592186044416:=z11 (by omega) (by omega)
   have hab:=FR (p:=p) k (sz (an p).m fun i=>fX (ay p).N (S.β i)*S.T i ((ay p).N+k))
   simp only[z7 (show (k:Int)<p.2.length by omega),cT,hNke,av,aH,z9,z7 hk,cE (show bT k<=p.2.length from hk),aX hk,iV,iT,xi (show (an p).m<=1000 by omega) hNk hbk,af,
    aZ (x:=(ay p).σ k*sz (an p).m fun i=>fX (ay p).N (S.β i)*S.T i ((ay p).N+k)) (by omega) (by omega),A2 ⟨d1,d2⟩ (show ((ay p).σ k*sz (an p).m fun i=>fX (ay p).N (S.β i)*S.T i ((ay p).N+k)).natAbs<=1152921504606846976 by omega),cZ (show (k+1)*16<=140737488355328 by omega),bo (show k<=1000000 by omega)]
   rw[show prQ ((((ay p).σ k*sz (an p).m fun i=>fX (ay p).N (S.β i)*S.T i ((ay p).N+k):Int):Rat) / (S.d:Rat))=(fun k=>prQ (vL (an p).m (ay p).N (fX (ay p).N) S (ay p).σ k)) k from rfl,pv]
  ·simp only[z8 (show ¬ (p.2.length:Int)<p.2.length by omega),cF]
def qN (p:Pg) (j:Nat):List Int:=p.2.map fun r=>r.1.getD j 0
def pU (p:Pg):List Int:=p.2.map fun r=>r.2.2
theorem He {g:Rw->Int} {rs:List Rw} {F:(List Int×Int×PUnit->Option (List Int))->List Int×Int×PUnit->Option (List Int)} (h:rs.length<=1000000)
  (hF:∀again (i:Nat),i<rs.length->F again ((rs.take i).map g,(i:Int),aC)=again ((rs.take i).map g++[g (rs.getD i rw0)],((i+1:Nat):Int),aC))
  (hf:∀again,F again (rs.map g,(rs.length:Int),aC)=some (rs.map g)):lpK (List Int×Int×PUnit) (List Int) F ([],(0:Int),aC)=some (rs.map g):=by
 refine (rY (α:=List Int×Int×PUnit) (σ:=Unit) rs.length (by omega) (fun i _=>((rs.take i).map g,(i:Int),aC)) (fun i s k=>bif true then k s else none) (fun _=>some (rs.map g)) ?_ ?_ ()).trans ?_
 ·intro again i _ hi
  rw[hF again i hi,cT]
  congr 2
  rw[aI hi,List.take_succ_eq_append_getElem hi,List.map_append]
  rfl
 ·intro again _
  rw[List.take_length]
  exact hf again
 ·refine (rm (p:=fun _=>true) (r:=none) rs.length (fun _ _ _=>rfl) rs.length 0 (by omega)).trans ?_
  rw[show ((rD 0 rs.length).all fun _=>true)=true from List.all_eq_true.2 fun _ _=>rfl]
  rfl
theorem yo {g:Rw->Int} {rs:List Rw} {i:Nat}:((rs.take i).map g).length<=rs.length:=by
 rw[iN,b_];omega
theorem NA {p:Pg} {j:Nat} (hv:ValidP p) (hj:j<p.1.length):fw p (j:Int)=some (qN p j):=by
 obtain ⟨c,rs⟩:=p
 unfold fw nB qN
 have h6:=hv.rows
 simp only at h6 hj
 refine He (rs:=rs) (g:=fun r=>r.1.getD j 0) (by omega) (fun again i hi=>?_) (fun again=>by simp)
 have hw:aQ .i64 ((i:Int)+1)=((i+1:Nat):Int):=by rw[aZ (by omega) (by omega)];rfl
 have hr:rs.getD i rw0 ∈ rs:=by rw[aI hi];exact eX _
 have hL:=hv.len _ hr
 have hT:=yo (g:=fun r=>r.1.getD j 0) (rs:=rs) (i:=i)
 simp only at hL
 simp only[aH,z7 hi,z7 (show (i:Int)<rs.length by omega),cT,z9,hw,z7 (show j<(rs.getD i rw0).1.length by omega),cZ (show (((rs.take i).map fun r=>r.1.getD j 0).length+1)*8<=140737488355328 by omega)]
theorem MZ {p:Pg} (hv:ValidP p):fz p=some (pU p):=by
 obtain ⟨c,rs⟩:=p
 unfold fz mX pU
 have h6:=hv.rows
 simp only at h6
 refine He (rs:=rs) (g:=fun r=>r.2.2) (by omega) (fun again i hi=>?_) (fun again=>by simp)
 have hw:aQ .i64 ((i:Int)+1)=((i+1:Nat):Int):=by rw[aZ (by omega) (by omega)];rfl
 have hT:=yo (g:=fun r=>r.2.2) (rs:=rs) (i:=i)
 simp only[aH,z7 hi,z7 (show (i:Int)<rs.length by omega),cT,z9,hw,cZ (show (((rs.take i).map fun r=>r.2.2).length+1)*8<=140737488355328 by omega)]
def C5 (k n:Int):Bool:=(decide (k≠1)||decide (n<=0))&&(decide (k≠2)||decide (0<=n))
def oW (p:Pg) (y:List Fq):Bool:=(rD 0 p.2.length).all fun i=>C5 (p.2.getD i rw0).2.1 (y.getD i (0,0)).1
theorem Kf {p:Pg} {y:List Fq} (hv:ValidP p) (hl:y.length=p.2.length):fy p y=some (oW p y):=by
 obtain ⟨c,rs⟩:=p
 unfold fy ni oW
 have h6:=hv.rows
 simp only at h6 hl ⊢
 refine (rY (α:=Int×PUnit) (σ:=Unit) rs.length (by omega) (fun i _=>((i:Int),aC)) (fun i s k=>bif C5 (rs.getD i rw0).2.1 (y.getD i (0,0)).1 then k s else some false) (fun _=>some true) ?_ ?_ ()).trans ?_
 ·intro again i _ hi
  have hw:aQ .i64 ((i:Int)+1)=((i+1:Nat):Int):=by rw[aZ (by omega) (by omega)];rfl
  simp only[aH,z7 hi,z7 (show (i:Int)<rs.length by omega),z7 (show i<y.length by omega),cT,z9,hw]
  obtain ⟨n,hn⟩:∃n,(y.getD i (0,0)).1=n:=⟨_,rfl⟩
  obtain ⟨kd,hkd⟩:∃kd,(rs.getD i rw0).2.1=kd:=⟨_,rfl⟩
  simp only[hn,hkd,C5]
  by_cases k1:kd=1<;>by_cases k2:kd=2<;>by_cases c1:n<=0<;>by_cases c2:0<=n<;>by_cases c3:n>0<;>by_cases c4:n<0<;>first | (exfalso;omega) | simp[k1,k2,c1,c2,c3,c4]
 ·intro again s
  simp only[z8 (show ¬ (rs.length:Int)<rs.length by omega),cF]
 ·refine (rm (p:=fun i=>C5 (rs.getD i rw0).2.1 (y.getD i (0,0)).1) (r:=some false) rs.length (fun _ _ _=>rfl) rs.length 0 (by omega)).trans ?_
  cases (rD 0 rs.length).all fun i=>C5 (rs.getD i rw0).2.1 (y.getD i (0,0)).1<;>rfl
end Go.Proofs.YtlfdhaiigdllcaaGreat

namespace Go.Proofs.YtlfdhaiigdllcaaGreat
noncomputable section
open Tryz Dn Dn.Sh
def AD (p:Pg) (y:List Fq):Bool:=(rD 0 p.1.length).all fun j=>(ip (qN p j) y 0).isSome
def Cn (p:Pg) (y:List Fq) (f:Nat->Int):Bool:=(rD 0 p.1.length).all fun j=>decide (BA ((ip (qN p j) y 0).getD 0) (f j:Rat)<=0)
theorem VL {p:Pg} {j:Nat} (hv:ValidP p) (hj:j<p.1.length):∀n ∈ qN p j,inC n=true:=fun n hn=>by
 obtain ⟨r,hr,rfl⟩:=List.mem_map.1 hn
 rw[aI (by rw[hv.len r hr];exact hj)]
 exact hv.coefs r hr _ (eX _)
theorem xX {p:Pg} {j:Nat}:(qN p j).length=p.2.length:=by unfold qN;rw[iN]
theorem sQ {p:Pg}:(pU p).length=p.2.length:=by unfold pU;rw[iN]
theorem Mc {p:Pg} (hv:ValidP p):∀n ∈ pU p,inR n=true:=fun n hn=>by
 obtain ⟨r,hr,rfl⟩:=List.mem_map.1 hn
 exact hv.right r hr
theorem Ks {R:Type} {n:Nat} {g h:Nat->Bool} {f:Bool×Int->Option R} {b:Nat->Bool×Int->(Bool×Int->Option R)->Option R}
  (hb:∀i s k,i<n->b i s k=k (s.1&&h i,bif g i then s.2 else 5)):∀(k i:Nat) (s:Bool×Int),i+k<=n ->
  upF b f k i s=f (s.1&&(rD i k).all h,bif (rD i k).all g then s.2 else 5)
 | 0,i,s,_=>by simp[upF]
 | k+1,i,s,hi=>by
  simp only[upF,hb i s _ (by omega)]
  rw[Ks hb k (i+1) _ (by omega)]
  simp only[List.range'_succ,List.all_cons,Bool.and_assoc]
  congr 2
  cases g i<;>cases (rD (i+1) k).all g<;>rfl
theorem Xm {l:List Int} {x:List Fq} {e:Int} (hl:l.length<=x.length) (h0:l.length<=1000000) (hc:∀n ∈ l,inR n=true) (hx:∀a ∈ x,okF a) :
  dj e l x=some (bif (ip l x 0).isSome then e else 5,prQ ((ip l x 0).getD 0)):=by
 rw[Wz hl h0 (fun n hn=>UT (hc n hn)) hx]
 cases ip l x 0<;>rfl
def xm (p:Pg) (y:List Fq):Option Rat:=ip (pU p) y 0
def Nc (p:Pg) (y:List Fq):Bool:=decide (0<(prQ ((xm p y).getD 0)).1)
def UJ (p:Pg) (y:List Fq):Bool:=Nc p y&&(oW p y&&Cn p y fun _=>0)
theorem GP {p:Pg} {y:List Fq} (h:y.length<=1000000):df p y=some (bif tB p&&okL y then bif decide (y.length=p.2.length) then bif AD p y&&(xm p y).isSome then (UJ p y,0,()) else (false,5,()) else (false,3,()) else (false,1,())):=by
 unfold df mi
 rw[pC,obN]
 simp only[P8 h,bC,jp,cT]
 cases hv:tB p with
 | false=>rfl
 | true =>
  simp only[bt,e_,cT]
  rw[obN]
  cases hx:okL y with
  | false=>rfl
  | true =>
   have hV:=kN.1 hv
   have hX:=Kr.1 hx
   have h6:=hV.rows
   have h7:=hV.cost.2
   simp only[bt,cF,h_,cT]
   by_cases hl:y.length=p.2.length
   ·simp only[z7 hl,z7 (show (y.length:Int)=p.2.length by omega),bt,cT,cF]
    refine (rY (α:=Bool×Int×Int×PUnit) p.1.length (by omega) (fun i (s:Bool×Int)=>(s.1,(i:Int),s.2,aC)) (fun j s k=>k (s.1&&decide (BA ((ip (qN p j) y 0).getD 0) ((0:Int):Rat)<=0),bif (ip (qN p j) y 0).isSome then s.2 else 5))
     (fun s=>some ((Nc p y&&(oW p y&&s.1))&&decide ((bif (xm p y).isSome then s.2 else 5)=0),bif (xm p y).isSome then s.2 else 5,())) ?_ ?_ (true,0)).trans ?_
    ·intro again i s hi
     have hw:aQ .i64 ((i:Int)+1)=((i+1:Nat):Int):=by rw[aZ (by omega) (by omega)];rfl
     have h1:=Yi (l:=qN p i) (x:=y) (e:=s.2) (by rw[xX];omega) (by rw[xX];omega) (VL hV hi) hX
     have h2:=VA (n:=0) (lI (EO (l:=qN p i) (x:=y))) (by omega)
     rw[pY] at h2
     simp only[z7 (show (i:Int)<p.1.length by omega),cT,NA hV hi,h1,eP,ls,h2,af,hw]
     cases decide (BA ((ip (qN p i) y 0).getD 0) ((0:Int):Rat)<=0)<;>cases s.1<;>rfl
    ·intro again s
     have h1:=Xm (l:=pU p) (x:=y) (e:=s.2) (by rw[sQ];omega) (by rw[sQ];omega) (Mc hV) hX
     simp only[z8 (show ¬ (p.1.length:Int)<p.1.length by omega),cF,MZ hV,h1,af,Kf hV hl]
     obtain ⟨n,hn⟩:∃n,(prQ ((ip (pU p) y 0).getD 0)).1=n:=⟨_,rfl⟩
     simp only[Nc,xm,hn]
     by_cases c1:n>0
     ·simp only[z7 c1]
      cases oW p y<;>cases s.1<;>rfl
     ·simp only[z8 c1]
      cases oW p y<;>cases s.1<;>rfl
    ·rw[Ks (n:=p.1.length) (g:=fun j=>(ip (qN p j) y 0).isSome) (h:=fun j=>decide (BA ((ip (qN p j) y 0).getD 0) ((0:Int):Rat)<=0)) (fun _ _ _ _=>rfl) p.1.length 0 _ (by omega)]
     rw[show ((rD 0 p.1.length).all fun j=>(ip (qN p j) y 0).isSome)=AD p y from rfl,show ((rD 0 p.1.length).all fun j=>decide (BA ((ip (qN p j) y 0).getD 0) ((0:Int):Rat)<=0))=Cn p y (fun _=>0) from rfl]
     unfold UJ
     cases AD p y<;>cases (xm p y).isSome<;>cases Nc p y<;>cases oW p y<;>cases Cn p y (fun _=>0)<;>rfl
   ·simp only[z8 hl,z8 (show ¬ (y.length:Int)=p.2.length by omega),e_,cT,cF]
end
end Go.Proofs.YtlfdhaiigdllcaaGreat

namespace Go.Proofs.YtlfdhaiigdllcaaGreat
open Tryz Dn Dn.Sh
def vX (x:List Fq) (j:Nat):Rat:=qv (x.getD j (0,0))
theorem Hm {f:Nat->Rat}:∀{n:Nat},sq (n+1) f=f 0+sq n fun i=>f (i+1)
 | 0=>by simp only[sq];grind
 | n+1=>by
  rw[sq,Hm (n:=n)]
  simp only[sq]
  grind
theorem GU:∀{l:List Int} {x:List Fq} {s q:Rat},l.length<=x.length->ip l x s=some q->q=s+sq l.length fun j=>((l.getD j 0:Int):Rat)*vX x j
 | [],x,s,q,_,h=>by
  unfold ip at h
  injection h with h
  simp only[List.length_nil,sq]
  grind
 | n ::l,[],s,q,hl,h=>by simp at hl
 | n ::l,a ::x,s,q,hl,h=>by
  unfold ip at h
  split at h
  ·have h1:=GU (l:=l) (x:=x) (by simpa using hl) h
   rw[j_,Hm,h1]
   have e1:∀j,(n ::l).getD (j+1) 0=l.getD j 0:=fun j=>rfl
   have e2:∀j,vX (a ::x) (j+1)=vX x j:=fun j=>rfl
   simp only[e1,e2]
   have e3:((n ::l).getD 0 0:Int)=n:=rfl
   have e4:vX (a ::x) 0=qv a:=rfl
   rw[e3,e4]
   grind
  ·cases h
theorem yR {l:List Int} {x:List Fq} (hl:l.length<=x.length) (h:(ip l x 0).isSome=true):(ip l x 0).getD 0=sq l.length fun j=>((l.getD j 0:Int):Rat)*vX x j:=by
 cases hq:ip l x 0 with
 | none=>rw[hq] at h;cases h
 | some q =>
  have:=GU hl hq
  rw[Option.getD_some,this]
  grind
theorem KS {a b:Rat}:BA a b<=0↔a<=b:=by
 unfold BA
 by_cases h:a<b
 ·rw[if_pos h]
  exact ⟨fun _=>Rat.le_of_lt h,fun _=>by omega⟩
 ·rw[if_neg h]
  by_cases h2:a=b
  ·rw[if_pos h2]
   exact ⟨fun _=>by rw[h2];exact Rat.le_refl,fun _=>by omega⟩
  ·rw[if_neg h2]
   refine ⟨fun h3=>by omega,fun h3=>?_⟩
   exact (h (Rat.lt_of_le_of_ne h3 h2)).elim
theorem Vr {α:Type} {P:α->Bool} {l:List α} (d:α):l.all P=true↔∀k,k<l.length->P (l.getD k d)=true:=by
 rw[<-zE (p:=P) d,mv]
 exact ⟨fun h k hk=>h k (List.mem_range'.2 ⟨k,hk,by omega⟩),fun h i hi=>by obtain ⟨k,hk,rfl⟩:=List.mem_range'.1 hi;exact h _ (by omega)⟩
theorem row_sum {p:Pg} {x:List Fq} (hv:ValidP p) (hl:x.length=p.1.length) {k:Nat} (hk:k<p.2.length) (h:(ip (p.2.getD k rw0).1 x 0).isSome=true):(ip (p.2.getD k rw0).1 x 0).getD 0=(an p).row (vX x) k:=by
 have hr:p.2.getD k rw0 ∈ p.2:=by rw[aI hk];exact eX _
 rw[yR (by rw[hv.len _ hr,hl];exact bY _) h,hv.len _ hr]
 rfl
theorem IT {p:Pg} {y:List Fq} (hy:∀a ∈ y,okF a) (hl:y.length=p.2.length):oW p y=true↔(an p).Sgn (vX y):=by
 have hpos:∀j,j<y.length->((0<=(y.getD j (0,0)).1↔0<=vX y j)/\((y.getD j (0,0)).1<=0↔vX y j<=0)):=fun j hj=>by
  have hok:=hy (y.getD j (0,0)) (by rw[aI hj];exact eX _)
  have h1:=pR hok
  have h2:=Ux hok
  have h3:=BJ hok
  refine ⟨h1.symm,?_⟩
  unfold vX
  constructor
  ·intro h
   by_cases c:(y.getD j (0,0)).1=0
   ·rw[h3.2 c];exact Rat.le_refl
   ·exact Rat.le_of_lt (h2.2 (by omega))
  ·intro h
   apply Int.not_lt.1
   intro h4
   have h5:=h1.2 (by omega)
   have h6:=h3.1 (Rat.le_antisymm h h5)
   omega
 unfold oW
 rw[mv]
 have key:∀k,k<p.2.length->(C5 (p.2.getD k rw0).2.1 (y.getD k (0,0)).1=true↔((an p).kd k=1->vX y k<=0)/\((an p).kd k=2->0<=vX y k)):=fun k hk=>by
  obtain ⟨h1,h2⟩:=hpos k (by omega)
  unfold C5
  have e1:(an p).kd k=(p.2.getD k rw0).2.1:=rfl
  rw[e1,z10,Bool.or_eq_true,Bool.or_eq_true,decide_eq_true_iff,decide_eq_true_iff,decide_eq_true_iff,decide_eq_true_iff,h1,h2]
  constructor
  ·rintro ⟨a1,a2⟩
   exact ⟨fun e=>a1.resolve_left fun h=>h e,fun e=>a2.resolve_left fun h=>h e⟩
  ·rintro ⟨a1,a2⟩
   refine ⟨?_,?_⟩
   ·by_cases c:(p.2.getD k rw0).2.1=1
    ·exact .inr (a1 c)
    ·exact .inl c
   ·by_cases c:(p.2.getD k rw0).2.1=2
    ·exact .inr (a2 c)
    ·exact .inl c
 constructor
 ·intro h
  exact ⟨fun k hk=>((key k hk).1 (h k (List.mem_range'.2 ⟨k,hk,by omega⟩))).1,fun k hk=>((key k hk).1 (h k (List.mem_range'.2 ⟨k,hk,by omega⟩))).2⟩
 ·rintro ⟨h1,h2⟩ i hi
  obtain ⟨k,hk,rfl⟩:=List.mem_range'.1 hi
  simp only[Nat.one_mul,d_]
  exact (key k hk).2 ⟨h1 k hk,h2 k hk⟩
theorem TF {p:Pg} {y:List Fq} (hl:y.length=p.2.length) {j:Nat} (h:(ip (qN p j) y 0).isSome=true):(ip (qN p j) y 0).getD 0=(an p).col (vX y) j:=by
 rw[yR (by rw[xX];omega) h,xX]
 refine ca fun k hk=>?_
 unfold qN
 have hk:k<p.2.length:=hk
 rw[aI (show k<(p.2.map fun r=>r.1.getD j 0).length by rw[iN];exact hk),List.getElem_map]
 show _=(((p.2.getD k rw0).1.getD j 0:Int):Rat)*_
 rw[aI hk]
theorem ND {p:Pg} {y:List Fq} (hl:y.length=p.2.length) (h:(xm p y).isSome=true):(xm p y).getD 0=(an p).rhs (vX y):=by
 unfold xm at h ⊢
 rw[yR (by rw[sQ];omega) h,sQ]
 refine ca fun k hk=>?_
 unfold pU
 have hk:k<p.2.length:=hk
 rw[aI (show k<(p.2.map fun r=>r.2.2).length by rw[iN];exact hk),List.getElem_map]
 show _=(((p.2.getD k rw0).2.2:Int):Rat)*_
 rw[aI hk]
theorem Uz {p:Pg} {x:List Fq} (hl:x.length=p.1.length) (h:(ip p.1 x 0).isSome=true):(ip p.1 x 0).getD 0=(an p).val (vX x):=by
 rw[yR (by omega) h]
 rfl
theorem Nz {p:Pg} {y:List Fq} {f:Nat->Int} (hl:y.length=p.2.length) (hf:AD p y=true):Cn p y f=true↔∀j,j<p.1.length->(an p).col (vX y) j<=(f j:Rat):=by
 unfold AD at hf
 rw[mv] at hf
 unfold Cn
 rw[mv]
 have hc:∀j,j<p.1.length->(ip (qN p j) y 0).getD 0=(an p).col (vX y) j:=fun j hj=>TF hl (hf j (List.mem_range'.2 ⟨j,hj,by omega⟩))
 constructor
 ·intro h j hj
  have:=h j (List.mem_range'.2 ⟨j,hj,by omega⟩)
  rw[decide_eq_true_iff,KS,hc j hj] at this
  exact this
 ·intro h i hi
  obtain ⟨k,hk,rfl⟩:=List.mem_range'.1 hi
  simp only[Nat.one_mul,d_]
  rw[decide_eq_true_iff,KS,hc k hk]
  exact h k hk
theorem HN {p:Pg} {y:List Fq} (hy:∀a ∈ y,okF a) (hly:y.length=p.2.length) (f3:AD p y=true) (f4:(xm p y).isSome=true) :
  UJ p y=true↔(an p).Ref (vX y):=by
 have hfit:gF ((xm p y).getD 0):=by
  unfold xm
  exact EO
 have hp:Nc p y=true↔0<(an p).rhs (vX y):=by
  unfold Nc
  rw[decide_eq_true_iff,<-ND hly f4]
  have h1:=pR (lI hfit)
  have h2:=BJ (lI hfit)
  rw[pY] at h1 h2
  constructor
  ·intro h
   exact Rat.lt_of_le_of_ne (h1.2 (by omega)) fun e=>by have:=h2.1 e.symm;omega
  ·intro h
   have a1:=h1.1 (Rat.le_of_lt h)
   have a2:¬ (prQ ((xm p y).getD 0)).1=0:=fun e=>by rw[h2.2 e] at h;exact Rat.lt_irrefl h
   omega
 unfold UJ
 simp only[z10]
 rw[hp,IT hy hly,Nz hly f3]
 constructor
 ·rintro ⟨a1,a2,a3⟩
  exact ⟨a2,fun j hj=>by have:=a3 j hj;simpa using this,a1⟩
 ·rintro ⟨a1,a2,a3⟩
  exact ⟨a3,a1,fun j hj=>by have:=a2 j hj;simpa using this⟩
def fct:Nat->Int
 | 0=>1
 | n+1=>((n:Int)+1)*fct n
theorem xF:∀n:Nat,0<=fct n
 | 0=>by decide
 | n+1=>ph (by omega) (xF n)
theorem Lk:∀{n k:Nat} {f:Nat->Int},k<=n->f k*pz n (fun j=>f (skip k j))=pz (n+1) f
 | n,0,f,_=>by
  simp only[pz]
  congr 1
 | 0,k+1,f,hk=>by omega
 | n+1,k+1,f,hk=>by
  have h1:=Lk (n:=n) (k:=k) (f:=fun j=>f (j+1)) (by omega)
  have e1:pz (n+1) (fun j=>f (skip (k+1) j))=f 0*pz n fun j=>f (skip k j+1):=by
   show f (skip (k+1) 0)*pz n (fun j=>f (skip (k+1) (j+1)))=_
   have e2:skip (k+1) 0=0:=by unfold skip;rw[if_pos (by omega)]
   have e3:(fun j=>f (skip (k+1) (j+1)))=fun j=>f (skip k j+1):=by
    funext j
    congr 1
    unfold skip
    by_cases c:j<k
    ·rw[if_pos (by omega),if_pos c]
    ·rw[if_neg (by omega),if_neg c]
   rw[e2,e3]
  have e4:pz (n+1+1) f=f 0*pz (n+1) fun j=>f (j+1):=rfl
  rw[e1,e4,<-h1,Int.mul_left_comm]
theorem BV:∀{n:Nat} {A:Nat->Nat->Int} {B:Nat->Int},(∀i j,i<n->j<n->ab (A i j)<=B j)->ab (det n A)<=fct n*pz n B
 | 0,A,B,_=>by simp[det,pz,fct,ab]
 | n+1,A,B,h=>by
  have hB:∀j,j<n+1->0<=B j:=fun j hj=>nE (cn _) (h 0 j (by omega) hj)
  simp only[det]
  refine nE Bm ?_
  have h1:∀k,k<n+1->ab (sgd k*A 0 k*det n (lG A k))<=fct n*pz (n+1) B:=fun k hk=>by
   rw[ld,LH,qw]
   have h2:=BV (n:=n) (A:=lG A k) (B:=fun j=>B (skip k j)) fun i j hi hj=>h (i+1) (skip k j) (by omega) (by unfold skip;split<;>omega)
   have h3:=Lk (n:=n) (k:=k) (f:=B) (by omega)
   have h4:=h 0 k (by omega) hk
   have h5:ab (A 0 k)*ab (det n (lG A k))<=B k*(fct n*pz n fun j=>B (skip k j)):=Int.mul_le_mul h4 h2 (cn _) (hB k hk)
   rw[<-h3]
   rw[Int.mul_left_comm] at h5
   exact h5
  have h6:=qY (n:=n+1) (f:=fun k=>ab (sgd k*A 0 k*det n (lG A k))) (g:=fun _=>fct n*pz (n+1) B) h1
  refine nE h6 ?_
  have h7:∀(q:Nat) (x:Int),sz q (fun _=>x)=(q:Int)*x:=fun q x=>by
   induction q with
   | zero=>simp[sz]
   | succ q ih =>
    simp only[sz]
    rw[ih,Int.natCast_add,Int.add_mul]
    simp
  rw[h7]
  show _<=((n:Int)+1)*fct n*pz (n+1) B
  rw[ld]
  exact pH _
theorem zV {x y:Int} (hx:1<=x) (hy:x<=y):∀{n i:Nat},pz n (fun q=>if q=i then y else x)<=y*x ^ n
 | 0,i=>by
  simp only[pz,Int.pow_zero]
  omega
 | n+1,0=>by
  show y*pz n (fun q=>if q+1=0 then y else x)<=_
  have e:pz n (fun q=>if q+1=0 then y else x)<=x ^ (n+1):=by
   have:∀k:Nat,pz k (fun q=>if q+1=0 then y else x)=x ^ k:=fun k=>by
    induction k with
    | zero=>exact (Int.pow_zero x).symm
    | succ k ih =>
     show x*pz k (fun q=>if q+1+1=0 then y else x)=_
     have e2:(fun q:Nat=>if q+1+1=0 then y else x)=fun q:Nat=>if q+1=0 then y else x:=by
      funext q
      rw[if_neg (by omega),if_neg (by omega)]
     rw[e2,ih,Int.pow_succ,Int.mul_comm]
   rw[this,Int.pow_succ]
   have h1:0<=x ^ n:=Int.pow_nonneg (by omega)
   have h2:x ^ n*1<=x ^ n*x:=iD hx h1
   omega
  exact iD e (by omega)
 | n+1,i+1=>by
  show x*pz n (fun q=>if q+1=i+1 then y else x)<=_
  have e2:(fun q:Nat=>if q+1=i+1 then y else x)=fun q:Nat=>if q=i then y else x:=by
   funext q
   by_cases c:q=i
   ·rw[if_pos (by omega),if_pos c]
   ·rw[if_neg (by omega),if_neg c]
  rw[e2,Int.pow_succ]
  have h1:=zV hx hy (n:=n) (i:=i)
  have h2:x*pz n (fun q=>if q=i then y else x)<=x*(y*x ^ n):=iD h1 (by omega)
  have e3:y*(x ^ n*x)=x*(y*x ^ n):=by grind
  rw[e3]
  exact h2
theorem Ck {m w c:Nat} {N:Nat->Nat->Int} {x y:Int} (hm:1<=m/\m<=1000) (hw:w<=1000) (hc:c<=w) (hx:1<=x) (hy:x<=y) (h1:∀i j,i<m->j<c->ab (N i j)<=x) (h2:∀i j,i<m->j<w->ab (N i j)<=y)
  (hb:fct m*(y*x ^ m)<4611686018427387904):ElBnd m w c N:=by
 refine ⟨hm,hw,hc,fun T d β hT hβ i j hi hj=>?_⟩
 rw[hT.bound hi hj]
 unfold dc
 have h3:=BV (n:=m) (A:=fp (om w N) (upd β i j)) (B:=fun q=>if q=i then y else x) fun p q hp hq=>?_
 ·refine Int.lt_of_le_of_lt h3 (Int.lt_of_le_of_lt ?_ hb)
  exact iD (zV hx hy) (xF m)
 ·unfold fp upd om
  have ab01:∀P:Prop,[Decidable P]->ab (if P then 1 else 0)<=1:=fun P _=>by split<;>decide
  by_cases c1:q=i
  ·rw[if_pos c1,if_pos c1]
   by_cases c2:j<w
   ·rw[if_pos c2]
    exact h2 p j hp c2
   ·rw[if_neg c2]
    exact nE (ab01 _) (by omega)
  ·rw[if_neg c1,if_neg c1]
   rcases hβ q hq with h | h
   ·rw[if_pos (by omega)]
    exact h1 p _ hp h
   ·rw[if_neg (by omega)]
    exact nE (ab01 _) hx
def me (n:Nat) (N:Nat->Nat->Int) (b:Nat->Int):Nat->Nat->Int:=fun i j=>if j<n then N i j else b i
def EqN (m n:Nat) (N:Nat->Nat->Int) (b:Nat->Int) (x:Nat->Rat):Prop:=∀i,i<m->(sq n fun j=>((N i j:Int):Rat)*x j)=((b i:Int):Rat)
theorem OM {n:Nat} {f:Nat->Rat}:∀{m:Nat},n<=m->(∀i,n<=i->i<m->f i=0)->sq m f=sq n f
 | 0,h,_=>by
  have:n=0:=by omega
  rw[this]
 | m+1,h,h0=>by
  by_cases c:n=m+1
  ·rw[c]
  ·simp only[sq]
   rw[OM (m:=m) (by omega) fun i h1 h2=>h0 i h1 (by omega),h0 m (by omega) (by omega)]
   grind
theorem zh:∀{n:Nat} {f:Nat->Rat} {k:Nat},k<n->(∀i,i<n->i≠k->f i=0)->sq n f=f k
 | n+1,f,k,hk,h=>by
  simp only[sq]
  by_cases e:k=n
  ·subst e
   rw[nS fun i hi=>h i (by omega) (by omega),Rat.zero_add]
  ·rw[zh (k:=k) (by omega) fun i hi hne=>h i (by omega) hne,h n (by omega) (fun h=>e h.symm),Rat.add_zero]
theorem lP {z:Int} (h:z≠0):((z:Int):Rat)≠0:=fun h0=>h (Rat.intCast_inj.1 h0)
section
variable {m n:Nat} {N:Nat->Nat->Int} {b:Nat->Int} {k:Nat} {p:Nat->Nat} {L:Nat->Nat->Int} {e:Int} {T:Nat->Nat->Int} {d:Int} {β:Nat->Nat} {s:Int}
theorem El.row_eq (h:El m (n+1) n (me n N b) n k p L e T d β s) {x:Nat->Rat} (hx:EqN m n N b x) {i:Nat} (hi:i<m):(sq n fun j=>((T i j:Int):Rat)*x j)=((T i n:Int):Rat):=by
 have hr:∀j,j<n+1+m->T i j=sz m fun q=>T i (n+1+q)*om (n+1) (me n N b) q j:=fun j hj =>
  h.tb.rows (a:=fun q=>n+1+q) (fun q hq=>by omega) (fun q hq r hr=>by
   unfold om
   rw[if_neg (by omega)]
   by_cases c:q=r
   ·rw[if_pos (by omega),if_pos c]
   ·rw[if_neg (by omega),if_neg c]) hi hj
 have h1:∀j,j<n->((T i j:Int):Rat)=sq m fun q=>((T i (n+1+q):Int):Rat)*((N q j:Int):Rat):=fun j hj=>by
  rw[hr j (by omega),<-oU]
  refine ca fun q _=>?_
  unfold om me
  rw[if_pos (by omega),if_pos hj,oF]
 have h2:((T i n:Int):Rat)=sq m fun q=>((T i (n+1+q):Int):Rat)*((b q:Int):Rat):=by
  rw[hr n (by omega),<-oU]
  refine ca fun q _=>?_
  unfold om me
  rw[if_pos (by omega),if_neg (by omega),oF]
 have h3:(sq n fun j=>((T i j:Int):Rat)*x j)=sq n fun j=>sq m fun q=>((T i (n+1+q):Int):Rat)*(((N q j:Int):Rat)*x j):=ca fun j hj=>by
  rw[h1 j hj,Rat.mul_comm,<-kc]
  exact ca fun q _=>by grind
 rw[h3,<-qT,h2]
 refine ca fun q hq=>?_
 rw[kc,hx q hq]
theorem El.row_val (h:El m (n+1) n (me n N b) n k p L e T d β s) {i:Nat} (hi:i<m):L i n=0↔T i n=0:=by
 rw[h.le i n hi (by omega)]
 rcases h.s1 with h1 | h1<;>rw[h1]<;>omega
theorem El.none (h:El m (n+1) n (me n N b) n k p L e T d β s) {i:Nat} (hk:k<=i) (hi:i<m) (h0:L i n≠0) (x:Nat->Rat):¬ EqN m n N b x:=fun hx=>by
 have h1:=h.row_eq hx hi
 rw[nS fun j hj=>by rw[h.z i j hk hi hj];exact Rat.zero_mul _] at h1
 exact h0 ((h.row_val hi).2 (Rat.intCast_inj.1 h1.symm))
theorem El.p_ge (h:El m (n+1) n (me n N b) n k p L e T d β s):∀i,i<k->i<=p i
 | 0,_=>Nat.zero_le _
 | i+1,hi=>by
  have h1:=h.p_ge i (by omega)
  have h2:=h.inc i (i+1) (by omega) hi
  omega
theorem El.k_le (h:El m (n+1) n (me n N b) n k p L e T d β s):k<=n:=by
 by_cases hk:k=0
 ·omega
 ·have h1:=h.p_ge (k - 1) (by omega)
  have h2:=(h.bp (k - 1) (by omega)).2
  omega
theorem El.p_id (h:El m (n+1) n (me n N b) n k p L e T d β s) (hk:k=n):∀i,i<n->p i=i:=by
 have key:∀q i,i+q=n - 1->i<n->p i<=i:=fun q=>by
  induction q with
  | zero=>intro i h1 h2;have:=(h.bp i (by omega)).2;omega
  | succ q ih =>
   intro i h1 h2
   have h3:=ih (i+1) (by omega) (by omega)
   have h4:=h.inc i (i+1) (by omega) (by omega)
   omega
 intro i hi
 have h1:=key (n - 1 - i) i (by omega) hi
 have h2:=h.p_ge i (by omega)
 omega
def AM (n:Nat) (L:Nat->Nat->Int) (e:Int) (i:Nat):Rat:=((L i n:Int):Rat) / ((e:Int):Rat)
theorem El.sol_eq (h:El m (n+1) n (me n N b) n k p L e T d β s) {i:Nat} (hi:i<m):((d:Int):Rat)*AM n L e i=((T i n:Int):Rat):=by
 have hd:=h.tb.dpos
 have hs:((s:Int):Rat)*((s:Int):Rat)=1:=by rw[<-oF,h.sne];rfl
 have he:((e:Int):Rat)≠0:=lP h.ene
 have e1:((e:Int):Rat)=((s:Int):Rat)*((d:Int):Rat):=by rw[h.de,oF]
 have e2:((L i n:Int):Rat)=((s:Int):Rat)*((T i n:Int):Rat):=by rw[h.le i n hi (by omega),oF]
 unfold AM
 rw[Rat.div_def]
 have h3:((e:Int):Rat)*((e:Int):Rat)⁻¹=1:=Rat.mul_inv_cancel _ he
 have h4:((d:Int):Rat)=((s:Int):Rat)*((e:Int):Rat):=by rw[e1];grind
 rw[h4,e2]
 grind
theorem El.unique (h:El m (n+1) n (me n N b) n k p L e T d β s) (hk:k=n) {x:Nat->Rat} (hx:EqN m n N b x) {i:Nat} (hi:i<n):x i=AM n L e i:=by
 have hkm:=h.km
 have him:i<m:=by omega
 have hb:=fun j (hj:j<n)=>show β j=j by rw[(h.bp j (by omega)).1,h.p_id hk j hj]
 have h1:=h.row_eq hx him
 rw[zh hi fun j hj hne=>by
  have h2:=h.tb.other him (show j<m by omega) (Ne.symm hne)
  rw[hb j hj] at h2
  rw[h2]
  exact Rat.zero_mul _] at h1
 have h3:=h.tb.basis him
 rw[hb i hi] at h3
 rw[h3,<-h.sol_eq him] at h1
 have hd:((d:Int):Rat)≠0:=lP (by have:=h.tb.dpos;omega)
 have h4:((d:Int):Rat)⁻¹*((d:Int):Rat)=1:=Rat.inv_mul_cancel _ hd
 have h5:=congrArg (fun z=>((d:Int):Rat)⁻¹*z) h1
 rw[<-Rat.mul_assoc,<-Rat.mul_assoc,h4,Rat.one_mul,Rat.one_mul] at h5
 exact h5
theorem El.solves (h:El m (n+1) n (me n N b) n k p L e T d β s) (hk:k=n) (h0:∀i,k<=i->i<m->L i n=0) {x:Nat->Rat} (hx:∀i,i<n->x i=AM n L e i):EqN m n N b x:=fun q hq=>by
 have hkm:=h.km
 have hb:=fun j (hj:j<n)=>show β j=j by rw[(h.bp j (by omega)).1,h.p_id hk j hj]
 have h1:=h.tb.co q hq n (by omega)
 have h2:om (n+1) (me n N b) q n=b q:=by unfold om me;rw[if_pos (by omega),if_neg (by omega)]
 rw[h2] at h1
 have h3:((d:Int):Rat)*((b q:Int):Rat)=sq m fun i=>((T i n:Int):Rat)*((om (n+1) (me n N b) q (β i):Int):Rat):=by
  rw[<-oF,h1,<-oU]
  exact ca fun i _=>by rw[oF]
 rw[OM (n:=n) (by omega) fun i h4 h5=>by rw[(h.row_val h5).1 (h0 i (by omega) h5)];exact Rat.zero_mul _] at h3
 have h6:(sq n fun i=>((T i n:Int):Rat)*((om (n+1) (me n N b) q (β i):Int):Rat))=((d:Int):Rat)*sq n fun j=>((N q j:Int):Rat)*x j:=by
  rw[<-kc]
  refine ca fun i hi=>?_
  rw[hb i hi,<-h.sol_eq (show i<m by omega),hx i hi]
  have:om (n+1) (me n N b) q i=N q i:=by unfold om me;rw[if_pos (by omega),if_pos hi]
  rw[this]
  grind
 rw[h6] at h3
 have hd:((d:Int):Rat)≠0:=lP (by have:=h.tb.dpos;omega)
 have h4:((d:Int):Rat)⁻¹*((d:Int):Rat)=1:=Rat.inv_mul_cancel _ hd
 have h5:=congrArg (fun z=>((d:Int):Rat)⁻¹*z) h3
 rw[<-Rat.mul_assoc,<-Rat.mul_assoc,h4,Rat.one_mul,Rat.one_mul] at h5
 exact h5.symm
end
def Wk (s:Sy):List Int:=aW s.1.length (bwS s)
theorem KW {s:Sy} (h:dz s=true):bW s=some (Wk s,0,()):=by
 have hv:=dD h
 have hb:=hv.bl
 simp only[bW,mB,ww,h,af,bt,cF]
 refine cq s.1.length (by omega) (fun i=>(aW i (bwS s),(i:Int),aC)) _ rfl (fun again i hi=>?_) (fun again=>?_)
 ·simp only[aH,z7 hi,z7 (show (i:Int)<s.1.length by omega),cT,z9,av,cZ (show (i+1)*8<=140737488355328 by omega),bN (show i<=1000000 by omega),show (aT s.1 i ({ data:={ toList:=[] } },(0:Int))).2=bwS s i from rfl,ju]
 ·simp only[z8 (show ¬ (s.1.length:Int)<s.1.length by omega),cF]
  rfl
def qq (s:Sy) (i:Nat):Rw:=(aW s.2.length (Mx s i),(3:Int),bwS s i)
def qX (s:Sy) (c:List Int):Pg:=(c,aW s.1.length (qq s))
theorem Q6 {s:Sy} (h:dz s=true) (c:List Int):gm s c=some (qX s c,0,()):=by
 have hv:=dD h
 have hb:=hv.bl
 unfold gm oV
 rw[yC h,af,KW h,af]
 refine (cF _ _).trans ((cF _ _).trans ?_)
 unfold uB Wk
 refine cq s.1.length (by omega) (fun i=>((i:Int),c,aW i (qq s),aC)) _ rfl (fun again i hi=>?_) (fun again=>?_)
 ·simp only[aH,cv,av,z7 hi,z7 (show (i:Int)<s.1.length by omega),cT,z9,cZ (show (i+1)*40<=140737488355328 by omega),bN (show i<=1000000 by omega),fV hi,aX hi]
  rw[show (aW s.2.length (Mx s i),(3:Int),bwS s i)=qq s i from rfl,ju]
 ·simp only[cv,z8 (show ¬ (s.1.length:Int)<s.1.length by omega),cF]
  rfl
theorem L0 {s:Sy} (h:dz s=false) (c:List Int):gm s c=some (([],[]),1,()):=by
 simp only[gm,oV,Hz h,af]
 rfl
def oS (s:Sy):List Int:=bx s.2.length 1
theorem LI (z:Int) {n:Nat} (hn:n<=1000000):eo [z] (n:Int)=some (bx n z):=by
 have hm:fA (aQ .u64 ((aq [z]:Nat):Int)) (aQ .u64 (n:Int))=some (0,(n:Int),()):=by
  simp only[fA,tV]
  rw[bU (by simp) (by simp),bU (by omega) (by omega),RH (by simp) (by simp) (by omega) (by omega),af]
  simp only[List.length_singleton]
  congr 1
  refine Prod.ext ?_ (Prod.ext ?_ rfl)
  ·show ((1:Nat):Int)*n / 18446744073709551616=0
   omega
  ·show ((1:Nat):Int)*n % 18446744073709551616=n
   omega
 have hw:aQ .i64 (n:Int)=(n:Int):=aZ (by omega) (by omega)
 simp only[eo,lq,jnT]
 rw[z8 (show ¬ (n:Int)<0 by omega),cF,hm,af]
 have h63:decide ((n:Int)>9223372036854775807)=false:=z8 (by omega)
 have hz0:decide ((0:Int)>0)=false:=rfl
 have hz1:decide ((0:Int)<=(n:Int))=true:=z7 (by omega)
 have hfb:dS n 8=true:=cZ (by omega)
 simp only[hw,hz0,h63,hz1,z9,hfb,e_,bt,p_,h_,cT,cF,List.drop_zero,List.take_zero,List.nil_append]
 refine vF (g:=fun _=>some (bx n z)) (I:=fun (x:Int×List Int×PUnit)=>∃c:Nat,x.1=c/\c<=n/\(0<n->0<c)/\x.2.1.length=n/\x.2.1.take c=bx c z) (μ:=fun (x:Int×List Int×PUnit)=>n - x.1.toNat) ?_ ?_ (by simp only;omega)
 ·rintro ⟨i,row,_⟩ rec ⟨c,h1,h2,h3,h4,h5⟩ hrec
  simp only at h1 h4 h5 hrec ⊢
  subst h1
  simp only[z9,h4]
  by_cases hc:c<n
  ·have hl:(n_ (n - c) (n_ c row)).length=min (n - c) c:=by rw[b_,b_,h4];omega
   rw[z7 (show (c:Int)<n by omega),cT,Bo (by omega) (by omega) (by omega),Bo (by omega) (by omega) (by omega),cE (by omega),cE (bY n)]
   simp only[h_,cT]
   rw[aZ (by omega) (by omega)]
   refine hrec _ ⟨c+min (n - c) c,?_,by omega,by omega,?_,?_⟩ ?_
   ·simp only;rw[hl];omega
   ·simp only[cL,l_,hl,h4,b_];omega
   ·simp only
    rw[List.take_append_of_le_length (by rw[cL,hl,b_,h4];omega),h5,List.take_replicate,List.replicate_append_replicate,List.take_replicate]
    congr 1
    omega
   ·simp only;rw[hl];omega
  ·have:c=n:=by omega
   subst this
   rw[z8 (show ¬ (c:Int)<c by omega),cF]
   rw[<-h5,oK (by omega)]
 ·refine ⟨(n_ n [z]).length,rfl,by rw[b_];omega,fun h=>by rw[b_];simp;omega,?_,?_⟩
  ·simp only[cL,l_,q_,b_,List.length_singleton];omega
  ·simp only
   rcases Nat.eq_zero_or_pos n with h | h
   ·subst h;rfl
   ·obtain ⟨m,rfl⟩:∃m,n=m+1:=⟨n - 1,by omega⟩
    simp
theorem Cq {s:Sy} (h:dz s=true):bv s=some (qX s (oS s),0,()):=by
 have hr:=(dD h).rl
 simp only[bv,lH,LI 1 (show s.2.length<=1000000 by omega),af]
 rw[show bx s.2.length (1:Int)=oS s from rfl,Q6 h]
 rfl
theorem L4 {s:Sy} (h:dz s=false) (hl:s.2.length<=1000000):bv s=some (([],[]),1,()):=by
 simp only[bv,lH,LI 1 hl,L0 h,af]
theorem lB {α:Type} {n:Nat} {f:Nat->α} {a:α}:a ∈ aW n f↔∃i,i<n/\f i=a:=by
 unfold aW
 rw[List.mem_map]
 exact ⟨fun ⟨i,h1,h2⟩=>⟨i,List.mem_range.1 h1,h2⟩,fun ⟨i,h1,h2⟩=>⟨i,List.mem_range.2 h1,h2⟩⟩
theorem Sr {s:Sy} (hv:ValidS s) {c:List Int} (hl:c.length=s.2.length) (hc:∀n ∈ c,inC n=true):ValidP (qX s c):=by
 have hb:=hv.bl
 have hr:=hv.rl
 refine ⟨⟨by show 1<=c.length;omega,by show c.length<=12;omega⟩,?_,hc,fun r h=>?_,fun r h=>?_,fun r h=>?_,fun r h n hn=>?_⟩
 ·show (aW s.1.length (qq s)).length<=6
  rw[av];omega
 all_goals
  obtain ⟨i,hi,rfl⟩:=lB.1 h
 ·show (aW s.2.length (Mx s i)).length=c.length
  rw[av,hl]
 ·exact ⟨by show (1:Int)<=3;omega,by show (3:Int)<=3;omega⟩
 ·have:=hv.wt i hi
  exact z7 (by show -1073741824<=bwS s i/\bwS s i<=1073741824;omega)
 ·obtain ⟨k,hk,rfl⟩:=lB.1 hn
  have:=yV hv i hk
  exact z7 (by omega)
theorem P7 {s:Sy} (hv:ValidS s):ValidP (qX s (oS s)):=Sr hv (by unfold oS;rw[q_]) fun n hn=>by
 rw[(List.mem_replicate.1 hn).2];rfl
def nA (s:ByteArray):Bool:=!decide ((s.size:Int)>60)
def yQ (s:Sy):Bool:=decide (s.1.length<=9/\s.2.length<=9)&&(s.1.all (fun b=>nA b.1)&&s.2.all (fun r=>nA r.1&&(!decide ((r.2.1.length:Int)>13)&&r.2.1.all fun h=>nA h.1)))
theorem Mh (s:Sy):iH s=some (yQ s):=by
 obtain ⟨bs,rs⟩:=s
 simp only[iH,rA,yQ]
 by_cases h0:bs.length<=9/\rs.length<=9
 ·rw[z7 h0,z8 (show ¬ (bs.length:Int)>9 by omega),z8 (show ¬ (rs.length:Int)>9 by omega)]
  simp only[e_,bt,p_,cT,cF,Bool.true_and]
  refine (zG (p:=fun b:Bk=>nA b.1) (d:=bk0) (l:=bs) (no:=some false) (yes:=some (rs.all (fun r=>nA r.1&&(!decide ((r.2.1.length:Int)>13)&&r.2.1.all fun h=>nA h.1)))) (by omega) ?_ ?_).trans ?_
  ·intro again i hi
   simp only[aH,z7 hi,z7 (show (i:Int)<bs.length by omega),cT,z9,bN (show i<=1000000 by omega),nA]
   generalize decide ((((bs.getD i bk0).1.size:Nat):Int)>60)=g
   cases g<;>rfl
  ·intro again
   simp only[z8 (show ¬ (bs.length:Int)<bs.length by omega),cF]
   refine (zG (p:=fun r:Rp=>nA r.1&&(!decide ((r.2.1.length:Int)>13)&&r.2.1.all fun h=>nA h.1)) (d:=rp0) (l:=rs) (no:=some false) (yes:=some true) (by omega) ?_ ?_).trans ?_
   ·intro again i hi
    simp only[aH,z7 hi,z7 (show (i:Int)<rs.length by omega),cT,z9,bN (show i<=1000000 by omega)]
    simp only[nA]
    generalize decide ((((rs.getD i rp0).1.size:Nat):Int)>60)=g1
    by_cases g:((rs.getD i rp0).2.1.length:Int)>13
    ·rw[z7 g]
     cases g1<;>rfl
    ·rw[z8 g]
     cases g1 with
     | true=>rfl
     | false =>
      simp only[bt,e_,p_,h_,Bool.true_and,cT,cF]
      refine zG (p:=fun h:Hd=>!decide (((h.1.size:Nat):Int)>60)) (d:=hd0) (l:=(rs.getD i rp0).2.1) (by omega) ?_ ?_
      ·intro again1 t ht
       simp only[aH,z7 ht,z7 (show (t:Int)<(rs.getD i rp0).2.1.length by omega),cT,z9,bN (show t<=1000000 by omega)]
       generalize decide (((((rs.getD i rp0).2.1.getD t hd0).1.size:Nat):Int)>60)=g
       cases g<;>rfl
      ·intro again1
       simp only[z8 (show ¬ ((rs.getD i rp0).2.1.length:Int)<(rs.getD i rp0).2.1.length by omega),cF]
   ·intro again
    simp only[z8 (show ¬ (rs.length:Int)<rs.length by omega),cF]
   ·cases rs.all (fun r=>nA r.1&&(!decide ((r.2.1.length:Int)>13)&&r.2.1.all fun h=>nA h.1))<;>rfl
  ·cases bs.all (fun b=>nA b.1)<;>rfl
 ·rw[z8 h0]
  by_cases g:(bs.length:Int)>9
  ·rw[z7 g];rfl
  ·rw[z8 g,z7 (show (rs.length:Int)>9 by omega)];rfl
theorem I5 {s:Sy} (h:yQ s=true):s.1.length<=9/\s.2.length<=9:=by
 unfold yQ at h
 rw[z10,decide_eq_true_iff] at h
 exact h.1
def rT (m n:Nat) (N:Nat->Nat->Int) (x:Nat->Rat):Prop:=∀i,i<m->(sq n fun j=>((N i j:Int):Rat)*x j)=0
section
variable {m w n:Nat} {N:Nat->Nat->Int} {k:Nat} {p:Nat->Nat} {L:Nat->Nat->Int} {e:Int} {T:Nat->Nat->Int} {d:Int} {β:Nat->Nat} {s:Int}
theorem El.row_sum (h:El m w n N n k p L e T d β s) {i j:Nat} (hi:i<m) (hj:j<w):T i j=sz m fun q=>T i (w+q)*N q j:=by
 rw[h.tb.rows (a:=fun q=>w+q) (fun q hq=>by omega) (fun q hq r hr=>by
   unfold om
   rw[if_neg (by omega)]
   by_cases c:q=r
   ·rw[if_pos (by omega),if_pos c]
   ·rw[if_neg (by omega),if_neg c]) hi (show j<w+m by omega)]
 refine bO fun q _=>?_
 unfold om
 rw[if_pos hj]
theorem El.row_nul (h:El m w n N n k p L e T d β s) (hw:n<=w) {x:Nat->Rat} (hx:rT m n N x) {i:Nat} (hi:i<m):(sq n fun j=>((T i j:Int):Rat)*x j)=0:=by
 have h3:(sq n fun j=>((T i j:Int):Rat)*x j)=sq n fun j=>sq m fun q=>((T i (w+q):Int):Rat)*(((N q j:Int):Rat)*x j):=ca fun j hj=>by
  rw[h.row_sum hi (show j<w by omega),<-oU,Rat.mul_comm,<-kc]
  exact ca fun q _=>by rw[oF];grind
 rw[h3,<-qT]
 exact nS fun q hq=>by rw[kc,hx q hq,Rat.mul_zero]
theorem El.nul_of (h:El m w n N n k p L e T d β s) (hw:n<=w) {x:Nat->Rat} (hx:∀i,i<k->(sq n fun j=>((T i j:Int):Rat)*x j)=0):rT m n N x:=fun q hq=>by
 have hd:((d:Int):Rat)≠0:=lP (by have:=h.tb.dpos;omega)
 have h1:((d:Int):Rat)*(sq n fun j=>((N q j:Int):Rat)*x j)=0:=by
  rw[<-kc]
  have h2:(sq n fun j=>((d:Int):Rat)*(((N q j:Int):Rat)*x j))=sq n fun j=>sq m fun i=>((om w N q (β i):Int):Rat)*(((T i j:Int):Rat)*x j):=ca fun j hj=>by
   have h3:=h.tb.co q hq j (by omega)
   have h4:om w N q j=N q j:=by unfold om;rw[if_pos (by omega)]
   rw[h4] at h3
   rw[<-Rat.mul_assoc,<-oF,h3,<-oU,Rat.mul_comm,<-kc]
   exact ca fun i _=>by rw[oF];grind
  rw[h2,<-qT]
  refine nS fun i hi=>?_
  rw[kc]
  by_cases c:i<k
  ·rw[hx i c,Rat.mul_zero]
  ·rw[nS fun j hj=>by rw[h.z i j (by omega) hi hj];exact Rat.zero_mul _,Rat.mul_zero]
 rcases Rat.mul_eq_zero.1 h1 with h2 | h2
 ·exact absurd h2 hd
 ·exact h2
theorem El.pn (h:El m w n N n k p L e T d β s) {i:Nat} (hi:i<k):p i<n:=(h.bp i hi).2
theorem El.p_inj (h:El m w n N n k p L e T d β s) {i j:Nat} (hi:i<k) (hj:j<k) (hp:p i=p j):i=j:=by
 rcases Nat.lt_trichotomy i j with c | c | c
 ·have:=h.inc i j c hj;omega
 ·exact c
 ·have:=h.inc j i c hi;omega
theorem El.t_piv (h:El m w n N n k p L e T d β s) {i i':Nat} (hi:i<m) (hi':i'<k):T i (p i')=if i=i' then d else 0:=by
 have hkm:=h.km
 rw[<-(h.bp i' hi').1]
 by_cases c:i=i'
 ·rw[if_pos c,c];exact h.tb.basis (by omega)
 ·rw[if_neg c];exact h.tb.other hi (by omega) c
def frQ (p:Nat->Nat) (L:Nat->Nat->Int) (e:Int) (c:Nat):Nat->Nat->Rat
 | 0,j=>if j=c then 1 else 0
 | k+1,j=>if j=p k then ((-(L k c):Int):Rat) / ((e:Int):Rat) else frQ p L e c k j
theorem Gm (h:El m w n N n k p L e T d β s) {c:Nat}:∀{q i:Nat},q<=k->i<q->frQ p L e c q (p i)=((-(L i c):Int):Rat) / ((e:Int):Rat)
 | 0,i,_,hi=>absurd hi (Nat.not_lt_zero _)
 | q+1,i,hq,hi=>by
  unfold frQ
  by_cases e1:i=q
  ·rw[if_pos (by rw[e1]),e1]
  ·rw[if_neg (fun e2=>e1 (h.p_inj (by omega) (by omega) e2))]
   exact Gm h (by omega) (by omega)
theorem uU {c j:Nat}:∀{q:Nat},(∀i,i<q->p i≠j)->frQ p L e c q j=if j=c then 1 else 0
 | 0,_=>rfl
 | q+1,hj=>by
  unfold frQ
  rw[if_neg (fun e1=>hj q (by omega) e1.symm)]
  exact uU fun i hi=>hj i (by omega)
theorem El.free_nul (h:El m w n N n k p L e T d β s) (hw:n<=w) {c:Nat} (hc:c<n) (hf:∀i,i<k->p i≠c):rT m n N (frQ p L e c k):=by
 refine h.nul_of hw fun i hi=>?_
 have hkm:=h.km
 have him:i<m:=by omega
 have hd:((d:Int):Rat)≠0:=lP (by have:=h.tb.dpos;omega)
 have hs:((s:Int):Rat)*((s:Int):Rat)=1:=by rw[<-oF,h.sne];rfl
 have e1:(sq n fun j=>((T i j:Int):Rat)*frQ p L e c k j)=sq n fun j=>(if j=p i then ((d:Int):Rat)*(((-(L i c):Int):Rat) / ((e:Int):Rat)) else 0)+(if j=c then ((T i c:Int):Rat) else 0):=ca fun j hj=>by
  by_cases hpj:∃q,q<k/\p q=j
  ·obtain ⟨q,hq,rfl⟩:=hpj
   rw[Gm h (bY _) hq,h.t_piv him hq,if_neg (hf q hq),Rat.add_zero]
   by_cases c1:i=q
   ·rw[if_pos c1,if_pos (by rw[c1]),c1]
   ·rw[if_neg c1,if_neg (fun e2=>c1 (h.p_inj hi hq e2.symm))]
    exact Rat.zero_mul _
  ·rw[uU fun q hq e2=>hpj ⟨q,hq,e2⟩,show (if j=p i then ((d:Int):Rat)*(((-(L i c):Int):Rat) / ((e:Int):Rat)) else 0)=0 from if_neg (fun e2=>hpj ⟨i,hi,e2.symm⟩),Rat.zero_add]
   by_cases c1:j=c
   ·rw[if_pos c1,if_pos c1,Rat.mul_one,c1]
   ·rw[if_neg c1,if_neg c1,Rat.mul_zero]
 rw[e1,Fi,zh (k:=p i) (h.pn hi) (fun j _ hj=>if_neg hj),if_pos rfl,zh (k:=c) hc (fun j _ hj=>if_neg hj),if_pos rfl,h.le i c him (by omega),h.de]
 rw[Rat.intCast_neg,oF,oF,Rat.div_def]
 have hs0:((s:Int):Rat)≠0:=fun e2=>by rw[e2,Rat.zero_mul] at hs;exact absurd hs (by decide)
 have hi2:(((s:Int):Rat)*((d:Int):Rat))*(((s:Int):Rat)*((d:Int):Rat))⁻¹=1:=Rat.mul_inv_cancel _ (fun e2=>(Rat.mul_eq_zero.1 e2).elim hs0 hd)
 grind
theorem El.free_end (h:El m w n N n k p L e T d β s) (hw:n<=w) {c j:Nat} (hc:c<n) (hj:c<j):frQ p L e c k j=0:=by
 have hkm:=h.km
 by_cases hpj:∃q,q<k/\p q=j
 ·obtain ⟨q,hq,rfl⟩:=hpj
  rw[Gm h (bY _) hq,h.le q c (by omega) (by omega),h.ech q c hq hj,lT]
  show ((0:Int):Rat) / _=0
  rw[Rat.div_def]
  exact Rat.zero_mul _
 ·rw[uU fun q hq e2=>hpj ⟨q,hq,e2⟩,if_neg (by omega)]
def Xq (n c:Nat) (x:Nat->Rat):Prop:=x c≠0/\∀j,c<j->j<n->x j=0
theorem El.piv_iff (h:El m w n N n k p L e T d β s) (hw:n<=w) {c:Nat} (hc:c<n):(∃i,i<k/\p i=c)↔¬ ∃x,rT m n N x/\Xq n c x:=by
 have hkm:=h.km
 refine ⟨fun ⟨i,hi,hp⟩ ⟨x,hx,h1,h2⟩=>?_,fun hn=>?_⟩
 ·have h3:=h.row_nul hw hx (show i<m by omega)
  rw[zh hc fun j hj hne=>?_] at h3
  ·rw[<-hp,h.t_piv (by omega) hi,if_pos rfl,hp] at h3
   rcases Rat.mul_eq_zero.1 h3 with h4 | h4
   ·exact lP (by have:=h.tb.dpos;omega) h4
   ·exact h1 h4
  ·rcases Nat.lt_or_ge j c with h4 | h4
   ·rw[h.ech i j hi (by omega)];exact Rat.zero_mul _
   ·rw[h2 j (by omega) hj,Rat.mul_zero]
 ·by_cases hpc:∃i,i<k/\p i=c
  ·exact hpc
  ·have hf:∀i,i<k->p i≠c:=fun i hi e1=>hpc ⟨i,hi,e1⟩
   refine absurd ⟨_,h.free_nul hw hc hf,?_,fun j h1 _=>h.free_end hw hc h1⟩ hn
   rw[uU hf,if_pos rfl]
   decide
theorem El.p_nodup (h:El m w n N n k p L e T d β s):(aW k p).Nodup:=by
 unfold aW
 rw[List.nodup_iff_pairwise_ne,List.pairwise_map]
 refine List.Pairwise.imp_of_mem (fun {a b} ha hb hab e1=>?_) (List.nodup_range (n:=k))
 exact hab (h.p_inj (List.mem_range.1 ha) (List.mem_range.1 hb) e1)
theorem El.full_or (h:El m w n N n k p L e T d β s):k=n\/∃c,c<n/\∀i,i<k->p i≠c:=by
 by_cases hf:∃c,c<n/\∀i,i<k->p i≠c
 ·exact .inr hf
 ·refine .inl ?_
  have hp:(aW k p).Perm (List.range n):=(List.perm_ext_iff_of_nodup h.p_nodup List.nodup_range).2 fun a=>by
   rw[lB,List.mem_range]
   refine ⟨fun ⟨i,hi,e1⟩=>e1 ▸ h.pn hi,fun ha=>?_⟩
   by_cases c:∃i,i<k/\p i=a
   ·exact c
   ·exact absurd ⟨a,ha,fun i hi e1=>c ⟨i,hi,e1⟩⟩ hf
  have:=hp.length_eq
  rw[av,pI] at this
  exact this
end
theorem Mg {m w n:Nat} {N:Nat->Nat->Int} {k:Nat} {p:Nat->Nat} {L:Nat->Nat->Int} {e:Int} {T:Nat->Nat->Int} {d:Int} {β:Nat->Nat} {s:Int} {m' w':Nat} {N':Nat->Nat->Int} {k':Nat} {p':Nat->Nat} {L':Nat->Nat->Int} {e':Int} {T':Nat->Nat->Int} {d':Int} {β':Nat->Nat} {s':Int}
  (h:El m w n N n k p L e T d β s) (hw:n<=w) (h':El m' w' n N' n k' p' L' e' T' d' β' s') (hw':n<=w') (hn:∀x,rT m n N x↔rT m' n N' x):k=k':=by
 have hp:(aW k p).Perm (aW k' p'):=(List.perm_ext_iff_of_nodup h.p_nodup h'.p_nodup).2 fun a=>by
  rw[lB,lB]
  have key:a<n->((∃i,i<k/\p i=a)↔∃i,i<k'/\p' i=a):=fun ha=>by
   rw[h.piv_iff hw ha,h'.piv_iff hw' ha]
   exact not_congr ⟨fun ⟨x,h1,h2⟩=>⟨x,(hn x).1 h1,h2⟩,fun ⟨x,h1,h2⟩=>⟨x,(hn x).2 h1,h2⟩⟩
  exact ⟨fun ⟨i,hi,e1⟩=>(key (e1 ▸ h.pn hi)).1 ⟨i,hi,e1⟩,fun ⟨i,hi,e1⟩=>(key (e1 ▸ h'.pn hi)).2 ⟨i,hi,e1⟩⟩
 have:=hp.length_eq
 rw[av,av] at this
 exact this
theorem SJ {m w n:Nat} {N:Nat->Nat->Int} {k:Nat} {p:Nat->Nat} {L:Nat->Nat->Int} {e:Int} {T:Nat->Nat->Int} {d:Int} {β:Nat->Nat} {s:Int} (h:El m w n N n k p L e T d β s) (hw:n=w) (hk:k<m) :
  ∃c:Nat->Int,(∃q,q<m/\c q≠0)/\∀j,j<n->(sz m fun q=>c q*N q j)=0:=by
 refine ⟨fun q=>T k (w+q),?_,fun j hj=>?_⟩
 ·have h1:=h.bs k (bY _) hk
  have h2:=h.tb.lt k hk
  refine ⟨β k - w,by omega,?_⟩
  show T k (w+(β k - w))≠0
  rw[show w+(β k - w)=β k by omega,h.tb.basis hk]
  have:=h.tb.dpos
  omega
 ·rw[<-h.row_sum hk (by omega)]
  exact h.z k j (bY _) hk hj
def trM (M:Nat->Nat->Int):Nat->Nat->Int:=fun q i=>M i q
theorem VP {m n:Nat} {M:Nat->Nat->Int} {b:Nat->Int} {x:Nat->Rat}:rT m n (me n M b) x↔rT m n M x:=by
 have e:∀i,(sq n fun j=>((me n M b i j:Int):Rat)*x j)=sq n fun j=>((M i j:Int):Rat)*x j:=fun i=>ca fun j hj=>by
  unfold me
  rw[if_pos hj]
 exact ⟨fun h i hi=>(e i).symm.trans (h i hi),fun h i hi=>(e i).trans (h i hi)⟩
section
variable {b r:Nat} {M:Nat->Nat->Int} {wv:Nat->Int} {k:Nat} {p:Nat->Nat} {L:Nat->Nat->Int} {e:Int} {T:Nat->Nat->Int} {d:Int} {β:Nat->Nat} {s:Int}
theorem El.some_nul {m w n:Nat} {N:Nat->Nat->Int} (h:El m w n N n k p L e T d β s) (hw:n<=w) (hk:k≠n):∃x,rT m n N x/\∃q,q<n/\x q≠0:=by
 rcases h.full_or with h1 | ⟨c,hc,hf⟩
 ·exact absurd h1 hk
 ·refine ⟨_,h.free_nul hw hc hf,c,hc,?_⟩
  rw[uU hf,if_pos rfl]
  decide
theorem VS {N:Nat->Nat->Int} (hi:∀x,rT b r M x->∀q,q<r->x q=0) (hN:∀q i,q<r->i<b->N q i=M i q) (h:El r b b N b k p L e T d β s):k=r:=by
 have hkm:=h.km
 by_cases hk:k=r
 ·exact hk
 ·obtain ⟨c,⟨q,hq,hc⟩,h1⟩:=SJ h rfl (by omega)
  have h2:=hi (fun q=>((c q:Int):Rat)) (fun i hib=>by
   have h3:=h1 i hib
   have h4:((sz r fun q=>c q*N q i:Int):Rat)=0:=by rw[h3];rfl
   rw[<-oU] at h4
   rw[<-h4]
   exact ca fun q hq=>by rw[oF,hN q i hq hib,Rat.mul_comm]) q hq
  exact absurd h2 (lP hc)
end
theorem Db {b r:Nat} {M:Nat->Nat->Int} {x:Nat->Rat} (hx:rT b r M x) {c:Nat} (hc:c<r) (h0:x c≠0) (y:Nat->Rat):rT (r - 1) b (fun q=>trM M (skip c q)) y↔rT r b (trM M) y:=by
 refine ⟨fun h=>?_,fun h q hq=>h (skip c q) (by unfold skip;split<;>omega)⟩
 have hne:∀q,q<r->q≠c->(sq b fun i=>((trM M q i:Int):Rat)*y i)=0:=fun q hq hqc=>by
  by_cases h1:q<c
  ·have h2:(sq b fun i=>((trM M (skip c q) i:Int):Rat)*y i)=0:=h q (by omega)
   rw[show skip c q=q by unfold skip;rw[if_pos h1]] at h2
   exact h2
  ·have h2:(sq b fun i=>((trM M (skip c (q - 1)) i:Int):Rat)*y i)=0:=h (q - 1) (by omega)
   rw[show skip c (q - 1)=q by unfold skip;rw[if_neg (by omega)];omega] at h2
   exact h2
 intro q hq
 by_cases hqc:q=c
 ·have h1:(sq r fun q=>x q*sq b fun i=>((trM M q i:Int):Rat)*y i)=0:=by
   have e1:(sq r fun q=>x q*sq b fun i=>((trM M q i:Int):Rat)*y i)=sq r fun q=>sq b fun i=>y i*(((M i q:Int):Rat)*x q):=ca fun q _=>by
    rw[<-kc]
    exact ca fun i _=>by unfold trM;grind
   rw[e1,qT]
   exact nS fun i hi=>by rw[kc,hx i hi,Rat.mul_zero]
  rw[zh hc fun q hq hqc=>by rw[hne q hq hqc,Rat.mul_zero]] at h1
  rcases Rat.mul_eq_zero.1 h1 with h2 | h2
  ·exact absurd h2 h0
  ·rw[hqc];exact h2
 ·exact hne q hq hqc
end Go.Proofs.YtlfdhaiigdllcaaGreat

namespace Go.Proofs.YtlfdhaiigdllcaaGreat
noncomputable section
open Tryz Dn Dn.Sh
structure TabF (m:Nat) (f:Nat->List Int) (t:List Nat×List (Option (List Int))):Prop where
 len:t.1.length=m
 cell:∀i,i<m->t.2.getD (t.1.getD i 0) none=some (f i)
 inj:∀i j,i<m->j<m->t.1.getD i 0=t.1.getD j 0->i=j
section
variable {m:Nat} {f g:Nat->List Int} {t:List Nat×List (Option (List Int))}
theorem TabF.row (h:TabF m f t) {i:Nat} (hi:i<m):bD t.2 (t.1.getD i 0)=f i:=by unfold bD;rw[h.cell i hi];rfl
theorem TabF.live (h:TabF m f t) {i:Nat} (hi:i<m):fK t.2 (t.1.getD i 0)=true:=by unfold fK;rw[h.cell i hi];rfl
theorem TabF.id_lt (h:TabF m f t) {i:Nat} (hi:i<m):t.1.getD i 0<t.2.length:=by
 have h1:=h.cell i hi
 by_cases h2:t.1.getD i 0<t.2.length
 ·exact h2
 ·rw[c_,m_ (by omega)] at h1
  cases h1
theorem TabF.congr (h:TabF m f t) (e:∀i,i<m->f i=g i):TabF m g t:=⟨h.len,fun i hi=>by rw[h.cell i hi,e i hi],h.inj⟩
theorem TabF.all (h:TabF m f t):(t.1.all fun x=>fK t.2 x)=true:=by
 rw[mv]
 intro x hx
 obtain ⟨i,hi,he⟩:=List.mem_iff_getElem.1 hx
 have:=h.live (show i<m by rw[<-h.len];exact hi)
 rw[aI hi,he] at this
 exact this
theorem TabF.map (h:TabF m f t):t.1.map (fun x=>bD t.2 x)=aW m f:=by
 refine List.ext_getElem (by rw[iN,h.len,av]) fun i h1 h2=>?_
 have hi:i<m:=by rw[av] at h2;exact h2
 have hi':i<t.1.length:=by rw[h.len];exact hi
 have e1:=h.row hi
 rw[aI hi'] at e1
 rw[List.getElem_map,e1,wk h2]
theorem TabF.app (h:TabF m f t) {i:Nat} (hi:i<m) {x:List Int} (hg:∀k,k<m->(if k=i then f i++x else f k)=g k):TabF m g (t.1.set i t.2.length,t.2.set (t.1.getD i 0) none++[some (f i++x)]++[]):=by
 have hid:∀k,(t.1.set i t.2.length).getD k 0=if k=i then t.2.length else t.1.getD k 0:=fun k=>by
  rw[c_,List.getElem?_set]
  by_cases c:i=k
  ·rw[if_pos c,if_pos (by rw[h.len];exact hi),if_pos c.symm];rfl
  ·rw[if_neg c,if_neg fun e=>c e.symm,c_]
 refine ⟨by rw[oN];exact h.len,fun k hk=>?_,fun k l hk hl he=>?_⟩
 ·show (t.2.set (t.1.getD i 0) none++[some (f i++x)]++[]).getD ((t.1.set i t.2.length).getD k 0) none=_
  rw[hid,<-hg k hk,gO,c_]
  by_cases c:k=i
  ·rw[if_pos c,if_pos c,mT (by rw[oN];omega),oN,Nat.sub_self]
   rfl
  ·have hl:=h.id_lt hk
   rw[if_neg c,if_neg c,o_ (by rw[oN];exact hl),List.getElem?_set,if_neg fun e=>c (h.inj k i hk hi e.symm),<-c_,h.cell k hk]
 ·have he':(t.1.set i t.2.length).getD k 0=(t.1.set i t.2.length).getD l 0:=he
  rw[hid,hid] at he'
  by_cases c:k=i
  ·by_cases c2:l=i
   ·rw[c,c2]
   ·rw[if_pos c,if_neg c2] at he'
    have:=h.id_lt hl
    omega
  ·by_cases c2:l=i
   ·rw[if_neg c,if_pos c2] at he'
    have:=h.id_lt hk
    omega
   ·rw[if_neg c,if_neg c2] at he'
    exact h.inj k l hk hl he'
theorem J8:TabF m (fun _=>[]) (aW m (fun k=>k),bx m (some [])):=by
 refine ⟨av,fun i hi=>?_,fun i j hi hj he=>?_⟩
 ·show (bx m (some ([]:List Int))).getD ((aW m fun k=>k).getD i 0) none=_
  rw[aX hi,c_,List.getElem?_replicate,if_pos hi]
  rfl
 ·have he':(aW m fun k=>k).getD i 0=(aW m fun k=>k).getD j 0:=he
  rw[aX hi,aX hj] at he'
  exact he'
end
def WG (t0:List Nat) (aB:Sy->Option (List (List Int)×Int×Unit)) (x0:Sy):Option ((List (List Int))×Int×Unit) :=
 ah (aB x0) fun (t:List (List Int)×Int×PUnit)=>bif !decide (t.2.1=0) then some ([],t.2.1,aC) else bif decide (0<=(↑(aq
  x0.2):Int))&&dS (aS (↑(aq x0.2):Int)) 24 then lpK (Int×(List Nat×List (Option (List Int)))×PUnit) (List (List Int)×Int×PUnit) (fun (again :
  Int×(List Nat×List (Option (List Int)))×PUnit->Option (List (List Int)×Int×PUnit)) (x:Int×(List Nat×List (Option (List Int)))×PUnit)=>bif decide (x.1 <
  (↑(aq t0):Int)) then lpK (Int×(List Nat×List (Option (List Int)))×PUnit) (List (List Int)×Int×PUnit) (fun (again_1:Int×(List Nat×List (Option (List Int))) ×
  PUnit->Option (List (List Int)×Int×PUnit)) (x_1:Int×(List Nat×List (Option (List Int)))×PUnit) =>
 let v8:List Int:=aT t.1 (aS x_1.1) [];
 let v9:Bool:=inB x.1 (aq x_1.2.1.1);
 let v10:Bool:=cl (bT (aS x.1)) (aq x_1.2.1.1);bif decide (x_1.1<(↑(aq t.1):Int)) then bif inB x_1.1 (aq t.1) then bif
  v9 then bif v10 then bif inB x.1 (aq v8) then bif fK x_1.2.1.2 (aT x_1.2.1.1 (aS x.1) 0)&&dS (aq (bD x_1.2.1.2
  (aT x_1.2.1.1 (aS x.1) 0))+1) 8 then bif v9 then bif v10 then again_1 (aQ .i64 (x_1.1+1),(iF
  x_1.2.1.1 (aS x.1) (aq x_1.2.1.2),iF x_1.2.1.2 (aT x_1.2.1.1 (aS x.1) 0) none++[some (bD x_1.2.1.2
  (aT x_1.2.1.1 (aS x.1) 0)++[aT v8 (aS x.1) 0])]++[]),aC) else none else none else none else none else none else none
  else none else again (aQ .i64 (x.1+1),x_1.2.1,aC)) (0,x.2.1,aC) else bif List.all x.2.1.1 fun (x_1:Nat)=>fK
  x.2.1.2 x_1 then some (List.map (fun (x_1:Nat)=>bD x.2.1.2 x_1) x.2.1.1,0,aC) else none) (0,(t0,bx (aS (↑(aq x0.2):Int)) (some [])),aC) else none
theorem QM (s:Sy):dL s=WG (BU Sh.ref (0:Nat) (aS (↑(aq s.2):Int)) 0) aB s:=by kernel_rfl
def jC (s:Sy):List (List Int):=jH s.2.length s.1.length (trM (Mx s))
theorem CK {s:Sy} (h:dz s=true):dL s=some (jC s,0,()):=by
 have hv:=dD h
 have hb:=hv.bl
 have hr:=hv.rl
 obtain ⟨m,hm⟩:∃m,m=s.2.length:=⟨_,rfl⟩
 obtain ⟨w,hw⟩:∃w,w=s.1.length:=⟨_,rfl⟩
 have hgetM:∀j,j<w->(uB s).getD j []=aW m (Mx s j):=fun j hj=>by unfold uB;rw[<-hm,<-hw];exact fV hj
 have hlM:(uB s).length=w:=by unfold uB;rw[cv,<-hw]
 rw[QM,xu]
 simp only[WG,yC h,af,decide_true,bt,cF]
 simp only[z9,iN,pI]
 rw[z7 (show (0:Int)<=(s.2.length:Nat) by omega),cZ (show s.2.length*24<=140737488355328 by omega),h_,cT]
 unfold jC
 rw[<-hm] at hr ⊢
 rw[<-hw] at hb ⊢
 refine wm (fun o=>o=some (jH m w (trM (Mx s)),0,())) m (by omega) (fun i x=>∃t,x=((i:Int),t,aC)/\TabF m (fun k=>if k<i then aW w (trM (Mx s) k) else []) t) ?_ (fun again i x hi ⟨t,hx,ht⟩=>?_) (fun again x ⟨t,hx,ht⟩=>?_)
 ·refine ⟨_,rfl,?_⟩
  have e:(List.range m).map (fun i=>0+i)=aW m (fun k=>k):=cz (f:=fun i=>0+i) fun k _=>by rw[d_]
  rw[e]
  exact J8.congr fun k _=>by rw[if_neg (by omega)]
 ·subst hx
  simp only[z7 (show (i:Int)<m by omega),cT,hlM]
  refine wm (fun o=>∃y,(∃t,y=(((i+1:Nat):Int),t,aC)/\TabF m (fun k=>if k<i+1 then aW w (trM (Mx s) k) else []) t)/\o=again y) w (by omega) (fun j x=>∃t,x=((j:Int),t,aC)/\TabF m (fun k=>if k<i then aW w (trM (Mx s) k) else if k=i then aW j (trM (Mx s) i) else []) t) ?_ ?_ ?_
  ·refine ⟨t,rfl,ht.congr fun k _=>?_⟩
   by_cases c:k<i
   ·rw[if_pos c,if_pos c]
   ·rw[if_neg c,if_neg c]
    split<;>rfl
  ·rintro again1 j x hj ⟨t,rfl,ht⟩
   have hrow:=ht.row hi
   rw[if_neg (by omega),if_pos rfl] at hrow
   simp only[z7 (show (j:Int)<w by omega),aH,z7 hj,z7 hi,cT,z9,ht.len,cE (show i.succ<=m by omega),hgetM j hj,av,ht.live hi,hrow,cZ (show (j+1)*8<=140737488355328 by omega),h_,bN (show j<=1000000 by omega),aX hi]
   refine ⟨_,⟨_,rfl,?_⟩,rfl⟩
   have happ:=ht.app hi (x:=[Mx s j i]) (g:=fun k=>if k<i then aW w (trM (Mx s) k) else if k=i then aW (j+1) (trM (Mx s) i) else []) (fun k hk=>by
    by_cases c:k=i
    ·subst c
     rw[if_pos rfl,if_neg (by omega),if_pos rfl,if_neg (by omega),if_pos rfl,<-ju]
     rfl
    ·rw[if_neg c,if_neg c,if_neg c])
   rw[if_neg (by omega),if_pos rfl] at happ
   exact happ
  ·rintro again1 x ⟨t,rfl,ht⟩
   simp only[z8 (show ¬ (w:Int)<w by omega),cF,bN (show i<=1000000 by omega)]
   refine ⟨_,⟨t,rfl,ht.congr fun k _=>?_⟩,rfl⟩
   by_cases c:k<i
   ·rw[if_pos c,if_pos (by omega)]
   ·rw[if_neg c]
    by_cases c2:k=i
    ·rw[if_pos c2,if_pos (by omega),c2]
    ·rw[if_neg c2,if_neg (by omega)]
 ·subst hx
  simp only[z8 (show ¬ (m:Int)<m by omega),cF,ht.all,cT,ht.map]
  rw[show aW m (fun k=>if k<m then aW w (trM (Mx s) k) else [])=jH m w (trM (Mx s)) from cz fun k hk=>if_pos hk]
end
end Go.Proofs.YtlfdhaiigdllcaaGreat

namespace Go.Proofs.YtlfdhaiigdllcaaGreat
open Tryz Dn Dn.Sh
theorem JH {s:Sy} (h:dz s=true) (y:List Fq):fj s y=ah (df (qX s (oS s)) y) fun t=>some (t.1,t.2.1,()):=by
 unfold fj qA
 rw[Cq h,af]
 rfl
theorem BH {f:Nat->Int}:∀{n:Nat},sz (n+1) f=f 0+sz n fun i=>f (i+1)
 | 0=>by simp[sz]
 | n+1=>by
  rw[sz,BH (n:=n)]
  simp only[sz]
  omega
theorem Nm {α:Type} {n:Nat} {f:Nat->α}:aW (n+1) f=f 0 ::aW n fun i=>f (i+1):=by
 unfold aW
 rw[List.range_succ_eq_map,List.map_cons,List.map_map]
 rfl
theorem CC {d B:Int} (hd:0<d/\d<=1152921504606846976) (hB:B<=1152921504606846976):∀{l:List Int} {X:Nat->Int} {s:Int},(∀j,j<l.length->ab (l.getD j 0*X j)<=B)->(∀i,i<=l.length->ab (s+sz i fun j=>l.getD j 0*X j)<=B) ->
  ip l (aW l.length fun j=>prQ ((X j:Rat) / (d:Rat))) ((s:Rat) / (d:Rat))=some (((s+sz l.length fun j=>l.getD j 0*X j:Int):Rat) / (d:Rat))
 | [],X,s,_,_=>by
  unfold ip
  simp[sz]
 | n ::l,X,s,h1,h2=>by
  have e1:∀j,(n ::l).getD (j+1) 0=l.getD j 0:=fun j=>rfl
  have e0:((n ::l).getD 0 0:Int)=n:=rfl
  have a1:=h1 0 (by simp)
  have a2:=h2 1 (by simp)
  simp only[sz,e0,Int.zero_add] at a1 a2
  rw[j_,Nm]
  unfold ip
  rw[pY]
  have q1:(n:Rat)*((X 0:Rat) / (d:Rat))=((n*X 0:Int):Rat) / (d:Rat):=by rw[oF];grind
  have q2:(s:Rat) / (d:Rat)+((n*X 0:Int):Rat) / (d:Rat)=((s+n*X 0:Int):Rat) / (d:Rat):=by rw[Rat.intCast_add];grind
  have b1:(n*X 0).natAbs<=1152921504606846976:=by rw[xE] at a1;omega
  have b2:(s+n*X 0).natAbs<=1152921504606846976:=by rw[xE] at a2;omega
  rw[q1,q2,if_pos ⟨yj (by omega) b1 (by omega),yj (by omega) b2 (by omega)⟩]
  have ih:=CC hd hB (l:=l) (X:=fun j=>X (j+1)) (s:=s+n*X 0) (fun j hj=>h1 (j+1) (by simpa using hj)) (fun i hi=>by
   have:=h2 (i+1) (by simpa using hi)
   rw[BH] at this
   simp only[e1,e0] at this
   rw[<-Int.add_assoc] at this
   exact this)
  rw[ih]
  congr 3
  rw[BH]
  simp only[e1,e0]
  omega
theorem Kb {n i:Nat} {a X:Nat->Int} {B:Int} (hi:i<=n) (hB:0<=B) (hX:∀j,j<n->ab (X j)<=B):ab (sz i fun j=>a j*X j)<=(sz n fun j=>ab (a j))*B:=by
 refine nE Bm ?_
 have h1:(sz i fun j=>ab (a j*X j))<=sz i fun j=>ab (a j)*B:=qY fun j hj=>by
  rw[qw]
  exact iD (hX j (by omega)) (cn _)
 refine nE h1 ?_
 rw[F4]
 refine z11 ?_ hB
 obtain ⟨k,rfl⟩:∃k,n=i+k:=⟨n - i,by omega⟩
 rw[B6]
 have:0<=sz k fun l=>ab (a (i+l)):=kr fun _ _=>cn _
 omega
theorem Kz {n j:Nat} {f:Nat->Int} (hj:j<n) (hf:∀i,i<n->0<=f i):f j<=sz n f:=by
 have h1:(sz n fun i=>if i=j then f j else 0)<=sz n f:=qY fun i hi=>by
  by_cases e:i=j
  ·rw[if_pos e,e];exact pH _
  ·rw[if_neg e];exact hf i hi
 rw[ia hj fun i _ hne=>if_neg hne,if_pos rfl] at h1
 exact h1
theorem Jq {n j:Nat} {a X:Nat->Int} {B:Int} (hj:j<n) (hB:0<=B) (hX:∀j,j<n->ab (X j)<=B):ab (a j*X j)<=(sz n fun j=>ab (a j))*B:=by
 rw[qw]
 refine nE (iD (hX j hj) (cn _)) (z11 ?_ hB)
 exact Kz (f:=fun j=>ab (a j)) hj fun _ _=>cn _
theorem SP {l:List Int} {X:Nat->Int} {d B:Int} (hd:0<d/\d<=1152921504606846976) (hB:0<=B) (hX:∀j,j<l.length->ab (X j)<=B) (h:(sz l.length fun j=>ab (l.getD j 0))*B<=1152921504606846976) :
  (ip l (aW l.length fun j=>prQ ((X j:Rat) / (d:Rat))) 0).isSome=true:=by
 have h0:(0:Rat)=((0:Int):Rat) / (d:Rat):=by rw[show ((0:Int):Rat)=0 from rfl,Rat.div_def,Rat.zero_mul]
 rw[h0,CC hd h (fun j hj=>Jq (a:=fun j=>l.getD j 0) hj hB hX) (fun i hi=>by rw[Int.zero_add];exact Kb (a:=fun j=>l.getD j 0) hi hB hX)]
 rfl
theorem Jw {l:List Int} {X:Nat->Int} {d B:Int} (hd:0<d/\d<=1152921504606846976) (hB:0<=B) (hX:∀j,j<l.length->ab (l.getD j 0*X j)<=B) (h:(l.length:Int)*B<=1152921504606846976) (hB2:B<=1152921504606846976) :
  (ip l (aW l.length fun j=>prQ ((X j:Rat) / (d:Rat))) 0).isSome=true:=by
 have h0:(0:Rat)=((0:Int):Rat) / (d:Rat):=by rw[show ((0:Int):Rat)=0 from rfl,Rat.div_def,Rat.zero_mul]
 have hsum:∀i,i<=l.length->ab (0+sz i fun j=>l.getD j 0*X j)<=1152921504606846976:=fun i hi=>by
  rw[Int.zero_add]
  have h1:=lv (n:=i) (f:=fun j=>l.getD j 0*X j) (B:=B) fun j hj=>sJ.1 (hX j (by omega))
  have h2:(i:Int)*B<=l.length*B:=z11 (by omega) hB
  refine sJ.2 ⟨?_,?_⟩<;>omega
 rw[h0,CC hd (pH _) (fun j hj=>nE (hX j hj) hB2) hsum]
 rfl
section
variable {p:Pg} {S:Sx}
theorem LO (hB:Bnd (an p) (ay p)) (hv:(ay p).Val (an p) S) (j:Nat):0<=zK (an p).m ((ay p).R (an p)) S j/\zK (an p).m ((ay p).R (an p)) S j<=(an p).P:=by
 refine ⟨ru hv j,?_⟩
 have hRw:(ay p).R (an p)<(ay p).w (an p):=by unfold Lay.R Lay.w;omega
 obtain ⟨_,hb⟩:=hB.tabP hv.tb
 unfold zK
 by_cases h:∃i,i<(an p).m/\S.β i=j
 ·obtain ⟨i,hi,e⟩:=h
  rw[ia hi fun k hk hne=>if_neg fun e2=>hne (hv.tb.inj hk hi (by rw[e,e2])),if_pos e]
  have:=hb i _ hi hRw
  omega
 ·rw[jJ fun i hi=>if_neg fun e=>h ⟨i,hi,e⟩]
  have:=(an p).P_pos
  omega
theorem Rj (k:Nat) (x:Int):ab ((ay p).σ k*x)=ab x:=by
 rw[xE,xE,FR]
theorem Lr (hB:Bnd (an p) (ay p)) (hv:(ay p).Val (an p) S) {wc:Nat->Int} {W:Int} (hW:∀j,ab (wc j)<=W) {k:Nat} (hk:k<(an p).m):(an p).F k*ab (pa (an p).m (ay p).N wc S (ay p).σ k)<=12*(W*(an p).P):=by
 have hF:=(an p).F_pos k
 have hW0:0<=W:=nE (cn _) (hW 0)
 have hP:=(an p).P_pos
 have hm:=hB.m
 unfold pa
 rw[Rj]
 have h1:ab (sz (an p).m fun i=>wc (S.β i)*S.T i ((ay p).N+k))<=sz (an p).m fun i=>W*ab (S.T i ((ay p).N+k)):=nE Bm (qY fun i _=>by
  rw[qw]
  exact z11 (hW _) (cn _))
 have h2:(an p).F k*(sz (an p).m fun i=>W*ab (S.T i ((ay p).N+k)))=sz (an p).m fun i=>W*((an p).F k*ab (S.T i ((ay p).N+k))):=by
  rw[<-jd]
  exact bO fun i _=>by grind
 have h3:(sz (an p).m fun i=>W*((an p).F k*ab (S.T i ((ay p).N+k))))<=sz (an p).m fun _=>W*(an p).P:=qY fun i hi=>iD (M5 hB.ok hv.tb hi hk) hW0
 have h4:∀n:Nat,(sz n fun _=>W*(an p).P)=n*(W*(an p).P):=fun n=>by
  induction n with
  | zero=>simp[sz]
  | succ n ih =>
   simp only[sz]
   rw[ih,show ((n+1:Nat):Int)=(n:Int)+1 by omega,Int.add_mul,Int.one_mul]
 have h5:0<=W*(an p).P:=ph hW0 (by omega)
 have h6:((an p).m:Int)*(W*(an p).P)<=12*(W*(an p).P):=z11 (by omega) h5
 have h7:=iD h1 (show 0<=(an p).F k by omega)
 rw[h2] at h7
 rw[h4] at h3
 omega
theorem SC (k j:Nat) (hj:j<(an p).n):ab ((an p).A k j)<=(an p).F k/\ab ((an p).b k)<=(an p).F k:=by
 have h1:=Kz (n:=(an p).n) (f:=fun j=>ab ((an p).A k j)) hj fun _ _=>cn _
 have h2:=cn ((an p).b k)
 have h3:=cn ((an p).A k j)
 unfold Lin.F
 omega
theorem Zn (hV:ValidP p) (hB:Bnd (an p) (ay p)) (hv:(ay p).Val (an p) S) {wc:Nat->Int} {W:Int} (hW:∀j,ab (wc j)<=W) (hWP:W*(an p).P<=17592186044416):AD p (yL p wc S)=true/\(xm p (yL p wc S)).isSome=true:=by
 obtain ⟨⟨d1,d2⟩,hb⟩:=hB.tab hv.tb
 have hm:=hV.rows
 have hn:=hV.cost
 have term:∀(k:Nat) (a:Int),k<p.2.length->ab a<=(an p).F k->ab (a*pa (an p).m (ay p).N wc S (ay p).σ k)<=211106232532992:=fun k a hk ha=>by
  have h1:=Lr hB hv hW (k:=k) hk
  rw[qw]
  have h2:=z11 ha (cn (pa (an p).m (ay p).N wc S (ay p).σ k))
  omega
 have gen:∀{l:List Int},l.length=p.2.length->(∀k,k<p.2.length->ab (l.getD k 0)<=(an p).F k)->(ip l (yL p wc S) 0).isSome=true:=fun {l} hl hF=>by
  have h1:=Jw (l:=l) (X:=fun k=>pa (an p).m (ay p).N wc S (ay p).σ k) (d:=S.d) (B:=211106232532992) ⟨d1,by omega⟩ (by omega) (fun k hk=>term k _ (by omega) (hF k (by omega))) (by omega) (by omega)
  rw[hl] at h1
  exact h1
 constructor
 ·unfold AD
  rw[mv]
  intro i hi
  obtain ⟨j,hj,rfl⟩:=List.mem_range'.1 hi
  simp only[Nat.one_mul,d_]
  refine gen xX fun k hk=>?_
  have:(qN p j).getD k 0=(an p).A k j:=by
   unfold qN
   rw[aI (show k<(p.2.map fun r=>r.1.getD j 0).length by rw[iN];exact hk),List.getElem_map]
   show _=(p.2.getD k rw0).1.getD j 0
   rw[aI hk]
  rw[this]
  exact (SC k j hj).1
 ·unfold xm
  refine gen sQ fun k hk=>?_
  have:(pU p).getD k 0=(an p).b k:=by
   unfold pU
   rw[aI (show k<(p.2.map fun r=>r.2.2).length by rw[iN];exact hk),List.getElem_map]
   show _=(p.2.getD k rw0).2.2
   rw[aI hk]
  rw[this]
  exact (SC k 0 hn.1).2
theorem X9 (hV:ValidP p) (hf:kI (an p)) (hv:(ay p).Val (an p) S):Tx p (xL p S)=true/\(ip p.1 (xL p S) 0).isSome=true:=by
 have hB:=Cd hV hf
 obtain ⟨⟨d1,d2⟩,hb⟩:=hB.tab hv.tb
 have hm:=hV.rows
 have hP:=(an p).P_pos
 have hF0:=(an p).F0_pos
 have hx:∀j,ab (zK (an p).m ((ay p).R (an p)) S j)<=(an p).P:=fun j=>by
  have:=LO hB hv j
  exact sJ.2 ⟨by omega,this.2⟩
 have gen:∀{l:List Int} {k:Nat},l.length=p.1.length->k<=p.2.length->(sz p.1.length fun j=>ab (l.getD j 0))<=fac (an p) k->(ip l (xL p S) 0).isSome=true:=fun {l k} hl hk hF=>by
  have h2:=R0 hf hk
  have h3:1*((an p).P*fac (an p) k)<=(an p).F0*((an p).P*fac (an p) k):=z11 hF0 (ph (by omega) (by have:=ER (an p) k;omega))
  have h5:=ld (an p).F0 (an p).P (fac (an p) k)
  have h4:=z11 hF (show 0<=(an p).P by omega)
  rw[Int.mul_comm (fac (an p) k)] at h4
  have h1:=SP (l:=l) (X:=fun j=>zK (an p).m ((ay p).R (an p)) S j) (d:=S.d) (B:=(an p).P) ⟨d1,by omega⟩ (by omega) (fun j _=>hx j) (by rw[hl];omega)
  rw[hl] at h1
  exact h1
 constructor
 ·unfold Tx
  rw[Vr rw0]
  intro k hk
  have hr:p.2.getD k rw0 ∈ p.2:=by rw[aI hk];exact eX _
  refine gen (k:=k+1) (hV.len _ hr) (by omega) ?_
  show _<=1+ab (p.2.getD k rw0).2.2+sz p.1.length (fun j=>ab ((p.2.getD k rw0).1.getD j 0))
  have:=cn (p.2.getD k rw0).2.2
  omega
 ·refine gen (k:=0) rfl (by omega) ?_
  show _<=1+sz p.1.length (fun j=>ab (p.1.getD j 0))
  omega
theorem Ls (N j:Nat):ab (fX N j)<=1:=by unfold fX;split<;>simp[ab]
theorem I8 {n:Nat} {f:Nat->Rat} {j:Nat} (hj:j<n):vX (aW n fun j=>prQ (f j)) j=f j:=by
 unfold vX
 rw[aX hj,pY]
theorem Lu {n:Nat} {f:Nat->Rat} (h:∀j,j<n->gF (f j)):∀a ∈ aW n (fun j=>prQ (f j)),okF a:=fun a ha=>by
 unfold aW at ha
 obtain ⟨j,hj,rfl⟩:=List.mem_map.1 ha
 exact lI (h j (List.mem_range.1 hj))
theorem aaT (hV:ValidP p) (hf:kI (an p)) (hv:(ay p).Val (an p) S):∀a ∈ xL p S,okF a:=Lu fun j _=>by
 have hB:=Cd hV hf
 obtain ⟨⟨d1,d2⟩,_⟩:=hB.tab hv.tb
 have:=LO hB hv j
 have:=hB.P'
 exact yj (by omega) (by omega) (by omega)
theorem acK (_:ValidP p) (hB:Bnd (an p) (ay p)) (hv:(ay p).Val (an p) S) {wc:Nat->Int} {W:Int} (hW:∀j,ab (wc j)<=W) (hWP:W*(an p).P<=17592186044416):∀a ∈ yL p wc S,okF a:=Lu fun k hk=>by
 obtain ⟨⟨d1,d2⟩,_⟩:=hB.tab hv.tb
 have h1:=Lr hB hv hW (k:=k) hk
 have h2:=(an p).F_pos k
 have h3:1*ab (pa (an p).m (ay p).N wc S (ay p).σ k)<=(an p).F k*ab (pa (an p).m (ay p).N wc S (ay p).σ k):=z11 h2 (cn _)
 have h4:ab (pa (an p).m (ay p).N wc S (ay p).σ k)<=211106232532992:=by omega
 rw[xE] at h4
 exact yj (by omega) (by omega) (by omega)
theorem Dn.Lin.Feas.congr {L:Lin} {x x':Nat->Rat} (h:∀j,j<L.n->x j=x' j) (hx:L.Feas x):L.Feas x':=by
 have hr:∀k,L.row x' k=L.row x k:=fun k=>ca fun j hj=>by rw[h j hj]
 exact ⟨fun j hj=>by rw[<-h j hj];exact hx.pos j hj,fun k hk h2=>by rw[hr];exact hx.most k hk h2,fun k hk h2=>by rw[hr];exact hx.least k hk h2⟩
theorem Dn.Lin.Sgn.congr {L:Lin} {y y':Nat->Rat} (h:∀k,k<L.m->y k=y' k) (hy:L.Sgn y):L.Sgn y' :=
 ⟨fun k hk e=>by rw[<-h k hk];exact hy.most k hk e,fun k hk e=>by rw[<-h k hk];exact hy.least k hk e⟩
theorem Dn.Lin.col_congr {L:Lin} {y y':Nat->Rat} (h:∀k,k<L.m->y k=y' k) (j:Nat):L.col y' j=L.col y j:=ca fun k hk=>by rw[h k hk]
theorem Dn.Lin.rhs_congr {L:Lin} {y y':Nat->Rat} (h:∀k,k<L.m->y k=y' k):L.rhs y'=L.rhs y:=ca fun k hk=>by rw[h k hk]
theorem Dn.Lin.val_congr {L:Lin} {x x':Nat->Rat} (h:∀j,j<L.n->x j=x' j):L.val x'=L.val x:=ca fun j hj=>by rw[h j hj]
theorem VV (hV:ValidP p) (_:kI (an p)) (ho:Opt p S):(an p).Feas (vX (xL p S))/\(an p).Dual (vX (yL p (dk (an p)) S))/\(an p).val (vX (xL p S))=Kl p S/\(an p).rhs (vX (yL p (dk (an p)) S))=Kl p S:=by
 have hok:=po hV
 have ex:∀j,j<(an p).n->FZ (an p).m ((ay p).R (an p)) S j=vX (xL p S) j:=fun j hj=>(I8 hj).symm
 have ey:∀k,k<(an p).m->vL (an p).m (ay p).N (dk (an p)) S (ay p).σ k=vX (yL p (dk (an p)) S) k:=fun k hk=>(I8 hk).symm
 have h1:=xK hok ho.val (ho.az.art S)
 have h2:=Kk hok ho.val ho.zr
 obtain ⟨h3,h4⟩:=Gt hok ho.val
 refine ⟨h1.congr ex,⟨h2.toSgn.congr ey,fun j hj=>?_⟩,?_,?_⟩
 ·rw[Lin.col_congr ey];exact h2.col j hj
 ·rw[Lin.val_congr ex];exact h3
 ·rw[Lin.rhs_congr ey];exact h4
theorem xI (hV:ValidP p) (ho:Infeas p S):(an p).Ref (vX (yL p (fX (ay p).N) S)):=by
 have hok:=po hV
 have ey:∀k,k<(an p).m->vL (an p).m (ay p).N (fX (ay p).N) S (ay p).σ k=vX (yL p (fX (ay p).N) S) k:=fun k hk=>(I8 hk).symm
 have h2:=NM hok ho.val ho.zr ho.pos
 refine ⟨h2.toSgn.congr ey,fun j hj=>?_,?_⟩
 ·rw[Lin.col_congr ey];exact h2.col j hj
 ·rw[Lin.rhs_congr ey];exact h2.rhs
theorem Gl (hV:ValidP p) (hf:kI (an p)) (ho:Infeas p S):df p (yL p (fX (ay p).N) S)=some (true,0,()):=by
 have hB:=Cd hV hf
 have hm:=hV.rows
 have hWP:1*(an p).P<=17592186044416:=by have:=hB.P';omega
 have hy:=acK (wc:=fX (ay p).N) hV hB ho.val (Ls _) hWP
 have hly:(yL p (fX (ay p).N) S).length=p.2.length:=av
 obtain ⟨f3,f4⟩:=Zn (wc:=fX (ay p).N) hV hB ho.val (Ls _) hWP
 have hc:=(HN hy hly f3 f4).2 (xI hV ho)
 rw[GP (by omega),kN.2 hV,Kr.2 hy,z7 hly,f3,f4,hc]
 rfl
end
def aeH (p:Pg) (y:List Fq) (e:Int):Prop :=
 (e=1/\y=[]/\tB p=false)\/(e=5/\y=[]/\ValidP p/\¬ kI (an p))\/(e=12/\y=[]/\ValidP p/\kI (an p)/\∃x,(an p).Feas x) \/
 (e=0/\ValidP p/\kI (an p)/\y.length=p.2.length/\df p y=some (true,0,())/\∃y,(an p).Ref y)
theorem NQ {p:Pg} (h:ValidP p) (hf:¬ kI (an p)):ep p=some (DI,5,()):=by
 unfold ep lJ
 rw[pC,obN,kN.2 h]
 simp only[bt,cF]
 rw[yp h,obN,z8 hf]
 rfl
theorem IM {p:Pg} (h:tB p=false):dl p=some ([],1,()):=by
 unfold dl jL
 rw[pC,obN,h]
 rfl
theorem IH {p:Pg} (h:ValidP p) (hf:¬ kI (an p)):dl p=some ([],5,()):=by
 unfold dl jL
 rw[pC,obN,kN.2 h]
 simp only[bt,cF]
 rw[yp h,obN,z8 hf]
 rfl
theorem Jr (p:Pg):∃y e,dl p=some (y,e,())/\aeH p y e:=by
 cases hv:tB p with
 | false=>exact ⟨_,_,IM hv,.inl ⟨rfl,rfl,hv⟩⟩
 | true =>
  have hV:=kN.1 hv
  by_cases hf:kI (an p)
  ·rcases M2 hV hf with ⟨S,h1,h2⟩ | ⟨S,h1,h2,h3⟩
   ·exact ⟨_,_,h2,.inr (.inr (.inr ⟨rfl,hV,hf,av,Gl hV hf h1,_,xI hV h1⟩))⟩
   ·exact ⟨_,_,h3,.inr (.inr (.inl ⟨rfl,rfl,hV,hf,_,xK (po hV) h1 (h2.art S)⟩))⟩
  ·exact ⟨_,_,IH hV hf,.inr (.inl ⟨rfl,rfl,hV,hf⟩)⟩
structure BndR (L:Lin) (Y:Lay):Prop where
 ok:Y.ok L
 m:L.m<=6
 w:Y.w L<=25
 P:L.F0*L.P<=536870912
section
variable {L:Lin} {Y:Lay}
structure Wc (L:Lin) (Y:Lay) (wc:Nat->Int):Prop where
 small:∀j x,(x.natAbs:Int)<=L.P-> -536870912<=wc j*x/\wc j*x<=536870912
end
section
variable {L:Lin} {Y:Lay}
end
section
variable {p:Pg}
end
section
variable {L:Lin} {Y:Lay}
end
def agH (p:Pg) (a:Fq×List Fq×List Fq) (e:Int):Prop :=
 (e=5/\a=DI/\¬ kI (an p))\/(e=22/\a=DI/\kI (an p)/\∃y,(an p).Ref y) \/
 (e=21/\a=DI/\kI (an p)/\(∃x,(an p).Feas x)/\∃r,(an p).Ray r) \/
 (e=0/\kI (an p)/\∃v,a.1=prQ v/\gF v/\a.2.1.length=p.1.length/\(∀x ∈ a.2.1,okF x)/\Tx p a.2.1=true/\(ip p.1 a.2.1 0).isSome=true/\(an p).Feas (vX a.2.1)/\(∃y,(an p).Dual y/\(an p).rhs y=v)/\(an p).val (vX a.2.1)=v)
theorem XN {p:Pg} (hV:ValidP p):∃a e,ep p=some (a,e,())/\agH p a e:=by
 by_cases hf:kI (an p)
 ·have hok:=po hV
  rcases Oq hV hf with ⟨S,h1,h2⟩ | ⟨S,q,h1,h2⟩ | ⟨S,h1,h2⟩
  ·exact ⟨_,_,h2,.inr (.inl ⟨rfl,rfl,hf,_,xI hV h1⟩)⟩
  ·exact ⟨_,_,h2,.inr (.inr (.inl ⟨rfl,rfl,hf,⟨_,xK hok h1.val (h1.az.art S)⟩,_,NN hok h1.val h1.lt (h1.az.col S h1.lt) h1.neg h1.no⟩))⟩
  ·obtain ⟨a1,a2,a3,a4⟩:=VV hV hf h1
   obtain ⟨f1,f2⟩:=X9 hV hf h1.val
   have hl:(xL p S).length=p.1.length:=av
   have hv:=Uz (p:=p) (x:=xL p S) hl f2
   have hq:gF (Kl p S):=by
    rw[<-a3,<-hv]
    exact EO
   exact ⟨_,_,h2,.inr (.inr (.inr ⟨rfl,hf,Kl p S,rfl,hq,hl,aaT hV hf h1.val,f1,f2,a1,⟨_,a2,a4⟩,a3⟩))⟩
 ·exact ⟨_,_,NQ hV hf,.inl ⟨rfl,rfl,hf⟩⟩
theorem ace {f:(Fq×Unit)->Option Bool} {p:Fq->Bool} {l:List Fq} (hl:l.length<=1000000) (h:∀a,a ∈ l->f (a,())=some (p a)):au l f=some (l.any p):=by
 simp only[au,gQ]
 have e:aU l f=some (jS p l 0):=by
  unfold aU gG
  exact jx (f:=f) (d:=(0,0)) hl h
 rw[e,af,A9]
theorem TI (s:Sy) (c:List Int) (hl:c.length=s.2.length):an (qX s c)=⟨s.2.length,s.1.length,fun k j=>((aW s.1.length (qq s)).getD k rw0).1.getD j 0,fun k=>((aW s.1.length (qq s)).getD k rw0).2.2,fun j=>c.getD j 0,fun k=>((aW s.1.length (qq s)).getD k rw0).2.1⟩:=by
 unfold an qX
 simp only[hl,av]
def EqS (s:Sy) (x:Nat->Rat):Prop:=∀i,i<s.1.length->(sq s.2.length fun j=>((Mx s i j:Int):Rat)*x j)=((bwS s i:Int):Rat)
theorem DC {s:Sy} {c:List Int} (hl:c.length=s.2.length) {x:Nat->Rat}:(an (qX s c)).Feas x↔(∀j,j<s.2.length->0<=x j)/\EqS s x:=by
 rw[TI s c hl]
 have er:∀i,i<s.1.length->(⟨s.2.length,s.1.length,fun k j=>((aW s.1.length (qq s)).getD k rw0).1.getD j 0,fun k=>((aW s.1.length (qq s)).getD k rw0).2.2,fun j=>c.getD j 0,fun k=>((aW s.1.length (qq s)).getD k rw0).2.1⟩:Lin).row x i=sq s.2.length fun j=>((Mx s i j:Int):Rat)*x j:=fun i hi=>by
  unfold Lin.row
  refine ca fun j hj=>?_
  simp only[aX hi,qq,aX hj]
 constructor
 ·rintro ⟨h1,h2,h3⟩
  refine ⟨h1,fun i hi=>?_⟩
  have hk:((aW s.1.length (qq s)).getD i rw0).2.1=3:=by rw[aX hi];rfl
  have hb:((aW s.1.length (qq s)).getD i rw0).2.2=bwS s i:=by rw[aX hi];rfl
  have a1:=h2 i hi (by simp only[hk];omega)
  have a2:=h3 i hi (by simp only[hk];omega)
  rw[er i hi] at a1 a2
  simp only[hb] at a1 a2
  exact Rat.le_antisymm a1 a2
 ·rintro ⟨h1,h2⟩
  refine ⟨h1,fun i hi _=>?_,fun i hi _=>?_⟩
  ·have hb:((aW s.1.length (qq s)).getD i rw0).2.2=bwS s i:=by rw[aX hi];rfl
   rw[er i hi,h2 i hi]
   simp only[hb]
   exact Rat.le_refl
  ·have hb:((aW s.1.length (qq s)).getD i rw0).2.2=bwS s i:=by rw[aX hi];rfl
   rw[er i hi,h2 i hi]
   simp only[hb]
   exact Rat.le_refl
theorem sE {s:Sy}:(oS s).length=s.2.length:=by unfold oS;rw[q_]
theorem SX {s:Sy} (h:dz s=true) {a:Fq×List Fq×List Fq} {e:Int} (hs:ep (qX s (oS s))=some (a,e,())):gH s=some (bif decide (e=0) then a.2.1 else [],e,()):=by
 unfold gH oT
 rw[Cq h,af,hs]
 by_cases he:e=0
 ·subst he;rfl
 ·simp only[z8 he,af]
  rfl
theorem Nb {s:Sy} (h:dz s=false) (hl:s.2.length<=1000000):gH s=some ([],1,()):=by
 unfold gH oT
 rw[L4 h hl]
 rfl
theorem IP {s:Sy} (h:dz s=true) {y:List Fq} {e:Int} (hs:dl (qX s (oS s))=some (y,e,())):gu s=some (y,e,()):=by
 unfold gu qo
 rw[Cq h,af,hs]
 rfl
theorem JE {s:Sy} {r:Nat->Rat} (h:(an (qX s (oS s))).Ray r):False:=by
 have h1:=h.val
 have h2:0<=(an (qX s (oS s))).val r:=NC fun j hj=>by
  have hj':j<s.2.length:=by have:j<(oS s).length:=hj;rw[sE] at this;exact this
  have e:(an (qX s (oS s))).c j=1:=by
   show (oS s).getD j 0=1
   rw[aI (by rw[sE];exact hj')]
   unfold oS
   exact List.getElem_replicate _
  rw[e]
  have:=h.pos j hj
  grind
 grind
theorem Pa {α:Type} [DecidableEq α] (d:α) {l m:List α} (h:l.length=m.length):(rD 0 l.length).all (fun i=>decide (l.getD i d=m.getD i d))=decide (l=m):=by
 rw[Bool.eq_iff_iff,decide_eq_true_iff,mv]
 constructor
 ·intro hh
  refine List.ext_getElem h fun i h1 h2=>?_
  have:=z12 (hh i (np h1))
  rw[aI h1,aI h2] at this
  exact this
 ·rintro rfl i _
  exact z7 rfl
theorem Rf {α:Type} [DecidableEq α] (d:α) {l m:List α} (h:l.length=m.length) (hl:l.length<=1000000) {F:(Int×PUnit->Option Bool)->Int×PUnit->Option Bool}
  (hb:∀again (i:Nat),i<l.length->F again ((i:Int),aC)=bif decide (l.getD i d=m.getD i d) then again (((i+1:Nat):Int),aC) else some false) (hf:∀again,F again ((l.length:Int),aC)=some true) :
  lpK (Int×PUnit) Bool F ((0:Int),aC)=some (decide (l=m)):=by
 refine (rY (α:=Int×PUnit) l.length (by omega) (fun i (_:Unit)=>((i:Int),aC)) (fun i s k=>bif decide (l.getD i d=m.getD i d) then k s else some false) (fun _=>some true) ?_ ?_ ()).trans ?_
 ·intro again i _ hi
  exact hb again i hi
 ·intro again _
  exact hf again
 ·rw[rm l.length (fun i k _=>rfl) l.length 0 (by omega),Pa d h]
  cases decide (l=m)<;>rfl
theorem T1 (a b:Fq):(decide (a.1=b.1)&&(decide (a.2=b.2)&&true))=decide (a=b):=by
 rw[Bool.eq_iff_iff,z10,Bool.and_true,decide_eq_true_iff,decide_eq_true_iff,decide_eq_true_iff]
 exact ⟨fun h=>Prod.ext h.1 h.2,fun h=>by rw[h];exact ⟨rfl,rfl⟩⟩
theorem Cz {l:List Int} {k:Int} (hl:l.length<=1000000) (hk:0<=k/\k<=1000000000) (h:∀a ∈ l,-k<=a/\a<=k):cM l k=some true:=by
 simp only[cM,oq]
 rw[Cc (p:=fun _=>false) hl fun a ha=>?_,af,List.any_eq_false.2 fun _ _ h=>Bool.noConfusion h]
 ·rfl
 ·have:=h a ha
  simp only[fO,mr]
  rw[aZ (x:=0 - k) (by omega) (by omega),z8 (show ¬ a<0 - k by omega),z8 (show ¬ a>k by omega)]
  rfl
theorem zA {α:Type} {n:Nat} {f:Nat->α} {a:α} (h:a ∈ aW n f):∃i,i<n/\f i=a:=by
 unfold aW at h
 obtain ⟨i,hi,he⟩:=List.mem_map.1 h
 exact ⟨i,List.mem_range.1 hi,he⟩
theorem zN {m n:Nat} {N:Nat->Nat->Int} (hm:1<=m/\m<=6) (hn:1<=n/\n<=12) (h:∀i j,i<m->j<n-> -32<=N i j/\N i j<=32):bQ (jH m n N)=some true:=by
 have hc:bM (jH m n N) (fun x=>eF x.1 (n:Int))=some false:=by
  simp only[bM,jc]
  have e:ct (jH m n N) (fun x=>eF x.1 (n:Int))=some (jS (fun _=>false) (jH m n N) 0):=by
   unfold ct kl
   refine jx (f:=fun x=>eF x.1 (n:Int)) (d:=[]) (p:=fun _=>false) (by rw[cv];omega) fun a ha=>?_
   obtain ⟨i,hi,rfl⟩:∃i,i<m/\aW n (N i)=a:=by
    obtain ⟨i,hi,he⟩:=List.mem_map.1 ha
    exact ⟨i,List.mem_range.1 hi,he⟩
   have hw:=Cz (l:=aW n (N i)) (k:=32) (by rw[av];omega) (by omega) fun a ha=>by
    obtain ⟨j,hj,rfl⟩:=zA ha
    exact h i j hi hj
   simp only[eF,ng,av,decide_true,bt,e_,p_,cT,hw,af,cF]
  rw[e,af,A9,List.any_eq_false.2 fun _ _ h=>Bool.noConfusion h]
 simp only[bQ,qi,cv,fV (show 0<m by omega),av,z8 (show ¬ (m:Int)<1 by omega),z8 (show ¬ (m:Int)>6 by omega),z7 (show (n:Int)>=1 by omega),z7 (show (n:Int)<=12 by omega),
  e_,bt,p_,h_,cT,cF,show inB 0 m=true from (aH (i:=0)).trans (z7 (show 0<m by omega)),hc,af]
def Ja (m n:Nat) (N:Nat->Nat->Int) (b:Nat->Int) (o:Option (List Fq×Int×Unit)):Prop :=
 (∃l,o=some (l,0,())/\l.length=n/\(∀a ∈ l,okF a)/\EqN m n N b (vX l)/\∀x,EqN m n N b x->∀j,j<n->x j=vX l j) \/
 (o=some ([],22,())/\∀x,¬ EqN m n N b x) \/
 (o=some ([],21,())/\∃k p L e T d β s,El m (n+1) n (me n N b) n k p L e T d β s/\k<n/\∀i,k<=i->i<m->L i n=0) \/
 o=some ([],5,())
theorem V7 {n i:Nat} {N:Nat->Nat->Int} {b:Nat->Int}:aW n (N i)++[b i]=aW (n+1) (me n N b i):=by
 rw[<-tx]
 congr 1
 ·refine cz fun j hj=>?_
  unfold me
  rw[if_pos hj]
 ·unfold me
  rw[if_neg (by omega)]
theorem Ca {m w k j:Nat} {L:Nat->Nat->Int} (h:k+j<m):(List.drop k (n_ m (jH m w L))).getD j []=aW w (L (k+j)):=by
 have e:n_ m (jH m w L)=jH m w L:=oK (by rw[cv];omega)
 rw[e,c_,List.getElem?_drop,<-c_,fV h]
theorem Dz {m n:Nat} {N:Nat->Nat->Int} {b:Nat->Int} (hm:1<=m/\m<=6) (hn:1<=n/\n<=12) (hN:∀i j,i<m->j<n-> -20<=N i j/\N i j<=20) (hb:∀i,i<m->0<=b i/\b i<=33554432) :
  Ja m n N b (cm (jH m n N) (aW m b)):=by
 have hB:ElBnd m (n+1) n (me n N b):=by
  refine Ck (x:=20) (y:=33554432) (by omega) (by omega) (by omega) (by omega) (by omega) (fun i j hi hj=>?_) (fun i j hi hj=>?_) ?_
  ·unfold me
   rw[if_pos hj]
   exact sJ.2 (hN i j hi hj)
  ·unfold me
   refine sJ.2 ?_
   split
   ·rename_i c
    have:=hN i j hi c
    omega
   ·have:=hb i hi
    omega
  ·have h6:m=1\/m=2\/m=3\/m=4\/m=5\/m=6:=by omega
   rcases h6 with rfl | rfl | rfl | rfl | rfl | rfl<;>decide
 have hw:=Cz (l:=aW m b) (k:=67108864) (by rw[av];omega) (by omega) fun a ha=>by
  obtain ⟨j,hj,rfl⟩:=zA ha
  have:=hb j hj
  omega
 obtain ⟨k,p,L,e,T,d,β,s,fr,tu,hel,hE⟩:=tw hB
 unfold cm qu
 rw[zN hm hn fun i j hi hj=>by have:=hN i j hi hj;omega,af]
 simp only[bt,cF,av,cv,decide_true,hw,af,show inB 0 m=true from (aH (i:=0)).trans (z7 (show 0<m by omega)),cT,fV (show 0<m by omega)]
 refine nW (Ja m n N b) m (by omega) (fun i=>(ja i (n+1) (me n N b),(i:Int),aC)) rfl (fun again i hi=>?_) (fun again=>?_)
 ·simp only[z7 (show (i:Int)<m by omega),aH,z7 hi,z9,fV hi,Sf (l:=aW n (N i)) (by rw[av];omega),af,av,gZ,aX hi,
   cZ (show (n+1)*8<=140737488355328 by omega),cZ (show (i+1)*24<=140737488355328 by omega),cT,V7,wz,bo (show i<=1000000 by omega)]
 have hkn:=hE.k_le
 have hkm:=hE.km
 simp only[z8 (show ¬ (m:Int)<m by omega),cF,iV,cT,iT]
 rw[hel,af]
 simp only[av,cv,z9,Bo (show (0:Int)<=k by omega) (show (k:Int)<=m by omega) (show (m:Int)<=m by omega),cT]
 have hlen:(List.drop k (n_ m (jH m (n+1) L))).length=m - k:=by
  rw[l_,b_,cv,Nat.min_self]
 simp only[hlen]
 rcases vv (m - k) (fun j=>decide (L (k+j) n≠0)) with hno | ⟨j0,hj0,hp0,hpn⟩
 ·have h0:∀i,k<=i->i<m->L i n=0:=fun i h1 h2=>by
   have:=of_decide_eq_false (hno (i - k) (by omega))
   rw[show k+(i - k)=i by omega] at this
   exact Decidable.not_not.1 this
  refine nW (Ja m n N b) (m - k) (by omega) (fun j=>((j:Int),aC)) rfl (fun again1 j hj=>?_) (fun again1=>?_)
  ·simp only[z7 (show (j:Int)<(m - k:Nat) by omega),aH,z7 hj,z9,Ca (show k+j<m by omega),av,z7 (show n<n+1 by omega),cT,aX (show n<n+1 by omega),h0 (k+j) (by omega) (by omega),decide_true,bt,cF,bo (show j<=1000000 by omega)]
  simp only[z8 (show ¬ ((m - k:Nat):Int)<(m - k:Nat) by omega),cF]
  by_cases hlt:k<n
  ·rw[z7 (show (k:Int)<n by omega),cond_true]
   exact .inr (.inr (.inl ⟨rfl,k,p,L,e,T,d,β,s,hE,hlt,h0⟩))
  ·have hk:k=n:=by omega
   rw[z8 (show ¬ (k:Int)<n by omega),cond_false]
   obtain ⟨hb1,hb2⟩:=hE.bound hB
   refine uf (γ:=Nat) (I:=fun g x=>x=(aW g (fun i=>prQ (AM n L e i)),(g:Int),aC)/\g<=n/\∀i,i<g->gF (AM n L e i)) (Ja m n N b) (fun g=>n - g) (fun rec g x ⟨h1,h2,h3⟩=>?_) (s:=0) ⟨rfl,by omega,fun i hi=>by omega⟩ (by omega)
   subst h1
   by_cases hg:g=n
   ·refine .inl ?_
    subst hg
    simp only[z8 (show ¬ (g:Int)<g by omega),cF]
    have hv:∀j,j<g->vX (aW g (fun i=>prQ (AM g L e i))) j=AM g L e j:=fun j hj=>by
     unfold vX
     rw[aX hj,pY]
    refine .inl ⟨_,rfl,av,fun a ha=>?_,hE.solves hk h0 hv,fun x hx j hj=>?_⟩
    ·obtain ⟨i,hi,rfl⟩:=zA ha
     exact lI (h3 i hi)
    ·rw[hv j hj]
     exact hE.unique hk hx hj
   ·have hgm:g<m:=by omega
    have h4:=hb1 g n hgm (by omega)
    have h5:=FV (n:=L g n) (d:=e) (by omega) (by omega) (by omega) (by omega)
    rw[if_neg hE.ene,vY hE.ene] at h5
    simp only[z7 (show (g:Int)<n by omega),cT,aH,z7 hgm,z9,fV hgm,av,z7 (show n<n+1 by omega),aX (show n<n+1 by omega),h5,af]
    rw[show ((L g n:Int):Rat) / ((e:Int):Rat)=AM n L e g from rfl]
    rcases jY (AM n L e g) with ⟨f1,e1⟩ | ⟨f1,e1⟩
    ·refine .inr ⟨g+1,_,⟨rfl,by omega,fun i hi=>?_⟩,by omega,?_⟩
     ·by_cases c:i=g
      ·rw[c];exact f1
      ·exact h3 i (by omega)
     ·rw[e1]
      simp only[decide_true,bt,cF,cZ (show (g+1)*16<=140737488355328 by omega),cT,bo (show g<=1000000 by omega)]
      rw[show prQ (AM n L e g)=(fun i=>prQ (AM n L e i)) g from rfl,tx]
    ·refine .inl (.inr (.inr (.inr ?_)))
     rw[e1]
     rfl
 ·have hL0:L (k+j0) n≠0:=z12 hp0
  refine nW (Ja m n N b) j0 (by omega) (fun j=>((j:Int),aC)) rfl (fun again1 j hj=>?_) (fun again1=>?_)
  ·have h1:=Decidable.not_not.1 (of_decide_eq_false (hpn j hj))
   simp only[z7 (show (j:Int)<(m - k:Nat) by omega),aH,z7 (show j<m - k by omega),z9,Ca (show k+j<m by omega),av,z7 (show n<n+1 by omega),cT,aX (show n<n+1 by omega),h1,decide_true,bt,cF,bo (show j<=1000000 by omega)]
  ·simp only[z7 (show (j0:Int)<(m - k:Nat) by omega),aH,z7 hj0,z9,Ca (show k+j0<m by omega),av,z7 (show n<n+1 by omega),cT,aX (show n<n+1 by omega),z8 hL0,e_]
   exact .inr (.inl ⟨rfl,fun x=>hE.none (show k<=k+j0 by omega) (by omega) hL0 x⟩)
theorem Ez {s:Sy} (h:dz s=false):bh s=some ([],1,()):=by
 unfold bh ka
 rw[Hz h]
 rfl
theorem Ib {s:Sy} (h:dz s=true):Ja s.1.length s.2.length (Mx s) (bwS s) (bh s):=by
 have hV:=dD h
 have hb:=hV.bl
 have hr:=hV.rl
 have h1:=Dz (m:=s.1.length) (n:=s.2.length) (N:=Mx s) (b:=bwS s) hb (by omega) (fun i j _ hj=>yV hV i hj) (fun i hi=>by have:=hV.wt i hi;omega)
 have e:bh s=cm (uB s) (Wk s):=by
  unfold bh ka
  rw[yC h,af]
  simp only[decide_true,bt,cF,KW h,af]
  cases cm (uB s) (Wk s) with
  | none=>rfl
  | some t=>rfl
 rw[e]
 exact h1
theorem KP (l m:List Fq) (hl:l.length<=1000000):bz l m=some (decide (l=m)):=by
 simp only[bz,my]
 by_cases h:l.length=m.length
 ·rw[z7 (show (l.length:Int)=m.length by omega)]
  simp only[bt,cF]
  refine Rf (0,0) h hl (fun again i hi=>?_) (fun again=>?_)
  ·simp only[aH,z7 hi,z7 (show i<m.length by omega),z7 (show (i:Int)<l.length by omega),cT,z9,bN (show i<=1000000 by omega),T1]
   cases decide (aT l i ((0:Int),(0:Int))=aT m i (0,0))<;>rfl
  ·simp only[z8 (show ¬ (l.length:Int)<l.length by omega),cF]
 ·rw[z8 (show ¬ (l.length:Int)=m.length by omega),z8 fun e=>h (by rw[e])]
  rfl
theorem Za {l m:List Fq} (hl:∀a ∈ l,okF a) (hm:∀a ∈ m,okF a) (hn:l.length=m.length) (h:∀j,j<l.length->vX l j=vX m j):l=m:=by
 refine List.ext_getElem hn fun i h1 h2=>?_
 have:=h i h1
 unfold vX at this
 rw[aI h1,aI h2] at this
 exact Kj (hl _ (eX _)) (hm _ (eX _)) this
end Go.Proofs.YtlfdhaiigdllcaaGreat

namespace Go.Proofs.YtlfdhaiigdllcaaGreat
noncomputable section
open Tryz Dn Dn.Sh
theorem Kq (z:Int×Int) {n:Nat} (hn:n<=1000000):bB [z] (n:Int)=some (bx n z):=by
 have hm:fA (aQ .u64 ((aq [z]:Nat):Int)) (aQ .u64 (n:Int))=some (0,(n:Int),()):=by
  simp only[fA,tV]
  rw[bU (by simp) (by simp),bU (by omega) (by omega),RH (by simp) (by simp) (by omega) (by omega),af]
  simp only[List.length_singleton]
  congr 1
  refine Prod.ext ?_ (Prod.ext ?_ rfl)
  ·show ((1:Nat):Int)*n / 18446744073709551616=0
   omega
  ·show ((1:Nat):Int)*n % 18446744073709551616=n
   omega
 have hw:aQ .i64 (n:Int)=(n:Int):=aZ (by omega) (by omega)
 simp only[bB,lm,jnT]
 rw[z8 (show ¬ (n:Int)<0 by omega),cF,hm,af]
 have h63:decide ((n:Int)>9223372036854775807)=false:=z8 (by omega)
 have hz0:decide ((0:Int)>0)=false:=rfl
 have hz1:decide ((0:Int)<=(n:Int))=true:=z7 (by omega)
 have hfb:dS n 16=true:=cZ (by omega)
 simp only[hw,hz0,h63,hz1,z9,hfb,e_,bt,p_,h_,cT,cF,List.drop_zero,List.take_zero,List.nil_append]
 refine vF (g:=fun _=>some (bx n z)) (I:=fun (x:Int×List Fq×PUnit)=>∃c:Nat,x.1=c/\c<=n/\(0<n->0<c)/\x.2.1.length=n/\x.2.1.take c=bx c z) (μ:=fun (x:Int×List Fq×PUnit)=>n - x.1.toNat) ?_ ?_ (by simp only;omega)
 ·rintro ⟨i,row,_⟩ rec ⟨c,h1,h2,h3,h4,h5⟩ hrec
  simp only at h1 h4 h5 hrec ⊢
  subst h1
  simp only[z9,h4]
  by_cases hc:c<n
  ·have hl:(n_ (n - c) (n_ c row)).length=min (n - c) c:=by rw[b_,b_,h4];omega
   rw[z7 (show (c:Int)<n by omega),cT,Bo (by omega) (by omega) (by omega),Bo (by omega) (by omega) (by omega),cE (by omega),cE (bY n)]
   simp only[h_,cT]
   rw[aZ (by omega) (by omega)]
   refine hrec _ ⟨c+min (n - c) c,?_,by omega,by omega,?_,?_⟩ ?_
   ·simp only;rw[hl];omega
   ·simp only[cL,l_,hl,h4,b_];omega
   ·simp only
    rw[List.take_append_of_le_length (by rw[cL,hl,b_,h4];omega),h5,List.take_replicate,List.replicate_append_replicate,List.take_replicate]
    congr 1
    omega
   ·simp only;rw[hl];omega
  ·have:c=n:=by omega
   subst this
   rw[z8 (show ¬ (c:Int)<c by omega),cF]
   rw[<-h5,oK (by omega)]
 ·refine ⟨(n_ n [z]).length,rfl,by rw[b_];omega,fun h=>by rw[b_];simp;omega,?_,?_⟩
  ·simp only[cL,l_,q_,b_,List.length_singleton];omega
  ·simp only
   rcases Nat.eq_zero_or_pos n with h | h
   ·subst h;rfl
   ·obtain ⟨m,rfl⟩:∃m,n=m+1:=⟨n - 1,by omega⟩
    simp
theorem NU {l:List Int} (h:l.length<=1000000) (v:Int):cI l v=some (decide (v ∈ l)):=by
 have h1:∃z,eG l v=some z/\(decide (z>=0))=decide (v ∈ l):=by
  unfold eG lM
  refine FU (fun (x:Int×PUnit)=>∃i:Nat,x=((i:Int),aC)/\i<=l.length/\∀j,j<i->l.getD j 0≠v) (fun (z:Int)=>decide (z>=0)=decide (v ∈ l)) (fun (x:Int×PUnit)=>l.length - x.1.toNat) (fun x ⟨i,hx,hi,hne⟩=>?_) ⟨0,rfl,Nat.zero_le _,fun j hj=>by omega⟩ (by simp;omega)
  subst hx
  by_cases hl:i<l.length
  ·simp only[z7 (show (i:Int)<l.length by omega),cT,aH,z7 hl,z9,bN (show i<=1000000 by omega)]
   by_cases hv:v=l.getD i 0
   ·refine .inl ⟨(i:Int),?_,fun rec=>by rw[z7 hv,cT]⟩
    rw[z7 (show (i:Int)>=0 by omega),z7 (show v ∈ l by rw[hv,aI hl];exact eX _)]
   ·refine .inr ⟨_,⟨i+1,rfl,by omega,fun j hj=>?_⟩,by simp only[z9];omega,fun rec=>by rw[z8 hv,cF]⟩
    by_cases e:j=i
    ·rw[e];exact fun e=>hv e.symm
    ·exact hne j (by omega)
  ·simp only[z8 (show ¬ (i:Int)<l.length by omega),cF]
   refine .inl ⟨-1,?_,fun rec=>rfl⟩
   rw[z8 (show ¬ (-1:Int)>=0 by omega),z8 fun hm=>?_]
   obtain ⟨j,hj,he⟩:=List.mem_iff_getElem.1 hm
   exact hne j (by omega) (by rw[aI hj,he])
 obtain ⟨z,hz,hd⟩:=h1
 simp only[cI,kz,hz,af,hd]
theorem QY {s:Sy} (h:dz s=true) (hn:∀r ∈ s.2,r.2.2=false):dP s=some ((aW s.2.length (fun i=>(i:Int)),jC s),0,()):=by
 have hv:=dD h
 have hb:=hv.bl
 have hr:=hv.rl
 obtain ⟨m,hm⟩:∃m,m=s.2.length:=⟨_,rfl⟩
 obtain ⟨w,hw⟩:∃w,w=s.1.length:=⟨_,rfl⟩
 have hgetM:∀j,j<w->(uB s).getD j []=aW m (Mx s j):=fun j hj=>by unfold uB;rw[<-hm,<-hw];exact fV hj
 have hlM:(uB s).length=w:=by unfold uB;rw[cv,<-hw]
 have hh:∀i,i<m->(s.2.getD i (⟨⟨[]⟩⟩,[],false)).2.2=false:=fun i hi=>by rw[aI (by omega)];exact hn _ (eX _)
 unfold dP rZ jC
 rw[yC h,af]
 rw[<-hm] at hr ⊢
 rw[<-hw] at hb ⊢
 simp only[decide_true,bt,cF]
 refine cq m (by omega) (fun i=>((i:Int),aW i (fun k=>(k:Int)),ja i w (trM (Mx s)),aC)) _ rfl (fun again i hi=>?_) (fun again=>?_)
 ·simp only[z7 (show (i:Int)<m by omega),aH,z7 hi,cT,z9,hh i hi,cF,hlM,bN (show i<=1000000 by omega)]
  refine cq w (by omega) (fun j=>(aW j (trM (Mx s) i),(j:Int),aC)) _ rfl (fun again1 j hj=>?_) (fun again1=>?_)
  ·simp only[z7 (show (j:Int)<w by omega),aH,z7 hj,cT,z9,hgetM j hj,av,z7 hi,aX hi,cZ (show (j+1)*8<=140737488355328 by omega),bN (show j<=1000000 by omega),<-ju]
   rfl
  ·simp only[z8 (show ¬ (w:Int)<w by omega),cF,av,gZ,cZ (show (i+1)*8<=140737488355328 by omega),cZ (show (i+1)*24<=140737488355328 by omega),cT,wz,ju]
 ·simp only[z8 (show ¬ (m:Int)<m by omega),cF,iV,cT,iT]
theorem Jt {s:Sy} (h:dz s=true) (hn:∀r ∈ s.2,r.2.2=false):fH s=gD s:=by
 have hr:=(dD h).rl
 simp only[fH,nh,gD,nR,QY h hn,CK h,af,decide_true,bt,cF]
 rw[z7 (show ((jC s).length:Int)>0 by unfold jC;rw[cv];omega),cT]
theorem Ee {n d:Int} (hd:d≠0) (hn:n.natAbs<=1152921504606846976) (hd2:d.natAbs<=1152921504606846976):vj (C7 n d)=(prQ ((n:Rat) / d),0,()):=by
 obtain ⟨m1,m2,m3⟩:=Fj (s:=decide (n<0) !=decide (d<0)) (n:=n.natAbs) (d:=d.natAbs) (by omega)
 obtain ⟨m4,m5⟩:=E9 (s:=decide (n<0) !=decide (d<0)) m2 m3
 have hf:gF (C7 n d):=by
  unfold gF C7
  rw[m1,m4,m5]
  have a1:n.natAbs / f_ n.natAbs d.natAbs<=n.natAbs:=Nat.div_le_self _ _
  have a2:d.natAbs / f_ n.natAbs d.natAbs<=d.natAbs:=Nat.div_le_self _ _
  refine ⟨?_,by rw[<-m5] at *;omega⟩
  unfold sgn
  generalize n.natAbs / f_ n.natAbs d.natAbs=p at *
  split<;>omega
 unfold vj
 rw[if_pos hf,vY hd]
theorem adU {m w c:Nat} {N:Nat->Nat->Int} {x y:Int} (hx:1<=x) (hy:x<=y) (h1:∀i j,i<m->j<c->ab (N i j)<=x) (h2:∀i j,i<m->j<w->ab (N i j)<=y)
  {T:Nat->Nat->Int} {d:Int} {β:Nat->Nat} (hc:c<=w) (hT:Tb m (w+m) (om w N) T d β) (hβ:∀i,i<m->β i<c\/w<=β i) {i j:Nat} (hi:i<m) (hj:j<w+m):ab (T i j)<=fct m*(y*x ^ m):=by
 rw[hT.bound hi hj]
 unfold dc
 have h3:=BV (n:=m) (A:=fp (om w N) (upd β i j)) (B:=fun q=>if q=i then y else x) fun p q hp hq=>?_
 ·refine nE h3 ?_
  exact iD (zV hx hy) (xF m)
 ·unfold fp upd om
  have ab01:∀P:Prop,[Decidable P]->ab (if P then 1 else 0)<=1:=fun P _=>by split<;>decide
  by_cases c1:q=i
  ·rw[if_pos c1,if_pos c1]
   by_cases c2:j<w
   ·rw[if_pos c2]
    exact h2 p j hp c2
   ·rw[if_neg c2]
    exact nE (ab01 _) (by omega)
  ·rw[if_neg c1,if_neg c1]
   rcases hβ q hq with h | h
   ·rw[if_pos (by omega)]
    exact h1 p _ hp h
   ·rw[if_neg (by omega)]
    exact nE (ab01 _) hx
def AU (n k:Nat) (p:Nat->Nat) (L:Nat->Nat->Int) (e:Int):Nat->List (List Fq)
 | 0=>[]
 | i+1=>bif decide ((i:Int) ∈ aW k (fun q=>(p q:Int))) then AU n k p L e i else AU n k p L e i++[aW n fun j=>prQ (frQ p L e i k j)]
theorem D6 (n k:Nat) (p:Nat->Nat) (L:Nat->Nat->Int) (e:Int) (i:Nat):AU n k p L e (i+1)=bif decide ((i:Int) ∈ aW k (fun q=>(p q:Int))) then AU n k p L e i else AU n k p L e i++[aW n fun j=>prQ (frQ p L e i k j)]:=rfl
theorem Cg (n k:Nat) (p:Nat->Nat) (L:Nat->Nat->Int) (e:Int):∀i,(AU n k p L e i).length<=i
 | 0=>bY _
 | i+1=>by
  have:=Cg n k p L e i
  unfold AU
  cases decide ((i:Int) ∈ aW k (fun q=>(p q:Int))) with
  | true=>exact Nat.le_succ_of_le this
  | false=>show (AU n k p L e i++_).length<=_;rw[cL];simp;omega
theorem OV {m n:Nat} {N:Nat->Nat->Int} (hm:1<=m/\m<=6) (hn:1<=n/\n<=6) (hN:∀i j,i<m->j<n-> -20<=N i j/\N i j<=20) :
  ∃k p L e T d β s,El m n n N n k p L e T d β s/\bJ (jH m n N)=some (AU n k p L e n,0,())/\(∀i j,i<m->j<n->(L i j).natAbs<=1152921504606846976)/\e.natAbs<=1152921504606846976:=by
 have hN1:∀i j,i<m->j<n->ab (N i j)<=20:=fun i j hi hj=>sJ.2 (hN i j hi hj)
 have h60:fct m*(20*20 ^ m)<=1152921504606846976:=by
  have h6:m=1\/m=2\/m=3\/m=4\/m=5\/m=6:=by omega
  rcases h6 with rfl | rfl | rfl | rfl | rfl | rfl<;>decide
 have hB:ElBnd m n n N:=Ck (x:=20) (y:=20) (by omega) (by omega) (by omega) (by omega) (by omega) hN1 hN1 (by omega)
 obtain ⟨k,p,L,e,T,d,β,s,fr,tu,hel,hE⟩:=tw hB
 have hkm:=hE.km
 have hβ:∀i,i<m->β i<n\/n<=β i:=fun i _=>Nat.lt_or_ge _ _
 have hTs:∀i j,i<m->j<n+m->ab (T i j)<=1152921504606846976:=fun i j hi hj=>nE (adU (x:=20) (y:=20) (by omega) (by omega) hN1 hN1 (bY _) hE.tb hβ hi hj) h60
 have hsx:∀x:Int,ab x<=1152921504606846976-> -1152921504606846976<=s*x/\s*x<=1152921504606846976:=fun x hx=>by
  have:=sJ.1 hx
  rcases hE.s1 with h1 | h1<;>rw[h1]<;>omega
 have hLs:∀i j,i<m->j<n-> -1152921504606846976<=L i j/\L i j<=1152921504606846976:=fun i j hi hj=>by rw[hE.le i j hi hj];exact hsx _ (hTs i j hi (by omega))
 have hes: -1152921504606846976<=e/\e<=1152921504606846976:=by
  rw[hE.de]
  refine hsx _ ?_
  have h0:=hTs 0 (β 0) (by omega) (hE.tb.lt 0 (by omega))
  rwa [hE.tb.basis (show 0<m by omega)] at h0
 refine ⟨k,p,L,e,T,d,β,s,hE,?_,fun i j hi hj=>by have:=hLs i j hi hj;omega,by omega⟩
 unfold bJ rE
 rw[zN hm (show 1<=n/\n<=12 by omega) fun i j hi hj=>by have:=hN i j hi hj;omega,af]
 simp only[bt,cF,cv,show inB 0 m=true from (aH (i:=0)).trans (z7 (show 0<m by omega)),cT,fV (show 0<m by omega),av]
 rw[hel,af]
 refine cq n (by omega) (fun i=>(AU n k p L e i,(i:Int),aC)) _ rfl (fun again i hi=>?_) (fun again=>?_)
 ·have hlen:=Cg n k p L e i
  simp only[z7 (show (i:Int)<n by omega),cT,NU (l:=aW k fun q=>(p q:Int)) (by rw[av];omega),af,bN (show i<=1000000 by omega)]
  rw[D6]
  cases hc:decide ((i:Int) ∈ aW k (fun q=>(p q:Int))) with
  | true=>rfl
  | false =>
   simp only[cF,Kq (0,1) (show n<=1000000 by omega),af,q_,aH,z7 hi,cT,z9,cE (show i.succ<=n by omega)]
   have hv0:(bx n ((0:Int),(1:Int))).set i (1,1)=aW n fun j=>prQ (frQ p L e i 0 j):=by
    rw[show bx n ((0:Int),(1:Int))=aW n fun _=>(0,1) by unfold aW;rw[List.map_const',pI],iJ hi]
    refine cz fun j _=>?_
    unfold frQ
    by_cases c:j=i
    ·rw[if_pos c,if_pos c];rfl
    ·rw[if_neg c,if_neg c];rfl
   rw[hv0]
   refine cq k (by omega) (fun q=>((q:Int),aW n (fun j=>prQ (frQ p L e i q j)),aC)) _ rfl (fun again1 q hq=>?_) (fun again1=>?_)
   ·have hpn:=hE.pn hq
    have hL:=hLs q i (by omega) hi
    have hmk:=FV (n:= -(L q i)) (d:=e) (by omega) (by omega) (by omega) (by omega)
    rw[if_neg hE.ene,Ee hE.ene (by omega) (by omega)] at hmk
    simp only[z7 (show (q:Int)<k by omega),av,aH,z7 hq,cv,z7 (show q<m by omega),cT,z9,fV (show q<m by omega),z7 hi,aX hi,aX hq,aZ (x:= -L q i) (by omega) (by omega),Int.zero_sub,hmk,af,decide_true,bt,cF,z7 hpn,cE (show (p q).succ<=n by omega),bN (show q<=1000000 by omega)]
    rw[iJ hpn]
    refine congrArg again1 (congrArg (fun z=>(((q+1:Nat):Int),z,aC)) (cz fun j _=>?_))
    show _=prQ (if j=p q then ((-(L q i):Int):Rat) / ((e:Int):Rat) else frQ p L e i q j)
    by_cases c:j=p q
    ·rw[if_pos c,if_pos c]
    ·rw[if_neg c,if_neg c]
   ·simp only[av,z8 (show ¬ (k:Int)<k by omega),cF,cZ (show ((AU n k p L e i).length+1)*24<=140737488355328 by omega),cT]
 ·simp only[z8 (show ¬ (n:Int)<n by omega),cF]
theorem si {m n:Nat} {N:Nat->Nat->Int} (hm:1<=m/\m<=6) (hn:1<=n/\n<=6) (hN:∀i j,i<m->j<n-> -20<=N i j/\N i j<=20) :
  ∃k p L e T d β s,El m n n N n k p L e T d β s/\eq (jH m n N)=some (k:Int):=by
 have hN1:∀i j,i<m->j<n->ab (N i j)<=20:=fun i j hi hj=>sJ.2 (hN i j hi hj)
 have h60:fct m*(20*20 ^ m)<4611686018427387904:=by
  have h6:m=1\/m=2\/m=3\/m=4\/m=5\/m=6:=by omega
  rcases h6 with rfl | rfl | rfl | rfl | rfl | rfl<;>decide
 have hB:ElBnd m n n N:=Ck (x:=20) (y:=20) (by omega) (by omega) (by omega) (by omega) (by omega) hN1 hN1 h60
 obtain ⟨k,p,L,e,T,d,β,s,fr,tu,hel,hE⟩:=tw hB
 refine ⟨k,p,L,e,T,d,β,s,hE,?_⟩
 unfold eq oy jl rH
 rw[zN hm (show 1<=n/\n<=12 by omega) fun i j hi hj=>by have:=hN i j hi hj;omega,af]
 simp only[bt,cF,cv,z8 (show ¬ ((m:Nat):Int)=0 by omega),show inB 0 m=true from (aH (i:=0)).trans (z7 (show 0<m by omega)),cT,fV (show 0<m by omega),av]
 rw[hel,af,af,av]
def uz (l:List (List Int)):Int:=(eq l).getD 0
def oO (s:Sy) (c:Nat):List (List Int):=jH (s.2.length - 1) s.1.length fun q=>trM (Mx s) (skip c q)
theorem OE {m n:Nat} {N:Nat->Nat->Int} {c:Nat} (hc:c<m):(jH m n N).take c++(jH m n N).drop (c+1)=jH (m - 1) n fun q=>N (skip c q):=by
 refine List.ext_getElem (by rw[cL,b_,l_,cv,cv];omega) fun i h1 h2=>?_
 have hi:i<m - 1:=by rw[cv] at h2;exact h2
 have hm:∀j (hj:j<(jH m n N).length),(jH m n N)[j]=aW n (N j):=fun j hj=>by
  have:=fV (w:=n) (T:=N) (show j<m by rw[cv] at hj;exact hj)
  rw[aI hj] at this
  exact this
 have hm2:(jH (m - 1) n fun q=>N (skip c q))[i]=aW n (N (skip c i)):=by
  have:=fV (w:=n) (T:=fun q=>N (skip c q)) hi
  rw[aI h2] at this
  exact this
 rw[hm2]
 unfold skip
 by_cases hic:i<c
 ·rw[if_pos hic,List.getElem_append_left (by rw[b_,cv];omega),List.getElem_take,hm]
 ·rw[if_neg hic,List.getElem_append_right (by rw[b_,cv];omega),List.getElem_drop,hm]
  congr 2
  rw[b_,cv]
  omega
theorem QZ {s:Sy} (h:dz s=true) {c:Nat} (hc:c<s.2.length) (x:List Int):bV (x,jC s) (c:Int)=some (oO s c):=by
 have hr:=(dD h).rl
 have hl:(jC s).length=s.2.length:=cv
 have hw:aQ .i64 ((c:Int)+1)=((c+1:Nat):Int):=bN (show c<=1000000 by omega)
 simp only[bV,jB,fk,lR,hl,cZ (show (0+s.2.length)*24<=140737488355328 by omega),cT,af,hw]
 unfold dJ
 rw[hl,z7 (show (0:Int)<=(c:Int) by omega),z7 (show (c:Int)<=((c+1:Nat):Int) by omega),z7 (show ((c+1:Nat):Int)<=(s.2.length:Int) by omega),show cl 1 s.2.length=true from cE (by omega)]
 simp only[h_,cond_true,af,z9]
 rw[show jC s=jH s.2.length s.1.length (trM (Mx s)) from rfl,OE hc]
 rfl
def E8 (s:Sy) (c:Nat):Bool:=decide (uz (oO s c)=uz (jC s))
def ry (s:Sy):Nat->List ByteArray
 | 0=>[]
 | i+1=>bif E8 s i then ry s i++[(s.2.getD i (⟨⟨[]⟩⟩,[],false)).1] else ry s i
theorem Ij (s:Sy):∀i,(ry s i).length<=i
 | 0=>bY _
 | i+1=>by
  have:=Ij s i
  unfold ry
  cases E8 s i with
  | false=>exact Nat.le_succ_of_le this
  | true=>show (ry s i++_).length<=_;rw[cL];simp;omega
theorem EJ {s:Sy}:∀{i:Nat},(∀c,c<i->E8 s c=false)->ry s i=[]
 | 0,_=>rfl
 | i+1,h=>by
  unfold ry
  rw[h i (by omega)]
  exact EJ fun c hc=>h c (by omega)
theorem Ds {s:Sy}:∀{i c:Nat},c<i->E8 s c=true->0<(ry s i).length
 | i+1,c,hc,h=>by
  unfold ry
  by_cases e:c=i
  ·rw[e] at h
   rw[h]
   show 0<(ry s i++_).length
   rw[cL]
   simp
  ·have:=Ds (i:=i) (by omega) h
   cases E8 s i with
   | false=>exact this
   | true=>show 0<(ry s i++_).length;rw[cL];omega
theorem pD {s:Sy} (h:dz s=true):∀i j,i<s.2.length->j<s.1.length-> -20<=trM (Mx s) i j/\trM (Mx s) i j<=20:=fun i j hi hj=>by
 have:=yV (dD h) j hi
 unfold trM
 omega
theorem Y9 {s:Sy} (h:dz s=true) {c:Nat} (hc:c<s.2.length):eq (oO s c)=some (uz (oO s c))/\eq (jC s)=some (uz (jC s)):=by
 have hV:=dD h
 have hb:=hV.bl
 have hr:=hV.rl
 have hN:=pD h
 obtain ⟨k,p,L,e,T,d,β,sg',hE,hk⟩:=si (m:=s.2.length) (n:=s.1.length) (N:=trM (Mx s)) (by omega) (by omega) hN
 refine ⟨?_,by unfold uz jC;rw[hk];rfl⟩
 by_cases h1:s.2.length=1
 ·have e:oO s c=[]:=List.length_eq_zero_iff.1 (by unfold oO;rw[cv];omega)
  rw[e];rfl
 ·obtain ⟨k,p,L,e,T,d,β,sg',hE,hk⟩:=si (m:=s.2.length - 1) (n:=s.1.length) (N:=fun q=>trM (Mx s) (skip c q)) (by omega) (by omega) (fun i j hi hj=>hN _ j (by unfold skip;split<;>omega) hj)
  unfold uz oO
  rw[hk];rfl
theorem Wd {s:Sy} (h:dz s=true) (hn:∀r ∈ s.2,r.2.2=false):dQ s=some (ry s s.2.length,0,()):=by
 have hV:=dD h
 have hr:=hV.rl
 unfold dQ kP
 rw[QY h hn,af]
 simp only[decide_true,bt,cF,av]
 refine cq s.2.length (by omega) (fun i=>(ry s i,(i:Int),aC)) _ rfl (fun again i hi=>?_) (fun again=>?_)
 ·obtain ⟨h1,h2⟩:=Y9 h hi
  have hlen:=Ij s i
  simp only[z7 (show (i:Int)<s.2.length by omega),aH,z7 hi,cT,QZ h hi,af,h1,h2,z9,aX hi,bN (show i<=1000000 by omega),cZ (show ((ry s i).length+1)*16<=140737488355328 by omega)]
  show _=again (bif E8 s i then ry s i++[(s.2.getD i (⟨⟨[]⟩⟩,[],false)).1] else ry s i,_,_)
  unfold E8
  cases decide (uz (oO s i)=uz (jC s))<;>rfl
 ·simp only[z8 (show ¬ (s.2.length:Int)<s.2.length by omega),cF]
theorem R4 {s:Sy} (h:dz s=true) (hi:∀x,rT s.1.length s.2.length (Mx s) x->∀q,q<s.2.length->x q=0):ry s s.2.length=[]:=EJ fun c hc=>by
 have hV:=dD h
 have hb:=hV.bl
 have hr:=hV.rl
 have hN:=pD h
 obtain ⟨k,p,L,e,T,d,β,sg',hE,hk⟩:=si (m:=s.2.length) (n:=s.1.length) (N:=trM (Mx s)) (by omega) (by omega) hN
 have hkr:=VS hi (fun q i _ _=>rfl) hE
 have e1:uz (jC s)=k:=by unfold uz jC;rw[hk];rfl
 unfold E8
 refine z8 fun e2=>?_
 by_cases h1:s.2.length=1
 ·have e:oO s c=[]:=List.length_eq_zero_iff.1 (by unfold oO;rw[cv];omega)
  rw[e,e1,show uz []=0 from rfl] at e2
  omega
 ·obtain ⟨k2,p2,L2,e2',T2,d2,β2,s2,hE2,hk2⟩:=si (m:=s.2.length - 1) (n:=s.1.length) (N:=fun q=>trM (Mx s) (skip c q)) (by omega) (by omega) (fun i j hi hj=>hN _ j (by unfold skip;split<;>omega) hj)
  have e3:uz (oO s c)=k2:=by unfold uz oO;rw[hk2];rfl
  have:=hE2.km
  omega
theorem QJ {s:Sy} (h:dz s=true) {x:Nat->Rat} (hx:rT s.1.length s.2.length (Mx s) x) {c:Nat} (hc:c<s.2.length) (h0:x c≠0):0<(ry s s.2.length).length:=Ds hc (by
 have hV:=dD h
 have hb:=hV.bl
 have hr:=hV.rl
 have hN:=pD h
 obtain ⟨k,p,L,e,T,d,β,sg',hE,hk⟩:=si (m:=s.2.length) (n:=s.1.length) (N:=trM (Mx s)) (by omega) (by omega) hN
 have e1:uz (jC s)=k:=by unfold uz jC;rw[hk];rfl
 have hred:=Db hx hc h0
 unfold E8
 refine z7 ?_
 by_cases h1:s.2.length=1
 ·have e:oO s c=[]:=List.length_eq_zero_iff.1 (by unfold oO;rw[cv];omega)
  rw[e,e1,show uz []=0 from rfl]
  by_cases hk0:k=0
  ·omega
  ·have hp0:p 0<s.1.length:=hE.pn (by omega)
   refine absurd ⟨fun j=>if j=p 0 then 1 else 0,(hred _).1 (fun q hq=>by omega),?_,fun j h2 _=>if_neg (by omega)⟩ ((hE.piv_iff (bY _) hp0).1 ⟨0,by omega,rfl⟩)
   show (if p 0=p 0 then (1:Rat) else 0)≠0
   rw[if_pos rfl]
   decide
 ·obtain ⟨k2,p2,L2,e2',T2,d2,β2,s2,hE2,hk2⟩:=si (m:=s.2.length - 1) (n:=s.1.length) (N:=fun q=>trM (Mx s) (skip c q)) (by omega) (by omega) (fun i j hi hj=>hN _ j (by unfold skip;split<;>omega) hj)
  have e3:uz (oO s c)=k2:=by unfold uz oO;rw[hk2];rfl
  rw[e3,e1,Mg hE2 (bY _) hE (bY _) hred])
end
end Go.Proofs.YtlfdhaiigdllcaaGreat

namespace Go.Proofs.YtlfdhaiigdllcaaGreat
open Tryz Dn Dn.Sh
theorem kfb {s:Sy} (hl:s.1.length<=1000000) (n:ByteArray):(ba s.1 fun x=>fa x.1 n)=some (fbI s n):=by
 simp only[fa,mh,tn]
 unfold ba iq
 exact jx (f:=fun x:Bk×Unit=>some (decide (x.1.1=n))) (p:=fun b:Bk=>decide (b.1=n)) (d:=bk0) hl (fun a _=>rfl)
def hlI (s:Sy):Int:=jS (fun r:Rp=>r.2.2) s.2 0
theorem khl {s:Sy} (hl:s.2.length<=1000000):(ap s.2 fun x=>fc x.1)=some (hlI s):=by
 simp only[fc,mJ]
 unfold ap iU
 exact jx (f:=fun x:Rp×Unit=>some x.1.2.2) (p:=fun r:Rp=>r.2.2) (d:=rp0) hl (fun a _=>rfl)
theorem aeP {s:Sy} (hl:s.2.length<=1000000):(ap s.2 fun x=>gt x.1)=some (hlI s):=khl hl
theorem BL {α:Type} {p:α->Bool} (d:α):∀{l:List α} {i:Int},0<=i->jS p l i<0\/∃k,k<l.length/\jS p l i=i+k/\p (l.getD k d)=true
 | [],i,_=>.inl (by unfold jS;decide)
 | a ::l,i,hi=>by
  unfold jS
  cases hp:p a with
  | true=>exact .inr ⟨0,Nat.succ_pos _,by simp,hp⟩
  | false =>
   rcases BL (p:=p) d (l:=l) (i:=i+1) (by omega) with h | ⟨k,h1,h2,h3⟩
   ·exact .inl h
   ·exact .inr ⟨k+1,by simp;omega,by simp only[cond_false];omega,h3⟩
def zd (r r0:Nat):List Int:=aW r fun i=>if i=r0 then 1 else 0
theorem O6 {r r0:Nat} (h:r0<r):(bx r (0:Int)).set r0 1=zd r r0:=by
 rw[show bx r (0:Int)=aW r fun _=>0 by unfold aW;rw[List.map_const',pI],iJ h]
 rfl
theorem M6 {s:Sy} {r0:Nat} (hl:s.2.length<=1000000) (h0:r0<s.2.length) (hh:(s.2.getD r0 (⟨⟨[]⟩⟩,[],false)).2.2=true):gg s (zd s.2.length r0)=some true:=by
 unfold gg oA
 have hul:(zd s.2.length r0).length=s.2.length:=av
 refine cq s.2.length (by omega) (fun i=>((i:Int),aC)) _ rfl (fun again i hi=>?_) (fun again=>?_)
 ·have hg:(zd s.2.length r0).getD i 0=if i=r0 then 1 else 0:=aX hi
  simp only[hul,z7 (show (i:Int)<s.2.length by omega),aH,z7 hi,cT,z9,hg,bN (show i<=1000000 by omega)]
  by_cases c:i=r0
  ·subst c
   simp only[if_true,hh]
   rfl
  ·simp only[if_neg c]
   rfl
 ·simp only[hul,z8 (show ¬ (s.2.length:Int)<s.2.length by omega),cF]
theorem Nk {s:Sy} (h:dz s=true) {r0:Nat} (h0:r0<s.2.length) (hh:(s.2.getD r0 (⟨⟨[]⟩⟩,[],false)).2.2=true) :
  Ja s.2.length s.1.length (trM (Mx s)) (fun i=>if i=r0 then 1 else 0) (eJ s (zd s.2.length r0)):=by
 have hV:=dD h
 have hb:=hV.bl
 have hr:=hV.rl
 have h1:=Dz (m:=s.2.length) (n:=s.1.length) (N:=trM (Mx s)) (b:=fun i=>if i=r0 then 1 else 0) hr (by omega) (pD h) (fun i hi=>by split<;>omega)
 have e:eJ s (zd s.2.length r0)=cm (jC s) (zd s.2.length r0):=by
  unfold eJ ox
  rw[CK h,af]
  simp only[decide_true,bt,cF,show (zd s.2.length r0).length=s.2.length from av,M6 (show s.2.length<=1000000 by omega) h0 hh,af]
  cases cm (jC s) (zd s.2.length r0) with
  | none=>rfl
  | some t=>rfl
 rw[e]
 exact h1
theorem TR {b r:Nat} {M:Nat->Nat->Int} {b0 r0:Nat} (hb0:b0<b) (hr0:r0<r) {t v:Nat->Rat} (ht:EqN b r M (fun i=>if i=b0 then 1 else 0) t) (hv:EqN r b (trM M) (fun i=>if i=r0 then 1 else 0) v):t r0=v b0:=by
 have hv':∀q,q<r->(sq b fun i=>((M i q:Int):Rat)*v i)=(((if q=r0 then 1 else 0:Int)):Rat):=hv
 have ht':∀i,i<b->(sq r fun q=>((M i q:Int):Rat)*t q)=(((if i=b0 then 1 else 0:Int)):Rat):=ht
 have e1:(sq r fun q=>t q*sq b fun i=>((M i q:Int):Rat)*v i)=t r0:=by
  rw[zh hr0 fun q hq hne=>by rw[hv' q hq,if_neg hne];exact Rat.mul_zero _]
  rw[hv' r0 hr0,if_pos rfl]
  exact Rat.mul_one _
 have e2:(sq b fun i=>v i*sq r fun q=>((M i q:Int):Rat)*t q)=v b0:=by
  rw[zh hb0 fun i hi hne=>by rw[ht' i hi,if_neg hne];exact Rat.mul_zero _]
  rw[ht' b0 hb0,if_pos rfl]
  exact Rat.mul_one _
 rw[<-e1,<-e2]
 have e3:(sq r fun q=>t q*sq b fun i=>((M i q:Int):Rat)*v i)=sq r fun q=>sq b fun i=>v i*(((M i q:Int):Rat)*t q):=ca fun q _=>by
  rw[<-kc]
  exact ca fun i _=>by grind
 rw[e3,qT]
 exact ca fun i _=>kc
theorem KY {b c:Fq} (hb:1<=b.2) (hc:1<=c.2) (h:c.1*b.1=c.2*b.2):qv c=(qv b)⁻¹:=by
 have h1:qv c*qv b=1:=by
  unfold qv
  rw[Rat.mkRat_mul_mkRat,show (1:Rat)=mkRat 1 1 from rfl,Rat.mkRat_eq_iff (Nat.mul_ne_zero (by omega) (by omega)) (by decide),h,iS,Int.toNat_of_nonneg (by omega),Int.toNat_of_nonneg (by omega)]
  simp
 have h0:qv b≠0:=fun e=>by rw[e,Rat.mul_zero] at h1;exact absurd h1 (by decide)
 have h2:qv b*(qv b)⁻¹=1:=Rat.mul_inv_cancel _ h0
 have h3:qv c*qv b*(qv b)⁻¹=1*(qv b)⁻¹:=congrArg (fun z=>z*(qv b)⁻¹) h1
 rw[Rat.mul_assoc,h2,Rat.mul_one,Rat.one_mul] at h3
 exact h3
theorem Ty {a b:Fq} (ha:okF a) (hb:okF b):bR a b=some (if b.1=0 then ((0,0),16,()) else vj (qv a / qv b)):=by
 have hb':=hb
 unfold okF at hb'
 obtain ⟨⟨b1,b2⟩,⟨b3,b4⟩,b5⟩:=hb'
 simp only[bR,vu,tj,af,z7 ha,z7 hb,bt,e_,p_,cT,cF]
 by_cases h0:b.1=0
 ·rw[z7 h0,cT,if_pos h0]
 rw[z8 h0,cF,if_neg h0,Rat.div_def]
 by_cases hn:b.1<0
 ·rw[z7 hn,cT,aZ (x:=0 - b.2) (by omega) (by omega),aZ (x:=0 - b.1) (by omega) (by omega)]
  have hc:okF (0 - b.2,0 - b.1):=by
   refine ⟨⟨by show 1<=0 - b.1;omega,by show 0 - b.1<=_;omega⟩,⟨by show _<=0 - b.2;omega,by show 0 - b.2<=_;omega⟩,?_⟩
   show f_ (0 - b.2).natAbs (0 - b.1).natAbs=1
   rw[Int.zero_sub,Int.zero_sub,Int.natAbs_neg,Int.natAbs_neg,Nat.gcd_comm]
   exact b5
  rw[xH ha hc,af,KY (b:=b) (c:=(0 - b.2,0 - b.1)) b1 hc.1.1 (by show (0 - b.2)*b.1=(0 - b.1)*b.2;grind)]
 ·rw[z8 hn,cF]
  have hc:okF (b.2,b.1):=by
   refine ⟨⟨by show 1<=b.1;omega,by show b.1<=_;omega⟩,⟨by show _<=b.2;omega,by show b.2<=_;omega⟩,?_⟩
   show f_ b.2.natAbs b.1.natAbs=1
   rw[Nat.gcd_comm]
   exact b5
  rw[xH ha hc,af,KY (b:=b) (c:=(b.2,b.1)) b1 hc.1.1 (by show b.2*b.1=b.1*b.2;grind)]
def uAt (s:Sy) (n:ByteArray) (j:Nat):Bk:=((s.1.getD j bk0).1,if (s.1.getD j bk0).1=n then 1 else 0)
def vM (s:Sy) (n:ByteArray):Sy:=(aW s.1.length (uAt s n),s.2)
def FY (s:Sy) (n:ByteArray) (i:Nat):Bool:=(List.range i).any fun j=>decide ((s.1.getD j bk0).1=n)
theorem Ny (s:Sy) (n:ByteArray) (i:Nat):FY s n (i+1)=(FY s n i||decide ((s.1.getD i bk0).1=n)):=by
 unfold FY
 rw[List.range_succ,List.any_append]
 simp
theorem Se {α:Type} (d:α) (l:List α):l=aW l.length fun j=>l.getD j d :=
 List.ext_getElem (by rw[av]) fun i h1 h2=>by rw[wk h2,aI h1]
theorem VW {s:Sy} (h:dz s=true) (n:ByteArray):fx s n=some (bif FY s n s.1.length then (vM s n,0,()) else (([],[]),9,())):=by
 have hb:=(dD h).bl
 obtain ⟨m,hm⟩:∃m,m=s.1.length:=⟨_,rfl⟩
 unfold fx ny
 rw[ww,af,h]
 simp only[bt,cF,ff,lU,cZ (show (0+s.1.length)*24<=140737488355328 by omega),cT,af,tn]
 rw[<-hm] at hb ⊢
 refine cq m (by omega) (fun i=>(FY s n i,(i:Int),aW m (fun j=>if j<i then uAt s n j else s.1.getD j bk0),aC)) _ ?_ (fun again i hi=>?_) (fun again=>?_)
 ·refine congrArg (fun l=>(false,(0:Int),l,aC)) ?_
  refine (Se bk0 s.1).trans ?_
  rw[<-hm]
  exact cz fun j _=>by rw[if_neg (by omega)]
 ·have hg:(aW m (fun j=>if j<i then uAt s n j else s.1.getD j bk0)).getD i bk0=s.1.getD i bk0:=by rw[aX hi,if_neg (by omega)]
  have hg':aT (aW m (fun j=>if j<i then uAt s n j else s.1.getD j bk0)) i ({ data:={ toList:=[] } },(0:Int))=s.1.getD i bk0:=hg
  have h1:(aW m (fun j=>if j<i then uAt s n j else s.1.getD j bk0)).set i ((s.1.getD i bk0).1,0)=aW m fun k=>if k=i then ((s.1.getD i bk0).1,0) else if k<i then uAt s n k else s.1.getD k bk0:=iJ hi
  have h2:aT (aW m fun k=>if k=i then ((s.1.getD i bk0).1,(0:Int)) else if k<i then uAt s n k else s.1.getD k bk0) i ({ data:={ toList:=[] } },(0:Int))=((s.1.getD i bk0).1,0):=by rw[aX hi,if_pos rfl]
  simp only[z7 (show (i:Int)<m by omega),av,aH,z7 hi,cT,z9,cE (show i.succ<=m by omega),bN (show i<=1000000 by omega),hg',h1,h2,Ny]
  have hu:uAt s n i=((s.1.getD i bk0).1,if (s.1.getD i bk0).1=n then 1 else 0):=rfl
  cases hd:decide ((s.1.getD i bk0).1=n) with
  | true =>
   rw[if_pos (z12 hd)] at hu
   rw[cT,p_,iJ hi]
   refine congrArg again (congrArg (fun l=>(true,(((i+1:Nat):Int)),l,aC)) (cz fun k _=>?_))
   by_cases c:k=i
   ·rw[if_pos c,if_pos (by omega),c,hu]
   ·rw[if_neg c,if_neg c]
    by_cases c2:k<i
    ·rw[if_pos c2,if_pos (by omega)]
    ·rw[if_neg c2,if_neg (by omega)]
  | false =>
   rw[if_neg (of_decide_eq_false hd)] at hu
   rw[cF,Bool.or_false]
   refine congrArg again (congrArg (fun l=>(FY s n i,(((i+1:Nat):Int)),l,aC)) (cz fun k _=>?_))
   by_cases c:k=i
   ·rw[if_pos c,if_pos (by omega),c,hu]
   ·rw[if_neg c]
    by_cases c2:k<i
    ·rw[if_pos c2,if_pos (by omega)]
    ·rw[if_neg c2,if_neg (by omega)]
 ·simp only[z8 (show ¬ (m:Int)<m by omega),cF]
  rw[show (aW m fun j=>if j<m then uAt s n j else s.1.getD j bk0)=aW m (uAt s n) from cz fun j hj=>if_pos hj]
  cases FY s n m with
  | false=>rfl
  | true =>
   simp only[bt,cF,cT]
   unfold vM
   rw[hm]
def Cb (s:Sy) (t:Fq):Prop:=dz s=true/\∃r0 l,r0<s.2.length/\hlI s=(r0:Int)/\(s.2.getD r0 rp0).2.2=true/\l.length=s.2.length/\(∀a ∈ l,okF a)/\EqN s.1.length s.2.length (Mx s) (bwS s) (vX l)/\bh s=some (l,0,())/\t=l.getD r0 (0,0)
theorem Lf (s:Sy):∃t e,bP s=some (t,e,())/\(e=0->Cb s t):=by
 unfold bP qI
 cases hv:dz s with
 | false=>rw[Ez hv];exact ⟨(0,0),1,rfl,fun e=>by cases e⟩
 | true =>
  have hV:=dD hv
  have hr:=hV.rl
  rcases Ib hv with ⟨l,h1,h2,h3,h4,h5⟩ | ⟨h1,_⟩ | ⟨h1,_⟩ | h1
  ·rw[h1,af]
   simp only[decide_true,bt,cF,aeP (show s.2.length<=1000000 by omega),af,h2]
   rcases BL (p:=fun r:Rp=>r.2.2) rp0 (l:=s.2) (i:=0) (by omega) with hn | ⟨k,k1,k2,k3⟩
   ·rw[z7 (show hlI s<0 from hn),cT]
    exact ⟨_,_,rfl,fun e=>by cases e⟩
   ·have hk:hlI s=(k:Int):=by show jS _ _ _=_;rw[k2];omega
    rw[hk,z8 (show ¬ (k:Int)<0 by omega),cF,aH,z7 k1,cT,z9]
    exact ⟨_,_,rfl,fun _=>⟨hv,k,l,k1,hk,k3,h2,h3,h4,h1,rfl⟩⟩
  ·rw[h1];exact ⟨_,_,rfl,fun e=>by cases e⟩
  ·rw[h1];exact ⟨_,_,rfl,fun e=>by cases e⟩
  ·rw[h1];exact ⟨_,_,rfl,fun e=>by cases e⟩
theorem Gy {a b:Fq} (ha:okF a) (hb:okF b):∃x e,bR a b=some (x,e,()):=by
 rw[Ty ha hb]
 split
 ·exact ⟨_,_,rfl⟩
 ·exact ⟨_,_,rfl⟩
theorem Gj:okF (1,1):=by unfold okF;decide
theorem MH {s:Sy} (h:dz s=true) (n:ByteArray):∃a e,dC s n=some (a,e,())/\(e=0->FY s n s.1.length=true/\∃t,Cb (vM s n) t/\bR (1,1) t=some (a,0,())):=by
 unfold dC lS
 rw[VW h,af]
 cases hb:FY s n s.1.length with
 | false=>exact ⟨_,_,rfl,fun e=>by cases e⟩
 | true =>
  simp only[cT,decide_true,bt,cF,gq,nF,fM,mI]
  obtain ⟨t,e,h1,h2⟩:=Lf (vM s n)
  rw[h1,af]
  by_cases he:e=0
  ·subst he
   have hH:=h2 rfl
   obtain ⟨hv,r0,l,k1,k2,k3,k4,k5,k6,k7,k8⟩:=h2 rfl
   have ht:okF t:=by rw[k8,aI (by omega)];exact k5 _ (eX _)
   obtain ⟨x,e2,hd⟩:=Gy Gj ht
   simp only[decide_true,bt,cF,af,hd]
   exact ⟨x,e2,rfl,fun e0=>⟨trivial,t,hH,by rw[hd,e0]⟩⟩
  ·simp only[z8 he,e_,cT,af]
   exact ⟨_,_,rfl,fun e0=>absurd e0 he⟩
theorem J6 {s:Sy} (h:dz s=true) (n:ByteArray):∃a e,bw s n=some (a,e,())/\(e=0->∃b0 r0 l,b0<s.1.length/\bnS s b0=n/\r0<s.2.length/\hlI s=(r0:Int)/\l.length=s.1.length/\(∀a ∈ l,okF a) /\
  EqN s.2.length s.1.length (trM (Mx s)) (fun i=>if i=r0 then 1 else 0) (vX l)/\bR (1,1) (l.getD b0 (0,0))=some (a,0,())):=by
 have hV:=dD h
 have hbl:=hV.bl
 have hr:=hV.rl
 unfold bw lr gM ow
 rw[ww,af,h]
 simp only[bt,cF,kfb (show s.1.length<=1000000 by omega),khl (show s.2.length<=1000000 by omega),af]
 rcases Dq s n with ⟨h1,_⟩ | ⟨b0,h1,h2,h3⟩
 ·rw[z7 h1]
  exact ⟨_,_,rfl,fun e=>by cases e⟩
 rw[h2,z8 (show ¬ (b0:Int)<0 by omega),cF]
 rcases BL (p:=fun r:Rp=>r.2.2) rp0 (l:=s.2) (i:=0) (by omega) with hn | ⟨r0,k1,k2,k3⟩
 ·rw[z7 (show hlI s<0 from hn),cT]
  exact ⟨_,_,rfl,fun e=>by cases e⟩
 have hk:hlI s=(r0:Int):=by show jS _ _ _=_;rw[k2];omega
 rw[hk,z8 (show ¬ (r0:Int)<0 by omega),cF,z7 (show (0:Int)<=(s.2.length:Nat) by omega),z9,cZ (show s.2.length*8<=140737488355328 by omega),aH,z7 k1,cE (show (r0:Int).toNat.succ<=s.2.length by rw[z9];omega)]
 simp only[h_,cT,z9,O6 k1]
 rcases Nk h k1 k3 with ⟨l,g1,g2,g3,g4,g5⟩ | ⟨g1,_⟩ | ⟨g1,_⟩ | g1
 ·rw[g1,af]
  have ho:okF (l.getD b0 (0,0)):=by rw[aI (by omega)];exact g3 _ (eX _)
  obtain ⟨x,e2,hd⟩:=Gy Gj ho
  simp only[decide_true,bt,cF,aH,g2,z7 h1,cT,hd,af]
  exact ⟨x,e2,rfl,fun e0=>⟨b0,r0,l,h1,h3,k1,rfl,g2,g3,g4,by rw[hd,e0]⟩⟩
 ·rw[g1];exact ⟨_,_,rfl,fun e=>by cases e⟩
 ·rw[g1];exact ⟨_,_,rfl,fun e=>by cases e⟩
 ·rw[g1];exact ⟨_,_,rfl,fun e=>by cases e⟩
theorem YF {s:Sy} (h:dz s=true) (n:ByteArray):∃a e b f,dC s n=some (a,e,())/\bw s n=some (b,f,())/\(e=0->f=0->a=b):=by
 obtain ⟨a,e,h1,h2⟩:=MH h n
 obtain ⟨b,f,h3,h4⟩:=J6 h n
 refine ⟨a,e,b,f,h1,h3,fun he hf=>?_⟩
 obtain ⟨_,t,⟨hv,r0,l,k1,k2,k3,k4,k5,k6,k7,k8⟩,hd⟩:=h2 he
 obtain ⟨b0,r1,v,g1,g2,g3,g4,g5,g6,g7,g8⟩:=h4 hf
 have hV:=dD h
 have hr01:r0=r1:=by
  have:hlI (vM s n)=hlI s:=rfl
  omega
 subst hr01
 have hlen:(vM s n).1.length=s.1.length:=av
 have hnm:∀i,i<s.1.length->bnS (vM s n) i=bnS s i:=fun i hi=>by
  unfold bnS vM
  rw[aX hi]
  rfl
 have hM:∀i k,i<s.1.length->Mx (vM s n) i k=Mx s i k:=fun i k hi=>by
  unfold Mx
  rw[hnm i hi]
  rfl
 have hw:∀i,i<s.1.length->bwS (vM s n) i=if i=b0 then 1 else 0:=fun i hi=>by
  unfold bwS vM
  rw[aX hi]
  show (if (s.1.getD i bk0).1=n then (1:Int) else 0)=_
  by_cases c:i=b0
  ·rw[if_pos c,if_pos (by rw[c];exact g2)]
  ·rw[if_neg c,if_neg fun e=>c (hV.inj i b0 hi g1 (by rw[g2];exact e))]
 have ht:EqN s.1.length s.2.length (Mx s) (fun i=>if i=b0 then 1 else 0) (vX l):=fun i hi=>by
  have:=k6 i (by rw[hlen];exact hi)
  rw[hw i hi] at this
  rw[<-this]
  exact ca fun q _=>by rw[hM i q hi]
 have hq:=TR g1 g3 ht g7
 have ho1:okF (l.getD r0 (0,0)):=by rw[aI (by rw[k4];exact k1)];exact k5 _ (eX _)
 have ho2:okF (v.getD b0 (0,0)):=by rw[aI (by omega)];exact g6 _ (eX _)
 have hx:l.getD r0 (0,0)=v.getD b0 (0,0):=Kj ho1 ho2 hq
 rw[k8,hx,g8] at hd
 injection hd with hd
 injection hd with hd _
 exact hd.symm
def IJ (l:List Fq):Bool:=l.any fun a=>decide (a.1<0)
theorem Hy {l:List Fq} (ho:∀a ∈ l,okF a):IJ l=false↔∀j,j<l.length->0<=vX l j:=by
 unfold IJ vX
 rw[List.any_eq_false]
 refine ⟨fun h j hj=>?_,fun h a ha hn=>?_⟩
 ·have h1:l[j] ∈ l:=eX hj
  have h2:=h _ h1
  rw[aI hj]
  refine (pR (ho _ h1)).2 ?_
  by_cases hn:l[j].1<0
  ·exact absurd (z7 hn) h2
  ·omega
 ·obtain ⟨j,hj,rfl⟩:=List.mem_iff_getElem.1 ha
  have h1:=h j hj
  rw[aI hj] at h1
  have:=(pR (ho _ ha)).1 h1
  have:=z12 hn
  omega
structure SlackIs (s:Sy) (t:List Fq) (e:Int) (l:List Fq) (f:Int):Prop where
 ht:bh s=some (t,e,())
 hl:gH s=some (l,f,())
 e1:e≠1
 f1:f≠1
 tl:t.length<=1000
 ll:l.length<=1000
 both:e=0->f=0->t=l/\IJ t=false
 neg:e=0->f=22->IJ t=true
 gap:e=22->f≠0
 ref:f=22->∃y,gu s=some (y,0,())/\fj s y=some (true,0,())
 indep:e=0->∀x,rT s.1.length s.2.length (Mx s) x->∀q,q<s.2.length->x q=0
 dep:e=21->∃x,rT s.1.length s.2.length (Mx s) x/\∃q,q<s.2.length/\x q≠0
theorem Ye {m n:Nat} {M:Nat->Nat->Int} {b:Nat->Int} {x y:Nat->Rat} (hx:EqN m n M b x) (hy:rT m n M y):EqN m n M b fun j=>x j+y j:=fun i hi=>by
 have h1:=hx i hi
 have h2:=hy i hi
 rw[<-h1,show (sq n fun j=>((M i j:Int):Rat)*(x j+y j))=sq n fun j=>((M i j:Int):Rat)*x j+((M i j:Int):Rat)*y j from ca fun j _=>by grind,Fi,h2,Rat.add_zero]
theorem JA {s:Sy} (h:dz s=true):∃t e l f,SlackIs s t e l f:=by
 have hV:=dD h
 have hr:=hV.rl
 have hp:=P7 hV
 have hvp:=kN.2 hp
 obtain ⟨a,f,h1,h2⟩:=XN hp
 obtain ⟨y,g,h3,h4⟩:=Jr (qX s (oS s))
 have ht:=SX h h1
 have hrf:=IP h h3
 have hT:∃t e,bh s=some (t,e,())/\e≠1/\t.length<=1000/\(e=0->t.length=s.2.length/\(∀a ∈ t,okF a)/\EqN s.1.length s.2.length (Mx s) (bwS s) (vX t)/\∀x,EqN s.1.length s.2.length (Mx s) (bwS s) x->∀j,j<s.2.length->x j=vX t j) /\
   (e=22->∀x,¬ EqN s.1.length s.2.length (Mx s) (bwS s) x)/\(e=21->∃x,rT s.1.length s.2.length (Mx s) x/\∃q,q<s.2.length/\x q≠0):=by
  rcases Ib h with ⟨t,g1,g2,g3,g4,g5⟩ | ⟨g1,g2⟩ | ⟨g1,k,p,L,e,T,d,β,sg',hE,hk,_⟩ | g1
  ·exact ⟨t,0,g1,by decide,by omega,fun _=>⟨g2,g3,g4,g5⟩,fun e=>absurd e (by decide),fun e=>absurd e (by decide)⟩
  ·exact ⟨[],22,g1,by decide,Nat.zero_le _,fun e=>absurd e (by decide),fun _=>g2,fun e=>absurd e (by decide)⟩
  ·refine ⟨[],21,g1,by decide,Nat.zero_le _,fun e=>absurd e (by decide),fun e=>absurd e (by decide),fun _=>?_⟩
   obtain ⟨x,hx,hq⟩:=hE.some_nul (Nat.le_succ _) (by omega)
   exact ⟨x,VP.1 hx,hq⟩
  ·exact ⟨[],5,g1,by decide,Nat.zero_le _,fun e=>absurd e (by decide),fun e=>absurd e (by decide),fun e=>absurd e (by decide)⟩
 obtain ⟨t,e,t1,t2,t3,t4,t5,t6⟩:=hT
 have hind:e=0->∀x,rT s.1.length s.2.length (Mx s) x->∀q,q<s.2.length->x q=0:=fun he x hx q hq=>by
  obtain ⟨_,_,g3,g4⟩:=t4 he
  have:=g4 _ (Ye g3 hx) q hq
  grind
 rcases h2 with ⟨rfl,rfl,hf⟩ | ⟨rfl,rfl,hf,y0,hy0⟩ | ⟨_,_,_,_,r,hr1⟩ | ⟨rfl,hf,v,_,_,hlen,ho,hfx,_,hF,_⟩
 ·exact ⟨t,e,[],5,⟨t1,ht,t2,by decide,t3,Nat.zero_le _,fun _ e=>absurd e (by decide),fun _ e=>absurd e (by decide),fun _=>by decide,fun e=>absurd e (by decide),hind,t6⟩⟩
 ·refine ⟨t,e,[],22,⟨t1,ht,t2,by decide,t3,Nat.zero_le _,fun _ e=>absurd e (by decide),fun he _=>?_,fun _=>by decide,fun _=>?_,hind,t6⟩⟩
  ·cases hn:IJ t with
   | true=>rfl
   | false =>
    obtain ⟨g1,g2,g3,g4⟩:=t4 he
    exact (hy0.none ((DC sE).2 ⟨fun j hj=>(Hy g2).1 hn j (by omega),g3⟩)).elim
  ·rcases h4 with ⟨_,_,h⟩ | ⟨_,_,_,h⟩ | ⟨_,_,_,_,x,hx⟩ | ⟨rfl,_,_,hly,hR,hy⟩
   ·rw[hvp] at h;cases h
   ·exact (h hf).elim
   ·exact (hy0.none hx).elim
   ·exact ⟨y,hrf,by rw[JH h,hR];rfl⟩
 ·exact (JE hr1).elim
 ·obtain ⟨hpos,hE⟩:=(DC sE).1 hF
  have hl1:a.2.1.length=s.2.length:=hlen.trans sE
  refine ⟨t,e,a.2.1,0,⟨t1,ht,t2,by decide,t3,by omega,fun he _=>?_,fun _ e=>absurd e (by decide),fun he=>(t5 he _ hE).elim,fun e=>absurd e (by decide),hind,t6⟩⟩
  obtain ⟨g1,g2,g3,g4⟩:=t4 he
  have e1:t=a.2.1:=Za g2 ho (by omega) fun j hj=>(g4 _ hE j (by omega)).symm
  exact ⟨e1,(Hy g2).2 fun j hj=>by rw[e1];exact hpos j (by omega)⟩
theorem Vt:iu (1,1)=some true:=by kernel_rfl
theorem acZ:aO (1,1) (1,1)=some ((1,1),0,()):=by kernel_rfl
theorem abi:bR (1,1) (1,1)=some ((1,1),0,()):=by kernel_rfl
def wY (k:Nat):List Fq:=aW k fun _=>(1,1)
theorem Qv {r:Rp} (h2:2<=r.2.1.length/\r.2.1.length<=10) (hl:∀i,i<r.2.1.length->(r.2.1.getD i hd0).2.2=(1,1)) (up:Bool):fP r up=some (wY (r.2.1.length - 1),0,()):=by
 obtain ⟨n,hn⟩:∃n,n=r.2.1.length:=⟨_,rfl⟩
 have hg:∀i,i<n->(aT r.2.1 i ({ data:={ toList:=[] } },0,0,0)).2.2=(1,1):=fun i hi=>hl i (by omega)
 have hg1:∀i,i<n->(aT r.2.1 i ({ data:={ toList:=[] } },0,0,0)).2.2.1=1:=fun i hi=>by rw[hg i hi]
 have hg2:∀i,i<n->(aT r.2.1 i ({ data:={ toList:=[] } },0,0,0)).2.2.2=1:=fun i hi=>by rw[hg i hi]
 unfold fP pQ
 rw[<-hn] at h2 ⊢
 simp only[z8 (show ¬ (n:Int)<2 by omega),z8 (show ¬ (n:Int)>10 by omega),e_,bt,p_,cT,cF,ax,gW,af,aZ (x:=(n:Int) - 1) (by omega) (by omega)]
 refine cq n (by omega) (fun i=>(wY (max 1 (min i (n - 1))),(i:Int),aC)) _ ?_ (fun again i hi=>?_) (fun again=>?_)
 ·rw[show max 1 (min 0 (n - 1))=1 by omega];rfl
 ·have hlen:(wY (max 1 (min i (n - 1)))).length=max 1 (min i (n - 1)):=av
  simp only[z7 (show (i:Int)<n by omega),aH,z7 hi,cT,z9,hg i hi,bN (show i<=1000000 by omega),Vt]
  by_cases h0:i=0
  ·subst h0
   simp only[z7 (show ((0:Nat):Int)=0 from rfl),bt,p_,Bool.true_or,h_,cT,cF,af,decide_true,e_]
   rw[show max 1 (min 0 (n - 1))=max 1 (min (0+1) (n - 1)) by omega]
  ·by_cases h1:i=n - 1
   ·simp only[z8 (show ¬ (i:Int)=0 by omega),z7 (show (i:Int)=(n:Int) - 1 by omega),bt,p_,h_,cT,cF,af,decide_true,e_]
    rw[show max 1 (min i (n - 1))=max 1 (min (i+1) (n - 1)) by omega]
   ·simp only[z8 (show ¬ (i:Int)=0 by omega),z8 (show ¬ (i:Int)=(n:Int) - 1 by omega),bt,p_,Bool.true_or,h_,cT,cF,af,e_]
    rw[show max 1 (min i (n - 1))=i by omega] at hlen ⊢
    rw[show max 1 (min (i+1) (n - 1))=i+1 by omega]
    have hw:aQ .i64 ((i:Int) - 1)=((i - 1:Nat):Int):=by rw[aZ (by omega) (by omega)];omega
    have hgd:(wY i).getD (i - 1) (0,0)=(1,1):=aX (by omega)
    have happ:wY i++[(1,1)]=wY (i+1):=ju
    simp only[hw,hlen,aH,z7 (show i - 1<i by omega),cT,z9,cE (show (i - 1).succ<=i by omega),hgd,acZ,abi,af,jnT]
    cases up<;>simp only[bt,e_,cT,cF,decide_true,cZ (show (i+1)*16<=140737488355328 by omega),happ]
 ·simp only[z8 (show ¬ (n:Int)<n by omega),cF]
  rw[show max 1 (min n (n - 1))=n - 1 by omega]
theorem F2 {s:Sy} (h:dz s=true) {k:Nat} (hk:k<s.2.length):xb s (s.2.getD k rp0)=true:=by
 unfold dz at h
 simp only[z10] at h
 have h1:=List.all_eq_true.1 h.2.2.1 k (np hk)
 unfold qS at h1
 simp only[z10] at h1
 exact h1.2.2
theorem EZ {s:Sy} (h:dz s=true) {k t:Nat} (hk:k<s.2.length) (ht:t<(hsS s k).length):2<=(hsS s k).length/\(hsS s k).length<=10/\vH s ((hsS s k).getD t hd0) (decide (t=0)||decide (t=(hsS s k).length - 1))=true:=by
 have h1:=F2 h hk
 unfold xb at h1
 simp only[z10,decide_eq_true_eq] at h1
 exact ⟨h1.1.1,h1.1.2,List.all_eq_true.1 h1.2.1 t (np ht)⟩
theorem S7 {s:Sy} (h:dz s=true) {k t:Nat} (hk:k<s.2.length) (ht:t<(hsS s k).length) (h0:t≠0) (h1:t≠(hsS s k).length - 1):2*(((hsS s k).getD t hd0).2.1.tdiv 2)=((hsS s k).getD t hd0).2.1:=by
 obtain ⟨_,_,hh⟩:=EZ h hk ht
 rw[z8 h0,z8 h1] at hh
 unfold vH at hh
 rw[z10] at hh
 have h2:=hh.2
 have key:((hsS s k).getD t hd0).2.1=2\/((hsS s k).getD t hd0).2.1=0\/((hsS s k).getD t hd0).2.1= -2:=by
  cases he:xV ((hsS s k).getD t hd0).1 with
  | true=>rw[he,cT,decide_eq_true_iff] at h2;exact .inr (.inl h2)
  | false =>
   rw[he,cF,Bool.or_false,cF,z10,Bool.or_eq_true,Bool.or_eq_true,decide_eq_true_iff,decide_eq_true_iff,decide_eq_true_iff] at h2
   exact h2.2
 rcases key with e | e | e<;>rw[e]<;>rfl
theorem abP:cQ (1,1) (1,1)=some ((2,1),0,()):=by kernel_rfl
theorem ua {z:Int} (h: -1000<=z/\z<=1000):okF (z,1):=Ba (by omega) (by omega)
theorem Kx {x y:Int} (hx: -1000<=x/\x<=1000) (hy: -1000<=y/\y<=1000) (hz: -1000<=x*y/\x*y<=1000):aO (x,1) (y,1)=some ((x*y,1),0,()):=by
 rw[xH (ua hx) (ua hy),rS,rS,<-oF,<-rS,EU (ua hz)]
theorem TY {x y:Int} (hx: -1000<=x/\x<=1000) (hy: -1000<=y/\y<=1000) (hz: -1000<=x+y/\x+y<=1000):cQ (x,1) (y,1)=some ((x+y,1),0,()):=by
 rw[I3 (ua hx) (ua hy),rS,rS,<-Rat.intCast_add,<-rS,EU (ua hz)]
theorem QL {s:Sy} (h:dz s=true) {k:Nat} (hk:k<s.2.length):fL s (s.2.getD k rp0) (wY ((hsS s k).length - 1))=some (aW s.1.length (fun i=>(Mx s i k,1)),0,()):=by
 have hV:=dD h
 have hb:=hV.bl
 obtain ⟨n2,n10,_⟩:=EZ h hk (t:=0) (by
  have:=F2 h hk
  unfold xb at this
  simp only[z10,decide_eq_true_eq] at this
  exact fD (by decide) this.1.1)
 obtain ⟨n,hn⟩:∃n,n=(hsS s k).length:=⟨_,rfl⟩
 obtain ⟨b,hbb⟩:∃b,b=s.1.length:=⟨_,rfl⟩
 have hlo:(wY (n - 1)).length=n - 1:=av
 have hof:∀j,j<n - 1->(wY (n - 1)).getD j (0,0)=(1,1):=fun j hj=>aX hj
 unfold fL qk
 rw[show (s.2.getD k rp0).2.1=hsS s k from rfl,<-hn,<-hbb,hlo,aZ (x:=((n - 1:Nat):Int) - 1) (by omega) (by omega),aZ (x:=(n:Int) - 1) (by omega) (by omega)]
 simp only[ax,gW,af,tn,jnT]
 refine cq b (by omega) (fun i=>(aW i (fun i=>(Mx s i k,1)),(i:Int),aC)) _ rfl (fun again i hi=>?_) (fun again=>?_)
 ·simp only[z7 (show (i:Int)<b by omega),aH,z7 hi,cT,z9,bN (show i<=1000000 by omega)]
  refine cq n (by omega) (fun j=>((j:Int),(mN (hsS s k) (bnS s i) j,1),aC)) _ rfl (fun again1 j hj=>?_) (fun again1=>?_)
  ·have hjn:j<(hsS s k).length:=by omega
   have hpb:=hV.pl k j hk hjn
   have hpp:=qV (n:=bnS s i) (hs:=hsS s k) (fun t ht=>hV.pl k t hk ht) j (by omega)
   have hev:=S7 h hk hjn
   have hsucc:mN (hsS s k) (bnS s i) (j+1)=mN (hsS s k) (bnS s i) j+if ((hsS s k).getD j hd0).1=bnS s i then ((hsS s k).getD j hd0).2.1 else 0:=rfl
   obtain ⟨hd,hhd⟩:∃hd,hd=(hsS s k).getD j hd0:=⟨_,rfl⟩
   obtain ⟨P,hP⟩:∃P,P=mN (hsS s k) (bnS s i) j:=⟨_,rfl⟩
   rw[hsucc]
   rw[<-hhd] at hpb hev ⊢
   rw[<-hP] at hpp ⊢
   have e1:aT (hsS s k) j ({ data:={ toList:=[] } },(0:Int),(0:Int),(0:Int))=hd:=hhd.symm
   have e2:(aT s.1 i ({ data:={ toList:=[] } },(0:Int))).1=bnS s i:=rfl
   simp only[z7 (show (j:Int)<n by omega),aH,z7 hj,cT,z9,e1,e2,bN (show j<=1000000 by omega)]
   by_cases hnm:hd.1=bnS s i
   ·rw[if_pos hnm]
    obtain ⟨q,hq,hqi⟩:∃q:Nat,q<n - 1/\(if ((n - 1:Nat):Int) - 1<(j:Int) then ((n - 1:Nat):Int) - 1 else (j:Int))=(q:Int):=by
     by_cases c:((n - 1:Nat):Int) - 1<(j:Int)
     ·exact ⟨n - 2,by omega,by rw[if_pos c];omega⟩
     ·exact ⟨j,by omega,if_neg c⟩
    have hgr:cQ (P,1) (hd.2.1,1)=some ((P+hd.2.1,1),0,()):=TY (by omega) (by omega) (by omega)
    simp only[z7 hnm,bt,cF,hqi,aH,z7 hq,cT,bC,h_,z9,hof q hq]
    by_cases hm:0<j/\j<n - 1
    ·have hw:aQ .i64 ((j:Int) - 1)=((j - 1:Nat):Int):=by rw[aZ (by omega) (by omega)];omega
     have ht2:=hev (by omega) (by omega)
     have hmul:aO (hd.2.1.tdiv 2,1) (2,1)=some ((hd.2.1,1),0,()):=by
      rw[Kx (by omega) (by omega) (by omega)]
      rw[show hd.2.1.tdiv 2*2=hd.2.1 by omega]
     simp only[z7 (show (j:Int)>0 by omega),z7 (show (j:Int)<(n:Int) - 1 by omega),cT,hw,aH,z7 (show j - 1<n - 1 by omega),z7 hm.2,z9,hof (j - 1) (by omega),hof j hm.2,abP,af,
      aZ (x:=hd.2.1.tdiv 2) (by omega) (by omega),decide_true,bt,cF,hmul,hgr]
    ·have hc:(bif decide ((j:Int)>0) then decide ((j:Int)<(n:Int) - 1) else false)=false:=by
      by_cases c:0<j
      ·rw[z7 (show (j:Int)>0 by omega),cT]
       exact z8 (by omega)
      ·rw[z8 (show ¬ (j:Int)>0 by omega),cF]
     have hmul:aO (hd.2.1,1) (1,1)=some ((hd.2.1,1),0,()):=by
      rw[Kx (by omega) (by omega) (by omega),Int.mul_one]
     simp only[hc,cF,decide_true,bt,hmul,hgr,af]
   ·rw[if_neg hnm,Int.add_zero]
    simp only[z8 hnm,e_,cT]
  ·simp only[z8 (show ¬ (n:Int)<n by omega),cF,av,cZ (show (i+1)*16<=140737488355328 by omega),cT]
   have e:(mN (hsS s k) (bnS s i) n,(1:Int))=(Mx s i k,1):=by rw[hn];rfl
   rw[e,ju]
 ·simp only[z8 (show ¬ (b:Int)<b by omega),cF]
def RI (s:Sy) (r0:Nat):List (List Int):=jH (s.2.length - 1) s.1.length fun q=>trM (Mx s) (skip r0 q)
theorem IK {s:Sy} (h:dz s=true) {r0:Nat} (h0:r0<s.2.length):dV s (r0:Int)=bif decide (s.2.length=1) then some (aW s.1.length (fun i=>aW s.1.length fun j=>if j=i then (1,1) else (0,1)),0,()) else bJ (RI s r0):=by
 have hV:=dD h
 have hb:=hV.bl
 have hr:=hV.rl
 obtain ⟨m,hm⟩:∃m,m=s.2.length:=⟨_,rfl⟩
 obtain ⟨w,hw⟩:∃w,w=s.1.length:=⟨_,rfl⟩
 have hgetM:∀j,j<w->(uB s).getD j []=aW m (Mx s j):=fun j hj=>by unfold uB;rw[<-hm,<-hw];exact fV hj
 unfold dV nz RI
 rw[<-hm] at hr h0 ⊢
 rw[<-hw] at hb ⊢
 by_cases h1:m=1
 ·rw[z7 h1,z7 (show (m:Int)=1 by omega),cT,cT]
  refine cq w (by omega) (fun i=>(aW i (fun i=>aW w fun j=>if j=i then (1,1) else (0,1)),(i:Int),aC)) _ rfl (fun again i hi=>?_) (fun again=>?_)
  ·have hv0:(bx w ((0:Int),(1:Int))).set i (1,1)=aW w fun j=>if j=i then (1,1) else (0,1):=by
    rw[show bx w ((0:Int),(1:Int))=aW w fun _=>(0,1) by unfold aW;rw[List.map_const',pI],iJ hi]
   simp only[z7 (show (i:Int)<w by omega),cT,ax,gW,af,Kq (0,1) (show w<=1000000 by omega),q_,aH,z7 hi,z9,cE (show i.succ<=w by omega),av,cZ (show (i+1)*24<=140737488355328 by omega),hv0,bN (show i<=1000000 by omega)]
   rw[ju]
  ·simp only[z8 (show ¬ (w:Int)<w by omega),cF]
 ·rw[z8 h1,z8 (show ¬ (m:Int)=1 by omega),cF,cF,yC h,af]
  simp only[decide_true,bt,cF]
  obtain ⟨cnt,hcnt⟩:∃cnt:Nat->Nat,cnt=fun k=>if k<=r0 then k else k - 1:=⟨_,rfl⟩
  refine cq m (by omega) (fun k=>(ja (cnt k) w (fun q=>trM (Mx s) (skip r0 q)),(k:Int),aC)) _ ?_ (fun again k hk=>?_) (fun again=>?_)
  ·rw[hcnt];rfl
  ·by_cases hk0:k=r0
   ·simp only[z7 (show (k:Int)<m by omega),z7 (show (k:Int)=(r0:Int) by omega),cT,bN (show k<=1000000 by omega)]
    rw[show cnt (k+1)=cnt k by rw[hcnt];show (if k+1<=r0 then k+1 else k+1 - 1)=if k<=r0 then k else k - 1;rw[if_neg (by omega),if_pos (by omega)];omega]
   ·have hc1:cnt (k+1)=cnt k+1:=by
     rw[hcnt]
     show (if k+1<=r0 then k+1 else k+1 - 1)=(if k<=r0 then k else k - 1)+1
     by_cases c:k<r0
     ·rw[if_pos (by omega),if_pos (by omega)]
     ·rw[if_neg (by omega),if_neg (by omega)];omega
    have hsk:skip r0 (cnt k)=k:=by
     rw[hcnt]
     show skip r0 (if k<=r0 then k else k - 1)=k
     unfold skip
     by_cases c:k<r0
     ·rw[if_pos (show k<=r0 by omega),if_pos c]
     ·rw[if_neg (show ¬ k<=r0 by omega),if_neg (by omega)];omega
    have hck:cnt k<=k:=by
     rw[hcnt]
     show (if k<=r0 then k else k - 1)<=k
     split<;>omega
    simp only[z7 (show (k:Int)<m by omega),z8 (show ¬ (k:Int)=(r0:Int) by omega),cT,cF,bN (show k<=1000000 by omega)]
    refine cq w (by omega) (fun j=>(aW j (trM (Mx s) k),(j:Int),aC)) _ rfl (fun again1 j hj=>?_) (fun again1=>?_)
    ·simp only[z7 (show (j:Int)<w by omega),show (uB s).length=w from by unfold uB;rw[cv,<-hw],aH,z7 hj,cT,z9,hgetM j hj,av,z7 hk,aX hk,cZ (show (j+1)*8<=140737488355328 by omega),bN (show j<=1000000 by omega),<-ju]
     rfl
    ·simp only[z8 (show ¬ (w:Int)<w by omega),cF,gZ,cZ (show (cnt k+1)*24<=140737488355328 by omega),cT]
     rw[hc1,<-wz (N:=fun q=>trM (Mx s) (skip r0 q)),hsk]
  ·simp only[z8 (show ¬ (m:Int)<m by omega),cF,iV,cT,iT]
   rw[show cnt m=m - 1 by rw[hcnt];exact if_neg (by omega)]
   cases bJ (jH (m - 1) w fun q=>trM (Mx s) (skip r0 q)) with
   | none=>rfl
   | some t=>rfl
theorem Lm {x y:List Fq} (hx:∀a ∈ x,okF a) (hy:∀a ∈ y,okF a) (hl:x.length<=y.length) (hn:x.length<=1000) :
  ∃z e,ef x y=some (z,e,())/\(e=0->okF z/\qv z=sq x.length fun j=>vX x j*vX y j):=by
 suffices hs:∃r:(Int×Int)×Int×PUnit,ef x y=some r/\∃(z:Fq) (e:Int),r=(z,e,())/\(e=0->okF z/\qv z=sq x.length fun j=>vX x j*vX y j) by
  obtain ⟨r,h1,z,e,rfl,h2⟩:=hs
  exact ⟨z,e,h1,h2⟩
 unfold ef ue
 simp only[ax,gW,af]
 refine FU (α:=Int×(Int×Int)×(Int×Int)×PUnit) (R:=(Int×Int)×Int×PUnit) (fun (st:Int×(Int×Int)×(Int×Int)×PUnit)=>∃(i:Nat) (z:Fq),st=((i:Int),(0,0),z,aC)/\i<=x.length/\okF z/\qv z=sq i fun j=>vX x j*vX y j) (fun (r:(Int×Int)×Int×PUnit)=>∃(z:Fq) (e:Int),r=(z,e,())/\(e=0->okF z/\qv z=sq x.length fun j=>vX x j*vX y j)) (fun st=>x.length - st.1.toNat) (fun st ⟨i,z,hst,hi,hz,hq⟩=>?_) ⟨0,(0,1),rfl,Nat.zero_le _,ua (by omega),by rw[rS];rfl⟩ (Nat.lt_of_le_of_lt (Nat.sub_le _ _) (by omega))
 subst hst
 by_cases hil:i<x.length
 ·have ha:okF (x.getD i (0,0)):=by rw[aI hil];exact hx _ (eX _)
  have hb:okF (y.getD i (0,0)):=by rw[aI (show i<y.length by omega)];exact hy _ (eX _)
  have hm:=xH ha hb
  simp only[z7 (show (i:Int)<x.length by omega),aH,z7 hil,z7 (show i<y.length by omega),cT,z9,hm,af,bN (show i<=1000000 by omega)]
  rcases jY (qv (x.getD i (0,0))*qv (y.getD i (0,0))) with ⟨f1,e1⟩ | ⟨f1,e1⟩
  ·have hA:=I3 hz (lI f1)
   rw[pY] at hA
   simp only[e1,decide_true,bt,cF,hA,af]
   rcases jY (qv z+qv (x.getD i (0,0))*qv (y.getD i (0,0))) with ⟨f2,e2⟩ | ⟨f2,e2⟩
   ·simp only[e2,decide_true,bt,cF]
    refine .inr ⟨_,⟨i+1,prQ (qv z+qv (x.getD i (0,0))*qv (y.getD i (0,0))),rfl,by omega,lI f2,?_⟩,by simp only[z9];omega,fun rec=>rfl⟩
    rw[pY,hq]
    rfl
   ·simp only[e2]
    exact .inl ⟨_,⟨_,_,rfl,fun e=>absurd e (by decide)⟩,fun rec=>rfl⟩
  ·simp only[e1]
   exact .inl ⟨_,⟨_,_,rfl,fun e=>absurd e (by decide)⟩,fun rec=>rfl⟩
 ·have hii:i=x.length:=by omega
  simp only[z8 (show ¬ (i:Int)<x.length by omega),cF]
  exact .inl ⟨_,⟨_,_,rfl,fun _=>⟨hz,by rw[hq,hii]⟩⟩,fun rec=>rfl⟩
def sK (s:Sy):Prop:=∀k,k<s.2.length->∀h ∈ hsS s k,h.2.2=(1,1)
theorem Kt {l:List Hd} (hl:l.length<=1000000) {f:(Hd×Unit)->Option Bool} {p:Hd->Bool} (h:∀a ∈ l,f (a,())=some (p a)):aP l f=some (l.any p):=by
 unfold aP jz
 have e:cJ l f=some (jS p l 0):=by
  unfold cJ ku
  exact jx (f:=f) (d:=hd0) hl h
 rw[e,af]
 congr 1
 cases hh:l.any p with
 | false =>
  refine z8 ?_
  have:=(qe (l:=l) (p:=p) (i:=0) (by omega)).2 (fun a ha=>by
   have:=List.any_eq_false.1 hh a ha
   simpa using this)
  omega
 | true =>
  refine z7 ?_
  by_cases c:jS p l 0<0
  ·have:=(qe (l:=l) (p:=p) (i:=0) (by omega)).1 c
   obtain ⟨a,ha,hp⟩:=List.any_eq_true.1 hh
   rw[this a ha] at hp
   cases hp
  ·omega
theorem HL {s:Sy} (h:dz s=true) (hl:sK s):gU s=bif decide (hlI s<0) then some (0,12,()) else some (hlI s,0,()):=by
 have hV:=dD h
 have hr:=hV.rl
 have hg:(ap s.2 fun x=>gp x.1)=some (hlI s):=khl (show s.2.length<=1000000 by omega)
 have hc:∀i,i<s.2.length->(aP (s.2.getD i (⟨⟨[]⟩⟩,[],false)).2.1 fun x=>fE x.1)=some false:=fun i hi=>by
  refine (Kt (l:=hsS s i) (p:=fun _=>false) (by have:=hV.hl i hi;omega) (fun a ha=>?_)).trans (by rw[List.any_eq_false.2 fun _ _ h=>Bool.noConfusion h])
  simp only[fE,nk,ax,gW,af,hl i hi a ha]
  rfl
 unfold gU ql
 rw[ww,af,h]
 simp only[bt,cF,hg,af]
 cases hn:decide (hlI s<0) with
 | true=>rfl
 | false =>
  simp only[cF]
  refine cq s.2.length (by omega) (fun i=>((i:Int),aC)) _ rfl (fun again i hi=>?_) (fun again=>?_)
  ·simp only[z7 (show (i:Int)<s.2.length by omega),aH,z7 hi,cT,z9,bN (show i<=1000000 by omega),hc i hi]
   cases decide ((i:Int)=hlI s)<;>rfl
  ·simp only[z8 (show ¬ (s.2.length:Int)<s.2.length by omega),cF]
theorem F3 {n k:Nat} {p:Nat->Nat} {L:Nat->Nat->Int} {e:Int} {x:List Fq}:∀{i:Nat},x ∈ AU n k p L e i->∃c,c<i/\(∀q,q<k->p q≠c)/\x=aW n fun j=>prQ (frQ p L e c k j)
 | 0,h=>by cases h
 | i+1,h=>by
  rw[D6] at h
  cases hd:decide ((i:Int) ∈ aW k (fun q=>(p q:Int))) with
  | true =>
   rw[hd] at h
   obtain ⟨c,h1,h2⟩:=F3 (i:=i) h
   exact ⟨c,by omega,h2⟩
  | false =>
   rw[hd,cF] at h
   rcases List.mem_append.1 h with h | h
   ·obtain ⟨c,h1,h2⟩:=F3 (i:=i) h
    exact ⟨c,by omega,h2⟩
   ·refine ⟨i,by omega,fun q hq e1=>of_decide_eq_false hd (lB.2 ⟨q,hq,by rw[e1]⟩),?_⟩
    simpa using h
theorem JF {n d:Int} (hd:d≠0) (hn:n.natAbs<=1152921504606846976) (hd2:d.natAbs<=1152921504606846976):gF ((n:Rat) / d):=by
 have h:=Ee hd hn hd2
 rw[vY hd] at h
 rcases jY ((n:Rat) / d) with ⟨h1,_⟩ | ⟨_,h2⟩
 ·exact h1
 ·rw[h2] at h
  exact absurd (show (5:Int)=0 from congrArg (fun x:Fq×Int×Unit=>x.2.1) h) (by decide)
theorem HV {p:Nat->Nat} {L:Nat->Nat->Int} {e:Int} {c:Nat} (he:e≠0) (he2:e.natAbs<=1152921504606846976):∀{k:Nat},(∀i,i<k->(L i c).natAbs<=1152921504606846976)->∀j,gF (frQ p L e c k j)
 | 0,_,j=>by
  unfold frQ
  split
  ·unfold gF;decide
  ·unfold gF;decide
 | k+1,h,j=>by
  unfold frQ
  split
  ·exact JF he (by have:=h k (by omega);omega) he2
  ·exact HV he he2 (fun i hi=>h i (by omega)) j
theorem GN {m n:Nat} {N:Nat->Nat->Int} (hm:1<=m/\m<=6) (hn:1<=n/\n<=6) (hN:∀i j,i<m->j<n-> -20<=N i j/\N i j<=20) :
  ∃l,bJ (jH m n N)=some (l,0,())/\l.length<=n/\∀x ∈ l,x.length=n/\(∀a ∈ x,okF a)/\rT m n N (vX x):=by
 obtain ⟨k,p,L,e,T,d,β,s,hE,hl,hL,he⟩:=OV hm hn hN
 have hkm:=hE.km
 refine ⟨_,hl,Cg n k p L e n,fun x hx=>?_⟩
 obtain ⟨c,hc,hf,rfl⟩:=F3 hx
 have hfit:=HV (p:=p) (L:=L) (c:=c) hE.ene he (k:=k) (fun i hi=>hL i c (by omega) hc)
 refine ⟨av,fun a ha=>?_,fun i hi=>?_⟩
 ·obtain ⟨j,_,rfl⟩:=lB.1 ha
  exact lI (hfit j)
 ·have h1:=hE.free_nul (bY _) hc hf i hi
  rw[<-h1]
  refine ca fun j hj=>?_
  unfold vX
  rw[aX hj,pY]
theorem TZ {b r:Nat} {M:Nat->Nat->Int} {w:Nat->Int} {t x:Nat->Rat} {r0:Nat} (h0:r0<r) (ht:EqN b r M w t) (hx:∀q,q<r->q≠r0->(sq b fun i=>((M i q:Int):Rat)*x i)=0) :
  (sq b fun i=>x i*((w i:Int):Rat))=t r0*sq b fun i=>x i*((M i r0:Int):Rat):=by
 have e1:(sq b fun i=>x i*((w i:Int):Rat))=sq b fun i=>sq r fun q=>t q*(((M i q:Int):Rat)*x i):=ca fun i hi=>by
  rw[<-ht i hi,<-kc]
  exact ca fun q _=>by grind
 rw[e1,qT,zh h0 fun q hq hne=>by rw[kc,hx q hq hne,Rat.mul_zero],kc]
 congr 1
 exact ca fun i _=>by grind
theorem aeq {l:List Fq} (hl:l.length<=1000000):dZ l=some (jS (fun a:Fq=>!decide (a.1=0)) l 0):=by
 have e:(aU l fun x=>dE x.1)=some (jS (fun a:Fq=>!decide (a.1=0)) l 0):=by
  unfold aU gG
  exact jx (f:=fun x:Fq×Unit=>dE x.1) (d:=(0,0)) hl fun a _=>by simp only[dE,kM]
 simp only[dZ,lO,e,af]
theorem Jj {W P:List Fq} (hW:∀a ∈ W,okF a) (hP:∀a ∈ P,okF a) (hl:W.length=P.length) (hn:P.length<=1000) :
  ∃a e,dW W P=some (a,e,())/\(e=0->okF a/\∃k,k<P.length/\qv (P.getD k (0,0))≠0/\qv a=qv (W.getD k (0,0)) / qv (P.getD k (0,0))):=by
 unfold dW nJ
 rw[aeq (show P.length<=1000000 by omega),af,aeq (show W.length<=1000000 by omega)]
 rcases BL (p:=fun a:Fq=>!decide (a.1=0)) (0,0) (l:=P) (i:=0) (by omega) with hneg | ⟨k,k1,k2,k3⟩
 ·rw[z7 hneg,cT,af]
  cases decide (jS (fun a:Fq=>!decide (a.1=0)) W 0<0) with
  | true=>exact ⟨_,_,rfl,fun e=>absurd e (by decide)⟩
  | false=>exact ⟨_,_,rfl,fun e=>absurd e (by decide)⟩
 ·rw[k2,Int.zero_add]
  have hWk:okF (W.getD k (0,0)):=by rw[aI (by omega)];exact hW _ (eX _)
  have hPk:okF (P.getD k (0,0)):=by rw[aI k1];exact hP _ (eX _)
  have hnz:(P.getD k (0,0)).1≠0:=by simpa using k3
  have hq0:qv (P.getD k (0,0))≠0:=fun e=>hnz ((BJ hPk).1 e)
  have hD:=Ty hWk hPk
  rw[if_neg hnz] at hD
  rw[z8 (show ¬ (k:Int)<0 by omega),cF,aH,aH,z7 (show k<W.length by omega),z7 k1,cT,cT,z9,hD,af]
  rcases jY (qv (W.getD k (0,0)) / qv (P.getD k (0,0))) with ⟨f1,e1⟩ | ⟨f1,e1⟩
  ·simp only[e1,decide_true,bt,cF]
   suffices hs:∃r:(Int×Int)×Int×PUnit,_=some r/\∃(z:Fq) (e:Int),r=(z,e,())/\(e=0->z=prQ (qv (W.getD k (0,0)) / qv (P.getD k (0,0)))) by
    obtain ⟨r,h1,z,e,rfl,h2⟩:=hs
    exact ⟨z,e,h1,fun he=>by rw[h2 he];exact ⟨lI f1,k,k1,hq0,pY _⟩⟩
   refine FU (α:=Bool×Int×(Int×Int)×PUnit) (R:=(Int×Int)×Int×PUnit) (fun (st:Bool×Int×(Int×Int)×PUnit)=>∃(c:Bool) (i:Nat) (z:Int×Int),st=(c,(i:Int),z,aC)/\i<=P.length) (fun (r:(Int×Int)×Int×PUnit)=>∃(z:Fq) (e:Int),r=(z,e,())/\(e=0->z=prQ (qv (W.getD k (0,0)) / qv (P.getD k (0,0))))) (fun st=>P.length - st.2.1.toNat) (fun st ⟨c,i,z,hst,hi⟩=>?_) ⟨true,0,(0,0),rfl,Nat.zero_le _⟩ (Nat.lt_of_le_of_lt (Nat.sub_le _ _) (by omega))
   subst hst
   by_cases hil:i<P.length
   ·have hPi:okF (P.getD i (0,0)):=by rw[aI hil];exact hP _ (eX _)
    have hm:=xH hPi (lI f1)
    simp only[z7 (show (i:Int)<P.length by omega),aH,z7 hil,z7 (show i<W.length by omega),cT,z9,hm,af,bN (show i<=1000000 by omega)]
    rcases jY (qv (P.getD i (0,0))*qv (prQ (qv (W.getD k (0,0)) / qv (P.getD k (0,0))))) with ⟨f2,e2⟩ | ⟨f2,e2⟩
    ·simp only[e2,decide_true,bt,cF]
     cases c with
     | true=>exact .inr ⟨(_,((i+1:Nat):Int),z,aC),⟨_,i+1,z,rfl,by omega⟩,by simp only[z9];omega,fun rec=>rfl⟩
     | false=>exact .inr ⟨(_,((i+1:Nat):Int),z,aC),⟨_,i+1,z,rfl,by omega⟩,by simp only[z9];omega,fun rec=>rfl⟩
    ·simp only[e2]
     exact .inl ⟨_,⟨_,_,rfl,fun e=>absurd e (by decide)⟩,fun rec=>rfl⟩
   ·simp only[z8 (show ¬ (i:Int)<P.length by omega),cF]
    cases c with
    | false=>exact .inl ⟨_,⟨_,_,rfl,fun e=>absurd e (by decide)⟩,fun rec=>rfl⟩
    | true =>
     simp only[bt,cF]
     cases decide ((prQ (qv (W.getD k (0,0)) / qv (P.getD k (0,0)))).1<0) with
     | true=>exact .inl ⟨_,⟨_,_,rfl,fun e=>absurd e (by decide)⟩,fun rec=>rfl⟩
     | false=>exact .inl ⟨_,⟨_,_,rfl,fun _=>rfl⟩,fun rec=>rfl⟩
  ·simp only[e1]
   exact ⟨_,_,rfl,fun e=>absurd e (by decide)⟩
def R3 (s:Sy) (r0:Nat) (x:List Fq):Prop:=x.length=s.1.length/\(∀a ∈ x,okF a)/\∀q,q<s.2.length->q≠r0->(sq s.1.length fun i=>((Mx s i q:Int):Rat)*vX x i)=0
theorem Iy {s:Sy} (h:dz s=true) {r0:Nat} (h0:r0<s.2.length):∃l,dV s (r0:Int)=some (l,0,())/\l.length<=s.1.length/\∀x ∈ l,R3 s r0 x:=by
 have hV:=dD h
 have hb:=hV.bl
 have hr:=hV.rl
 rw[IK h h0]
 by_cases h1:s.2.length=1
 ·rw[z7 h1,cT]
  refine ⟨_,rfl,Nat.le_of_eq av,fun x hx=>?_⟩
  obtain ⟨i,hi,rfl⟩:=lB.1 hx
  refine ⟨av,fun a ha=>?_,fun q hq hne=>by omega⟩
  obtain ⟨j,_,rfl⟩:=lB.1 ha
  split
  ·exact ua (by omega)
  ·exact ua (by omega)
 ·rw[z8 h1,cF]
  obtain ⟨l,g1,g2,g3⟩:=GN (m:=s.2.length - 1) (n:=s.1.length) (N:=fun q=>trM (Mx s) (skip r0 q)) (by omega) hb (fun i j hi hj=>pD h _ j (by unfold skip;split<;>omega) hj)
  refine ⟨l,g1,g2,fun x hx=>?_⟩
  obtain ⟨k1,k2,k3⟩:=g3 x hx
  refine ⟨k1,k2,fun q hq hne=>?_⟩
  by_cases c:q<r0
  ·have:=k3 q (by omega)
   have e:skip r0 q=q:=by unfold skip;rw[if_pos c]
   have this2:(sq s.1.length fun j=>((trM (Mx s) (skip r0 q) j:Int):Rat)*vX x j)=0:=this
   rw[e] at this2
   exact this2
  ·have:=k3 (q - 1) (by omega)
   have e:skip r0 (q - 1)=q:=by unfold skip;rw[if_neg (by omega)];omega
   have this2:(sq s.1.length fun j=>((trM (Mx s) (skip r0 (q - 1)) j:Int):Rat)*vX x j)=0:=this
   rw[e] at this2
   exact this2
def JQ (n:Nat) (f:Nat->Int):List Fq:=aW n fun i=>(f i,1)
theorem Kw {n:Nat} {f:Nat->Int} (h:∀i,i<n-> -1152921504606846976<=f i/\f i<=1152921504606846976):∀a ∈ JQ n f,okF a:=fun a ha=>by
 obtain ⟨i,hi,rfl⟩:=lB.1 ha
 exact Ba (h i hi).1 (h i hi).2
theorem RZ {n:Nat} {f:Nat->Int} {j:Nat} (hj:j<n):vX (JQ n f) j=((f j:Int):Rat):=by
 unfold vX JQ
 rw[aX hj,rS]
def sW (s:Sy) (x:List Fq):Rat:=sq s.1.length fun i=>vX x i*((bwS s i:Int):Rat)
def sP (s:Sy) (r0:Nat) (x:List Fq):Rat:=sq s.1.length fun i=>vX x i*((Mx s i r0:Int):Rat)
def zH (s:Sy) (o:Option ((Int×Int)×List (Int×Int)×Int×PUnit)):Prop:=∃(a:Int×Int) (f:List (Int×Int)) (e:Int),o=some (a,f,e,aC)/\(e=0->∃r0,r0<s.2.length/\hlI s=(r0:Int)/\2<=(hsS s r0).length/\(hsS s r0).length<=10/\f=wY ((hsS s r0).length - 1)/\okF a /\
  ∃x,R3 s r0 x/\sP s r0 x≠0/\qv a=sW s x / sP s r0 x)
theorem xr {s:Sy} {e:Int} {o:Option ((Int×Int)×List (Int×Int)×Int×PUnit)} {a:Int×Int} {f:List (Int×Int)} (h:o=some (a,f,e,aC)) (he:e≠0):zH s o:=⟨a,f,e,h,fun e0=>absurd e0 he⟩
def Sk (s:Sy) (r0:Nat) (l:List (List Fq)) (i:Nat) (W P:List Fq):Prop:=W.length=i/\P.length=i/\∀j,j<i->okF (W.getD j (0,0))/\okF (P.getD j (0,0))/\qv (W.getD j (0,0))=sW s (l.getD j [])/\qv (P.getD j (0,0))=sP s r0 (l.getD j [])
theorem EI {α:Type} {l:List α} {a d:α} {j:Nat} (h:j<l.length+1):(l++[a]).getD j d=if j<l.length then l.getD j d else a:=by
 by_cases c:j<l.length
 ·rw[if_pos c,aI (by simp;omega),aI c,List.getElem_append_left c]
 ·have e:j=l.length:=by omega
  subst e
  rw[if_neg c,aI (by simp),List.getElem_append_right (bY _)]
  simp
theorem IZ {s:Sy} {r0:Nat} {l:List (List Fq)} {i:Nat} {W P:List Fq} {w p:Fq} (h:Sk s r0 l i W P) (h1:okF w) (h2:okF p) (h3:qv w=sW s (l.getD i [])) (h4:qv p=sP s r0 (l.getD i [])):Sk s r0 l (i+1) (W++[w]) (P++[p]):=by
 obtain ⟨a1,a2,a3⟩:=h
 refine ⟨by simp[a1],by simp[a2],fun j hj=>?_⟩
 rw[EI (by omega),EI (by omega),a1,a2]
 by_cases c:j<i
 ·rw[if_pos c,if_pos c]
  exact a3 j c
 ·have e:j=i:=by omega
  subst e
  rw[if_neg c,if_neg c]
  exact ⟨h1,h2,h3,h4⟩
theorem Tj {s:Sy} (h:dz s=true) (hl:sK s) (up:Bool):zH s (fQ s up):=by
 have hV:=dD h
 have hb:=hV.bl
 have hr:=hV.rl
 unfold fQ qg
 rw[HL h hl]
 rcases BL (p:=fun r:Rp=>r.2.2) rp0 (l:=s.2) (i:=0) (by omega) with hn | ⟨r0,k1,k2,k3⟩
 ·rw[z7 (show hlI s<0 from hn),cT,af]
  exact xr rfl (by decide)
 have hk:hlI s=(r0:Int):=by show jS _ _ _=_;rw[k2];omega
 rw[hk,z8 (show ¬ (r0:Int)<0 by omega),cF,af]
 obtain ⟨n2,n10,_⟩:=EZ h k1 (t:=0) (by
  have:=F2 h k1
  unfold xb at this
  simp only[z10,decide_eq_true_eq] at this
  exact fD (by decide) this.1.1)
 have ha:=Qv (r:=s.2.getD r0 rp0) ⟨n2,n10⟩ (fun i hi=>by
  rw[aI hi]
  exact hl r0 k1 _ (eX _)) up
 have hgr:=QL h k1
 obtain ⟨l,hm1,hm2,hm3⟩:=Iy h k1
 have e0:aT s.2 (r0:Int).toNat (({ data:={ toList:=[] } }:ByteArray),([]:List (ByteArray×Int×Int×Int)),false)=s.2.getD r0 rp0:=rfl
 have hhs:(s.2.getD r0 rp0).2.1=hsS s r0:=rfl
 rw[e0,z7 (show (0:Int)=0 from rfl),bt,cF,aH,z7 k1,cT,ha,af,hhs]
 rw[z7 (show (0:Int)=0 from rfl),bt,cF,hgr,af]
 rw[z7 (show (0:Int)=0 from rfl),bt,cF,hm1,af]
 rw[z7 (show (0:Int)=0 from rfl),bt,cF]
 refine nW (α:=List (Int×Int)×Int×PUnit) (R:=(Int×Int)×List (Int×Int)×Int×PUnit) (zH s) s.1.length (by omega) (fun i=>(aW i (fun i=>(bwS s i,1)),(i:Int),aC)) rfl (fun again i hi=>?_) (fun again=>?_)
 ·simp only[z7 (show (i:Int)<s.1.length by omega),aH,z7 hi,cT,z9,ax,gW,af,av,cZ (show (i+1)*16<=140737488355328 by omega),bN (show i<=1000000 by omega)]
  rw[<-ju]
  rfl
 rw[z8 (show ¬ (s.1.length:Int)<s.1.length by omega),cF]
 have hI1:∀a ∈ JQ s.1.length (bwS s),okF a:=Kw fun i hi=>by have:=hV.wt i hi;omega
 have hI2:∀a ∈ JQ s.1.length (fun i=>Mx s i r0),okF a:=Kw fun i hi=>by have:=yV hV i k1;omega
 refine uf (γ:=Nat) (α:=List (Int×Int)×List (Int×Int)×Int×(Int×Int)×PUnit) (R:=(Int×Int)×List (Int×Int)×Int×PUnit) (fun i st=>i<=l.length/\∃W P,st=(W,P,(i:Int),(0,0),aC)/\Sk s r0 l i W P) (zH s) (fun i=>l.length - i) (fun rec i st ⟨hi,W,P,hst,hSF⟩=>?_) (s:=0) ⟨Nat.zero_le _,[],[],rfl,rfl,rfl,fun j hj=>absurd hj (Nat.not_lt_zero _)⟩ (by omega)
 subst hst
 have hSF':=hSF
 obtain ⟨w1,p1,wp⟩:=hSF'
 by_cases hil:i<l.length
 ·have hx:=hm3 (l.getD i []) (by rw[aI hil];exact eX _)
  obtain ⟨x1,x2,x3⟩:=hx
  obtain ⟨z,e,g1,g2⟩:=Lm (x:=l.getD i []) (y:=JQ s.1.length (bwS s)) x2 hI1 (by rw[x1];exact Nat.le_of_eq av.symm) (by omega)
  obtain ⟨z',e',g1',g2'⟩:=Lm (x:=l.getD i []) (y:=JQ s.1.length (fun i=>Mx s i r0)) x2 hI2 (by rw[x1];exact Nat.le_of_eq av.symm) (by omega)
  have q1:ef (l.getD i []) (aW s.1.length fun i=>(bwS s i,1))=some (z,e,aC):=g1
  have q2:ef (l.getD i []) (aW s.1.length fun i=>(Mx s i r0,1))=some (z',e',aC):=g1'
  rw[z7 (show (i:Int)<l.length by omega),cT,aH,z7 hil,cT]
  show zH s (ah (ef (l.getD i []) _) _)\/_
  rw[q1,af]
  by_cases he:e=0
  ·rw[z7 he,bt,cF]
   show zH s (ah (ef (l.getD i []) _) _)\/_
   rw[q2,af]
   by_cases he':e'=0
   ·rw[z7 he',bt,cF]
    refine .inr ⟨i+1,_,⟨by omega,W++[z],P++[z'],rfl,?_⟩,by omega,?_⟩
    ·refine IZ hSF (g2 he).1 (g2' he').1 ?_ ?_
     ·rw[(g2 he).2,x1]
      exact ca fun j hj=>by rw[RZ hj]
     ·rw[(g2' he').2,x1]
      exact ca fun j hj=>by rw[RZ hj]
    ·show ah (ef (l.getD i []) _) _=_
     rw[q1,af,z7 he,bt,cF]
     show ah (ef (l.getD i []) _) _=_
     rw[q2,af,z7 he',bt,cF,w1,p1,cZ (show (i+1)*16<=140737488355328 by omega),cT,cT]
     show rec (W++[z],P++[z'],aQ .i64 ((i:Int)+1),(0,0),aC)=_
     rw[bN (show i<=1000000 by omega)]
   ·rw[z8 he',e_,cT]
    exact .inl (xr rfl he')
  ·rw[z8 he,e_,cT]
   exact .inl (xr rfl he)
 ·have hii:i=l.length:=by omega
  rw[z8 (show ¬ (i:Int)<l.length by omega),cF]
  obtain ⟨a,e,b1,b2⟩:=Jj (W:=W) (P:=P) (fun a ha=>by
   obtain ⟨j,hj,rfl⟩:=List.mem_iff_getElem.1 ha
   rw[<-aI (d:=(0,0)) hj]
   exact (wp j (by omega)).1) (fun a ha=>by
   obtain ⟨j,hj,rfl⟩:=List.mem_iff_getElem.1 ha
   rw[<-aI (d:=(0,0)) hj]
   exact (wp j (by omega)).2.1) (by rw[w1,p1]) (by omega)
  rw[show dW W P=some (a,e,aC) from b1,af]
  refine .inl ⟨a,_,e,rfl,fun e0=>?_⟩
  obtain ⟨c1,k,c2,c3,c4⟩:=b2 e0
  obtain ⟨_,_,d3,d4⟩:=wp k (by omega)
  exact ⟨r0,k1,hk,n2,n10,rfl,c1,l.getD k [],hm3 _ (by rw[aI (show k<l.length by omega)];exact eX _),by rw[<-d4];exact c3,by rw[c4,d3,d4]⟩
theorem Iu {s:Sy} (h:dz s=true) (hl:sK s) (up:Bool):∃(a:Int×Int) (e:Int),dt s up=some (a,e,aC)/\(e=0->∀t,Cb s t->t=a):=by
 obtain ⟨a,f,e,h1,h2⟩:=Tj h hl up
 unfold dt pV
 rw[h1]
 simp only[af]
 by_cases he:e=0
 ·obtain ⟨r0,k1,k2,n2,n10,hf,ho,x,hx,hp,hq⟩:=h2 he
  obtain ⟨n,hn⟩:∃n,n=(hsS s r0).length:=⟨_,rfl⟩
  rw[<-hn] at n2 n10 hf
  have hlen:f.length=n - 1:=by rw[hf];exact av
  have hg:f.getD (n - 2) (0,0)=(1,1):=by rw[hf];exact aX (by omega)
  have hm:aO a (1,1)=some (a,0,aC):=by
   rw[xH ho Gj,show qv (1,1)=1 from rfl,Rat.mul_one,EU ho]
  rw[hlen,aZ (x:=((n - 1:Nat):Int) - 1) (by omega) (by omega),show ((n - 1:Nat):Int) - 1=((n - 2:Nat):Int) by omega,aH,z7 (show n - 2<n - 1 by omega),cT,z7 he,bt,cF,z9,hg,hm,af]
  refine ⟨_,_,rfl,fun _ t ht=>?_⟩
  obtain ⟨_,r1,l,g1,g2,g3,g4,g5,g6,g7,g8⟩:=ht
  have e01:r1=r0:=by omega
  subst e01
  have hot:okF t:=by rw[g8,aI (by omega)];exact g5 _ (eX _)
  have hS:=TZ (x:=vX x) k1 g6 hx.2.2
  refine Kj hot ho ?_
  rw[hq]
  unfold sW at *
  rw[hS]
  unfold sP at *
  rw[g8]
  show vX l r1=_
  exact (Rat.mul_div_cancel hp).symm
 ·rw[z8 he,e_,cT]
  exact ⟨_,_,rfl,fun e0=>absurd e0 he⟩
theorem P1 {s:Sy} (h:dz s=true) (hl:sK s):∃(a:Int×Int) (e:Int),gP s=some (a,e,aC)/\(e=0->∀t,Cb s t->t=a):=by
 obtain ⟨a,e,h1,h2⟩:=Iu h hl true
 unfold gP qp
 rw[h1]
 exact ⟨a,e,rfl,h2⟩
theorem TB {s:Sy} (h:dz s=true) (hl:sK s):∃(a:Int×Int) (e:Int),gS s=some (a,e,aC)/\(e=0->∀t,Cb s t->t=a):=by
 obtain ⟨a,e,h1,h2⟩:=Iu h hl false
 unfold gS pO
 rw[h1]
 exact ⟨a,e,rfl,h2⟩
theorem Ru:eV=some true:=by kernel_rfl
theorem PV {l:List Fq} (hl:l.length<=1000000):(au l fun (x:(Int×Int)×PUnit)=>eE x.1)=some (IJ l) :=
 ace (p:=fun a=>decide (a.1<0)) hl (fun a _=>by simp only[eE,mn])
theorem So {l:List Rp} (hl:l.length<=1000000) {f:(Rp×Unit)->Option Bool} {p:Rp->Bool} (h:∀a ∈ l,f (a,())=some (p a)):bI l f=some (l.any p):=by
 unfold bI jy
 have e:ap l f=some (jS p l 0):=by
  unfold ap iU
  exact jx (f:=f) (d:=rp0) hl h
 rw[e,af]
 congr 1
 cases hh:l.any p with
 | false =>
  refine z8 ?_
  have:=(qe (l:=l) (p:=p) (i:=0) (by omega)).2 (fun a ha=>by
   have:=List.any_eq_false.1 hh a ha
   simpa using this)
  omega
 | true =>
  refine z7 ?_
  by_cases c:jS p l 0<0
  ·have:=(qe (l:=l) (p:=p) (i:=0) (by omega)).1 c
   obtain ⟨a,ha,hp⟩:=List.any_eq_true.1 hh
   rw[this a ha] at hp
   cases hp
  ·omega
def Lq (h:Hd):Bool:=!(decide (h.2.2.1=1)&&(decide (h.2.2.2=1)&&true))
def pr (r:Rp):Bool:=r.2.1.any Lq
theorem tt2 {r:Rp} (h:r.2.1.length<=1000000):fe r=some (pr r):=by
 unfold fe mL
 rw[Kt (p:=Lq) h (fun a _=>by simp only[eO,lk,bL,oE,af,Lq]),af]
 rfl
theorem GW {s:Sy} (h:s.2.any pr=false):sK s:=fun k hk a ha=>by
 have h1:=List.any_eq_false.1 h (s.2.getD k rp0) (by rw[aI hk];exact eX _)
 have h2:pr (s.2.getD k rp0)=false:=by simpa using h1
 unfold pr at h2
 have h3:=List.any_eq_false.1 h2 a ha
 unfold Lq at h3
 simp only[Bool.and_true,Bool.not_eq_true,Bool.not_eq_false',z10,decide_eq_true_eq] at h3
 exact Prod.ext h3.1 h3.2
theorem feq (a b:Int×Int):(decide (a.1=b.1)&&(decide (a.2=b.2)&&true))=decide (a=b):=by
 obtain ⟨a1,a2⟩:=a
 obtain ⟨b1,b2⟩:=b
 simp only[Bool.and_true,dO]
 by_cases c1:a1=b1<;>by_cases c2:a2=b2<;>simp[c1,c2]
theorem Rn {α R:Type} {j:α->Option R} {f:(α->Option R)->Option R} {r:Option R} (g:α->Option R) (h:∀x,j x=g x) (hf:f g=r):jnK α R j f=r:=by
 rw[jnT,show j=g from funext h]
 exact hf
theorem adK {l:List (List Fq)} (h:l.length<=1000000) (h2:∀x ∈ l,x.length<=1000000):(cK l l fun (x:List (Int×Int)×List (Int×Int)×PUnit)=>bz x.1 x.2.1)=some true:=by
 unfold cK kB
 rw[z7 (show (l.length:Int)=l.length from rfl),bt,cF]
 refine cq (α:=Int×PUnit) (R:=Bool) l.length (by omega) (fun i=>((i:Int),aC)) _ rfl (fun again i hi=>?_) (fun again=>?_)
 ·have hx:bz (l.getD i []) (l.getD i [])=some true:=by
   rw[KP _ _ (h2 _ (by rw[aI hi];exact eX _)),z7 rfl]
  simp only[z7 (show (i:Int)<l.length by omega),aH,z7 hi,cT,z9,hx,af,bt,cF,bN (show i<=1000000 by omega)]
 ·simp only[z8 (show ¬ (l.length:Int)<l.length by omega),cF]
theorem TJ {s:Sy} (h:dz s=true):∃l,gD s=some (l,0,aC)/\l.length<=1000000/\∀x ∈ l,x.length<=1000000:=by
 have hV:=dD h
 have hb:=hV.bl
 have hr:=hV.rl
 obtain ⟨l,h1,h2,h3⟩:=GN (m:=s.2.length) (n:=s.1.length) (N:=trM (Mx s)) hr hb (pD h)
 have h1':bJ (jC s)=some (l,0,aC):=h1
 refine ⟨l,?_,by omega,fun x hx=>by have:=(h3 x hx).1;omega⟩
 unfold gD nR
 rw[CK h,af,z7 (show (0:Int)=0 from rfl),bt,cF,h1',af]
theorem abo (A N:Bool):(!A||(N||(!A||A&&!N)))=true:=by cases A<;>cases N<;>rfl
theorem adk (A:Bool):(!A||A)=true:=by cases A<;>rfl
theorem MP (s:Sy) (n:ByteArray):rJ s n=some true:=by
 unfold rJ oD
 rw[Ru,af,Mh]
 simp only[af,bt,cF,Bool.not_not]
 cases hs:yQ s with
 | false=>rfl
 | true =>
  by_cases hn:(n.size:Int)>60
  ·simp only[bt,p_,cT,cF,z7 hn]
  simp only[bt,p_,cT,cF,z8 hn]
  have hsl:=I5 hs
  cases hv:dz s with
  | false =>
   have hc:(au ([]:List (Int×Int)) fun (x:(Int×Int)×PUnit)=>eE x.1)=some false:=PV (l:=[]) (by decide)
   rw[Ez hv,af,Nb hv (by omega),af,hc,af]
   rfl
  | true =>
   obtain ⟨t,e,l,f,S⟩:=JA hv
   have htl:=S.tl
   rw[S.ht,af,S.hl,af,PV (show t.length<=1000000 by omega),af]
   obtain ⟨A,hA⟩:∃A,A=(bif decide (e=0) then decide (f=0) else false):=⟨_,rfl⟩
   have hA':A=true->e=0/\f=0:=fun h=>by
    rw[hA] at h
    by_cases c:e=0
    ·rw[z7 c,cT] at h
     exact ⟨c,z12 h⟩
    ·rw[z8 c,cF] at h
     cases h
   obtain ⟨N,hN⟩:∃N,N=IJ t:=⟨_,rfl⟩
   have hB:(bif A&&!N then bz t l else some false)=some (A&&!N):=by
    by_cases c:A=true
    ·obtain ⟨h1,h2⟩:=S.both (hA' c).1 (hA' c).2
     rw[hN,h2,c,e_,Bool.and_true,cT,KP t l (by omega),z7 h1]
    ·rw[Bool.not_eq_true] at c
     rw[c,Bool.false_and,cF]
   have hAN:A=true->N=false:=fun c=>by rw[hN];exact (S.both (hA' c).1 (hA' c).2).2
   simp only[z8 S.e1,z8 S.f1,e_,p_,cT,cF,<-hA,<-hN,hB,af,abo,adk,h_]
   refine Rn (fun x=>some (!x.1)) (fun x=>?_) ?_
   ·obtain ⟨x,_⟩:=x
    cases x with
    | true=>rfl
    | false =>
     simp only[cF,e_]
     refine Rn (fun _=>some true) (fun _=>?_) ?_
     ·obtain ⟨a,ge,b,he,h1,h2,h3⟩:=YF hv n
      rw[h1,af,h2,af]
      obtain ⟨C,hC⟩:∃C,C=(bif decide (ge=0) then decide (he=0) else false):=⟨_,rfl⟩
      have hC':(bif C then !decide (a=b) else false)=false:=by
       cases C with
       | false=>rfl
       | true =>
        by_cases c:ge=0
        ·rw[z7 c,cT] at hC
         rw[cT,z7 (h3 c (z12 hC.symm))]
         rfl
        ·rw[z8 c,cF] at hC
         cases hC
      simp only[feq,<-hC,hC',cF]
      rw[So (p:=pr) (show s.2.length<=1000000 by omega) (fun r hr=>tt2 (by
       obtain ⟨k,hk,rfl⟩:=List.mem_iff_getElem.1 hr
       have hV:=dD hv
       have:=hV.hl k hk
       unfold hsS at this
       rw[aI hk] at this
       exact Nat.le_trans this (by decide))),af]
      refine Rn (fun _=>some true) (fun _=>?_) ?_
      ·rw[So (p:=fun r=>r.2.2) (show s.2.length<=1000000 by omega) (fun r _=>rfl),af]
       cases hh:s.2.any fun r=>r.2.2 with
       | true=>rfl
       | false =>
        have hnh:∀r ∈ s.2,r.2.2=false:=fun r hr=>by simpa using List.any_eq_false.1 hh r hr
        obtain ⟨fl,f1,f2,f3⟩:=TJ hv
        have hfm:=Jt hv hnh
        rw[cF,hfm,f1,af,af,Wd hv hnh,af]
        have hR:(e=0->ry s s.2.length=[])/\(e=21->0<(ry s s.2.length).length):=⟨fun h=>R4 hv (S.indep h),fun h=>by
         obtain ⟨x,hx,c,hc,h0⟩:=S.dep h
         exact QJ hv hx hc h0⟩
        obtain ⟨R,hRR⟩:∃R,R=ry s s.2.length:=⟨_,rfl⟩
        rw[<-hRR] at hR ⊢
        have hz:decide ((0:Int)=0)=true:=rfl
        simp only[adK f2 f3]
        by_cases c0:e=0
        ·subst c0
         rw[hR.1 rfl]
         rfl
        ·by_cases c1:e=21
         ·subst c1
          have hpos:=hR.2 rfl
          simp only[z7 (show ((R.length:Nat):Int)>0 by omega)]
          rfl
         ·simp only[z8 c0,z8 c1]
          rfl
      ·cases hlo:s.2.any pr with
       | true=>rfl
       | false =>
        have hLL:=GW hlo
        obtain ⟨th,eh,h4,h5⟩:=Lf s
        obtain ⟨ar,er,h6,h7⟩:=P1 hv hLL
        obtain ⟨al,el,h8,h9⟩:=TB hv hLL
        rw[e_,cT,h4,af,h6,af,h8,af]
        have k1:eh=0->er=0->th=ar:=fun a b=>h7 b _ (h5 a)
        have k2:eh=0->el=0->th=al:=fun a b=>h9 b _ (h5 a)
        by_cases c0:eh=0
        ·subst c0
         by_cases c1:er=0
         ·subst c1
          have e1:=k1 rfl rfl
          by_cases c2:el=0
          ·subst c2
           have e2:=k2 rfl rfl
           simp only[z7 e1,z7 e2]
           rfl
          ·simp only[z7 e1,z8 c2]
           rfl
         ·by_cases c2:el=0
          ·subst c2
           have e2:=k2 rfl rfl
           simp only[z8 c1,z7 e2]
           rfl
          ·simp only[z8 c1,z8 c2]
           rfl
        ·simp only[z8 c0]
         cases decide (el=0)<;>cases decide (er=0)<;>rfl
     ·by_cases c:f=22
      ·obtain ⟨y,y1,y2⟩:=S.ref c
       rw[z7 (show ((l,f,()):List Fq×Int×Unit).2.1=22 from c),cT,y1,af]
       simp only[decide_true,bt,cF]
       rw[y2,af]
       rfl
      ·rw[z8 (show ¬ ((l,f,()):List Fq×Int×Unit).2.1=22 from c),cF]
   ·by_cases c0:e=0
    ·subst c0
     by_cases c1:f=0
     ·subst c1
      have hN2:N=false:=by rw[hN];exact (S.both rfl rfl).2
      have hA2:A=true:=by rw[hA];rfl
      simp only[hN2,hA2]
      rfl
     ·have hA2:A=false:=by rw[hA,z7 rfl,cT,z8 c1]
      by_cases c2:f=22
      ·subst c2
       have hN2:N=true:=by rw[hN];exact S.neg rfl rfl
       simp only[hN2,hA2]
       rfl
      ·simp only[hA2,z8 c1,z8 c2]
       cases N<;>rfl
    ·have hA2:A=false:=by rw[hA,z8 c0,cF]
     by_cases c1:e=22
     ·subst c1
      have hf:=S.gap rfl
      simp only[hA2,z8 hf]
      rfl
     ·simp only[hA2,z8 c0,z8 c1]
      cases N<;>rfl
end Go.Proofs.YtlfdhaiigdllcaaGreat
