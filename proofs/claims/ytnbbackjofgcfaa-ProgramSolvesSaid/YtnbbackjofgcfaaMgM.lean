/- Programs: improving a table to the least value. Programs: finding a feasible basis. Programs: the first table. Programs: which programs fit. Programs, as they are specified: the layout of the table, and a step of it. Programs, as they are specified: steps until the last row has no negative number. Programs, as they are specified: artificial variables leave the basis. Programs: what Solve answers. Programs, as they are specified: the first table. Programs, as they are specified: the least value. Programs: what Farkas answers. The law ProgramForms. Programs: columns and right sides. Programs: the signs of multipliers. Programs: sums of columns below numbers; refutations. Programs: refutations, as the program tells them. Programs: refutations, as they are specified. Programs: refutations are the same in both programs. Programs: answers that are proved, in both programs. Programs: points, multipliers and refutations are those of the theory. Programs: the sums of what the solver returns fit, so that its answers are accepted. Programs: what the solver says of a program; the law ProgramBeats. Programs: the law ProgramSolves. -/
import Derived.Test.YtnbbackjofgcfaaMgL

namespace Go.Proofs.Ytnbbackjofgcfaa
open Try Dn Dn.Sh
structure Bnd (L:Lin) (Y:Lay):Prop where
 ok:Y.ok L
 m:L.m≤12
 w:Y.w L≤64
 P:L.F0*L.P≤17592186044416
theorem ab_abs {x:Int}:ab x=x.natAbs:=rfl
section
variable {L:Lin} {Y:Lay}
theorem Bnd.P' (h:Bnd L Y):L.P≤17592186044416:=by
 have h1:=L.F0_pos
 have h2:=L.P_pos
 have h3:1*L.P≤L.F0*L.P:=Int.mul_le_mul_of_nonneg_right h1 (by omega)
 have:=h.P
 omega
theorem Bnd.tab (h:Bnd L Y) {T:Nat→Nat→Int} {d:Int} {β:Nat→Nat} (ht:Tb L.m (Y.w L) (Y.M L) T d β):(0<d∧d≤17592186044416)∧∀i j,i<L.m→j<Y.w L→(T i j).natAbs≤17592186044416:=by
 obtain ⟨h1,h2⟩:=table_bound h.ok ht
 have h3:=h.P'
 refine ⟨⟨ht.dpos,by omega⟩,fun i j hi hj=>?_⟩
 have:=h2 i j hi hj
 rw[ab_abs] at this
 omega
theorem costs_le (j:Nat):(costs L j).natAbs≤L.F0 - 1:=by
 unfold costs Lin.F0
 have h0:0≤sz L.n fun j=>ab (L.c j):=sz_nonneg fun j _=>ab_nonneg _
 split
 ·rename_i hj
  have h1:(sz L.n fun i=>if i=j then ab (L.c j) else 0)≤sz L.n fun j=>ab (L.c j):=sz_le fun i _=>by
   by_cases e:i=j
   ·rw[if_pos e,e];exact Int.le_refl _
   ·rw[if_neg e];exact ab_nonneg _
  rw[sz_one hj fun i _ hne=>if_neg hne,if_pos rfl,ab_abs] at h1
  omega
 ·simp only[Int.natAbs_zero]
  omega
theorem Bnd.cost (h:Bnd L Y) {x:Int} (hx:(x.natAbs:Int)≤L.P) (j:Nat): -17592186044416≤costs L j*x∧costs L j*x≤17592186044416:=by
 have h1:=costs_le (L:=L) j
 have h2:((costs L j*x).natAbs:Int)≤L.F0*L.P:=by
  rw[Int.natAbs_mul,Int.natCast_mul]
  refine Int.le_trans (Int.mul_le_mul (show ((costs L j).natAbs:Int)≤L.F0 by omega) hx (by omega) (by omega)) (Int.le_refl _)
 have:=h.P
 omega
theorem Bnd.tabP (h:Bnd L Y) {T:Nat→Nat→Int} {d:Int} {β:Nat→Nat} (ht:Tb L.m (Y.w L) (Y.M L) T d β):(d.natAbs:Int)≤L.P∧∀i j,i<L.m→j<Y.w L→((T i j).natAbs:Int)≤L.P:=by
 obtain ⟨h1,h2⟩:=table_bound h.ok ht
 have:=ht.dpos
 exact ⟨by omega,fun i j hi hj=>h2 i j hi hj⟩
theorem sg_abs (x:Int) (y:Int):(sg x*y).natAbs=y.natAbs:=by unfold sg;split<;>omega
theorem Bnd.piv (h:Bnd L Y) {T:Nat→Nat→Int} {d:Int} {β:Nat→Nat} (ht:Tb L.m (Y.w L) (Y.M L) T d β) {r c:Nat} (hr:r<L.m) (hc:c<Y.w L) (he:T r c≠0):PivOk L.m (Y.w L) T d r c:=by
 obtain ⟨h1,h2⟩:=h.tab ht
 obtain ⟨h3,h4⟩:=h.tab (ht.step hr hc he)
 have:=h.m
 have:=h.w
 refine ⟨by omega,by omega,hr,hc,by omega,fun i j hi hj=>by have:=h2 i j hi hj;omega,fun i j hi hne hj=>piv_exact ht hr hi (Ne.symm hne) hc hj,fun i j hi hne hj=>?_⟩
 have h5:=h4 i j hi hj
 unfold pivT at h5
 rw[if_neg hne,sg_abs] at h5
 omega
def AZ (L:Lin) (Y:Lay) (S:Sx):Prop:=∀i,i<L.m→Y.N≤S.β i→(∀j,j<Y.N→S.T i j=0)∧S.T i (Y.R L)=0
theorem AZ.art (S:Sx) (h:AZ L Y S):noArt L.m Y.N S (Y.R L):=fun i hi hN=>(h i hi hN).2
theorem AZ.col (S:Sx) (h:AZ L Y S) {q:Nat} (hq:q<Y.N):noArt L.m Y.N S q:=fun i hi hN=>(h i hi hN).1 q hq
def stepS (S:Sx) (r c:Nat):Sx:=⟨pivT S.T S.d r c,sg (S.T r c)*S.T r c,upd S.β r c⟩
theorem stepS_at {m w:Nat} {S:Sx} {r c:Nat} (hp:0<S.T r c):StepAt m w S (stepS S r c) r c:=by
 have e:sg (S.T r c)=1:=by unfold sg;rw[if_neg (by omega)]
 refine ⟨fun i j _ _=>?_,?_,fun i _=>rfl⟩
 ·show pivT S.T S.d r c i j=_
  unfold pivT
  rw[e,Int.one_mul]
 ·show sg (S.T r c)*S.T r c=_
  rw[e,Int.one_mul]
theorem AZ.step {S:Sx} (h:AZ L Y S) {r c:Nat} (hc:c<Y.N):AZ L Y (stepS S r c):=fun i hi hN=>by
 have hb:(stepS S r c).β i=upd S.β r c i:=rfl
 rw[hb] at hN
 unfold upd at hN
 by_cases e:i=r
 ·rw[if_pos e] at hN;omega
 ·rw[if_neg e] at hN
  obtain ⟨h1,h2⟩:=h i hi hN
  have hT:∀j,(stepS S r c).T i j=sg (S.T r c)*Dn.piv S.T S.d r c i j:=fun j=>by
   show pivT S.T S.d r c i j=_
   unfold pivT
   rw[if_neg e]
  have hz:∀j,S.T i j=0→Dn.piv S.T S.d r c i j=0:=fun j hj=>by
   unfold Dn.piv
   rw[hj,h1 c hc,Int.mul_zero,Int.zero_mul,Int.sub_zero,Int.zero_ediv]
  exact ⟨fun j hj=>by rw[hT,hz j (h1 j hj),Int.mul_zero],by rw[hT,hz _ h2,Int.mul_zero]⟩
abbrev encS (L:Lin) (Y:Lay) (x3 cs:List Int) (S:Sx):(List Nat×List (Option (List Int)))×Int×List Int×List Int×List Int×Int×Int×PUnit:=(tabL L.m (Y.w L) S.T,S.d,basL L.m S.β,x3,cs,(Y.N:Int),((Y.R L:Nat):Int),PUnit.unit)
theorem improve_ok (h:Bnd L Y) (hp:(Y.w L) ^ L.m≤1180591620717411303424) {x3 cs:List Int} (hcs:∀j,costAt cs j=costs L j) {S:Sx} (hv:Y.Val L S) (ha:AZ L Y S) :
  ∃S' ok,program_table_improve (tabL L.m (Y.w L) S.T) S.d (basL L.m S.β) x3 cs (Y.N:Int) ((Y.R L:Nat):Int)=some (tabL L.m (Y.w L) S'.T,S'.d,basL L.m S'.β,x3,cs,(Y.N:Int),((Y.R L:Nat):Int),ok,())∧Y.Val L S'∧AZ L Y S' ∧
   (ok=true→∀j,j<Y.N→0≤zr L.m (costs L) S' j)∧(ok=false→∃q,q<Y.N∧zr L.m (costs L) S' q<0∧∀i,i<L.m→S'.T i q≤0):=by
 have hcs':costAt cs=costs L:=funext hcs
 have hm:=h.m
 have hw:=h.w
 have hN:Y.N≤Y.R L:=by unfold Lay.R;omega
 have hRw:Y.R L<Y.w L:=by unfold Lay.R Lay.w;omega
 unfold program_table_improve program_table_improve_b
 have fin:∀{x:Option ((List Nat×List (Option (List Int)))×Int×List Int×List Int×List Int×Int×Int×Bool×Unit)},(∃r,x=some r∧∃S' ok,r=(tabL L.m (Y.w L) S'.T,S'.d,basL L.m S'.β,x3,cs,(Y.N:Int),((Y.R L:Nat):Int),ok,PUnit.unit)∧Y.Val L S'∧AZ L Y S' ∧
   (ok=true→∀j,j<Y.N→0≤zr L.m (costs L) S' j)∧(ok=false→∃q,q<Y.N∧zr L.m (costs L) S' q<0∧∀i,i<L.m→S'.T i q≤0))→∃S' ok,x=some (tabL L.m (Y.w L) S'.T,S'.d,basL L.m S'.β,x3,cs,(Y.N:Int),((Y.R L:Nat):Int),ok,())∧Y.Val L S'∧AZ L Y S' ∧
   (ok=true→∀j,j<Y.N→0≤zr L.m (costs L) S' j)∧(ok=false→∃q,q<Y.N∧zr L.m (costs L) S' q<0∧∀i,i<L.m→S'.T i q≤0):=by
  rintro x ⟨r,h1,S',ok,rfl,h3⟩
  exact ⟨S',ok,h1,h3⟩
 refine fin (lpK_exG (γ:=Sx) (I:=fun (S:Sx) x=>x=encS L Y x3 cs S∧Y.Val L S∧AZ L Y S)
  (Q:=fun r=>∃S' ok,r=(tabL L.m (Y.w L) S'.T,S'.d,basL L.m S'.β,x3,cs,(Y.N:Int),((Y.R L:Nat):Int),ok,PUnit.unit)∧Y.Val L S'∧AZ L Y S' ∧
   (ok=true→∀j,j<Y.N→0≤zr L.m (costs L) S' j)∧(ok=false→∃q,q<Y.N∧zr L.m (costs L) S' q<0∧∀i,i<L.m→S'.T i q≤0))
  (μ:=fun S=>left L.m (Y.w L) Y.N (Y.R L) (Y.M L) (costs L) S) ?_ (s:=S) ⟨rfl,hv,ha⟩ (Nat.lt_of_lt_of_le (left_lt (by unfold Lay.w;omega) S) hp))
 rintro S _ ⟨rfl,hv,ha⟩
 obtain ⟨hd,hb⟩:=h.tabP hv.tb
 have hred:∀j,j<Y.N→program_table_reduced (matL L.m (Y.w L) S.T,S.d,basL L.m S.β,x3,cs,(Y.N:Int),((Y.R L:Nat):Int)) (j:Int)=some (zr L.m (costs L) S j):=fun j hj=>by
  have hjw:j<Y.w L:=by omega
  have:=reduced_ok (m:=L.m) (w:=Y.w L) (T:=S.T) (d:=S.d) (β:=S.β) (j:=j) (x3:=x3) (cs:=cs) (x5:=(Y.N:Int)) (x6:=((Y.R L:Nat):Int)) (by omega) hjw
   (by rw[hcs'];have:=h.cost hd j;omega) (fun i hi=>by rw[hcs'];have:=h.cost (hb i j hi hjw) (S.β i);omega)
  rw[this,hcs']
 rcases first_of Y.N (fun j=>decide (zr L.m (costs L) S j<0)) with hnone | ⟨q,hq,hneg,hleast⟩
 ·left
  refine ⟨_,⟨S,true,rfl,hv,ha,fun _ j hj=>by have:=of_decide_eq_false (hnone j hj);omega,fun e=>by cases e⟩,fun rec=>?_⟩
  refine lpK_seq Y.N (by omega) (fun j=>((-1:Int),(j:Int),PUnit.unit)) _ (fun again j hj=>?_) (fun again=>?_)
  ·simp only[not_or_self',cT,decide_eq_true (show (j:Int)<Y.N by omega),show decide ((-1:Int)<0)=true from rfl,tab_all,tab_map,hred j hj,obind_some',hnone j hj,cF,succ_wrap (show j≤1000000 by omega)]
  ·simp only[not_or_self',cT,cF,decide_eq_false (show ¬ (Y.N:Int)<Y.N by omega),show decide ((-1:Int)<0)=true from rfl]
 ·have hneg:=of_decide_eq_true hneg
  have hqw:q<Y.w L:=by omega
  have hent:Enters L.m Y.N (costs L) S q:=⟨hq,hneg,fun j hj=>by have:=of_decide_eq_false (hleast j hj);omega⟩
  have hbb:∀i j,i<L.m→j<Y.w L→(S.T i j).natAbs<4611686018427387904:=fun i j hi hj=>by have:=(h.tab hv.tb).2 i j hi hj;omega
  obtain ⟨b,hl1,hl2⟩:=leaving_ok (m:=L.m) (w:=Y.w L) (T:=S.T) (d:=S.d) (β:=S.β) (c:=q) (R:=Y.R L) (x1:=S.d) (x3:=x3) (x4:=cs) (x5:=(Y.N:Int)) (by omega) hqw hRw hbb
  have search:∀{R:Type} {F:(Int×Int×PUnit→Option R)→Int×Int×PUnit→Option R} {res:Option R},(∀again j,j<q→F again ((-1:Int),(j:Int),PUnit.unit)=again ((-1:Int),((j+1:Nat):Int),PUnit.unit)) →
    (∀again,F again ((-1:Int),(q:Int),PUnit.unit)=again ((q:Int),((q+1:Nat):Int),PUnit.unit))→(∀again,F again ((q:Int),((q+1:Nat):Int),PUnit.unit)=res)→lpK (Int×Int×PUnit) R F ((-1:Int),(0:Int),PUnit.unit)=res:=fun h1 h2 h3=>by
   refine lpK_seqX (q+1) (by omega) (fun j=>if j≤q then ((-1:Int),(j:Int),PUnit.unit) else ((q:Int),(j:Int),PUnit.unit)) _ (by rw[if_pos (by omega)];rfl) (fun again j hj=>?_) (fun again=>?_)
   ·by_cases e:j=q
    ·subst e
     rw[if_pos (by omega),if_neg (by omega)]
     exact h2 again
    ·rw[if_pos (by omega),if_pos (by omega)]
     exact h1 again j (by omega)
   ·rw[if_neg (by omega)]
    exact h3 again
  rcases hl2 with ⟨e,hno⟩ | ⟨r,e,hlv⟩
  ·subst e
   left
   refine ⟨_,⟨S,false,rfl,hv,ha,fun e=>(by cases e),fun _=>⟨q,hq,hneg,hno⟩⟩,fun rec=>?_⟩
   refine search (fun again j hj=>?_) (fun again=>?_) (fun again=>?_)
   ·simp only[not_or_self',cT,decide_eq_true (show (j:Int)<Y.N by omega),show decide ((-1:Int)<0)=true from rfl,tab_all,tab_map,hred j (by omega),obind_some',hleast j hj,cF,succ_wrap (show j≤1000000 by omega)]
   ·simp only[not_or_self',cT,decide_eq_true (show (q:Int)<Y.N by omega),show decide ((-1:Int)<0)=true from rfl,tab_all,tab_map,hred q hq,obind_some',decide_eq_true hneg,succ_wrap (show q≤1000000 by omega)]
   ·simp only[not_or_self',cT,decide_eq_false (show ¬ (q:Int)<0 by omega),bif_false',Bool.and_false,cF,tab_all,tab_map,hl1,obind_some',show decide ((-1:Int)<0)=true from rfl]
  ·subst e
   right
   have hpr:0<S.T r q:=hlv.pos
   have hr:=hlv.lt
   have hs:=stepS_at (m:=L.m) (w:=Y.w L) hpr
   refine ⟨stepS S r q,encS L Y x3 cs (stepS S r q),⟨rfl,hv.stepAt hRw hqw (by omega) hlv hs,ha.step hq⟩,left_step (Lay.art h.ok).1 (Lay.art h.ok).2 hN hRw hv ⟨hent,hlv,hs⟩,fun rec=>?_⟩
   refine search (fun again j hj=>?_) (fun again=>?_) (fun again=>?_)
   ·simp only[not_or_self',cT,decide_eq_true (show (j:Int)<Y.N by omega),show decide ((-1:Int)<0)=true from rfl,tab_all,tab_map,hred j (by omega),obind_some',hleast j hj,cF,succ_wrap (show j≤1000000 by omega)]
   ·simp only[not_or_self',cT,decide_eq_true (show (q:Int)<Y.N by omega),show decide ((-1:Int)<0)=true from rfl,tab_all,tab_map,hred q hq,obind_some',decide_eq_true hneg,succ_wrap (show q≤1000000 by omega)]
   ·simp only[not_or_self',cT,decide_eq_false (show ¬ (q:Int)<0 by omega),bif_false',Bool.and_false,cF,tab_all,tab_map,hl1,obind_some',decide_eq_false (show ¬ (r:Int)<0 by omega),pivot_ok (h.piv hv.tb hr hqw (show S.T r q≠0 by omega))]
    rfl
end
end Go.Proofs.Ytnbbackjofgcfaa

namespace Go.Proofs.Ytnbbackjofgcfaa
open Try Dn Dn.Sh
section
variable {L:Lin} {Y:Lay}
theorem Val.flat {S:Sx} (hv:Y.Val L S) {r c:Nat} (hr:r<L.m) (hc:c<Y.N) (he:S.T r c≠0) (h0:S.T r (Y.R L)=0):Y.Val L (stepS S r c):=by
 have hcw:c<Y.w L:=by unfold Lay.w;omega
 have hRw:Y.R L<Y.w L:=by unfold Lay.R Lay.w;omega
 have hd:=hv.tb.dpos
 refine ⟨hv.tb.step hr hcw he,fun i hi=>?_,fun i hi=>?_⟩
 ·show 0≤pivT S.T S.d r c i (Y.R L)
  unfold pivT
  by_cases e:i=r
  ·rw[if_pos e,h0,Int.mul_zero];exact Int.le_refl _
  ·rw[if_neg e]
   have h1:=piv_exact hv.tb hr hi (Ne.symm e) hcw hRw
   rw[h0,Int.mul_zero,Int.sub_zero] at h1
   have h2:0≤sg (S.T r c)*S.T r c*S.T i (Y.R L):=Int.mul_nonneg (Int.le_of_lt (sg_pos he)) (hv.feas i hi)
   rw[Int.mul_assoc,←h1] at h2
   have h3:sg (S.T r c)*(S.d*Dn.piv S.T S.d r c i (Y.R L))=S.d*(sg (S.T r c)*Dn.piv S.T S.d r c i (Y.R L)):=by grind
   rw[h3] at h2
   exact Int.nonneg_of_mul_nonneg_right h2 hd
 ·show upd S.β r c i≠_
  unfold upd
  split
  ·unfold Lay.R;omega
  ·exact hv.ne i hi
theorem piv_zero {T:Nat→Nat→Int} {d:Int} {r c i j:Nat} (h1:T i j=0) (h2:T i c=0∨T r j=0):Dn.piv T d r c i j=0:=by
 unfold Dn.piv
 rw[h1,Int.mul_zero]
 rcases h2 with h | h
 ·rw[h,Int.zero_mul,Int.sub_zero,Int.zero_ediv]
 ·rw[h,Int.mul_zero,Int.sub_zero,Int.zero_ediv]
structure Swp (L:Lin) (Y:Lay) (i:Nat) (S:Sx):Prop where
 val:Y.Val L S
 right:∀k,k<L.m→Y.N≤S.β k→S.T k (Y.R L)=0
 rows:∀k,k<L.m→k<i→Y.N≤S.β k→∀j,j<Y.N→S.T k j=0
theorem Swp.step {i:Nat} {S:Sx} (h:Swp L Y i S) {j:Nat} (hi:i<L.m) (hj:j<Y.N) (hN:Y.N≤S.β i) (he:S.T i j≠0):Swp L Y i (stepS S i j):=by
 have h0:=h.right i hi hN
 have up:∀k,k≠i→(stepS S i j).β k=S.β k:=fun k hk=>by
  show upd S.β i j k=_
  unfold upd
  rw[if_neg hk]
 have ui:(stepS S i j).β i=j:=by
  show upd S.β i j i=_
  unfold upd
  rw[if_pos rfl]
 have hT:∀k l,k≠i→(stepS S i j).T k l=sg (S.T i j)*Dn.piv S.T S.d i j k l:=fun k l hk=>by
  show pivT S.T S.d i j k l=_
  unfold pivT
  rw[if_neg hk]
 refine ⟨Val.flat h.val hi hj he h0,fun k hk hb=>?_,fun k hk hlt hb l hl=>?_⟩
 ·have e:k≠i:=fun e=>by rw[e,ui] at hb;omega
  rw[up k e] at hb
  rw[hT k _ e,piv_zero (h.right k hk hb) (.inr h0),Int.mul_zero]
 ·have e:k≠i:=by omega
  rw[up k e] at hb
  rw[hT k _ e,piv_zero (h.rows k hk hlt hb l hl) (.inl (h.rows k hk hlt hb j hj)),Int.mul_zero]
def StartQ (L:Lin) (Y:Lay) (x3 cs:List Int) (o:Option ((List Nat×List (Option (List Int)))×Int×List Int×List Int×List Int×Int×Int×Bool×Unit)):Prop :=
 ∃S' ok,o=some (tabL L.m (Y.w L) S'.T,S'.d,basL L.m S'.β,x3,cs,(Y.N:Int),((Y.R L:Nat):Int),ok,PUnit.unit)∧Y.Val L S' ∧
   (ok=true→AZ L Y S')∧(ok=false→(∀j,j<Y.N→0≤zr L.m (arts Y.N) S' j)∧0<sz L.m fun i=>arts Y.N (S'.β i)*S'.T i (Y.R L))
theorem start_ok (h:Bnd L Y) (hp:(Y.w L) ^ L.m≤1180591620717411303424) {x3 cs:List Int} {S:Sx} (hv:Y.Val L S) :
  StartQ L Y x3 cs (program_table_start (tabL L.m (Y.w L) S.T) S.d (basL L.m S.β) x3 cs (Y.N:Int) ((Y.R L:Nat):Int)):=by
 have hm:=h.m
 have hw:=h.w
 have hN:Y.N≤Y.R L:=by unfold Lay.R;omega
 have hRw:Y.R L<Y.w L:=by unfold Lay.R Lay.w;omega
 unfold program_table_start program_table_start_b
 refine lpK_exR (γ:=Sx) (I:=fun (S:Sx) x=>x=encS L Y x3 cs S∧Y.Val L S)
  (Q:=StartQ L Y x3 cs)
  (μ:=fun S=>left L.m (Y.w L) Y.N (Y.R L) (Y.M L) (arts Y.N) S) ?_ (s:=S) ⟨rfl,hv⟩ (Nat.lt_of_lt_of_le (left_lt (by unfold Lay.w;omega) S) hp)
 rintro rec S _ ⟨rfl,hv⟩
 obtain ⟨hd,hb⟩:=h.tab hv.tb
 have hbb:∀i j,i<L.m→j<Y.w L→(S.T i j).natAbs<4611686018427387904:=fun i j hi hj=>by have:=hb i j hi hj;omega
 have hart:∀j,j<Y.w L→program_table_artificial (matL L.m (Y.w L) S.T,S.d,basL L.m S.β,x3,cs,(Y.N:Int),((Y.R L:Nat):Int)) (j:Int)=some (sz L.m fun i=>arts Y.N (S.β i)*S.T i j):=fun j hj =>
  artificial_ok (by omega) hj fun i hi=>by have:=hb i j hi hj;omega
 have hz:∀j,j<Y.N→zr L.m (arts Y.N) S j= - sz L.m fun i=>arts Y.N (S.β i)*S.T i j:=fun j hj=>by
  unfold zr
  rw[show arts Y.N j=0 from if_neg (by omega),Int.zero_mul,Int.zero_sub]
 rcases first_of Y.N (fun j=>decide ((sz L.m fun i=>arts Y.N (S.β i)*S.T i j)>0)) with hnone | ⟨q,hq,hneg,hleast⟩
 ·left
  have search:∀{R:Type} {F:(Int×Int×PUnit→Option R)→Int×Int×PUnit→Option R} {Q:Option R→Prop},(∀again j,j<Y.N→F again ((-1:Int),(j:Int),PUnit.unit)=again ((-1:Int),((j+1:Nat):Int),PUnit.unit)) →
    (∃res,Q res∧∀again,F again ((-1:Int),(Y.N:Int),PUnit.unit)=res)→Q (lpK (Int×Int×PUnit) R F ((-1:Int),(0:Int),PUnit.unit)):=fun {R} {F} {Q} h1 h3=>by
   obtain ⟨res,h4,h5⟩:=h3
   have e:lpK (Int×Int×PUnit) R F ((-1:Int),(0:Int),PUnit.unit)=res:=lpK_seqX Y.N (by omega) (fun j=>((-1:Int),(j:Int),PUnit.unit)) res rfl h1 h5
   rw[e]
   exact h4
  refine search (Q:=StartQ L Y x3 cs) (fun again j hj=>?_) ?_
  ·simp only[not_or_self',cT,decide_eq_true (show (j:Int)<Y.N by omega),show decide ((-1:Int)<0)=true from rfl,tab_all,tab_map,hart j (by omega),obind_some',hnone j hj,cF,succ_wrap (show j≤1000000 by omega)]
  ·simp only[not_or_self',cT,cF,decide_eq_false (show ¬ (Y.N:Int)<Y.N by omega),show decide ((-1:Int)<0)=true from rfl,tab_all,tab_map,hart _ hRw,obind_some']
   have hzr:∀j,j<Y.N→0≤zr L.m (arts Y.N) S j:=fun j hj=>by
    rw[hz j hj]
    have:=of_decide_eq_false (hnone j hj)
    omega
   by_cases hpos:(sz L.m fun i=>arts Y.N (S.β i)*S.T i (Y.R L))>0
   ·rw[decide_eq_true hpos]
    simp only[cT]
    exact ⟨_,⟨S,false,rfl,hv,fun e=>(by cases e),fun _=>⟨hzr,hpos⟩⟩,fun _=>rfl⟩
   ·rw[decide_eq_false hpos]
    simp only[cF]
    refine ⟨_,?_,fun _=>rfl⟩
    have hnn:∀i,i<L.m→0≤arts Y.N (S.β i)*S.T i (Y.R L):=fun i hi=>Int.mul_nonneg (by unfold arts;split<;>omega) (hv.feas i hi)
    have hS:Swp L Y 0 S:=by
     refine ⟨hv,fun k hk hNk=>?_,fun k _ h0=>by omega⟩
     have h1:(sz L.m fun i=>if i=k then arts Y.N (S.β k)*S.T k (Y.R L) else 0)≤sz L.m fun i=>arts Y.N (S.β i)*S.T i (Y.R L):=sz_le fun i hi=>by
      by_cases e:i=k
      ·rw[if_pos e,e];exact Int.le_refl _
      ·rw[if_neg e];exact hnn i hi
     rw[sz_one hk fun i _ hne=>if_neg hne,if_pos rfl] at h1
     have h2:=hnn k hk
     have h3:arts Y.N (S.β k)=1:=if_pos hNk
     rw[h3,Int.one_mul] at h1 h2
     omega
    refine lpK_exR (γ:=Nat×Sx) (I:=fun g x=>x=((g.1:Int),encS L Y x3 cs g.2)∧g.1≤L.m∧Swp L Y g.1 g.2)
     (Q:=StartQ L Y x3 cs)
     (μ:=fun g=>L.m - g.1) ?_ (s:=(0,S)) ⟨rfl,by omega,hS⟩ (by simp only;omega)
    rintro rec2 ⟨i,S⟩ _ ⟨rfl,hi,hS⟩
    simp only at hi hS
    by_cases hlt:i<L.m
    ·right
     simp only[tabL_len,decide_eq_true (show (i:Int)<L.m by omega),cT]
     have inner:∀{R:Type} {F:(Int×(List Nat×List (Option (List Int)))×Int×List Int×List Int×List Int×Int×Int×PUnit→Option R)→Int×(List Nat×List (Option (List Int)))×Int×List Int×List Int×List Int×Int×Int×PUnit→Option R} {k:(Int×(List Nat×List (Option (List Int)))×Int×List Int×List Int×List Int×Int×Int×PUnit→Option R)},
       (∀again (j:Nat) S,Swp L Y i S→j≤Y.N→(j<Y.N→Y.N≤S.β i→S.T i j=0→F again ((j:Int),encS L Y x3 cs S)=again (((j+1:Nat):Int),encS L Y x3 cs S))∧(j<Y.N→Y.N≤S.β i→S.T i j≠0→F again ((j:Int),encS L Y x3 cs S)=again (((j+1:Nat):Int),encS L Y x3 cs (stepS S i j))) ∧
        (¬ (j<Y.N∧Y.N≤S.β i)→F again ((j:Int),encS L Y x3 cs S)=k (((i+1:Nat):Int),encS L Y x3 cs S))) →
       ∃S',Swp L Y (i+1) S'∧lpK _ R F ((0:Int),encS L Y x3 cs S)=k (((i+1:Nat):Int),encS L Y x3 cs S'):=fun {R} {F} {k} hF=>by
      refine lpK_exR (γ:=Nat×Sx) (I:=fun g x=>x=((g.1:Int),encS L Y x3 cs g.2)∧g.1≤Y.N∧Swp L Y i g.2∧(Y.N≤g.2.β i→∀l,l<g.1→g.2.T i l=0))
       (Q:=fun o=>∃S',Swp L Y (i+1) S'∧o=k (((i+1:Nat):Int),encS L Y x3 cs S')) (μ:=fun g=>Y.N - g.1) ?_ (s:=(0,S)) ⟨rfl,by omega,hS,fun _ l hl=>by omega⟩ (by simp only;omega)
      rintro rec3 ⟨j,S⟩ _ ⟨rfl,hj,hS,hz⟩
      simp only at hj hS hz
      obtain ⟨f1,f2,f3⟩:=hF rec3 j S hS hj
      by_cases hc:j<Y.N∧Y.N≤S.β i
      ·right
       by_cases h0:S.T i j=0
       ·refine ⟨(j+1,S),_,⟨rfl,by simp only;omega,hS,fun hN l hl=>?_⟩,by simp only;omega,f1 hc.1 hc.2 h0⟩
        simp only at hl
        by_cases e:l=j
        ·rw[e];exact h0
        ·exact hz hN l (by omega)
       ·refine ⟨(j+1,stepS S i j),_,⟨rfl,by simp only;omega,hS.step hlt hc.1 hc.2 h0,fun hN=>?_⟩,by simp only;omega,f2 hc.1 hc.2 h0⟩
        have e:(stepS S i j).β i=j:=by
         show upd S.β i j i=_
         unfold upd
         rw[if_pos rfl]
        rw[e] at hN
        omega
      ·left
       refine ⟨S,⟨hS.val,hS.right,fun k hk hlt' hN l hl=>?_⟩,f3 hc⟩
       by_cases e:k=i
       ·subst e
        exact hz hN l (by omega)
       ·exact hS.rows k hk (by omega) hN l hl
     have fin:∀{o},(∃S',Swp L Y (i+1) S'∧o=rec2 (((i+1:Nat):Int),encS L Y x3 cs S'))→∃(g:Nat×Sx) (y:_),(y=((g.1:Int),encS L Y x3 cs g.2)∧g.1≤L.m∧Swp L Y g.1 g.2)∧L.m - g.1<L.m - i∧o=rec2 y:=by
      rintro o ⟨S',h1,h2⟩
      exact ⟨(i+1,S'),_,⟨rfl,by simp only;omega,h1⟩,by simp only;omega,h2⟩
     refine fin (inner (fun again j S hS hj=>⟨fun c1 c2 c3=>?_,fun c1 c2 c3=>?_,fun c1=>?_⟩))
     ·have hjw:j<Y.w L:=by omega
      simp only[encS,decide_eq_true (show (j:Int)<Y.N by omega),basL_len,inB_nat,Int.toNat_natCast,decide_eq_true hlt,ble_of (show Nat.succ i≤L.m from hlt),basL_get hlt,decide_eq_true (show (S.β i:Int)≥Y.N by omega),Bool.not_true,Bool.or_true,Bool.and_self,cT,tabL_len,tabL_idx hlt,tab_snd,cell_row hlt,rowL_len,rowL_get hjw,decide_eq_true hjw,ble_of (show Nat.succ j≤Y.w L from hjw),decide_eq_true c3,cF,succ_wrap (show j≤1000000 by omega)]
     ·have hjw:j<Y.w L:=by omega
      simp only[encS,decide_eq_true (show (j:Int)<Y.N by omega),basL_len,inB_nat,Int.toNat_natCast,decide_eq_true hlt,ble_of (show Nat.succ i≤L.m from hlt),basL_get hlt,decide_eq_true (show (S.β i:Int)≥Y.N by omega),Bool.not_true,Bool.not_false,Bool.or_true,Bool.and_self,cT,tabL_len,tabL_idx hlt,tab_snd,cell_row hlt,rowL_len,rowL_get hjw,decide_eq_true hjw,ble_of (show Nat.succ j≤Y.w L from hjw),decide_eq_false c3,cF,succ_wrap (show j≤1000000 by omega),
       pivot_ok (h.piv hS.val.tb hlt hjw c3),obind_some']
      rfl
     ·by_cases c2:j<Y.N
      ·simp only[encS,decide_eq_true (show (j:Int)<Y.N by omega),basL_len,inB_nat,Int.toNat_natCast,decide_eq_true hlt,ble_of (show Nat.succ i≤L.m from hlt),basL_get hlt,decide_eq_false (show ¬ (S.β i:Int)≥Y.N by omega),Bool.not_true,Bool.or_true,Bool.and_self,cT,cF,succ_wrap (show i≤1000000 by omega)]
      ·simp only[encS,decide_eq_false (show ¬ (j:Int)<Y.N by omega),Bool.not_false,Bool.true_or,Bool.and_self,cT,cF,succ_wrap (show i≤1000000 by omega)]
    ·left
     have e:i=L.m:=by omega
     subst e
     simp only[tabL_len,decide_eq_false (show ¬ (L.m:Int)<L.m by omega),cF]
     exact ⟨S,true,rfl,hS.val,fun _ k hk hN=>⟨hS.rows k hk hk hN,hS.right k hk hN⟩,fun e=>by cases e⟩
 ·have hneg:=of_decide_eq_true hneg
  have hqw:q<Y.w L:=by omega
  have hent:Enters L.m Y.N (arts Y.N) S q:=⟨hq,by rw[hz q hq];omega,fun j hj=>by rw[hz j (by omega)];have:=of_decide_eq_false (hleast j hj);omega⟩
  obtain ⟨b,hl1,hl2⟩:=leaving_ok (m:=L.m) (w:=Y.w L) (T:=S.T) (d:=S.d) (β:=S.β) (c:=q) (R:=Y.R L) (x1:=S.d) (x3:=x3) (x4:=cs) (x5:=(Y.N:Int)) (by omega) hqw hRw hbb
  rcases hl2 with ⟨e,hno⟩ | ⟨r,e,hlv⟩
  ·exfalso
   have h1:(sz L.m fun i=>arts Y.N (S.β i)*S.T i q)≤sz L.m fun _=>0:=sz_le fun i hi=>by
    have:=hno i hi
    unfold arts
    split<;>omega
   rw[sz_zero (f:=fun _=>0) fun _ _=>rfl] at h1
   omega
  ·subst e
   right
   have hpr:0<S.T r q:=hlv.pos
   have hr:=hlv.lt
   have hs:=stepS_at (m:=L.m) (w:=Y.w L) hpr
   refine ⟨stepS S r q,encS L Y x3 cs (stepS S r q),⟨rfl,hv.stepAt hRw hqw (by omega) hlv hs⟩,left_step (Lay.art h.ok).1 (Lay.art h.ok).2 hN hRw hv ⟨hent,hlv,hs⟩,?_⟩
   refine lpK_seqX (q+1) (by omega) (fun j=>if j≤q then ((-1:Int),(j:Int),PUnit.unit) else ((q:Int),(j:Int),PUnit.unit)) _ (by rw[if_pos (by omega)];rfl) (fun again j hj=>?_) (fun again=>?_)
   ·by_cases e:j=q
    ·subst e
     rw[if_pos (by omega),if_neg (by omega)]
     simp only[not_or_self',cT,decide_eq_true (show (j:Int)<Y.N by omega),show decide ((-1:Int)<0)=true from rfl,tab_all,tab_map,hart j hqw,obind_some',decide_eq_true hneg,succ_wrap (show j≤1000000 by omega)]
    ·rw[if_pos (by omega),if_pos (by omega)]
     simp only[not_or_self',cT,decide_eq_true (show (j:Int)<Y.N by omega),show decide ((-1:Int)<0)=true from rfl,tab_all,tab_map,hart j (by omega),obind_some',hleast j (by omega),cF,succ_wrap (show j≤1000000 by omega)]
   ·rw[if_neg (by omega)]
    simp only[not_or_self',cT,decide_eq_false (show ¬ (q:Int)<0 by omega),bif_false',Bool.and_false,cF,tab_all,tab_map,hl1,obind_some',show decide ((-1:Int)<0)=true from rfl,pivot_ok (h.piv hv.tb hr hqw (show S.T r q≠0 by omega))]
    rfl
end
end Go.Proofs.Ytnbbackjofgcfaa

namespace Go.Proofs.Ytnbbackjofgcfaa
open Try Dn Dn.Sh
def linP (p:Pg):Lin:=⟨p.1.length,p.2.length,fun k j=>(p.2.getD k rw0).1.getD j 0,fun k=>(p.2.getD k rw0).2.2,fun j=>p.1.getD j 0,fun k=>(p.2.getD k rw0).2.1⟩
def cntS (p:Pg):Nat→Nat
 | 0=>0
 | k+1=>cntS p k+if (p.2.getD k rw0).2.1=3 then 0 else 1
def layP (p:Pg):Lay:=⟨p.1.length+cntS p p.2.length,fun k=>p.1.length+cntS p k,fun k=>if (p.2.getD k rw0).2.2<0 then -1 else 1⟩
theorem cntS_le {p:Pg}:∀k,cntS p k≤k
 | 0=>Nat.le_refl _
 | k+1=>by
  have:=cntS_le (p:=p) k
  simp only[cntS]
  split<;>omega
theorem cntS_lt {p:Pg} {k:Nat}:∀{l:Nat},k<l→(p.2.getD k rw0).2.1≠3→cntS p k<cntS p l
 | 0,h,_=>by omega
 | l+1,h,h3=>by
  simp only[cntS]
  by_cases e:k=l
  ·subst e
   rw[if_neg h3];omega
  ·have:=cntS_lt (l:=l) (by omega) h3
   split<;>omega
theorem layP_ok {p:Pg} (hv:ValidP p):(layP p).ok (linP p):=by
 have row:∀k,k<p.2.length→p.2.getD k rw0 ∈ p.2:=fun k hk=>by rw[getD_nat hk];exact List.getElem_mem _
 refine ⟨Nat.le_add_right _ _,fun k hk=>?_,fun k hk h3=>⟨Nat.le_add_right _ _,?_⟩,fun k l hk hl h3 h4 e=>?_,fun k _=>?_,fun k _=>?_⟩
 ·have:=hv.kind _ (row k hk)
  show (p.2.getD k rw0).2.1=1∨(p.2.getD k rw0).2.1=2∨(p.2.getD k rw0).2.1=3
  omega
 ·have:=cntS_lt (p:=p) (k:=k) (l:=p.2.length) hk h3
  show p.1.length+cntS p k<p.1.length+cntS p p.2.length
  omega
 ·have e:p.1.length+cntS p k=p.1.length+cntS p l:=e
  rcases Nat.lt_trichotomy k l with h | h | h
  ·have:=cntS_lt (p:=p) h h3;omega
  ·exact h
  ·have:=cntS_lt (p:=p) h h4;omega
 ·show (if (p.2.getD k rw0).2.2<0 then (-1:Int) else 1)=1∨(if (p.2.getD k rw0).2.2<0 then (-1:Int) else 1)= -1
  split<;>omega
 ·show 0≤(if (p.2.getD k rw0).2.2<0 then (-1:Int) else 1)*(p.2.getD k rw0).2.2
  split<;>omega
theorem layP_w {p:Pg} (hv:ValidP p):(layP p).w (linP p)≤25∧(linP p).m≤6:=by
 have h1:=cntS_le (p:=p) p.2.length
 have h2:=hv.rows
 have h3:=hv.cost.2
 refine ⟨?_,h2⟩
 show p.1.length+cntS p p.2.length+p.2.length+1≤25
 omega
theorem rowL_snoc {α:Type} {w:Nat} {f:Nat→α}:rowL w f++[f w]=rowL (w+1) f:=by
 unfold rowL
 rw[List.range_succ,List.map_append]
 rfl
theorem cellL_snoc {m w:Nat} {T:Nat→Nat→Int}:cellL m w T++[some (rowL w (T m))]=cellL (m+1) w T:=by
 unfold cellL
 rw[List.range_succ,List.map_append]
 rfl
theorem base_row {l:List Int} {w:Nat} (h:l.length≤w):List.take 0 (List.replicate w (0:Int))++List.take w l++List.drop (0+(List.take w l).length) (List.replicate w 0)=rowL w fun j=>l.getD j 0:=by
 rw[List.take_of_length_le h]
 refine List.ext_getElem (by rw[rowL_len];simp;omega) fun i h1 h2=>?_
 rw[rowL_at]
 have hi:i<w:=by rw[rowL_len] at h2;exact h2
 by_cases e:i<l.length
 ·rw[getD_nat e,List.getElem_append_left (by simp;exact e)]
  simp
 ·rw[List.getElem_append_right (by simp;omega),List.getD_eq_getElem?_getD,List.getElem?_eq_none (by omega)]
  simp
abbrev St:=Int×Int×(List Nat×List (Option (List Int)))×Int×List Int×List Int×List Int×Int×Int×PUnit
noncomputable def newJ {R:Type} (p:Pg) (again:St→Option R) (x:St) (x_1:Int×List Int×PUnit):Option R :=
 let v21:List Int×PUnit:=(x_1.2.1,PUnit.unit);jnK (Int×List Int×PUnit) R (fun (x_2:Int×List Int×PUnit)=>bif inB (IntKind.wrap .i64 (x.2.2.2.2.2.2.2.1+x.2.1)) (List.length x_2.2.1) then bif Nat.ble (Nat.succ (Int.toNat (IntKind.wrap .i64 (x.2.2.2.2.2.2.2.1+x.2.1)))) (List.length x_2.2.1) then bif fitB (List.length x.2.2.1.1+(1:Nat)) (24:Nat) then bif fitB (List.length x.2.2.2.2.2.1+(1:Nat)) (8:Nat) then bif fitB (List.length x.2.2.2.2.1+(1:Nat)) (8:Nat) then again (x_1.1,IntKind.wrap .i64 (x.2.1+(1:Int)),(x.2.2.1.1++[List.length x.2.2.1.2+(0:Nat)],x.2.2.1.2++[some (List.set x_2.2.1 (Int.toNat (IntKind.wrap .i64 (x.2.2.2.2.2.2.2.1+x.2.1))) (1:Int))]),x.2.2.2.1,x.2.2.2.2.1++[(IntKind.wrap .i64 (x.2.2.2.2.2.2.2.1+x.2.1))],x.2.2.2.2.2.1++[x_2.1],x.2.2.2.2.2.2.1,x.2.2.2.2.2.2.2.1,x.2.2.2.2.2.2.2.2.1,PUnit.unit) else none else none else none else none else none) fun (j:Int×List Int×PUnit→Option R)=>bif decide ((List.getD p.2 (Int.toNat x.2.1) ([],(0:Int),(0:Int))).2.2<(0:Int)) then lpK (Int×List Int×PUnit) R (fun (again:Int×List Int×PUnit→Option R) (x:Int×List Int×PUnit) =>
 let v25:Bool:=inB x.1 (List.length x.2.1);
 let v26:Bool:=Nat.ble (Nat.succ (Int.toNat x.1)) (List.length x.2.1);
 bif decide (x.1<(↑(List.length x_1.2.1):Int)) then bif v25 then bif v26 then bif v25 then bif v26 then again (IntKind.wrap .i64 (x.1+(1:Int)),List.set x.2.1 (Int.toNat x.1) (IntKind.wrap .i64 ((0:Int) - List.getD x.2.1 (Int.toNat x.1) (0:Int))),PUnit.unit) else none else none else none else none else j ((-1:Int),x.2.1,PUnit.unit)) ((0:Int),v21) else j ((1:Int),v21)
noncomputable def newB {R:Type} (p:Pg) (again k:St→Option R) (x:St):Option R :=
 let v12:Int:=IntKind.wrap .i64 (x.1+(1:Int));
 let v13:List Int×Int×Int:=List.getD p.2 (Int.toNat x.2.1) ([],(0:Int),(0:Int));
 let v14:List Int:=List.replicate (Int.toNat (IntKind.wrap .i64 (x.2.2.2.2.2.2.2.2.1+(1:Int)))) (0:Int);
 let v15:Bool:=inB x.1 (Int.toNat (IntKind.wrap .i64 (x.2.2.2.2.2.2.2.2.1+(1:Int))));
 let v16:Bool:=Nat.ble (Nat.succ (Int.toNat x.1)) (Int.toNat (IntKind.wrap .i64 (x.2.2.2.2.2.2.2.2.1+(1:Int))));
 let v17:Int:=IntKind.wrap .i64 (x.2.2.2.2.2.2.2.1+x.2.1);
 let v18:List Int:=List.take (Int.toNat (IntKind.wrap .i64 (x.2.2.2.2.2.2.2.2.1+(1:Int)))) v13.1;
 let v19:List Int:=List.set (List.take (0:Nat) v14++v18++List.drop ((0:Nat)+List.length v18) v14) (Int.toNat x.2.2.2.2.2.2.2.2.1) v13.2.2;
 bif decide (x.2.1<(↑(List.length p.2):Int)) then bif inB x.2.1 (List.length p.2) then bif decide ((0:Int)≤IntKind.wrap .i64 (x.2.2.2.2.2.2.2.2.1+(1:Int)))&&fitB (Int.toNat (IntKind.wrap .i64 (x.2.2.2.2.2.2.2.2.1+(1:Int)))) (8:Nat) then bif inB x.2.2.2.2.2.2.2.2.1 (Int.toNat (IntKind.wrap .i64 (x.2.2.2.2.2.2.2.2.1+(1:Int)))) then bif Nat.ble (Nat.succ (Int.toNat x.2.2.2.2.2.2.2.2.1)) (Int.toNat (IntKind.wrap .i64 (x.2.2.2.2.2.2.2.2.1+(1:Int)))) then jnK (Int×List Int×PUnit) R (newJ p again x) fun (j:Int×List Int×PUnit→Option R)=>bif decide (v13.2.1=(1:Int)) then bif v15 then bif v16 then j (v12,List.set v19 (Int.toNat x.1) (1:Int),PUnit.unit) else none else none else jnK (Int×List Int×PUnit) R (fun (x:Int×List Int×PUnit)=>j (x.1,x.2.1,PUnit.unit)) fun (j:Int×List Int×PUnit→Option R)=>bif decide (v13.2.1=(2:Int)) then bif v15 then bif v16 then j (v12,List.set v19 (Int.toNat x.1) (-1:Int),PUnit.unit) else none else none else j (x.1,v19,PUnit.unit) else none else none else none else none else k x
theorem newJ_ok {p:Pg} (hv:ValidP p) {R:Type} {again:St→Option R} {i:Nat} (hi:i<p.2.length) {f:Nat→Int} {s s0:Int}
  (hf:∀k,k<(layP p).w (linP p)→f k=if k=(layP p).R (linP p) then (linP p).b i else if (linP p).kd i≠3∧k=(layP p).sl i then (if (linP p).kd i=1 then 1 else -1) else (p.2.getD i rw0).1.getD k 0) :
  newJ p again (s0,(i:Int),(List.range i,cellL i ((layP p).w (linP p)) ((layP p).M (linP p))),1,basL i (fun k=>(layP p).N+k),rowL i (layP p).σ,p.1,((layP p).N:Int),(((layP p).R (linP p):Nat):Int),PUnit.unit) (s,rowL ((layP p).w (linP p)) f,PUnit.unit) =
   again (s,((i+1:Nat):Int),(List.range (i+1),cellL (i+1) ((layP p).w (linP p)) ((layP p).M (linP p))),1,basL (i+1) (fun k=>(layP p).N+k),rowL (i+1) (layP p).σ,p.1,((layP p).N:Int),(((layP p).R (linP p):Nat):Int),PUnit.unit):=by
 obtain ⟨h1,h2⟩:=layP_w hv
 have hr:p.2.getD i rw0 ∈ p.2:=by rw[getD_nat hi];exact List.getElem_mem _
 have hR:=hv.right _ hr
 have hl:=hv.len _ hr
 have hc:=hv.coefs _ hr
 have hn:=hv.cost.2
 have hbb:∀k,k<(layP p).w (linP p)→ -1073741824≤f k∧f k≤1073741824:=fun k hk=>by
  rw[hf k hk]
  split
  ·exact of_decide_eq_true hR
  ·split
   ·split<;>omega
   ·by_cases e:k<(p.2.getD i rw0).1.length
    ·have:=of_decide_eq_true (hc ((p.2.getD i rw0).1.getD k 0) (by rw[getD_nat e];exact List.getElem_mem _))
     omega
    ·rw[List.getD_eq_getElem?_getD,List.getElem?_eq_none (by omega)]
     simp
 obtain ⟨w,hw⟩:∃w,w=(layP p).w (linP p):=⟨_,rfl⟩
 have hNi:(layP p).N+i<w:=by rw[hw];show (layP p).N+i<(layP p).N+p.2.length+1;omega
 have hNw:(layP p).N+p.2.length+1=w:=hw.symm
 have hm6:p.2.length≤6:=h2
 rw[←hw] at hf hbb h1 ⊢
 have fin:∀(σ:Int),σ=(layP p).σ i→(List.range i++[(cellL i w ((layP p).M (linP p))).length+0],cellL i w ((layP p).M (linP p))++[some ((rowL w fun k=>σ*f k).set ((layP p).N+i) 1)])=(List.range (i+1),cellL (i+1) w ((layP p).M (linP p))):=fun σ hσ=>by
  rw[cellL_len,Nat.add_zero,←List.range_succ,rowL_set hNi,←cellL_snoc]
  congr 3
  congr 1
  refine rowL_congr fun k hk=>?_
  have hok:=layP_ok hv
  unfold Lay.M
  rw[hf k hk,hσ]
  have hNn:(linP p).n≤(layP p).N:=hok.n
  have hRe:(layP p).R (linP p)=(layP p).N+p.2.length:=rfl
  have hme:(linP p).m=p.2.length:=rfl
  rw[hRe,hme]
  by_cases c1:k<(linP p).n
  ·rw[if_neg (by omega),if_neg (by omega),if_pos c1,if_neg]
   ·rfl
   ·rintro ⟨e1,e2⟩
    have:=(hok.sl i hi e1).1
    omega
  ·rw[if_neg c1]
   by_cases c2:k<(layP p).N
   ·rw[if_neg (by omega),if_neg (by omega),if_pos c2]
    by_cases c3:(linP p).kd i≠3∧k=(layP p).sl i
    ·rw[if_pos c3,if_pos c3]
    ·rw[if_neg c3,if_neg c3,List.getD_eq_getElem?_getD,List.getElem?_eq_none (by rw[hl];exact Nat.not_lt.1 c1)]
     simp
   ·rw[if_neg c2]
    by_cases c3:k<(layP p).N+p.2.length
    ·rw[if_pos c3]
     by_cases c4:k=(layP p).N+i
     ·rw[if_pos c4,if_pos c4]
     ·rw[if_neg c4,if_neg c4,if_neg (by omega),if_neg]
      ·rw[List.getD_eq_getElem?_getD,List.getElem?_eq_none (by rw[hl];exact Nat.not_lt.1 c1)]
       simp
      ·rintro ⟨e1,e2⟩
       have:=(hok.sl i hi e1).2
       omega
    ·rw[if_neg c3,if_neg (by omega),if_pos (by omega)]
 have hadd:IntKind.wrap .i64 (((layP p).N:Int)+(i:Int))=(((layP p).N+i:Nat):Int):=by rw[wrap_id (by omega) (by omega)];rfl
 have hg:∀{n k:Nat},n≤1000→k≤24→fitB n k=true:=fun {n k} h1 h2=>fitB_of (Nat.le_trans (Nat.mul_le_mul h1 h2) (by decide))
 have tail:∀(σ:Int),σ=(layP p).σ i→(bif inB (IntKind.wrap .i64 (((layP p).N:Int)+(i:Int))) (rowL w fun k=>σ*f k).length then bif Nat.ble (Nat.succ (Int.toNat (IntKind.wrap .i64 (((layP p).N:Int)+(i:Int))))) (rowL w fun k=>σ*f k).length then
   bif fitB ((List.range i).length+1) 24 then bif fitB ((rowL i (layP p).σ).length+1) 8 then bif fitB ((basL i fun k=>(layP p).N+k).length+1) 8 then
   again (s,IntKind.wrap .i64 ((i:Int)+1),(List.range i++[(cellL i w ((layP p).M (linP p))).length+0],cellL i w ((layP p).M (linP p))++[some ((rowL w fun k=>σ*f k).set (Int.toNat (IntKind.wrap .i64 (((layP p).N:Int)+(i:Int)))) 1)]),1,
    (basL i fun k=>(layP p).N+k)++[IntKind.wrap .i64 (((layP p).N:Int)+(i:Int))],rowL i (layP p).σ++[σ],p.1,((layP p).N:Int),(((layP p).R (linP p):Nat):Int),PUnit.unit) else none else none else none else none else none) =
   again (s,((i+1:Nat):Int),(List.range (i+1),cellL (i+1) w ((layP p).M (linP p))),1,basL (i+1) (fun k=>(layP p).N+k),rowL (i+1) (layP p).σ,p.1,((layP p).N:Int),(((layP p).R (linP p):Nat):Int),PUnit.unit):=fun σ hσ=>by
  rw[hadd,Int.toNat_natCast,fin σ hσ,rowL_len,inB_nat,decide_eq_true hNi,ble_of hNi,List.length_range,rowL_len,basL_len,hg (by omega) (by omega),hg (by omega) (by omega),succ_wrap (show i≤1000000 by omega),hσ,rowL_snoc]
  simp only[cT]
  rw[show (basL i fun k=>(layP p).N+k)++[(((layP p).N+i:Nat):Int)]=basL (i+1) (fun k=>(layP p).N+k) from rowL_snoc (f:=fun k=>(((layP p).N+k:Nat):Int))]
 unfold newJ
 simp only[jnK_eq',Int.toNat_natCast]
 by_cases hneg:(p.2.getD i rw0).2.2<0
 ·have hs:(layP p).σ i= -1:=if_pos hneg
  rw[decide_eq_true hneg,cond_true]
  refine lpK_seqX w (by omega) (fun k=>((k:Int),rowL w (fun j=>if j<k then -1*f j else f j),PUnit.unit)) _ ?_ (fun again2 k hk=>?_) (fun again2=>?_)
  ·rw[rowL_congr (f:=fun j=>if j<0 then -1*f j else f j) (g:=f) fun j _=>if_neg (by omega)];rfl
  ·have hb:=hbb k hk
   simp only[rowL_len,inB_nat,Int.toNat_natCast,decide_eq_true hk,decide_eq_true (show (k:Int)<w by omega),ble_of (show Nat.succ k≤w from hk),rowL_get hk,cT,if_neg (Nat.lt_irrefl k),succ_wrap (show k≤1000000 by omega),wrap_id (show -9223372036854775808≤0 - f k by omega) (by omega),rowL_set hk]
   congr 3
   refine rowL_congr fun j _=>?_
   by_cases c:j=k
   ·rw[if_pos c,if_pos (by omega),c];omega
   ·rw[if_neg c]
    by_cases c2:j<k
    ·rw[if_pos c2,if_pos (by omega)]
    ·rw[if_neg c2,if_neg (by omega)]
  ·simp only[rowL_len,decide_eq_false (show ¬ (w:Int)<w by omega),cF]
   rw[rowL_congr (f:=fun j=>if j<w then -1*f j else f j) (g:=fun j=> -1*f j) fun j hj=>if_pos hj]
   have:=tail (-1) hs.symm
   simp only[rowL_len] at this
   exact this
 ·have hs:(layP p).σ i=1:=if_neg hneg
  rw[decide_eq_false hneg,cond_false]
  have:=tail 1 hs.symm
  rw[rowL_congr (f:=fun j=>1*f j) (g:=f) fun j _=>Int.one_mul _] at this
  exact this
theorem newB_loop {p:Pg} (hv:ValidP p) {R:Type} {k:St→Option R} :
  lpK St R (fun again x=>newB p again k x) ((p.1.length:Int),(0:Int),([],[]),(1:Int),[],[],p.1,((layP p).N:Int),(((layP p).R (linP p):Nat):Int),PUnit.unit) =
   k (((layP p).N:Int),(p.2.length:Int),tabL p.2.length ((layP p).w (linP p)) ((layP p).M (linP p)),1,basL p.2.length (fun k=>(layP p).N+k),rowL p.2.length (layP p).σ,p.1,((layP p).N:Int),(((layP p).R (linP p):Nat):Int),PUnit.unit):=by
 obtain ⟨h1,h2⟩:=layP_w hv
 have hok:=layP_ok hv
 have hm6:p.2.length≤6:=h2
 obtain ⟨w,hw⟩:∃w,w=(layP p).w (linP p):=⟨_,rfl⟩
 have hR1:(layP p).R (linP p)+1=w:=by rw[hw]
 refine lpK_seqX p.2.length (by omega) (fun i=>(((p.1.length+cntS p i:Nat):Int),(i:Int),(List.range i,cellL i ((layP p).w (linP p)) ((layP p).M (linP p))),1,basL i (fun k=>(layP p).N+k),rowL i (layP p).σ,p.1,((layP p).N:Int),(((layP p).R (linP p):Nat):Int),PUnit.unit)) _ rfl (fun again i hi=>?_) (fun again=>?_)
 ·have hr:p.2.getD i rw0 ∈ p.2:=by rw[getD_nat hi];exact List.getElem_mem _
  have hl:=hv.len _ hr
  have hkd:=hv.kind _ hr
  have hN:p.1.length≤(layP p).N:=hok.n
  have hNR:(layP p).N+p.2.length=(layP p).R (linP p):=rfl
  have hRw:(layP p).R (linP p)<w:=by omega
  rw[←hw] at h1
  have hsl:(layP p).sl i=p.1.length+cntS p i:=rfl
  have hcs:=cntS_le (p:=p) i
  unfold newB
  simp only[succ_wrap (show (layP p).R (linP p)≤1000000 by omega),hR1,Int.toNat_natCast,inB_nat,decide_eq_true hi,decide_eq_true (show (i:Int)<p.2.length by omega),decide_eq_true (show (0:Int)≤(w:Nat) by omega),fitB_of (show w*8≤140737488355328 by omega),decide_eq_true hRw,ble_of (show Nat.succ ((layP p).R (linP p))≤w from hRw),Bool.and_self,cT,jnK_eq',base_row (show (p.2.getD i rw0).1.length≤w by omega),rowL_set hRw]
  by_cases k3:(p.2.getD i rw0).2.1=3
  ·have ec:cntS p (i+1)=cntS p i:=by simp only[cntS,if_pos k3,Nat.add_zero]
   rw[ec,decide_eq_false (show ¬ (p.2.getD i rw0).2.1=1 by omega),decide_eq_false (show ¬ (p.2.getD i rw0).2.1=2 by omega)]
   simp only[cF]
   have:=newJ_ok hv (again:=again) (s0:=((p.1.length+cntS p i:Nat):Int)) (s:=((p.1.length+cntS p i:Nat):Int)) hi (f:=fun k=>if k=(layP p).R (linP p) then (p.2.getD i rw0).2.2 else (p.2.getD i rw0).1.getD k 0) (fun k hk=>by
    show (if k=(layP p).R (linP p) then (p.2.getD i rw0).2.2 else (p.2.getD i rw0).1.getD k 0)=if k=(layP p).R (linP p) then (p.2.getD i rw0).2.2 else _
    by_cases c:k=(layP p).R (linP p)
    ·rw[if_pos c,if_pos c]
    ·rw[if_neg c,if_neg c,if_neg]
     rintro ⟨e,_⟩
     exact e k3)
   rw[←hw] at this
   exact this
  ·have hslN:(layP p).sl i<(layP p).N:=(hok.sl i hi k3).2
   have hslw:p.1.length+cntS p i<w:=by omega
   have ec:cntS p (i+1)=cntS p i+1:=by simp only[cntS,if_neg k3]
   rw[ec]
   have step:∀(v:Int),v=(if (linP p).kd i=1 then 1 else -1)→newJ p again ((((p.1.length+cntS p i:Nat):Int)),(i:Int),(List.range i,cellL i ((layP p).w (linP p)) ((layP p).M (linP p))),1,basL i (fun k=>(layP p).N+k),rowL i (layP p).σ,p.1,((layP p).N:Int),(((layP p).R (linP p):Nat):Int),PUnit.unit)
     (((p.1.length+cntS p i+1:Nat):Int),(rowL w fun k=>if k=(layP p).R (linP p) then (p.2.getD i rw0).2.2 else (p.2.getD i rw0).1.getD k 0).set (p.1.length+cntS p i) v,PUnit.unit)=again (((p.1.length+(cntS p i+1):Nat):Int),((i+1:Nat):Int),(List.range (i+1),cellL (i+1) ((layP p).w (linP p)) ((layP p).M (linP p))),1,basL (i+1) (fun k=>(layP p).N+k),rowL (i+1) (layP p).σ,p.1,((layP p).N:Int),(((layP p).R (linP p):Nat):Int),PUnit.unit):=fun v hvv=>by
    rw[rowL_set hslw]
    have:=newJ_ok hv (again:=again) (s0:=((p.1.length+cntS p i:Nat):Int)) (s:=((p.1.length+cntS p i+1:Nat):Int)) hi (f:=fun k=>if k=p.1.length+cntS p i then v else if k=(layP p).R (linP p) then (p.2.getD i rw0).2.2 else (p.2.getD i rw0).1.getD k 0) (fun k hk=>by
     show (if k=p.1.length+cntS p i then v else if k=(layP p).R (linP p) then (p.2.getD i rw0).2.2 else (p.2.getD i rw0).1.getD k 0)=if k=(layP p).R (linP p) then (p.2.getD i rw0).2.2 else _
     by_cases c:k=(layP p).R (linP p)
     ·rw[if_pos c,if_pos c,if_neg (by omega)]
     ·rw[if_neg c,if_neg c]
      by_cases c2:k=p.1.length+cntS p i
      ·rw[if_pos c2,if_pos ⟨k3,c2⟩,hvv]
      ·rw[if_neg c2,if_neg fun h=>c2 h.2])
    rw[←hw] at this ⊢
    exact this
   by_cases k1:(p.2.getD i rw0).2.1=1
   ·have:=step 1 (if_pos (show (linP p).kd i=1 from k1)).symm
    rw[←hw] at this
    rw[decide_eq_true k1]
    simp only[cT,decide_eq_true hslw,ble_of (show Nat.succ (p.1.length+cntS p i)≤w from hslw),succ_wrap (show p.1.length+cntS p i≤1000000 by omega)]
    exact this
   ·have k2:(p.2.getD i rw0).2.1=2:=by omega
    have:=step (-1) (if_neg (show ¬ (linP p).kd i=1 from k1)).symm
    rw[←hw] at this
    rw[decide_eq_false k1,decide_eq_true k2]
    simp only[cT,cF,decide_eq_true hslw,ble_of (show Nat.succ (p.1.length+cntS p i)≤w from hslw),succ_wrap (show p.1.length+cntS p i≤1000000 by omega)]
    exact this
 ·unfold newB
  simp only[decide_eq_false (show ¬ (p.2.length:Int)<p.2.length by omega),cF]
  rfl
theorem cnt_loopQ {p:Pg} (hv:ValidP p) {R:Type} {F:(Int×Int×PUnit→Option R)→Int×Int×PUnit→Option R} (Q:Option R→Prop)
  (hF:∀again (i:Nat) (s:Int),i<p.2.length→F again (s,(i:Int),PUnit.unit)=bif !decide ((p.2.getD i rw0).2.1=3) then again (IntKind.wrap .i64 (s+1),((i+1:Nat):Int),PUnit.unit) else again (s,((i+1:Nat):Int),PUnit.unit))
  (hf:∀again,Q (F again (((cntS p p.2.length:Nat):Int),(p.2.length:Int),PUnit.unit))):Q (lpK (Int×Int×PUnit) R F ((0:Int),(0:Int),PUnit.unit)):=by
 have hm:=hv.rows
 refine lpK_seqQ Q p.2.length (by omega) (fun i=>(((cntS p i:Nat):Int),(i:Int),PUnit.unit)) rfl (fun again i hi=>?_) hf
 rw[hF again i _ hi]
 have:=cntS_le (p:=p) i
 by_cases k3:(p.2.getD i rw0).2.1=3
 ·rw[decide_eq_true k3]
  simp only[cntS,if_pos k3,Nat.add_zero,Bool.not_true,cF]
 ·rw[decide_eq_false k3]
  simp only[cntS,if_neg k3,Bool.not_false,cT,succ_wrap (show cntS p i≤1000000 by omega)]
theorem newB_loopQ {p:Pg} (hv:ValidP p) {R:Type} {k:St→Option R} (Q:Option R→Prop)
  (h:Q (k (((layP p).N:Int),(p.2.length:Int),tabL p.2.length ((layP p).w (linP p)) ((layP p).M (linP p)),1,basL p.2.length (fun k=>(layP p).N+k),rowL p.2.length (layP p).σ,p.1,((layP p).N:Int),(((layP p).R (linP p):Nat):Int),PUnit.unit))) :
  Q (lpK St R (fun again x=>newB p again k x) ((p.1.length:Int),(0:Int),([],[]),(1:Int),[],[],p.1,((layP p).N:Int),(((layP p).R (linP p):Nat):Int),PUnit.unit)):=by
 rw[newB_loop hv]
 exact h
end Go.Proofs.Ytnbbackjofgcfaa

namespace Go.Proofs.Ytnbbackjofgcfaa
open Try Dn Dn.Sh
def fac (L:Lin):Nat→Int
 | 0=>L.F0
 | k+1=>L.F k
def pp (f:Nat→Int):Nat→Int
 | 0=>1
 | n+1=>pp f n*f n
def mx (f:Nat→Int):Nat→Int
 | 0=>f 0
 | n+1=>max (mx f n) (f (n+1))
def FitsL (L:Lin):Prop:=pp (fac L) (L.m+1)≤17592186044416∧pp (fac L) (L.m+1)*mx (fac L) L.m≤144115188075855872
instance (L:Lin):Decidable (FitsL L):=by unfold FitsL;infer_instance
theorem fac_pos (L:Lin) (k:Nat):1≤fac L k:=by
 cases k with
 | zero=>exact L.F0_pos
 | succ k=>exact L.F_pos k
theorem pp_front {f:Nat→Int}:∀{n:Nat},pp f (n+1)=f 0*pz n fun i=>f (i+1)
 | 0=>by simp[pp,pz]
 | n+1=>by
  have e:∀{n:Nat} {g:Nat→Int},pz (n+1) g=pz n g*g n:=by
   intro n
   induction n with
   | zero=>intro g;simp[pz]
   | succ n ih =>
    intro g
    have h:=ih (g:=fun i=>g (i+1))
    rw[pz,h,pz,Int.mul_assoc]
  rw[pp,pp_front (n:=n),e,Int.mul_assoc]
theorem pp_P (L:Lin):pp (fac L) (L.m+1)=L.F0*L.P:=pp_front
theorem pp_pos {f:Nat→Int} (h:∀i,1≤f i):∀n,1≤pp f n
 | 0=>by simp[pp]
 | n+1=>by
  have h1:=pp_pos h n
  have h2:=Int.mul_le_mul h1 (h n) (by omega) (by omega)
  simp only[pp]
  omega
theorem pp_mono {f:Nat→Int} (h:∀i,1≤f i) {n:Nat}:∀{k:Nat},pp f n≤pp f (n+k)
 | 0=>Int.le_refl _
 | k+1=>by
  have h1:=pp_mono h (n:=n) (k:=k)
  have h2:=pp_pos h (n+k)
  have h3:pp f (n+k)*1≤pp f (n+k)*f (n+k):=Int.mul_le_mul_of_nonneg_left (h _) (by omega)
  rw[←Nat.add_assoc]
  simp only[pp]
  omega
theorem mx_le {f:Nat→Int} {n:Nat}:∀{i:Nat},i≤n→f i≤mx f n:=by
 induction n with
 | zero=>intro i h;rw[show i=0 by omega];exact Int.le_refl _
 | succ n ih =>
  intro i h
  simp only[mx]
  by_cases e:i=n+1
  ·rw[e];omega
  ·have:=ih (i:=i) (by omega)
   omega
theorem mx_ub {f:Nat→Int} {B:Int}:∀{n:Nat},(∀i,i≤n→f i≤B)→mx f n≤B
 | 0,h=>h 0 (by omega)
 | n+1,h=>by
  have h1:=mx_ub (n:=n) fun i hi=>h i (by omega)
  have h2:=h (n+1) (by omega)
  simp only[mx]
  omega
theorem size_small {l:List Int} (h:∀n ∈ l,inC n=true) (j:Nat):ab (l.getD j 0)≤1048576:=by
 rw[ab_le]
 by_cases e:j<l.length
 ·exact of_decide_eq_true (h _ (by rw[getD_nat e];exact List.getElem_mem _))
 ·rw[List.getD_eq_getElem?_getD,List.getElem?_eq_none (by omega)]
  simp
theorem sum_small {l:List Int} (h:∀n ∈ l,inC n=true) {n:Nat} (hn:n≤12):0≤sz n (fun j=>ab (l.getD j 0))∧sz n (fun j=>ab (l.getD j 0))≤12582912:=by
 refine ⟨sz_nonneg fun _ _=>ab_nonneg _,?_⟩
 have h1:=(sz_bound (n:=n) (f:=fun j=>ab (l.getD j 0)) (B:=1048576) fun j _=>⟨by have:=ab_nonneg (l.getD j 0);omega,size_small h j⟩).2
 omega
theorem fac_small {p:Pg} (hv:ValidP p) {k:Nat} (hk:k≤p.2.length):fac (linP p) k≤2147483648:=by
 have hn:=hv.cost.2
 cases k with
 | zero =>
  have:=sum_small hv.cs hn
  show 1+sz p.1.length (fun j=>ab (p.1.getD j 0))≤_
  omega
 | succ k =>
  have hr:p.2.getD k rw0 ∈ p.2:=by rw[getD_nat (show k<p.2.length by omega)];exact List.getElem_mem _
  have h1:=sum_small (hv.coefs _ hr) hn
  have h2:=of_decide_eq_true (hv.right _ hr)
  have h3:ab (p.2.getD k rw0).2.2≤1073741824:=ab_le.2 h2
  show 1+ab (p.2.getD k rw0).2.2+sz p.1.length (fun j=>ab ((p.2.getD k rw0).1.getD j 0))≤_
  omega
theorem fits1_ok {l:List Int} {more:Int} (h:∀n ∈ l,inC n=true) (hl:l.length≤12) (hm:inR more=true):program_fits_1 l more=some (1+ab more+sz l.length fun j=>ab (l.getD j 0)):=by
 have hm:=of_decide_eq_true hm
 have hma:ab more≤1073741824:=ab_le.2 hm
 have hma0:=ab_nonneg more
 unfold program_fits_1 program_fits_1_b
 rw[psize_ok (by omega) (by omega),obN]
 have e0:((more.natAbs:Nat):Int)=ab more:=rfl
 refine lpK_seqX l.length (by omega) (fun i=>(1+ab more+sz i (fun j=>ab (l.getD j 0)),(i:Int),PUnit.unit)) _ ?_ (fun again i hi=>?_) (fun again=>?_)
 ·rw[e0,wrap_id (x:=ab more) (by omega) (by omega),wrap_id (by omega) (by omega)]
  simp only[sz,Int.add_zero]
  rfl
 ·have h1:=size_small h i
  have h0:=ab_nonneg (l.getD i 0)
  have h2:=sum_small h (n:=i) (by omega)
  have h3: -1048576≤l.getD i 0∧l.getD i 0≤1048576:=ab_le.1 h1
  have e1:((l.getD i 0).natAbs:Int)=ab (l.getD i 0):=rfl
  simp only[inB_nat,Int.toNat_natCast,decide_eq_true hi,decide_eq_true (show (i:Int)<l.length by omega),cT,psize_ok (show -9223372036854775808≤l.getD i 0 by omega) (by omega),obind_some',e1,succ_wrap (show i≤1000000 by omega)]
  rw[wrap_id (x:=ab (l.getD i 0)) (by omega) (by omega),wrap_id (by omega) (by omega)]
  simp only[sz]
  congr 2
  omega
 ·simp only[decide_eq_false (show ¬ (l.length:Int)<l.length by omega),cF]
theorem max_okP {n:Nat} {f:Nat→Int} (hn:n≤1000):slices_Max_108 (rowL (n+1) f)=some (mx f n):=by
 unfold slices_Max_108 slices_Max_108_b
 simp only[jnK_eq',rowL_len,decide_eq_false (show ¬ ((n+1:Nat):Int)<1 by omega),cF,show inB (0:Int) (n+1)=true from inB_of (by omega) (by omega),cT,rowL_get (show 0<n+1 by omega)]
 refine lpK_seqX n (by omega) (fun i=>(mx f i,((i+1:Nat):Int),PUnit.unit)) _ rfl (fun again i hi=>?_) (fun again=>?_)
 ·simp only[decide_eq_true (show ((i+1:Nat):Int)<(n+1:Nat) by omega),inB_nat,decide_eq_true (show i+1<n+1 by omega),Int.toNat_natCast,cT,rowL_get (show i+1<n+1 by omega),ite_max,succ_wrap (show i+1≤1000000 by omega)]
  rfl
 ·simp only[decide_eq_false (show ¬ ((n+1:Nat):Int)<(n+1:Nat) by omega),cF]
theorem le_div_iff {a b c:Int} (hc:0<c):a≤b / c↔a*c≤b:=Int.le_ediv_iff_mul_le hc
theorem gt_div_iff {a b c:Int} (hc:0<c):a>b / c↔b<a*c:=Int.ediv_lt_iff_lt_mul hc
theorem fits_okP {p:Pg} (hv:ValidP p):program_fits p=some (decide (FitsL (linP p))):=by
 have hm:=hv.rows
 have hn:=hv.cost.2
 unfold program_fits program_fits_b
 rw[fits1_ok hv.cs hn (by decide),obN]
 obtain ⟨f,hf⟩:∃f,f=fac (linP p):=⟨_,rfl⟩
 have hpos:∀i,1≤f i:=fun i=>by rw[hf];exact fac_pos _ i
 have hsm:∀k,k≤p.2.length→f k≤2147483648:=fun k hk=>by rw[hf];exact fac_small hv hk
 have hF:FitsL (linP p)=(pp f (p.2.length+1)≤17592186044416∧pp f (p.2.length+1)*mx f p.2.length≤144115188075855872):=by rw[hf];rfl
 refine lpK_seqX p.2.length (by omega) (fun i=>(rowL (i+1) f,(i:Int),PUnit.unit)) _ ?_ (fun again i hi=>?_) (fun again=>?_)
 ·rw[hf]
  show _=([fac (linP p) 0],(0:Int),PUnit.unit)
  congr 2
 ·have hr:p.2.getD i rw0 ∈ p.2:=by rw[getD_nat hi];exact List.getElem_mem _
  have h1:=fits1_ok (hv.coefs _ hr) (by rw[hv.len _ hr];exact hn) (hv.right _ hr)
  simp only[inB_nat,Int.toNat_natCast,decide_eq_true hi,decide_eq_true (show (i:Int)<p.2.length by omega),cT,h1,obind_some',rowL_len,fitB_of (show (i+1+1)*8≤140737488355328 by omega),succ_wrap (show i≤1000000 by omega)]
  have e:f (i+1)=1+ab (p.2.getD i rw0).2.2+sz (p.2.getD i rw0).1.length (fun j=>ab ((p.2.getD i rw0).1.getD j 0)):=by
   rw[hf,hv.len _ hr]
   rfl
  rw[←e,rowL_snoc]
 ·simp only[decide_eq_false (show ¬ (p.2.length:Int)<p.2.length by omega),cF,rowL_len,max_okP (show p.2.length≤1000 by omega),obind_some']
  have hmx:1≤mx f p.2.length∧mx f p.2.length≤2147483648:=⟨Int.le_trans (hpos 0) (mx_le (by omega)),mx_ub hsm⟩
  have round:∀{R:Type} {a b:Option R} (i:Nat),i<p.2.length+1→(bif nzB (f i) then bif decide (pp f i>IntKind.wrap .i64 (Int.tdiv 17592186044416 (f i))) then a else b else none)=bif decide (pp f (i+1)>17592186044416) then a else b:=fun i hi=>by
   have h1:=hpos i
   have h2:=hsm i (by omega)
   rw[nzB_of (by omega),cond_true,Int.tdiv_eq_ediv_of_nonneg (by omega)]
   have h3:0≤17592186044416 / f i:=Int.ediv_nonneg (by omega) (by omega)
   have h4:17592186044416 / f i≤17592186044416:=Int.ediv_le_self _ (by omega)
   rw[wrap_id (by omega) (by omega),decide_eq_decide.2 (gt_div_iff (a:=pp f i) (show 0<f i by omega))]
   rfl
  rcases first_of (p.2.length+1) (fun i=>decide (pp f (i+1)>17592186044416)) with hnone | ⟨q,hq,hbig,hleast⟩
  ·have hall:∀i,i≤p.2.length+1→pp f i≤17592186044416:=fun i hi=>by
    cases i with
    | zero=>simp[pp]
    | succ i=>have:=of_decide_eq_false (hnone i (by omega));omega
   refine lpK_seqX (p.2.length+1) (by omega) (fun i=>(pp f i,(i:Int),PUnit.unit)) _ rfl (fun again i hi=>?_) (fun again=>?_)
   ·have h2:=hall (i+1) (by omega)
    have h3:=pp_pos hpos (i+1)
    simp only[decide_eq_true (show (i:Int)<(p.2.length+1:Nat) by omega),inB_nat,decide_eq_true hi,Int.toNat_natCast,rowL_get hi,ble_of (show Nat.succ i≤p.2.length+1 from hi),cT,round i hi,hnone i hi,cF,succ_wrap (show i≤1000000 by omega)]
    rw[wrap_id (x:=pp f i*f i) (by simp only[pp] at h2 h3;omega) (by simp only[pp] at h2;omega)]
    rfl
   ·simp only[decide_eq_false (show ¬ ((p.2.length+1:Nat):Int)<(p.2.length+1:Nat) by omega),cF]
    rw[nzB_of (by omega),cond_true,Int.tdiv_eq_ediv_of_nonneg (by omega)]
    have h3:0≤144115188075855872 / mx f p.2.length:=Int.ediv_nonneg (by omega) (by omega)
    have h4:144115188075855872 / mx f p.2.length≤144115188075855872:=Int.ediv_le_self _ (by omega)
    rw[wrap_id (by omega) (by omega)]
    congr 1
    refine decide_eq_decide.2 ?_
    rw[le_div_iff (a:=pp f (p.2.length+1)) (show 0<mx f p.2.length by omega),hF]
    exact ⟨fun h=>⟨hall _ (by omega),h⟩,fun h=>h.2⟩
  ·have hlow:∀i,i≤q→pp f i≤17592186044416:=fun i hi=>by
    cases i with
    | zero=>simp[pp]
    | succ i=>have:=of_decide_eq_false (hleast i (by omega));omega
   refine lpK_seqX q (by omega) (fun i=>(pp f i,(i:Int),PUnit.unit)) _ rfl (fun again i hi=>?_) (fun again=>?_)
   ·have h2:=hlow (i+1) (by omega)
    have h3:=pp_pos hpos (i+1)
    simp only[decide_eq_true (show (i:Int)<(p.2.length+1:Nat) by omega),inB_nat,decide_eq_true (show i<p.2.length+1 by omega),Int.toNat_natCast,rowL_get (show i<p.2.length+1 by omega),ble_of (show Nat.succ i≤p.2.length+1 by omega),cT,round i (by omega),hleast i hi,cF,succ_wrap (show i≤1000000 by omega)]
    rw[wrap_id (x:=pp f i*f i) (by simp only[pp] at h2 h3;omega) (by simp only[pp] at h2;omega)]
    rfl
   ·simp only[decide_eq_true (show (q:Int)<(p.2.length+1:Nat) by omega),inB_nat,decide_eq_true hq,Int.toNat_natCast,rowL_get hq,ble_of (show Nat.succ q≤p.2.length+1 from hq),cT,round q hq,hbig]
    congr 1
    refine (decide_eq_false ?_).symm
    rw[hF]
    rintro ⟨h1,_⟩
    have h2:=of_decide_eq_true hbig
    have h3:=pp_mono hpos (n:=q+1) (k:=p.2.length - q)
    rw[show q+1+(p.2.length - q)=p.2.length+1 by omega] at h3
    omega
theorem bnd_of {p:Pg} (hv:ValidP p) (hf:FitsL (linP p)):Bnd (linP p) (layP p):=by
 obtain ⟨h1,h2⟩:=layP_w hv
 refine ⟨layP_ok hv,by omega,by omega,?_⟩
 rw[←pp_P]
 exact hf.1
theorem fac_fits {p:Pg} (hf:FitsL (linP p)) {k:Nat} (hk:k≤p.2.length):(linP p).F0*(linP p).P*fac (linP p) k≤144115188075855872:=by
 rw[←pp_P]
 have h1:=mx_le (f:=fac (linP p)) hk
 have h2:=pp_pos (fac_pos (linP p)) ((linP p).m+1)
 have h3:=Int.mul_le_mul_of_nonneg_left h1 (show 0≤pp (fac (linP p)) ((linP p).m+1) by omega)
 exact Int.le_trans h3 hf.2
end Go.Proofs.Ytnbbackjofgcfaa

namespace Go.Proofs.Ytnbbackjofgcfaa
open Try Dn Dn.Sh
def layR (p:Pg):Lay:=⟨p.1.length+p.2.length,fun k=>p.1.length+k,fun k=>if (p.2.getD k rw0).2.2<0 then -1 else 1⟩
theorem layR_ok {p:Pg} (hv:ValidP p):(layR p).ok (linP p):=by
 have row:∀k,k<p.2.length→p.2.getD k rw0 ∈ p.2:=fun k hk=>by rw[getD_nat hk];exact List.getElem_mem _
 refine ⟨Nat.le_add_right _ _,fun k hk=>?_,fun k hk h3=>⟨Nat.le_add_right _ _,?_⟩,fun k l hk hl h3 h4 e=>?_,fun k _=>?_,fun k _=>?_⟩
 ·have:=hv.kind _ (row k hk)
  show (p.2.getD k rw0).2.1=1∨(p.2.getD k rw0).2.1=2∨(p.2.getD k rw0).2.1=3
  omega
 ·have hk:k<p.2.length:=hk
  show p.1.length+k<p.1.length+p.2.length
  omega
 ·have e:p.1.length+k=p.1.length+l:=e
  omega
 ·show (if (p.2.getD k rw0).2.2<0 then (-1:Int) else 1)=1∨(if (p.2.getD k rw0).2.2<0 then (-1:Int) else 1)= -1
  split<;>omega
 ·show 0≤(if (p.2.getD k rw0).2.2<0 then (-1:Int) else 1)*(p.2.getD k rw0).2.2
  split<;>omega
def extT (m:Nat) (T:Nat→Nat→Int) (z:Nat→Int):Nat→Nat→Int:=fun i j=>if i=m then z j else T i j
theorem extT_last {m:Nat} {T:Nat→Nat→Int} {z:Nat→Int} {j:Nat}:extT m T z m j=z j:=if_pos rfl
theorem extT_row {m i:Nat} {T:Nat→Nat→Int} {z:Nat→Int} {j:Nat} (h:i<m):extT m T z i j=T i j:=if_neg (by omega)
def midR (T Q:Nat→Nat→Int) (r i j:Nat):Nat→Nat→Int:=fun k l=>if k≠r∧(k<i∨(k=i∧l<j)) then Q k l else T k l
theorem midR_row {T Q:Nat→Nat→Int} {r i j l:Nat}:midR T Q r i j r l=T r l:=if_neg fun h=>h.1 rfl
theorem midR_here {T Q:Nat→Nat→Int} {r i j l:Nat} (h:j≤l):midR T Q r i j i l=T i l:=by
 unfold midR
 rw[if_neg fun h=>by omega]
theorem tdiv_exact {d q:Int} (hd:0<d):Int.tdiv (d*q) d=q:=by
 rw[Int.mul_comm]
 exact Int.mul_tdiv_cancel _ (by omega)
theorem big_prod {x y:Int} (hx:x.natAbs<4294967296) (hy:y.natAbs≤1073741824): -4611686018427387904<x*y∧x*y<4611686018427387904:=by
 have h:(x*y).natAbs<4611686018427387904:=by
  rw[Int.natAbs_mul]
  exact Nat.lt_of_le_of_lt (Nat.mul_le_mul (Nat.le_of_lt_succ (n:=4294967295) hx) hy) (by decide)
 omega
theorem rpivot_ok {m w:Nat} {T Q:Nat→Nat→Int} {d:Int} {bs:List Int} {x3:Int} {r c:Nat} (hm:m≤1000) (hw:w≤1000) (hr:r<m) (hrb:r<bs.length) (hc:c<w) (hd:0<d∧d≤1073741824)
  (hb:∀i j,i<m→j<w→(T i j).natAbs<4294967296) (hbr:∀j,j<w→(T r j).natAbs≤1073741824)
  (hq:∀i j,i<m→i≠r→j<w→d*Q i j=T i j*T r c - T i c*T r j) (hqb:∀i j,i<m→i≠r→j<w→(Q i j).natAbs<4294967296) :
  ref05_pivot (tabL m w T) bs d x3 (r:Int) (c:Int)=some (tabL m w (fun i j=>if i=r then T r j else Q i j),bs.set r (c:Int),T r c,x3,()):=by
 unfold ref05_pivot ref05_pivot_b
 simp only[tabL_len,tabL_idx hr,tab_snd,cell_row hr,rowL_len,rowL_get hc,inB_nat,Int.toNat_natCast,decide_eq_true hr,decide_eq_true hc,decide_eq_true hrb,ble_of (show Nat.succ r≤m from hr),ble_of (show Nat.succ c≤w from hc),ble_of (show Nat.succ r≤bs.length from hrb),cT]
 refine lpK_seqX m (by omega) (fun i=>((i:Int),tabL m w (midR T Q r i 0),PUnit.unit)) _ ?_ (fun again i hi=>?_) (fun again=>?_)
 ·rw[tabL_congr (T:=T) (T':=midR T Q r 0 0) fun k l _ _=>(if_neg fun h=>by omega).symm];rfl
 ·simp only[tabL_len,tabL_idx hi,tab_snd,cell_row hi,rowL_len,rowL_get hc,inB_nat,Int.toNat_natCast,decide_eq_true hi,decide_eq_true hc,decide_eq_true (show (i:Int)<m by omega),ble_of (show Nat.succ i≤m from hi),ble_of (show Nat.succ c≤w from hc),cT,cell_live hi,succ_wrap (show i≤1000000 by omega)]
  by_cases e:i=r
  ·rw[decide_eq_true (show (i:Int)=r by omega),cond_true]
   congr 3
   refine tabL_congr fun k l _ _=>?_
   unfold midR
   by_cases c1:k≠r∧(k<i∨(k=i∧l<0))
   ·rw[if_pos c1,if_pos (by omega)]
   ·rw[if_neg c1,if_neg (by omega)]
  ·rw[decide_eq_false (show ¬ (i:Int)=r by omega),cond_false]
   refine lpK_seqX w (by omega) (fun j=>((j:Int),tabL m w (midR T Q r i j),PUnit.unit)) _ rfl (fun again2 j hj=>?_) (fun again2=>?_)
   ·have p1:=big_prod (hb i j hi hj) (hbr c hc)
    have p2:=big_prod (hb i c hi hc) (hbr j hj)
    have q1:=hqb i j hi e hj
    simp only[tabL_len,tabL_idx hi,tabL_idx hr,tab_snd,cell_live hi,cell_row hi,cell_row hr,rowL_len,rowL_get hc,rowL_get hj,inB_nat,Int.toNat_natCast,decide_eq_true hi,decide_eq_true hj,decide_eq_true hr,decide_eq_true hc,decide_eq_true (show (j:Int)<w by omega),
     ble_of (show Nat.succ i≤m from hi),ble_of (show Nat.succ j≤w from hj),ble_of (show Nat.succ r≤m from hr),cT,midR_row,midR_here (Nat.le_refl j),midR_here (Nat.zero_le c),nzB_of (show d≠0 by omega),succ_wrap (show j≤1000000 by omega)]
    rw[wrap_id (x:=T i j*T r c) (by omega) (by omega),wrap_id (x:=T i c*T r j) (by omega) (by omega),wrap_id (x:=T i j*T r c - T i c*T r j) (by omega) (by omega),←hq i j hi e hj,tdiv_exact hd.1,wrap_id (x:=Q i j) (by omega) (by omega)]
    congr 3
    refine tab_put hi hj fun k l hk hl=>?_
    unfold midR
    by_cases c0:k=i∧l=j
    ·rw[if_pos c0,if_pos (by omega),c0.1,c0.2]
    ·rw[if_neg c0]
     by_cases c1:k≠r∧(k<i∨(k=i∧l<j))
     ·rw[if_pos c1,if_pos (by omega)]
     ·rw[if_neg c1,if_neg (by omega)]
   ·simp only[tabL_len,tabL_idx hi,tab_snd,cell_live hi,cell_row hi,rowL_len,inB_nat,Int.toNat_natCast,decide_eq_true hi,ble_of (show Nat.succ i≤m from hi),cT,decide_eq_false (show ¬ (w:Int)<w by omega),cF]
    congr 3
    refine tabL_congr fun k l hk hl=>?_
    unfold midR
    by_cases c1:k≠r∧(k<i∨(k=i∧l<w))
    ·rw[if_pos c1,if_pos (by omega)]
    ·rw[if_neg c1,if_neg (by omega)]
 ·simp only[tabL_len,decide_eq_false (show ¬ (m:Int)<m by omega),cF]
  congr 2
  refine tabL_congr fun k l hk hl=>?_
  unfold midR
  by_cases c0:k=r
  ·rw[if_neg (by omega),if_pos c0,c0]
  ·rw[if_pos (by omega),if_neg c0]
end Go.Proofs.Ytnbbackjofgcfaa

namespace Go.Proofs.Ytnbbackjofgcfaa
open Try Dn Dn.Sh
structure BndR (L:Lin) (Y:Lay):Prop where
 ok:Y.ok L
 m:L.m≤6
 w:Y.w L≤25
 P:L.F0*L.P≤536870912
section
variable {L:Lin} {Y:Lay}
theorem BndR.P' (h:BndR L Y):L.P≤536870912:=by
 have h1:=L.F0_pos
 have h2:=L.P_pos
 have h3:1*L.P≤L.F0*L.P:=Int.mul_le_mul_of_nonneg_right h1 (by omega)
 have:=h.P
 omega
theorem BndR.tab (h:BndR L Y) {T:Nat→Nat→Int} {d:Int} {β:Nat→Nat} (ht:Tb L.m (Y.w L) (Y.M L) T d β):(0<d∧d≤536870912)∧∀i j,i<L.m→j<Y.w L→(T i j).natAbs≤536870912∧((T i j).natAbs:Int)≤L.P:=by
 obtain ⟨h1,h2⟩:=table_bound h.ok ht
 have h3:=h.P'
 refine ⟨⟨ht.dpos,by omega⟩,fun i j hi hj=>?_⟩
 have:=h2 i j hi hj
 rw[ab_abs] at this
 omega
structure Wc (L:Lin) (Y:Lay) (wc:Nat→Int):Prop where
 small:∀j x,(x.natAbs:Int)≤L.P→ -536870912≤wc j*x∧wc j*x≤536870912
theorem wc_costs (h:BndR L Y):Wc L Y (costs L):=⟨fun j x hx=>by
 have h1:=costs_le (L:=L) j
 have h2:((costs L j*x).natAbs:Int)≤L.F0*L.P:=by
  rw[Int.natAbs_mul,Int.natCast_mul]
  exact Int.mul_le_mul (show ((costs L j).natAbs:Int)≤L.F0 by omega) hx (by omega) (by omega)
 have:=h.P
 omega⟩
def artR (N m j:Nat):Int:=if N≤j∧j<N+m then 1 else 0
theorem wc_arts (h:BndR L Y):Wc L Y (artR Y.N L.m):=⟨fun j x hx=>by
 have:=h.P'
 unfold artR
 split<;>omega⟩
theorem zr_small (h:BndR L Y) {wc:Nat→Int} (hw:Wc L Y wc) {S:Sx} (ht:Tb L.m (Y.w L) (Y.M L) S.T S.d S.β) {j:Nat} (hj:j<Y.w L):(zr L.m wc S j).natAbs<4294967296:=by
 obtain ⟨hd,hb⟩:=h.tab ht
 have h1:=table_bound h.ok ht
 have h2:=hw.small j S.d (by omega)
 have h3:=sz_bound (n:=L.m) (f:=fun i=>wc (S.β i)*S.T i j) (B:=536870912) fun i hi=>hw.small _ _ (hb i j hi hj).2
 have h4:(L.m:Int)*536870912≤6*536870912:=Int.mul_le_mul_of_nonneg_right (by have:=h.m;omega) (by omega)
 unfold zr
 omega
abbrev tabR (L:Lin) (Y:Lay) (wc:Nat→Int) (S:Sx):=tabL (L.m+1) (Y.w L) (extT L.m S.T (zr L.m wc S))
theorem stepS_pos {S:Sx} {r c:Nat} (hp:0<S.T r c):(stepS S r c).d=S.T r c∧∀i j,(stepS S r c).T i j=if i=r then S.T r j else piv S.T S.d r c i j:=by
 have e:sg (S.T r c)=1:=by unfold sg;rw[if_neg (by omega)]
 constructor
 ·show sg (S.T r c)*S.T r c=_
  rw[e,Int.one_mul]
 ·intro i j
  show pivT S.T S.d r c i j=_
  unfold pivT
  rw[e,Int.one_mul]
theorem rstep_ok (h:BndR L Y) {wc:Nat→Int} (hw:Wc L Y wc) {S:Sx} (ht:Tb L.m (Y.w L) (Y.M L) S.T S.d S.β) {x3:Int} {r c:Nat} (hr:r<L.m) (hc:c<Y.w L) (hp:0<S.T r c) :
  ref05_pivot (tabR L Y wc S) (basL L.m S.β) S.d x3 (r:Int) (c:Int)=some (tabR L Y wc (stepS S r c),basL L.m (stepS S r c).β,(stepS S r c).d,x3,()):=by
 obtain ⟨hd,hb⟩:=h.tab ht
 have hm:=h.m
 have hww:=h.w
 obtain ⟨e1,e2⟩:=stepS_pos hp
 have ht':Tb L.m (Y.w L) (Y.M L) (stepS S r c).T (stepS S r c).d (stepS S r c).β:=ht.step hr hc (by omega)
 obtain ⟨_,hb'⟩:=h.tab ht'
 have hz:=fun j (hj:j<Y.w L)=>zr_small h hw ht hj
 have hz':=fun j (hj:j<Y.w L)=>zr_small h hw ht' hj
 have hstep:=stepS_at (m:=L.m) (w:=Y.w L) hp
 rw[rpivot_ok (Q:=extT L.m (stepS S r c).T (zr L.m wc (stepS S r c))) (by omega) (by omega) (show r<L.m+1 by omega) (by rw[basL_len];exact hr) hc ⟨hd.1,by omega⟩ (fun i j hi hj=>?_) (fun j hj=>?_) (fun i j hi hne hj=>?_) (fun i j hi hne hj=>?_)]
 ·rw[basL_set hr,e1,extT_row hr]
  congr 2
  refine tabL_congr fun i j hi hj=>?_
  by_cases e:i=r
  ·rw[if_pos e,e,extT_row hr,extT_row hr,e2,if_pos rfl]
  ·rw[if_neg e]
 ·by_cases e:i=L.m
  ·rw[e,extT_last];exact hz j hj
  ·rw[extT_row (by omega)];have:=(hb i j (by omega) hj).1;omega
 ·rw[extT_row hr];have:=(hb r j hr hj).1;omega
 ·rw[extT_row hr,extT_row hr]
  by_cases e:i=L.m
  ·rw[e,extT_last,extT_last,extT_last,zr_step ht hr hc hj hstep]
   grind
  ·rw[extT_row (by omega),extT_row (by omega),extT_row (by omega),e2,if_neg hne,piv_exact ht hr (show i<L.m by omega) (Ne.symm hne) hc hj]
   grind
 ·by_cases e:i=L.m
  ·rw[e,extT_last];exact hz' j hj
  ·rw[extT_row (by omega)];have:=(hb' i j (by omega) hj).1;omega
abbrev StR:=(List Nat×List (Option (List Int)))×List Int×Int×Int×(List Nat×List (Option (List Int)))×List Int×Int×Int×PUnit
abbrev encR (L:Lin) (Y:Lay) (wc:Nat→Int) (S:Sx):StR:=(tabR L Y wc S,basL L.m S.β,S.d,(Y.N:Int),([],[]),[],0,0,PUnit.unit)
def RunQ (L:Lin) (Y:Lay) (wc:Nat→Int) (K:Sx→Prop) (o:Option ((List Nat×List (Option (List Int)))×List Int×Int×Int×Bool×Unit)):Prop :=
 ∃S' ok,o=some (tabR L Y wc S',basL L.m S'.β,S'.d,(Y.N:Int),ok,PUnit.unit)∧Y.Val L S'∧K S' ∧
  (ok=true→∀j,j<Y.N→0≤zr L.m wc S' j)∧(ok=false→∃q,q<Y.N∧zr L.m wc S' q<0∧∀i,i<L.m→S'.T i q≤0)
theorem leave_loop {m R':Nat} {T:Nat→Nat→Int} {d:Int} {β:Nat→Nat} {c:Nat} {R:Type} {F:(Int×Int×PUnit→Option R)→Int×Int×PUnit→Option R} (Q:Option R→Prop) (hm:m≤1000)
  (h1:∀again (i:Nat) (b:Int),i<m→T i c≤0→F again (b,(i:Int),PUnit.unit)=again (b,((i+1:Nat):Int),PUnit.unit))
  (h2:∀again (i:Nat),i<m→¬ T i c≤0→F again ((-1:Int),(i:Int),PUnit.unit)=again ((i:Int),((i+1:Nat):Int),PUnit.unit))
  (h3:∀again (i r:Nat),i<m→r<m→¬ T i c≤0→0<T r c→F again ((r:Int),(i:Int),PUnit.unit)=again (if T i R'*T r c<T r R'*T i c∨(T i R'*T r c=T r R'*T i c∧β i<β r) then (i:Int) else (r:Int),((i+1:Nat):Int),PUnit.unit))
  (hend:∀again (b:Int),((b= -1∧∀i,i<m→T i c≤0)∨∃r:Nat,b=r∧Dn.Leaves m R' ⟨T,d,β⟩ c r)→Q (F again (b,(m:Int),PUnit.unit))):Q (lpK (Int×Int×PUnit) R F ((-1:Int),(0:Int),PUnit.unit)):=by
 refine lpK_inv Q m (by omega) (fun i (x:Int×Int×PUnit)=>∃b,x=(b,(i:Int),PUnit.unit)∧((b= -1∧∀k,k<i→T k c≤0)∨∃r:Nat,b=r∧Dn.Leaves i R' ⟨T,d,β⟩ c r)) ⟨-1,rfl,.inl ⟨rfl,fun k hk=>by omega⟩⟩ ?_ ?_
 ·rintro again i _ hlt ⟨b,rfl,hI⟩
  have ext:∀r,Dn.Leaves i R' ⟨T,d,β⟩ c r→(0<T i c→T r R'*T i c≤T i R'*T r c∧(T r R'*T i c=T i R'*T r c→β r≤β i))→Dn.Leaves (i+1) R' ⟨T,d,β⟩ c r:=fun r h hn=>by
   refine ⟨by have:=h.lt;omega,h.pos,fun k hk hp=>?_,fun k hk hp he=>?_⟩
   ·by_cases e:k=i
    ·subst e;exact (hn hp).1
    ·exact h.le k (by omega) hp
   ·by_cases e:k=i
    ·subst e;exact (hn hp).2 he
    ·exact h.tie k (by omega) hp he
  by_cases hpos:T i c≤0
  ·refine ⟨_,⟨b,rfl,?_⟩,h1 again i b hlt hpos⟩
   rcases hI with ⟨e1,e2⟩ | ⟨r,e1,e2⟩
   ·refine .inl ⟨e1,fun k hk=>?_⟩
    by_cases e:k=i
    ·rw[e];exact hpos
    ·exact e2 k (by omega)
   ·exact .inr ⟨r,e1,ext r e2 fun h=>by omega⟩
  ·rcases hI with ⟨e1,e2⟩ | ⟨r,e1,e2⟩
   ·subst e1
    refine ⟨_,⟨_,rfl,.inr ⟨i,rfl,⟨by omega,show 0<T i c by omega,fun k hk hp=>?_,fun k hk hp _=>?_⟩⟩⟩,h2 again i hlt hpos⟩
    ·by_cases e:k=i
     ·subst e;exact Int.le_refl _
     ·have h3:=e2 k (by omega)
      have hp:0<T k c:=hp
      omega
    ·by_cases e:k=i
     ·subst e;exact Nat.le_refl _
     ·have h3:=e2 k (by omega)
      have hp:0<T k c:=hp
      omega
   ·subst e1
    have hpr:0<T r c:=e2.pos
    have hr:r<m:=by have:=e2.lt;omega
    refine ⟨_,⟨_,rfl,.inr ?_⟩,h3 again i r hlt hr hpos hpr⟩
    by_cases hq:T i R'*T r c<T r R'*T i c∨(T i R'*T r c=T r R'*T i c∧β i<β r)
    ·rw[if_pos hq]
     have hle:T i R'*T r c≤T r R'*T i c:=by rcases hq with h | h<;>omega
     have hpi:0<T i c:=by omega
     refine ⟨i,rfl,⟨by omega,hpi,fun k hk hp=>?_,fun k hk hp he=>?_⟩⟩
     ·have hp:0<T k c:=hp
      by_cases e:k=i
      ·subst e;exact Int.le_refl _
      ·exact frac_trans hpi hpr hp hle (e2.le k (by omega) hp)
     ·have hp:0<T k c:=hp
      have he:T i R'*T k c=T k R'*T i c:=he
      by_cases e:k=i
      ·subst e;exact Nat.le_refl _
      ·obtain ⟨_,t2⟩:=frac_tie hpi hpr hp hle (e2.le k (by omega) hp) he
       have h3:β r≤β k:=e2.tie k (by omega) hp t2
       show β i≤β k
       rcases hq with h | h<;>omega
    ·rw[if_neg hq]
     have h3:=fun h=>hq (.inl h)
     refine ⟨r,rfl,ext r e2 fun hp=>⟨by omega,fun he=>?_⟩⟩
     have h4:=fun h=>hq (.inr ⟨he.symm,h⟩)
     omega
 ·rintro again _ ⟨b,rfl,hI⟩
  exact hend again b hI
theorem rrun_ok (h:BndR L Y) {wc:Nat→Int} (hw:Wc L Y wc) {K:Sx→Prop} (hK:∀S r c,K S→r<L.m→c<Y.N→K (stepS S r c)) {S:Sx} (hv:Y.Val L S) (hk:K S) :
  RunQ L Y wc K (ref05_run (tabR L Y wc S) (basL L.m S.β) S.d (Y.N:Int)):=by
 have hm:=h.m
 have hww:=h.w
 have hN:Y.N≤Y.R L:=by unfold Lay.R;omega
 have hRw:Y.R L<Y.w L:=by unfold Lay.R Lay.w;omega
 have hpow:(Y.w L) ^ L.m≤1180591620717411303424:=Nat.le_trans (Nat.pow_le_pow_left (show _≤64 by omega) _) (Nat.le_trans (Nat.pow_le_pow_right (by omega) hm) (by decide))
 have hi:∀e0:Bool,(!e0||e0)=true:=fun e0=>by cases e0<;>rfl
 unfold ref05_run ref05_run_b
 refine lpK_exR (γ:=Sx) (I:=fun (S:Sx) x=>x=encR L Y wc S∧Y.Val L S∧K S) (Q:=RunQ L Y wc K) (μ:=fun S=>left L.m (Y.w L) Y.N (Y.R L) (Y.M L) wc S) ?_ (s:=S) ⟨rfl,hv,hk⟩ (Nat.lt_of_lt_of_le (left_lt (by unfold Lay.w;omega) S) hpow)
 rintro rec S _ ⟨rfl,hv,hk⟩
 obtain ⟨hd,hb⟩:=h.tab hv.tb
 have hlast:IntKind.wrap .i64 (((L.m+1:Nat):Int) - 1)=((L.m:Nat):Int):=by rw[wrap_id (by omega) (by omega)];omega
 have hright:IntKind.wrap .i64 (((Y.w L:Nat):Int) - 1)=((Y.R L:Nat):Int):=by rw[wrap_id (by omega) (by omega)];unfold Lay.w Lay.R;omega
 have hg:∀j,j<Y.N→(rowL (Y.w L) (extT L.m S.T (zr L.m wc S) L.m)).getD j 0=zr L.m wc S j:=fun j hj=>by rw[rowL_get (by omega),extT_last]
 rcases first_of Y.N (fun j=>decide (zr L.m wc S j<0)) with hnone | ⟨q,hq,hneg,hleast⟩
 ·refine lpK_seqQ (fun o=>RunQ L Y wc K o∨∃(s':Sx) (y:StR),(y=encR L Y wc s'∧Y.Val L s'∧K s')∧left L.m (Y.w L) Y.N (Y.R L) (Y.M L) wc s'<left L.m (Y.w L) Y.N (Y.R L) (Y.M L) wc S∧o=rec y) Y.N (by omega) (fun j=>((j:Int),PUnit.unit)) rfl (fun again j hj=>?_) (fun again=>?_)
  ·have h0:=of_decide_eq_false (hnone j hj)
   have hjw:j<Y.w L:=by omega
   simp only[encR,tabL_len,hlast,decide_eq_true (show (j:Int)<Y.N by omega),inB_nat,Int.toNat_natCast,decide_eq_true (show L.m<L.m+1 by omega),ble_of (show Nat.succ L.m≤L.m+1 by omega),tabL_idx (show L.m<L.m+1 by omega),tab_snd,cell_row (show L.m<L.m+1 by omega),rowL_len,decide_eq_true hjw,ble_of (show Nat.succ j≤Y.w L from hjw),hg j hj,decide_eq_true (show zr L.m wc S j≥0 by omega),Bool.not_true,Bool.false_or,Bool.true_and,cT,succ_wrap (show j≤1000000 by omega)]
  ·left
   simp only[encR,decide_eq_false (show ¬ (Y.N:Int)<Y.N by omega),Bool.not_false,Bool.true_or,Bool.true_and,cT,cF,decide_true]
   exact ⟨S,true,rfl,hv,hk,fun _ j hj=>by have:=of_decide_eq_false (hnone j hj);omega,fun e=>by cases e⟩
 ·have hneg:=of_decide_eq_true hneg
  have hqw:q<Y.w L:=by omega
  have hent:Enters L.m Y.N wc S q:=⟨hq,hneg,fun j hj=>by have:=of_decide_eq_false (hleast j hj);omega⟩
  refine lpK_seqQ (fun o=>RunQ L Y wc K o∨∃(s':Sx) (y:StR),(y=encR L Y wc s'∧Y.Val L s'∧K s')∧left L.m (Y.w L) Y.N (Y.R L) (Y.M L) wc s'<left L.m (Y.w L) Y.N (Y.R L) (Y.M L) wc S∧o=rec y) q (by omega) (fun j=>((j:Int),PUnit.unit)) rfl (fun again j hj=>?_) (fun again=>?_)
  ·have h0:=of_decide_eq_false (hleast j hj)
   have hjw:j<Y.w L:=by omega
   simp only[encR,tabL_len,hlast,decide_eq_true (show (j:Int)<Y.N by omega),inB_nat,Int.toNat_natCast,decide_eq_true (show L.m<L.m+1 by omega),ble_of (show Nat.succ L.m≤L.m+1 by omega),tabL_idx (show L.m<L.m+1 by omega),tab_snd,cell_row (show L.m<L.m+1 by omega),rowL_len,decide_eq_true hjw,ble_of (show Nat.succ j≤Y.w L from hjw),hg j (by omega),decide_eq_true (show zr L.m wc S j≥0 by omega),Bool.not_true,Bool.false_or,Bool.true_and,cT,succ_wrap (show j≤1000000 by omega)]
  ·simp only[encR,tabL_len,hlast,decide_eq_true (show (q:Int)<Y.N by omega),inB_nat,Int.toNat_natCast,decide_eq_true (show L.m<L.m+1 by omega),ble_of (show Nat.succ L.m≤L.m+1 by omega),tabL_idx (show L.m<L.m+1 by omega),tab_snd,cell_row (show L.m<L.m+1 by omega),rowL_len,decide_eq_true hqw,ble_of (show Nat.succ q≤Y.w L from hqw),hg q hq,decide_eq_false (show ¬ zr L.m wc S q≥0 by omega),Bool.not_true,Bool.false_or,Bool.true_and,cT,cF,decide_eq_false (show ¬ (q:Int)=Y.N by omega),show inB (0:Int) (L.m+1)=true from inB_of (by omega) (by omega),ble_of (show 1≤L.m+1 by omega),tabL_idx (show 0<L.m+1 by omega),cell_live (show 0<L.m+1 by omega),cell_row (show 0<L.m+1 by omega),hright]
   refine leave_loop (m:=L.m) (R':=Y.R L) (T:=S.T) (d:=S.d) (β:=S.β) (c:=q) (fun o=>RunQ L Y wc K o∨∃(s':Sx) (y:StR),(y=encR L Y wc s'∧Y.Val L s'∧K s')∧left L.m (Y.w L) Y.N (Y.R L) (Y.M L) wc s'<left L.m (Y.w L) Y.N (Y.R L) (Y.M L) wc S∧o=rec y) (by omega) (fun again2 i b hi' hle=>?_) (fun again2 i hi' hle=>?_) (fun again2 i r hi' hr' hle hpr=>?_) (fun again2 b hres=>?_)
   ·simp only[decide_eq_true (show (i:Int)<L.m by omega),inB_nat,Int.toNat_natCast,decide_eq_true (show i<L.m+1 by omega),ble_of (show Nat.succ i≤L.m+1 by omega),tabL_idx (show i<L.m+1 by omega),cell_row (show i<L.m+1 by omega),rowL_len,decide_eq_true hqw,ble_of (show Nat.succ q≤Y.w L from hqw),rowL_get hqw,extT_row hi',decide_eq_true hle,cT,succ_wrap (show i≤1000000 by omega)]
   ·simp only[decide_eq_true (show (i:Int)<L.m by omega),inB_nat,Int.toNat_natCast,decide_eq_true (show i<L.m+1 by omega),ble_of (show Nat.succ i≤L.m+1 by omega),tabL_idx (show i<L.m+1 by omega),cell_row (show i<L.m+1 by omega),rowL_len,decide_eq_true hqw,ble_of (show Nat.succ q≤Y.w L from hqw),rowL_get hqw,extT_row hi',decide_eq_false hle,show decide ((-1:Int)<0)=true from rfl,cT,cF,succ_wrap (show i≤1000000 by omega)]
   ·have b1:=big_prod (x:=S.T i (Y.R L)) (y:=S.T r q) (by have:=(hb i _ hi' hRw).1;omega) (by have:=(hb r _ hr' hqw).1;omega)
    have b2:=big_prod (x:=S.T r (Y.R L)) (y:=S.T i q) (by have:=(hb r _ hr' hRw).1;omega) (by have:=(hb i _ hi' hqw).1;omega)
    simp only[decide_eq_true (show (i:Int)<L.m by omega),inB_nat,Int.toNat_natCast,decide_eq_true (show i<L.m+1 by omega),decide_eq_true (show r<L.m+1 by omega),ble_of (show Nat.succ i≤L.m+1 by omega),ble_of (show Nat.succ r≤L.m+1 by omega),tabL_idx (show i<L.m+1 by omega),tabL_idx (show r<L.m+1 by omega),cell_row (show i<L.m+1 by omega),cell_row (show r<L.m+1 by omega),rowL_len,decide_eq_true hqw,decide_eq_true hRw,ble_of (show Nat.succ q≤Y.w L from hqw),ble_of (show Nat.succ (Y.R L)≤Y.w L from hRw),rowL_get hqw,rowL_get hRw,extT_row hi',extT_row hr',decide_eq_false hle,decide_eq_false (show ¬ (r:Int)<0 by omega),cT,cF,succ_wrap (show i≤1000000 by omega),basL_len,decide_eq_true hi',decide_eq_true hr',ble_of (show Nat.succ i≤L.m from hi'),ble_of (show Nat.succ r≤L.m from hr'),basL_get hi',basL_get hr',wrap_id (x:=S.T i (Y.R L)*S.T r q) (by omega) (by omega),wrap_id (x:=S.T r (Y.R L)*S.T i q) (by omega) (by omega),Bool.or_true,Bool.and_true]
    by_cases c1:S.T i (Y.R L)*S.T r q<S.T r (Y.R L)*S.T i q
    ·rw[if_pos (.inl c1),decide_eq_true c1]
     generalize decide (S.T i (Y.R L)*S.T r q=S.T r (Y.R L)*S.T i q)=bb
     generalize decide ((S.β i:Int)<S.β r)=b2
     cases bb<;>cases b2<;>rfl
    ·rw[decide_eq_false c1]
     by_cases c2:S.T i (Y.R L)*S.T r q=S.T r (Y.R L)*S.T i q
     ·rw[decide_eq_true c2]
      by_cases c3:S.β i<S.β r
      ·rw[if_pos (.inr ⟨c2,c3⟩),decide_eq_true (show (S.β i:Int)<S.β r by omega)]
       rfl
      ·rw[if_neg (by rintro (h | h)<;>omega),decide_eq_false (show ¬ (S.β i:Int)<S.β r by omega)]
       rfl
     ·rw[decide_eq_false c2,if_neg (by rintro (h | h)<;>omega)]
      generalize decide ((S.β i:Int)<S.β r)=b2
      cases b2<;>rfl
   ·simp only[decide_eq_false (show ¬ (L.m:Int)<L.m by omega),cF]
    rcases hres with ⟨e,hno⟩ | ⟨r,e,hlv⟩
    ·subst e
     left
     simp only[show decide ((-1:Int)<0)=true from rfl,cT]
     exact ⟨S,false,rfl,hv,hk,fun e=>(by cases e),fun _=>⟨q,hq,hneg,hno⟩⟩
    ·subst e
     right
     have hpr:0<S.T r q:=hlv.pos
     have hr:=hlv.lt
     have hs:=stepS_at (m:=L.m) (w:=Y.w L) hpr
     simp only[decide_eq_false (show ¬ (r:Int)<0 by omega),cF]
     rw[rstep_ok h hw hv.tb hr hqw hpr]
     exact ⟨stepS S r q,_,⟨rfl,hv.stepAt hRw hqw (by omega) hlv hs,hK S r q hk hr hq⟩,left_step (Lay.art h.ok).1 (Lay.art h.ok).2 hN hRw hv ⟨hent,hlv,hs⟩,rfl⟩
end
end Go.Proofs.Ytnbbackjofgcfaa

namespace Go.Proofs.Ytnbbackjofgcfaa
open Try Dn Dn.Sh
section
variable {L:Lin} {Y:Lay}
theorem zr_stepS {m w:Nat} {M:Nat→Nat→Int} {wc:Nat→Int} {S:Sx} (h:Tb m w M S.T S.d S.β) {r c j:Nat} (hr:r<m) (hc:c<w) (hj:j<w):S.d*zr m wc (stepS S r c) j=sg (S.T r c)*(S.T r c*zr m wc S j - zr m wc S c*S.T r j):=by
 have h1:=zr_step (wc:=wc) (S':=⟨fun i j=>if i=r then S.T r j else piv S.T S.d r c i j,S.T r c,upd S.β r c⟩) h hr hc hj ⟨fun _ _ _ _=>rfl,rfl,fun _ _=>rfl⟩
 have h2:zr m wc (stepS S r c) j=sg (S.T r c)*zr m wc ⟨fun i j=>if i=r then S.T r j else piv S.T S.d r c i j,S.T r c,upd S.β r c⟩ j:=by
  unfold zr
  rw[Int.mul_sub,←sz_mul]
  have e:∀i,wc ((stepS S r c).β i)*(stepS S r c).T i j=sg (S.T r c)*(wc (upd S.β r c i)*if i=r then S.T r j else piv S.T S.d r c i j):=fun i=>by
   show wc (upd S.β r c i)*(sg (S.T r c)*if i=r then S.T r j else piv S.T S.d r c i j)=_
   grind
  rw[sz_congr fun i _=>e i]
  show wc j*(sg (S.T r c)*S.T r c) - _=_
  grind
 rw[h2,←h1]
 grind
def negT (T:Nat→Nat→Int) (r w:Nat):Nat→Nat→Int:=fun i j=>if i=r∧j<w then - T i j else T i j
theorem negT_row {T:Nat→Nat→Int} {r w j:Nat} (hj:j<w):negT T r w r j= - T r j:=if_pos ⟨rfl,hj⟩
theorem negT_ne {T:Nat→Nat→Int} {r w i j:Nat} (h:i≠r):negT T r w i j=T i j:=if_neg fun e=>h e.1
theorem rneg_ok (h:BndR L Y) {wc:Nat→Int} (hw:Wc L Y wc) {S:Sx} (ht:Tb L.m (Y.w L) (Y.M L) S.T S.d S.β) {x3:Int} {r c:Nat} (hr:r<L.m) (hc:c<Y.w L) (hp:S.T r c<0) :
  ref05_pivot (tabL (L.m+1) (Y.w L) (negT (extT L.m S.T (zr L.m wc S)) r (Y.w L))) (basL L.m S.β) S.d x3 (r:Int) (c:Int)=some (tabR L Y wc (stepS S r c),basL L.m (stepS S r c).β,(stepS S r c).d,x3,()):=by
 obtain ⟨hd,hb⟩:=h.tab ht
 have hm:=h.m
 have hww:=h.w
 have es:sg (S.T r c)= -1:=by unfold sg;rw[if_pos hp]
 have e2:∀i j,(stepS S r c).T i j= -1*(if i=r then S.T r j else piv S.T S.d r c i j):=fun i j=>by
  show sg (S.T r c)*(if i=r then S.T r j else piv S.T S.d r c i j)=_
  rw[es]
 have ed:(stepS S r c).d= - S.T r c:=by
  show sg (S.T r c)*S.T r c=_
  rw[es];omega
 have ht':Tb L.m (Y.w L) (Y.M L) (stepS S r c).T (stepS S r c).d (stepS S r c).β:=ht.step hr hc (by omega)
 obtain ⟨_,hb'⟩:=h.tab ht'
 have hz:=fun j (hj:j<Y.w L)=>zr_small h hw ht hj
 have hz':=fun j (hj:j<Y.w L)=>zr_small h hw ht' hj
 have hrm:r≠L.m:=by omega
 rw[rpivot_ok (Q:=extT L.m (stepS S r c).T (zr L.m wc (stepS S r c))) (by omega) (by omega) (show r<L.m+1 by omega) (by rw[basL_len];exact hr) hc ⟨hd.1,by omega⟩ (fun i j hi hj=>?_) (fun j hj=>?_) (fun i j hi hne hj=>?_) (fun i j hi hne hj=>?_)]
 ·rw[basL_set hr,ed,negT_row hc,extT_row hr]
  congr 2
  refine tabL_congr fun i j hi hj=>?_
  by_cases e:i=r
  ·rw[if_pos e,e,negT_row hj,extT_row hr,extT_row hr,e2,if_pos rfl];omega
  ·rw[if_neg e]
 ·by_cases e:i=r
  ·rw[e,negT_row hj,extT_row hr];have:=(hb r j hr hj).1;omega
  ·rw[negT_ne e]
   by_cases e:i=L.m
   ·rw[e,extT_last];exact hz j hj
   ·rw[extT_row (by omega)];have:=(hb i j (by omega) hj).1;omega
 ·rw[negT_row hj,extT_row hr];have:=(hb r j hr hj).1;omega
 ·rw[negT_row hc,negT_row hj,negT_ne hne,negT_ne hne,extT_row hr,extT_row hr]
  by_cases e:i=L.m
  ·rw[e,extT_last,extT_last,extT_last,zr_stepS ht hr hc hj,es]
   grind
  ·have:=piv_exact ht hr (show i<L.m by omega) (Ne.symm hne) hc hj
   rw[extT_row (by omega),extT_row (by omega),extT_row (by omega),e2,if_neg hne]
   grind
 ·by_cases e:i=L.m
  ·rw[e,extT_last];exact hz' j hj
  ·rw[extT_row (by omega)];have:=(hb' i j (by omega) hj).1;omega
theorem Swp.next {i:Nat} {S:Sx} (h:Swp L Y i S) (hr:Y.N≤S.β i→∀j,j<Y.N→S.T i j=0):Swp L Y (i+1) S :=
 ⟨h.val,h.right,fun k hk hlt hb j hj=>by
  by_cases e:k=i
  ·subst e;exact hr hb j hj
  ·exact h.rows k hk (by omega) hb j hj⟩
abbrev StO:=Int×(List Nat×List (Option (List Int)))×List Int×Int×Int×PUnit
def OutQ (L:Lin) (Y:Lay) (wc:Nat→Int) (o:Option ((List Nat×List (Option (List Int)))×List Int×Int×Int×Unit)):Prop :=
 ∃S',o=some (tabR L Y wc S',basL L.m S'.β,S'.d,(Y.N:Int),PUnit.unit)∧Y.Val L S'∧AZ L Y S'
theorem rout_ok (h:BndR L Y) {wc:Nat→Int} (hw:Wc L Y wc) {S:Sx} (hS:Swp L Y 0 S):OutQ L Y wc (ref05_out (tabR L Y wc S) (basL L.m S.β) S.d (Y.N:Int)):=by
 have hm:=h.m
 have hww:=h.w
 have hNw:Y.N≤Y.w L:=by unfold Lay.w;omega
 have hi:∀e0:Bool,(!e0||e0)=true:=fun e0=>by cases e0<;>rfl
 unfold ref05_out ref05_out_b
 refine lpK_inv (OutQ L Y wc) L.m (by omega) (fun i (x:StO)=>∃S,x=((i:Int),tabR L Y wc S,basL L.m S.β,S.d,(Y.N:Int),PUnit.unit)∧Swp L Y i S) ⟨S,rfl,hS⟩ ?_ ?_
 ·rintro again i _ hlt ⟨S,rfl,hS⟩
  have him:i<L.m+1:=by omega
  obtain ⟨hd,hb⟩:=h.tab hS.val.tb
  have fin:∀{o},(∃S',Swp L Y (i+1) S'∧o=again (((i+1:Nat):Int),tabR L Y wc S',basL L.m S'.β,S'.d,(Y.N:Int),PUnit.unit))→∃(y:StO),(∃S,y=(((i+1:Nat):Int),tabR L Y wc S,basL L.m S.β,S.d,(Y.N:Int),PUnit.unit)∧Swp L Y (i+1) S)∧o=again y:=by
   rintro o ⟨S',h1,h2⟩
   exact ⟨_,⟨S',rfl,h1⟩,h2⟩
  simp only[basL_len,decide_eq_true (show (i:Int)<L.m by omega),inB_nat,Int.toNat_natCast,decide_eq_true hlt,ble_of (show Nat.succ i≤L.m from hlt),basL_get hlt,cT,tabL_len,decide_eq_true him,ble_of (show Nat.succ i≤L.m+1 from him),tabL_idx him,tab_snd,cell_row him,rowL_len,succ_wrap (show i≤1000000 by omega)]
  by_cases hbas:S.β i<Y.N
  ·rw[decide_eq_true (show (S.β i:Int)<Y.N by omega)]
   simp only[cT]
   exact fin ⟨S,hS.next fun h=>by omega,rfl⟩
  ·rw[decide_eq_false (show ¬ (S.β i:Int)<Y.N by omega)]
   simp only[cF]
   have hg:∀j,j<Y.N→(rowL (Y.w L) (extT L.m S.T (zr L.m wc S) i)).getD j 0=S.T i j:=fun j hj=>by rw[rowL_get (by omega),extT_row hlt]
   rcases first_of Y.N (fun j=>decide (S.T i j≠0)) with hnone | ⟨q,hq,hne,hleast⟩
   ·refine fin ⟨S,hS.next fun _ j hj=>by simpa using of_decide_eq_false (hnone j hj),?_⟩
    refine lpK_seqX Y.N (by omega) (fun j=>((j:Int),PUnit.unit)) _ rfl (fun again2 j hj=>?_) (fun again2=>?_)
    ·have h0:S.T i j=0:=by simpa using of_decide_eq_false (hnone j hj)
     have hjw:j<Y.w L:=by omega
     simp only[decide_eq_true (show (j:Int)<Y.N by omega),inB_nat,decide_eq_true hjw,Int.toNat_natCast,ble_of (show Nat.succ j≤Y.w L from hjw),hg j hj,decide_eq_true h0,Bool.not_true,Bool.false_or,Bool.true_and,cT,succ_wrap (show j≤1000000 by omega)]
    ·simp only[decide_eq_false (show ¬ (Y.N:Int)<Y.N by omega),Bool.not_false,Bool.true_or,Bool.true_and,cT,cF,decide_true]
   ·have hne:=of_decide_eq_true hne
    have hqw:q<Y.w L:=by omega
    have hst:=hS.step hlt hq (by omega) hne
    have hbi:(stepS S i q).β i=q:=by
     show upd S.β i q i=_
     unfold upd
     rw[if_pos rfl]
    refine fin ⟨stepS S i q,hst.next fun h=>by omega,?_⟩
    refine lpK_seqX q (by omega) (fun j=>((j:Int),PUnit.unit)) _ rfl (fun again2 j hj=>?_) (fun again2=>?_)
    ·have h0:S.T i j=0:=by simpa using of_decide_eq_false (hleast j hj)
     have hjw:j<Y.w L:=by omega
     simp only[decide_eq_true (show (j:Int)<Y.N by omega),inB_nat,decide_eq_true hjw,Int.toNat_natCast,ble_of (show Nat.succ j≤Y.w L from hjw),hg j (by omega),decide_eq_true h0,Bool.not_true,Bool.false_or,Bool.true_and,cT,succ_wrap (show j≤1000000 by omega)]
    ·simp only[decide_eq_true (show (q:Int)<Y.N by omega),inB_nat,decide_eq_true hqw,Int.toNat_natCast,ble_of (show Nat.succ q≤Y.w L from hqw),hg q hq,decide_eq_false hne,Bool.not_true,Bool.false_or,Bool.true_and,cT,cF,decide_eq_false (show ¬ (q:Int)=Y.N by omega)]
     by_cases hneg:S.T i q<0
     ·rw[decide_eq_true hneg]
      simp only[cT]
      refine lpK_seqX (Y.w L) (by omega) (fun l=>((l:Int),tabL (L.m+1) (Y.w L) (negT (extT L.m S.T (zr L.m wc S)) i l),PUnit.unit)) _ ?_ (fun again3 l hl=>?_) (fun again3=>?_)
      ·unfold tabR
       rw[tabL_congr (T:=extT L.m S.T (zr L.m wc S)) (T':=negT (extT L.m S.T (zr L.m wc S)) i 0) fun k l _ _=>(if_neg fun h=>by omega).symm];rfl
      ·have hbl:=(hb i l hlt hl).1
       have e0:negT (extT L.m S.T (zr L.m wc S)) i l i l=S.T i l:=by
        unfold negT
        rw[if_neg (by omega),extT_row hlt]
       simp only[tabL_len,tabL_idx him,tab_snd,cell_live him,cell_row him,rowL_len,rowL_get hl,inB_nat,Int.toNat_natCast,decide_eq_true him,decide_eq_true hl,decide_eq_true (show (l:Int)<Y.w L by omega),ble_of (show Nat.succ i≤L.m+1 from him),ble_of (show Nat.succ l≤Y.w L from hl),cT,e0,wrap_id (show -9223372036854775808≤0 - S.T i l by omega) (by omega),succ_wrap (show l≤1000000 by omega)]
       congr 3
       refine tab_put him hl fun k l' _ _=>?_
       unfold negT
       by_cases c0:k=i∧l'=l
       ·rw[if_pos c0,if_pos (by omega),c0.1,c0.2,extT_row hlt];omega
       ·rw[if_neg c0]
        by_cases c1:k=i∧l'<l
        ·rw[if_pos c1,if_pos (by omega)]
        ·rw[if_neg c1,if_neg (by omega)]
      ·simp only[tabL_len,tabL_idx him,tab_snd,cell_live him,cell_row him,rowL_len,inB_nat,Int.toNat_natCast,decide_eq_true him,ble_of (show Nat.succ i≤L.m+1 from him),cT,decide_eq_false (show ¬ (Y.w L:Int)<Y.w L by omega),cF]
       rw[rneg_ok h hw hS.val.tb hlt hqw hneg]
       rfl
     ·rw[decide_eq_false hneg]
      simp only[cF]
      rw[rstep_ok h hw hS.val.tb hlt hqw (by omega)]
      rfl
 ·rintro again _ ⟨S,rfl,hS⟩
  simp only[basL_len,decide_eq_false (show ¬ (L.m:Int)<L.m by omega),cF]
  exact ⟨S,rfl,hS.val,fun k hk hN=>⟨hS.rows k hk hk hN,hS.right k hk hN⟩⟩
end
end Go.Proofs.Ytnbbackjofgcfaa

namespace Go.Proofs.Ytnbbackjofgcfaa
open Try Dn Dn.Sh
theorem costAt_eq {p:Pg} (j:Nat):costAt p.1 j=costs (linP p) j:=by
 unfold costs costAt
 by_cases h:j<(linP p).n
 ·rw[if_pos h];rfl
 ·rw[if_neg h,List.getD_eq_getElem?_getD,List.getElem?_eq_none (Nat.not_lt.1 h)];rfl
theorem fitsDivQ {n d:Int} (hd:d≠0) (hn:n.natAbs≤1152921504606846976) (hd2:d.natAbs≤1152921504606846976):fitQ (divQ n d)=(prQ ((n:Rat) / d),0,()):=by
 obtain ⟨m1,m2,m3⟩:=mkQ_div (s:=decide (n<0) !=decide (d<0)) (n:=n.natAbs) (d:=d.natAbs) (by omega)
 obtain ⟨m4,m5⟩:=mkQ_low (s:=decide (n<0) !=decide (d<0)) m2 m3
 have hf:fitsQ (divQ n d):=by
  unfold fitsQ divQ
  rw[m1,m4,m5]
  have a1:n.natAbs / Nat.gcd n.natAbs d.natAbs≤n.natAbs:=Nat.div_le_self _ _
  have a2:d.natAbs / Nat.gcd n.natAbs d.natAbs≤d.natAbs:=Nat.div_le_self _ _
  refine ⟨?_,by rw[←m5] at *;omega⟩
  unfold sgn
  generalize n.natAbs / Nat.gcd n.natAbs d.natAbs=p at *
  split<;>omega
 unfold fitQ
 rw[if_pos hf,divQ_eq hd]
theorem fitsDiv {n d:Int} (hd:d≠0) (hn:n.natAbs≤1152921504606846976) (hd2:d.natAbs≤1152921504606846976):fitsQ ((n:Rat) / d):=by
 have h:=fitsDivQ hd hn hd2
 rw[divQ_eq hd] at h
 rcases fitQ_cases ((n:Rat) / d) with ⟨h1,_⟩ | ⟨_,h2⟩
 ·exact h1
 ·rw[h2] at h
  exact absurd (show (5:Int)=0 from congrArg (fun x:Fq×Int×Unit=>x.2.1) h) (by decide)
theorem part_ok {M:List (List Int)} {d n:Int} {x2 x3 cs:List Int} {x5 x6:Int} (hd:0<d∧d≤17592186044416) (hn:n.natAbs≤1152921504606846976):program_table_part (M,d,x2,x3,cs,x5,x6) n=some (prQ ((n:Rat) / (d:Rat))):=by
 simp only[program_table_part,program_table_part_b,Make_ok (show -9223372036854775808≤n by omega) (by omega) (show -9223372036854775808≤d by omega) (by omega),obind_some',if_neg (show ¬ d=0 by omega)]
 rw[divQ_eq (by omega)]
 unfold fitQ
 rw[if_pos (fitsDiv (by omega) hn (by omega))]
theorem rep_row {n:Nat}:List.replicate n (0:Int)=rowL n fun _=>0:=by
 refine List.ext_getElem (by rw[rowL_len];simp) fun i h1 h2=>?_
 rw[rowL_at,List.getElem_replicate]
theorem sig_abs {p:Pg} (k:Nat) (x:Int):((layP p).σ k*x).natAbs=x.natAbs:=by
 show ((if (p.2.getD k rw0).2.2<0 then (-1:Int) else 1)*x).natAbs=_
 split<;>omega
theorem tab_all' {m w:Nat} {T:Nat→Nat→Int}:((tabL m w T).1.all fun x=>liveB (cellL m w T) x)=true:=tab_all
theorem tab_map' {m w:Nat} {T:Nat→Nat→Int}:(tabL m w T).1.map (fun x=>rowD (cellL m w T) x)=matL m w T:=tab_map
noncomputable abbrev xL (p:Pg) (S:Sx):List Fq:=rowL p.1.length fun j=>prQ (xval (linP p).m ((layP p).R (linP p)) S j)
noncomputable abbrev yL (p:Pg) (wc:Nat→Int) (S:Sx):List Fq:=rowL p.2.length fun k=>prQ (yval (linP p).m (layP p).N wc S (layP p).σ k)
def vnum (p:Pg) (S:Sx):Int:=sz (linP p).m fun i=>costs (linP p) (S.β i)*S.T i ((layP p).R (linP p))
noncomputable abbrev valL (p:Pg) (S:Sx):Rat:=(vnum p S:Rat) / (S.d:Rat)
structure Infeas (p:Pg) (S:Sx):Prop where
 val:(layP p).Val (linP p) S
 zr:∀j,j<(layP p).N→0≤zr (linP p).m (arts (layP p).N) S j
 pos:0<sz (linP p).m fun i=>arts (layP p).N (S.β i)*S.T i ((layP p).R (linP p))
structure Free (p:Pg) (S:Sx) (q:Nat):Prop where
 val:(layP p).Val (linP p) S
 az:AZ (linP p) (layP p) S
 lt:q<(layP p).N
 neg:zr (linP p).m (costs (linP p)) S q<0
 no:∀i,i<(linP p).m→S.T i q≤0
structure Opt (p:Pg) (S:Sx):Prop where
 val:(layP p).Val (linP p) S
 az:AZ (linP p) (layP p) S
 zr:∀j,j<(layP p).N→0≤zr (linP p).m (costs (linP p)) S j
noncomputable abbrev none3:Fq×List Fq×List Fq:=((0,0),[],[])
def SolveQ (p:Pg) (o:Option ((Fq×List Fq×List Fq)×Int×Unit)):Prop :=
 (∃S,Infeas p S∧o=some (none3,22,()))∨(∃S q,Free p S q∧o=some (none3,21,()))∨∃S,Opt p S∧o=some ((prQ (valL p S),xL p S,yL p (costs (linP p)) S),0,())
theorem obQ {T R:Type} {Q:Option R→Prop} {o:Option T} {t:T} {k:T→Option R} (h:o=some t) (hk:Q (k t)):Q (obind o k):=by
 rw[h]
 exact hk
theorem solve_ok {p:Pg} (hv:ValidP p) (hf:FitsL (linP p)):SolveQ p (program_Solve p):=by
 have hB:=bnd_of hv hf
 obtain ⟨hw25,hm6'⟩:=layP_w hv
 have hm6:p.2.length≤6:=hm6'
 have hn:=hv.cost.2
 have hok:=layP_ok hv
 have hpow:(layP p).w (linP p) ^ (linP p).m≤1180591620717411303424:=Nat.le_trans (Nat.pow_le_pow_left (show _≤64 by omega) _) (Nat.le_trans (Nat.pow_le_pow_right (by omega) hm6') (by decide))
 have hcnt:=cntS_le (p:=p) p.2.length
 have hNe:IntKind.wrap .i64 ((p.1.length:Int)+(cntS p p.2.length:Nat))=((layP p).N:Int):=by rw[wrap_id (by omega) (by omega)];rfl
 have hRe:IntKind.wrap .i64 (((layP p).N:Int)+(p.2.length:Int))=(((layP p).R (linP p):Nat):Int):=by
  have:(layP p).N=p.1.length+cntS p p.2.length:=rfl
  rw[wrap_id (by omega) (by omega)];rfl
 unfold program_Solve program_Solve_b
 rw[pValid_ok,obN,validP_iff.2 hv]
 simp only[Bool.not_true,cF]
 rw[fits_okP hv,obN,decide_eq_true hf]
 simp only[Bool.not_true,cF]
 refine cnt_loopQ hv (SolveQ p) (fun again i s hi=>?_) (fun again=>?_)
 ·simp only[decide_eq_true (show (i:Int)<p.2.length by omega),inB_nat,decide_eq_true hi,Int.toNat_natCast,cT,succ_wrap (show i≤1000000 by omega)]
 simp only[decide_eq_false (show ¬ (p.2.length:Int)<p.2.length by omega),cF,slices_Clone_22,slices_Clone_22_b,fitB_of (show (0+p.1.length)*8≤140737488355328 by omega),cT,obind_some',hNe,hRe]
 refine newB_loopQ hv (SolveQ p) ?_
 obtain ⟨S,ok,h1,hvS,h2,h3⟩:=start_ok hB hpow (x3:=rowL p.2.length (layP p).σ) (cs:=p.1) (Lay.first hok)
 refine obQ (Q:=SolveQ p) h1 ?_
 cases ok with
 | false =>
  simp only[Bool.not_false,cT]
  exact .inl ⟨S,⟨hvS,(h3 rfl).1,(h3 rfl).2⟩,rfl⟩
 | true =>
  simp only[Bool.not_true,cF]
  obtain ⟨S,ok,h1,hvS,haS,h2,h3⟩:=improve_ok hB hpow (x3:=rowL p.2.length (layP p).σ) costAt_eq hvS (h2 rfl)
  refine obQ (Q:=SolveQ p) h1 ?_
  cases ok with
  | false =>
   simp only[Bool.not_false,cT]
   obtain ⟨q,e1,e2,e3⟩:=h3 rfl
   exact .inr (.inl ⟨S,q,⟨hvS,haS,e1,e2,e3⟩,rfl⟩)
  | true =>
   simp only[Bool.not_true,cF,Int.toNat_natCast,decide_eq_true (show (0:Int)≤(p.1.length:Nat) by omega),fitB_of (show p.1.length*8≤140737488355328 by omega),Bool.and_self,cT,rep_row]
   refine .inr (.inr ⟨S,⟨hvS,haS,h2 rfl⟩,?_⟩)
   obtain ⟨⟨d1,d2⟩,hb⟩:=hB.tab hvS.tb
   obtain ⟨_,hbP⟩:=hB.tabP hvS.tb
   have hRw:(layP p).R (linP p)<(layP p).w (linP p):=by unfold Lay.R Lay.w;omega
   have hm:(linP p).m=p.2.length:=rfl
   have hcR:∀i,i<(linP p).m→ -17592186044416≤costs (linP p) (S.β i)*S.T i ((layP p).R (linP p))∧costs (linP p) (S.β i)*S.T i ((layP p).R (linP p))≤17592186044416:=fun i hi=>hB.cost (hbP i _ hi hRw) _
   have hTR:∀i,i<(linP p).m→ -17592186044416≤S.T i ((layP p).R (linP p))∧S.T i ((layP p).R (linP p))≤17592186044416:=fun i hi=>by have:=hb i _ hi hRw;omega
   refine lpK_seqX (linP p).m (by omega) (fun i=>(sz i (fun k=>costs (linP p) (S.β k)*S.T k ((layP p).R (linP p))),(i:Int),rowL p.1.length (fun j=>sz i fun k=>if S.β k=j then S.T k ((layP p).R (linP p)) else 0),PUnit.unit)) _ rfl (fun again i hi=>?_) (fun again=>?_)
   ·have hiR:=hcR i hi
    have hs:=sz_bound (n:=i) (f:=fun k=>costs (linP p) (S.β k)*S.T k ((layP p).R (linP p))) (B:=17592186044416) fun k hk=>hcR k (by omega)
    have h3:(i:Int)*17592186044416≤6*17592186044416:=Int.mul_le_mul_of_nonneg_right (by omega) (by omega)
    simp only[basL_len,inB_nat,Int.toNat_natCast,decide_eq_true hi,decide_eq_true (show (i:Int)<(linP p).m by omega),ble_of (show Nat.succ i≤(linP p).m from hi),basL_get hi,cT,tab_all',tab_map',cost_ok,costAt_eq,obind_some',tabL_len,tabL_idx hi,tab_snd,cell_row hi,rowL_len,rowL_get hRw,decide_eq_true hRw,ble_of (show Nat.succ ((layP p).R (linP p))≤(layP p).w (linP p) from hRw),succ_wrap (show i≤1000000 by omega)]
    rw[wrap_id (x:=costs (linP p) (S.β i)*S.T i ((layP p).R (linP p))) (by omega) (by omega),wrap_id (by omega) (by omega)]
    by_cases c:S.β i<p.1.length
    ·simp only[decide_eq_true (show (S.β i:Int)<p.1.length by omega),decide_eq_true c,ble_of (show Nat.succ (S.β i)≤p.1.length from c),cT,rowL_set c]
     congr 3
     congr 1
     refine rowL_congr fun j _=>?_
     by_cases e:j=S.β i
     ·subst e
      rw[if_pos rfl]
      simp only[sz]
      rw[sz_zero fun k hk=>if_neg fun e=>by have:=hvS.tb.inj (show k<(linP p).m by omega) hi e;omega,if_pos trivial,Int.zero_add]
     ·rw[if_neg e]
      simp only[sz]
      rw[if_neg (Ne.symm e),Int.add_zero]
    ·simp only[decide_eq_false (show ¬ (S.β i:Int)<p.1.length by omega),cF]
     congr 3
     congr 1
     refine rowL_congr fun j hj=>?_
     simp only[sz]
     rw[if_neg (by omega),Int.add_zero]
   have hsV:=sz_bound (n:=(linP p).m) (f:=fun k=>costs (linP p) (S.β k)*S.T k ((layP p).R (linP p))) (B:=17592186044416) hcR
   have h6:((linP p).m:Int)*17592186044416≤6*17592186044416:=Int.mul_le_mul_of_nonneg_right (by omega) (by omega)
   simp only[basL_len,decide_eq_false (show ¬ ((linP p).m:Int)<(linP p).m by omega),cF,tab_all,tab_map,cT,part_ok ⟨d1,d2⟩ (show (sz (linP p).m fun k=>costs (linP p) (S.β k)*S.T k ((layP p).R (linP p))).natAbs≤1152921504606846976 by omega),obind_some',rowL_len]
   refine lpK_seqX p.1.length (by omega) (fun j=>((j:Int),prQ (valL p S),rowL j (fun j=>prQ (xval (linP p).m ((layP p).R (linP p)) S j)),[],PUnit.unit)) _ rfl (fun again j hj=>?_) (fun again=>?_)
   ·have hx:=sz_bound (n:=(linP p).m) (f:=fun k=>if S.β k=j then S.T k ((layP p).R (linP p)) else 0) (B:=17592186044416) fun k hk=>by
     have:=hTR k hk
     split<;>omega
    simp only[inB_nat,Int.toNat_natCast,decide_eq_true hj,decide_eq_true (show (j:Int)<p.1.length by omega),ble_of (show Nat.succ j≤p.1.length from hj),rowL_get hj,cT,part_ok ⟨d1,d2⟩ (show (sz (linP p).m fun k=>if S.β k=j then S.T k ((layP p).R (linP p)) else 0).natAbs≤1152921504606846976 by omega),obind_some',rowL_len,fitB_of (show (j+1)*16≤140737488355328 by omega),succ_wrap (show j≤1000000 by omega)]
    rw[show prQ (((sz (linP p).m fun k=>if S.β k=j then S.T k ((layP p).R (linP p)) else 0:Int):Rat) / (S.d:Rat))=(fun j=>prQ (xval (linP p).m ((layP p).R (linP p)) S j)) j from rfl,rowL_snoc]
   simp only[decide_eq_false (show ¬ (p.1.length:Int)<p.1.length by omega),cF]
   refine lpK_seqX p.2.length (by omega) (fun k=>((k:Int),prQ (valL p S),xL p S,rowL k (fun k=>prQ (yval (linP p).m (layP p).N (costs (linP p)) S (layP p).σ k)),PUnit.unit)) _ rfl (fun again k hk=>?_) (fun again=>?_)
   ·have hNk:(layP p).N+k<(layP p).w (linP p):=by unfold Lay.w;omega
    have hcN:∀i,i<(linP p).m→ -17592186044416≤costs (linP p) (S.β i)*S.T i ((layP p).N+k)∧costs (linP p) (S.β i)*S.T i ((layP p).N+k)≤17592186044416:=fun i hi=>hB.cost (hbP i _ hi hNk) _
    have hNke:IntKind.wrap .i64 (((layP p).N:Int)+(k:Int))=(((layP p).N+k:Nat):Int):=by rw[wrap_id (by omega) (by omega)];rfl
    simp only[decide_eq_true (show (k:Int)<p.2.length by omega),cT,hNke]
    refine lpK_seqX (linP p).m (by omega) (fun i=>(sz i (fun i=>costs (linP p) (S.β i)*S.T i ((layP p).N+k)),(i:Int),PUnit.unit)) _ rfl (fun again2 i hi=>?_) (fun again2=>?_)
    ·have hiR:=hcN i hi
     have hs:=sz_bound (n:=i) (f:=fun i=>costs (linP p) (S.β i)*S.T i ((layP p).N+k)) (B:=17592186044416) fun k hk=>hcN k (by omega)
     have h3:(i:Int)*17592186044416≤6*17592186044416:=Int.mul_le_mul_of_nonneg_right (by omega) (by omega)
     simp only[basL_len,inB_nat,Int.toNat_natCast,decide_eq_true hi,decide_eq_true (show (i:Int)<(linP p).m by omega),ble_of (show Nat.succ i≤(linP p).m from hi),basL_get hi,cT,tab_all',tab_map',cost_ok,costAt_eq,obind_some',tabL_len,tabL_idx hi,tab_snd,cell_row hi,rowL_len,rowL_get hNk,decide_eq_true hNk,ble_of (show Nat.succ ((layP p).N+k)≤(layP p).w (linP p) from hNk),succ_wrap (show i≤1000000 by omega)]
     rw[wrap_id (x:=costs (linP p) (S.β i)*S.T i ((layP p).N+k)) (by omega) (by omega),wrap_id (by omega) (by omega)]
     rfl
    ·have hs:=sz_bound (n:=(linP p).m) (f:=fun i=>costs (linP p) (S.β i)*S.T i ((layP p).N+k)) (B:=17592186044416) hcN
     have hab:=sig_abs (p:=p) k (sz (linP p).m fun i=>costs (linP p) (S.β i)*S.T i ((layP p).N+k))
     simp only[basL_len,decide_eq_false (show ¬ ((linP p).m:Int)<(linP p).m by omega),cF,rowL_len,inB_nat,Int.toNat_natCast,decide_eq_true hk,ble_of (show Nat.succ k≤p.2.length from hk),rowL_get hk,cT,tab_all,tab_map,wrap_id (x:=(layP p).σ k*sz (linP p).m fun i=>costs (linP p) (S.β i)*S.T i ((layP p).N+k)) (by omega) (by omega),part_ok ⟨d1,d2⟩ (show ((layP p).σ k*sz (linP p).m fun i=>costs (linP p) (S.β i)*S.T i ((layP p).N+k)).natAbs≤1152921504606846976 by omega),obind_some',fitB_of (show (k+1)*16≤140737488355328 by omega),succ_wrap (show k≤1000000 by omega)]
     rw[show prQ ((((layP p).σ k*sz (linP p).m fun i=>costs (linP p) (S.β i)*S.T i ((layP p).N+k):Int):Rat) / (S.d:Rat))=(fun k=>prQ (yval (linP p).m (layP p).N (costs (linP p)) S (layP p).σ k)) k from rfl,rowL_snoc]
   ·simp only[decide_eq_false (show ¬ (p.2.length:Int)<p.2.length by omega),cF]
end Go.Proofs.Ytnbbackjofgcfaa

namespace Go.Proofs.Ytnbbackjofgcfaa
open Try Dn Dn.Sh
theorem minus_loop {w:Nat} {g z:Nat→Int} {R:Type} {F:(Int×List Int×PUnit→Option R)→Int×List Int×PUnit→Option R} {res:Option R} (hw:w≤1000)
  (hb:∀k,k<w→ -4611686018427387904≤z k - g k∧z k - g k≤4611686018427387904)
  (hF:∀again (k:Nat) (h:Nat→Int),k<w→F again ((k:Int),rowL w h,PUnit.unit)=again (((k+1:Nat):Int),(rowL w h).set k (IntKind.wrap .i64 (h k - g k)),PUnit.unit))
  (hend:∀again,F again ((w:Int),rowL w (fun k=>z k - g k),PUnit.unit)=res):lpK (Int×List Int×PUnit) R F ((0:Int),rowL w z,PUnit.unit)=res:=by
 refine lpK_seqX w (by omega) (fun k=>((k:Int),rowL w (fun j=>if j<k then z j - g j else z j),PUnit.unit)) _ ?_ (fun again k hk=>?_) (fun again=>?_)
 ·rw[rowL_congr (f:=fun j=>if j<0 then z j - g j else z j) (g:=z) fun j _=>if_neg (by omega)];rfl
 ·have:=hb k hk
  rw[hF again k _ hk]
  simp only[if_neg (Nat.lt_irrefl k)]
  rw[wrap_id (by omega) (by omega),rowL_set hk]
  congr 3
  refine rowL_congr fun j _=>?_
  by_cases c:j=k
  ·rw[if_pos c,if_pos (by omega),c]
  ·rw[if_neg c]
   by_cases c2:j<k
   ·rw[if_pos c2,if_pos (by omega)]
   ·rw[if_neg c2,if_neg (by omega)]
 ·rw[rowL_congr (f:=fun j=>if j<w then z j - g j else z j) (g:=fun k=>z k - g k) fun j hj=>if_pos hj]
  exact hend again
theorem neg_loop {w:Nat} {f:Nat→Int} {R:Type} {F:(Int×List Int×PUnit→Option R)→Int×List Int×PUnit→Option R} {res:Option R} (hw:w≤1000)
  (hb:∀k,k<w→ -4611686018427387904≤f k∧f k≤4611686018427387904)
  (hF:∀again (k:Nat) (h:Nat→Int),k<w→F again ((k:Int),rowL w h,PUnit.unit)=again (((k+1:Nat):Int),(rowL w h).set k (IntKind.wrap .i64 (0 - h k)),PUnit.unit))
  (hend:∀again,F again ((w:Int),rowL w (fun k=> -1*f k),PUnit.unit)=res):lpK (Int×List Int×PUnit) R F ((0:Int),rowL w f,PUnit.unit)=res:=by
 refine lpK_seqX w (by omega) (fun k=>((k:Int),rowL w (fun j=>if j<k then -1*f j else f j),PUnit.unit)) _ ?_ (fun again k hk=>?_) (fun again=>?_)
 ·rw[rowL_congr (f:=fun j=>if j<0 then -1*f j else f j) (g:=f) fun j _=>if_neg (by omega)];rfl
 ·have:=hb k hk
  rw[hF again k _ hk]
  simp only[if_neg (Nat.lt_irrefl k)]
  rw[wrap_id (by omega) (by omega),rowL_set hk]
  congr 3
  refine rowL_congr fun j _=>?_
  by_cases c:j=k
  ·rw[if_pos c,if_pos (by omega),c];omega
  ·rw[if_neg c]
   by_cases c2:j<k
   ·rw[if_pos c2,if_pos (by omega)]
   ·rw[if_neg c2,if_neg (by omega)]
 ·rw[rowL_congr (f:=fun j=>if j<w then -1*f j else f j) (g:=fun k=> -1*f k) fun j hj=>if_pos hj]
  exact hend again
theorem lo_hi {x:Int} (h: -1073741824≤x∧x≤1073741824): -4611686018427387904≤x∧x≤4611686018427387904:=by omega
theorem lo_hi1 {x z:Int} (h: -1073741824≤x∧x≤1073741824) (h2: -8589934592≤z∧z≤8589934592): -4611686018427387904≤z - x∧z - x≤4611686018427387904:=by omega
theorem lo_hi2 {x z:Int} (h: -1073741824≤x∧x≤1073741824) (h2: -8589934592≤z∧z≤8589934592): -4611686018427387904≤z - -1*x∧z - -1*x≤4611686018427387904:=by omega
section
variable {p:Pg}
def rawR (p:Pg) (i k:Nat):Int:=if k=(layR p).R (linP p) then (linP p).b i else if (linP p).kd i≠3∧k=(layR p).sl i then (if (linP p).kd i=1 then 1 else -1) else (p.2.getD i rw0).1.getD k 0
theorem rawR_M (hv:ValidP p) {i k:Nat} (hi:i<p.2.length) (hk:k<(layR p).w (linP p)):(layR p).M (linP p) i k=if k=(layR p).N+i then 1 else (layR p).σ i*rawR p i k:=by
 have hr:p.2.getD i rw0 ∈ p.2:=by rw[getD_nat hi];exact List.getElem_mem _
 have hl:=hv.len _ hr
 have hok:=layR_ok hv
 have hNn:(linP p).n≤(layR p).N:=hok.n
 have hRe:(layR p).R (linP p)=(layR p).N+p.2.length:=rfl
 have hme:(linP p).m=p.2.length:=rfl
 have hk:k<(layR p).N+p.2.length+1:=hk
 unfold Lay.M rawR
 rw[hRe,hme]
 by_cases c1:k<(linP p).n
 ·rw[if_pos c1,if_neg (by omega),if_neg (by omega),if_neg]
  ·rfl
  ·rintro ⟨e1,e2⟩
   have:=(hok.sl i hi e1).1
   omega
 ·rw[if_neg c1]
  by_cases c2:k<(layR p).N
  ·rw[if_pos c2]
   have n1:¬ k=(layR p).N+i:=by omega
   have n2:¬ k=(layR p).N+p.2.length:=by omega
   by_cases c3:(linP p).kd i≠3∧k=(layR p).sl i
   ·rw[if_pos c3,if_neg n1,if_neg n2,if_pos c3]
   ·rw[if_neg c3,if_neg n1,if_neg n2,if_neg c3,List.getD_eq_getElem?_getD,List.getElem?_eq_none (by rw[hl];exact Nat.not_lt.1 c1)]
    simp
  ·rw[if_neg c2]
   by_cases c3:k<(layR p).N+p.2.length
   ·rw[if_pos c3]
    by_cases c4:k=(layR p).N+i
    ·rw[if_pos c4,if_pos c4]
    ·rw[if_neg c4,if_neg c4,if_neg (by omega),if_neg]
     ·rw[List.getD_eq_getElem?_getD,List.getElem?_eq_none (by rw[hl];exact Nat.not_lt.1 c1)]
      simp
     ·rintro ⟨e1,e2⟩
      have:=(hok.sl i hi e1).2
      omega
   ·rw[if_neg c3,if_neg (by omega),if_pos (by omega)]
theorem rawR_small (hv:ValidP p) {i k:Nat} (hi:i<p.2.length): -1073741824≤rawR p i k∧rawR p i k≤1073741824:=by
 have hr:p.2.getD i rw0 ∈ p.2:=by rw[getD_nat hi];exact List.getElem_mem _
 have hR:=hv.right _ hr
 unfold rawR
 split
 ·exact of_decide_eq_true hR
 ·split
  ·split<;>omega
  ·have:=ab_le.1 (size_small (hv.coefs _ hr) k)
   omega
theorem sigR (i:Nat):(layR p).σ i=1∨(layR p).σ i= -1:=by
 show (if (p.2.getD i rw0).2.2<0 then (-1:Int) else 1)=1∨(if (p.2.getD i rw0).2.2<0 then (-1:Int) else 1)= -1
 split<;>omega
def lastR (p:Pg) (i k:Nat):Int:= - sz i fun r=>(layR p).σ r*rawR p r k
theorem lastR_small (hv:ValidP p) {i k:Nat} (hi:i≤p.2.length): -8589934592≤lastR p i k∧lastR p i k≤8589934592:=by
 have h1:=sz_bound (n:=i) (f:=fun r=>(layR p).σ r*rawR p r k) (B:=1073741824) fun r hr=>by
  have:=rawR_small hv (i:=r) (k:=k) (by omega)
  rcases sigR (p:=p) r with e | e<;>rw[e]<;>omega
 have h2:=hv.rows
 have h3:(i:Int)*1073741824≤6*1073741824:=Int.mul_le_mul_of_nonneg_right (by omega) (by omega)
 unfold lastR
 omega
theorem lastR_zr (hv:ValidP p) {k:Nat} (hk:k<(layR p).w (linP p)):lastR p p.2.length k=zr (linP p).m (artR (layR p).N (linP p).m) ⟨(layR p).M (linP p),1,fun i=>(layR p).N+i⟩ k:=by
 have hok:=layR_ok hv
 have hme:(linP p).m=p.2.length:=rfl
 unfold zr lastR
 rw[hme]
 have e1:(sz p.2.length fun i=>artR (layR p).N p.2.length ((layR p).N+i)*(layR p).M (linP p) i k)=sz p.2.length fun i=>(layR p).M (linP p) i k:=sz_congr fun i hi=>by
  unfold artR
  rw[if_pos (by omega),Int.one_mul]
 show _=artR (layR p).N p.2.length k*1 - sz p.2.length fun i=>artR (layR p).N p.2.length ((layR p).N+i)*(layR p).M (linP p) i k
 rw[e1]
 by_cases c:(layR p).N≤k∧k<(layR p).N+p.2.length
 ·obtain ⟨i,hi,e⟩:∃i,i<p.2.length∧k=(layR p).N+i:=⟨k - (layR p).N,by omega,by omega⟩
  have hk0:∀r,r<p.2.length→r≠i→(layR p).σ r*rawR p r k=0∧(layR p).M (linP p) r k=0:=fun r hr hne=>by
   have h1:=rawR_M hv hr hk
   have h2:=Lay.M_a hok (k:=r) (i:=i) hi
   rw[←e,if_neg hne] at h2
   rw[if_neg (by omega),h2] at h1
   exact ⟨h1.symm,h2⟩
  have hi0:(layR p).σ i*rawR p i k=0:=by
   have hr:p.2.getD i rw0 ∈ p.2:=by rw[getD_nat hi];exact List.getElem_mem _
   have hl:=hv.len _ hr
   have hRe:(layR p).R (linP p)=(layR p).N+p.2.length:=rfl
   have hNn:p.1.length≤(layR p).N:=hok.n
   unfold rawR
   rw[hRe,if_neg (by omega),if_neg,List.getD_eq_getElem?_getD,List.getElem?_eq_none (by omega)]
   ·simp
   ·rintro ⟨e1,e2⟩
    have:=(hok.sl i hi e1).2
    omega
  have hM:=Lay.M_a hok (k:=i) (i:=i) hi
  rw[←e,if_pos rfl] at hM
  rw[sz_zero fun r hr=>by
   by_cases e:r=i
   ·rw[e];exact hi0
   ·exact (hk0 r hr e).1,sz_one hi fun r hr hne=>(hk0 r hr hne).2,hM]
  unfold artR
  rw[if_pos c]
  omega
 ·have e2:(sz p.2.length fun i=>(layR p).M (linP p) i k)=sz p.2.length fun r=>(layR p).σ r*rawR p r k:=sz_congr fun r hr=>by rw[rawR_M hv hr hk,if_neg (by omega)]
  rw[e2]
  unfold artR
  rw[if_neg c]
  omega
theorem begin_ok (hv:ValidP p):ref05_begin p=some (tabR (linP p) (layR p) (artR (layR p).N (linP p).m) ⟨(layR p).M (linP p),1,fun i=>(layR p).N+i⟩,basL (linP p).m (fun i=>(layR p).N+i),1,((layR p).N:Int),()):=by
 have hm:=hv.rows
 have hn:=hv.cost
 have hok:=layR_ok hv
 obtain ⟨w,hw⟩:∃w,w=(layR p).w (linP p):=⟨_,rfl⟩
 obtain ⟨Rr,hRr⟩:∃R,R=(layR p).R (linP p):=⟨_,rfl⟩
 obtain ⟨N,hN⟩:∃N,N=(layR p).N:=⟨_,rfl⟩
 have hNv:N=p.1.length+p.2.length:=hN
 have hRv:Rr=p.1.length+2*p.2.length:=by rw[hRr];show p.1.length+p.2.length+p.2.length=_;omega
 have hwv:w=Rr+1:=by rw[hw,hRr]
 have e3:IntKind.wrap .i64 ((p.1.length:Int)+(p.2.length:Int))=(N:Int):=by rw[wrap_id (by omega) (by omega)];omega
 have e4:IntKind.wrap .i64 ((p.1.length:Int)+IntKind.wrap .i64 (2*(p.2.length:Int)))=(Rr:Int):=by rw[wrap_id (x:=2*(p.2.length:Int)) (by omega) (by omega),wrap_id (by omega) (by omega)];omega
 have hRw:Rr<w:=by omega
 unfold ref05_begin ref05_begin_b
 simp only[e3,e4,succ_wrap (show Rr≤1000000 by omega),←hwv,Int.toNat_natCast,decide_eq_true (show (0:Int)≤(w:Nat) by omega),fitB_of (show w*8≤140737488355328 by omega),Bool.and_self,cT,rep_row]
 refine lpK_seqX p.2.length (by omega) (fun i=>((i:Int),(List.range i,cellL i w ((layR p).M (linP p))),basL i (fun k=>N+k),(1:Int),(N:Int),rowL w (lastR p i),PUnit.unit)) _ ?_ (fun again i hi=>?_) (fun again=>?_)
 ·rw[rowL_congr (f:=lastR p 0) (g:=fun _=>0) fun k _=>by simp[lastR,sz]]
  rfl
 ·have hr:p.2.getD i rw0 ∈ p.2:=by rw[getD_nat hi];exact List.getElem_mem _
  have hl:=hv.len _ hr
  have hkd:=hv.kind _ hr
  have hNi:N+i<w:=by omega
  have hsl:p.1.length+i<w:=by omega
  have h9:IntKind.wrap .i64 ((N:Int)+(i:Int))=((N+i:Nat):Int):=by rw[wrap_id (by omega) (by omega)];rfl
  have h11:IntKind.wrap .i64 ((p.1.length:Int)+(i:Int))=((p.1.length+i:Nat):Int):=by rw[wrap_id (by omega) (by omega)];rfl
  simp only[decide_eq_true (show (i:Int)<p.2.length by omega),inB_nat,Int.toNat_natCast,decide_eq_true hi,cT,jnK_eq',h9,h11,List.length_range,cellL_len,fitB_of (show (i+1)*24≤140737488355328 by omega),basL_len,fitB_of (show (i+1)*8≤140737488355328 by omega),succ_wrap (show i≤1000000 by omega)]
  refine lpK_seqX (p.2.getD i rw0).1.length (by omega) (fun j=>((j:Int),rowL w (fun k=>if k<j then (p.2.getD i rw0).1.getD k 0 else 0),PUnit.unit)) _ ?_ (fun again2 j hj=>?_) (fun again2=>?_)
  ·rw[rowL_congr (f:=fun k=>if k<0 then (p.2.getD i rw0).1.getD k 0 else 0) (g:=fun _=>0) fun k _=>if_neg (by omega)];rfl
  ·have hjw:j<w:=by omega
   simp only[decide_eq_true (show (j:Int)<(p.2.getD i rw0).1.length by omega),inB_nat,Int.toNat_natCast,decide_eq_true hj,rowL_len,decide_eq_true hjw,ble_of (show Nat.succ j≤w from hjw),cT,rowL_set hjw,succ_wrap (show j≤1000000 by omega)]
   congr 3
   refine rowL_congr fun k _=>?_
   by_cases c:k=j
   ·rw[if_pos c,if_pos (by omega),c]
   ·rw[if_neg c]
    by_cases c2:k<j
    ·rw[if_pos c2,if_pos (by omega)]
    ·rw[if_neg c2,if_neg (by omega)]
  ·simp only[decide_eq_false (show ¬ ((p.2.getD i rw0).1.length:Int)<(p.2.getD i rw0).1.length by omega),cF]
   rw[rowL_congr (f:=fun k=>if k<(p.2.getD i rw0).1.length then (p.2.getD i rw0).1.getD k 0 else 0) (g:=fun k=>(p.2.getD i rw0).1.getD k 0) fun k _=>by
    by_cases c:k<(p.2.getD i rw0).1.length
    ·rw[if_pos c]
    ·rw[if_neg c,List.getD_eq_getElem?_getD,List.getElem?_eq_none (by omega)]
     rfl]
   simp only[rowL_len,decide_eq_true hsl,ble_of (show Nat.succ (p.1.length+i)≤w from hsl),decide_eq_true hRw,ble_of (show Nat.succ Rr≤w from hRw),cT,List.length_set]
   have fin:∀(σ:Int) (f:Nat→Int),σ=(layR p).σ i→(∀k,k<w→f k=rawR p i k) →
     again (((i+1:Nat):Int),(List.range i++[i+0],cellL i w ((layR p).M (linP p))++[some ((rowL w fun k=>σ*f k).set (N+i) 1)]),basL i (fun k=>N+k)++[((N+i:Nat):Int)],(1:Int),(N:Int),rowL w (fun k=>lastR p i k - σ*f k),PUnit.unit) =
     again (((i+1:Nat):Int),(List.range (i+1),cellL (i+1) w ((layR p).M (linP p))),basL (i+1) (fun k=>N+k),(1:Int),(N:Int),rowL w (lastR p (i+1)),PUnit.unit):=fun σ f hσ hf=>by
    rw[rowL_set hNi,show List.range i++[i+0]=List.range (i+1) from by rw[Nat.add_zero,←List.range_succ],←cellL_snoc,show (basL i fun k=>N+k)++[((N+i:Nat):Int)]=basL (i+1) (fun k=>N+k) from rowL_snoc (f:=fun k=>((N+k:Nat):Int))]
    rw[rowL_congr (f:=fun k=>if k=N+i then 1 else σ*f k) (g:=(layR p).M (linP p) i) fun k hk=>by rw[rawR_M hv hi (by rw[←hw];exact hk),←hN,←hσ,hf k hk]]
    rw[rowL_congr (f:=fun k=>lastR p i k - σ*f k) (g:=lastR p (i+1)) fun k hk=>by
     unfold lastR
     simp only[sz]
     rw[hf k hk,hσ]
     omega]
   have tail:∀{R:Type} (f:Nat→Int),(∀k,k<w→f k=rawR p i k)→∀k,k<w→ -1073741824≤f k∧f k≤1073741824:=fun f hf k hk=>by rw[hf k hk];exact rawR_small hv hi
   have hbl:=fun k=>lastR_small hv (i:=i) (k:=k) (by omega)
   by_cases k1:(p.2.getD i rw0).2.1=1
   ·have hf:∀k,k<w→(if k=Rr then (p.2.getD i rw0).2.2 else if k=p.1.length+i then 1 else (p.2.getD i rw0).1.getD k 0)=rawR p i k:=fun k _=>by
     unfold rawR
     rw[←hRr]
     by_cases c:k=Rr
     ·rw[if_pos c,if_pos c];rfl
     ·rw[if_neg c,if_neg c]
      by_cases c2:k=p.1.length+i
      ·rw[if_pos c2,if_pos ⟨show (p.2.getD i rw0).2.1≠3 by omega,c2⟩,if_pos (show (linP p).kd i=1 from k1)]
      ·rw[if_neg c2,if_neg fun h=>c2 h.2]
    have hb:=tail (R:=Unit) _ hf
    rw[decide_eq_true k1,decide_eq_false (show ¬ (p.2.getD i rw0).2.1=2 by omega)]
    simp only[cT,cF,rowL_set hsl,rowL_set hRw]
    by_cases hneg:(p.2.getD i rw0).2.2<0
    ·have hσ:(-1:Int)=(layR p).σ i:=(if_pos hneg).symm
     rw[decide_eq_true hneg]
     simp only[cT]
     refine neg_loop (by omega) (fun k hk=>lo_hi (hb k hk)) (fun again3 k h hk=>?_) (fun again3=>?_)
     ·simp only[rowL_len,decide_eq_true (show (k:Int)<w by omega),inB_nat,Int.toNat_natCast,decide_eq_true hk,ble_of (show Nat.succ k≤w from hk),cT,rowL_get hk,succ_wrap (show k≤1000000 by omega)]
     ·simp only[rowL_len,decide_eq_false (show ¬ (w:Int)<w by omega),cF]
      refine minus_loop (by omega) (fun k hk=>lo_hi2 (hb k hk) (hbl k)) (fun again4 k h hk=>?_) (fun again4=>?_)
      ·simp only[rowL_len,decide_eq_true (show (k:Int)<w by omega),inB_nat,Int.toNat_natCast,decide_eq_true hk,ble_of (show Nat.succ k≤w from hk),cT,rowL_get hk,succ_wrap (show k≤1000000 by omega)]
      ·simp only[rowL_len,decide_eq_false (show ¬ (w:Int)<w by omega),cF,decide_eq_true hNi,ble_of (show Nat.succ (N+i)≤w from hNi),cT]
       exact fin (-1) _ hσ hf
    ·have hσ:(1:Int)=(layR p).σ i:=(if_neg hneg).symm
     rw[decide_eq_false hneg]
     simp only[cF]
     refine minus_loop (by omega) (fun k hk=>lo_hi1 (hb k hk) (hbl k)) (fun again4 k h hk=>?_) (fun again4=>?_)
     ·simp only[rowL_len,decide_eq_true (show (k:Int)<w by omega),inB_nat,Int.toNat_natCast,decide_eq_true hk,ble_of (show Nat.succ k≤w from hk),cT,rowL_get hk,succ_wrap (show k≤1000000 by omega)]
     ·simp only[rowL_len,decide_eq_false (show ¬ (w:Int)<w by omega),cF,decide_eq_true hNi,ble_of (show Nat.succ (N+i)≤w from hNi),cT]
      have:=fin 1 _ hσ hf
      simp only[Int.one_mul] at this
      exact this
   ·by_cases k2:(p.2.getD i rw0).2.1=2
    ·have hf:∀k,k<w→(if k=Rr then (p.2.getD i rw0).2.2 else if k=p.1.length+i then -1 else (p.2.getD i rw0).1.getD k 0)=rawR p i k:=fun k _=>by
      unfold rawR
      rw[←hRr]
      by_cases c:k=Rr
      ·rw[if_pos c,if_pos c];rfl
      ·rw[if_neg c,if_neg c]
       by_cases c2:k=p.1.length+i
       ·rw[if_pos c2,if_pos ⟨show (p.2.getD i rw0).2.1≠3 by omega,c2⟩,if_neg (show ¬ (linP p).kd i=1 from k1)]
       ·rw[if_neg c2,if_neg fun h=>c2 h.2]
     have hb:=tail (R:=Unit) _ hf
     rw[decide_eq_false k1,decide_eq_true k2]
     simp only[cT,cF,rowL_set hsl,rowL_set hRw]
     by_cases hneg:(p.2.getD i rw0).2.2<0
     ·have hσ:(-1:Int)=(layR p).σ i:=(if_pos hneg).symm
      rw[decide_eq_true hneg]
      simp only[cT]
      refine neg_loop (by omega) (fun k hk=>lo_hi (hb k hk)) (fun again3 k h hk=>?_) (fun again3=>?_)
      ·simp only[rowL_len,decide_eq_true (show (k:Int)<w by omega),inB_nat,Int.toNat_natCast,decide_eq_true hk,ble_of (show Nat.succ k≤w from hk),cT,rowL_get hk,succ_wrap (show k≤1000000 by omega)]
      ·simp only[rowL_len,decide_eq_false (show ¬ (w:Int)<w by omega),cF]
       refine minus_loop (by omega) (fun k hk=>lo_hi2 (hb k hk) (hbl k)) (fun again4 k h hk=>?_) (fun again4=>?_)
       ·simp only[rowL_len,decide_eq_true (show (k:Int)<w by omega),inB_nat,Int.toNat_natCast,decide_eq_true hk,ble_of (show Nat.succ k≤w from hk),cT,rowL_get hk,succ_wrap (show k≤1000000 by omega)]
       ·simp only[rowL_len,decide_eq_false (show ¬ (w:Int)<w by omega),cF,decide_eq_true hNi,ble_of (show Nat.succ (N+i)≤w from hNi),cT]
        exact fin (-1) _ hσ hf
     ·have hσ:(1:Int)=(layR p).σ i:=(if_neg hneg).symm
      rw[decide_eq_false hneg]
      simp only[cF]
      refine minus_loop (by omega) (fun k hk=>lo_hi1 (hb k hk) (hbl k)) (fun again4 k h hk=>?_) (fun again4=>?_)
      ·simp only[rowL_len,decide_eq_true (show (k:Int)<w by omega),inB_nat,Int.toNat_natCast,decide_eq_true hk,ble_of (show Nat.succ k≤w from hk),cT,rowL_get hk,succ_wrap (show k≤1000000 by omega)]
      ·simp only[rowL_len,decide_eq_false (show ¬ (w:Int)<w by omega),cF,decide_eq_true hNi,ble_of (show Nat.succ (N+i)≤w from hNi),cT]
       have:=fin 1 _ hσ hf
       simp only[Int.one_mul] at this
       exact this
    ·have hf:∀k,k<w→(if k=Rr then (p.2.getD i rw0).2.2 else (p.2.getD i rw0).1.getD k 0)=rawR p i k:=fun k _=>by
      unfold rawR
      rw[←hRr]
      by_cases c:k=Rr
      ·rw[if_pos c,if_pos c];rfl
      ·rw[if_neg c,if_neg c,if_neg]
       rintro ⟨e,_⟩
       have e:(p.2.getD i rw0).2.1≠3:=e
       omega
     have hb:=tail (R:=Unit) _ hf
     rw[decide_eq_false k1,decide_eq_false k2]
     simp only[cF,rowL_set hRw]
     by_cases hneg:(p.2.getD i rw0).2.2<0
     ·have hσ:(-1:Int)=(layR p).σ i:=(if_pos hneg).symm
      rw[decide_eq_true hneg]
      simp only[cT]
      refine neg_loop (by omega) (fun k hk=>lo_hi (hb k hk)) (fun again3 k h hk=>?_) (fun again3=>?_)
      ·simp only[rowL_len,decide_eq_true (show (k:Int)<w by omega),inB_nat,Int.toNat_natCast,decide_eq_true hk,ble_of (show Nat.succ k≤w from hk),cT,rowL_get hk,succ_wrap (show k≤1000000 by omega)]
      ·simp only[rowL_len,decide_eq_false (show ¬ (w:Int)<w by omega),cF]
       refine minus_loop (by omega) (fun k hk=>lo_hi2 (hb k hk) (hbl k)) (fun again4 k h hk=>?_) (fun again4=>?_)
       ·simp only[rowL_len,decide_eq_true (show (k:Int)<w by omega),inB_nat,Int.toNat_natCast,decide_eq_true hk,ble_of (show Nat.succ k≤w from hk),cT,rowL_get hk,succ_wrap (show k≤1000000 by omega)]
       ·simp only[rowL_len,decide_eq_false (show ¬ (w:Int)<w by omega),cF,decide_eq_true hNi,ble_of (show Nat.succ (N+i)≤w from hNi),cT]
        exact fin (-1) _ hσ hf
     ·have hσ:(1:Int)=(layR p).σ i:=(if_neg hneg).symm
      rw[decide_eq_false hneg]
      simp only[cF]
      refine minus_loop (by omega) (fun k hk=>lo_hi1 (hb k hk) (hbl k)) (fun again4 k h hk=>?_) (fun again4=>?_)
      ·simp only[rowL_len,decide_eq_true (show (k:Int)<w by omega),inB_nat,Int.toNat_natCast,decide_eq_true hk,ble_of (show Nat.succ k≤w from hk),cT,rowL_get hk,succ_wrap (show k≤1000000 by omega)]
      ·simp only[rowL_len,decide_eq_false (show ¬ (w:Int)<w by omega),cF,decide_eq_true hNi,ble_of (show Nat.succ (N+i)≤w from hNi),cT]
       have:=fin 1 _ hσ hf
       simp only[Int.one_mul] at this
       exact this
 ·simp only[decide_eq_false (show ¬ (p.2.length:Int)<p.2.length by omega),cF,List.length_range,cellL_len,fitB_of (show (p.2.length+1)*24≤140737488355328 by omega),cT,Nat.add_zero]
  rw[←List.range_succ,hN]
  have e:cellL p.2.length w ((layR p).M (linP p))++[some (rowL w (lastR p p.2.length))]=cellL (p.2.length+1) w (extT p.2.length ((layR p).M (linP p)) (zr (linP p).m (artR (layR p).N (linP p).m) ⟨(layR p).M (linP p),1,fun i=>(layR p).N+i⟩)):=by
   rw[←cellL_snoc,cellL_congr (T:=extT p.2.length _ _) (T':=(layR p).M (linP p)) fun i j hi _=>extT_row hi]
   congr 3
   refine rowL_congr fun k hk=>?_
   rw[extT_last]
   exact lastR_zr hv (by rw[←hw];exact hk)
  rw[e,hw]
  rfl
end
end Go.Proofs.Ytnbbackjofgcfaa

namespace Go.Proofs.Ytnbbackjofgcfaa
open Try Dn Dn.Sh
section
variable {L:Lin} {Y:Lay}
theorem artR_arts {S:Sx} (hv:Y.Val L S) {i:Nat} (hi:i<L.m):artR Y.N L.m (S.β i)=arts Y.N (S.β i):=by
 have h1:=hv.tb.lt i hi
 have h2:=hv.ne i hi
 unfold artR arts
 unfold Lay.R at h2
 unfold Lay.w at h1
 by_cases c:Y.N≤S.β i
 ·rw[if_pos c,if_pos ⟨c,by omega⟩]
 ·rw[if_neg c,if_neg fun h=>c h.1]
theorem zr_artR {S:Sx} (hv:Y.Val L S) {j:Nat} (hj:j<Y.N):zr L.m (artR Y.N L.m) S j=zr L.m (arts Y.N) S j:=by
 unfold zr
 rw[sz_congr fun i hi=>by rw[artR_arts hv hi],show artR Y.N L.m j=0 from if_neg (by omega),show arts Y.N j=0 from if_neg (by omega)]
theorem zr_artR_R {S:Sx} (hv:Y.Val L S):zr L.m (artR Y.N L.m) S (Y.R L)= - sz L.m fun i=>arts Y.N (S.β i)*S.T i (Y.R L):=by
 unfold zr
 rw[sz_congr fun i hi=>by rw[artR_arts hv hi],show artR Y.N L.m (Y.R L)=0 from if_neg (by unfold Lay.R;omega),Int.zero_mul,Int.zero_sub]
theorem swp_of {S:Sx} (hv:Y.Val L S) (h:¬ 0<sz L.m fun i=>arts Y.N (S.β i)*S.T i (Y.R L)):Swp L Y 0 S:=by
 have hnn:∀i,i<L.m→0≤arts Y.N (S.β i)*S.T i (Y.R L):=fun i hi=>Int.mul_nonneg (by unfold arts;split<;>omega) (hv.feas i hi)
 refine ⟨hv,fun k hk hNk=>?_,fun k _ h0=>by omega⟩
 have h1:(sz L.m fun i=>if i=k then arts Y.N (S.β k)*S.T k (Y.R L) else 0)≤sz L.m fun i=>arts Y.N (S.β i)*S.T i (Y.R L):=sz_le fun i hi=>by
  by_cases e:i=k
  ·rw[if_pos e,e];exact Int.le_refl _
  ·rw[if_neg e];exact hnn i hi
 rw[sz_one hk fun i _ hne=>if_neg hne,if_pos rfl] at h1
 have h2:=hnn k hk
 have h3:arts Y.N (S.β k)=1:=if_pos hNk
 rw[h3,Int.one_mul] at h1 h2
 omega
end
def LeastQ (p:Pg) (o:Option (Fq×Int×Unit)):Prop :=
 ((∃y,(linP p).Ref y)∧o=some ((0,0),22,()))∨((∃x,(linP p).Feas x)∧(∃r,(linP p).Ray r)∧o=some ((0,0),21,())) ∨
 ∃v x y,(linP p).Feas x∧(linP p).Dual y∧(linP p).val x=v∧(linP p).rhs y=v∧o=some (prQ v,0,())
theorem bndR_of {p:Pg} (hv:ValidP p) (hs:(linP p).F0*(linP p).P≤536870912):BndR (linP p) (layR p):=by
 have h2:=hv.rows
 have h3:=hv.cost.2
 refine ⟨layR_ok hv,h2,?_,hs⟩
 show p.1.length+p.2.length+p.2.length+1≤25
 omega
theorem least_ok {p:Pg} (hv:ValidP p) (hs:(linP p).F0*(linP p).P≤536870912):LeastQ p (ref05_Least p):=by
 have hB:=bndR_of hv hs
 have hok:=layR_ok hv
 have hm:=hB.m
 have hww:=hB.w
 have hn:=hv.cost
 have hRw:(layR p).R (linP p)<(layR p).w (linP p):=by unfold Lay.R Lay.w;omega
 have hw1:(layR p).w (linP p)=(layR p).R (linP p)+1:=rfl
 have hNR:(layR p).N≤(layR p).R (linP p):=by unfold Lay.R;omega
 have hlast:IntKind.wrap .i64 ((((linP p).m+1:Nat):Int) - 1)=(((linP p).m:Nat):Int):=by rw[wrap_id (by omega) (by omega)];omega
 have hright:IntKind.wrap .i64 ((((layR p).w (linP p):Nat):Int) - 1)=(((layR p).R (linP p):Nat):Int):=by rw[wrap_id (by omega) (by omega)];omega
 unfold ref05_Least ref05_Least_b
 refine obQ (Q:=LeastQ p) (begin_ok hv) ?_
 obtain ⟨S,ok,h1,hvS,_,h2,h3⟩:=rrun_ok hB (wc_arts hB) (K:=fun _=>True) (fun _ _ _ _ _ _=>trivial) (Lay.first hok) trivial
 refine obQ (Q:=LeastQ p) h1 ?_
 simp only[tabL_len,hlast,show inB (0:Int) ((linP p).m+1)=true from inB_of (by omega) (by omega),ble_of (show 1≤(linP p).m+1 by omega),tabL_idx (show 0<(linP p).m+1 by omega),tab_snd,cell_live (show 0<(linP p).m+1 by omega),cell_row (show 0<(linP p).m+1 by omega),rowL_len,hright,inB_nat,Int.toNat_natCast,decide_eq_true (show (linP p).m<(linP p).m+1 by omega),ble_of (show Nat.succ (linP p).m≤(linP p).m+1 by omega),tabL_idx (show (linP p).m<(linP p).m+1 by omega),cell_row (show (linP p).m<(linP p).m+1 by omega),decide_eq_true hRw,ble_of (show Nat.succ ((layR p).R (linP p))≤(layR p).w (linP p) from hRw),rowL_get hRw,extT_last,zr_artR_R hvS,cT]
 have hzr:∀j,j<(layR p).N→0≤zr (linP p).m (arts (layR p).N) S j:=fun j hj=>by
  rw[←zr_artR hvS hj]
  cases ok with
  | true=>exact h2 rfl j hj
  | false =>
   obtain ⟨q,hq,hneg,hno⟩:=h3 rfl
   exfalso
   rw[zr_artR hvS hq] at hneg
   unfold zr at hneg
   rw[show arts (layR p).N q=0 from if_neg (by omega)] at hneg
   have h1:(sz (linP p).m fun i=>arts (layR p).N (S.β i)*S.T i q)≤sz (linP p).m fun _=>0:=sz_le fun i hi=>by
    have:=hno i hi
    unfold arts
    split<;>omega
   rw[sz_zero (f:=fun _=>0) fun _ _=>rfl] at h1
   omega
 by_cases hpos:0<sz (linP p).m fun i=>arts (layR p).N (S.β i)*S.T i ((layR p).R (linP p))
 ·rw[decide_eq_true (show (-sz (linP p).m fun i=>arts (layR p).N (S.β i)*S.T i ((layR p).R (linP p)))<0 by omega)]
  simp only[cT]
  exact .inl ⟨⟨_,table_ref hok hvS hzr hpos⟩,rfl⟩
 ·rw[decide_eq_false (show ¬ (-sz (linP p).m fun i=>arts (layR p).N (S.β i)*S.T i ((layR p).R (linP p)))<0 by omega)]
  simp only[cF]
  obtain ⟨S2,g1,hv2,ha2⟩:=rout_ok hB (wc_arts hB) (swp_of hvS hpos)
  refine obQ (Q:=LeastQ p) g1 ?_
  obtain ⟨hd,hb⟩:=hB.tab hv2.tb
  obtain ⟨hdP,_⟩:=table_bound hok hv2.tb
  have hwc:=wc_costs hB
  simp only[succ_wrap (show (layR p).R (linP p)≤1000000 by omega),←hw1,Int.toNat_natCast,decide_eq_true (show (0:Int)≤((layR p).w (linP p):Nat) by omega),fitB_of (show (layR p).w (linP p)*8≤140737488355328 by omega),Bool.and_self,cT,rep_row]
  refine lpK_seqQ (LeastQ p) p.1.length (by omega) (fun j=>((j:Int),rowL ((layR p).w (linP p)) (fun k=>if k<j then p.1.getD k 0 else 0),PUnit.unit)) ?_ (fun again j hj=>?_) (fun again=>?_)
  ·rw[rowL_congr (f:=fun k=>if k<0 then p.1.getD k 0 else 0) (g:=fun _=>0) fun k _=>if_neg (by omega)];rfl
  ·have hjw:j<(layR p).w (linP p):=by
    have:(layR p).N=p.1.length+p.2.length:=rfl
    omega
   simp only[decide_eq_true (show (j:Int)<p.1.length by omega),inB_nat,Int.toNat_natCast,decide_eq_true hj,rowL_len,decide_eq_true hjw,ble_of (show Nat.succ j≤(layR p).w (linP p) from hjw),cT,rowL_set hjw,succ_wrap (show j≤1000000 by omega)]
   congr 3
   refine rowL_congr fun k _=>?_
   by_cases c:k=j
   ·rw[if_pos c,if_pos (by omega),c]
   ·rw[if_neg c]
    by_cases c2:k<j
    ·rw[if_pos c2,if_pos (by omega)]
    ·rw[if_neg c2,if_neg (by omega)]
  ·simp only[decide_eq_false (show ¬ (p.1.length:Int)<p.1.length by omega),cF]
   rw[rowL_congr (f:=fun k=>if k<p.1.length then p.1.getD k 0 else 0) (g:=costs (linP p)) fun k _=>rfl]
   have hg:∀k,k<(layR p).w (linP p)→(rowL ((layR p).w (linP p)) (costs (linP p))).getD k 0=costs (linP p) k:=fun k hk=>rowL_get hk
   refine lpK_seqQ (LeastQ p) ((layR p).w (linP p)) (by omega) (fun k=>((k:Int),tabL ((linP p).m+1) ((layR p).w (linP p)) (extT (linP p).m S2.T (fun l=>if l<k then zr (linP p).m (costs (linP p)) S2 l else zr (linP p).m (artR (layR p).N (linP p).m) S2 l)),PUnit.unit)) ?_ (fun again2 k hk=>?_) (fun again2=>?_)
   ·unfold tabR
    rw[tabL_congr (T:=extT (linP p).m S2.T (zr (linP p).m (artR (layR p).N (linP p).m) S2)) (T':=extT (linP p).m S2.T (fun l=>if l<0 then zr (linP p).m (costs (linP p)) S2 l else zr (linP p).m (artR (layR p).N (linP p).m) S2 l)) fun i j _ _=>by
     unfold extT
     split
     ·exact (if_neg (by omega)).symm
     ·rfl]
    rfl
   ·have hck:=hwc.small k S2.d (by omega)
    have hci:∀i,i<(linP p).m→ -536870912≤costs (linP p) (S2.β i)*S2.T i k∧costs (linP p) (S2.β i)*S2.T i k≤536870912:=fun i hi=>hwc.small _ _ (hb i k hi hk).2
    simp only[decide_eq_true (show (k:Int)≤((layR p).R (linP p):Nat) by omega),inB_nat,Int.toNat_natCast,rowL_len,decide_eq_true hk,ble_of (show Nat.succ k≤(layR p).w (linP p) from hk),cT,hg k hk,wrap_id (x:=costs (linP p) k*S2.d) (by omega) (by omega),succ_wrap (show k≤1000000 by omega)]
    refine lpK_seqX (linP p).m (by omega) (fun i=>(costs (linP p) k*S2.d - sz i (fun i=>costs (linP p) (S2.β i)*S2.T i k),(i:Int),PUnit.unit)) _ (by simp only[sz,Int.sub_zero];rfl) (fun again3 i hi=>?_) (fun again3=>?_)
    ·have hs':=sz_bound (n:=i) (f:=fun i=>costs (linP p) (S2.β i)*S2.T i k) (B:=536870912) fun i' hi'=>hci i' (by omega)
     have h3:(i:Int)*536870912≤6*536870912:=Int.mul_le_mul_of_nonneg_right (by omega) (by omega)
     have hbi:S2.β i<(layR p).w (linP p):=hv2.tb.lt i hi
     have hii:=hci i hi
     simp only[decide_eq_true (show (i:Int)<((linP p).m:Nat) by omega),basL_len,inB_nat,Int.toNat_natCast,decide_eq_true hi,ble_of (show Nat.succ i≤(linP p).m from hi),basL_get hi,decide_eq_true hbi,ble_of (show Nat.succ (S2.β i)≤(layR p).w (linP p) from hbi),tabL_len,decide_eq_true (show i<(linP p).m+1 by omega),ble_of (show Nat.succ i≤(linP p).m+1 by omega),tabL_idx (show i<(linP p).m+1 by omega),tab_snd,cell_row (show i<(linP p).m+1 by omega),rowL_len,decide_eq_true hk,ble_of (show Nat.succ k≤(layR p).w (linP p) from hk),hg _ hbi,rowL_get hk,extT_row hi,cT,succ_wrap (show i≤1000000 by omega)]
     rw[wrap_id (x:=costs (linP p) (S2.β i)*S2.T i k) (by omega) (by omega),wrap_id (by omega) (by omega)]
     simp only[sz]
     congr 2
     omega
    ·simp only[decide_eq_false (show ¬ (((linP p).m:Nat):Int)<((linP p).m:Nat) by omega),cF,tabL_len,inB_nat,Int.toNat_natCast,decide_eq_true (show (linP p).m<(linP p).m+1 by omega),ble_of (show Nat.succ (linP p).m≤(linP p).m+1 by omega),tabL_idx (show (linP p).m<(linP p).m+1 by omega),tab_snd,cell_row (show (linP p).m<(linP p).m+1 by omega),rowL_len,decide_eq_true hk,ble_of (show Nat.succ k≤(layR p).w (linP p) from hk),cT]
     congr 3
     refine tab_put (show (linP p).m<(linP p).m+1 by omega) hk fun i l _ _=>?_
     unfold extT
     by_cases c0:i=(linP p).m
     ·by_cases c1:l=k
      ·rw[if_pos ⟨c0,c1⟩,if_pos c0]
       simp only
       rw[if_pos (by omega),c1]
       rfl
      ·rw[if_neg fun h=>c1 h.2,if_pos c0,if_pos c0]
       simp only
       by_cases c2:l<k
       ·rw[if_pos c2,if_pos (by omega)]
       ·rw[if_neg c2,if_neg (by omega)]
     ·rw[if_neg fun h=>c0 h.1,if_neg c0,if_neg c0]
   ·simp only[decide_eq_false (show ¬ (((layR p).w (linP p):Nat):Int)≤((layR p).R (linP p):Nat) by omega),cF]
    rw[tabL_congr (T:=extT (linP p).m S2.T (fun l=>if l<(layR p).w (linP p) then zr (linP p).m (costs (linP p)) S2 l else zr (linP p).m (artR (layR p).N (linP p).m) S2 l)) (T':=extT (linP p).m S2.T (zr (linP p).m (costs (linP p)) S2)) fun i j _ hj=>by
     unfold extT
     split
     ·exact if_pos hj
     ·rfl]
    obtain ⟨S3,ok3,k1,hv3,ha3,k2,k3⟩:=rrun_ok hB hwc (K:=AZ (linP p) (layR p)) (fun S r c h hr hc=>h.step hc) hv2 ha2
    refine obQ (Q:=LeastQ p) k1 ?_
    cases ok3 with
    | false =>
     simp only[Bool.not_false,cT]
     obtain ⟨q,e1,e2,e3⟩:=k3 rfl
     exact .inr (.inl ⟨⟨_,table_feas hok hv3 (ha3.art S3)⟩,⟨_,table_ray hok hv3 e1 (ha3.col S3 e1) e2 e3⟩,rfl⟩)
    | true =>
     have hz3:=k2 rfl
     obtain ⟨hd3,hb3⟩:=hB.tab hv3.tb
     have hzR:zr (linP p).m (costs (linP p)) S3 ((layR p).R (linP p))= - sz (linP p).m fun i=>costs (linP p) (S3.β i)*S3.T i ((layR p).R (linP p)):=by
      unfold zr
      rw[show costs (linP p) ((layR p).R (linP p))=0 from if_neg (by have:=hok.n;omega),Int.zero_mul,Int.zero_sub]
     have hs':=sz_bound (n:=(linP p).m) (f:=fun i=>costs (linP p) (S3.β i)*S3.T i ((layR p).R (linP p))) (B:=536870912) fun i hi=>hwc.small _ _ (hb3 i _ hi hRw).2
     have h3:((linP p).m:Int)*536870912≤6*536870912:=Int.mul_le_mul_of_nonneg_right (by omega) (by omega)
     simp only[Bool.not_true,cF,tabL_len,inB_nat,Int.toNat_natCast,decide_eq_true (show (linP p).m<(linP p).m+1 by omega),ble_of (show Nat.succ (linP p).m≤(linP p).m+1 by omega),tabL_idx (show (linP p).m<(linP p).m+1 by omega),tab_snd,cell_row (show (linP p).m<(linP p).m+1 by omega),rowL_len,decide_eq_true hRw,ble_of (show Nat.succ ((layR p).R (linP p))≤(layR p).w (linP p) from hRw),cT,rowL_get hRw,extT_last,hzR]
     rw[show (0:Int) - -(sz (linP p).m fun i=>costs (linP p) (S3.β i)*S3.T i ((layR p).R (linP p)))=sz (linP p).m fun i=>costs (linP p) (S3.β i)*S3.T i ((layR p).R (linP p)) by omega,wrap_id (by omega) (by omega),RMake_ok (by omega) (by omega) (by omega) (by omega),obind_some']
     obtain ⟨v1,v2⟩:=table_value hok hv3
     refine .inr (.inr ⟨_,_,_,table_feas hok hv3 (ha3.art S3),table_dual hok hv3 hz3,v1,v2,?_⟩)
     rw[if_neg (by omega),divQ_eq (by omega)]
     unfold fitQ
     rw[if_pos (fitsDiv (by omega) (by omega) (by omega))]
end Go.Proofs.Ytnbbackjofgcfaa

namespace Go.Proofs.Ytnbbackjofgcfaa
open Try Dn Dn.Sh
def FarkasQ (p:Pg) (o:Option (List Fq×Int×Unit)):Prop :=
 (∃S,Infeas p S∧o=some (yL p (arts (layP p).N) S,0,()))∨∃S,(layP p).Val (linP p) S∧AZ (linP p) (layP p) S∧o=some ([],12,())
theorem farkas_ok {p:Pg} (hv:ValidP p) (hf:FitsL (linP p)):FarkasQ p (program_Farkas p):=by
 have hB:=bnd_of hv hf
 obtain ⟨hw25,hm6'⟩:=layP_w hv
 have hm6:p.2.length≤6:=hm6'
 have hn:=hv.cost.2
 have hok:=layP_ok hv
 have hpow:(layP p).w (linP p) ^ (linP p).m≤1180591620717411303424:=Nat.le_trans (Nat.pow_le_pow_left (show _≤64 by omega) _) (Nat.le_trans (Nat.pow_le_pow_right (by omega) hm6') (by decide))
 have hcnt:=cntS_le (p:=p) p.2.length
 have hNe:IntKind.wrap .i64 ((p.1.length:Int)+(cntS p p.2.length:Nat))=((layP p).N:Int):=by rw[wrap_id (by omega) (by omega)];rfl
 have hRe:IntKind.wrap .i64 (((layP p).N:Int)+(p.2.length:Int))=(((layP p).R (linP p):Nat):Int):=by
  have:(layP p).N=p.1.length+cntS p p.2.length:=rfl
  rw[wrap_id (by omega) (by omega)];rfl
 unfold program_Farkas program_Farkas_b
 rw[pValid_ok,obN,validP_iff.2 hv]
 simp only[Bool.not_true,cF]
 rw[fits_okP hv,obN,decide_eq_true hf]
 simp only[Bool.not_true,cF]
 refine cnt_loopQ hv (FarkasQ p) (fun again i s hi=>?_) (fun again=>?_)
 ·simp only[decide_eq_true (show (i:Int)<p.2.length by omega),inB_nat,decide_eq_true hi,Int.toNat_natCast,cT,succ_wrap (show i≤1000000 by omega)]
 simp only[decide_eq_false (show ¬ (p.2.length:Int)<p.2.length by omega),cF,slices_Clone_22,slices_Clone_22_b,fitB_of (show (0+p.1.length)*8≤140737488355328 by omega),cT,obind_some',hNe,hRe]
 refine newB_loopQ hv (FarkasQ p) ?_
 obtain ⟨S,ok,h1,hvS,h2,h3⟩:=start_ok hB hpow (x3:=rowL p.2.length (layP p).σ) (cs:=p.1) (Lay.first hok)
 refine obQ (Q:=FarkasQ p) h1 ?_
 cases ok with
 | true =>
  simp only[cT]
  exact .inr ⟨S,hvS,h2 rfl,rfl⟩
 | false =>
  simp only[cF]
  refine .inl ⟨S,⟨hvS,(h3 rfl).1,(h3 rfl).2⟩,?_⟩
  obtain ⟨⟨d1,d2⟩,hb⟩:=hB.tab hvS.tb
  have hm:(linP p).m=p.2.length:=rfl
  refine lpK_seqX p.2.length (by omega) (fun k=>(rowL k (fun k=>prQ (yval (linP p).m (layP p).N (arts (layP p).N) S (layP p).σ k)),(k:Int),PUnit.unit)) _ rfl (fun again k hk=>?_) (fun again=>?_)
  ·have hNk:(layP p).N+k<(layP p).w (linP p):=by unfold Lay.w;omega
   have hNke:IntKind.wrap .i64 (((layP p).N:Int)+(k:Int))=(((layP p).N+k:Nat):Int):=by
    have:(layP p).N=p.1.length+cntS p p.2.length:=rfl
    rw[wrap_id (by omega) (by omega)];rfl
   have hbk:∀i,i<(linP p).m→ -1125899906842624≤S.T i ((layP p).N+k)∧S.T i ((layP p).N+k)≤1125899906842624:=fun i hi=>by have:=hb i _ hi hNk;omega
   have hbk2:∀i,i<(linP p).m→ -17592186044416≤arts (layP p).N (S.β i)*S.T i ((layP p).N+k)∧arts (layP p).N (S.β i)*S.T i ((layP p).N+k)≤17592186044416:=fun i hi=>by
    have:=hb i _ hi hNk
    unfold arts
    split<;>omega
   have hs:=sz_bound (n:=(linP p).m) (f:=fun i=>arts (layP p).N (S.β i)*S.T i ((layP p).N+k)) (B:=17592186044416) hbk2
   have h6:((linP p).m:Int)*17592186044416≤6*17592186044416:=Int.mul_le_mul_of_nonneg_right (by omega) (by omega)
   have hab:=sig_abs (p:=p) k (sz (linP p).m fun i=>arts (layP p).N (S.β i)*S.T i ((layP p).N+k))
   simp only[decide_eq_true (show (k:Int)<p.2.length by omega),cT,hNke,rowL_len,inB_nat,Int.toNat_natCast,decide_eq_true hk,ble_of (show Nat.succ k≤p.2.length from hk),rowL_get hk,tab_all,tab_map,artificial_ok (show (linP p).m≤1000 by omega) hNk hbk,obind_some',
    wrap_id (x:=(layP p).σ k*sz (linP p).m fun i=>arts (layP p).N (S.β i)*S.T i ((layP p).N+k)) (by omega) (by omega),part_ok ⟨d1,d2⟩ (show ((layP p).σ k*sz (linP p).m fun i=>arts (layP p).N (S.β i)*S.T i ((layP p).N+k)).natAbs≤1152921504606846976 by omega),fitB_of (show (k+1)*16≤140737488355328 by omega),succ_wrap (show k≤1000000 by omega)]
   rw[show prQ ((((layP p).σ k*sz (linP p).m fun i=>arts (layP p).N (S.β i)*S.T i ((layP p).N+k):Int):Rat) / (S.d:Rat))=(fun k=>prQ (yval (linP p).m (layP p).N (arts (layP p).N) S (layP p).σ k)) k from rfl,rowL_snoc]
  ·simp only[decide_eq_false (show ¬ (p.2.length:Int)<p.2.length by omega),cF]
end Go.Proofs.Ytnbbackjofgcfaa

namespace Go.Proofs.Ytnbbackjofgcfaa
open Try Dn Dn.Sh
end Go.Proofs.Ytnbbackjofgcfaa

namespace Go.Proofs.Ytnbbackjofgcfaa
open Try Dn Dn.Sh
def colP (p:Pg) (j:Nat):List Int:=p.2.map fun r=>r.1.getD j 0
def rightP (p:Pg):List Int:=p.2.map fun r=>r.2.2
theorem map_loop {g:Rw→Int} {rs:List Rw} {F:(List Int×Int×PUnit→Option (List Int))→List Int×Int×PUnit→Option (List Int)} (h:rs.length≤1000000)
  (hF:∀again (i:Nat),i<rs.length→F again ((rs.take i).map g,(i:Int),PUnit.unit)=again ((rs.take i).map g++[g (rs.getD i rw0)],((i+1:Nat):Int),PUnit.unit))
  (hf:∀again,F again (rs.map g,(rs.length:Int),PUnit.unit)=some (rs.map g)):lpK (List Int×Int×PUnit) (List Int) F ([],(0:Int),PUnit.unit)=some (rs.map g):=by
 refine (lpK_up (α:=List Int×Int×PUnit) (σ:=Unit) rs.length (by omega) (fun i _=>((rs.take i).map g,(i:Int),PUnit.unit)) (fun i s k=>bif true then k s else none) (fun _=>some (rs.map g)) ?_ ?_ ()).trans ?_
 ·intro again i _ hi
  rw[hF again i hi,cT]
  congr 2
  rw[getD_nat hi,List.take_succ_eq_append_getElem hi,List.map_append]
  rfl
 ·intro again _
  rw[List.take_length]
  exact hf again
 ·refine (upF_all (p:=fun _=>true) (r:=none) rs.length (fun _ _ _=>rfl) rs.length 0 (by omega)).trans ?_
  rw[show ((List.range' 0 rs.length).all fun _=>true)=true from List.all_eq_true.2 fun _ _=>rfl]
  rfl
theorem take_map_len {g:Rw→Int} {rs:List Rw} {i:Nat}:((rs.take i).map g).length≤rs.length:=by
 rw[List.length_map,List.length_take];omega
theorem column_ok {p:Pg} {j:Nat} (hv:ValidP p) (hj:j<p.1.length):program_column p (j:Int)=some (colP p j):=by
 obtain ⟨c,rs⟩:=p
 unfold program_column program_column_b colP
 have h6:=hv.rows
 simp only at h6 hj
 refine map_loop (rs:=rs) (g:=fun r=>r.1.getD j 0) (by omega) (fun again i hi=>?_) (fun again=>by simp)
 have hw:IntKind.wrap .i64 ((i:Int)+1)=((i+1:Nat):Int):=by rw[wrap_id (by omega) (by omega)];rfl
 have hr:rs.getD i rw0 ∈ rs:=by rw[getD_nat hi];exact List.getElem_mem _
 have hL:=hv.len _ hr
 have hT:=take_map_len (g:=fun r=>r.1.getD j 0) (rs:=rs) (i:=i)
 simp only at hL
 simp only[inB_nat,decide_eq_true hi,decide_eq_true (show (i:Int)<rs.length by omega),cT,Int.toNat_natCast,hw,decide_eq_true (show j<(rs.getD i rw0).1.length by omega),fitB_of (show (((rs.take i).map fun r=>r.1.getD j 0).length+1)*8≤140737488355328 by omega)]
theorem rights_ok {p:Pg} (hv:ValidP p):program_rights p=some (rightP p):=by
 obtain ⟨c,rs⟩:=p
 unfold program_rights program_rights_b rightP
 have h6:=hv.rows
 simp only at h6
 refine map_loop (rs:=rs) (g:=fun r=>r.2.2) (by omega) (fun again i hi=>?_) (fun again=>by simp)
 have hw:IntKind.wrap .i64 ((i:Int)+1)=((i+1:Nat):Int):=by rw[wrap_id (by omega) (by omega)];rfl
 have hT:=take_map_len (g:=fun r=>r.2.2) (rs:=rs) (i:=i)
 simp only[inB_nat,decide_eq_true hi,decide_eq_true (show (i:Int)<rs.length by omega),cT,Int.toNat_natCast,hw,fitB_of (show (((rs.take i).map fun r=>r.2.2).length+1)*8≤140737488355328 by omega)]
end Go.Proofs.Ytnbbackjofgcfaa

namespace Go.Proofs.Ytnbbackjofgcfaa
open Try Dn Dn.Sh
def signK (k n:Int):Bool:=(decide (k≠1)||decide (n≤0))&&(decide (k≠2)||decide (0≤n))
def signedB (p:Pg) (y:List Fq):Bool:=(List.range' 0 p.2.length).all fun i=>signK (p.2.getD i rw0).2.1 (y.getD i (0,0)).1
theorem signed_okP {p:Pg} {y:List Fq} (hv:ValidP p) (hl:y.length=p.2.length):program_signed p y=some (signedB p y):=by
 obtain ⟨c,rs⟩:=p
 unfold program_signed program_signed_b signedB
 have h6:=hv.rows
 simp only at h6 hl ⊢
 refine (lpK_up (α:=Int×PUnit) (σ:=Unit) rs.length (by omega) (fun i _=>((i:Int),PUnit.unit)) (fun i s k=>bif signK (rs.getD i rw0).2.1 (y.getD i (0,0)).1 then k s else some false) (fun _=>some true) ?_ ?_ ()).trans ?_
 ·intro again i _ hi
  have hw:IntKind.wrap .i64 ((i:Int)+1)=((i+1:Nat):Int):=by rw[wrap_id (by omega) (by omega)];rfl
  simp only[inB_nat,decide_eq_true hi,decide_eq_true (show (i:Int)<rs.length by omega),decide_eq_true (show i<y.length by omega),cT,Int.toNat_natCast,hw]
  obtain ⟨n,hn⟩:∃n,(y.getD i (0,0)).1=n:=⟨_,rfl⟩
  obtain ⟨kd,hkd⟩:∃kd,(rs.getD i rw0).2.1=kd:=⟨_,rfl⟩
  simp only[hn,hkd,signK]
  by_cases k1:kd=1<;>by_cases k2:kd=2<;>by_cases c1:n≤0<;>by_cases c2:0≤n<;>by_cases c3:n>0<;>by_cases c4:n<0<;>first | (exfalso;omega) | simp[k1,k2,c1,c2,c3,c4]
 ·intro again s
  simp only[decide_eq_false (show ¬ (rs.length:Int)<rs.length by omega),cF]
 ·refine (upF_all (p:=fun i=>signK (rs.getD i rw0).2.1 (y.getD i (0,0)).1) (r:=some false) rs.length (fun _ _ _=>rfl) rs.length 0 (by omega)).trans ?_
  cases (List.range' 0 rs.length).all fun i=>signK (rs.getD i rw0).2.1 (y.getD i (0,0)).1<;>rfl
end Go.Proofs.Ytnbbackjofgcfaa

namespace Go.Proofs.Ytnbbackjofgcfaa
open Try Dn Dn.Sh
noncomputable def fitsY (p:Pg) (y:List Fq):Bool:=(List.range' 0 p.1.length).all fun j=>(sumR (colP p j) y 0).isSome
noncomputable def belowB (p:Pg) (y:List Fq) (f:Nat→Int):Bool:=(List.range' 0 p.1.length).all fun j=>decide (cmpQ ((sumR (colP p j) y 0).getD 0) (f j:Rat)≤0)
theorem col_inC {p:Pg} {j:Nat} (hv:ValidP p) (hj:j<p.1.length):∀n ∈ colP p j,inC n=true:=fun n hn=>by
 obtain ⟨r,hr,rfl⟩:=List.mem_map.1 hn
 rw[getD_nat (by rw[hv.len r hr];exact hj)]
 exact hv.coefs r hr _ (List.getElem_mem _)
theorem col_len {p:Pg} {j:Nat}:(colP p j).length=p.2.length:=by unfold colP;rw[List.length_map]
theorem right_len {p:Pg}:(rightP p).length=p.2.length:=by unfold rightP;rw[List.length_map]
theorem right_inR {p:Pg} (hv:ValidP p):∀n ∈ rightP p,inR n=true:=fun n hn=>by
 obtain ⟨r,hr,rfl⟩:=List.mem_map.1 hn
 exact hv.right r hr
theorem upF_and {R:Type} {n:Nat} {g h:Nat→Bool} {f:Bool×Int→Option R} {b:Nat→Bool×Int→(Bool×Int→Option R)→Option R}
  (hb:∀i s k,i<n→b i s k=k (s.1&&h i,bif g i then s.2 else 5)):∀(k i:Nat) (s:Bool×Int),i+k≤n →
  upF b f k i s=f (s.1&&(List.range' i k).all h,bif (List.range' i k).all g then s.2 else 5)
 | 0,i,s,_=>by simp[upF]
 | k+1,i,s,hi=>by
  simp only[upF,hb i s _ (by omega)]
  rw[upF_and hb k (i+1) _ (by omega)]
  simp only[List.range'_succ,List.all_cons,Bool.and_assoc]
  congr 2
  cases g i<;>cases (List.range' (i+1) k).all g<;>rfl
end Go.Proofs.Ytnbbackjofgcfaa

namespace Go.Proofs.Ytnbbackjofgcfaa
open Try Dn Dn.Sh
theorem of_okR {l:List Int} {x:List Fq} {e:Int} (hl:l.length≤x.length) (h0:l.length≤1000000) (hc:∀n ∈ l,inR n=true) (hx:∀a ∈ x,okF a) :
  program_sums_of e l x=some (bif (sumR l x 0).isSome then e else 5,prQ ((sumR l x 0).getD 0)):=by
 rw[of_ok hl h0 (fun n hn=>inR_big (hc n hn)) hx]
 cases sumR l x 0<;>rfl
noncomputable def sumY (p:Pg) (y:List Fq):Option Rat:=sumR (rightP p) y 0
noncomputable def posB (p:Pg) (y:List Fq):Bool:=decide (0<(prQ ((sumY p y).getD 0)).1)
noncomputable def refB (p:Pg) (y:List Fq):Bool:=posB p y&&(signedB p y&&belowB p y fun _=>0)
theorem prefutes_ok {p:Pg} {y:List Fq} (h:y.length≤1000000):program_Refutes p y=some (bif validP p&&okL y then bif decide (y.length=p.2.length) then bif fitsY p y&&(sumY p y).isSome then (refB p y,0,()) else (false,5,()) else (false,3,()) else (false,1,())):=by
 unfold program_Refutes program_Refutes_b
 rw[pValid_ok,obN]
 simp only[right_ok h,not_or_self',or_self_not,cT]
 cases hv:validP p with
 | false=>rfl
 | true =>
  simp only[Bool.not_true,Bool.not_false,cT]
  rw[obN]
  cases hx:okL y with
  | false=>rfl
  | true =>
   have hV:=validP_iff.1 hv
   have hX:=okL_iff.1 hx
   have h6:=hV.rows
   have h7:=hV.cost.2
   simp only[Bool.not_true,cF,Bool.and_self,cT]
   by_cases hl:y.length=p.2.length
   ·simp only[decide_eq_true hl,decide_eq_true (show (y.length:Int)=p.2.length by omega),Bool.not_true,cT,cF]
    refine (lpK_up (α:=Bool×Int×Int×PUnit) p.1.length (by omega) (fun i (s:Bool×Int)=>(s.1,(i:Int),s.2,PUnit.unit)) (fun j s k=>k (s.1&&decide (cmpQ ((sumR (colP p j) y 0).getD 0) ((0:Int):Rat)≤0),bif (sumR (colP p j) y 0).isSome then s.2 else 5))
     (fun s=>some ((posB p y&&(signedB p y&&s.1))&&decide ((bif (sumY p y).isSome then s.2 else 5)=0),bif (sumY p y).isSome then s.2 else 5,())) ?_ ?_ (true,0)).trans ?_
    ·intro again i s hi
     have hw:IntKind.wrap .i64 ((i:Int)+1)=((i+1:Nat):Int):=by rw[wrap_id (by omega) (by omega)];rfl
     have h1:=of_ok' (l:=colP p i) (x:=y) (e:=s.2) (by rw[col_len];omega) (by rw[col_len];omega) (col_inC hV hi) hX
     have h2:=pcmp_ok (n:=0) (okF_prQ (sumR_ok (l:=colP p i) (x:=y))) (by omega)
     rw[qv_prQ] at h2
     simp only[decide_eq_true (show (i:Int)<p.1.length by omega),cT,column_ok hV hi,h1,program_Refutes_1,program_Refutes_1_b,h2,obind_some',hw]
     cases decide (cmpQ ((sumR (colP p i) y 0).getD 0) ((0:Int):Rat)≤0)<;>cases s.1<;>rfl
    ·intro again s
     have h1:=of_okR (l:=rightP p) (x:=y) (e:=s.2) (by rw[right_len];omega) (by rw[right_len];omega) (right_inR hV) hX
     simp only[decide_eq_false (show ¬ (p.1.length:Int)<p.1.length by omega),cF,rights_ok hV,h1,obind_some',signed_okP hV hl]
     obtain ⟨n,hn⟩:∃n,(prQ ((sumR (rightP p) y 0).getD 0)).1=n:=⟨_,rfl⟩
     simp only[posB,sumY,hn]
     by_cases c1:n>0
     ·simp only[decide_eq_true c1]
      cases signedB p y<;>cases s.1<;>rfl
     ·simp only[decide_eq_false c1]
      cases signedB p y<;>cases s.1<;>rfl
    ·rw[upF_and (n:=p.1.length) (g:=fun j=>(sumR (colP p j) y 0).isSome) (h:=fun j=>decide (cmpQ ((sumR (colP p j) y 0).getD 0) ((0:Int):Rat)≤0)) (fun _ _ _ _=>rfl) p.1.length 0 _ (by omega)]
     rw[show ((List.range' 0 p.1.length).all fun j=>(sumR (colP p j) y 0).isSome)=fitsY p y from rfl,show ((List.range' 0 p.1.length).all fun j=>decide (cmpQ ((sumR (colP p j) y 0).getD 0) ((0:Int):Rat)≤0))=belowB p y (fun _=>0) from rfl]
     unfold refB
     cases fitsY p y<;>cases (sumY p y).isSome<;>cases posB p y<;>cases signedB p y<;>cases belowB p y (fun _=>0)<;>rfl
   ·simp only[decide_eq_false hl,decide_eq_false (show ¬ (y.length:Int)=p.2.length by omega),Bool.not_false,cT,cF]
end Go.Proofs.Ytnbbackjofgcfaa

namespace Go.Proofs.Ytnbbackjofgcfaa
open Try Dn Dn.Sh
end Go.Proofs.Ytnbbackjofgcfaa

namespace Go.Proofs.Ytnbbackjofgcfaa
open Try Dn Dn.Sh
end Go.Proofs.Ytnbbackjofgcfaa

namespace Go.Proofs.Ytnbbackjofgcfaa
open Try Dn Dn.Sh
def eqV (q:Rat) (v:Fq):Bool:=decide ((prQ q).1=v.1)&&(decide ((prQ q).2=v.2)&&true)
noncomputable def provesB (p:Pg) (y:List Fq) (v:Fq):Bool:=belowB p y (fun j=>p.1.getD j 0)&&(eqV ((sumY p y).getD 0) v&&signedB p y)
noncomputable def fitsA (p:Pg) (x y:List Fq):Bool:=fitsX p x&&((sumR p.1 x 0).isSome&&(fitsY p y&&(sumY p y).isSome))
noncomputable def checkB (p:Pg) (v:Fq) (x y:List Fq):Bool:=feasB p x&&(eqV ((sumR p.1 x 0).getD 0) v&&provesB p y v)
theorem pcheck_ok {p:Pg} {v:Fq} {x y:List Fq} (hx:x.length≤1000000) (hy:y.length≤1000000):program_Check p (v,x,y)=some (bif validP p&&(decide (okF v)&&(okL x&&okL y)) then bif decide (x.length=p.1.length)&&decide (y.length=p.2.length) then bif fitsA p x y then (checkB p v x y,0,()) else (false,5,()) else (false,3,()) else (false,1,())):=by
 unfold program_Check program_Check_b
 rw[pValid_ok,obN]
 simp only[right_ok hx,right_ok hy,Valid_ok,not_or_self',or_self_not,cT]
 cases hv:validP p with
 | false=>rfl
 | true =>
  simp only[Bool.not_true,Bool.not_false,cT]
  rw[obN]
  cases hvv:decide (okF v) with
  | false=>rfl
  | true =>
  simp only[Bool.not_true,Bool.not_false,cT,cF]
  rw[obN]
  cases hx':okL x with
  | false=>rfl
  | true =>
  simp only[Bool.not_true,Bool.not_false,cT,cF]
  rw[obN]
  cases hy':okL y with
  | false=>rfl
  | true =>
   have hV:=validP_iff.1 hv
   have hX:=okL_iff.1 hx'
   have hY:=okL_iff.1 hy'
   have h6:=hV.rows
   have h7:=hV.cost.2
   simp only[Bool.not_true,cF,Bool.and_self,cT]
   by_cases hl:x.length=p.1.length
   ·simp only[decide_eq_true hl,decide_eq_true (show (x.length:Int)=p.1.length by omega),Bool.not_true,cT,cF,Bool.true_and]
    by_cases hm:y.length=p.2.length
    ·simp only[decide_eq_true hm,decide_eq_true (show (y.length:Int)=p.2.length by omega),Bool.not_true,cT,cF]
     rw[sfeas_ok hV hX hl,obN,of_ok' (by omega) (by omega) (fun n hn=>hV.cs n hn) hX,obN]
     have hi:∀e0:Bool,(!e0||e0)=true:=fun e0=>by cases e0<;>rfl
     simp only[hi,cT]
     refine (lpK_up (α:=Bool×Int×Int×PUnit) p.1.length (by omega) (fun i (s:Bool×Int)=>(s.1,(i:Int),s.2,PUnit.unit)) (fun j s k=>k (s.1&&decide (cmpQ ((sumR (colP p j) y 0).getD 0) ((p.1.getD j 0:Int):Rat)≤0),bif (sumR (colP p j) y 0).isSome then s.2 else 5))
      (fun s=>some ((feasB p x&&(eqV ((sumR p.1 x 0).getD 0) v&&(s.1&&(eqV ((sumY p y).getD 0) v&&signedB p y))))&&decide ((bif (sumY p y).isSome then s.2 else 5)=0),bif (sumY p y).isSome then s.2 else 5,())) ?_ ?_ (true,_)).trans ?_
     ·intro again i s hi'
      have hw:IntKind.wrap .i64 ((i:Int)+1)=((i+1:Nat):Int):=by rw[wrap_id (by omega) (by omega)];rfl
      have h1:=of_ok' (l:=colP p i) (x:=y) (e:=s.2) (by rw[col_len];omega) (by rw[col_len];omega) (col_inC hV hi') hY
      have hn:p.1.getD i 0 ∈ p.1:=by rw[getD_nat (by omega)];exact List.getElem_mem _
      have h2:=pcmp_ok (n:=p.1.getD i 0) (okF_prQ (sumR_ok (l:=colP p i) (x:=y))) (inC_big (hV.cs _ hn))
      rw[qv_prQ] at h2
      simp only[decide_eq_true (show (i:Int)<p.1.length by omega),cT,column_ok hV hi',h1,program_Check_1,program_Check_1_b,inB_nat,decide_eq_true hi',Int.toNat_natCast,h2,obind_some',hw,hi]
      cases decide (cmpQ ((sumR (colP p i) y 0).getD 0) ((p.1.getD i 0:Int):Rat)≤0)<;>cases s.1<;>rfl
     ·intro again s
      have h1:=of_okR (l:=rightP p) (x:=y) (e:=s.2) (by rw[right_len];omega) (by rw[right_len];omega) (right_inR hV) hY
      simp only[decide_eq_false (show ¬ (p.1.length:Int)<p.1.length by omega),cF,rights_ok hV,h1,obind_some',signed_okP hV hm,hi,cT,Bool.and_self]
      unfold eqV sumY
      obtain ⟨b1,e1⟩:∃b,(decide ((prQ ((sumR (rightP p) y 0).getD 0)).1=v.1)&&(decide ((prQ ((sumR (rightP p) y 0).getD 0)).2=v.2)&&true))=b:=⟨_,rfl⟩
      obtain ⟨b2,e2⟩:∃b,(decide ((prQ ((sumR p.1 x 0).getD 0)).1=v.1)&&(decide ((prQ ((sumR p.1 x 0).getD 0)).2=v.2)&&true))=b:=⟨_,rfl⟩
      simp only[e1,e2]
      cases b1<;>cases b2<;>cases signedB p y<;>cases s.1<;>cases feasB p x<;>rfl
     ·rw[upF_and (n:=p.1.length) (g:=fun j=>(sumR (colP p j) y 0).isSome) (h:=fun j=>decide (cmpQ ((sumR (colP p j) y 0).getD 0) ((p.1.getD j 0:Int):Rat)≤0)) (fun _ _ _ _=>rfl) p.1.length 0 _ (by omega)]
      rw[show ((List.range' 0 p.1.length).all fun j=>(sumR (colP p j) y 0).isSome)=fitsY p y from rfl,show ((List.range' 0 p.1.length).all fun j=>decide (cmpQ ((sumR (colP p j) y 0).getD 0) ((p.1.getD j 0:Int):Rat)≤0))=belowB p y (fun j=>p.1.getD j 0) from rfl]
      unfold fitsA checkB provesB
      generalize fitsY p y=b1
      generalize (sumY p y).isSome=b2
      generalize fitsX p x=b3
      generalize (sumR p.1 x 0).isSome=b4
      generalize feasB p x=b5
      generalize eqV ((sumR p.1 x 0).getD 0) v=b6
      generalize belowB p y (fun j=>p.1.getD j 0)=b7
      generalize eqV ((sumY p y).getD 0) v=b8
      generalize signedB p y=b9
      cases b1<;>cases b2<;>cases b3<;>cases b4<;>(try rfl)<;>cases b5<;>cases b6<;>cases b7<;>cases b8<;>cases b9<;>rfl
    ·simp only[decide_eq_false hm,decide_eq_false (show ¬ (y.length:Int)=p.2.length by omega),Bool.not_false,cT,cF]
   ·simp only[decide_eq_false hl,decide_eq_false (show ¬ (x.length:Int)=p.1.length by omega),Bool.not_false,Bool.not_true,cT,cF,Bool.false_and]
end Go.Proofs.Ytnbbackjofgcfaa

namespace Go.Proofs.Ytnbbackjofgcfaa
open Try Dn Dn.Sh
def vX (x:List Fq) (j:Nat):Rat:=qv (x.getD j (0,0))
theorem sq_front {f:Nat→Rat}:∀{n:Nat},sq (n+1) f=f 0+sq n fun i=>f (i+1)
 | 0=>by simp only[sq];grind
 | n+1=>by
  rw[sq,sq_front (n:=n)]
  simp only[sq]
  grind
theorem sumR_val:∀{l:List Int} {x:List Fq} {s q:Rat},l.length≤x.length→sumR l x s=some q→q=s+sq l.length fun j=>((l.getD j 0:Int):Rat)*vX x j
 | [],x,s,q,_,h=>by
  unfold sumR at h
  injection h with h
  simp only[List.length_nil,sq]
  grind
 | n ::l,[],s,q,hl,h=>by simp at hl
 | n ::l,a ::x,s,q,hl,h=>by
  unfold sumR at h
  split at h
  ·have h1:=sumR_val (l:=l) (x:=x) (by simpa using hl) h
   rw[List.length_cons,sq_front,h1]
   have e1:∀j,(n ::l).getD (j+1) 0=l.getD j 0:=fun j=>rfl
   have e2:∀j,vX (a ::x) (j+1)=vX x j:=fun j=>rfl
   simp only[e1,e2]
   have e3:((n ::l).getD 0 0:Int)=n:=rfl
   have e4:vX (a ::x) 0=qv a:=rfl
   rw[e3,e4]
   grind
  ·cases h
theorem sumR_get {l:List Int} {x:List Fq} (hl:l.length≤x.length) (h:(sumR l x 0).isSome=true):(sumR l x 0).getD 0=sq l.length fun j=>((l.getD j 0:Int):Rat)*vX x j:=by
 cases hq:sumR l x 0 with
 | none=>rw[hq] at h;cases h
 | some q =>
  have:=sumR_val hl hq
  rw[Option.getD_some,this]
  grind
theorem cmpQ_le {a b:Rat}:cmpQ a b≤0↔a≤b:=by
 unfold cmpQ
 by_cases h:a<b
 ·rw[if_pos h]
  exact ⟨fun _=>Rat.le_of_lt h,fun _=>by omega⟩
 ·rw[if_neg h]
  by_cases h2:a=b
  ·rw[if_pos h2]
   exact ⟨fun _=>by rw[h2];exact Rat.le_refl,fun _=>by omega⟩
  ·rw[if_neg h2]
   refine ⟨fun h3=>by omega,fun h3=>?_⟩
   exact (h (Rat.lt_of_le_of_ne h3 h2)).elim
theorem cmpQ_ge {a b:Rat}:cmpQ a b≥0↔b≤a:=by
 unfold cmpQ
 by_cases h:a<b
 ·rw[if_pos h]
  exact ⟨fun h3=>by omega,fun h3=>(Rat.not_lt.2 h3 h).elim⟩
 ·rw[if_neg h]
  have h1:=Rat.not_lt.1 h
  split<;>exact ⟨fun _=>h1,fun _=>by omega⟩
theorem cmpQ_eq {a b:Rat}:cmpQ a b=0↔a=b:=by
 unfold cmpQ
 by_cases h:a<b
 ·rw[if_pos h]
  exact ⟨fun h3=>by omega,fun h3=>by rw[h3] at h;exact (Rat.lt_irrefl h).elim⟩
 ·rw[if_neg h]
  by_cases h2:a=b
  ·rw[if_pos h2]
   exact ⟨fun _=>h2,fun _=>rfl⟩
  ·rw[if_neg h2]
   exact ⟨fun h3=>by omega,fun h3=>(h2 h3).elim⟩
theorem all_idx {α:Type} {P:α→Bool} {l:List α} (d:α):l.all P=true↔∀k,k<l.length→P (l.getD k d)=true:=by
 rw[←all_range (p:=P) d,List.all_eq_true]
 exact ⟨fun h k hk=>h k (List.mem_range'.2 ⟨k,hk,by omega⟩),fun h i hi=>by obtain ⟨k,hk,rfl⟩:=List.mem_range'.1 hi;exact h _ (by omega)⟩
theorem row_sum {p:Pg} {x:List Fq} (hv:ValidP p) (hl:x.length=p.1.length) {k:Nat} (hk:k<p.2.length) (h:(sumR (p.2.getD k rw0).1 x 0).isSome=true):(sumR (p.2.getD k rw0).1 x 0).getD 0=(linP p).row (vX x) k:=by
 have hr:p.2.getD k rw0 ∈ p.2:=by rw[getD_nat hk];exact List.getElem_mem _
 rw[sumR_get (by rw[hv.len _ hr,hl];exact Nat.le_refl _) h,hv.len _ hr]
 rfl
theorem feas_iff {p:Pg} {x:List Fq} (hv:ValidP p) (hx:∀a ∈ x,okF a) (hl:x.length=p.1.length) (hf:fitsX p x=true):feasB p x=true↔(linP p).Feas (vX x):=by
 have hrow:∀k,k<p.2.length→(sumR (p.2.getD k rw0).1 x 0).getD 0=(linP p).row (vX x) k:=fun k hk=>row_sum hv hl hk ((all_idx (P:=fun r:Rw=>(sumR r.1 x 0).isSome) rw0).1 hf k hk)
 have hkd:∀k,k<p.2.length→1≤(p.2.getD k rw0).2.1∧(p.2.getD k rw0).2.1≤3:=fun k hk=>hv.kind _ (by rw[getD_nat hk];exact List.getElem_mem _)
 have hpos:∀j,j<x.length→(decide (0≤(x.getD j (0,0)).1)=true↔0≤vX x j):=fun j hj=>by
  rw[decide_eq_true_iff]
  exact (okF_nonneg (hx _ (by rw[getD_nat hj];exact List.getElem_mem _))).symm
 unfold feasB
 rw[Bool.and_eq_true,all_idx (0,0),all_idx rw0]
 have hhold:∀k,k<p.2.length→(holdR x (p.2.getD k rw0)=true↔((linP p).kd k≠2→(linP p).row (vX x) k≤(linP p).b k)∧((linP p).kd k≠1→((linP p).b k:Rat)≤(linP p).row (vX x) k)):=fun k hk=>by
  unfold holdR holdK
  rw[hrow k hk]
  have h1:=hkd k hk
  have e1:(linP p).kd k=(p.2.getD k rw0).2.1:=rfl
  have e2:(linP p).b k=(p.2.getD k rw0).2.2:=rfl
  rw[e1,e2]
  simp only[Bool.and_eq_true,Bool.or_eq_true,decide_eq_true_iff,cmpQ_le,cmpQ_ge,cmpQ_eq]
  generalize (p.2.getD k rw0).2.1=kd at *
  generalize (linP p).row (vX x) k=r at *
  generalize ((p.2.getD k rw0).2.2:Rat)=b at *
  constructor
  ·rintro ⟨a1,a2,a3⟩
   refine ⟨fun h=>?_,fun h=>?_⟩
   ·rcases a1 with a1 | a1
    ·rcases a3 with a3 | a3
     ·omega
     ·rw[a3];exact Rat.le_refl
    ·exact a1
   ·rcases a2 with a2 | a2
    ·rcases a3 with a3 | a3
     ·omega
     ·rw[a3];exact Rat.le_refl
    ·exact a2
  ·rintro ⟨a1,a2⟩
   by_cases c1:kd=1
   ·exact ⟨.inr (a1 (by omega)),.inl (by omega),.inl (by omega)⟩
   ·by_cases c2:kd=2
    ·exact ⟨.inl c1,.inr (a2 c1),.inl (by omega)⟩
    ·exact ⟨.inl c1,.inl c2,.inr (Rat.le_antisymm (a1 c2) (a2 c1))⟩
 constructor
 ·rintro ⟨h1,h2⟩
  exact ⟨fun j hj=>(hpos j (by rw[hl];exact hj)).1 (h1 j (by rw[hl];exact hj)),fun k hk=>((hhold k hk).1 (h2 k hk)).1,fun k hk=>((hhold k hk).1 (h2 k hk)).2⟩
 ·rintro ⟨h1,h2,h3⟩
  exact ⟨fun j hj=>(hpos j hj).2 (h1 j (show j<p.1.length by omega)),fun k hk=>(hhold k hk).2 ⟨h2 k hk,h3 k hk⟩⟩
theorem signed_iff {p:Pg} {y:List Fq} (hy:∀a ∈ y,okF a) (hl:y.length=p.2.length):signedB p y=true↔(linP p).Sgn (vX y):=by
 have hpos:∀j,j<y.length→((0≤(y.getD j (0,0)).1↔0≤vX y j)∧((y.getD j (0,0)).1≤0↔vX y j≤0)):=fun j hj=>by
  have hok:=hy (y.getD j (0,0)) (by rw[getD_nat hj];exact List.getElem_mem _)
  have h1:=okF_nonneg hok
  have h2:=okF_neg hok
  have h3:=okF_zero hok
  refine ⟨h1.symm,?_⟩
  unfold vX
  constructor
  ·intro h
   by_cases c:(y.getD j (0,0)).1=0
   ·rw[h3.2 c];exact Rat.le_refl
   ·exact Rat.le_of_lt (h2.2 (by omega))
  ·intro h
   apply Int.not_lt.1
   intro h4
   have h5:=h1.2 (by omega)
   have h6:=h3.1 (Rat.le_antisymm h h5)
   omega
 unfold signedB
 rw[List.all_eq_true]
 have key:∀k,k<p.2.length→(signK (p.2.getD k rw0).2.1 (y.getD k (0,0)).1=true↔((linP p).kd k=1→vX y k≤0)∧((linP p).kd k=2→0≤vX y k)):=fun k hk=>by
  obtain ⟨h1,h2⟩:=hpos k (by omega)
  unfold signK
  have e1:(linP p).kd k=(p.2.getD k rw0).2.1:=rfl
  rw[e1,Bool.and_eq_true,Bool.or_eq_true,Bool.or_eq_true,decide_eq_true_iff,decide_eq_true_iff,decide_eq_true_iff,decide_eq_true_iff,h1,h2]
  constructor
  ·rintro ⟨a1,a2⟩
   exact ⟨fun e=>a1.resolve_left fun h=>h e,fun e=>a2.resolve_left fun h=>h e⟩
  ·rintro ⟨a1,a2⟩
   refine ⟨?_,?_⟩
   ·by_cases c:(p.2.getD k rw0).2.1=1
    ·exact .inr (a1 c)
    ·exact .inl c
   ·by_cases c:(p.2.getD k rw0).2.1=2
    ·exact .inr (a2 c)
    ·exact .inl c
 constructor
 ·intro h
  exact ⟨fun k hk=>((key k hk).1 (h k (List.mem_range'.2 ⟨k,hk,by omega⟩))).1,fun k hk=>((key k hk).1 (h k (List.mem_range'.2 ⟨k,hk,by omega⟩))).2⟩
 ·rintro ⟨h1,h2⟩ i hi
  obtain ⟨k,hk,rfl⟩:=List.mem_range'.1 hi
  simp only[Nat.one_mul,Nat.zero_add]
  exact (key k hk).2 ⟨h1 k hk,h2 k hk⟩
theorem col_sum {p:Pg} {y:List Fq} (hl:y.length=p.2.length) {j:Nat} (h:(sumR (colP p j) y 0).isSome=true):(sumR (colP p j) y 0).getD 0=(linP p).col (vX y) j:=by
 rw[sumR_get (by rw[col_len];omega) h,col_len]
 refine sq_congr fun k hk=>?_
 unfold colP
 have hk:k<p.2.length:=hk
 rw[getD_nat (show k<(p.2.map fun r=>r.1.getD j 0).length by rw[List.length_map];exact hk),List.getElem_map]
 show _=(((p.2.getD k rw0).1.getD j 0:Int):Rat)*_
 rw[getD_nat hk]
theorem right_sum {p:Pg} {y:List Fq} (hl:y.length=p.2.length) (h:(sumY p y).isSome=true):(sumY p y).getD 0=(linP p).rhs (vX y):=by
 unfold sumY at h ⊢
 rw[sumR_get (by rw[right_len];omega) h,right_len]
 refine sq_congr fun k hk=>?_
 unfold rightP
 have hk:k<p.2.length:=hk
 rw[getD_nat (show k<(p.2.map fun r=>r.2.2).length by rw[List.length_map];exact hk),List.getElem_map]
 show _=(((p.2.getD k rw0).2.2:Int):Rat)*_
 rw[getD_nat hk]
theorem val_sum {p:Pg} {x:List Fq} (hl:x.length=p.1.length) (h:(sumR p.1 x 0).isSome=true):(sumR p.1 x 0).getD 0=(linP p).val (vX x):=by
 rw[sumR_get (by omega) h]
 rfl
theorem below_iff {p:Pg} {y:List Fq} {f:Nat→Int} (hl:y.length=p.2.length) (hf:fitsY p y=true):belowB p y f=true↔∀j,j<p.1.length→(linP p).col (vX y) j≤(f j:Rat):=by
 unfold fitsY at hf
 rw[List.all_eq_true] at hf
 unfold belowB
 rw[List.all_eq_true]
 have hc:∀j,j<p.1.length→(sumR (colP p j) y 0).getD 0=(linP p).col (vX y) j:=fun j hj=>col_sum hl (hf j (List.mem_range'.2 ⟨j,hj,by omega⟩))
 constructor
 ·intro h j hj
  have:=h j (List.mem_range'.2 ⟨j,hj,by omega⟩)
  rw[decide_eq_true_iff,cmpQ_le,hc j hj] at this
  exact this
 ·intro h i hi
  obtain ⟨k,hk,rfl⟩:=List.mem_range'.1 hi
  simp only[Nat.one_mul,Nat.zero_add]
  rw[decide_eq_true_iff,cmpQ_le,hc k hk]
  exact h k hk
theorem eqV_iff {q r:Rat}:eqV q (prQ r)=true↔q=r:=by
 unfold eqV prQ
 rw[Bool.and_eq_true,Bool.and_eq_true,decide_eq_true_iff,decide_eq_true_iff]
 constructor
 ·rintro ⟨h1,h2,_⟩
  simp only at h1 h2
  exact Rat.ext h1 (by omega)
 ·rintro rfl
  exact ⟨rfl,rfl,rfl⟩
theorem check_iff {p:Pg} {x y:List Fq} {v:Rat} (hv:ValidP p) (hx:∀a ∈ x,okF a) (hy:∀a ∈ y,okF a) (hlx:x.length=p.1.length) (hly:y.length=p.2.length) (hf:fitsA p x y=true) :
  checkB p (prQ v) x y=true↔(linP p).Feas (vX x)∧(linP p).Dual (vX y)∧(linP p).val (vX x)=v∧(linP p).rhs (vX y)=v:=by
 unfold fitsA at hf
 simp only[Bool.and_eq_true] at hf
 obtain ⟨f1,f2,f3,f4⟩:=hf
 unfold checkB provesB
 simp only[Bool.and_eq_true]
 rw[feas_iff hv hx hlx f1,val_sum hlx f2,right_sum hly f4,eqV_iff,eqV_iff,signed_iff hy hly,below_iff hly f3]
 constructor
 ·rintro ⟨a1,a2,a3,a4,a5⟩
  exact ⟨a1,⟨a5,fun j hj=>a3 j hj⟩,a2,a4⟩
 ·rintro ⟨a1,a2,a3,a4⟩
  exact ⟨a1,a3,fun j hj=>a2.col j hj,a4,a2.toSgn⟩
theorem refutes_iff {p:Pg} {y:List Fq} (hy:∀a ∈ y,okF a) (hly:y.length=p.2.length) (f3:fitsY p y=true) (f4:(sumY p y).isSome=true) :
  refB p y=true↔(linP p).Ref (vX y):=by
 have hfit:fitsQ ((sumY p y).getD 0):=by
  unfold sumY
  exact sumR_ok
 have hp:posB p y=true↔0<(linP p).rhs (vX y):=by
  unfold posB
  rw[decide_eq_true_iff,←right_sum hly f4]
  have h1:=okF_nonneg (okF_prQ hfit)
  have h2:=okF_zero (okF_prQ hfit)
  rw[qv_prQ] at h1 h2
  constructor
  ·intro h
   exact Rat.lt_of_le_of_ne (h1.2 (by omega)) fun e=>by have:=h2.1 e.symm;omega
  ·intro h
   have a1:=h1.1 (Rat.le_of_lt h)
   have a2:¬ (prQ ((sumY p y).getD 0)).1=0:=fun e=>by rw[h2.2 e] at h;exact Rat.lt_irrefl h
   omega
 unfold refB
 simp only[Bool.and_eq_true]
 rw[hp,signed_iff hy hly,below_iff hly f3]
 constructor
 ·rintro ⟨a1,a2,a3⟩
  exact ⟨a2,fun j hj=>by have:=a3 j hj;simpa using this,a1⟩
 ·rintro ⟨a1,a2,a3⟩
  exact ⟨a3,a1,fun j hj=>by have:=a2 j hj;simpa using this⟩
end Go.Proofs.Ytnbbackjofgcfaa

namespace Go.Proofs.Ytnbbackjofgcfaa
open Try Dn Dn.Sh
theorem sz_front {f:Nat→Int}:∀{n:Nat},sz (n+1) f=f 0+sz n fun i=>f (i+1)
 | 0=>by simp[sz]
 | n+1=>by
  rw[sz,sz_front (n:=n)]
  simp only[sz]
  omega
theorem rowL_cons {α:Type} {n:Nat} {f:Nat→α}:rowL (n+1) f=f 0 ::rowL n fun i=>f (i+1):=by
 unfold rowL
 rw[List.range_succ_eq_map,List.map_cons,List.map_map]
 rfl
theorem sumR_int {d B:Int} (hd:0<d∧d≤1152921504606846976) (hB:B≤1152921504606846976):∀{l:List Int} {X:Nat→Int} {s:Int},(∀j,j<l.length→ab (l.getD j 0*X j)≤B)→(∀i,i≤l.length→ab (s+sz i fun j=>l.getD j 0*X j)≤B) →
  sumR l (rowL l.length fun j=>prQ ((X j:Rat) / (d:Rat))) ((s:Rat) / (d:Rat))=some (((s+sz l.length fun j=>l.getD j 0*X j:Int):Rat) / (d:Rat))
 | [],X,s,_,_=>by
  unfold sumR
  simp[sz]
 | n ::l,X,s,h1,h2=>by
  have e1:∀j,(n ::l).getD (j+1) 0=l.getD j 0:=fun j=>rfl
  have e0:((n ::l).getD 0 0:Int)=n:=rfl
  have a1:=h1 0 (by simp)
  have a2:=h2 1 (by simp)
  simp only[sz,e0,Int.zero_add] at a1 a2
  rw[List.length_cons,rowL_cons]
  unfold sumR
  rw[qv_prQ]
  have q1:(n:Rat)*((X 0:Rat) / (d:Rat))=((n*X 0:Int):Rat) / (d:Rat):=by rw[Rat.intCast_mul];grind
  have q2:(s:Rat) / (d:Rat)+((n*X 0:Int):Rat) / (d:Rat)=((s+n*X 0:Int):Rat) / (d:Rat):=by rw[Rat.intCast_add];grind
  have b1:(n*X 0).natAbs≤1152921504606846976:=by rw[ab_abs] at a1;omega
  have b2:(s+n*X 0).natAbs≤1152921504606846976:=by rw[ab_abs] at a2;omega
  rw[q1,q2,if_pos ⟨fitsDiv (by omega) b1 (by omega),fitsDiv (by omega) b2 (by omega)⟩]
  have ih:=sumR_int hd hB (l:=l) (X:=fun j=>X (j+1)) (s:=s+n*X 0) (fun j hj=>h1 (j+1) (by simpa using hj)) (fun i hi=>by
   have:=h2 (i+1) (by simpa using hi)
   rw[sz_front] at this
   simp only[e1,e0] at this
   rw[←Int.add_assoc] at this
   exact this)
  rw[ih]
  congr 3
  rw[sz_front]
  simp only[e1,e0]
  omega
theorem part_bound {n i:Nat} {a X:Nat→Int} {B:Int} (hi:i≤n) (hB:0≤B) (hX:∀j,j<n→ab (X j)≤B):ab (sz i fun j=>a j*X j)≤(sz n fun j=>ab (a j))*B:=by
 refine Int.le_trans sz_abs ?_
 have h1:(sz i fun j=>ab (a j*X j))≤sz i fun j=>ab (a j)*B:=sz_le fun j hj=>by
  rw[ab_mul]
  exact Int.mul_le_mul_of_nonneg_left (hX j (by omega)) (ab_nonneg _)
 refine Int.le_trans h1 ?_
 rw[sz_mulr]
 refine Int.mul_le_mul_of_nonneg_right ?_ hB
 obtain ⟨k,rfl⟩:∃k,n=i+k:=⟨n - i,by omega⟩
 rw[sz_split]
 have:0≤sz k fun l=>ab (a (i+l)):=sz_nonneg fun _ _=>ab_nonneg _
 omega
theorem term_le {n j:Nat} {f:Nat→Int} (hj:j<n) (hf:∀i,i<n→0≤f i):f j≤sz n f:=by
 have h1:(sz n fun i=>if i=j then f j else 0)≤sz n f:=sz_le fun i hi=>by
  by_cases e:i=j
  ·rw[if_pos e,e];exact Int.le_refl _
  ·rw[if_neg e];exact hf i hi
 rw[sz_one hj fun i _ hne=>if_neg hne,if_pos rfl] at h1
 exact h1
theorem prod_bound {n j:Nat} {a X:Nat→Int} {B:Int} (hj:j<n) (hB:0≤B) (hX:∀j,j<n→ab (X j)≤B):ab (a j*X j)≤(sz n fun j=>ab (a j))*B:=by
 rw[ab_mul]
 refine Int.le_trans (Int.mul_le_mul_of_nonneg_left (hX j hj) (ab_nonneg _)) (Int.mul_le_mul_of_nonneg_right ?_ hB)
 exact term_le (f:=fun j=>ab (a j)) hj fun _ _=>ab_nonneg _
theorem sumR_dot {l:List Int} {X:Nat→Int} {d B:Int} (hd:0<d∧d≤1152921504606846976) (hB:0≤B) (hX:∀j,j<l.length→ab (X j)≤B) (h:(sz l.length fun j=>ab (l.getD j 0))*B≤1152921504606846976) :
  (sumR l (rowL l.length fun j=>prQ ((X j:Rat) / (d:Rat))) 0).isSome=true:=by
 have h0:(0:Rat)=((0:Int):Rat) / (d:Rat):=by rw[show ((0:Int):Rat)=0 from rfl,Rat.div_def,Rat.zero_mul]
 rw[h0,sumR_int hd h (fun j hj=>prod_bound (a:=fun j=>l.getD j 0) hj hB hX) (fun i hi=>by rw[Int.zero_add];exact part_bound (a:=fun j=>l.getD j 0) hi hB hX)]
 rfl
theorem sumR_small {l:List Int} {X:Nat→Int} {d B:Int} (hd:0<d∧d≤1152921504606846976) (hB:0≤B) (hX:∀j,j<l.length→ab (l.getD j 0*X j)≤B) (h:(l.length:Int)*B≤1152921504606846976) (hB2:B≤1152921504606846976) :
  (sumR l (rowL l.length fun j=>prQ ((X j:Rat) / (d:Rat))) 0).isSome=true:=by
 have h0:(0:Rat)=((0:Int):Rat) / (d:Rat):=by rw[show ((0:Int):Rat)=0 from rfl,Rat.div_def,Rat.zero_mul]
 have hsum:∀i,i≤l.length→ab (0+sz i fun j=>l.getD j 0*X j)≤1152921504606846976:=fun i hi=>by
  rw[Int.zero_add]
  have h1:=sz_bound (n:=i) (f:=fun j=>l.getD j 0*X j) (B:=B) fun j hj=>ab_le.1 (hX j (by omega))
  have h2:(i:Int)*B≤l.length*B:=Int.mul_le_mul_of_nonneg_right (by omega) hB
  refine ab_le.2 ⟨?_,?_⟩<;>omega
 rw[h0,sumR_int hd (Int.le_refl _) (fun j hj=>Int.le_trans (hX j hj) hB2) hsum]
 rfl
section
variable {p:Pg} {S:Sx}
theorem xnum_le (hB:Bnd (linP p) (layP p)) (hv:(layP p).Val (linP p) S) (j:Nat):0≤xnum (linP p).m ((layP p).R (linP p)) S j∧xnum (linP p).m ((layP p).R (linP p)) S j≤(linP p).P:=by
 refine ⟨xnum_nonneg hv j,?_⟩
 have hRw:(layP p).R (linP p)<(layP p).w (linP p):=by unfold Lay.R Lay.w;omega
 obtain ⟨_,hb⟩:=hB.tabP hv.tb
 unfold xnum
 by_cases h:∃i,i<(linP p).m∧S.β i=j
 ·obtain ⟨i,hi,e⟩:=h
  rw[sz_one hi fun k hk hne=>if_neg fun e2=>hne (hv.tb.inj hk hi (by rw[e,e2])),if_pos e]
  have:=hb i _ hi hRw
  omega
 ·rw[sz_zero fun i hi=>if_neg fun e=>h ⟨i,hi,e⟩]
  have:=(linP p).P_pos
  omega
theorem sgn_abs' (k:Nat) (x:Int):ab ((layP p).σ k*x)=ab x:=by
 rw[ab_abs,ab_abs,sig_abs]
theorem ynum_le (hB:Bnd (linP p) (layP p)) (hv:(layP p).Val (linP p) S) {wc:Nat→Int} {W:Int} (hW:∀j,ab (wc j)≤W) {k:Nat} (hk:k<(linP p).m):(linP p).F k*ab (ynum (linP p).m (layP p).N wc S (layP p).σ k)≤12*(W*(linP p).P):=by
 have hF:=(linP p).F_pos k
 have hW0:0≤W:=Int.le_trans (ab_nonneg _) (hW 0)
 have hP:=(linP p).P_pos
 have hm:=hB.m
 unfold ynum
 rw[sgn_abs']
 have h1:ab (sz (linP p).m fun i=>wc (S.β i)*S.T i ((layP p).N+k))≤sz (linP p).m fun i=>W*ab (S.T i ((layP p).N+k)):=Int.le_trans sz_abs (sz_le fun i _=>by
  rw[ab_mul]
  exact Int.mul_le_mul_of_nonneg_right (hW _) (ab_nonneg _))
 have h2:(linP p).F k*(sz (linP p).m fun i=>W*ab (S.T i ((layP p).N+k)))=sz (linP p).m fun i=>W*((linP p).F k*ab (S.T i ((layP p).N+k))):=by
  rw[←sz_mul]
  exact sz_congr fun i _=>by grind
 have h3:(sz (linP p).m fun i=>W*((linP p).F k*ab (S.T i ((layP p).N+k))))≤sz (linP p).m fun _=>W*(linP p).P:=sz_le fun i hi=>Int.mul_le_mul_of_nonneg_left (art_bound hB.ok hv.tb hi hk) hW0
 have h4:∀n:Nat,(sz n fun _=>W*(linP p).P)=n*(W*(linP p).P):=fun n=>by
  induction n with
  | zero=>simp[sz]
  | succ n ih =>
   simp only[sz]
   rw[ih,show ((n+1:Nat):Int)=(n:Int)+1 by omega,Int.add_mul,Int.one_mul]
 have h5:0≤W*(linP p).P:=Int.mul_nonneg hW0 (by omega)
 have h6:((linP p).m:Int)*(W*(linP p).P)≤12*(W*(linP p).P):=Int.mul_le_mul_of_nonneg_right (by omega) h5
 have h7:=Int.mul_le_mul_of_nonneg_left h1 (show 0≤(linP p).F k by omega)
 rw[h2] at h7
 rw[h4] at h3
 omega
theorem coef_F (k j:Nat) (hj:j<(linP p).n):ab ((linP p).A k j)≤(linP p).F k∧ab ((linP p).b k)≤(linP p).F k:=by
 have h1:=term_le (n:=(linP p).n) (f:=fun j=>ab ((linP p).A k j)) hj fun _ _=>ab_nonneg _
 have h2:=ab_nonneg ((linP p).b k)
 have h3:=ab_nonneg ((linP p).A k j)
 unfold Lin.F
 omega
theorem y_fits (hV:ValidP p) (hB:Bnd (linP p) (layP p)) (hv:(layP p).Val (linP p) S) {wc:Nat→Int} {W:Int} (hW:∀j,ab (wc j)≤W) (hWP:W*(linP p).P≤17592186044416):fitsY p (yL p wc S)=true∧(sumY p (yL p wc S)).isSome=true:=by
 obtain ⟨⟨d1,d2⟩,hb⟩:=hB.tab hv.tb
 have hm:=hV.rows
 have hn:=hV.cost
 have term:∀(k:Nat) (a:Int),k<p.2.length→ab a≤(linP p).F k→ab (a*ynum (linP p).m (layP p).N wc S (layP p).σ k)≤211106232532992:=fun k a hk ha=>by
  have h1:=ynum_le hB hv hW (k:=k) hk
  rw[ab_mul]
  have h2:=Int.mul_le_mul_of_nonneg_right ha (ab_nonneg (ynum (linP p).m (layP p).N wc S (layP p).σ k))
  omega
 have gen:∀{l:List Int},l.length=p.2.length→(∀k,k<p.2.length→ab (l.getD k 0)≤(linP p).F k)→(sumR l (yL p wc S) 0).isSome=true:=fun {l} hl hF=>by
  have h1:=sumR_small (l:=l) (X:=fun k=>ynum (linP p).m (layP p).N wc S (layP p).σ k) (d:=S.d) (B:=211106232532992) ⟨d1,by omega⟩ (by omega) (fun k hk=>term k _ (by omega) (hF k (by omega))) (by omega) (by omega)
  rw[hl] at h1
  exact h1
 constructor
 ·unfold fitsY
  rw[List.all_eq_true]
  intro i hi
  obtain ⟨j,hj,rfl⟩:=List.mem_range'.1 hi
  simp only[Nat.one_mul,Nat.zero_add]
  refine gen col_len fun k hk=>?_
  have:(colP p j).getD k 0=(linP p).A k j:=by
   unfold colP
   rw[getD_nat (show k<(p.2.map fun r=>r.1.getD j 0).length by rw[List.length_map];exact hk),List.getElem_map]
   show _=(p.2.getD k rw0).1.getD j 0
   rw[getD_nat hk]
  rw[this]
  exact (coef_F k j hj).1
 ·unfold sumY
  refine gen right_len fun k hk=>?_
  have:(rightP p).getD k 0=(linP p).b k:=by
   unfold rightP
   rw[getD_nat (show k<(p.2.map fun r=>r.2.2).length by rw[List.length_map];exact hk),List.getElem_map]
   show _=(p.2.getD k rw0).2.2
   rw[getD_nat hk]
  rw[this]
  exact (coef_F k 0 hn.1).2
theorem x_fits (hV:ValidP p) (hf:FitsL (linP p)) (hv:(layP p).Val (linP p) S):fitsX p (xL p S)=true∧(sumR p.1 (xL p S) 0).isSome=true:=by
 have hB:=bnd_of hV hf
 obtain ⟨⟨d1,d2⟩,hb⟩:=hB.tab hv.tb
 have hm:=hV.rows
 have hP:=(linP p).P_pos
 have hF0:=(linP p).F0_pos
 have hx:∀j,ab (xnum (linP p).m ((layP p).R (linP p)) S j)≤(linP p).P:=fun j=>by
  have:=xnum_le hB hv j
  exact ab_le.2 ⟨by omega,this.2⟩
 have gen:∀{l:List Int} {k:Nat},l.length=p.1.length→k≤p.2.length→(sz p.1.length fun j=>ab (l.getD j 0))≤fac (linP p) k→(sumR l (xL p S) 0).isSome=true:=fun {l k} hl hk hF=>by
  have h2:=fac_fits hf hk
  have h3:1*((linP p).P*fac (linP p) k)≤(linP p).F0*((linP p).P*fac (linP p) k):=Int.mul_le_mul_of_nonneg_right hF0 (Int.mul_nonneg (by omega) (by have:=fac_pos (linP p) k;omega))
  have h5:=Int.mul_assoc (linP p).F0 (linP p).P (fac (linP p) k)
  have h4:=Int.mul_le_mul_of_nonneg_right hF (show 0≤(linP p).P by omega)
  rw[Int.mul_comm (fac (linP p) k)] at h4
  have h1:=sumR_dot (l:=l) (X:=fun j=>xnum (linP p).m ((layP p).R (linP p)) S j) (d:=S.d) (B:=(linP p).P) ⟨d1,by omega⟩ (by omega) (fun j _=>hx j) (by rw[hl];omega)
  rw[hl] at h1
  exact h1
 constructor
 ·unfold fitsX
  rw[all_idx rw0]
  intro k hk
  have hr:p.2.getD k rw0 ∈ p.2:=by rw[getD_nat hk];exact List.getElem_mem _
  refine gen (k:=k+1) (hV.len _ hr) (by omega) ?_
  show _≤1+ab (p.2.getD k rw0).2.2+sz p.1.length (fun j=>ab ((p.2.getD k rw0).1.getD j 0))
  have:=ab_nonneg (p.2.getD k rw0).2.2
  omega
 ·refine gen (k:=0) rfl (by omega) ?_
  show _≤1+sz p.1.length (fun j=>ab (p.1.getD j 0))
  omega
theorem costs_ab (j:Nat):ab (costs (linP p) j)≤(linP p).F0:=by
 have:=costs_le (L:=linP p) j
 rw[ab_abs]
 omega
theorem arts_ab (N j:Nat):ab (arts N j)≤1:=by unfold arts;split<;>simp[ab]
theorem vX_row {n:Nat} {f:Nat→Rat} {j:Nat} (hj:j<n):vX (rowL n fun j=>prQ (f j)) j=f j:=by
 unfold vX
 rw[rowL_get hj,qv_prQ]
theorem row_okF {n:Nat} {f:Nat→Rat} (h:∀j,j<n→fitsQ (f j)):∀a ∈ rowL n (fun j=>prQ (f j)),okF a:=fun a ha=>by
 unfold rowL at ha
 obtain ⟨j,hj,rfl⟩:=List.mem_map.1 ha
 exact okF_prQ (h j (List.mem_range.1 hj))
theorem xL_ok (hV:ValidP p) (hf:FitsL (linP p)) (hv:(layP p).Val (linP p) S):∀a ∈ xL p S,okF a:=row_okF fun j _=>by
 have hB:=bnd_of hV hf
 obtain ⟨⟨d1,d2⟩,_⟩:=hB.tab hv.tb
 have:=xnum_le hB hv j
 have:=hB.P'
 exact fitsDiv (by omega) (by omega) (by omega)
theorem yL_ok (hV:ValidP p) (hB:Bnd (linP p) (layP p)) (hv:(layP p).Val (linP p) S) {wc:Nat→Int} {W:Int} (hW:∀j,ab (wc j)≤W) (hWP:W*(linP p).P≤17592186044416):∀a ∈ yL p wc S,okF a:=row_okF fun k hk=>by
 obtain ⟨⟨d1,d2⟩,_⟩:=hB.tab hv.tb
 have h1:=ynum_le hB hv hW (k:=k) hk
 have h2:=(linP p).F_pos k
 have h3:1*ab (ynum (linP p).m (layP p).N wc S (layP p).σ k)≤(linP p).F k*ab (ynum (linP p).m (layP p).N wc S (layP p).σ k):=Int.mul_le_mul_of_nonneg_right h2 (ab_nonneg _)
 have h4:ab (ynum (linP p).m (layP p).N wc S (layP p).σ k)≤211106232532992:=by omega
 rw[ab_abs] at h4
 exact fitsDiv (by omega) (by omega) (by omega)
theorem Dn.Lin.Feas.congr {L:Lin} {x x':Nat→Rat} (h:∀j,j<L.n→x j=x' j) (hx:L.Feas x):L.Feas x':=by
 have hr:∀k,L.row x' k=L.row x k:=fun k=>sq_congr fun j hj=>by rw[h j hj]
 exact ⟨fun j hj=>by rw[←h j hj];exact hx.pos j hj,fun k hk h2=>by rw[hr];exact hx.most k hk h2,fun k hk h2=>by rw[hr];exact hx.least k hk h2⟩
theorem Dn.Lin.Sgn.congr {L:Lin} {y y':Nat→Rat} (h:∀k,k<L.m→y k=y' k) (hy:L.Sgn y):L.Sgn y' :=
 ⟨fun k hk e=>by rw[←h k hk];exact hy.most k hk e,fun k hk e=>by rw[←h k hk];exact hy.least k hk e⟩
theorem Dn.Lin.col_congr {L:Lin} {y y':Nat→Rat} (h:∀k,k<L.m→y k=y' k) (j:Nat):L.col y' j=L.col y j:=sq_congr fun k hk=>by rw[h k hk]
theorem Dn.Lin.rhs_congr {L:Lin} {y y':Nat→Rat} (h:∀k,k<L.m→y k=y' k):L.rhs y'=L.rhs y:=sq_congr fun k hk=>by rw[h k hk]
theorem Dn.Lin.val_congr {L:Lin} {x x':Nat→Rat} (h:∀j,j<L.n→x j=x' j):L.val x'=L.val x:=sq_congr fun j hj=>by rw[h j hj]
theorem opt_lin (hV:ValidP p) (hf:FitsL (linP p)) (ho:Opt p S):(linP p).Feas (vX (xL p S))∧(linP p).Dual (vX (yL p (costs (linP p)) S))∧(linP p).val (vX (xL p S))=valL p S∧(linP p).rhs (vX (yL p (costs (linP p)) S))=valL p S:=by
 have hok:=layP_ok hV
 have ex:∀j,j<(linP p).n→xval (linP p).m ((layP p).R (linP p)) S j=vX (xL p S) j:=fun j hj=>(vX_row hj).symm
 have ey:∀k,k<(linP p).m→yval (linP p).m (layP p).N (costs (linP p)) S (layP p).σ k=vX (yL p (costs (linP p)) S) k:=fun k hk=>(vX_row hk).symm
 have h1:=table_feas hok ho.val (ho.az.art S)
 have h2:=table_dual hok ho.val ho.zr
 obtain ⟨h3,h4⟩:=table_value hok ho.val
 refine ⟨h1.congr ex,⟨h2.toSgn.congr ey,fun j hj=>?_⟩,?_,?_⟩
 ·rw[Lin.col_congr ey];exact h2.col j hj
 ·rw[Lin.val_congr ex];exact h3
 ·rw[Lin.rhs_congr ey];exact h4
theorem opt_check (hV:ValidP p) (hf:FitsL (linP p)) (ho:Opt p S):program_Check p (prQ (valL p S),xL p S,yL p (costs (linP p)) S)=some (true,0,()):=by
 have hB:=bnd_of hV hf
 have hn:=hV.cost
 have hm:=hV.rows
 obtain ⟨⟨d1,d2⟩,_⟩:=hB.tab ho.val.tb
 have hx:=xL_ok hV hf ho.val
 have hy:=yL_ok hV hB ho.val costs_ab hB.P
 have hlx:(xL p S).length=p.1.length:=rowL_len
 have hly:(yL p (costs (linP p)) S).length=p.2.length:=rowL_len
 obtain ⟨f1,f2⟩:=x_fits hV hf ho.val
 obtain ⟨f3,f4⟩:=y_fits hV hB ho.val costs_ab hB.P
 have hfit:fitsA p (xL p S) (yL p (costs (linP p)) S)=true:=by unfold fitsA;rw[f1,f2,f3,f4];rfl
 have hvf:okF (prQ (valL p S)):=okF_prQ (fitsDiv (by omega) (by
  have hRw:(layP p).R (linP p)<(layP p).w (linP p):=by unfold Lay.R Lay.w;omega
  obtain ⟨_,hbP⟩:=hB.tabP ho.val.tb
  have hm':(linP p).m=p.2.length:=rfl
  have hs:=sz_bound (n:=(linP p).m) (f:=fun k=>costs (linP p) (S.β k)*S.T k ((layP p).R (linP p))) (B:=17592186044416) fun i hi=>hB.cost (hbP i _ hi hRw) _
  have h6:((linP p).m:Int)*17592186044416≤6*17592186044416:=Int.mul_le_mul_of_nonneg_right (by omega) (by omega)
  unfold vnum
  omega) (by omega))
 have hc:=(check_iff hV hx hy hlx hly hfit).2 (opt_lin hV hf ho)
 rw[pcheck_ok (by omega) (by omega),validP_iff.2 hV,decide_eq_true hvf,okL_iff.2 hx,okL_iff.2 hy,decide_eq_true hlx,decide_eq_true hly,hfit,hc]
 rfl
theorem infeas_lin (hV:ValidP p) (ho:Infeas p S):(linP p).Ref (vX (yL p (arts (layP p).N) S)):=by
 have hok:=layP_ok hV
 have ey:∀k,k<(linP p).m→yval (linP p).m (layP p).N (arts (layP p).N) S (layP p).σ k=vX (yL p (arts (layP p).N) S) k:=fun k hk=>(vX_row hk).symm
 have h2:=table_ref hok ho.val ho.zr ho.pos
 refine ⟨h2.toSgn.congr ey,fun j hj=>?_,?_⟩
 ·rw[Lin.col_congr ey];exact h2.col j hj
 ·rw[Lin.rhs_congr ey];exact h2.rhs
theorem infeas_check (hV:ValidP p) (hf:FitsL (linP p)) (ho:Infeas p S):program_Refutes p (yL p (arts (layP p).N) S)=some (true,0,()):=by
 have hB:=bnd_of hV hf
 have hm:=hV.rows
 have hWP:1*(linP p).P≤17592186044416:=by have:=hB.P';omega
 have hy:=yL_ok (wc:=arts (layP p).N) hV hB ho.val (arts_ab _) hWP
 have hly:(yL p (arts (layP p).N) S).length=p.2.length:=rowL_len
 obtain ⟨f3,f4⟩:=y_fits (wc:=arts (layP p).N) hV hB ho.val (arts_ab _) hWP
 have hc:=(refutes_iff hy hly f3 f4).2 (infeas_lin hV ho)
 rw[prefutes_ok (by omega),validP_iff.2 hV,okL_iff.2 hy,decide_eq_true hly,f3,f4,hc]
 rfl
end
end Go.Proofs.Ytnbbackjofgcfaa

namespace Go.Proofs.Ytnbbackjofgcfaa
open Try Dn Dn.Sh
def Sem (p:Pg) (a:Fq×List Fq×List Fq) (e:Int):Prop :=
 (e=1∧a=none3∧validP p=false)∨(e=5∧a=none3∧ValidP p∧¬ FitsL (linP p))∨(e=22∧a=none3∧ValidP p∧FitsL (linP p)∧∃y,(linP p).Ref y) ∨
 (e=21∧a=none3∧ValidP p∧FitsL (linP p)∧(∃x,(linP p).Feas x)∧∃r,(linP p).Ray r) ∨
 (e=0∧ValidP p∧FitsL (linP p)∧program_Check p a=some (true,0,())∧∃v x y,a.1=prQ v∧fitsQ v∧(linP p).Feas x∧(linP p).Dual y∧(linP p).val x=v∧(linP p).rhs y=v)
def FSem (p:Pg) (y:List Fq) (e:Int):Prop :=
 (e=1∧y=[]∧validP p=false)∨(e=5∧y=[]∧ValidP p∧¬ FitsL (linP p))∨(e=12∧y=[]∧ValidP p∧FitsL (linP p)∧∃x,(linP p).Feas x) ∨
 (e=0∧ValidP p∧FitsL (linP p)∧y.length=p.2.length∧program_Refutes p y=some (true,0,())∧∃y,(linP p).Ref y)
theorem solve_bad {p:Pg} (h:validP p=false):program_Solve p=some (none3,1,()):=by
 unfold program_Solve program_Solve_b
 rw[pValid_ok,obN,h]
 rfl
theorem solve_big {p:Pg} (h:ValidP p) (hf:¬ FitsL (linP p)):program_Solve p=some (none3,5,()):=by
 unfold program_Solve program_Solve_b
 rw[pValid_ok,obN,validP_iff.2 h]
 simp only[Bool.not_true,cF]
 rw[fits_okP h,obN,decide_eq_false hf]
 rfl
theorem farkas_bad {p:Pg} (h:validP p=false):program_Farkas p=some ([],1,()):=by
 unfold program_Farkas program_Farkas_b
 rw[pValid_ok,obN,h]
 rfl
theorem farkas_big {p:Pg} (h:ValidP p) (hf:¬ FitsL (linP p)):program_Farkas p=some ([],5,()):=by
 unfold program_Farkas program_Farkas_b
 rw[pValid_ok,obN,validP_iff.2 h]
 simp only[Bool.not_true,cF]
 rw[fits_okP h,obN,decide_eq_false hf]
 rfl
theorem solve_sem (p:Pg):∃a e,program_Solve p=some (a,e,())∧Sem p a e:=by
 cases hv:validP p with
 | false=>exact ⟨_,_,solve_bad hv,.inl ⟨rfl,rfl,hv⟩⟩
 | true =>
  have hV:=validP_iff.1 hv
  by_cases hf:FitsL (linP p)
  ·have hB:=bnd_of hV hf
   have hok:=layP_ok hV
   rcases solve_ok hV hf with ⟨S,h1,h2⟩ | ⟨S,q,h1,h2⟩ | ⟨S,h1,h2⟩
   ·exact ⟨_,_,h2,.inr (.inr (.inl ⟨rfl,rfl,hV,hf,_,infeas_lin hV h1⟩))⟩
   ·exact ⟨_,_,h2,.inr (.inr (.inr (.inl ⟨rfl,rfl,hV,hf,⟨_,table_feas hok h1.val (h1.az.art S)⟩,_,table_ray hok h1.val h1.lt (h1.az.col S h1.lt) h1.neg h1.no⟩)))⟩
   ·obtain ⟨a1,a2,a3,a4⟩:=opt_lin hV hf h1
    refine ⟨_,_,h2,.inr (.inr (.inr (.inr ⟨rfl,hV,hf,opt_check hV hf h1,valL p S,_,_,rfl,?_,a1,a2,a3,a4⟩)))⟩
    obtain ⟨⟨d1,d2⟩,_⟩:=hB.tab h1.val.tb
    have hRw:(layP p).R (linP p)<(layP p).w (linP p):=by unfold Lay.R Lay.w;omega
    obtain ⟨_,hbP⟩:=hB.tabP h1.val.tb
    have hm':(linP p).m=p.2.length:=rfl
    have hm:=hV.rows
    have hs:=sz_bound (n:=(linP p).m) (f:=fun k=>costs (linP p) (S.β k)*S.T k ((layP p).R (linP p))) (B:=17592186044416) fun i hi=>hB.cost (hbP i _ hi hRw) _
    have h6:((linP p).m:Int)*17592186044416≤6*17592186044416:=Int.mul_le_mul_of_nonneg_right (by omega) (by omega)
    exact fitsDiv (by omega) (by unfold vnum;omega) (by omega)
  ·exact ⟨_,_,solve_big hV hf,.inr (.inl ⟨rfl,rfl,hV,hf⟩)⟩
theorem farkas_sem (p:Pg):∃y e,program_Farkas p=some (y,e,())∧FSem p y e:=by
 cases hv:validP p with
 | false=>exact ⟨_,_,farkas_bad hv,.inl ⟨rfl,rfl,hv⟩⟩
 | true =>
  have hV:=validP_iff.1 hv
  by_cases hf:FitsL (linP p)
  ·rcases farkas_ok hV hf with ⟨S,h1,h2⟩ | ⟨S,h1,h2,h3⟩
   ·exact ⟨_,_,h2,.inr (.inr (.inr ⟨rfl,hV,hf,rowL_len,infeas_check hV hf h1,_,infeas_lin hV h1⟩))⟩
   ·exact ⟨_,_,h3,.inr (.inr (.inl ⟨rfl,rfl,hV,hf,_,table_feas (layP_ok hV) h1 (h2.art S)⟩))⟩
  ·exact ⟨_,_,farkas_big hV hf,.inr (.inl ⟨rfl,rfl,hV,hf⟩)⟩
end Go.Proofs.Ytnbbackjofgcfaa

namespace Go.Proofs.Ytnbbackjofgcfaa
open Try Dn Dn.Sh
theorem rsize_ok {x:Int} (h1: -4611686018427387904≤x) (h2:x<4611686018427387904):ref05_size x=some (ab x):=by
 simp only[ref05_size,ref05_size_b]
 rw[wrap_id (by omega) (by omega)]
 congr 1
 unfold ab
 split<;>omega
theorem rfactors_ok {p:Pg} (hv:ValidP p):ref05_Factors p=some (rowL (p.2.length+1) (fac (linP p))):=by
 have hm:=hv.rows
 have hn:=hv.cost.2
 unfold ref05_Factors ref05_Factors_b
 refine lpK_seqX p.1.length (by omega) (fun i=>(1+sz i (fun j=>ab (p.1.getD j 0)),(i:Int),PUnit.unit)) _ rfl (fun again i hi=>?_) (fun again=>?_)
 ·have h1:=size_small hv.cs i
  have h0:=ab_nonneg (p.1.getD i 0)
  have h2:=sum_small hv.cs (n:=i) (by omega)
  have h3: -1048576≤p.1.getD i 0∧p.1.getD i 0≤1048576:=ab_le.1 h1
  simp only[inB_nat,Int.toNat_natCast,decide_eq_true hi,decide_eq_true (show (i:Int)<p.1.length by omega),cT,rsize_ok (show -4611686018427387904≤p.1.getD i 0 by omega) (by omega),obind_some',succ_wrap (show i≤1000000 by omega)]
  rw[wrap_id (by omega) (by omega)]
  simp only[sz]
  congr 2
  omega
 ·simp only[decide_eq_false (show ¬ (p.1.length:Int)<p.1.length by omega),cF]
  refine lpK_seqX p.2.length (by omega) (fun i=>(rowL (i+1) (fac (linP p)),(i:Int),PUnit.unit)) _ rfl (fun again2 i hi=>?_) (fun again2=>?_)
  ·have hr:p.2.getD i rw0 ∈ p.2:=by rw[getD_nat hi];exact List.getElem_mem _
   have hl:=hv.len _ hr
   have hR: -1073741824≤(p.2.getD i rw0).2.2∧(p.2.getD i rw0).2.2≤1073741824:=of_decide_eq_true (hv.right _ hr)
   have hRa:ab (p.2.getD i rw0).2.2≤1073741824:=ab_le.2 hR
   have hRb:=ab_nonneg (p.2.getD i rw0).2.2
   have hsz:ref05_size (p.2.getD i rw0).2.2=some (ab (p.2.getD i rw0).2.2):=rsize_ok (by omega) (by omega)
   simp only[decide_eq_true (show (i:Int)<p.2.length by omega),inB_nat,Int.toNat_natCast,decide_eq_true hi,cT,hsz,obind_some']
   rw[wrap_id (x:=1+ab (p.2.getD i rw0).2.2) (by omega) (by omega)]
   refine lpK_seqX p.1.length (by omega) (fun j=>(1+ab (p.2.getD i rw0).2.2+sz j (fun j=>ab ((p.2.getD i rw0).1.getD j 0)),(j:Int),PUnit.unit)) _ (by simp only[sz,Int.add_zero];rfl) (fun again3 j hj=>?_) (fun again3=>?_)
   ·have h1:=size_small (hv.coefs _ hr) j
    have h0:=ab_nonneg ((p.2.getD i rw0).1.getD j 0)
    have h2:=sum_small (hv.coefs _ hr) (n:=j) (by omega)
    have h3: -1048576≤(p.2.getD i rw0).1.getD j 0∧(p.2.getD i rw0).1.getD j 0≤1048576:=ab_le.1 h1
    have hsz2:ref05_size ((p.2.getD i rw0).1.getD j 0)=some (ab ((p.2.getD i rw0).1.getD j 0)):=rsize_ok (by omega) (by omega)
    simp only[decide_eq_true (show (j:Int)<p.1.length by omega),inB_nat,Int.toNat_natCast,decide_eq_true (show j<(p.2.getD i rw0).1.length by omega),cT,hsz2,obind_some',succ_wrap (show j≤1000000 by omega)]
    rw[wrap_id (by omega) (by omega)]
    simp only[sz]
    congr 2
    omega
   ·simp only[decide_eq_false (show ¬ (p.1.length:Int)<p.1.length by omega),cF,rowL_len,fitB_of (show (i+1+1)*8≤140737488355328 by omega),cT,succ_wrap (show i≤1000000 by omega)]
    rw[show 1+ab (p.2.getD i rw0).2.2+sz p.1.length (fun j=>ab ((p.2.getD i rw0).1.getD j 0))=fac (linP p) (i+1) from rfl,rowL_snoc]
  ·simp only[decide_eq_false (show ¬ (p.2.length:Int)<p.2.length by omega),cF]
theorem rproduct_ok {n:Nat} {f:Nat→Int} {most:Int} (hn:n≤1000) (hf:∀i,1≤f i) (hb:∀i,i<n→f i≤2147483648) (h0:1≤most) (h1:most≤17592186044416):ref05_product (rowL n f) most=some (if pp f n≤most then (pp f n,true,()) else (0,false,())):=by
 unfold ref05_product ref05_product_b
 have round:∀{R:Type} {a b:Option R} (i:Nat),i<n→pp f i≤most→(bif nzB (pp f i) then bif decide (f i>IntKind.wrap .i64 (Int.tdiv most (pp f i))) then a else b else none)=bif decide (pp f (i+1)>most) then a else b:=fun i hi hle=>by
  have h2:=pp_pos hf i
  rw[nzB_of (by omega),cond_true,Int.tdiv_eq_ediv_of_nonneg (by omega)]
  have h3:0≤most / pp f i:=Int.ediv_nonneg (by omega) (by omega)
  have h4:most / pp f i≤most:=Int.ediv_le_self _ (by omega)
  have e:decide (f i>most / pp f i)=decide (pp f (i+1)>most):=decide_eq_decide.2 (by
   rw[gt_div_iff (a:=f i) (show 0<pp f i by omega),Int.mul_comm]
   exact Iff.rfl)
  rw[wrap_id (by omega) (by omega),e]
 rcases first_of n (fun i=>decide (pp f (i+1)>most)) with hnone | ⟨q,hq,hbig,hleast⟩
 ·have hall:∀i,i≤n→pp f i≤most:=fun i hi=>by
   cases i with
   | zero=>simp only[pp];omega
   | succ i=>have:=of_decide_eq_false (hnone i (by omega));omega
  rw[if_pos (hall n (Nat.le_refl _))]
  refine lpK_seqX n (by omega) (fun i=>(pp f i,(i:Int),PUnit.unit)) _ rfl (fun again i hi=>?_) (fun again=>?_)
  ·have h2:=hall (i+1) (by omega)
   have h3:=pp_pos hf (i+1)
   simp only[decide_eq_true (show (i:Int)<(n:Nat) by omega),inB_nat,rowL_len,decide_eq_true hi,Int.toNat_natCast,rowL_get hi,cT,round i hi (hall i (by omega)),hnone i hi,cF,succ_wrap (show i≤1000000 by omega)]
   rw[wrap_id (x:=pp f i*f i) (by simp only[pp] at h2 h3;omega) (by simp only[pp] at h2;omega)]
   rfl
  ·simp only[rowL_len,decide_eq_false (show ¬ (n:Int)<n by omega),cF]
 ·have hlow:∀i,i≤q→pp f i≤most:=fun i hi=>by
   cases i with
   | zero=>simp only[pp];omega
   | succ i=>have:=of_decide_eq_false (hleast i (by omega));omega
  have h2:=of_decide_eq_true hbig
  have h3:=pp_mono hf (n:=q+1) (k:=n - (q+1))
  rw[show q+1+(n - (q+1))=n by omega] at h3
  rw[if_neg (by omega)]
  refine lpK_seqX q (by omega) (fun i=>(pp f i,(i:Int),PUnit.unit)) _ rfl (fun again i hi=>?_) (fun again=>?_)
  ·have h2:=hlow (i+1) (by omega)
   have h3:=pp_pos hf (i+1)
   simp only[decide_eq_true (show (i:Int)<(n:Nat) by omega),inB_nat,rowL_len,decide_eq_true (show i<n by omega),Int.toNat_natCast,rowL_get (show i<n by omega),cT,round i (by omega) (hlow i (by omega)),hleast i hi,cF,succ_wrap (show i≤1000000 by omega)]
   rw[wrap_id (x:=pp f i*f i) (by simp only[pp] at h2 h3;omega) (by simp only[pp] at h2;omega)]
   rfl
  ·simp only[decide_eq_true (show (q:Int)<(n:Nat) by omega),inB_nat,rowL_len,decide_eq_true hq,Int.toNat_natCast,rowL_get hq,cT,round q hq (hlow q (by omega)),hbig]
theorem rsmall_ok {p:Pg} (hv:ValidP p):ref05_Small p=some (decide ((linP p).F0*(linP p).P≤536870912)):=by
 have hm:=hv.rows
 have h1:=rproduct_ok (n:=p.2.length+1) (f:=fac (linP p)) (most:=536870912) (by omega) (fac_pos _) (fun i hi=>fac_small hv (by omega)) (by omega) (by omega)
 simp only[ref05_Small,ref05_Small_b,rfactors_ok hv,h1,obind_some']
 rw[show pp (fac (linP p)) (p.2.length+1)=(linP p).F0*(linP p).P from pp_P _]
 by_cases c:(linP p).F0*(linP p).P≤536870912
 ·rw[if_pos c,decide_eq_true c]
 ·rw[if_neg c,decide_eq_false c]
theorem rfits_ok {p:Pg} (hv:ValidP p):ref05_Fits p=some (decide (FitsL (linP p))):=by
 have hm:=hv.rows
 have h1:=rproduct_ok (n:=p.2.length+1) (f:=fac (linP p)) (most:=17592186044416) (by omega) (fac_pos _) (fun i hi=>fac_small hv (by omega)) (by omega) (by omega)
 obtain ⟨f,hf⟩:∃f,f=fac (linP p):=⟨_,rfl⟩
 have hpos:∀i,1≤f i:=fun i=>by rw[hf];exact fac_pos _ i
 have hF:FitsL (linP p)=(pp f (p.2.length+1)≤17592186044416∧pp f (p.2.length+1)*mx f p.2.length≤144115188075855872):=by rw[hf];rfl
 simp only[ref05_Fits,ref05_Fits_b,rfactors_ok hv,h1,obind_some']
 rw[←hf]
 refine lpK_seqX (p.2.length+1) (by omega) (fun i=>((match i with | 0=>0 | i+1=>mx f i),(i:Int),PUnit.unit)) _ rfl (fun again i hi=>?_) (fun again=>?_)
 ·simp only[rowL_len,decide_eq_true (show (i:Int)<(p.2.length+1:Nat) by omega),inB_nat,decide_eq_true hi,Int.toNat_natCast,rowL_get hi,cT,ite_max,succ_wrap (show i≤1000000 by omega)]
  cases i with
  | zero =>
   simp only[mx]
   have:=hpos 0
   congr 2
   omega
  | succ i=>simp only[mx]
 ·have hmx:1≤mx f p.2.length:=Int.le_trans (hpos 0) (mx_le (by omega))
  have hP:=pp_pos hpos (p.2.length+1)
  simp only[rowL_len,decide_eq_false (show ¬ ((p.2.length+1:Nat):Int)<(p.2.length+1:Nat) by omega),cF]
  by_cases c:pp f (p.2.length+1)≤17592186044416
  ·rw[if_pos c]
   simp only[Bool.not_true,Bool.false_or,Bool.true_and,cT,nzB_of (show pp f (p.2.length+1)≠0 by omega)]
   rw[Int.tdiv_eq_ediv_of_nonneg (by omega)]
   have h3:0≤144115188075855872 / pp f (p.2.length+1):=Int.ediv_nonneg (by omega) (by omega)
   have h4:144115188075855872 / pp f (p.2.length+1)≤144115188075855872:=Int.ediv_le_self _ (by omega)
   rw[wrap_id (by omega) (by omega)]
   congr 1
   refine decide_eq_decide.2 ?_
   rw[le_div_iff (a:=mx f p.2.length) (show 0<pp f (p.2.length+1) by omega),hF,Int.mul_comm]
   exact ⟨fun h=>⟨c,h⟩,fun h=>h.2⟩
  ·rw[if_neg c]
   rw[decide_eq_false (show ¬ FitsL (linP p) by rw[hF];exact fun h=>c h.1)]
   rfl
theorem lawSolves (p:Pg):law05_ProgramSolves p=some true:=by
 have hi:∀e0:Bool,(!e0||e0)=true:=fun e0=>by cases e0<;>rfl
 have hj:∀e0:Bool,(e0||!e0)=true:=fun e0=>by cases e0<;>rfl
 have emp:law05_empty none3=some true:=by simp only[law05_empty,law05_empty_b,none3];rfl
 obtain ⟨a,e,h1,h2⟩:=solve_sem p
 obtain ⟨y,f,h3,h4⟩:=farkas_sem p
 simp only[law05_ProgramSolves,law05_ProgramSolves_b,awakeP_ok,fewP_ok,rValid_ok,obind_some',Bool.not_true,cF,hi,hj,Bool.and_self,cT,h1,h3]
 cases fewB p with
 | false=>rfl
 | true =>
  simp only[Bool.not_true,cF]
  cases hv:validP p with
  | false =>
   rcases h2 with ⟨rfl,rfl,_⟩ | ⟨_,_,hV,_⟩ | ⟨_,_,hV,_⟩ | ⟨_,_,hV,_⟩ | ⟨_,hV,_⟩
   ·rcases h4 with ⟨rfl,rfl,_⟩ | ⟨_,_,hV,_⟩ | ⟨_,_,hV,_⟩ | ⟨_,hV,_⟩
    ·simp only[cF,obind_some',Bool.not_false,cT,emp]
     rfl
    all_goals (rw[validP_iff.2 hV] at hv;cases hv)
   all_goals (rw[validP_iff.2 hV] at hv;cases hv)
  | true =>
   have hV:=validP_iff.1 hv
   simp only[cT,rfits_ok hV,rsmall_ok hV,obind_some',Bool.not_true,cF]
   by_cases hf:FitsL (linP p)
   ·rw[decide_eq_true hf]
    simp only[cT,obind_some']
    by_cases hs:(linP p).F0*(linP p).P≤536870912
    ·rw[decide_eq_true hs]
     simp only[Bool.not_true,cF]
     rcases least_ok hV hs with ⟨⟨y0,hy0⟩,hl⟩ | ⟨⟨x0,hx0⟩,⟨r0,hr0⟩,hl⟩ | ⟨v0,x0,y0,hx0,hy0,hx0v,hy0v,hl⟩
     ·
      rcases h2 with ⟨_,_,h⟩ | ⟨_,_,_,hf'⟩ | ⟨rfl,rfl,_⟩ | ⟨_,_,_,_,⟨x,hx⟩,_⟩ | ⟨_,_,_,_,_,x,_,_,_,hx,_⟩
      ·rw[hv] at h;cases h
      ·exact (hf' hf).elim
      ·rcases h4 with ⟨_,_,h⟩ | ⟨_,_,_,hf'⟩ | ⟨_,_,_,_,x,hx⟩ | ⟨rfl,_,_,hly,_⟩
       ·rw[hv] at h;cases h
       ·exact (hf' hf).elim
       ·exact (hy0.none hx).elim
       ·simp only[hl,emp,obind_some',none3]
        rw[hly,decide_eq_true (show ((p.2.length:Nat):Int)=p.2.length from rfl)]
        rfl
      ·exact (hy0.none hx).elim
      ·exact (hy0.none hx).elim
     ·rcases h4 with ⟨_,_,h⟩ | ⟨_,_,_,hf'⟩ | ⟨rfl,rfl,_⟩ | ⟨_,_,_,_,_,y1,hy1⟩
      ·rw[hv] at h;cases h
      ·exact (hf' hf).elim
      ·rcases h2 with ⟨_,_,h⟩ | ⟨_,_,_,hf'⟩ | ⟨_,_,_,_,y,hy⟩ | ⟨rfl,rfl,_⟩ | ⟨_,_,_,_,_,_,y,_,_,_,hy,_⟩
       ·rw[hv] at h;cases h
       ·exact (hf' hf).elim
       ·exact (hy.none hx0).elim
       ·simp only[hl,emp,obind_some',none3]
        rfl
       ·exact (hr0.none hy).elim
      ·exact (hy1.none hx0).elim
     ·rcases h4 with ⟨_,_,h⟩ | ⟨_,_,_,hf'⟩ | ⟨rfl,rfl,_⟩ | ⟨_,_,_,_,_,y1,hy1⟩
      ·rw[hv] at h;cases h
      ·exact (hf' hf).elim
      ·rcases h2 with ⟨_,_,h⟩ | ⟨_,_,_,hf'⟩ | ⟨_,_,_,_,y,hy⟩ | ⟨_,_,_,_,_,r,hr⟩ | ⟨rfl,_,_,_,v,x,y,ha,hfv,hx,hy,hxv,hyv⟩
       ·rw[hv] at h;cases h
       ·exact (hf' hf).elim
       ·exact (hy.none hx0).elim
       ·exact (hr.none hy0).elim
       ·have hvv:v=v0:=by
         have w1:=Lin.weak hx hy0
         have w2:=Lin.weak hx0 hy
         rw[hxv,hy0v] at w1
         rw[hx0v,hyv] at w2
         exact Rat.le_antisymm w2 w1
        subst hvv
        simp only[hl,ha,obind_some',prQ,decide_true,Bool.not_true,cT,cF,hi,hj,Bool.and_self]
        rfl
      ·exact (hy1.none hx0).elim
    ·rw[decide_eq_false hs]
     rfl
   ·rw[decide_eq_false hf]
    rcases h2 with ⟨_,_,h⟩ | ⟨rfl,rfl,_⟩ | ⟨_,_,_,hf',_⟩ | ⟨_,_,_,hf',_⟩ | ⟨_,_,hf',_⟩
    ·rw[hv] at h;cases h
    ·rcases h4 with ⟨_,_,h⟩ | ⟨rfl,rfl,_⟩ | ⟨_,_,_,hf',_⟩ | ⟨_,_,hf',_⟩
     ·rw[hv] at h;cases h
     ·simp only[cF,obind_some',Bool.not_false,cT,emp]
      rfl
     all_goals exact (hf hf').elim
    all_goals exact (hf hf').elim
end Go.Proofs.Ytnbbackjofgcfaa
