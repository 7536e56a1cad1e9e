/- Programs: the sums of artificial rows, and the reduced costs. Programs: improving a table to the least value. Programs: finding a feasible basis. Programs: the first table. Programs: which programs fit. Programs: what Solve answers. Programs: what Farkas answers. Programs: answers that are proved, in both programs. Programs: points, multipliers and refutations are those of the theory. Programs: the sums of what the solver returns fit, so that its answers are accepted. Programs: what the solver says of a program; the law ProgramBeats. Programs, as they are specified: the layout of the table, and a step of it. Programs, as they are specified: steps until the last row has no negative number. Programs, as they are specified: artificial variables leave the basis. Programs, as they are specified: the first table. Programs, as they are specified: the least value. Programs: the law ProgramSolves. Systems: what the solver says of their programs. Systems: equilibria, as the program checks them. Systems: the law SlackHolds. Systems: the law SlackBounds. Systems: the law SlackLeast. Claims about tensions: their parts, and what Check of both programs answers. Elimination: a step of two products and a quotient, and tables of rows that change places. Elimination: the theory; a matrix beside a unit matrix, and its table. Elimination: what the program's function answers. Elimination: how great the numbers are, and what a finished table proves. Elimination: what linear.Solve answers. Systems: the law SlackOnly. Claims about tensions: Claim is right; it decides. Systems with other weights. Systems: copies, and doubled weights. Claims about tensions: twice the weights need twice the tensions. -/
import Derived.KernelRfl
import Derived.Test.YtegbncajloeepaaGreatMgN

namespace Go.Proofs.YtegbncajloeepaaGreat
open Tryz Dn Dn.Sh
structure Bnd (L:Lin) (Y:Lay):Prop where
 ok:Y.ok L
 m:L.m<=12
 w:Y.w L<=64
 P:L.F0*L.P<=17592186044416
theorem DN {x:Int}:ab x=x.natAbs:=rfl
section
variable {L:Lin} {Y:Lay}
theorem Bnd.P' (h:Bnd L Y):L.P<=17592186044416:=by
 have h1:=L.F0_pos
 have h2:=L.P_pos
 have h3:1*L.P<=L.F0*L.P:=z11 h1 (by omega)
 have:=h.P
 omega
theorem Bnd.tab (h:Bnd L Y) {T:Nat->Nat->Int} {d:Int} {β:Nat->Nat} (ht:Tb L.m (Y.w L) (Y.M L) T d β):(0<d/\d<=17592186044416)/\∀i j,i<L.m->j<Y.w L->(T i j).natAbs<=17592186044416:=by
 obtain ⟨h1,h2⟩:=vm h.ok ht
 have h3:=h.P'
 refine ⟨⟨ht.dpos,by omega⟩,fun i j hi hj=>?_⟩
 have:=h2 i j hi hj
 rw[DN] at this
 omega
theorem JQ (j:Nat):(uZ L j).natAbs<=L.F0 - 1:=by
 unfold uZ Lin.F0
 have h0:0<=sz L.n fun j=>ab (L.c j):=lG fun j _=>eV _
 split
 ·rename_i hj
  have h1:(sz L.n fun i=>if i=j then ab (L.c j) else 0)<=sz L.n fun j=>ab (L.c j):=yp fun i _=>by
   by_cases e:i=j
   ·rw[if_pos e,e];exact Int.le_refl _
   ·rw[if_neg e];exact eV _
  rw[gv hj fun i _ hne=>if_neg hne,if_pos rfl,DN] at h1
  omega
 ·simp only[Int.natAbs_zero]
  omega
theorem Bnd.cost (h:Bnd L Y) {x:Int} (hx:(x.natAbs:Int)<=L.P) (j:Nat): -17592186044416<=uZ L j*x/\uZ L j*x<=17592186044416:=by
 have h1:=JQ (L:=L) j
 have h2:((uZ L j*x).natAbs:Int)<=L.F0*L.P:=by
  rw[Int.natAbs_mul,Int.natCast_mul]
  refine Int.le_trans (Int.mul_le_mul (show ((uZ L j).natAbs:Int)<=L.F0 by omega) hx (by omega) (by omega)) (Int.le_refl _)
 have:=h.P
 omega
theorem Qo (x:Int) (y:Int):(sg x*y).natAbs=y.natAbs:=by unfold sg;split<;>omega
theorem Bnd.piv (h:Bnd L Y) {T:Nat->Nat->Int} {d:Int} {β:Nat->Nat} (ht:Tb L.m (Y.w L) (Y.M L) T d β) {r c:Nat} (hr:r<L.m) (hc:c<Y.w L) (he:T r c≠0):PivOk L.m (Y.w L) T d r c:=by
 obtain ⟨h1,h2⟩:=h.tab ht
 obtain ⟨h3,h4⟩:=h.tab (ht.step hr hc he)
 have:=h.m
 have:=h.w
 refine ⟨by omega,by omega,hr,hc,by omega,fun i j hi hj=>by have:=h2 i j hi hj;omega,fun i j hi hne hj=>iI ht hr hi (Ne.symm hne) hc hj,fun i j hi hne hj=>?_⟩
 have h5:=h4 i j hi hj
 unfold rr at h5
 rw[if_neg hne,Qo] at h5
 omega
def AZ (L:Lin) (Y:Lay) (S:Sx):Prop:=∀i,i<L.m->Y.N<=S.β i->(∀j,j<Y.N->S.T i j=0)/\S.T i (Y.R L)=0
theorem AZ.art (S:Sx) (h:AZ L Y S):O4 L.m Y.N S (Y.R L):=fun i hi hN=>(h i hi hN).2
theorem AZ.col (S:Sx) (h:AZ L Y S) {q:Nat} (hq:q<Y.N):O4 L.m Y.N S q:=fun i hi hN=>(h i hi hN).1 q hq
def uE (S:Sx) (r c:Nat):Sx:=⟨rr S.T S.d r c,sg (S.T r c)*S.T r c,upd S.β r c⟩
theorem AZ.step {S:Sx} (h:AZ L Y S) {r c:Nat} (hc:c<Y.N):AZ L Y (uE S r c):=fun i hi hN=>by
 have hb:(uE S r c).β i=upd S.β r c i:=rfl
 rw[hb] at hN
 unfold upd at hN
 by_cases e:i=r
 ·rw[if_pos e] at hN;omega
 ·rw[if_neg e] at hN
  obtain ⟨h1,h2⟩:=h i hi hN
  have hT:∀j,(uE S r c).T i j=sg (S.T r c)*Dn.piv S.T S.d r c i j:=fun j=>by
   show rr S.T S.d r c i j=_
   unfold rr
   rw[if_neg e]
  have hz:∀j,S.T i j=0->Dn.piv S.T S.d r c i j=0:=fun j hj=>by
   unfold Dn.piv
   rw[hj,h1 c hc,Int.mul_zero,Int.zero_mul,Int.sub_zero,Int.zero_ediv]
  exact ⟨fun j hj=>by rw[hT,hz j (h1 j hj),Int.mul_zero],by rw[hT,hz _ h2,Int.mul_zero]⟩
end
section
variable {L:Lin} {Y:Lay}
theorem Val.flat {S:Sx} (hv:Y.Val L S) {r c:Nat} (hr:r<L.m) (hc:c<Y.N) (he:S.T r c≠0) (h0:S.T r (Y.R L)=0):Y.Val L (uE S r c):=by
 have hcw:c<Y.w L:=by unfold Lay.w;omega
 have hRw:Y.R L<Y.w L:=by unfold Lay.R Lay.w;omega
 have hd:=hv.tb.dpos
 refine ⟨hv.tb.step hr hcw he,fun i hi=>?_,fun i hi=>?_⟩
 ·show 0<=rr S.T S.d r c i (Y.R L)
  unfold rr
  by_cases e:i=r
  ·rw[if_pos e,h0,Int.mul_zero];exact Int.le_refl _
  ·rw[if_neg e]
   have h1:=iI hv.tb hr hi (Ne.symm e) hcw hRw
   rw[h0,Int.mul_zero,Int.sub_zero] at h1
   have h2:0<=sg (S.T r c)*S.T r c*S.T i (Y.R L):=Int.mul_nonneg (Int.le_of_lt (LQ he)) (hv.feas i hi)
   rw[Int.mul_assoc,<-h1] at h2
   have h3:sg (S.T r c)*(S.d*Dn.piv S.T S.d r c i (Y.R L))=S.d*(sg (S.T r c)*Dn.piv S.T S.d r c i (Y.R L)):=by grind
   rw[h3] at h2
   exact Int.nonneg_of_mul_nonneg_right h2 hd
 ·show upd S.β r c i≠_
  unfold upd
  split
  ·unfold Lay.R;omega
  ·exact hv.ne i hi
theorem BL {T:Nat->Nat->Int} {d:Int} {r c i j:Nat} (h1:T i j=0) (h2:T i c=0\/T r j=0):Dn.piv T d r c i j=0:=by
 unfold Dn.piv
 rw[h1,Int.mul_zero]
 rcases h2 with h | h
 ·rw[h,Int.zero_mul,Int.sub_zero,Int.zero_ediv]
 ·rw[h,Int.mul_zero,Int.sub_zero,Int.zero_ediv]
structure Swp (L:Lin) (Y:Lay) (i:Nat) (S:Sx):Prop where
 val:Y.Val L S
 right:∀k,k<L.m->Y.N<=S.β k->S.T k (Y.R L)=0
 rows:∀k,k<L.m->k<i->Y.N<=S.β k->∀j,j<Y.N->S.T k j=0
theorem Swp.step {i:Nat} {S:Sx} (h:Swp L Y i S) {j:Nat} (hi:i<L.m) (hj:j<Y.N) (hN:Y.N<=S.β i) (he:S.T i j≠0):Swp L Y i (uE S i j):=by
 have h0:=h.right i hi hN
 have up:∀k,k≠i->(uE S i j).β k=S.β k:=fun k hk=>by
  show upd S.β i j k=_
  unfold upd
  rw[if_neg hk]
 have ui:(uE S i j).β i=j:=by
  show upd S.β i j i=_
  unfold upd
  rw[if_pos rfl]
 have hT:∀k l,k≠i->(uE S i j).T k l=sg (S.T i j)*Dn.piv S.T S.d i j k l:=fun k l hk=>by
  show rr S.T S.d i j k l=_
  unfold rr
  rw[if_neg hk]
 refine ⟨Val.flat h.val hi hj he h0,fun k hk hb=>?_,fun k hk hlt hb l hl=>?_⟩
 ·have e:k≠i:=fun e=>by rw[e,ui] at hb;omega
  rw[up k e] at hb
  rw[hT k _ e,BL (h.right k hk hb) (.inr h0),Int.mul_zero]
 ·have e:k≠i:=by omega
  rw[up k e] at hb
  rw[hT k _ e,BL (h.rows k hk hlt hb l hl) (.inl (h.rows k hk hlt hb j hj)),Int.mul_zero]
end
def fX (p:Pg):Lin:=⟨p.1.length,p.2.length,fun k j=>(p.2.getD k rw0).1.getD j 0,fun k=>(p.2.getD k rw0).2.2,fun j=>p.1.getD j 0,fun k=>(p.2.getD k rw0).2.1⟩
def Pd (p:Pg):Nat->Nat
 | 0=>0
 | k+1=>Pd p k+if (p.2.getD k rw0).2.1=3 then 0 else 1
def wl (p:Pg):Lay:=⟨p.1.length+Pd p p.2.length,fun k=>p.1.length+Pd p k,fun k=>if (p.2.getD k rw0).2.2<0 then -1 else 1⟩
abbrev St:=Int×Int×(List Nat×List (Option (List Int)))×Int×List Int×List Int×List Int×Int×Int×PUnit
def fac (L:Lin):Nat->Int
 | 0=>L.F0
 | k+1=>L.F k
def pp (f:Nat->Int):Nat->Int
 | 0=>1
 | n+1=>pp f n*f n
def mx (f:Nat->Int):Nat->Int
 | 0=>f 0
 | n+1=>max (mx f n) (f (n+1))
def O2 (L:Lin):Prop:=pp (fac L) (L.m+1)<=17592186044416/\pp (fac L) (L.m+1)*mx (fac L) L.m<=144115188075855872
instance (L:Lin):Decidable (O2 L):=by unfold O2;infer_instance
structure Infeas (p:Pg) (S:Sx):Prop where
 val:(wl p).Val (fX p) S
 zr:∀j,j<(wl p).N->0<=zr (fX p).m (Rn (wl p).N) S j
 pos:0<sz (fX p).m fun i=>Rn (wl p).N (S.β i)*S.T i ((wl p).R (fX p))
structure gx (p:Pg) (S:Sx) (q:Nat):Prop where
 val:(wl p).Val (fX p) S
 az:AZ (fX p) (wl p) S
 lt:q<(wl p).N
 neg:zr (fX p).m (uZ (fX p)) S q<0
 no:∀i,i<(fX p).m->S.T i q<=0
structure Opt (p:Pg) (S:Sx):Prop where
 val:(wl p).Val (fX p) S
 az:AZ (fX p) (wl p) S
 zr:∀j,j<(wl p).N->0<=zr (fX p).m (uZ (fX p)) S j
def vX (x:List Fq) (j:Nat):Rat:=qv (x.getD j (0,0))
theorem Bi {f:Nat->Rat}:∀{n:Nat},sq (n+1) f=f 0+sq n fun i=>f (i+1)
 | 0=>by simp only[sq];grind
 | n+1=>by
  rw[sq,Bi (n:=n)]
  simp only[sq]
  grind
theorem BP:∀{l:List Int} {x:List Fq} {s q:Rat},l.length<=x.length->gl l x s=some q->q=s+sq l.length fun j=>((l.getD j 0:Int):Rat)*vX x j
 | [],x,s,q,_,h=>by
  unfold gl at h
  injection h with h
  simp only[List.length_nil,sq]
  grind
 | n ::l,[],s,q,hl,h=>by simp at hl
 | n ::l,a ::x,s,q,hl,h=>by
  unfold gl at h
  split at h
  ·have h1:=BP (l:=l) (x:=x) (by simpa using hl) h
   rw[List.length_cons,Bi,h1]
   have e1:∀j,(n ::l).getD (j+1) 0=l.getD j 0:=fun j=>rfl
   have e2:∀j,vX (a ::x) (j+1)=vX x j:=fun j=>rfl
   simp only[e1,e2]
   have e3:((n ::l).getD 0 0:Int)=n:=rfl
   have e4:vX (a ::x) 0=qv a:=rfl
   rw[e3,e4]
   grind
  ·cases h
theorem xM {l:List Int} {x:List Fq} (hl:l.length<=x.length) (h:(gl l x 0).isSome=true):(gl l x 0).getD 0=sq l.length fun j=>((l.getD j 0:Int):Rat)*vX x j:=by
 cases hq:gl l x 0 with
 | none=>rw[hq] at h;cases h
 | some q =>
  have:=BP hl hq
  rw[Option.getD_some,this]
  grind
theorem FJ {a b:Rat}:wK a b<=0↔a<=b:=by
 unfold wK
 by_cases h:a<b
 ·rw[if_pos h]
  exact ⟨fun _=>Rat.le_of_lt h,fun _=>by omega⟩
 ·rw[if_neg h]
  by_cases h2:a=b
  ·rw[if_pos h2]
   exact ⟨fun _=>by rw[h2];exact Rat.le_refl,fun _=>by omega⟩
  ·rw[if_neg h2]
   refine ⟨fun h3=>by omega,fun h3=>?_⟩
   exact (h (Rat.lt_of_le_of_ne h3 h2)).elim
theorem L6 {α:Type} {P:α->Bool} {l:List α} (d:α):l.all P=true↔∀k,k<l.length->P (l.getD k d)=true:=by
 rw[<-tZ (p:=P) d,List.all_eq_true]
 exact ⟨fun h k hk=>h k (List.mem_range'.2 ⟨k,hk,by omega⟩),fun h i hi=>by obtain ⟨k,hk,rfl⟩:=List.mem_range'.1 hi;exact h _ (by omega)⟩
theorem Ei {p:Pg} {y:List Fq} (hy:∀a ∈ y,okF a) (hl:y.length=p.2.length):ll p y=true↔(fX p).Sgn (vX y):=by
 have hpos:∀j,j<y.length->((0<=(y.getD j (0,0)).1↔0<=vX y j)/\((y.getD j (0,0)).1<=0↔vX y j<=0)):=fun j hj=>by
  have hok:=hy (y.getD j (0,0)) (by rw[bH hj];exact List.getElem_mem _)
  have h1:=lR hok
  have h2:=Ob hok
  have h3:=C5 hok
  refine ⟨h1.symm,?_⟩
  unfold vX
  constructor
  ·intro h
   by_cases c:(y.getD j (0,0)).1=0
   ·rw[h3.2 c];exact Rat.le_refl
   ·exact Rat.le_of_lt (h2.2 (by omega))
  ·intro h
   apply Int.not_lt.1
   intro h4
   have h5:=h1.2 (by omega)
   have h6:=h3.1 (Rat.le_antisymm h h5)
   omega
 unfold ll
 rw[List.all_eq_true]
 have key:∀k,k<p.2.length->(xx (p.2.getD k rw0).2.1 (y.getD k (0,0)).1=true↔((fX p).kd k=1->vX y k<=0)/\((fX p).kd k=2->0<=vX y k)):=fun k hk=>by
  obtain ⟨h1,h2⟩:=hpos k (by omega)
  unfold xx
  have e1:(fX p).kd k=(p.2.getD k rw0).2.1:=rfl
  rw[e1,z10,Bool.or_eq_true,Bool.or_eq_true,decide_eq_true_iff,decide_eq_true_iff,decide_eq_true_iff,decide_eq_true_iff,h1,h2]
  constructor
  ·rintro ⟨a1,a2⟩
   exact ⟨fun e=>a1.resolve_left fun h=>h e,fun e=>a2.resolve_left fun h=>h e⟩
  ·rintro ⟨a1,a2⟩
   refine ⟨?_,?_⟩
   ·by_cases c:(p.2.getD k rw0).2.1=1
    ·exact .inr (a1 c)
    ·exact .inl c
   ·by_cases c:(p.2.getD k rw0).2.1=2
    ·exact .inr (a2 c)
    ·exact .inl c
 constructor
 ·intro h
  exact ⟨fun k hk=>((key k hk).1 (h k (List.mem_range'.2 ⟨k,hk,by omega⟩))).1,fun k hk=>((key k hk).1 (h k (List.mem_range'.2 ⟨k,hk,by omega⟩))).2⟩
 ·rintro ⟨h1,h2⟩ i hi
  obtain ⟨k,hk,rfl⟩:=List.mem_range'.1 hi
  simp only[Nat.one_mul,Nat.zero_add]
  exact (key k hk).2 ⟨h1 k hk,h2 k hk⟩
theorem Nr {p:Pg} {y:List Fq} (hl:y.length=p.2.length) {j:Nat} (h:(gl (nC p j) y 0).isSome=true):(gl (nC p j) y 0).getD 0=(fX p).col (vX y) j:=by
 rw[xM (by rw[vO];omega) h,vO]
 refine dx fun k hk=>?_
 unfold nC
 have hk:k<p.2.length:=hk
 rw[bH (show k<(p.2.map fun r=>r.1.getD j 0).length by rw[List.length_map];exact hk),List.getElem_map]
 show _=(((p.2.getD k rw0).1.getD j 0:Int):Rat)*_
 rw[bH hk]
theorem Hk {p:Pg} {y:List Fq} (hl:y.length=p.2.length) (h:(qa p y).isSome=true):(qa p y).getD 0=(fX p).rhs (vX y):=by
 unfold qa at h ⊢
 rw[xM (by rw[qS];omega) h,qS]
 refine dx fun k hk=>?_
 unfold od
 have hk:k<p.2.length:=hk
 rw[bH (show k<(p.2.map fun r=>r.2.2).length by rw[List.length_map];exact hk),List.getElem_map]
 show _=(((p.2.getD k rw0).2.2:Int):Rat)*_
 rw[bH hk]
theorem Gv {p:Pg} {y:List Fq} {f:Nat->Int} (hl:y.length=p.2.length) (hf:rQ p y=true):wH p y f=true↔∀j,j<p.1.length->(fX p).col (vX y) j<=(f j:Rat):=by
 unfold rQ at hf
 rw[List.all_eq_true] at hf
 unfold wH
 rw[List.all_eq_true]
 have hc:∀j,j<p.1.length->(gl (nC p j) y 0).getD 0=(fX p).col (vX y) j:=fun j hj=>Nr hl (hf j (List.mem_range'.2 ⟨j,hj,by omega⟩))
 constructor
 ·intro h j hj
  have:=h j (List.mem_range'.2 ⟨j,hj,by omega⟩)
  rw[decide_eq_true_iff,FJ,hc j hj] at this
  exact this
 ·intro h i hi
  obtain ⟨k,hk,rfl⟩:=List.mem_range'.1 hi
  simp only[Nat.one_mul,Nat.zero_add]
  rw[decide_eq_true_iff,FJ,hc k hk]
  exact h k hk
theorem uG {p:Pg} {y:List Fq} (hy:∀a ∈ y,okF a) (hly:y.length=p.2.length) (f3:rQ p y=true) (f4:(qa p y).isSome=true) :
  Ed p y=true↔(fX p).Ref (vX y):=by
 have hfit:eF ((qa p y).getD 0):=by
  unfold qa
  exact Fa
 have hp:Hi p y=true↔0<(fX p).rhs (vX y):=by
  unfold Hi
  rw[decide_eq_true_iff,<-Hk hly f4]
  have h1:=lR (lf hfit)
  have h2:=C5 (lf hfit)
  rw[pQ] at h1 h2
  constructor
  ·intro h
   exact Rat.lt_of_le_of_ne (h1.2 (by omega)) fun e=>by have:=h2.1 e.symm;omega
  ·intro h
   have a1:=h1.1 (Rat.le_of_lt h)
   have a2:¬ (prQ ((qa p y).getD 0)).1=0:=fun e=>by rw[h2.2 e] at h;exact Rat.lt_irrefl h
   omega
 unfold Ed
 simp only[z10]
 rw[hp,Ei hy hly,Gv hly f3]
 constructor
 ·rintro ⟨a1,a2,a3⟩
  exact ⟨a2,fun j hj=>by have:=a3 j hj;simpa using this,a1⟩
 ·rintro ⟨a1,a2,a3⟩
  exact ⟨a3,a1,fun j hj=>by have:=a2 j hj;simpa using this⟩
section
variable {p:Pg} {S:Sx}
theorem Dn.Lin.Feas.congr {L:Lin} {x x':Nat->Rat} (h:∀j,j<L.n->x j=x' j) (hx:L.Feas x):L.Feas x':=by
 have hr:∀k,L.row x' k=L.row x k:=fun k=>dx fun j hj=>by rw[h j hj]
 exact ⟨fun j hj=>by rw[<-h j hj];exact hx.pos j hj,fun k hk h2=>by rw[hr];exact hx.most k hk h2,fun k hk h2=>by rw[hr];exact hx.least k hk h2⟩
theorem Dn.Lin.Sgn.congr {L:Lin} {y y':Nat->Rat} (h:∀k,k<L.m->y k=y' k) (hy:L.Sgn y):L.Sgn y' :=
 ⟨fun k hk e=>by rw[<-h k hk];exact hy.most k hk e,fun k hk e=>by rw[<-h k hk];exact hy.least k hk e⟩
end
structure BndR (L:Lin) (Y:Lay):Prop where
 ok:Y.ok L
 m:L.m<=6
 w:Y.w L<=25
 P:L.F0*L.P<=536870912
section
variable {L:Lin} {Y:Lay}
theorem BndR.P' (h:BndR L Y):L.P<=536870912:=by
 have h1:=L.F0_pos
 have h2:=L.P_pos
 have h3:1*L.P<=L.F0*L.P:=z11 h1 (by omega)
 have:=h.P
 omega
theorem BndR.tab (h:BndR L Y) {T:Nat->Nat->Int} {d:Int} {β:Nat->Nat} (ht:Tb L.m (Y.w L) (Y.M L) T d β):(0<d/\d<=536870912)/\∀i j,i<L.m->j<Y.w L->(T i j).natAbs<=536870912/\((T i j).natAbs:Int)<=L.P:=by
 obtain ⟨h1,h2⟩:=vm h.ok ht
 have h3:=h.P'
 refine ⟨⟨ht.dpos,by omega⟩,fun i j hi hj=>?_⟩
 have:=h2 i j hi hj
 rw[DN] at this
 omega
structure Wc (L:Lin) (Y:Lay) (wc:Nat->Int):Prop where
 small:∀j x,(x.natAbs:Int)<=L.P-> -536870912<=wc j*x/\wc j*x<=536870912
end
section
variable {L:Lin} {Y:Lay}
theorem Swp.next {i:Nat} {S:Sx} (h:Swp L Y i S) (hr:Y.N<=S.β i->∀j,j<Y.N->S.T i j=0):Swp L Y (i+1) S :=
 ⟨h.val,h.right,fun k hk hlt hb j hj=>by
  by_cases e:k=i
  ·subst e;exact hr hb j hj
  ·exact h.rows k hk (by omega) hb j hj⟩
end
section
variable {p:Pg}
end
section
variable {L:Lin} {Y:Lay}
end
theorem EW {f:(Fq×Unit)->Option Bool} {p:Fq->Bool} {l:List Fq} (hl:l.length<=1000000) (h:∀a,a ∈ l->f (a,())=some (p a)):ai l f=some (l.any p):=by
 simp only[ai,eH]
 have e:bg l f=some (iQ p l 0):=by
  unfold bg fx
  exact mc (f:=f) (d:=(0,0)) hl h
 rw[e,ah,vY]
theorem zG (s:Sy) (c:List Int) (hl:c.length=s.2.length):fX (ey s c)=⟨s.2.length,s.1.length,fun k j=>((cz s.1.length (js s)).getD k rw0).1.getD j 0,fun k=>((cz s.1.length (js s)).getD k rw0).2.2,fun j=>c.getD j 0,fun k=>((cz s.1.length (js s)).getD k rw0).2.1⟩:=by
 unfold fX ey
 simp only[hl,cj]
def EqS (s:Sy) (x:Nat->Rat):Prop:=∀i,i<s.1.length->(sq s.2.length fun j=>((Mx s i j:Int):Rat)*x j)=((bwS s i:Int):Rat)
theorem yg {s:Sy} {c:List Int} (hl:c.length=s.2.length) {x:Nat->Rat}:(fX (ey s c)).Feas x↔(∀j,j<s.2.length->0<=x j)/\EqS s x:=by
 rw[zG s c hl]
 have er:∀i,i<s.1.length->(⟨s.2.length,s.1.length,fun k j=>((cz s.1.length (js s)).getD k rw0).1.getD j 0,fun k=>((cz s.1.length (js s)).getD k rw0).2.2,fun j=>c.getD j 0,fun k=>((cz s.1.length (js s)).getD k rw0).2.1⟩:Lin).row x i=sq s.2.length fun j=>((Mx s i j:Int):Rat)*x j:=fun i hi=>by
  unfold Lin.row
  refine dx fun j hj=>?_
  simp only[eL hi,js,eL hj]
 constructor
 ·rintro ⟨h1,h2,h3⟩
  refine ⟨h1,fun i hi=>?_⟩
  have hk:((cz s.1.length (js s)).getD i rw0).2.1=3:=by rw[eL hi];rfl
  have hb:((cz s.1.length (js s)).getD i rw0).2.2=bwS s i:=by rw[eL hi];rfl
  have a1:=h2 i hi (by simp only[hk];omega)
  have a2:=h3 i hi (by simp only[hk];omega)
  rw[er i hi] at a1 a2
  simp only[hb] at a1 a2
  exact Rat.le_antisymm a1 a2
 ·rintro ⟨h1,h2⟩
  refine ⟨h1,fun i hi _=>?_,fun i hi _=>?_⟩
  ·have hb:((cz s.1.length (js s)).getD i rw0).2.2=bwS s i:=by rw[eL hi];rfl
   rw[er i hi,h2 i hi]
   simp only[hb]
   exact Rat.le_refl
  ·have hb:((cz s.1.length (js s)).getD i rw0).2.2=bwS s i:=by rw[eL hi];rfl
   rw[er i hi,h2 i hi]
   simp only[hb]
   exact Rat.le_refl
theorem uv {s:Sy}:(gI s).length=s.2.length:=by unfold gI;rw[List.length_replicate]
end Go.Proofs.YtegbncajloeepaaGreat

namespace Go.Proofs.YtegbncajloeepaaGreat
noncomputable section
open Tryz Dn Dn.Sh
theorem L1 {a:Fq} (ha:okF a):okF (-a.1,a.2)/\qv (-a.1,a.2)= - qv a:=by
 obtain ⟨⟨a1,a2⟩,⟨a3,a4⟩,a5⟩:=ha
 refine ⟨⟨⟨a1,a2⟩,⟨by simp only;omega,by simp only;omega⟩,by simpa using a5⟩,?_⟩
 simp only[qv]
 rw[Rat.neg_mkRat]
theorem M1 {a b:Fq} (ha:okF a) (hb:okF b):gu a b=some (A7 (qv a - qv b)):=by
 obtain ⟨h2,h3⟩:=L1 hb
 have hb':=hb
 obtain ⟨_,⟨b1,b2⟩,_⟩:=hb'
 have hw:IntKind.wrap .i64 (0 - b.1)= -b.1:=by rw[bM (by omega) (by omega)];omega
 simp only[gu,qD,kl,z7 ha,z7 hb,ah,Bool.not_true,Bool.not_false,Bool.or_true,cT,cF]
 rw[hw,DY ha h2,ah,h3,<-Rat.sub_eq_add_neg]
theorem PS (n:Int):ci n=some (n,1):=id rfl
theorem Kt {q:Rat} {n:Int} {a:Fq} (hq:eF q) (hn: -1152921504606846976<=n/\n<=1152921504606846976) (ha:okF a) :
  dJ (prQ q) n a=some (if eF ((n:Rat)*qv a)/\eF (q+(n:Rat)*qv a) then (prQ (q+(n:Rat)*qv a),0,()) else ((0,0),5,())):=by
 have hm:=Dz (tK hn.1 hn.2) ha
 rw[Ab] at hm
 simp only[dJ,lK,PS,ah,hm]
 rcases jN ((n:Rat)*qv a) with ⟨f1,e1⟩ | ⟨f1,e1⟩
 ·have hA:=DY (lf hq) (lf f1)
  rw[pQ,pQ] at hA
  simp only[e1,decide_true,Bool.not_true,cF,hA,ah]
  rcases jN (q+(n:Rat)*qv a) with ⟨f2,e2⟩ | ⟨f2,e2⟩
  ·rw[if_pos ⟨f1,f2⟩,e2]
  ·rw[if_neg fun h=>f2 h.2,e2]
 ·rw[if_neg fun h=>f1 h.1]
  simp only[e1]
  rfl
theorem LS {α R:Type} {F:(α->Option R)->α->Option R} {x:α} (n:Nat) (hn:n<=1180591620717411303423) (st:Nat->α) (p:Nat->Bool) {bad good:Option R} (hx:x=st 0) (hb:∀again i,i<n->F again (st i)=bif p i then again (st (i+1)) else bad) (hf:∀again,F again (st n)=good) :
  lpK α R F x=bif (List.range' 0 n).all p then good else bad:=by
 rw[hx]
 rcases Lv n (fun i=>!p i) with h | ⟨q,h1,h2,h3⟩
 ·have e:(List.range' 0 n).all p=true:=List.all_eq_true.2 fun i hi=>by
   obtain ⟨k,hk,rfl⟩:=List.mem_range'.1 hi
   have:=h (0+1*k) (by omega)
   simpa using this
  rw[e,cT]
  refine zP n hn st _ (fun again i hi=>?_) hf
  have:=h i hi
  rw[hb again i hi,show p i=true by simpa using this,cT]
 ·have e:(List.range' 0 n).all p=false:=by
   rw[Bool.eq_false_iff]
   intro hh
   rw[List.all_eq_true] at hh
   have:=hh q (iy h1)
   rw[this] at h2
   cases h2
  rw[e,cF]
  refine zP q (by omega) st _ (fun again i hi=>?_) (fun again=>?_)
  ·have:=h3 i hi
   rw[hb again i (by omega),show p i=true by simpa using this,cT]
  ·rw[hb again q h1,show p q=false by simpa using h2,cF]
def Jq (s:Sy) (l:List Fq) (i:Nat):Option Rat:=gl (cz s.2.length (Mx s i)) l 0
def vt (s:Sy) (l:List Fq) (i:Nat):Rat:=((bwS s i:Int):Rat) - (Jq s l i).getD 0
def Ho (s:Sy) (l:List Fq) (i:Nat):Bool:=(Jq s l i).isSome&&decide (eF (vt s l i))
theorem uC {s:Sy} (h:fi s=true) {l:List Fq} (hl:l.length<=1000000):cY s l=some (bif okL l then bif decide (l.length=s.2.length) then (G1 s,0,()) else ([],3,()) else ([],1,())):=by
 have hc:ai l (fun x=>cZ x.1)=some (!okL l):=by
  rw[EW (p:=fun a=>!decide (okF a)) hl (fun a _=>by simp only[cZ,jc,kl,ah])]
  congr 1
  unfold okL
  rw[Bool.eq_iff_iff,Bool.not_eq_true',List.any_eq_true]
  constructor
  ·rintro ⟨a,ha,h1⟩
   rw[Bool.eq_false_iff]
   intro hh
   rw[List.all_eq_true] at hh
   rw[hh a ha] at h1
   cases h1
  ·intro hh
   rw[Bool.eq_false_iff] at hh
   apply Classical.byContradiction
   intro hn
   apply hh
   rw[List.all_eq_true]
   intro a ha
   cases hd:decide (okF a) with
   | true=>rfl
   | false=>exact (hn ⟨a,ha,by rw[hd];rfl⟩).elim
 unfold cY kP
 rw[Fj h,ah,hc,ah]
 rw[show decide ((l.length:Int)=s.2.length)=decide (l.length=s.2.length) from decide_eq_decide.2 (by omega)]
 cases okL l with
 | false=>rfl
 | true=>cases decide (l.length=s.2.length)<;>rfl
theorem NK {s:Sy} (h:fi s=true) {l:List Fq} (ho:∀a ∈ l,okF a) (hlen:l.length=s.2.length) :
  bf s l=bif (List.range' 0 s.1.length).all (Ho s l) then some (cz s.1.length fun i=>prQ (vt s l i),0,()) else some ([],5,()):=by
 have hV:=iO h
 have hb:=hV.bl
 have hr:=hV.rl
 have hz:ci 0=some (prQ 0):=rfl
 unfold bf fh
 rw[uC h (by omega),ah,mH.2 ho,z7 hlen]
 simp only[cT,decide_true,Bool.not_true,cF]
 unfold G1
 refine LS s.1.length (by omega) (fun i=>(cz i (fun i=>prQ (vt s l i)),(0:Int),(i:Int),PUnit.unit)) (Ho s l) rfl (fun again i hi=>?_) (fun again=>?_)
 ·obtain ⟨out,hout⟩:∃out,out=cz i (fun i=>prQ (vt s l i)):=⟨_,rfl⟩
  have hol:out.length=i:=by rw[hout,cj]
  have hnx:cz (i+1) (fun i=>prQ (vt s l i))=out++[prQ (vt s l i)]:=by rw[hout,og]
  simp only[hnx,<-hout]
  have hM:(Bc s.1.length s.2.length (Mx s)).getD i []=cz s.2.length (Mx s i):=wm hi
  have hwt:=hV.wt i hi
  have hlr:(cz s.2.length (Mx s i)).length=s.2.length:=cj
  simp only[nl,cM,z7 hi,z7 (show (i:Int)<s.1.length by omega),cT,z9,hM,hz,ah]
  refine (jm (α:=Int×Fq×PUnit) (cz s.2.length (Mx s i)).length (by omega) (fun k (q:{q:Rat // eF q})=>((k:Int),prQ q.1,PUnit.unit))
   (fun k q K=>if h:eF ((((cz s.2.length (Mx s i)).getD k 0:Int):Rat)*qv (l.getD k (0,0)))/\eF (q.1+(((cz s.2.length (Mx s i)).getD k 0:Int):Rat)*qv (l.getD k (0,0))) then K ⟨_,h.2⟩ else some ([],5,()))
   (fun q=>bif decide (eF (((bwS s i:Int):Rat) - q.1)) then again (out++[prQ (((bwS s i:Int):Rat) - q.1)],0,((i+1:Nat):Int),PUnit.unit) else some ([],5,())) ?_ ?_ ⟨0,by decide⟩).trans ?_
  ·intro again1 k q hk
   rw[hlr] at hk
   obtain ⟨q,hq⟩:=q
   have hkl:k<l.length:=by omega
   have ha:okF (l.getD k (0,0)):=by rw[bH hkl];exact ho _ (List.getElem_mem _)
   have hg:(cz s.2.length (Mx s i)).getD k 0=Mx s i k:=eL hk
   have hbd:=Bn hV i hk
   have hp:=Kt (n:=Mx s i k) hq (by omega) ha
   simp only[cM,cj,z7 hk,z7 hkl,z7 (show (k:Int)<l.length by omega),cT,z9,hg,hp,ah,eC (show k<=1000000 by omega)]
   by_cases c:eF ((Mx s i k:Rat)*qv (l.getD k (0,0)))/\eF (q+(Mx s i k:Rat)*qv (l.getD k (0,0)))
   ·rw[dif_pos c,if_pos c]
    simp only[decide_true,Bool.not_true,cF]
   ·rw[dif_neg c,if_neg c]
    rfl
  ·intro again1 q
   obtain ⟨q,hq⟩:=q
   have hS:=M1 (tK (n:=bwS s i) (by omega) (by omega)) (lf hq)
   rw[Ab,pQ] at hS
   have hwS:ci (List.getD s.1 i ({ data:={ toList:=[] } },(0:Int))).2=some (bwS s i,1):=rfl
   simp only[hlr,hlen,z8 (show ¬ (s.2.length:Int)<s.2.length by omega),cF,hwS,ah,hS]
   rcases jN (((bwS s i:Int):Rat) - q) with ⟨f2,e2⟩ | ⟨f2,e2⟩
   ·rw[z7 f2]
    simp only[e2,decide_true,Bool.not_true,cF,cT,eC (show i<=1000000 by omega),gj (show (out.length+1)*16<=140737488355328 by omega)]
   ·rw[z8 f2]
    simp only[e2]
    rfl
  ·rw[DK (cur:=fun q:{q:Rat // eF q}=>q.1) (bad:=some ([],5,())) (good:=fun q=>bif decide (eF (((bwS s i:Int):Rat) - q)) then again (out++[prQ (((bwS s i:Int):Rat) - q)],0,((i+1:Nat):Int),PUnit.unit) else some ([],5,())) (l:=cz s.2.length (Mx s i)) (x:=l) (by omega) (fun k q h=>⟨_,h⟩) (fun _ _ _=>rfl) (fun _ _ _ _=>rfl) (fun _=>rfl) (cz s.2.length (Mx s i)).length 0 ⟨0,by decide⟩ (by omega)]
   simp only[List.drop_zero]
   rw[show gl (cz s.2.length (Mx s i)) l 0=Jq s l i from rfl]
   unfold Ho vt
   cases hq:Jq s l i with
   | none=>rfl
   | some q=>rfl
 ·simp only[nl,z8 (show ¬ (s.1.length:Int)<s.1.length by omega),cF,decide_true,Bool.not_true]
def eqB (s:Sy) (l:List Fq):Bool:=(List.range' 0 s.1.length).all fun i=>decide (vt s l i=0)
def ol (s:Sy) (l:List Fq):Bool:=(List.range' 0 s.1.length).all (Ho s l)
theorem Fi {q:Rat}:(prQ q).1=0↔q=0:=Rat.num_eq_zero
theorem G3 {s:Sy} (h:fi s=true) {l:List Fq} (hl:l.length<=1000000):cX s l=some (bif okL l then bif decide (l.length=s.2.length) then bif ol s l then (eqB s l,0,()) else (false,5,()) else (false,3,()) else (false,1,())):=by
 unfold cX kI
 cases ho:okL l with
 | false =>
  have hr:bf s l=some ([],1,()):=by
   unfold bf fh
   rw[uC h hl,ah,ho]
   rfl
  rw[hr]
  rfl
 | true =>
  by_cases hn:l.length=s.2.length
  ·have hb:=(iO h).bl
   rw[NK h (mH.1 ho) hn,z7 hn]
   rw[show ((List.range' 0 s.1.length).all (Ho s l))=ol s l from rfl]
   cases hr:ol s l with
   | false=>rfl
   | true =>
    have hc:ai (cz s.1.length fun i=>prQ (vt s l i)) (fun x=>cU x.1)=some (!eqB s l):=by
     rw[EW (p:=fun a=>!decide (a.1=0)) (by rw[cj];omega) (fun a _=>by simp only[cU,jq])]
     congr 1
     unfold eqB
     rw[Bool.eq_iff_iff,List.any_eq_true,Bool.not_eq_true',Bool.eq_false_iff,Ne,List.all_eq_true]
     constructor
     ·rintro ⟨a,ha,h1⟩ hh
      obtain ⟨i,hi,rfl⟩:=qx.1 ha
      have:=z12 (hh i (iy hi))
      rw[z7 (Fi.2 this)] at h1
      cases h1
     ·intro hh
      apply Classical.byContradiction
      intro hn
      apply hh
      intro i hi
      obtain ⟨k,hk,rfl⟩:=List.mem_range'.1 hi
      refine z7 (Classical.byContradiction fun h0=>hn ⟨prQ (vt s l (0+1*k)),qx.2 ⟨_,by omega,rfl⟩,?_⟩)
      rw[z8 fun e=>h0 (Fi.1 e)]
      rfl
    simp only[cT,ah,decide_true,Bool.not_true,cF,hc,Bool.not_not]
  ·have hr:bf s l=some ([],3,()):=by
    unfold bf fh
    rw[uC h hl,ah,ho,z8 hn]
    rfl
   rw[hr,z8 hn]
   rfl
theorem FH {s:Sy} {l:List Fq} (hn:l.length=s.2.length) (hr:ol s l=true):eqB s l=true↔EqS s (vX l):=by
 unfold ol at hr
 unfold eqB
 rw[List.all_eq_true] at hr ⊢
 have e:∀i,i<s.1.length->vt s l i=((bwS s i:Int):Rat) - sq s.2.length fun j=>((Mx s i j:Int):Rat)*vX l j:=fun i hi=>by
  have h1:=hr i (iy hi)
  unfold Ho at h1
  rw[z10] at h1
  have h2:=xM (l:=cz s.2.length (Mx s i)) (x:=l) (by rw[cj];omega) h1.1
  unfold vt Jq
  rw[h2,cj]
  congr 1
  exact dx fun j hj=>by rw[eL hj]
 constructor
 ·intro h i hi
  have h1:=z12 (h i (iy hi))
  rw[e i hi] at h1
  grind
 ·intro h i hi
  obtain ⟨k,hk,rfl⟩:=List.mem_range'.1 hi
  refine z7 ?_
  have h1:=h (0+1*k) (by omega)
  rw[e _ (by omega),h1]
  grind
theorem Fu {l:List Fq} (ho:∀a ∈ l,okF a):(l.all fun a=>!decide (a.1<0))=true↔∀j,j<l.length->0<=vX l j:=by
 rw[L6 (0,0)]
 constructor
 ·intro h j hj
  have h1:=h j hj
  rw[Bool.not_eq_true',decide_eq_false_iff_not] at h1
  exact (lR (ho _ (by rw[bH hj];exact List.getElem_mem _))).2 (by omega)
 ·intro h j hj
  have h1:=(lR (ho (l.getD j (0,0)) (by rw[bH hj];exact List.getElem_mem _))).1 (h j hj)
  rw[Bool.not_eq_true',decide_eq_false_iff_not]
  omega
end
end Go.Proofs.YtegbncajloeepaaGreat

namespace Go.Proofs.YtegbncajloeepaaGreat
open Tryz Dn Dn.Sh
end Go.Proofs.YtegbncajloeepaaGreat

namespace Go.Proofs.YtegbncajloeepaaGreat
noncomputable section
open Tryz Dn Dn.Sh
abbrev Cl:=List Fq×Bool×List Fq
theorem F4:ax=some true:=by kernel_rfl
def Cm (c:Cl):Bool:=decide (c.1.length>30)||decide (c.2.2.length>30)
theorem Hz (c:Cl):aE c=some (Cm c):=by
 simp only[aE,oS]
 unfold Cm
 rw[show decide ((c.1.length:Int)>30)=decide (c.1.length>30) from decide_eq_decide.2 (by omega),show decide ((c.2.2.length:Int)>30)=decide (c.2.2.length>30) from decide_eq_decide.2 (by omega)]
 cases decide (c.1.length>30)<;>rfl
theorem GD {c:Cl} (h:Cm c=false):c.1.length<=30/\c.2.2.length<=30:=by
 unfold Cm at h
 rw[Bool.or_eq_false_iff,decide_eq_false_iff_not,decide_eq_false_iff_not] at h
 omega
def cJ (c:Cl):List Fq:=bif c.2.1 then c.2.2 else c.1
def kJ (c:Cl):List Fq:=bif c.2.1 then c.1 else c.2.2
theorem F6 (c:Cl):bB c=some (cJ c,kJ c,()):=by
 obtain ⟨a,r,b⟩:=c
 simp only[bB,kH]
 cases r<;>rfl
theorem DI {a b:List Fq} (ha:a.length<=1000000) (hb:b.length<=1000000):cH [a,b]=some (a++b):=by
 have two:lpK (List Fq×Int×PUnit) (List Fq) (fun (again:List Fq×Int×PUnit->Option (List Fq)) (x:List Fq×Int×PUnit)=>bif decide (x.2.1<(([a,b].length:Nat):Int)) then bif inB x.2.1 [a,b].length then
   bif eo (x.1.length+([a,b].getD x.2.1.toNat []).length) 16 then again (x.1++[a,b].getD x.2.1.toNat [],IntKind.wrap .i64 (x.2.1+1),PUnit.unit) else none else none else some x.1) ([],(0:Int),PUnit.unit)=some (a++b):=by
  refine (E8 [a,b] ([]:List Fq) (by simp) (fun i (s:List Fq)=>(s,((i:Nat):Int),PUnit.unit)) (fun (x:List Fq) (s:List Fq) k=>bif eo (s.length+x.length) 16 then k (s++x) else none) (fun s=>some s) (fun again i s hi=>?_) (fun again s=>?_) ([]:List Fq)).trans ?_
  ·have hi':i<2:=hi
   have hwr:IntKind.wrap .i64 ((i:Int)+1)=((i+1:Nat):Int):=by rw[bM (by omega) (by omega)];rfl
   simp only[cM,z7 hi,z7 (show (i:Int)<(([a,b].length:Nat):Int) by omega),cT,z9,hwr]
  ·simp only[z8 (show ¬ (([a,b].length:Nat):Int)<(([a,b].length:Nat):Int) by omega),cF]
  ·simp only[yu,List.length_nil,Nat.zero_add,List.nil_append]
   rw[gj (by omega),cT,gj (by omega),cT]
 simp only[cH,iC,jnT]
 refine' (E8 [a,b] ([]:List Fq) (by simp) (fun i (s:Int)=>(s,((i:Nat):Int),PUnit.unit)) (fun (x:List Fq) (s:Int) k=>bif decide (IntKind.wrap .i64 (s+((x.length:Nat):Int))<0) then none else k (IntKind.wrap .i64 (s+((x.length:Nat):Int)))) _ ?_ ?_ (0:Int)).trans ?_
 rotate_left
 ·intro again i s hi
  have hi':i<2:=hi
  have hwr:IntKind.wrap .i64 ((i:Int)+1)=((i+1:Nat):Int):=by rw[bM (by omega) (by omega)];rfl
  simp only[cM,z7 hi,z7 (show (i:Int)<(([a,b].length:Nat):Int) by omega),cT,z9,hwr]
 ·intro again s
  simp only[z8 (show ¬ (([a,b].length:Nat):Int)<(([a,b].length:Nat):Int) by omega),cF]
  rfl
 ·simp only[yu]
  rw[bM (x:=0+((a.length:Nat):Int)) (by omega) (by omega),z8 (show ¬ 0+((a.length:Nat):Int)<0 by omega),cF,bM (x:=0+((a.length:Nat):Int)+((b.length:Nat):Int)) (by omega) (by omega)]
  simp only[z8 (show ¬ 0+((a.length:Nat):Int)+((b.length:Nat):Int)<0 by omega),cF]
  have e0:IntKind.wrap .i64 ((0:Int) - 0)=0:=rfl
  rw[e0,bM (x:=0+((a.length:Nat):Int)+((b.length:Nat):Int) - 0) (by omega) (by omega)]
  simp only[Int.sub_zero]
  by_cases h:0+((a.length:Nat):Int)+((b.length:Nat):Int)>0
  ·rw[z7 h,cT,show slB (0:Int) (0:Int) 0=true from rfl,cT,gj (by omega),DL (by omega) (by omega) (by omega),z7 (show 0<(0+((a.length:Nat):Int)+((b.length:Nat):Int)).toNat by omega)]
   simp only[Bool.and_self,cT]
   exact two
  ·rw[z8 h,cF]
   exact two
theorem FQ {c:Cl} (h1:c.1.length<=1000) (h2:c.2.2.length<=1000):bw c=some (okL c.1&&okL c.2.2):=by
 simp only[bw,kT,DI (show c.1.length<=1000000 by omega) (show c.2.2.length<=1000000 by omega),ah]
 rw[EW (p:=fun a=>!decide (okF a)) (by rw[List.length_append];omega) (fun a _=>by simp only[dM,iX,kl,ah]),ah,vF,Bool.not_not,List.all_append]
 rfl
def ij (c:Cl):Int:=bif okL c.1&&okL c.2.2 then bif decide (0<(kJ c).length) then 19 else 0 else 1
def qq (s:Sy) (c:Cl):Bool×Int×Unit :=
 bif fi s then bif decide (ij c=0) then bif decide ((cJ c).length=bif c.2.1 then s.1.length else s.2.length) then
  bif c.2.1 then bif rQ (ey s (gI s)) (cJ c)&&(qa (ey s (gI s)) (cJ c)).isSome then (Ed (ey s (gI s)) (cJ c),0,()) else (false,5,())
  else bif ol s (cJ c) then (eqB s (cJ c)&&(cJ c).all fun a=>!decide (a.1<0),0,()) else (false,5,())
  else (false,3,()) else (false,ij c,()) else (false,1,())
theorem oA {c:Cl} (h:ij c=0):(∀a ∈ cJ c,okF a)/\(kJ c).length=0:=by
 unfold ij at h
 cases hb:okL c.1&&okL c.2.2 with
 | false=>rw[hb,cF] at h;omega
 | true =>
  rw[hb,cT] at h
  rw[z10] at hb
  refine ⟨?_,?_⟩
  ·unfold cJ
   cases c.2.1
   ·exact mH.1 hb.1
   ·exact mH.1 hb.2
  ·by_cases h0:0<(kJ c).length
   ·rw[z7 h0,cT] at h;omega
   ·omega
theorem NO {l:List Fq}:(!l.any fun a=>decide (a.1<0))=l.all fun a=>!decide (a.1<0):=by
 rw[<-Bool.not_not (l.all _),<-vF]
 simp only[Bool.not_not]
theorem ut (s:Sy) {c:Cl} (h1:c.1.length<=1000) (h2:c.2.2.length<=1000):ap s c=some (qq s c):=by
 simp only[ap,kN,F6,Ax,FQ h1 h2,ah,EM]
 have hll:(cJ c).length<=1000:=by unfold cJ;cases c.2.1<;>assumption
 unfold qq
 cases hv:fi s with
 | false=>cases c.2.1<;>rfl
 | true =>
  have hV:=iO hv
  have hp:=H1 hV
  have hpl:(ey s (gI s)).2.length=s.1.length:=cj
  have hg:(okL c.1&&okL c.2.2)=false\/(okL c.1&&okL c.2.2)=true/\decide (0<(kJ c).length)=true\/ij c=0:=by
   unfold ij
   cases okL c.1&&okL c.2.2 with
   | false=>exact .inl rfl
   | true=>cases decide (0<(kJ c).length) with
    | true=>exact .inr (.inl ⟨rfl,rfl⟩)
    | false=>exact .inr (.inr rfl)
  have ho:decide (((kJ c).length:Int)>0)=decide (0<(kJ c).length):=decide_eq_decide.2 (by omega)
  rcases hg with hg | ⟨hg,hg2⟩ | hg
  ·have e:ij c=1:=by unfold ij;rw[hg];rfl
   rw[e,hg]
   cases c.2.1<;>rfl
  ·have e:ij c=19:=by unfold ij;rw[hg,hg2];rfl
   rw[e,hg,ho,hg2]
   cases c.2.1<;>rfl
  ·obtain ⟨hok,hot⟩:=oA hg
   have hgB:(okL c.1&&okL c.2.2)=true:=by
    unfold ij at hg
    cases hb:okL c.1&&okL c.2.2 with
    | false=>rw[hb,cF] at hg;omega
    | true=>rfl
   rw[hg,hgB,ho,z8 (show ¬ 0<(kJ c).length by omega)]
   simp only[decide_true,Bool.not_true,Bool.not_false,Bool.or_true,cT,cF,ah]
   have hpv:df s (cJ c)=some (bif decide ((cJ c).length=s.1.length) then bif rQ (ey s (gI s)) (cJ c)&&(qa (ey s (gI s)) (cJ c)).isSome then (Ed (ey s (gI s)) (cJ c),0,()) else (false,5,()) else (false,3,())):=by
    rw[Dw hv,CW (show (cJ c).length<=1000000 by omega),xQ.2 hp,mH.2 hok,hpl,ah]
    rfl
   have hcc:=G3 hv (l:=cJ c) (by omega)
   rw[mH.2 hok,cT] at hcc
   cases hc:c.2.1 with
   | true =>
    simp only[cT]
    by_cases hn:(cJ c).length=s.1.length
    ·rw[z7 hn,z7 (show ((cJ c).length:Int)=s.1.length by omega)]
     simp only[Bool.not_true,cF,cT,hpv,z7 hn,ah]
    ·rw[z8 hn,z8 (show ¬ ((cJ c).length:Int)=s.1.length by omega)]
     rfl
   | false =>
    simp only[cF]
    by_cases hn:(cJ c).length=s.2.length
    ·rw[z7 hn,z7 (show ((cJ c).length:Int)=s.2.length by omega)]
     rw[z7 hn,cT] at hcc
     simp only[Bool.not_true,cF,cT,hcc,ah]
     cases ol s (cJ c) with
     | false=>rfl
     | true =>
      simp only[cT,decide_true,Bool.not_true,Bool.or_true]
      cases eqB s (cJ c) with
      | false=>rfl
      | true =>
       simp only[cT,Bool.not_true,Bool.or_true,Bool.true_and]
       rw[EW (p:=fun a=>decide (a.1<0)) (by omega) (fun a _=>by simp only[dH,jl]),ah,NO]
    ·rw[z8 hn,z8 (show ¬ ((cJ c).length:Int)=s.2.length by omega)]
     rfl
end
end Go.Proofs.YtegbncajloeepaaGreat

namespace Go.Proofs.YtegbncajloeepaaGreat
open Tryz Dn Dn.Sh
structure TabR (m w:Nat) (L:Nat->Nat->Int) (t:List Nat×List (Option (List Int))):Prop where
 len:t.1.length=m
 cell:∀i,i<m->t.2.getD (t.1.getD i 0) none=some (cz w (L i))
 inj:∀i j,i<m->j<m->t.1.getD i 0=t.1.getD j 0->i=j
section
variable {m w:Nat} {L L':Nat->Nat->Int} {t:List Nat×List (Option (List Int))}
theorem TabR.row (h:TabR m w L t) {i:Nat} (hi:i<m):bu t.2 (t.1.getD i 0)=cz w (L i):=by unfold bu;rw[h.cell i hi];rfl
theorem TabR.live (h:TabR m w L t) {i:Nat} (hi:i<m):fS t.2 (t.1.getD i 0)=true:=by unfold fS;rw[h.cell i hi];rfl
theorem TabR.id_lt (h:TabR m w L t) {i:Nat} (hi:i<m):t.1.getD i 0<t.2.length:=by
 have h1:=h.cell i hi
 by_cases h2:t.1.getD i 0<t.2.length
 ·exact h2
 ·rw[List.getD_eq_getElem?_getD,List.getElem?_eq_none (by omega)] at h1
  cases h1
theorem TabR.congr (h:TabR m w L t) (e:∀i j,i<m->j<w->L i j=L' i j):TabR m w L' t :=
 ⟨h.len,fun i hi=>by rw[h.cell i hi,fw fun j hj=>e i j hi hj],h.inj⟩
theorem TabR.all (h:TabR m w L t):(t.1.all fun x=>fS t.2 x)=true:=by
 rw[List.all_eq_true]
 intro x hx
 obtain ⟨i,hi,he⟩:=List.mem_iff_getElem.1 hx
 have hi':i<m:=by rw[<-h.len];exact hi
 have:=h.live hi'
 rw[bH hi,he] at this
 exact this
theorem TabR.map (h:TabR m w L t):t.1.map (fun x=>bu t.2 x)=Bc m w L:=by
 refine List.ext_getElem (by rw[List.length_map,h.len,nl]) fun i h1 h2=>?_
 have hi:i<m:=by rw[nl] at h2;exact h2
 have hi':i<t.1.length:=by rw[h.len];exact hi
 have e1:=h.row hi
 rw[bH hi'] at e1
 rw[List.getElem_map,e1]
 have e2:=wm (w:=w) (T:=L) hi
 rw[bH h2] at e2
 exact e2.symm
theorem TabR.put (h:TabR m w L t) {i j:Nat} {x:Int} (hi:i<m) (hj:j<w) (e:∀k l,k<m->l<w->(if k=i/\l=j then x else L k l)=L' k l) :
  TabR m w L' (t.1,t.2.set (t.1.getD i 0) (some ((cz w (L i)).set j x))):=by
 refine ⟨h.len,fun k hk=>?_,h.inj⟩
 show (t.2.set (t.1.getD i 0) (some ((cz w (L i)).set j x))).getD (t.1.getD k 0) none=_
 have hl:=h.id_lt hi
 rw[List.getD_eq_getElem?_getD,List.getElem?_set]
 by_cases c:i=k
 ·subst c
  rw[if_pos rfl,if_pos hl,tz hj]
  show some _=some _
  congr 1
  refine fw fun l hl=>?_
  rw[<-e i l hi hl]
  by_cases c2:l=j
  ·rw[if_pos c2,if_pos ⟨rfl,c2⟩]
  ·rw[if_neg c2,if_neg fun h=>c2 h.2]
 ·rw[if_neg fun h'=>c (h.inj i k hi hk h'),<-List.getD_eq_getElem?_getD,h.cell k hk]
  congr 1
  refine fw fun l hl=>?_
  rw[<-e k l hk hl,if_neg fun h=>c h.1.symm]
def swp (a b i:Nat):Nat:=if i=a then b else if i=b then a else i
theorem vS (a b i:Nat):swp a b (swp a b i)=i:=by unfold swp;(repeat' split)<;>omega
theorem qe {a b i:Nat} (ha:a<m) (hb:b<m) (hi:i<m):swp a b i<m:=by unfold swp;(repeat' split)<;>omega
theorem IG {l:List Nat} {a b i:Nat} (ha:a<l.length) (hb:b<l.length):((l.set a (l.getD b 0)).set b (l.getD a 0)).getD i 0=l.getD (swp a b i) 0:=by
 rw[List.getD_eq_getElem?_getD,List.getElem?_set,List.length_set,List.getElem?_set]
 unfold swp
 by_cases c1:i=a
 ·subst c1
  by_cases c2:b=i
  ·subst c2
   rw[if_pos rfl,if_pos ha,if_pos rfl]
   rfl
  ·rw[if_neg c2,if_pos rfl,if_pos ha,if_pos rfl]
   rfl
 ·by_cases c2:b=i
  ·subst c2
   rw[if_pos rfl,if_pos hb,if_neg c1,if_pos rfl]
   rfl
  ·rw[if_neg c2,if_neg (fun h=>c1 h.symm),if_neg c1,if_neg (fun h=>c2 h.symm),List.getD_eq_getElem?_getD]
theorem TabR.swap (h:TabR m w L t) {a b:Nat} (ha:a<m) (hb:b<m):TabR m w (fun i=>L (swp a b i)) ((t.1.set a (t.1.getD b 0)).set b (t.1.getD a 0),t.2++[]++[]):=by
 have e:=fun i=>IG (l:=t.1) (a:=a) (b:=b) (i:=i) (by rw[h.len];exact ha) (by rw[h.len];exact hb)
 refine ⟨by rw[List.length_set,List.length_set];exact h.len,fun i hi=>?_,fun i j hi hj he=>?_⟩
 ·show (t.2++[]++[]).getD (((t.1.set a (t.1.getD b 0)).set b (t.1.getD a 0)).getD i 0) none=_
  rw[e,List.append_nil,List.append_nil,h.cell _ (qe ha hb hi)]
 ·have he':((t.1.set a (t.1.getD b 0)).set b (t.1.getD a 0)).getD i 0=((t.1.set a (t.1.getD b 0)).set b (t.1.getD a 0)).getD j 0:=he
  rw[e,e] at he'
  have:=h.inj _ _ (qe ha hb hi) (qe ha hb hj) he'
  rw[<-vS a b i,this,vS]
end
def zH (w:Nat) (N:Nat->Nat->Int):Nat->Nat->Int:=fun i j=>if j<w then N i j else if j=w+i then 1 else 0
section
variable {m w:Nat} {a b:Nat}
theorem Qb {f:Nat->Int} (ha:a<m) (hb:b<m) (hab:a≠b):sz m (fun i=>f (swp a b i))=sz m f:=by
 have e:sz m (fun i=>f (swp a b i))=sz m fun i=>f i+((if i=a then f b - f a else 0)+(if i=b then f a - f b else 0)):=cb fun i hi=>by
  unfold swp
  by_cases h1:i=a
  ·subst h1
   rw[if_pos rfl,if_pos rfl,if_neg hab]
   omega
  ·rw[if_neg h1,if_neg h1]
   by_cases h2:i=b
   ·subst h2
    rw[if_pos rfl,if_pos rfl]
    omega
   ·rw[if_neg h2,if_neg h2]
    omega
 rw[e,om,om,gv ha (f:=fun i=>if i=a then f b - f a else 0) (fun i _ hne=>if_neg hne),gv hb (f:=fun i=>if i=b then f a - f b else 0) (fun i _ hne=>if_neg hne)]
 simp only[if_true]
 omega
theorem IV {M:Nat->Nat->Int} {γ:Nat->Nat} (ha:a<m) (hb:b<m) (hab:a≠b):dc m M (fun k=>γ (swp a b k))= - dc m M γ:=by
 have e1:fe M (fun k=>γ (swp a b k))=bF (bF (fe M γ) a fun i=>M i (γ b)) b fun i=>M i (γ a):=by
  funext i k
  show M i (γ (if k=a then b else if k=b then a else k))=if k=b then M i (γ a) else if k=a then M i (γ b) else M i (γ k)
  by_cases h1:k=b
  ·subst h1
   rw[if_neg (Ne.symm hab),if_pos rfl,if_pos rfl]
  ·rw[if_neg h1,if_neg h1]
   by_cases h2:k=a
   ·rw[if_pos h2,if_pos h2]
   ·rw[if_neg h2,if_neg h2]
 have e2:fe M γ=bF (bF (fe M γ) a fun i=>M i (γ a)) b fun i=>M i (γ b):=by
  funext i k
  show M i (γ k)=if k=b then M i (γ b) else if k=a then M i (γ a) else M i (γ k)
  by_cases h1:k=b
  ·rw[if_pos h1,h1]
  ·rw[if_neg h1]
   by_cases h2:k=a
   ·rw[if_pos h2,h2]
   ·rw[if_neg h2]
 have e3:det m (fe M γ)=det m (bF (bF (fe M γ) a fun i=>M i (γ a)) b fun i=>M i (γ b)):=by rw[<-e2]
 unfold dc
 rw[e1,Bv ha hb hab,e3]
theorem Dn.Tb.swap {W:Nat} {M T:Nat->Nat->Int} {d:Int} {β:Nat->Nat} (h:Tb m W M T d β) (ha:a<m) (hb:b<m) (hab:a≠b):Tb m W M (fun i=>T (swp a b i)) d (fun i=>β (swp a b i)):=by
 refine ⟨h.dpos,fun i hi=>h.lt _ (qe ha hb hi),fun k hk j hj=>?_,?_⟩
 ·rw[Qb (f:=fun i=>T i j*M k (β i)) ha hb hab]
  exact h.co k hk j hj
 ·obtain ⟨σ,h1,h2,h3⟩:=h.cr
  refine ⟨-σ,by rw[Int.neg_mul_neg];exact h1,by rw[IV ha hb hab,Int.neg_mul_neg];exact h2,fun i hi j hj=>?_⟩
  have e:upd (fun i=>β (swp a b i)) i j=fun k=>upd β (swp a b i) j (swp a b k):=by
   funext k
   unfold upd
   by_cases c:k=i
   ·rw[if_pos c,c,if_pos rfl]
   ·rw[if_neg c,if_neg fun h=>c (by rw[<-vS a b k,h,vS])]
  rw[e,IV ha hb hab,Int.neg_mul_neg]
  exact h3 _ (qe ha hb hi) j hj
end
structure ElBnd (m w c:Nat) (N:Nat->Nat->Int):Prop where
 hm:1<=m/\m<=1000
 hw:w<=1000
 hc:c<=w
 b:∀T d β,Tb m (w+m) (zH w N) T d β->(∀i,i<m->β i<c\/w<=β i)->∀i j,i<m->j<w+m->ab (T i j)<4611686018427387904
structure El (m w c:Nat) (N:Nat->Nat->Int) (C k:Nat) (p:Nat->Nat) (L:Nat->Nat->Int) (e:Int) (T:Nat->Nat->Int) (d:Int) (β:Nat->Nat) (s:Int):Prop where
 tb:Tb m (w+m) (zH w N) T d β
 cc:C<=c
 s1:s=1\/s= -1
 le:∀i j,i<m->j<w->L i j=s*T i j
 de:e=s*d
 km:k<=m
 bp:∀i,i<k->β i=p i/\p i<C
 inc:∀i j,i<j->j<k->p i<p j
 bs:∀i,k<=i->i<m->w<=β i
 z:∀i j,k<=i->i<m->j<C->T i j=0
section
variable {m w c:Nat} {N:Nat->Nat->Int} {C k:Nat} {p:Nat->Nat} {L:Nat->Nat->Int} {e:Int} {T:Nat->Nat->Int} {d:Int} {β:Nat->Nat} {s:Int}
theorem El.first (_:m<=1000):El m w c N 0 0 (fun _=>0) N 1 (zH w N) 1 (fun i=>w+i) 1:=by
 refine ⟨Tb.first (fun i hi=>by omega) (fun k hk i hi=>?_),Nat.zero_le _,.inl rfl,fun i j hi hj=>?_,rfl,Nat.zero_le _,fun i hi=>by omega,fun i j _ hj=>by omega,fun i _ _=>Nat.le_add_right _ _,fun i j _ _ hj=>by omega⟩
 ·unfold zH
  rw[if_neg (by omega)]
  by_cases h:k=i
  ·rw[if_pos (by omega),if_pos h]
  ·rw[if_neg (by omega),if_neg h]
 ·unfold zH
  rw[if_pos hj,Int.one_mul]
theorem El.swap (h:El m w c N C k p L e T d β s) {a b:Nat} (ha:k<=a/\a<m) (hb:k<=b/\b<m) (hab:a≠b):El m w c N C k p (fun i=>L (swp a b i)) e (fun i=>T (swp a b i)) d (fun i=>β (swp a b i)) s:=by
 have hs:∀i,i<k->swp a b i=i:=fun i hi=>by unfold swp;rw[if_neg (by omega),if_neg (by omega)]
 have hs2:∀i,k<=i->k<=swp a b i:=fun i hi=>by unfold swp;(repeat' split)<;>omega
 refine ⟨h.tb.swap ha.2 hb.2 hab,h.cc,h.s1,fun i j hi hj=>h.le _ j (qe ha.2 hb.2 hi) hj,h.de,h.km,fun i hi=>?_,h.inc,fun i h1 h2=>h.bs _ (hs2 i h1) (qe ha.2 hb.2 h2),fun i j h1 h2 h3=>h.z _ j (hs2 i h1) (qe ha.2 hb.2 h2) h3⟩
 show β (swp a b i)=p i/\_
 rw[hs i hi]
 exact h.bp i hi
theorem El.sne (h:El m w c N C k p L e T d β s):s*s=1:=by rcases h.s1 with h | h<;>rw[h]<;>rfl
theorem El.ene (h:El m w c N C k p L e T d β s):e≠0:=by
 have:=h.tb.dpos
 rw[h.de]
 rcases h.s1 with h | h<;>rw[h]<;>omega
theorem El.skip (h:El m w c N C k p L e T d β s) (hC:C<c) (hw:c<=w) (h0:∀i,k<=i->i<m->L i C=0):El m w c N (C+1) k p L e T d β s:=by
 refine ⟨h.tb,hC,h.s1,h.le,h.de,h.km,fun i hi=>⟨(h.bp i hi).1,by have:=(h.bp i hi).2;omega⟩,h.inc,h.bs,fun i j h1 h2 h3=>?_⟩
 by_cases c:j=C
 ·subst c
  have h4:=h.le i j h2 (by omega)
  rw[h0 i h1 h2] at h4
  rcases h.s1 with h5 | h5<;>rw[h5] at h4<;>omega
 ·exact h.z i j h1 h2 (by omega)
def elq (L:Nat->Nat->Int) (e:Int) (r c i j:Nat):Int:=(L i j*L r c - L i c*L r j) / e
def elL (L:Nat->Nat->Int) (e:Int) (r c:Nat):Nat->Nat->Int:=fun i j=>if i=r then L r j else elq L e r c i j
theorem El.exact (h:El m w c N C k p L e T d β s) (hk:k<m) (hC:C<w) {i j:Nat} (hi:i<m) (hne:i≠k) (hj:j<w) :
  e*elq L e k C i j=L i j*L k C - L i C*L k j/\elq L e k C i j=s*piv T d k C i j:=by
 have h1:=iI h.tb hk hi (Ne.symm hne) (show C<w+m by omega) (show j<w+m by omega)
 have h2:L i j*L k C - L i C*L k j=e*(s*piv T d k C i j):=by
  rw[h.le i j hi hj,h.le k C hk hC,h.le i C hi hC,h.le k j hk hj,h.de]
  have h3:=h.sne
  have h4:s*d*(s*piv T d k C i j)=s*s*(d*piv T d k C i j):=by grind
  rw[h4,h1,h3]
  have h5:s*T i j*(s*T k C) - s*T i C*(s*T k j)=s*s*(T k C*T i j - T i C*T k j):=by grind
  rw[h5,h3]
 have h6:elq L e k C i j=s*piv T d k C i j:=by
  unfold elq
  rw[h2,Int.mul_ediv_cancel_left _ h.ene]
 exact ⟨by rw[h6,h2],h6⟩
theorem El.pivot (h:El m w c N C k p L e T d β s) (hk:k<m) (hC:C<c) (hw:c<=w) (h0:L k C≠0) :
  El m w c N (C+1) (k+1) (upd p k C) (elL L e k C) (L k C) (rr T d k C) (sg (T k C)*T k C) (upd β k C) (s*sg (T k C)):=by
 have hT:T k C≠0:=fun h1=>h0 (by rw[h.le k C hk (by omega),h1,Int.mul_zero])
 have hs1:sg (T k C)=1\/sg (T k C)= -1:=by unfold sg;split<;>omega
 refine ⟨h.tb.step hk (by omega) hT,hC,?_,fun i j hi hj=>?_,?_,hk,fun i hi=>?_,fun i j h1 h2=>?_,fun i h1 h2=>?_,fun i j h1 h2 h3=>?_⟩
 ·rcases h.s1 with h1 | h1<;>rcases hs1 with h2 | h2<;>rw[h1,h2]<;>simp
 ·have e0:s*sg (T k C)*(sg (T k C)*(if i=k then T k j else piv T d k C i j))=s*(if i=k then T k j else piv T d k C i j):=by
   have:=Dv (T k C)
   grind
  unfold rr
  rw[e0]
  unfold elL
  by_cases c:i=k
  ·rw[if_pos c,if_pos c]
   exact h.le k j hk hj
  ·rw[if_neg c,if_neg c]
   exact (h.exact hk (by omega) hi c hj).2
 ·have:=Dv (T k C)
  rw[h.le k C hk (by omega)]
  grind
 ·unfold upd
  by_cases c:i=k
  ·rw[if_pos c,if_pos c]
   exact ⟨rfl,by omega⟩
  ·rw[if_neg c,if_neg c]
   have:=h.bp i (by omega)
   exact ⟨this.1,by omega⟩
 ·unfold upd
  rw[if_neg (by omega)]
  by_cases c:j=k
  ·rw[if_pos c]
   exact (h.bp i (by omega)).2
  ·rw[if_neg c]
   exact h.inc i j h1 (by omega)
 ·unfold upd
  rw[if_neg (by omega)]
  exact h.bs i (by omega) h2
 ·unfold rr
  rw[if_neg (by omega)]
  have h4:T k C*T i j - T i C*T k j=0:=by
   by_cases c:j=C
   ·subst c
    rw[Int.mul_comm]
    omega
   ·rw[h.z i j (by omega) h2 (by omega),h.z k j (Nat.le_refl _) hk (by omega)]
    simp
  unfold piv
  rw[h4]
  simp
theorem El.bound (h:El m w c N C k p L e T d β s) (hB:ElBnd m w c N):(∀i j,i<m->j<w->(L i j).natAbs<4611686018427387904)/\e.natAbs<4611686018427387904:=by
 have hb:=hB.b T d β h.tb fun i hi=>by
  by_cases h1:i<k
  ·have:=h.bp i h1
   have:=h.cc
   exact .inl (by omega)
  ·exact .inr (h.bs i (by omega) hi)
 have key:∀x:Int,ab x<4611686018427387904->(s*x).natAbs<4611686018427387904:=fun x hx=>by
  unfold ab at hx
  rcases h.s1 with h1 | h1<;>rw[h1]<;>omega
 refine ⟨fun i j hi hj=>?_,?_⟩
 ·rw[h.le i j hi hj]
  exact key _ (hb i j hi (by omega))
 ·rw[h.de]
  refine key _ ?_
  have hm:=hB.hm
  have:=hb 0 (β 0) (by omega) (h.tb.lt 0 (by omega))
  rwa [h.tb.basis (show 0<m by omega)] at this
end
def GF (n:Nat) (N:Nat->Nat->Int) (b:Nat->Int):Nat->Nat->Int:=fun i j=>if j<n then N i j else b i
def EqN (m n:Nat) (N:Nat->Nat->Int) (b:Nat->Int) (x:Nat->Rat):Prop:=∀i,i<m->(sq n fun j=>((N i j:Int):Rat)*x j)=((b i:Int):Rat)
section
variable {m n:Nat} {N:Nat->Nat->Int} {b:Nat->Int} {k:Nat} {p:Nat->Nat} {L:Nat->Nat->Int} {e:Int} {T:Nat->Nat->Int} {d:Int} {β:Nat->Nat} {s:Int}
theorem El.row_eq (h:El m (n+1) n (GF n N b) n k p L e T d β s) {x:Nat->Rat} (hx:EqN m n N b x) {i:Nat} (hi:i<m):(sq n fun j=>((T i j:Int):Rat)*x j)=((T i n:Int):Rat):=by
 have hr:∀j,j<n+1+m->T i j=sz m fun q=>T i (n+1+q)*zH (n+1) (GF n N b) q j:=fun j hj =>
  h.tb.rows (a:=fun q=>n+1+q) (fun q hq=>by omega) (fun q hq r hr=>by
   unfold zH
   rw[if_neg (by omega)]
   by_cases c:q=r
   ·rw[if_pos (by omega),if_pos c]
   ·rw[if_neg (by omega),if_neg c]) hi hj
 have h1:∀j,j<n->((T i j:Int):Rat)=sq m fun q=>((T i (n+1+q):Int):Rat)*((N q j:Int):Rat):=fun j hj=>by
  rw[hr j (by omega),<-Ah]
  refine dx fun q _=>?_
  unfold zH GF
  rw[if_pos (by omega),if_pos hj,Rat.intCast_mul]
 have h2:((T i n:Int):Rat)=sq m fun q=>((T i (n+1+q):Int):Rat)*((b q:Int):Rat):=by
  rw[hr n (by omega),<-Ah]
  refine dx fun q _=>?_
  unfold zH GF
  rw[if_pos (by omega),if_neg (by omega),Rat.intCast_mul]
 have h3:(sq n fun j=>((T i j:Int):Rat)*x j)=sq n fun j=>sq m fun q=>((T i (n+1+q):Int):Rat)*(((N q j:Int):Rat)*x j):=dx fun j hj=>by
  rw[h1 j hj,Rat.mul_comm,<-sN]
  exact dx fun q _=>by grind
 rw[h3,<-Ag,h2]
 refine dx fun q hq=>?_
 rw[sN,hx q hq]
theorem El.row_val (h:El m (n+1) n (GF n N b) n k p L e T d β s) {i:Nat} (hi:i<m):L i n=0↔T i n=0:=by
 rw[h.le i n hi (by omega)]
 rcases h.s1 with h1 | h1<;>rw[h1]<;>omega
theorem El.none (h:El m (n+1) n (GF n N b) n k p L e T d β s) {i:Nat} (hk:k<=i) (hi:i<m) (h0:L i n≠0) (x:Nat->Rat):¬ EqN m n N b x:=fun hx=>by
 have h1:=h.row_eq hx hi
 rw[tE fun j hj=>by rw[h.z i j hk hi hj];exact Rat.zero_mul _] at h1
 exact h0 ((h.row_val hi).2 (Rat.intCast_inj.1 h1.symm))
end
theorem zh {s:Sy} (h:fi s=true) {c:Cl} (hc:(qq s c).1=true) (_:(qq s c).2.1=0):(c.2.1=false/\(fX (ey s (gI s))).Feas (vX (cJ c))/\(cJ c).length=s.2.length/\(∀a ∈ cJ c,okF a))\/(c.2.1=true/\(fX (ey s (gI s))).Ref (vX (cJ c))/\(cJ c).length=s.1.length/\(∀a ∈ cJ c,okF a)):=by
 have hpl:(ey s (gI s)).2.length=s.1.length:=cj
 unfold qq at hc
 rw[h,cT] at hc
 by_cases hg:ij c=0
 ·obtain ⟨ho,_⟩:=oA hg
  rw[z7 hg,cT] at hc
  cases hr:c.2.1 with
  | false =>
   rw[hr] at hc
   simp only[cF] at hc
   by_cases hn:(cJ c).length=s.2.length
   ·rw[z7 hn,cT] at hc
    cases hra:ol s (cJ c) with
    | false=>rw[hra] at hc;cases hc
    | true =>
     rw[hra,cT] at hc
     have hc2:(eqB s (cJ c)&&(cJ c).all fun a=>!decide (a.1<0))=true:=hc
     rw[z10] at hc2
     refine .inl ⟨rfl,(yg uv).2 ⟨fun j hj=>(Fu ho).1 hc2.2 j (by omega),(FH hn hra).1 hc2.1⟩,hn,ho⟩
   ·rw[z8 hn] at hc;cases hc
  | true =>
   rw[hr] at hc
   simp only[cT] at hc
   by_cases hn:(cJ c).length=s.1.length
   ·rw[z7 hn,cT] at hc
    cases hfy:rQ (ey s (gI s)) (cJ c)&&(qa (ey s (gI s)) (cJ c)).isSome with
    | false=>rw[hfy] at hc;cases hc
    | true =>
     rw[hfy,cT] at hc
     have hc2:Ed (ey s (gI s)) (cJ c)=true:=hc
     rw[z10] at hfy
     exact .inr ⟨rfl,(uG ho (by rw[hpl];exact hn) hfy.1 hfy.2).1 hc2,hn,ho⟩
   ·rw[z8 hn] at hc;cases hc
 ·rw[z8 hg] at hc
  cases hc
def gn (s:Sy) (f:Int->Int):Sy:=(s.1.map fun b=>(b.1,f b.2),s.2)
section
variable {s:Sy} {f:Int->Int}
theorem lQ:(gn s f).1.length=s.1.length:=by unfold gn;rw[List.length_map]
theorem Fv {i:Nat} (h:i<s.1.length):(gn s f).1.getD i bk0=((s.1.getD i bk0).1,f (s.1.getD i bk0).2):=by
 unfold gn
 exact nn (f:=fun b:Bk=>(b.1,f b.2)) (d:=bk0) h bk0
theorem L9 {i:Nat} (h:i<s.1.length):bnS (gn s f) i=bnS s i:=by unfold bnS;rw[Fv h]
theorem AY {i:Nat} (h:i<s.1.length):bwS (gn s f) i=f (bwS s i):=by
 show ((gn s f).1.getD i bk0).2=_
 rw[Fv h]
 rfl
theorem Ar {i:Nat} (h:i<s.1.length) (k:Nat):Mx (gn s f) i k=Mx s i k:=by
 unfold Mx
 rw[L9 h]
 rfl
theorem NS {x:Nat->Rat}:EqS (gn s f) x↔∀i,i<s.1.length->(sq s.2.length fun j=>((Mx s i j:Int):Rat)*x j)=((f (bwS s i):Int):Rat):=by
 unfold EqS
 rw[lQ]
 constructor
 ·intro h i hi
  have h1:=h i hi
  rw[AY hi] at h1
  rw[<-h1]
  exact dx fun j _=>by rw[Ar hi]
 ·intro h i hi
  rw[AY hi,<-h i hi]
  exact dx fun j _=>by rw[Ar hi]
theorem Il {x:Nat->Rat}:EqS (gn s fun w=>w*2) x↔EqS s fun j=>x j / 2:=by
 rw[NS]
 have e:∀i,(sq s.2.length fun j=>((Mx s i j:Int):Rat)*(x j / 2))=(1 / 2)*sq s.2.length fun j=>((Mx s i j:Int):Rat)*x j:=fun i=>by
  rw[<-sN]
  exact dx fun j _=>by grind
 have c:∀i,((bwS s i*2:Int):Rat)=2*((bwS s i:Int):Rat):=fun i=>by
  rw[Rat.intCast_mul]
  have:((2:Int):Rat)=2:=rfl
  rw[this]
  grind
 constructor
 ·intro h i hi
  have h1:=h i hi
  rw[e,h1]
  show (1:Rat) / 2*((bwS s i*2:Int):Rat)=_
  rw[c]
  grind
 ·intro h i hi
  have h1:=h i hi
  rw[e] at h1
  show _=((bwS s i*2:Int):Rat)
  rw[c,<-h1]
  grind
end
theorem Jw {s:Sy} (hv:ValidS s):dn s=some s:=by
 have hb:=hv.bl
 have hr:=hv.rl
 simp only[dn,oT,gj (show (0+s.1.length)*24<=140737488355328 by omega),cT]
 refine (md s.2.length (by omega) (fun i=>((i:Int),s.1,s.2.take i,PUnit.unit)) (some (s.1,s.2.take s.2.length)) rfl (fun again i hi=>?_) (fun again=>?_)).trans ?_
 ·have hh:=hv.hl i hi
  unfold hsS at hh
  have hl:(s.2.take i).length<=6:=by rw[List.length_take];omega
  simp only[z7 (show (i:Int)<s.2.length by omega),cM,z7 hi,cT,z9,eC (show i<=1000000 by omega)]
  rw[show List.getD s.2 i ({ data:={ toList:=[] } },[],false)=s.2.getD i rp0 from rfl,gj (show (0+(s.2.getD i rp0).2.1.length)*40<=140737488355328 by omega),cT,gj (show ((s.2.take i).length+1)*48<=140737488355328 by omega),cT,
   show s.2.take i++s.2.getD i rp0 ::[]=s.2.take (i+1) from uc rp0 hi]
 ·simp only[z8 (show ¬ (s.2.length:Int)<s.2.length by omega),cF]
 ·rw[List.take_length]
def vr (f:Int->Int) (i:Nat) (l:List Bk):List Bk:=cz l.length fun k=>if k<i then ((l.getD k bk0).1,f (l.getD k bk0).2) else l.getD k bk0
theorem KT {f:Int->Int} {i:Nat} {l:List Bk}:(vr f i l).length=l.length:=cj
theorem Io {f:Int->Int} {i:Nat} {l:List Bk} (h:i<l.length):(vr f i l).getD i bk0=l.getD i bk0:=by
 unfold vr
 rw[eL h,if_neg (Nat.lt_irrefl i)]
theorem IY {f:Int->Int} {i:Nat} {l:List Bk} (h:i<l.length):(vr f i l).set i ((l.getD i bk0).1,f (l.getD i bk0).2)=vr f (i+1) l:=by
 unfold vr
 rw[tz h]
 refine fw fun k hk=>?_
 by_cases c:k=i
 ·subst c
  rw[if_pos rfl,if_pos (by omega)]
 ·rw[if_neg c]
  by_cases c2:k<i
  ·rw[if_pos c2,if_pos (by omega)]
  ·rw[if_neg c2,if_neg (by omega)]
theorem F5 {f:Int->Int} {l:List Bk}:l=vr f 0 l:=by
 unfold vr
 refine List.ext_getElem cj.symm fun i h1 h2=>?_
 rw[vW,if_neg (by omega),bH h1]
theorem Ik {f:Int->Int} {l:List Bk}:vr f l.length l=l.map fun b=>(b.1,f b.2):=by
 unfold vr
 refine List.ext_getElem (by rw[cj,List.length_map]) fun i h1 h2=>?_
 have h3:i<l.length:=by rw[cj] at h1;exact h1
 rw[vW,if_pos h3,bH h3,List.getElem_map]
section
variable {s:Sy} {c:List Int}
open Tryz Dn Dn.Sh
section
variable {s:Sy} {c:List Int}
theorem OJ {k j:Nat} (hc:c.length=s.2.length) (hk:k<s.1.length) (hj:j<s.2.length):(fX (ey s c)).A k j=Mx s k j:=by
 rw[zG s c hc]
 show ((cz s.1.length (js s)).getD k rw0).1.getD j 0=_
 simp only[eL hk,js,eL hj]
theorem I6 {k:Nat} (hc:c.length=s.2.length) (hk:k<s.1.length):(fX (ey s c)).b k=bwS s k/\(fX (ey s c)).kd k=3:=by
 rw[zG s c hc]
 refine ⟨?_,?_⟩
 ·show ((cz s.1.length (js s)).getD k rw0).2.2=_
  rw[eL hk]
  rfl
 ·show ((cz s.1.length (js s)).getD k rw0).2.1=_
  rw[eL hk]
  rfl
theorem Nz (hc:c.length=s.2.length) {y:Nat->Rat} (h:(fX (ey s c)).Ref y):(fX (ey (gn s fun w=>w*2) c)).Ref y:=by
 have hm:(fX (ey (gn s fun w=>w*2) c)).m=s.1.length:=by
  show (cz (gn s fun w=>w*2).1.length _).length=_
  rw[cj,lQ]
 have hm1:(fX (ey s c)).m=s.1.length:=by
  show (cz s.1.length _).length=_
  rw[cj]
 have hn:(fX (ey (gn s fun w=>w*2) c)).n=s.2.length:=hc
 have hkd:∀k,k<s.1.length->(fX (ey (gn s fun w=>w*2) c)).kd k=3:=fun k hk=>(I6 (s:=gn s fun w=>w*2) hc (by rw[lQ];exact hk)).2
 refine ⟨⟨fun k hk h1=>?_,fun k hk h1=>?_⟩,fun j hj=>?_,?_⟩
 ·rw[hkd k (by omega)] at h1;omega
 ·rw[hkd k (by omega)] at h1;omega
 ·have h1:=h.col j (by show j<c.length;omega)
  have e:(fX (ey (gn s fun w=>w*2) c)).col y j=(fX (ey s c)).col y j:=by
   unfold Lin.col
   rw[hm,hm1]
   refine dx fun k hk=>?_
   rw[OJ (s:=gn s fun w=>w*2) hc (by rw[lQ];exact hk) (by show j<s.2.length;omega),OJ hc hk (by omega),Ar hk]
  rw[e]
  exact h1
 ·have h1:=h.rhs
  have e:(fX (ey (gn s fun w=>w*2) c)).rhs y=2*(fX (ey s c)).rhs y:=by
   unfold Lin.rhs
   rw[hm,hm1,<-sN]
   refine dx fun k hk=>?_
   rw[(I6 (s:=gn s fun w=>w*2) hc (by rw[lQ];exact hk)).1,(I6 hc hk).1,AY hk,Rat.intCast_mul]
   have:((2:Int):Rat)=2:=rfl
   rw[this]
   grind
  rw[e]
  grind
end
theorem GQ {s:Sy} {x x':Nat->Rat} (h:∀j,j<s.2.length->x j=x' j) (hE:EqS s x):EqS s x':=fun i hi=>by
 rw[<-hE i hi]
 exact dx fun j hj=>by rw[h j hj]
theorem qz {s:Sy} (h:fi s=true) {c:Cl} (hc:(qq s c).1=true):ij c=0:=by
 unfold qq at hc
 rw[h,cT] at hc
 by_cases hg:ij c=0
 ·exact hg
 ·rw[z8 hg] at hc
  cases hc
def okR (r:Bool×Int×Unit):Prop:=r=(true,0,())\/r=(false,5,())
theorem Gy {s:Sy} (h:fi s=true) (ht:fi (gn s fun w=>w*2)=true) {c:Cl} (hc:(qq s c).1=true) (h0:(qq s c).2.1=0) (hr:c.2.1=true):okR (qq (gn s fun w=>w*2) c):=by
 have hg:=qz h hc
 have hpl:(ey (gn s fun w=>w*2) (gI (gn s fun w=>w*2))).2.length=s.1.length:=cj.trans lQ
 rcases zh h hc h0 with ⟨r1,_⟩ | ⟨_,r2,r3,r4⟩
 ·rw[hr] at r1;cases r1
 ·unfold qq
  rw[ht,hg,hr]
  simp only[cT,decide_true]
  rw[lQ,z7 r3,cT]
  cases hfy:rQ (ey (gn s fun w=>w*2) (gI (gn s fun w=>w*2))) (cJ c)&&(qa (ey (gn s fun w=>w*2) (gI (gn s fun w=>w*2))) (cJ c)).isSome with
  | false=>exact .inr rfl
  | true =>
   rw[z10] at hfy
   have h5:=(uG r4 (by rw[hpl];exact r3) hfy.1 hfy.2).2 (Nz uv r2)
   refine .inl ?_
   rw[cT]
   exact congrArg (fun b=>(b,(0:Int),())) h5
def pt (l:List Fq):List Fq:=cz l.length fun j=>prQ (vX l j*2)
theorem Hp {s:Sy} (h:fi s=true) (ht:fi (gn s fun w=>w*2)=true) {c:Cl} (hc:(qq s c).1=true) (h0:(qq s c).2.1=0) (hr:c.2.1=false) (hf:∀j,j<c.1.length->eF (vX c.1 j*2)) :
  okR (qq (gn s fun w=>w*2) (pt c.1,c.2.1,c.2.2)):=by
 have hg:=qz h hc
 have hl:cJ c=c.1:=by unfold cJ;rw[hr];rfl
 rcases zh h hc h0 with ⟨_,r2,r3,r4⟩ | ⟨r1,_⟩
 ·rw[hl] at r2 r3 r4
  have hdl:(pt c.1).length=c.1.length:=cj
  have hdo:∀a ∈ pt c.1,okF a:=fun a ha=>by
   obtain ⟨j,hj,rfl⟩:=qx.1 ha
   exact lf (hf j hj)
  have hdv:∀j,j<c.1.length->vX (pt c.1) j=vX c.1 j*2:=fun j hj=>by
   unfold vX pt
   rw[eL hj,pQ]
   rfl
  obtain ⟨r5,r6⟩:=(yg uv).1 r2
  have hgd:ij (pt c.1,c.2.1,c.2.2)=0:=by
   obtain ⟨g1,g2⟩:=oA hg
   unfold ij at hg ⊢
   have hb:okL c.2.2=true:=by
    cases hb:okL c.1&&okL c.2.2 with
    | false=>rw[hb,cF] at hg;omega
    | true=>rw[z10] at hb;exact hb.2
   rw[show okL (pt c.1,c.2.1,c.2.2).1=true from mH.2 hdo,show okL (pt c.1,c.2.1,c.2.2).2.2=true from hb]
   have ho:kJ (pt c.1,c.2.1,c.2.2)=kJ c:=by unfold kJ;rw[hr];rfl
   rw[ho,g2]
   rfl
  unfold qq
  rw[ht,hgd]
  simp only[cT,decide_true]
  rw[show cJ (pt c.1,c.2.1,c.2.2)=pt c.1 by unfold cJ;rw[hr];rfl,hr]
  simp only[cF]
  rw[show (gn s fun w=>w*2).2.length=s.2.length from rfl,z7 (hdl.trans r3),cT]
  cases hra:ol (gn s fun w=>w*2) (pt c.1) with
  | false=>exact .inr rfl
  | true =>
   refine .inl ?_
   have hE:EqS (gn s fun w=>w*2) (vX (pt c.1)):=by
    rw[Il]
    refine GQ (fun j hj=>?_) r6
    rw[hdv j (by omega)]
    grind
   have hpos:((pt c.1).all fun a=>!decide (a.1<0))=true:=(Fu hdo).2 fun j hj=>by
    rw[hdl] at hj
    rw[hdv j hj]
    have:=r5 j (by omega)
    grind
   rw[(FH (s:=gn s fun w=>w*2) (hdl.trans r3) hra).2 hE,hpos]
   rfl
 ·rw[hr] at r1;cases r1
theorem Ez (s:Sy) (c:Cl):ii s c=some true:=by
 simp only[ii,gA,F4,Ha,Hz,LX,ah,Bool.not_true,cF]
 cases hs:tQ s with
 | false=>rfl
 | true =>
  have hl:=D9 hs
  cases hv:fi s with
  | false=>rfl
  | true =>
   have hV:=iO hv
   have hb:=hV.bl
   cases hg:Cm c with
   | true=>rfl
   | false =>
    have hcl:=GD hg
    simp only[Bool.not_true,Bool.not_false,Bool.or_true,cT,cF,ah,ut s (show c.1.length<=1000 by omega) (show c.2.2.length<=1000 by omega)]
    by_cases h0:(qq s c).2.1=0
    ·rw[z7 h0]
     cases h1:(qq s c).1 with
     | false=>rfl
     | true =>
      simp only[Bool.not_true,Bool.not_false,Bool.or_true,cT,cF,Jw hV,ah]
      refine md s.1.length (by omega) (fun i=>((i:Int),vr (fun w=>w*2) i s.1,PUnit.unit)) _ (by rw[<-F5];rfl) (fun again i hi=>?_) (fun again=>?_)
      ·have hw:=hV.wt i hi
       have hwi:0<=(s.1.getD i bk0).2/\(s.1.getD i bk0).2<=16777216:=hw
       simp only[KT,cM,z9,z7 (show (i:Int)<s.1.length by omega),z7 hi,uu (show Nat.succ i<=s.1.length from hi),cT,eC (show i<=1000000 by omega),
        show List.getD (vr (fun w=>w*2) i s.1) i ({ data:={ toList:=[] } },(0:Int))=s.1.getD i bk0 from Io hi,bM (show -9223372036854775808<=(s.1.getD i bk0).2*2 by omega) (by omega)]
       rw[IY (f:=fun w=>w*2) hi]
      ·simp only[z8 (show ¬ (s.1.length:Int)<s.1.length by omega),cF,Ik]
       rw[show (s.1.map fun b=>(b.1,b.2*2),s.2)=gn s fun w=>w*2 from rfl]
       cases hvT:fi (gn s fun w=>w*2) with
       | false=>rfl
       | true =>
        simp only[Bool.not_true,cF]
        cases hr:c.2.1 with
        | true =>
         simp only[Bool.not_true,cF]
         rw[ut (gn s fun w=>w*2) (show c.1.length<=1000 by omega) (show c.2.2.length<=1000 by omega),obN]
         rcases Gy hv hvT h1 h0 hr with e | e<;>rw[e]<;>rfl
        | false =>
         simp only[Bool.not_false,cT]
         obtain ⟨g1,_⟩:=oA (qz hv h1)
         rw[show cJ c=c.1 by unfold cJ;rw[hr];rfl] at g1
         refine M0 (γ:=Nat) (I:=fun g x=>x=((g:Int),cz g (fun j=>prQ (vX c.1 j*2)),false,c.2.2,PUnit.unit)/\g<=c.1.length/\∀j,j<g->eF (vX c.1 j*2)) (fun o=>o=some true) (fun g=>c.1.length - g) (fun rec g x ⟨e1,e2,e3⟩=>?_) (s:=0) ⟨rfl,by omega,fun j hj=>by omega⟩ (by omega)
         subst e1
         by_cases hgl:g=c.1.length
         ·refine .inl ?_
          subst hgl
          have hT:=Hp hv hvT h1 h0 hr e3
          have hdl:(pt c.1).length=c.1.length:=cj
          rw[hr] at hT
          simp only[z8 (show ¬ (c.1.length:Int)<c.1.length by omega),cF]
          rw[show (cz c.1.length fun j=>prQ (vX c.1 j*2))=pt c.1 from rfl]
          rw[ut (gn s fun w=>w*2) (c:=(pt c.1,false,c.2.2)) (show (pt c.1).length<=1000 by omega) (show c.2.2.length<=1000 by omega),obN]
          rcases hT with e | e<;>rw[e]<;>rfl
         ·have hgm:g<c.1.length:=by omega
          have hM:=Dz (g1 (c.1.getD g (0,0)) (by rw[bH hgm];exact List.getElem_mem _)) (show okF (2,1) by decide)
          have hq:qv (c.1.getD g (0,0))*qv (2,1)=vX c.1 g*2:=rfl
          rw[hq] at hM
          simp only[z7 (show (g:Int)<c.1.length by omega),cT,cM,z7 hgm,z9,P6,ah,hM,cj]
          rcases jN (vX c.1 g*2) with ⟨f1,e4⟩ | ⟨f1,e4⟩
          ·refine .inr ⟨g+1,_,⟨rfl,by omega,fun j hj=>?_⟩,by omega,?_⟩
           ·by_cases c2:j=g
            ·rw[c2];exact f1
            ·exact e3 j (by omega)
           ·rw[e4]
            simp only[decide_true,Bool.not_true,cF,gj (show (g+1)*16<=140737488355328 by omega),cT,eC (show g<=1000000 by omega)]
            rw[show prQ (vX c.1 g*2)=(fun j=>prQ (vX c.1 j*2)) g from rfl,og]
          ·refine .inl ?_
           rw[e4]
           rfl
    ·rw[z8 h0]
     rfl
end
end Go.Proofs.YtegbncajloeepaaGreat
