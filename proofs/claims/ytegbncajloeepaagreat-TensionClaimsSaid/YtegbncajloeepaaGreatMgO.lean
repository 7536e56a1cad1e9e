/- Tables of programs: how great the numbers of the artificial columns may get. Tables of numbers as lists of rows, and loops over them. Systems: the matrix of both programs. Programs: sums of numbers times fractions. Programs: which points are feasible, as the program tells it. Systems: their programs, as both programs make them. Programs: feasible points and values, in both programs. The law ProgramForms. Programs: columns and right sides. Programs: the signs of multipliers. Programs: sums of columns below numbers; refutations. Programs: refutations, as the program tells them. Programs: refutations, as they are specified. Programs: refutations are the same in both programs. Systems: the law SlackPrograms. Programs: products of two numbers, their differences and quotients. Programs: a step of the table. Programs: the row that leaves, the sums of artificial rows, and the reduced costs. Programs: the sums of artificial rows, and the reduced costs. Programs: improving a table to the least value. Programs: finding a feasible basis. Programs: the first table. Programs: which programs fit. Programs: what Solve answers. Programs: what Farkas answers. Programs: answers that are proved, in both programs. Programs: points, multipliers and refutations are those of the theory. Programs: the sums of what the solver returns fit, so that its answers are accepted. Programs: what the solver says of a program; the law ProgramBeats. Programs, as they are specified: the layout of the table, and a step of it. Programs, as they are specified: steps until the last row has no negative number. Programs, as they are specified: artificial variables leave the basis. Programs, as they are specified: the first table. Programs, as they are specified: the least value. Programs: the law ProgramSolves. Systems: what the solver says of their programs. Systems: equilibria, as the program checks them. Systems: the law SlackHolds. Systems: the law SlackBounds. Systems: the law SlackLeast. Claims about tensions: their parts, and what Check of both programs answers. Elimination: a step of two products and a quotient, and tables of rows that change places. Elimination: the theory; a matrix beside a unit matrix, and its table. Elimination: what the program's function answers. Elimination: how great the numbers are, and what a finished table proves. Elimination: what linear.Solve answers. Systems: the law SlackOnly. Claims about tensions: Claim is right; it decides. -/
import Derived.KernelRfl
import Derived.Test.YtegbncajloeepaaGreatMgN

namespace Go.Proofs.YtegbncajloeepaaGreat
namespace Dn
theorem Dd {n:Nat} {A:Nat->Nat->Int} {i k:Nat} (hi:i<n) (hA:∀r,r<n->A r i=if r=k then 1 else 0):∀t,t<=n->det n A=det n (fun r c=>if r=k/\c≠i/\c<t then 0 else A r c)
 | 0,_=>f9 fun r c _ _=>by rw[if_neg (by omega)]
 | t+1,ht=>by
  rw[Dd hi hA t (by omega)]
  obtain ⟨B,hB⟩:∃B:Nat->Nat->Int,B=fun r c=>if r=k/\c≠i/\c<t then 0 else A r c:=⟨_,rfl⟩
  rw[<-hB]
  by_cases e:t=i
  ·refine f9 fun r c _ _=>?_
   rw[hB]
   by_cases c1:r=k/\c≠i/\c<t
   ·simp only
    rw[if_pos c1,if_pos ⟨c1.1,c1.2.1,by omega⟩]
   ·simp only
    rw[if_neg c1,if_neg (by omega)]
  ·have e1:det n B=det n (bO B t fun r=>(if r=k then 0 else A r t)+(A k t*if r=k then 1 else 0)):=by
    refine f9 fun r c _ _=>?_
    unfold bO
    by_cases c1:c=t
    ·rw[if_pos c1,hB,c1]
     simp only
     rw[if_neg (by omega)]
     by_cases c2:r=k
     ·rw[if_pos c2,if_pos c2,c2];omega
     ·rw[if_neg c2,if_neg c2];omega
    ·rw[if_neg c1]
   rw[e1,mn (u:=fun r=>if r=k then 0 else A r t) (v:=fun r=>A k t*if r=k then 1 else 0) (by omega),mY (u:=fun r=>if r=k then (1:Int) else 0) (by omega)]
   have e2:det n (bO B t fun r=>if r=k then (1:Int) else 0)=0:=by
    refine lv (show t<n by omega) hi e fun r hr=>?_
    unfold bO
    rw[if_pos rfl,if_neg (Ne.symm e),hB]
    simp only
    rw[if_neg (show ¬ (r=k/\i≠i/\i<t) from fun h=>h.2.1 rfl),hA r hr]
   rw[e2,Int.mul_zero,Int.add_zero]
   refine f9 fun r c _ _=>?_
   unfold bO
   by_cases c1:c=t
   ·rw[if_pos c1,c1]
    simp only
    by_cases c2:r=k
    ·rw[if_pos c2,if_pos ⟨c2,e,by omega⟩]
    ·rw[if_neg c2,if_neg fun h=>c2 h.1]
   ·rw[if_neg c1,hB]
    by_cases c2:r=k/\c≠i/\c<t
    ·simp only
     rw[if_pos c2,if_pos ⟨c2.1,c2.2.1,by omega⟩]
    ·simp only
     rw[if_neg c2,if_neg (by omega)]
theorem AG:∀{n k:Nat} {f:Nat->Int},k<n->f k*pz n (fun r=>if r=k then 1 else f r)=pz n f
 | 0,k,_,h=>by omega
 | n+1,k,f,h=>by
  simp only[pz]
  cases k with
  | zero =>
   rw[if_pos rfl,Int.one_mul]
   congr 1
  | succ k =>
   rw[if_neg (by omega)]
   have h1:=AG (n:=n) (k:=k) (f:=fun i=>f (i+1)) (by omega)
   rw[<-h1]
   have e:(fun i=>if i+1=k+1 then (1:Int) else f (i+1))=fun r=>if r=k then 1 else f (r+1):=by
    funext r
    by_cases c:r=k
    ·rw[if_pos c,if_pos (by omega)]
    ·rw[if_neg c,if_neg (by omega)]
   rw[e]
   grind
section
variable {L:Lin} {Y:Lay}
theorem HQ (h:Y.ok L) {T:Nat->Nat->Int} {d:Int} {β:Nat->Nat} (ht:Tb L.m (Y.w L) (Y.M L) T d β) {i k:Nat} (hi:i<L.m) (hk:k<L.m):L.F k*ab (T i (Y.N+k))<=L.P:=by
 have hw:Y.N+k<Y.w L:=by unfold Lay.w;omega
 have hF:=L.F_pos k
 rw[ht.bound hi hw]
 rcases Gu h (K6 ht.lt hw (r:=i)) with e | e
 ·have:=L.P_pos
  rw[e]
  simp[ab]
  omega
 ·have hcol:∀r,r<L.m->fa (Y.M L) (upd β i (Y.N+k)) r i=if r=k then 1 else 0:=fun r _=>by
   unfold fa upd
   rw[if_pos rfl,Lay.M_a h hk]
  have e1:dc L.m (Y.M L) (upd β i (Y.N+k))=_:=Dd hi hcol L.m (Nat.le_refl _)
  rw[e1]
  have e2:=vF (n:=L.m) (A:=fun r c=>if r=k/\c≠i/\c<L.m then 0 else fa (Y.M L) (upd β i (Y.N+k)) r c)
  have e3:pz L.m (fun r=>sz L.m fun c=>ab (if r=k/\c≠i/\c<L.m then 0 else fa (Y.M L) (upd β i (Y.N+k)) r c))<=pz L.m (fun r=>if r=k then 1 else L.F r):=Hj fun r hr=>by
   refine ⟨iE fun _ _=>bF _,?_⟩
   by_cases c:r=k
   ·rw[if_pos c,fy hi fun l hl hne=>by rw[if_pos ⟨c,hne,hl⟩];rfl,if_neg (by simp),hcol i hi |>fun _=>hcol r hr,if_pos c]
    exact Int.le_refl _
   ·rw[if_neg c,br (g:=fun p=>ab (Y.M L r (upd β i (Y.N+k) p))) fun l _=>by rw[if_neg fun h=>c h.1];rfl]
    exact e r hr
  have e4:=Int.le_trans e2 e3
  have e5:=Int.mul_le_mul_of_nonneg_left e4 (show 0<=L.F k by omega)
  have e6:L.F k*pz L.m (fun r=>if r=k then 1 else L.F r)=L.P:=AG hk
  rw[e6] at e5
  exact e5
end
section
variable {α R:Type} {F:(α->Option R)->α->Option R}
theorem zQ (n:Nat) (st:Nat->α) (r:Option R) (hb:∀again i,i<n->F again (st i)=again (st (i+1))) (hf:∀again,F again (st n)=r):∀(k i m:Nat),i+k=n->k<m->jS F m (st i)=r
 | 0,i,m,h1,h2=>by
  obtain ⟨m,rfl⟩:∃m',m=m'+1:=⟨m - 1,by omega⟩
  rw[ij,show i=n by omega,hf]
 | k+1,i,m,h1,h2=>by
  obtain ⟨m,rfl⟩:∃m',m=m'+1:=⟨m - 1,by omega⟩
  rw[ij,hb _ _ (by omega)]
  exact zQ n st r hb hf k (i+1) m (by omega) (by omega)
theorem qd (n:Nat) (hn:n<=1180591620717411303423) (st:Nat->α) (r:Option R) (hb:∀again i,i<n->F again (st i)=again (st (i+1))) (hf:∀again,F again (st n)=r):lpK α R F (st 0)=r :=
 zQ n st r hb hf n 0 K0 (by omega) (by unfold K0;omega)
theorem bR {x:α} (n:Nat) (hn:n<=1180591620717411303423) (st:Nat->α) (r:Option R) (hx:x=st 0) (hb:∀again i,i<n->F again (st i)=again (st (i+1))) (hf:∀again,F again (st n)=r):lpK α R F x=r:=by
 rw[hx]
 exact qd n hn st r hb hf
theorem Ee (I:α->Prop) (Q:R->Prop) (μ:α->Nat) (h:∀x,I x->(∃r,Q r/\∀rec,F rec x=some r)\/∃y,I y/\μ y<μ x/\∀rec,F rec x=rec y):∀(m:Nat) (x:α),I x->μ x<m->∃r,jS F m x=some r/\Q r
 | 0,_,_,hm=>by omega
 | m+1,x,hx,hm=>by
  rw[ij]
  rcases h x hx with ⟨r,h1,h2⟩ | ⟨y,h1,h2,h3⟩
  ·exact ⟨r,h2 _,h1⟩
  ·rw[h3]
   exact Ee I Q μ h m y h1 (by omega)
theorem SO (I:α->Prop) (Q:R->Prop) (μ:α->Nat) (h:∀x,I x->(∃r,Q r/\∀rec,F rec x=some r)\/∃y,I y/\μ y<μ x/\∀rec,F rec x=rec y) {x:α} (hx:I x) (hn:μ x<1180591620717411303424):∃r,lpK α R F x=some r/\Q r :=
 Ee I Q μ h K0 x hx hn
theorem y9 {γ:Type} (I:γ->α->Prop) (Q:R->Prop) (μ:γ->Nat) (h:∀s x,I s x->(∃r,Q r/\∀rec,F rec x=some r)\/∃s' y,I s' y/\μ s'<μ s/\∀rec,F rec x=rec y):∀(m:Nat) (s:γ) (x:α),I s x->μ s<m->∃r,jS F m x=some r/\Q r
 | 0,_,_,_,hm=>by omega
 | m+1,s,x,hx,hm=>by
  rw[ij]
  rcases h s x hx with ⟨r,h1,h2⟩ | ⟨s',y,h1,h2,h3⟩
  ·exact ⟨r,h2 _,h1⟩
  ·rw[h3]
   exact y9 I Q μ h m s' y h1 (by omega)
theorem OV {γ:Type} (I:γ->α->Prop) (Q:R->Prop) (μ:γ->Nat) (h:∀s x,I s x->(∃r,Q r/\∀rec,F rec x=some r)\/∃s' y,I s' y/\μ s'<μ s/\∀rec,F rec x=rec y) {s:γ} {x:α} (hx:I s x) (hn:μ s<1180591620717411303424):∃r,lpK α R F x=some r/\Q r :=
 y9 I Q μ h K0 s x hx hn
theorem zM {γ:Type} (I:γ->α->Prop) (Q:Option R->Prop) (μ:γ->Nat) (h:∀rec s x,I s x->Q (F rec x)\/∃s' y,I s' y/\μ s'<μ s/\F rec x=rec y):∀(m:Nat) (s:γ) (x:α),I s x->μ s<m->Q (jS F m x)
 | 0,_,_,_,hm=>by omega
 | m+1,s,x,hx,hm=>by
  rw[ij]
  rcases h (jS F m) s x hx with h1 | ⟨s',y,h1,h2,h3⟩
  ·exact h1
  ·rw[h3]
   exact zM I Q μ h m s' y h1 (by omega)
theorem wE {γ:Type} (I:γ->α->Prop) (Q:Option R->Prop) (μ:γ->Nat) (h:∀rec s x,I s x->Q (F rec x)\/∃s' y,I s' y/\μ s'<μ s/\F rec x=rec y) {s:γ} {x:α} (hx:I s x) (hn:μ s<1180591620717411303424):Q (lpK α R F x) :=
 zM I Q μ h K0 s x hx hn
theorem Lj {x:α} (Q:Option R->Prop) (n:Nat) (hn:n<=1180591620717411303423) (st:Nat->α) (hx:x=st 0) (hb:∀again i,i<n->F again (st i)=again (st (i+1))) (hf:∀again,Q (F again (st n))):Q (lpK α R F x) :=
 wE (γ:=Nat) (fun i x=>i<=n/\x=st i) Q (fun i=>n - i) (fun rec i x ⟨h1,h2⟩=>by
  by_cases e:i=n
  ·subst h2;subst e;exact .inl (hf rec)
  ·exact .inr ⟨i+1,st (i+1),⟨by omega,rfl⟩,by omega,by rw[h2];exact hb rec i (by omega)⟩) (s:=0) ⟨by omega,hx⟩ (by omega)
end
theorem qO (n:Nat) (p:Nat->Bool):(∀j,j<n->p j=false)\/∃j,j<n/\p j=true/\∀i,i<j->p i=false:=by
 induction n with
 | zero=>exact .inl fun j hj=>by omega
 | succ n ih =>
  rcases ih with h | ⟨j,h1,h2,h3⟩
  ·cases hp:p n with
   | true=>exact .inr ⟨n,by omega,hp,h⟩
   | false =>
    refine .inl fun j hj=>?_
    by_cases e:j=n
    ·rw[e];exact hp
    ·exact h j (by omega)
  ·exact .inr ⟨j,by omega,h2,h3⟩
def bj {α:Type} (w:Nat) (f:Nat->α):List α:=(List.range w).map f
def qP (m w:Nat) (T:Nat->Nat->Int):List (List Int):=(List.range m).map fun i=>bj w (T i)
def dY (m w:Nat) (T:Nat->Nat->Int):List (Option (List Int)):=(List.range m).map fun i=>some (bj w (T i))
def i7 (m w:Nat) (T:Nat->Nat->Int):List Nat×List (Option (List Int)):=(List.range m,dY m w T)
def jA (m:Nat) (β:Nat->Nat):List Int:=bj m fun i=>(β i:Int)
section
variable {α:Type} {m w:Nat} {T T':Nat->Nat->Int}
theorem ay {f:Nat->α}:(bj w f).length=w:=by unfold bj;rw[List.length_map,List.length_range]
theorem bC {f:Nat->α} {d:α} {j:Nat} (h:j<w):(bj w f).getD j d=f j:=by
 unfold bj
 rw[aP (by rw[List.length_map,List.length_range];exact h),List.getElem_map,List.getElem_range]
theorem w4 {f:Nat->α} {j:Nat} (h:j<(bj w f).length):(bj w f)[j]=f j :=
 (List.getElem_map f (l:=List.range w) (h:=h)).trans (congrArg f (List.getElem_range _))
theorem di {f g:Nat->α} (h:∀j,j<w->f j=g j):bj w f=bj w g:=by
 unfold bj
 exact List.map_congr_left fun j hj=>h j (List.mem_range.1 hj)
theorem kc {f:Nat->α} {j:Nat} {x:α} (_:j<w):(bj w f).set j x=bj w fun k=>if k=j then x else f k:=by
 refine List.ext_getElem (by rw[List.length_set,ay,ay]) fun i h1 h2=>?_
 have h3:i<w:=by rw[ay] at h2;exact h2
 rw[List.getElem_set,w4,w4]
 by_cases e:j=i
 ·rw[if_pos e,if_pos e.symm]
 ·rw[if_neg e,if_neg (Ne.symm e)]
theorem fQ:(qP m w T).length=m:=by unfold qP;rw[List.length_map,List.length_range]
theorem kB {i:Nat} (h:i<m):(qP m w T).getD i []=bj w (T i):=by
 unfold qP
 rw[aP (by rw[List.length_map,List.length_range];exact h),List.getElem_map,List.getElem_range]
theorem mF:(dY m w T).length=m:=by unfold dY;rw[List.length_map,List.length_range]
theorem ic:(i7 m w T).1.length=m:=by unfold i7;exact List.length_range
theorem ly {i:Nat} (h:i<m):(i7 m w T).1.getD i 0=i:=by
 unfold i7
 rw[aP (by rw[List.length_range];exact h),List.getElem_range]
theorem sD {i:Nat} (h:i<m):(dY m w T).getD i none=some (bj w (T i)):=by
 unfold dY
 rw[aP (by rw[List.length_map,List.length_range];exact h),List.getElem_map,List.getElem_range]
theorem DV {i:Nat} (h:i<(dY m w T).length):(dY m w T)[i]=some (bj w (T i)) :=
 (List.getElem_map (fun i=>some (bj w (T i))) (l:=List.range m) (h:=h)).trans (congrArg (fun i=>some (bj w (T i))) (List.getElem_range _))
theorem gY {i:Nat} (h:i<m):bI (dY m w T) i=bj w (T i):=by unfold bI;rw[sD h];rfl
theorem vD {i:Nat} (h:i<m):fW (dY m w T) i=true:=by unfold fW;rw[sD h];rfl
theorem jb (h:∀i j,i<m->j<w->T i j=T' i j):dY m w T=dY m w T':=by
 unfold dY
 exact List.map_congr_left fun i hi=>by rw[di fun j hj=>h i j (List.mem_range.1 hi) hj]
theorem jK (h:∀i j,i<m->j<w->T i j=T' i j):i7 m w T=i7 m w T':=by unfold i7;rw[jb h]
theorem D8 {i j:Nat} {x:Int} (_:i<m) (hj:j<w):(dY m w T).set i (some ((bj w (T i)).set j x))=dY m w fun k l=>if k=i/\l=j then x else T k l:=by
 rw[kc hj]
 refine List.ext_getElem (by rw[List.length_set,mF,mF]) fun k h1 h2=>?_
 have h3:k<m:=by rw[mF] at h2;exact h2
 rw[List.getElem_set,DV,DV]
 by_cases e:i=k
 ·subst e
  rw[if_pos rfl]
  congr 1
  refine di fun l _=>?_
  simp
 ·rw[if_neg e]
  congr 1
  refine di fun l _=>?_
  rw[if_neg fun h=>e h.1.symm]
theorem gT:((i7 m w T).1.all fun x=>fW (i7 m w T).2 x)=true:=by
 rw[List.all_eq_true]
 intro i hi
 exact vD (List.mem_range.1 hi)
theorem gU:(i7 m w T).1.map (fun x=>bI (i7 m w T).2 x)=qP m w T:=by
 unfold i7 qP
 exact List.map_congr_left fun i hi=>gY (List.mem_range.1 hi)
theorem jt {β:Nat->Nat}:(jA m β).length=m:=ay
theorem jZ {β:Nat->Nat} {i:Nat} (h:i<m):(jA m β).getD i 0=(β i:Int):=bC h
theorem J5 {β:Nat->Nat} {r c:Nat} (h:r<m):(jA m β).set r (c:Int)=jA m (upd β r c):=by
 unfold jA
 rw[kc h]
 refine di fun k _=>?_
 unfold upd
 by_cases e:k=r
 ·rw[if_pos e,if_pos e]
 ·rw[if_neg e,if_neg e]
end
end Dn
end Go.Proofs.YtegbncajloeepaaGreat

namespace Go.Proofs.YtegbncajloeepaaGreat
noncomputable section
open Tryz Dn Dn.Sh
def bnS (s:Sy) (i:Nat):ByteArray:=(s.1.getD i bk0).1
def bwS (s:Sy) (i:Nat):Int:=(s.1.getD i bk0).2
def rnS (s:Sy) (k:Nat):ByteArray:=(s.2.getD k rp0).1
def hsS (s:Sy) (k:Nat):List Hd:=(s.2.getD k rp0).2.1
structure ValidS (s:Sy):Prop where
 bl:1<=s.1.length/\s.1.length<=6
 rl:1<=s.2.length/\s.2.length<=6
 inj:∀i j,i<s.1.length->j<s.1.length->bnS s i=bnS s j->i=j
 rinj:∀i j,i<s.2.length->j<s.2.length->rnS s i=rnS s j->i=j
 wt:∀i,i<s.1.length->0<=bwS s i/\bwS s i<=16777216
 hl:∀k,k<s.2.length->(hsS s k).length<=10
 pl:∀k h,k<s.2.length->h<(hsS s k).length-> -2<=((hsS s k).getD h hd0).2.1/\((hsS s k).getD h hd0).2.1<=2
theorem iy {n i:Nat} (h:i<n):i ∈ List.range' 0 n:=List.mem_range'.2 ⟨i,h,by omega⟩
theorem D6 {s:Sy} {h:Hd} {e:Bool} (hh:nK s h e=true): -2<=h.2.1/\h.2.1<=2:=by
 unfold nK at hh
 rw[z10] at hh
 have h2:=hh.2
 cases he:pa h.1 with
 | true=>rw[he,cT,decide_eq_true_iff] at h2;omega
 | false =>
  rw[he,cF,z10] at h2
  have h3:=h2.2
  cases e with
  | true=>rw[cT,Bool.or_eq_true,decide_eq_true_iff,decide_eq_true_iff] at h3;omega
  | false=>rw[cF,Bool.or_eq_true,Bool.or_eq_true,decide_eq_true_iff,decide_eq_true_iff,decide_eq_true_iff] at h3;omega
theorem mj {l:List ByteArray} {i j:Nat} {d:ByteArray} (h1:i<j) (h2:j<=l.length):l.getD i d ∈ l.take j:=by
 rw[aP (by omega)]
 exact List.mem_take_iff_getElem.2 ⟨i,by omega,rfl⟩
theorem fG {s:Sy} (h:eL s=true):ValidS s:=by
 unfold eL at h
 rw[z10,z10,z10,decide_eq_true_iff,List.all_eq_true,List.all_eq_true] at h
 obtain ⟨⟨h1,h2,h3,h4⟩,hb,hr,_⟩:=h
 have hb':∀i,i<s.1.length->bnS s i ∉ (s.1.map (·.fst)).take i/\0<=bwS s i/\bwS s i<=16777216:=fun i hi=>by
  have:=hb i (iy hi)
  unfold rC qx at this
  rw[z10,z10,z10,Bool.not_eq_true',uD,decide_eq_true_iff,decide_eq_true_iff] at this
  exact this.2
 have hr':∀i,i<s.2.length->rnS s i ∉ (s.2.map (·.fst)).take i/\uY s (s.2.getD i rp0)=true:=fun i hi=>by
  have:=hr i (iy hi)
  unfold jG at this
  rw[z10,z10,Bool.not_eq_true',uD,List.mem_append] at this
  exact ⟨fun hm=>this.2.1 (.inr hm),this.2.2⟩
 have hro:∀k,k<s.2.length->(2<=(hsS s k).length/\(hsS s k).length<=10)/\∀i,i<(hsS s k).length->∃e,nK s ((hsS s k).getD i hd0) e=true:=fun k hk=>by
  have:=(hr' k hk).2
  unfold uY at this
  rw[z10,z10,decide_eq_true_iff,List.all_eq_true] at this
  exact ⟨this.1,fun i hi=>⟨_,this.2.1 i (iy hi)⟩⟩
 refine ⟨⟨h1,h2⟩,⟨h3,h4⟩,fun i j hi hj he=>?_,fun i j hi hj he=>?_,fun i hi=>(hb' i hi).2,fun k hk=>(hro k hk).1.2,fun k h hk hh=>?_⟩
 ·have e1:∀k,k<s.1.length->(s.1.map (·.fst)).getD k bk0.1=bnS s k:=fun k hk=>sF (f:=fun b:Bk=>b.1) (d:=bk0) hk bk0.1
  rcases Nat.lt_trichotomy i j with h | h | h
  ·exfalso
   apply (hb' j hj).1
   rw[<-he,<-e1 i hi]
   exact mj h (by rw[List.length_map];omega)
  ·exact h
  ·exfalso
   apply (hb' i hi).1
   rw[he,<-e1 j hj]
   exact mj h (by rw[List.length_map];omega)
 ·have e1:∀k,k<s.2.length->(s.2.map (·.fst)).getD k rp0.1=rnS s k:=fun k hk=>sF (f:=fun b:Rp=>b.1) (d:=rp0) hk rp0.1
  rcases Nat.lt_trichotomy i j with h | h | h
  ·exfalso
   apply (hr' j hj).1
   rw[<-he,<-e1 i hi]
   exact mj h (by rw[List.length_map];omega)
  ·exact h
  ·exfalso
   apply (hr' i hi).1
   rw[he,<-e1 j hj]
   exact mj h (by rw[List.length_map];omega)
 ·obtain ⟨e,he⟩:=(hro k hk).2 h hh
  exact D6 he
theorem HS (s:Sy) (n:ByteArray):(fbI s n<0/\∀i,i<s.1.length->bnS s i≠n)\/∃i:Nat,i<s.1.length/\fbI s n=(i:Int)/\bnS s i=n:=by
 by_cases h:fbI s n<0
 ·refine .inl ⟨h,fun i hi he=>?_⟩
  have:=(xd (p:=fun b:Bk=>decide (b.1=n)) (l:=s.1) (i:=0) (by omega)).1 h (s.1.getD i bk0) (by rw[aP hi];exact List.getElem_mem _)
  exact of_decide_eq_false this he
 ·obtain ⟨_,h2,h3⟩:=G6 (p:=fun b:Bk=>decide (b.1=n)) (d:=bk0) (l:=s.1) (i:=0) (by omega) (Int.not_lt.1 h)
  refine .inr ⟨(fbI s n).toNat,?_,?_,?_⟩
  ·unfold fbI;omega
  ·unfold fbI at h ⊢;omega
  ·have:=z12 h3
   rw[Int.sub_zero] at this
   exact this
def lN (hs:List Hd) (n:ByteArray) (h:Nat):Int:=sz h fun t=>if (hs.getD t hd0).1=n then (hs.getD t hd0).2.1 else 0
def Mx (s:Sy) (i k:Nat):Int:=lN (hsS s k) (bnS s i) (hsS s k).length
theorem nO {hs:List Hd} {n:ByteArray} (hp:∀t,t<hs.length-> -2<=(hs.getD t hd0).2.1/\(hs.getD t hd0).2.1<=2):∀h,h<=hs.length-> -(2*(h:Int))<=lN hs n h/\lN hs n h<=2*(h:Int)
 | 0,_=>by simp[lN,sz]
 | h+1,hh=>by
  have:=nO (n:=n) hp h (by omega)
  have h2:=hp h (by omega)
  unfold lN at *
  simp only[sz]
  split<;>omega
theorem yq {s:Sy} (hv:ValidS s) (i:Nat) {k:Nat} (hk:k<s.2.length): -20<=Mx s i k/\Mx s i k<=20:=by
 have h1:=nO (n:=bnS s i) (hs:=hsS s k) (fun t ht=>hv.pl k t hk ht) _ (Nat.le_refl _)
 have h2:=hv.hl k hk
 unfold Mx
 omega
theorem cW {i:Nat} (h:i<=1000000):IntKind.wrap .i64 ((i:Int)+1)=((i+1:Nat):Int):=by rw[aA (by omega) (by omega)];rfl
theorem MZ {s:Sy} (hv:ValidS s) (i:Nat) {k:Nat} (hk:k<s.2.length):gb (s.2.getD k rp0) (bnS s i)=some (Mx s i k):=by
 have hp:=fun t ht=>hv.pl k t hk ht
 have hl:=hv.hl k hk
 have hb:=nO (n:=bnS s i) (hs:=hsS s k) hp
 unfold Mx
 unfold hsS at hp hl hb ⊢
 generalize s.2.getD k rp0=r at hp hl hb ⊢
 obtain ⟨nm,hs,ha⟩:=r
 simp only at hp hl hb ⊢
 simp only[gb,pj,mB]
 refine bR hs.length (by omega) (fun t=>(lN hs (bnS s i) t,(t:Int),PUnit.unit)) _ rfl (fun again t ht=>?_) (fun again=>?_)
 ·have h1:=hb t (by omega)
  have h2:=hb (t+1) (by omega)
  have e:lN hs (bnS s i) (t+1)=lN hs (bnS s i) t+if (hs.getD t hd0).1=bnS s i then (hs.getD t hd0).2.1 else 0:=rfl
  simp only[aH,z7 ht,z7 (show (t:Int)<hs.length by omega),cT,z9,cW (show t<=1000000 by omega),show List.getD hs t ({ data:={ toList:=[] } },(0:Int),(0:Int),(0:Int))=hs.getD t hd0 from rfl]
  rw[e] at h2 ⊢
  by_cases c:(hs.getD t hd0).1=bnS s i
  ·rw[if_pos c] at h2 ⊢
   rw[z7 c,cT,aA (by omega) (by omega)]
  ·rw[if_neg c,z8 c,cF,Int.add_zero]
 ·simp only[z8 (show ¬ (hs.length:Int)<hs.length by omega),cF]
def A1 (s:Sy):List (List Int):=qP s.1.length s.2.length (Mx s)
theorem kT {α:Type} {w:Nat} {f:Nat->α}:bj w f++[f w]=bj (w+1) f:=by
 unfold bj
 rw[List.range_succ,List.map_append]
 rfl
theorem vY {m w:Nat} {T:Nat->Nat->Int}:dY m w T++[some (bj w (T m))]=dY (m+1) w T:=by
 unfold dY
 rw[List.range_succ,List.map_append]
 rfl
theorem Cu {s:Sy} (hv:ValidS s):ce s=some (A1 s):=by
 have hb:=hv.bl
 have hr:=hv.rl
 simp only[ce,mW]
 refine bR s.1.length (by omega) (fun i=>(i7 i s.2.length (Mx s),(i:Int),PUnit.unit)) _ rfl (fun again i hi=>?_) (fun again=>?_)
 ·simp only[aH,z7 hi,z7 (show (i:Int)<s.1.length by omega),cT,z9]
  refine bR s.2.length (by omega) (fun k=>(bj k (Mx s i),(k:Int),PUnit.unit)) _ rfl (fun again1 k hk=>?_) (fun again1=>?_)
  ·have hp:gb (s.2.getD k ({ data:={ toList:=[] } },[],false)) (s.1.getD i ({ data:={ toList:=[] } },(0:Int))).1=some (Mx s i k):=MZ hv i hk
   simp only[aH,z7 hk,z7 (show (k:Int)<s.2.length by omega),cT,z9,hp,aa,ay,eK (show (k+1)*8<=140737488355328 by omega),cW (show k<=1000000 by omega),kT]
  ·simp only[z8 (show ¬ (s.2.length:Int)<s.2.length by omega),cF,ic,eK (show (i+1)*24<=140737488355328 by omega),cT,cW (show i<=1000000 by omega)]
   unfold i7
   rw[mF,Nat.add_zero,<-List.range_succ,vY]
 ·simp only[z8 (show ¬ (s.1.length:Int)<s.1.length by omega),cF]
  rw[gT,gU,cT]
  rfl
def S4 (T:List Nat) (x0:Sy):Option (List (List Int)×Int×Unit) :=
 ah (a8 x0) fun (t:Bool)=>bif !t then some ([],(1:Int),PUnit.unit) else bif decide ((0:Int)<=(↑(List.length x0.1):Int))&&eC (Int.toNat (↑(List.length x0.1):Int)) (24:Nat) then lpK (Int×(List Nat×List (Option (List Int)))×PUnit) (List (List Int)×Int×PUnit) (fun (again:Int×(List Nat×List (Option (List Int)))×PUnit->Option (List (List Int)×Int×PUnit)) (x:Int×(List Nat×List (Option (List Int)))×PUnit)=>bif decide (x.1<(↑(List.length T):Int)) then bif decide ((0:Int)<=(↑(List.length x0.2):Int))&&eC (Int.toNat (↑(List.length x0.2):Int)) (8:Nat) then bif inB x.1 (List.length x.2.1.1) then bif Nat.ble (Nat.succ (Int.toNat x.1)) (List.length x.2.1.1) then again (IntKind.wrap .i64 (x.1+(1:Int)),(List.set x.2.1.1 (Int.toNat x.1) (List.length x.2.1.2),x.2.1.2++[some (List.replicate (Int.toNat (↑(List.length x0.2):Int)) (0:Int))]),PUnit.unit) else none else none else none else lpK (Int×(List Nat×List (Option (List Int)))×PUnit) (List (List Int)×Int×PUnit) (fun (again:Int×(List Nat×List (Option (List Int)))×PUnit->Option (List (List Int)×Int×PUnit)) (x:Int×(List Nat×List (Option (List Int)))×PUnit)=>bif decide (x.1<(↑(List.length x0.2):Int)) then bif inB x.1 (List.length x0.2) then lpK (Int×(List Nat×List (Option (List Int)))×PUnit) (List (List Int)×Int×PUnit) (fun (again_1:Int×(List Nat×List (Option (List Int)))×PUnit->Option (List (List Int)×Int×PUnit)) (x_1:Int×(List Nat×List (Option (List Int)))×PUnit)=>let v10:Int:=IntKind.wrap .i64 (x_1.1+(1:Int));let v11:(List Nat×List (Option (List Int)))×PUnit:=(x_1.2.1,PUnit.unit);let v12:ByteArray×Int×Int×Int:=List.getD (List.getD x0.2 (Int.toNat x.1) ({ data:={ toList:=[] } },[],false)).2.1 (Int.toNat x_1.1) ({ data:={ toList:=[] } },(0:Int),(0:Int),(0:Int));bif decide (x_1.1<(↑(List.length (List.getD x0.2 (Int.toNat x.1) ({ data:={ toList:=[] } },[],false)).2.1):Int)) then bif inB x_1.1 (List.length (List.getD x0.2 (Int.toNat x.1) ({ data:={ toList:=[] } },[],false)).2.1) then ah (b6 x0 v12.1) fun (t:Int)=>bif decide (t>=(0:Int)) then bif inB t (List.length x_1.2.1.1) then bif Nat.ble (Nat.succ (Int.toNat t)) (List.length x_1.2.1.1) then bif inB x.1 (List.length (bI x_1.2.1.2 (List.getD x_1.2.1.1 (Int.toNat t) (0:Nat)))) then bif Nat.ble (Nat.succ (Int.toNat x.1)) (List.length (bI x_1.2.1.2 (List.getD x_1.2.1.1 (Int.toNat t) (0:Nat)))) then bif inB x.1 (List.length (bI x_1.2.1.2 (List.getD x_1.2.1.1 (Int.toNat t) (0:Nat)))) then bif Nat.ble (Nat.succ (Int.toNat x.1)) (List.length (bI x_1.2.1.2 (List.getD x_1.2.1.1 (Int.toNat t) (0:Nat)))) then again_1 (v10,(x_1.2.1.1,List.set x_1.2.1.2 (List.getD x_1.2.1.1 (Int.toNat t) (0:Nat)) (some (List.set (bI x_1.2.1.2 (List.getD x_1.2.1.1 (Int.toNat t) (0:Nat))) (Int.toNat x.1) (IntKind.wrap .i64 (List.getD (bI x_1.2.1.2 (List.getD x_1.2.1.1 (Int.toNat t) (0:Nat))) (Int.toNat x.1) (0:Int)+v12.2.1))))),PUnit.unit) else none else none else none else none else none else none else again_1 (v10,v11) else none else again (IntKind.wrap .i64 (x.1+(1:Int)),v11)) ((0:Int),x.2.1,PUnit.unit) else none else bif List.all x.2.1.1 fun (x_1:Nat)=>fW x.2.1.2 x_1 then some (List.map (fun (x_1:Nat)=>bI x.2.1.2 x_1) x.2.1.1,(0:Int),PUnit.unit) else none) ((0:Int),x.2.1,PUnit.unit)) ((0:Int),(T,List.replicate (Int.toNat (↑(List.length x0.1):Int)) (some [])),PUnit.unit) else none
theorem GG (s:Sy):bB s=S4 (yP Sh.ref (0:Nat) (Int.toNat (↑(List.length s.1):Int)) 0) s:=by kernel_rfl
theorem xt:∀(n k:Nat),yP Sh.ref (0:Nat) n k=(List.range n).map fun i=>k+i
 | 0,_=>rfl
 | n+1,k=>by
  rw[List.range_succ_eq_map,List.map_cons,List.map_map]
  unfold yP
  rw[xt n (k+1)]
  have e:shS k Sh.ref (0:Nat)=k+0:=rfl
  rw[e]
  congr 1
  refine List.map_congr_left fun i _=>?_
  simp only[Function.comp]
  omega
def wx (m w:Nat) (T:Nat->Nat->Int):List Nat×List (Option (List Int)):=(bj m fun k=>m+k,List.replicate m (some [])++dY m w T)
theorem KF {n:Nat}:List.replicate n (0:Int)=bj n fun _=>0:=by
 unfold bj
 rw[List.map_const',List.length_range]
section
variable {m w:Nat} {T:Nat->Nat->Int}
theorem Cr {i:Nat}:(List.replicate m (some ([]:List Int))++dY m w T).getD (m+i) none=(dY m w T).getD i none:=by
 rw[List.getD_eq_getElem?_getD,List.getD_eq_getElem?_getD,List.getElem?_append_right (by rw[List.length_replicate];omega),List.length_replicate,Nat.add_sub_cancel_left]
theorem Ef {i:Nat} (h:i<m):bI (List.replicate m (some ([]:List Int))++dY m w T) (m+i)=bj w (T i):=by
 unfold bI
 rw[Cr,sD h]
 rfl
theorem I5 {i:Nat} (h:i<m):fW (List.replicate m (some ([]:List Int))++dY m w T) (m+i)=true:=by
 unfold fW
 rw[Cr,sD h]
 rfl
theorem MS {i j:Nat} {x:Int} (hi:i<m) (hj:j<w):(List.replicate m (some ([]:List Int))++dY m w T).set (m+i) (some ((bj w (T i)).set j x))=List.replicate m (some [])++dY m w fun k l=>if k=i/\l=j then x else T k l:=by
 rw[List.set_append_right _ _ (by rw[List.length_replicate];omega),List.length_replicate,Nat.add_sub_cancel_left,D8 hi hj]
end
theorem GI {s:Sy} (h:eL s=true):bB s=some (A1 s,0,()):=by
 have hv:=fG h
 have hb:=hv.bl
 have hr:=hv.rl
 have hf:=fun n=>Dw s n (show s.1.length<=1000000 by omega)
 rw[GG,xt]
 simp only[S4,AA,h,aa,Bool.not_true,cF,z9,List.length_map,List.length_range,z7 (show (0:Int)<=(s.1.length:Nat) by omega),z7 (show (0:Int)<=(s.2.length:Nat) by omega),
  eK (show s.1.length*24<=140737488355328 by omega),eK (show s.2.length*8<=140737488355328 by omega),Bool.and_self,cT]
 obtain ⟨m,hm⟩:∃m,m=s.1.length:=⟨_,rfl⟩
 obtain ⟨w,hw⟩:∃w,w=s.2.length:=⟨_,rfl⟩
 rw[<-hm] at hb ⊢
 rw[<-hw] at hr ⊢
 refine bR m (by omega) (fun i=>((i:Int),(bj m (fun k=>if k<i then m+k else k),List.replicate m (some [])++dY i w fun _ _=>0),PUnit.unit)) _ ?_ (fun again i hi=>?_) (fun again=>?_)
 ·have e:(List.range m).map (fun i=>0+i)=bj m (fun k=>if k<0 then m+k else k):=di (f:=fun i=>0+i) fun k _=>by rw[if_neg (by omega),Nat.zero_add]
  rw[e]
  show _=((0:Int),(_,List.replicate m (some ([]:List Int))++[]),PUnit.unit)
  rw[List.append_nil]
 ·simp only[aH,ay,z7 hi,z7 (show (i:Int)<m by omega),cT,z9,dK (show i.succ<=m by omega),cW (show i<=1000000 by omega)]
  refine congrArg again ?_
  refine congrArg (fun p=>(((i+1:Nat):Int),p,PUnit.unit)) ?_
  rw[kc hi,List.length_append,List.length_replicate,mF,KF,List.append_assoc,vY]
  refine congrArg (fun l=>(l,_)) ?_
  refine di fun k _=>?_
  by_cases c:k=i
  ·rw[if_pos c,if_pos (by omega)];omega
  ·rw[if_neg c]
   by_cases c2:k<i
   ·rw[if_pos c2,if_pos (by omega)]
   ·rw[if_neg c2,if_neg (by omega)]
 ·simp only[z8 (show ¬ (m:Int)<m by omega),cF]
  refine bR w (by omega) (fun k=>((k:Int),wx m w (fun i j=>if j<k then Mx s i j else 0),PUnit.unit)) _ ?_ (fun again k hk=>?_) (fun again=>?_)
  ·refine congrArg (fun p=>((0:Int),p,PUnit.unit)) ?_
   unfold wx
   refine Prod.ext (di fun k hk=>by rw[if_pos hk]) ?_
   simp only
   rw[jb fun i j _ _=>(if_neg (show ¬ j<0 by omega)).symm]
  ·have hwk:k<s.2.length:=by omega
   have hpl:=fun t ht=>hv.pl k t hwk ht
   have hhl:=hv.hl k hwk
   have hpb:=fun n=>nO (n:=n) (hs:=hsS s k) hpl
   simp only[aH,z7 hk,z7 (show (k:Int)<w by omega),cT,z9,cW (show k<=1000000 by omega),show (List.getD s.2 k ({ data:={ toList:=[] } },[],false)).2.1=hsS s k from rfl]
   refine bR (hsS s k).length (by omega) (fun t=>((t:Int),wx m w (fun i j=>if j<k then Mx s i j else if j=k then lN (hsS s k) (bnS s i) t else 0),PUnit.unit)) _ ?_ (fun again1 t ht=>?_) (fun again1=>?_)
   ·refine congrArg (fun p=>((0:Int),p,PUnit.unit)) ?_
    unfold wx
    refine congrArg (fun c=>(_,List.replicate m (some ([]:List Int))++c)) (jb fun i j _ _=>?_)
    by_cases c1:j<k
    ·rw[if_pos c1,if_pos c1]
    ·rw[if_neg c1,if_neg c1]
     split<;>rfl
   ·obtain ⟨hd,hhd⟩:∃hd,hd=(hsS s k).getD t hd0:=⟨_,rfl⟩
    have hpt:=hpl t ht
    simp only[aH,z7 ht,z7 (show (t:Int)<(hsS s k).length by omega),cT,z9,cW (show t<=1000000 by omega),show List.getD (hsS s k) t ({ data:={ toList:=[] } },(0:Int),(0:Int),(0:Int))=(hsS s k).getD t hd0 from rfl,hf,aa]
    rw[<-hhd] at hpt ⊢
    have estep:∀n,lN (hsS s k) n (t+1)=lN (hsS s k) n t+if hd.1=n then hd.2.1 else 0:=fun n=>by rw[hhd];rfl
    rcases HS s hd.1 with ⟨h1,h2⟩ | ⟨i0,h1,h2,h3⟩
    ·rw[z8 (show ¬ fbI s hd.1>=0 by omega),cF]
     refine congrArg again1 ?_
     refine congrArg (fun p=>(((t+1:Nat):Int),p,PUnit.unit)) ?_
     unfold wx
     refine congrArg (fun c=>(_,List.replicate m (some ([]:List Int))++c)) (jb fun i j hi _=>?_)
     have e:lN (hsS s k) (bnS s i) (t+1)=lN (hsS s k) (bnS s i) t:=by
      rw[estep,if_neg fun e=>h2 i (by omega) e.symm,Int.add_zero]
     rw[e]
    ·have hi0:i0<m:=by omega
     have hTl:(bj m fun k=>m+k).getD i0 0=m+i0:=bC hi0
     have hrow:=Ef (w:=w) (T:=fun i j=>if j<k then Mx s i j else if j=k then lN (hsS s k) (bnS s i) t else 0) hi0
     have hget:(bj w fun j=>if j<k then Mx s i0 j else if j=k then lN (hsS s k) (bnS s i0) t else 0).getD k 0=lN (hsS s k) (bnS s i0) t:=by
      rw[bC hk,if_neg (by omega),if_pos rfl]
     have hb1:=hpb (bnS s i0) t (by omega)
     simp only[h2,z7 (show (i0:Int)>=0 by omega),cT,z9]
     unfold wx
     simp only[aH,ay,z7 hi0,cT,hTl,hrow,z7 hk,dK (show k.succ<=w by omega),dK (show i0.succ<=m by omega),hget]
     rw[aA (by omega) (by omega),MS (T:=fun i j=>if j<k then Mx s i j else if j=k then lN (hsS s k) (bnS s i) t else 0) hi0 hk]
     refine congrArg again1 ?_
     refine congrArg (fun c=>(((t+1:Nat):Int),(_,List.replicate m (some ([]:List Int))++c),PUnit.unit)) (jb fun i j hi _=>?_)
     by_cases c1:j=k
     ·subst c1
      by_cases c2:i=i0
      ·subst c2
       rw[if_pos ⟨rfl,rfl⟩,if_neg (by omega),if_pos rfl,estep,if_pos h3.symm]
      ·rw[if_neg fun e=>c2 e.1,if_neg (by omega),if_pos rfl,if_neg (by omega),if_pos rfl,estep,if_neg,Int.add_zero]
       intro e
       exact c2 (hv.inj i i0 (by omega) h1 (by rw[h3,e]))
     ·rw[if_neg fun e=>c1 e.2,if_neg c1,if_neg c1]
   ·simp only[z8 (show ¬ ((hsS s k).length:Int)<(hsS s k).length by omega),cF]
    refine congrArg again ?_
    refine congrArg (fun p=>(((k+1:Nat):Int),p,PUnit.unit)) ?_
    unfold wx
    refine congrArg (fun c=>(_,List.replicate m (some ([]:List Int))++c)) (jb fun i j _ _=>?_)
    by_cases c1:j<k
    ·rw[if_pos c1,if_pos (by omega)]
    ·rw[if_neg c1]
     by_cases c2:j=k
     ·subst c2
      rw[if_pos rfl,if_pos (by omega)]
      rfl
     ·rw[if_neg c2,if_neg (by omega)]
  ·simp only[z8 (show ¬ (w:Int)<w by omega),cF]
   have hall:((wx m w fun i j=>if j<w then Mx s i j else 0).1.all fun x=>fW (wx m w fun i j=>if j<w then Mx s i j else 0).2 x)=true:=by
    rw[List.all_eq_true]
    intro x hx
    obtain ⟨i,hi,rfl⟩:=List.mem_map.1 hx
    exact I5 (List.mem_range.1 hi)
   have hmap:(wx m w fun i j=>if j<w then Mx s i j else 0).1.map (fun x=>bI (wx m w fun i j=>if j<w then Mx s i j else 0).2 x)=A1 s:=by
    unfold A1 qP
    rw[<-hm,<-hw]
    unfold wx bj
    rw[List.map_map]
    refine List.map_congr_left fun i hi=>?_
    have:=Ef (w:=w) (T:=fun i j=>if j<w then Mx s i j else 0) (List.mem_range.1 hi)
    exact this.trans (di fun j hj=>if_pos hj)
   rw[hall,hmap,cT]
theorem No {s:Sy} (h:eL s=false):bB s=some ([],1,()):=by
 rw[GG]
 simp only[S4,AA,h,aa,Bool.not_false,cT]
def e9:List Int->List Fq->Rat->Option Rat
 | n ::l,a ::x,s=>if dh ((n:Rat)*qv a)/\dh (s+(n:Rat)*qv a) then e9 l x (s+(n:Rat)*qv a) else none
 | _,_,s=>some s
def Jj {R:Type} (o:Option Rat) (bad:Option R) (good:Rat->Option R):Option R:=match o with
 | some q=>good q
 | none=>bad
theorem xK {σ R:Type} {l:List Int} {x:List Fq} (hl:l.length<=x.length) {b:Nat->σ->(σ->Option R)->Option R} {f:σ->Option R} {cur:σ->Rat} {bad:Option R} {good:Rat->Option R}
  (nx:∀i s,dh (cur s+((l.getD i 0:Int):Rat)*qv (x.getD i (0,0)))->σ) (hnx:∀i s h,cur (nx i s h)=cur s+((l.getD i 0:Int):Rat)*qv (x.getD i (0,0)))
  (hb:∀i s k,i<l.length->b i s k=if h:dh (((l.getD i 0:Int):Rat)*qv (x.getD i (0,0)))/\dh (cur s+((l.getD i 0:Int):Rat)*qv (x.getD i (0,0))) then k (nx i s h.2) else bad)
  (hf:∀s,f s=good (cur s)):∀(k i:Nat) (s:σ),i+k=l.length->upF b f k i s=Jj (e9 (l.drop i) (x.drop i) (cur s)) bad good
 | 0,i,s,h=>by
  rw[List.drop_eq_nil_of_le (by omega)]
  exact hf s
 | k+1,i,s,h=>by
  have h1:i<l.length:=by omega
  have h2:i<x.length:=by omega
  have e1:l.getD i 0=l[i]:=aP h1
  have e2:x.getD i (0,0)=x[i]:=aP h2
  simp only[upF]
  rw[hb i s _ h1,List.drop_eq_getElem_cons h1,List.drop_eq_getElem_cons h2,e9,<-e1,<-e2]
  split
  ·rw[xK hl nx hnx hb hf k (i+1) _ (by omega),hnx]
  ·rfl
theorem obN {T R:Type} {t:T} {k:T->Option R}:ah (some t) k=k t:=id rfl
theorem qy (n:Int):aw n=some (n,1):=id rfl
theorem RF {l:List Int} {x:List Fq} {e:Int} (hl:l.length<=x.length) (h0:l.length<=1000000) (hc:∀n ∈ l,-1152921504606846976<=n/\n<=1152921504606846976) (hx:∀a ∈ x,okF a) :
  b8 e l x=Jj (e9 l x 0) (some (5,(0,1))) fun q=>some (e,prQ q):=by
 simp only[b8,ka]
 refine (io (α:=Int×Int×Fq×Fq×PUnit) l.length (by omega) (fun i (s:Fq×{q:Rat // dh q})=>((i:Int),e,s.1,prQ s.2.1,PUnit.unit))
  (fun i s k=>if h:dh (((l.getD i 0:Int):Rat)*qv (x.getD i (0,0)))/\dh (s.2.1+((l.getD i 0:Int):Rat)*qv (x.getD i (0,0))) then k (s.1,⟨_,h.2⟩) else some (5,(0,1))) (fun s=>some (e,prQ s.2.1)) ?_ ?_ ((0,0),⟨0,by decide⟩)).trans ?_
 ·intro again i s hi
  have hw:IntKind.wrap .i64 ((i:Int)+1)=((i+1:Nat):Int):=by rw[aA (by omega) (by omega)];rfl
  obtain ⟨w,q,hq⟩:=s
  have hn:l.getD i 0 ∈ l:=by rw[aP hi];exact List.getElem_mem _
  have ha:okF (x.getD i (0,0)):=by rw[aP (show i<x.length by omega)];exact hx _ (List.getElem_mem _)
  have hm:=K1 (lq (hc _ hn).1 (hc _ hn).2) ha
  rw[pU] at hm
  simp only[aH,z7 hi,z7 (show i<x.length by omega),z7 (show (i:Int)<l.length by omega),cT,z9,hw,sB,hm,aa]
  generalize l.getD i 0=n at *
  generalize x.getD i (0,0)=a at *
  rcases gd ((n:Rat)*qv a) with ⟨f1,e1⟩ | ⟨f1,e1⟩
  ·have hA:=Eu (gA hq) (gA f1)
   rw[iK,iK] at hA
   simp only[e1,decide_true,cT,hA,aa]
   rcases gd (q+(n:Rat)*qv a) with ⟨f2,e2⟩ | ⟨f2,e2⟩
   ·rw[dif_pos ⟨f1,f2⟩]
    simp only[e2,decide_true,Bool.not_true,cF]
   ·rw[dif_neg fun h=>f2 h.2]
    simp only[e2]
    rfl
  ·rw[dif_neg fun h=>f1 h.1]
   simp only[e1]
   rfl
 ·intro again s
  simp only[z8 (show ¬ (l.length:Int)<l.length by omega),cF]
 ·exact xK (cur:=fun s:Fq×{q:Rat // dh q}=>s.2.1) (bad:=some (5,(0,1))) (good:=fun q=>some (e,prQ q)) hl (fun i s h=>(s.1,⟨_,h⟩)) (fun _ _ _=>rfl) (fun _ _ _ _=>rfl) (fun _=>rfl) l.length 0 ((0,0),⟨0,by decide⟩) (by omega)
theorem Hc {l:List Int} {x:List Fq} (hl:l.length<=x.length) (h0:l.length<=1000000) (hc:∀n ∈ l,-1152921504606846976<=n/\n<=1152921504606846976) (hx:∀a ∈ x,okF a) :
  dL l x=Jj (e9 l x 0) (some ((0,0),5,())) fun q=>some (prQ q,0,()):=by
 unfold dL ry
 rw[qy,obN]
 refine (io (α:=Int×Fq×Fq×PUnit) l.length (by omega) (fun i (s:{q:Rat // dh q})=>((i:Int),(0,0),prQ s.1,PUnit.unit))
  (fun i s k=>if h:dh (((l.getD i 0:Int):Rat)*qv (x.getD i (0,0)))/\dh (s.1+((l.getD i 0:Int):Rat)*qv (x.getD i (0,0))) then k ⟨_,h.2⟩ else some ((0,0),5,())) (fun s=>some (prQ s.1,0,())) ?_ ?_ ⟨0,by decide⟩).trans ?_
 ·intro again i s hi
  have hw:IntKind.wrap .i64 ((i:Int)+1)=((i+1:Nat):Int):=by rw[aA (by omega) (by omega)];rfl
  obtain ⟨q,hq⟩:=s
  have hn:l.getD i 0 ∈ l:=by rw[aP hi];exact List.getElem_mem _
  have ha:okF (x.getD i (0,0)):=by rw[aP (show i<x.length by omega)];exact hx _ (List.getElem_mem _)
  have hm:=zK (lq (hc _ hn).1 (hc _ hn).2) ha
  rw[pU] at hm
  simp only[aH,z7 hi,z7 (show i<x.length by omega),z7 (show (i:Int)<l.length by omega),cT,z9,hw,qy,hm,aa]
  generalize l.getD i 0=n at *
  generalize x.getD i (0,0)=a at *
  rcases gd ((n:Rat)*qv a) with ⟨f1,e1⟩ | ⟨f1,e1⟩
  ·have hA:=AO (gA hq) (gA f1)
   rw[iK,iK] at hA
   simp only[e1,decide_true,Bool.not_true,cF,hA,aa]
   rcases gd (q+(n:Rat)*qv a) with ⟨f2,e2⟩ | ⟨f2,e2⟩
   ·rw[dif_pos ⟨f1,f2⟩]
    simp only[e2,decide_true,Bool.not_true,cF]
   ·rw[dif_neg fun h=>f2 h.2]
    simp only[e2]
    rfl
  ·rw[dif_neg fun h=>f1 h.1]
   simp only[e1]
   rfl
 ·intro again s
  simp only[z8 (show ¬ (l.length:Int)<l.length by omega),cF]
 ·exact xK (cur:=fun s:{q:Rat // dh q}=>s.1) (bad:=some ((0,0),5,())) (good:=fun q=>some (prQ q,0,())) hl (fun i s h=>⟨_,h⟩) (fun _ _ _=>rfl) (fun _ _ _ _=>rfl) (fun _=>rfl) l.length 0 ⟨0,by decide⟩ (by omega)
theorem si:∀{l:List Int} {x:List Fq} {s q:Rat},dh s->e9 l x s=some q->dh q
 | [],_,s,q,hs,h=>by
  unfold e9 at h
  injection h with h
  rw[<-h];exact hs
 | _ ::_,[],s,q,hs,h=>by
  unfold e9 at h
  injection h with h
  rw[<-h];exact hs
 | n ::l,a ::x,s,q,hs,h=>by
  unfold e9 at h
  split at h
  ·rename_i hh
   exact si hh.2 h
  ·cases h
theorem wJ {n:Int} (h:inC n=true): -1152921504606846976<=n/\n<=1152921504606846976:=by
 have:=z12 h
 omega
theorem GV {n:Int} (h:inR n=true): -1152921504606846976<=n/\n<=1152921504606846976:=by
 have:=z12 h
 omega
structure ValidP (p:Pg):Prop where
 cost:1<=p.1.length/\p.1.length<=12
 rows:p.2.length<=6
 cs:∀n ∈ p.1,inC n=true
 len:∀r ∈ p.2,r.1.length=p.1.length
 kind:∀r ∈ p.2,1<=r.2.1/\r.2.1<=3
 right:∀r ∈ p.2,inR r.2.2=true
 coefs:∀r ∈ p.2,∀n ∈ r.1,inC n=true
theorem iq {p:Pg}:pN p=true↔ValidP p:=by
 unfold pN Nl
 rw[z10,z10,decide_eq_true_iff,List.all_eq_true,List.all_eq_true]
 constructor
 ·rintro ⟨⟨h1,h2,h3⟩,h4,h5⟩
  have h6:∀r ∈ p.2,r.1.length=p.1.length/\(1<=r.2.1/\r.2.1<=3)/\inR r.2.2=true/\∀n ∈ r.1,inC n=true:=fun r hr=>by
   have:=h5 r hr
   unfold vV at this
   rw[z10,z10,z10,decide_eq_true_iff,decide_eq_true_iff,List.all_eq_true] at this
   exact this
  exact ⟨⟨h1,h2⟩,h3,h4,fun r hr=>(h6 r hr).1,fun r hr=>(h6 r hr).2.1,fun r hr=>(h6 r hr).2.2.1,fun r hr=>(h6 r hr).2.2.2⟩
 ·rintro ⟨h1,h2,h3,h4,h5,h6,h7⟩
  refine ⟨⟨h1.1,h1.2,h2⟩,h3,fun r hr=>?_⟩
  unfold vV
  rw[z10,z10,z10,decide_eq_true_iff,decide_eq_true_iff,List.all_eq_true]
  exact ⟨h4 r hr,h5 r hr,h6 r hr,h7 r hr⟩
theorem PX {a:Fq} {n:Int} (ha:okF a) (hn: -1152921504606846976<=n/\n<=1152921504606846976):fZ a n=some (qq (qv a) (n:Rat)):=by
 have h:=R3 ha (lq hn.1 hn.2)
 rw[pU] at h
 simp only[fZ,nT,h,aa]
theorem wQ {l:List Int} {x:List Fq}:dh ((e9 l x 0).getD 0):=by
 cases h:e9 l x 0 with
 | none=>decide
 | some q=>exact si (by decide) h
theorem Tc {l:List Int} {x:List Fq} {e:Int} (hl:l.length<=x.length) (h0:l.length<=1000000) (hc:∀n ∈ l,inC n=true) (hx:∀a ∈ x,okF a) :
  b8 e l x=some (bif (e9 l x 0).isSome then e else 5,prQ ((e9 l x 0).getD 0)):=by
 rw[RF hl h0 (fun n hn=>wJ (hc n hn)) hx]
 cases e9 l x 0<;>rfl
def Av (p:Pg) (x:List Fq):Bool:=p.2.all fun r=>(e9 r.1 x 0).isSome
end
end Go.Proofs.YtegbncajloeepaaGreat

namespace Go.Proofs.YtegbncajloeepaaGreat
open Tryz Dn Dn.Sh
def UO (s:Sy):List Int:=bj s.1.length (bwS s)
theorem Pr {s:Sy} (h:eL s=true):cO s=some (UO s,0,()):=by
 have hv:=fG h
 have hb:=hv.bl
 simp only[cO,ky,AA,h,aa,Bool.not_true,cF]
 refine bR s.1.length (by omega) (fun i=>(bj i (bwS s),(i:Int),PUnit.unit)) _ rfl (fun again i hi=>?_) (fun again=>?_)
 ·simp only[aH,z7 hi,z7 (show (i:Int)<s.1.length by omega),cT,z9,ay,eK (show (i+1)*8<=140737488355328 by omega),cW (show i<=1000000 by omega),show (List.getD s.1 i ({ data:={ toList:=[] } },(0:Int))).2=bwS s i from rfl,kT]
 ·simp only[z8 (show ¬ (s.1.length:Int)<s.1.length by omega),cF]
  rfl
def kF (s:Sy) (i:Nat):Rw:=(bj s.2.length (Mx s i),(3:Int),bwS s i)
def fF (s:Sy) (c:List Int):Pg:=(c,bj s.1.length (kF s))
theorem MJ {s:Sy} (h:eL s=true) (c:List Int):fP s c=some (fF s c,0,()):=by
 have hv:=fG h
 have hb:=hv.bl
 unfold fP my
 rw[GI h,aa,Pr h,aa]
 refine (cF _ _).trans ((cF _ _).trans ?_)
 unfold A1 UO
 refine bR s.1.length (by omega) (fun i=>((i:Int),c,bj i (kF s),PUnit.unit)) _ rfl (fun again i hi=>?_) (fun again=>?_)
 ·simp only[aH,fQ,ay,z7 hi,z7 (show (i:Int)<s.1.length by omega),cT,z9,eK (show (i+1)*40<=140737488355328 by omega),cW (show i<=1000000 by omega),kB hi,bC hi]
  rw[show (bj s.2.length (Mx s i),(3:Int),bwS s i)=kF s i from rfl,kT]
 ·simp only[fQ,z8 (show ¬ (s.1.length:Int)<s.1.length by omega),cF]
  rfl
theorem H1 {s:Sy} (h:eL s=false) (c:List Int):fP s c=some (([],[]),1,()):=by
 simp only[fP,my,No h,aa]
 rfl
theorem Ab {s:Sy} (h:eL s=true) (c:List Int):bN s c=some (fF s c):=by
 have hv:=fG h
 have hb:=hv.bl
 simp only[bN,l4,Cu hv,aa]
 unfold A1
 refine bR s.1.length (by omega) (fun i=>((i:Int),c,bj i (kF s),PUnit.unit)) _ rfl (fun again i hi=>?_) (fun again=>?_)
 ·simp only[aH,fQ,z7 hi,z7 (show (i:Int)<s.1.length by omega),cT,z9,ay,eK (show (i+1)*40<=140737488355328 by omega),cW (show i<=1000000 by omega),kB hi]
  rw[show (bj s.2.length (Mx s i),(3:Int),(List.getD s.1 i ({ data:={ toList:=[] } },(0:Int))).2)=kF s i from rfl,kT]
 ·simp only[z8 (show ¬ (s.1.length:Int)<s.1.length by omega),cF]
  rfl
def fz (s:Sy):List Int:=List.replicate s.2.length 1
theorem D2 (s:Sy) (hl:s.2.length<=1000000):cZ s=some (fz s):=by
 simp only[cZ,pg]
 refine bR s.2.length (by omega) (fun i=>(List.replicate i 1,(i:Int),PUnit.unit)) _ rfl (fun again i hi=>?_) (fun again=>?_)
 ·simp only[z7 (show (i:Int)<s.2.length by omega),cT,List.length_replicate,eK (show (i+1)*8<=140737488355328 by omega),cW (show i<=1000000 by omega)]
  rw[List.replicate_succ']
 ·simp only[z8 (show ¬ (s.2.length:Int)<s.2.length by omega),cF]
  rfl
theorem Gx (z:Int) {n:Nat} (hn:n<=1000000):cD [z] (n:Int)=some (List.replicate n z):=by
 have hm:iC (IntKind.wrap .u64 ((List.length [z]:Nat):Int)) (IntKind.wrap .u64 (n:Int))=some (0,(n:Int),()):=by
  simp only[iC,tu]
  rw[a7 (by simp) (by simp),a7 (by omega) (by omega),Sf (by simp) (by simp) (by omega) (by omega),aa]
  simp only[List.length_singleton]
  congr 1
  refine Prod.ext ?_ (Prod.ext ?_ rfl)
  ·show ((1:Nat):Int)*n / 18446744073709551616=0
   omega
  ·show ((1:Nat):Int)*n % 18446744073709551616=n
   omega
 have hw:IntKind.wrap .i64 (n:Int)=(n:Int):=aA (by omega) (by omega)
 simp only[cD,jM,jnT]
 rw[z8 (show ¬ (n:Int)<0 by omega),cF,hm,aa]
 have h63:decide ((n:Int)>9223372036854775807)=false:=z8 (by omega)
 have hz0:decide ((0:Int)>0)=false:=rfl
 have hz1:decide ((0:Int)<=(n:Int))=true:=z7 (by omega)
 have hfb:eC n 8=true:=eK (by omega)
 simp only[hw,hz0,h63,hz1,z9,hfb,Bool.not_false,Bool.not_true,Bool.or_true,Bool.and_self,cT,cF,List.drop_zero,List.take_zero,List.nil_append]
 refine jC (g:=fun _=>some (List.replicate n z)) (I:=fun (x:Int×List Int×PUnit)=>∃c:Nat,x.1=c/\c<=n/\(0<n->0<c)/\x.2.1.length=n/\x.2.1.take c=List.replicate c z) (μ:=fun (x:Int×List Int×PUnit)=>n - x.1.toNat) ?_ ?_ (by simp only;omega)
 ·rintro ⟨i,row,_⟩ rec ⟨c,h1,h2,h3,h4,h5⟩ hrec
  simp only at h1 h4 h5 hrec ⊢
  subst h1
  simp only[z9,h4]
  by_cases hc:c<n
  ·have hl:(List.take (n - c) (List.take c row)).length=min (n - c) c:=by rw[List.length_take,List.length_take,h4];omega
   rw[z7 (show (c:Int)<n by omega),cT,Oj (by omega) (by omega) (by omega),Oj (by omega) (by omega) (by omega),dK (by omega),dK (Nat.le_refl n)]
   simp only[Bool.and_self,cT]
   rw[aA (by omega) (by omega)]
   refine hrec _ ⟨c+min (n - c) c,?_,by omega,by omega,?_,?_⟩ ?_
   ·simp only;rw[hl];omega
   ·simp only[List.length_append,List.length_drop,hl,h4,List.length_take];omega
   ·simp only
    rw[List.take_append_of_le_length (by rw[List.length_append,hl,List.length_take,h4];omega),h5,List.take_replicate,List.replicate_append_replicate,List.take_replicate]
    congr 1
    omega
   ·simp only;rw[hl];omega
  ·have:c=n:=by omega
   subst this
   rw[z8 (show ¬ (c:Int)<c by omega),cF]
   rw[<-h5,List.take_of_length_le (by omega)]
 ·refine ⟨(List.take n [z]).length,rfl,by rw[List.length_take];omega,fun h=>by rw[List.length_take];simp;omega,?_,?_⟩
  ·simp only[List.length_append,List.length_drop,List.length_replicate,List.length_take,List.length_singleton];omega
  ·simp only
   rcases Nat.eq_zero_or_pos n with h | h
   ·subst h;rfl
   ·obtain ⟨m,rfl⟩:∃m,n=m+1:=⟨n - 1,by omega⟩
    simp
theorem CC {s:Sy} (h:eL s=true):aZ s=some (fF s (fz s),0,()):=by
 have hr:=(fG h).rl
 simp only[aZ,jI,Gx 1 (show s.2.length<=1000000 by omega),aa]
 rw[show List.replicate s.2.length (1:Int)=fz s from rfl,MJ h]
 rfl
theorem H3 {s:Sy} (h:eL s=false) (hl:s.2.length<=1000000):aZ s=some (([],[]),1,()):=by
 simp only[aZ,jI,Gx 1 hl,H1 h,aa]
theorem lQ {α:Type} {n:Nat} {f:Nat->α} {a:α}:a ∈ bj n f↔∃i,i<n/\f i=a:=by
 unfold bj
 rw[List.mem_map]
 exact ⟨fun ⟨i,h1,h2⟩=>⟨i,List.mem_range.1 h1,h2⟩,fun ⟨i,h1,h2⟩=>⟨i,List.mem_range.2 h1,h2⟩⟩
theorem K5 {s:Sy} (hv:ValidS s) {c:List Int} (hl:c.length=s.2.length) (hc:∀n ∈ c,inC n=true):ValidP (fF s c):=by
 have hb:=hv.bl
 have hr:=hv.rl
 refine ⟨⟨by show 1<=c.length;omega,by show c.length<=12;omega⟩,?_,hc,fun r h=>?_,fun r h=>?_,fun r h=>?_,fun r h n hn=>?_⟩
 ·show (bj s.1.length (kF s)).length<=6
  rw[ay];omega
 all_goals
  obtain ⟨i,hi,rfl⟩:=lQ.1 h
 ·show (bj s.2.length (Mx s i)).length=c.length
  rw[ay,hl]
 ·exact ⟨by show (1:Int)<=3;omega,by show (3:Int)<=3;omega⟩
 ·have:=hv.wt i hi
  exact z7 (by show -1073741824<=bwS s i/\bwS s i<=1073741824;omega)
 ·obtain ⟨k,hk,rfl⟩:=lQ.1 hn
  have:=yq hv i hk
  exact z7 (by omega)
theorem ud {s:Sy} (hv:ValidS s):ValidP (fF s (fz s)):=K5 hv (by unfold fz;rw[List.length_replicate]) fun n hn=>by
 rw[(List.mem_replicate.1 hn).2];rfl
def k0 (s:ByteArray):Bool:=!decide ((s.size:Int)>60)
def uK (s:Sy):Bool:=decide (s.1.length<=9/\s.2.length<=9)&&(s.1.all (fun b=>k0 b.1)&&s.2.all (fun r=>k0 r.1&&(!decide ((r.2.1.length:Int)>13)&&r.2.1.all fun h=>k0 h.1)))
theorem HI (s:Sy):bm s=some (uK s):=by
 obtain ⟨bs,rs⟩:=s
 simp only[bm,oh,uK]
 by_cases h0:bs.length<=9/\rs.length<=9
 ·rw[z7 h0,z8 (show ¬ (bs.length:Int)>9 by omega),z8 (show ¬ (rs.length:Int)>9 by omega)]
  simp only[Bool.not_false,Bool.not_true,Bool.or_true,cT,cF,Bool.true_and]
  refine (sC (p:=fun b:Bk=>k0 b.1) (d:=bk0) (l:=bs) (no:=some false) (yes:=some (rs.all (fun r=>k0 r.1&&(!decide ((r.2.1.length:Int)>13)&&r.2.1.all fun h=>k0 h.1)))) (by omega) ?_ ?_).trans ?_
  ·intro again i hi
   simp only[aH,z7 hi,z7 (show (i:Int)<bs.length by omega),cT,z9,cW (show i<=1000000 by omega),k0]
   generalize decide ((((bs.getD i bk0).1.size:Nat):Int)>60)=g
   cases g<;>rfl
  ·intro again
   simp only[z8 (show ¬ (bs.length:Int)<bs.length by omega),cF]
   refine (sC (p:=fun r:Rp=>k0 r.1&&(!decide ((r.2.1.length:Int)>13)&&r.2.1.all fun h=>k0 h.1)) (d:=rp0) (l:=rs) (no:=some false) (yes:=some true) (by omega) ?_ ?_).trans ?_
   ·intro again i hi
    simp only[aH,z7 hi,z7 (show (i:Int)<rs.length by omega),cT,z9,cW (show i<=1000000 by omega)]
    simp only[k0]
    generalize decide ((((rs.getD i rp0).1.size:Nat):Int)>60)=g1
    by_cases g:((rs.getD i rp0).2.1.length:Int)>13
    ·rw[z7 g]
     cases g1<;>rfl
    ·rw[z8 g]
     cases g1 with
     | true=>rfl
     | false =>
      simp only[Bool.not_true,Bool.not_false,Bool.or_true,Bool.and_self,Bool.true_and,cT,cF]
      refine sC (p:=fun h:Hd=>!decide (((h.1.size:Nat):Int)>60)) (d:=hd0) (l:=(rs.getD i rp0).2.1) (by omega) ?_ ?_
      ·intro again1 t ht
       simp only[aH,z7 ht,z7 (show (t:Int)<(rs.getD i rp0).2.1.length by omega),cT,z9,cW (show t<=1000000 by omega)]
       generalize decide (((((rs.getD i rp0).2.1.getD t hd0).1.size:Nat):Int)>60)=g
       cases g<;>rfl
      ·intro again1
       simp only[z8 (show ¬ ((rs.getD i rp0).2.1.length:Int)<(rs.getD i rp0).2.1.length by omega),cF]
   ·intro again
    simp only[z8 (show ¬ (rs.length:Int)<rs.length by omega),cF]
   ·cases rs.all (fun r=>k0 r.1&&(!decide ((r.2.1.length:Int)>13)&&r.2.1.all fun h=>k0 h.1))<;>rfl
  ·cases bs.all (fun b=>k0 b.1)<;>rfl
 ·rw[z8 h0]
  by_cases g:(bs.length:Int)>9
  ·rw[z7 g];rfl
  ·rw[z8 g,z7 (show (rs.length:Int)>9 by omega)];rfl
theorem Ez {s:Sy} (h:uK s=true):s.1.length<=9/\s.2.length<=9:=by
 unfold uK at h
 rw[z10,decide_eq_true_iff] at h
 exact h.1
end Go.Proofs.YtegbncajloeepaaGreat

namespace Go.Proofs.YtegbncajloeepaaGreat
noncomputable section
open Tryz Dn Dn.Sh
def okL (x:List Fq):Bool:=x.all fun a=>decide (okF a)
theorem LG {x:List Fq} (h:x.length<=1000000):eQ x=some (okL x):=by
 have hc:aj x (fun x=>dC x.1)=some (!okL x):=by
  unfold okL
  rw[<-Hx]
  refine Iz (p:=fun a:Fq=>!decide (okF a)) h fun a _=>?_
  simp only[dC,kx,nc,aa]
 simp only[eQ,l5,hc,aa,Bool.not_not]
theorem lr {x:List Fq}:okL x=true↔∀a ∈ x,okF a:=by
 unfold okL
 rw[List.all_eq_true]
 exact ⟨fun h a ha=>z12 (h a ha),fun h a ha=>z7 (h a ha)⟩
theorem Eb {a:Fq} (ha:okF a):cQ a=some (qq (qv a) 0):=by
 have h:=G9 ha (lq (n:=0) (by omega) (by omega))
 rw[pU] at h
 simp only[cQ,pS,qy,aa,h]
 rfl
end
end Go.Proofs.YtegbncajloeepaaGreat

namespace Go.Proofs.YtegbncajloeepaaGreat
open Tryz Dn Dn.Sh
def jW (p:Pg) (j:Nat):List Int:=p.2.map fun r=>r.1.getD j 0
def kp (p:Pg):List Int:=p.2.map fun r=>r.2.2
theorem CW {g:Rw->Int} {rs:List Rw} {F:(List Int×Int×PUnit->Option (List Int))->List Int×Int×PUnit->Option (List Int)} (h:rs.length<=1000000)
  (hF:∀again (i:Nat),i<rs.length->F again ((rs.take i).map g,(i:Int),PUnit.unit)=again ((rs.take i).map g++[g (rs.getD i rw0)],((i+1:Nat):Int),PUnit.unit))
  (hf:∀again,F again (rs.map g,(rs.length:Int),PUnit.unit)=some (rs.map g)):lpK (List Int×Int×PUnit) (List Int) F ([],(0:Int),PUnit.unit)=some (rs.map g):=by
 refine (io (α:=List Int×Int×PUnit) (σ:=Unit) rs.length (by omega) (fun i _=>((rs.take i).map g,(i:Int),PUnit.unit)) (fun i s k=>bif true then k s else none) (fun _=>some (rs.map g)) ?_ ?_ ()).trans ?_
 ·intro again i _ hi
  rw[hF again i hi,cT]
  congr 2
  rw[aP hi,List.take_succ_eq_append_getElem hi,List.map_append]
  rfl
 ·intro again _
  rw[List.take_length]
  exact hf again
 ·refine (jE (p:=fun _=>true) (r:=none) rs.length (fun _ _ _=>rfl) rs.length 0 (by omega)).trans ?_
  rw[show ((List.range' 0 rs.length).all fun _=>true)=true from List.all_eq_true.2 fun _ _=>rfl]
  rfl
theorem uB {g:Rw->Int} {rs:List Rw} {i:Nat}:((rs.take i).map g).length<=rs.length:=by
 rw[List.length_map,List.length_take];omega
theorem zw {p:Pg} {j:Nat} (hv:ValidP p) (hj:j<p.1.length):dX p (j:Int)=some (jW p j):=by
 obtain ⟨c,rs⟩:=p
 unfold dX lj jW
 have h6:=hv.rows
 simp only at h6 hj
 refine CW (rs:=rs) (g:=fun r=>r.1.getD j 0) (by omega) (fun again i hi=>?_) (fun again=>by simp)
 have hw:IntKind.wrap .i64 ((i:Int)+1)=((i+1:Nat):Int):=by rw[aA (by omega) (by omega)];rfl
 have hr:rs.getD i rw0 ∈ rs:=by rw[aP hi];exact List.getElem_mem _
 have hL:=hv.len _ hr
 have hT:=uB (g:=fun r=>r.1.getD j 0) (rs:=rs) (i:=i)
 simp only at hL
 simp only[aH,z7 hi,z7 (show (i:Int)<rs.length by omega),cT,z9,hw,z7 (show j<(rs.getD i rw0).1.length by omega),eK (show (((rs.take i).map fun r=>r.1.getD j 0).length+1)*8<=140737488355328 by omega)]
theorem Fe {p:Pg} {j:Nat} (hv:ValidP p) (hj:j<p.1.length):fT p (j:Int)=some (jW p j):=zw hv hj
theorem zu {p:Pg} (hv:ValidP p):ef p=some (kp p):=by
 obtain ⟨c,rs⟩:=p
 unfold ef kW kp
 have h6:=hv.rows
 simp only at h6
 refine CW (rs:=rs) (g:=fun r=>r.2.2) (by omega) (fun again i hi=>?_) (fun again=>by simp)
 have hw:IntKind.wrap .i64 ((i:Int)+1)=((i+1:Nat):Int):=by rw[aA (by omega) (by omega)];rfl
 have hT:=uB (g:=fun r=>r.2.2) (rs:=rs) (i:=i)
 simp only[aH,z7 hi,z7 (show (i:Int)<rs.length by omega),cT,z9,hw,eK (show (((rs.take i).map fun r=>r.2.2).length+1)*8<=140737488355328 by omega)]
theorem F3 {p:Pg} (hv:ValidP p):fU p=some (kp p):=zu hv
def rc (k n:Int):Bool:=(decide (k≠1)||decide (n<=0))&&(decide (k≠2)||decide (0<=n))
def iV (p:Pg) (y:List Fq):Bool:=(List.range' 0 p.2.length).all fun i=>rc (p.2.getD i rw0).2.1 (y.getD i (0,0)).1
theorem Gd {p:Pg} {y:List Fq} (hv:ValidP p) (hl:y.length=p.2.length):dV p y=some (iV p y):=by
 obtain ⟨c,rs⟩:=p
 unfold dV kK iV
 have h6:=hv.rows
 simp only at h6 hl ⊢
 refine (io (α:=Int×PUnit) (σ:=Unit) rs.length (by omega) (fun i _=>((i:Int),PUnit.unit)) (fun i s k=>bif rc (rs.getD i rw0).2.1 (y.getD i (0,0)).1 then k s else some false) (fun _=>some true) ?_ ?_ ()).trans ?_
 ·intro again i _ hi
  have hw:IntKind.wrap .i64 ((i:Int)+1)=((i+1:Nat):Int):=by rw[aA (by omega) (by omega)];rfl
  simp only[aH,z7 hi,z7 (show (i:Int)<rs.length by omega),z7 (show i<y.length by omega),cT,z9,hw]
  obtain ⟨n,hn⟩:∃n,(y.getD i (0,0)).1=n:=⟨_,rfl⟩
  obtain ⟨kd,hkd⟩:∃kd,(rs.getD i rw0).2.1=kd:=⟨_,rfl⟩
  simp only[hn,hkd,rc]
  by_cases k1:kd=1<;>by_cases k2:kd=2<;>by_cases c1:n<=0<;>by_cases c2:0<=n<;>by_cases c3:n>0<;>by_cases c4:n<0<;>first | (exfalso;omega) | simp[k1,k2,c1,c2,c3,c4]
 ·intro again s
  simp only[z8 (show ¬ (rs.length:Int)<rs.length by omega),cF]
 ·refine (jE (p:=fun i=>rc (rs.getD i rw0).2.1 (y.getD i (0,0)).1) (r:=some false) rs.length (fun _ _ _=>rfl) rs.length 0 (by omega)).trans ?_
  cases (List.range' 0 rs.length).all fun i=>rc (rs.getD i rw0).2.1 (y.getD i (0,0)).1<;>rfl
theorem Gp {a:Fq} (ha:okF a):qq (qv a) 0=if a.1<0 then -1 else if a.1=0 then 0 else 1:=by
 unfold qq
 simp only[Hy ha,yn ha]
theorem Fz {p:Pg} {y:List Fq} (hv:ValidP p) (hy:∀a ∈ y,okF a) (hl:y.length=p.2.length):fw p y=some (iV p y):=by
 obtain ⟨c,rs⟩:=p
 unfold fw m7 iV
 have h6:=hv.rows
 simp only at h6 hl ⊢
 refine (io (α:=Int×PUnit) (σ:=Unit) rs.length (by omega) (fun i _=>((i:Int),PUnit.unit)) (fun i s k=>bif rc (rs.getD i rw0).2.1 (y.getD i (0,0)).1 then k s else some false) (fun _=>some true) ?_ ?_ ()).trans ?_
 ·intro again i _ hi
  have hw:IntKind.wrap .i64 ((i:Int)+1)=((i+1:Nat):Int):=by rw[aA (by omega) (by omega)];rfl
  have ha:okF (y.getD i (0,0)):=by rw[aP (show i<y.length by omega)];exact hy _ (List.getElem_mem _)
  have hcn:=Gp ha
  simp only[aH,z7 hi,z7 (show (i:Int)<y.length by omega),z7 (show i<y.length by omega),cT,z9,hw,Eb ha]
  obtain ⟨cq,hcq⟩:∃cq,qq (qv (y.getD i (0,0))) 0=cq:=⟨_,rfl⟩
  obtain ⟨n,hn⟩:∃n,(y.getD i (0,0)).1=n:=⟨_,rfl⟩
  obtain ⟨kd,hkd⟩:∃kd,(rs.getD i rw0).2.1=kd:=⟨_,rfl⟩
  rw[hcq,hn] at hcn
  simp only[hcq,hn,hkd,rc]
  have hneg:cq<0↔n<0:=by rw[hcn];split<;>(try split)<;>omega
  have hpos:cq>0↔0<n:=by rw[hcn];split<;>(try split)<;>omega
  by_cases k1:kd=1<;>by_cases k2:kd=2<;>by_cases c1:n<=0<;>by_cases c2:0<=n<;>by_cases c3:0<cq<;>by_cases c4:cq<0<;>first | (exfalso;omega) | simp[k1,k2,c1,c2,c3,c4,aa]
 ·intro again s
  simp only[hl,z8 (show ¬ (rs.length:Int)<rs.length by omega),cF]
 ·refine (jE (p:=fun i=>rc (rs.getD i rw0).2.1 (y.getD i (0,0)).1) (r:=some false) rs.length (fun _ _ _=>rfl) rs.length 0 (by omega)).trans ?_
  cases (List.range' 0 rs.length).all fun i=>rc (rs.getD i rw0).2.1 (y.getD i (0,0)).1<;>rfl
end Go.Proofs.YtegbncajloeepaaGreat

namespace Go.Proofs.YtegbncajloeepaaGreat
noncomputable section
open Tryz Dn Dn.Sh
def oI (p:Pg) (y:List Fq):Bool:=(List.range' 0 p.1.length).all fun j=>(e9 (jW p j) y 0).isSome
def pX (p:Pg) (y:List Fq) (f:Nat->Int):Bool:=(List.range' 0 p.1.length).all fun j=>decide (qq ((e9 (jW p j) y 0).getD 0) (f j:Rat)<=0)
theorem Gz {p:Pg} {j:Nat} (hv:ValidP p) (hj:j<p.1.length):∀n ∈ jW p j,inC n=true:=fun n hn=>by
 obtain ⟨r,hr,rfl⟩:=List.mem_map.1 hn
 rw[aP (by rw[hv.len r hr];exact hj)]
 exact hv.coefs r hr _ (List.getElem_mem _)
theorem pQ {p:Pg} {j:Nat}:(jW p j).length=p.2.length:=by unfold jW;rw[List.length_map]
theorem lg {p:Pg}:(kp p).length=p.2.length:=by unfold kp;rw[List.length_map]
theorem y8 {p:Pg} (hv:ValidP p):∀n ∈ kp p,inR n=true:=fun n hn=>by
 obtain ⟨r,hr,rfl⟩:=List.mem_map.1 hn
 exact hv.right r hr
theorem G1 {R:Type} {n:Nat} {g h:Nat->Bool} {f:Bool×Int->Option R} {b:Nat->Bool×Int->(Bool×Int->Option R)->Option R}
  (hb:∀i s k,i<n->b i s k=k (s.1&&h i,bif g i then s.2 else 5)):∀(k i:Nat) (s:Bool×Int),i+k<=n ->
  upF b f k i s=f (s.1&&(List.range' i k).all h,bif (List.range' i k).all g then s.2 else 5)
 | 0,i,s,_=>by simp[upF]
 | k+1,i,s,hi=>by
  simp only[upF,hb i s _ (by omega)]
  rw[G1 hb k (i+1) _ (by omega)]
  simp only[List.range'_succ,List.all_cons,Bool.and_assoc]
  congr 2
  cases g i<;>cases (List.range' (i+1) k).all g<;>rfl
theorem Su {l:List Int} {x:List Fq} {e:Int} (hl:l.length<=x.length) (h0:l.length<=1000000) (hc:∀n ∈ l,inR n=true) (hx:∀a ∈ x,okF a) :
  b8 e l x=some (bif (e9 l x 0).isSome then e else 5,prQ ((e9 l x 0).getD 0)):=by
 rw[RF hl h0 (fun n hn=>GV (hc n hn)) hx]
 cases e9 l x 0<;>rfl
def qc (p:Pg) (y:List Fq):Option Rat:=e9 (kp p) y 0
def Fc (p:Pg) (y:List Fq):Bool:=decide (0<(prQ ((qc p y).getD 0)).1)
def Di (p:Pg) (y:List Fq):Bool:=Fc p y&&(iV p y&&pX p y fun _=>0)
theorem wo {p:Pg} {y:List Fq} (h:y.length<=1000000):b9 p y=some (bif pN p&&okL y then bif decide (y.length=p.2.length) then bif oI p y&&(qc p y).isSome then (Di p y,0,()) else (false,5,()) else (false,3,()) else (false,1,())):=by
 unfold b9 kq
 rw[mE,obN]
 simp only[LG h,aI,eE,cT]
 cases hv:pN p with
 | false=>rfl
 | true =>
  simp only[Bool.not_true,Bool.not_false,cT]
  rw[obN]
  cases hx:okL y with
  | false=>rfl
  | true =>
   have hV:=iq.1 hv
   have hX:=lr.1 hx
   have h6:=hV.rows
   have h7:=hV.cost.2
   simp only[Bool.not_true,cF,Bool.and_self,cT]
   by_cases hl:y.length=p.2.length
   ·simp only[z7 hl,z7 (show (y.length:Int)=p.2.length by omega),Bool.not_true,cT,cF]
    refine (io (α:=Bool×Int×Int×PUnit) p.1.length (by omega) (fun i (s:Bool×Int)=>(s.1,(i:Int),s.2,PUnit.unit)) (fun j s k=>k (s.1&&decide (qq ((e9 (jW p j) y 0).getD 0) ((0:Int):Rat)<=0),bif (e9 (jW p j) y 0).isSome then s.2 else 5))
     (fun s=>some ((Fc p y&&(iV p y&&s.1))&&decide ((bif (qc p y).isSome then s.2 else 5)=0),bif (qc p y).isSome then s.2 else 5,())) ?_ ?_ (true,0)).trans ?_
    ·intro again i s hi
     have hw:IntKind.wrap .i64 ((i:Int)+1)=((i+1:Nat):Int):=by rw[aA (by omega) (by omega)];rfl
     have h1:=Tc (l:=jW p i) (x:=y) (e:=s.2) (by rw[pQ];omega) (by rw[pQ];omega) (Gz hV hi) hX
     have h2:=PX (n:=0) (gA (wQ (l:=jW p i) (x:=y))) (by omega)
     rw[iK] at h2
     simp only[z7 (show (i:Int)<p.1.length by omega),cT,zw hV hi,h1,dk,jq,h2,aa,hw]
     cases decide (qq ((e9 (jW p i) y 0).getD 0) ((0:Int):Rat)<=0)<;>cases s.1<;>rfl
    ·intro again s
     have h1:=Su (l:=kp p) (x:=y) (e:=s.2) (by rw[lg];omega) (by rw[lg];omega) (y8 hV) hX
     simp only[z8 (show ¬ (p.1.length:Int)<p.1.length by omega),cF,zu hV,h1,aa,Gd hV hl]
     obtain ⟨n,hn⟩:∃n,(prQ ((e9 (kp p) y 0).getD 0)).1=n:=⟨_,rfl⟩
     simp only[Fc,qc,hn]
     by_cases c1:n>0
     ·simp only[z7 c1]
      cases iV p y<;>cases s.1<;>rfl
     ·simp only[z8 c1]
      cases iV p y<;>cases s.1<;>rfl
    ·rw[G1 (n:=p.1.length) (g:=fun j=>(e9 (jW p j) y 0).isSome) (h:=fun j=>decide (qq ((e9 (jW p j) y 0).getD 0) ((0:Int):Rat)<=0)) (fun _ _ _ _=>rfl) p.1.length 0 _ (by omega)]
     rw[show ((List.range' 0 p.1.length).all fun j=>(e9 (jW p j) y 0).isSome)=oI p y from rfl,show ((List.range' 0 p.1.length).all fun j=>decide (qq ((e9 (jW p j) y 0).getD 0) ((0:Int):Rat)<=0))=pX p y (fun _=>0) from rfl]
     unfold Di
     cases oI p y<;>cases (qc p y).isSome<;>cases Fc p y<;>cases iV p y<;>cases pX p y (fun _=>0)<;>rfl
   ·simp only[z8 hl,z8 (show ¬ (y.length:Int)=p.2.length by omega),Bool.not_false,cT,cF]
end
end Go.Proofs.YtegbncajloeepaaGreat

namespace Go.Proofs.YtegbncajloeepaaGreat
open Tryz Dn Dn.Sh
theorem DF {R:Type} {n:Nat} {g h:Nat->Bool} {f:Bool->Option R} {bad:Option R} {b:Nat->Bool->(Bool->Option R)->Option R}
  (hb:∀i s k,i<n->b i s k=bif g i then k (s&&h i) else bad):∀(k i:Nat) (s:Bool),i+k<=n ->
  upF b f k i s=bif (List.range' i k).all g then f (s&&(List.range' i k).all h) else bad
 | 0,i,s,_=>by simp[upF]
 | k+1,i,s,hi=>by
  simp only[upF,hb i s _ (by omega)]
  simp only[List.range'_succ,List.all_cons,<-Bool.and_assoc]
  cases g i with
  | false=>rfl
  | true =>
   rw[cT,DF hb k (i+1) _ (by omega),Bool.true_and]
theorem I9 {p:Pg} {y:List Fq} {most:List Int} (hv:ValidP p) (hy:∀a ∈ y,okF a) (hl:y.length=p.2.length) (hm:most.length=p.1.length) (hmb:∀n ∈ most,inC n=true) :
  fh p y most=bif oI p y then some (pX p y (fun j=>most.getD j 0),0,()) else some (false,5,()):=by
 unfold fh om
 have h6:=hv.rows
 have h7:=hv.cost.2
 refine (io (α:=Bool×Int×PUnit) p.1.length (by omega) (fun i (s:Bool)=>(s,(i:Int),PUnit.unit)) (fun j s k=>bif (e9 (jW p j) y 0).isSome then k (s&&decide (qq ((e9 (jW p j) y 0).getD 0) ((most.getD j 0:Int):Rat)<=0)) else some (false,5,()))
  (fun s=>some (s,0,())) ?_ ?_ true).trans ?_
 ·intro again i s hi
  have hw:IntKind.wrap .i64 ((i:Int)+1)=((i+1:Nat):Int):=by rw[aA (by omega) (by omega)];rfl
  have h1:=Hc (l:=jW p i) (x:=y) (by rw[pQ];omega) (by rw[pQ];omega) (fun n hn=>wJ (Gz hv hi n hn)) hy
  have hn:most.getD i 0 ∈ most:=by rw[aP (by omega)];exact List.getElem_mem _
  have h2:=G9 (gA (wQ (l:=jW p i) (x:=y))) (lq (wJ (hmb _ hn)).1 (wJ (hmb _ hn)).2)
  rw[iK,pU] at h2
  simp only[aH,z7 (show (i:Int)<most.length by omega),z7 (show i<most.length by omega),cT,Fe hv hi,h1,aa,hw,z9,qy]
  cases hs:e9 (jW p i) y 0 with
  | none=>rfl
  | some q =>
   rw[hs] at h2
   simp only[Option.getD_some] at h2
   cases s with
   | false=>rfl
   | true =>
    simp only[Jj,aa,cT,h2]
    rfl
 ·intro again s
  simp only[hm,z8 (show ¬ (p.1.length:Int)<p.1.length by omega),cF]
 ·rw[DF (n:=p.1.length) (g:=fun j=>(e9 (jW p j) y 0).isSome) (h:=fun j=>decide (qq ((e9 (jW p j) y 0).getD 0) ((most.getD j 0:Int):Rat)<=0)) (fun _ _ _ _=>rfl) p.1.length 0 _ (by omega)]
  rfl
theorem FSs {n j:Nat}:(List.replicate n (0:Int)).getD j 0=0:=by
 rw[List.getD_eq_getElem?_getD,List.getElem?_replicate]
 split<;>rfl
theorem C6 {p:Pg} {y:List Fq} (hV:ValidP p) (hX:∀a ∈ y,okF a) (hl:y.length=p.2.length):dE p y=some (bif oI p y&&(qc p y).isSome then (Di p y,0,()) else (false,5,())):=by
 have h6:=hV.rows
 have h7:=hV.cost.2
 have hb:=I9 (most:=List.replicate p.1.length 0) hV hX hl (by simp) (fun n hn=>by rw[List.eq_of_mem_replicate hn];decide)
 have hf:(fun j=>(List.replicate p.1.length (0:Int)).getD j 0)=fun _=>0:=funext fun _=>FSs
 rw[hf] at hb
 have hs:=Hc (l:=kp p) (x:=y) (by rw[lg];omega) (by rw[lg];omega) (fun n hn=>GV (y8 hV n hn)) hX
 simp only[dE,lV,z9,eK (show p.1.length*8<=140737488355328 by omega),z7 (show (0:Int)<=(p.1.length:Nat) by omega),Bool.and_self,cT,hb]
 cases oI p y with
 | false=>rfl
 | true =>
  simp only[cT,aa,decide_true,Bool.not_true,cF,F3 hV,hs,Bool.true_and]
  unfold Di Fc qc
  cases hq:e9 (kp p) y 0 with
  | none=>rfl
  | some q =>
   have hq':=si (by decide) hq
   have hg:=Gp (gA hq')
   rw[iK] at hg
   simp only[Jj,aa,decide_true,Bool.not_true,cF,Eb (gA hq'),iK,hg,Fz hV hX hl,Option.getD_some]
   obtain ⟨n,hn⟩:∃n,(prQ q).1=n:=⟨_,rfl⟩
   simp only[hn]
   by_cases c1:n<0
   ·rw[if_pos c1,z8 (show ¬ 0<n by omega)]
    cases pX p y (fun _=>0)<;>cases iV p y<;>rfl
   ·by_cases c2:n=0
    ·rw[if_neg c1,if_pos c2,z8 (show ¬ 0<n by omega)]
     cases pX p y (fun _=>0)<;>cases iV p y<;>rfl
    ·rw[if_neg c1,if_neg c2,z7 (show 0<n by omega)]
     cases pX p y (fun _=>0)<;>cases iV p y<;>rfl
def qi (x:Int):Bool×Int×Int:=(decide (x<0),hl x.natAbs)
theorem uv {x:Int} (h1: -9223372036854775808<=x) (h2:x<9223372036854775808):bV x=some (x.natAbs:Int):=ln h1 h2
theorem Ha {n:Nat}:(bif !decide ((hl n).1=0) then true else !decide ((hl n).2=0))=decide (n≠0):=by
 unfold hl
 simp only
 by_cases h:n=0
 ·subst h;rfl
 ·rw[z7 h]
  by_cases c1:((n / 18446744073709551616:Nat):Int)=0
  ·rw[z7 c1,z8 (show ¬ ((n % 18446744073709551616:Nat):Int)=0 by omega)];rfl
  ·rw[z8 c1];rfl
theorem Oi {a b:Int}:(bif !decide (decide (a<0)=decide (b<0)) then decide ((a.natAbs*b.natAbs)≠0) else false)=decide (a*b<0):=by
 by_cases ha:a<0
 ·by_cases hb:b<0
  ·have:=Int.mul_pos_of_neg_of_neg ha hb
   rw[z8 (show ¬ a*b<0 by omega)]
   simp[ha,hb]
  ·by_cases hb0:b=0
   ·subst hb0;simp
   ·have:=Int.mul_neg_of_neg_of_pos ha (show 0<b by omega)
    rw[z7 this,z7 (show a.natAbs*b.natAbs≠0 by rw[<-Int.natAbs_mul];omega)]
    simp[ha,hb]
 ·by_cases ha0:a=0
  ·subst ha0;simp
  ·by_cases hb:b<0
   ·have:=Int.mul_neg_of_pos_of_neg (show 0<a by omega) hb
    rw[z7 this,z7 (show a.natAbs*b.natAbs≠0 by rw[<-Int.natAbs_mul];omega)]
    simp[ha,hb]
   ·have:=Int.mul_nonneg (show 0<=a by omega) (show 0<=b by omega)
    rw[z8 (show ¬ a*b<0 by omega)]
    simp[ha,hb]
theorem sJ {a b:Int} (ha: -9223372036854775808<=a/\a<9223372036854775808) (hb: -9223372036854775808<=b/\b<9223372036854775808):bG a b=some (qi (a*b)):=by
 have e:(((a.natAbs:Nat):Int)*(b.natAbs:Int) / 18446744073709551616,((a.natAbs:Nat):Int)*(b.natAbs:Int) % 18446744073709551616,PUnit.unit)=((hl (a.natAbs*b.natAbs)).1,(hl (a.natAbs*b.natAbs)).2,PUnit.unit):=by
  rw[<-Int.natCast_mul];rfl
 simp only[bG,lU,uv ha.1 ha.2,uv hb.1 hb.2,aa]
 rw[Sf (by omega) (by omega) (by omega) (by omega),aa,e]
 have h1:=Ha (n:=a.natAbs*b.natAbs)
 have h2:=Oi (a:=a) (b:=b)
 rw[<-h1] at h2
 unfold qi
 rw[Int.natAbs_mul,<-h2]
 generalize hl (a.natAbs*b.natAbs)=p
 obtain ⟨c,hc⟩:∃c,(decide (decide (a<0)=decide (b<0)))=c:=⟨_,rfl⟩
 obtain ⟨c1,hc1⟩:∃c,decide (p.1=0)=c:=⟨_,rfl⟩
 simp only[hc,hc1]
 cases c<;>cases c1<;>rfl
theorem yt {s t:Bool} {m n:Nat}:ax (s,hl m) (t,hl n)=some (if m<n then -1 else if m=n then 0 else 1):=by
 simp only[ax,gu]
 have e1:(hl m).1=(hl n).1↔m / 18446744073709551616=n / 18446744073709551616:=by unfold hl;simp only;omega
 have e2:(hl m).1<(hl n).1↔m / 18446744073709551616<n / 18446744073709551616:=by unfold hl;simp only;omega
 have e3:(hl m).2=(hl n).2↔m % 18446744073709551616=n % 18446744073709551616:=by unfold hl;simp only;omega
 have e4:(hl m).2<(hl n).2↔m % 18446744073709551616<n % 18446744073709551616:=by unfold hl;simp only;omega
 rw[decide_eq_decide.2 e1,decide_eq_decide.2 e2,decide_eq_decide.2 e3,decide_eq_decide.2 e4]
 generalize q1:decide (m / 18446744073709551616=n / 18446744073709551616)=c1
 generalize q2:decide (m / 18446744073709551616<n / 18446744073709551616)=c2
 generalize q3:decide (m % 18446744073709551616=n % 18446744073709551616)=c3
 generalize q4:decide (m % 18446744073709551616<n % 18446744073709551616)=c4
 cases c1<;>cases c2<;>cases c3<;>cases c4<;>simp only[decide_eq_true_iff,decide_eq_false_iff_not] at q1 q2 q3 q4 <;>
  first
  | (exfalso;omega)
  | (rw[if_pos (show m<n by omega)];rfl)
  | (rw[if_neg (show ¬ m<n by omega),if_pos (show m=n by omega)];rfl)
  | (rw[if_neg (show ¬ m<n by omega),if_neg (show ¬ m=n by omega)];rfl)
theorem LI {x y:Int}:cA (qi x) (qi y)=some (if x<y then -1 else if x=y then 0 else 1):=by
 have key:∀{a b:Nat} (h1:a<b↔x<y) (h2:a=b↔x=y),(if a<b then (-1:Int) else if a=b then 0 else 1)=if x<y then -1 else if x=y then 0 else 1:=fun h1 h2=>by simp only[h1,h2]
 unfold qi
 simp only[cA,iO,yt,aa]
 by_cases hx:x<0
 ·by_cases hy:y<0
  ·rw[z7 hx,z7 hy,key (by omega) (by omega)]
   rfl
  ·rw[if_pos (show x<y by omega),z7 hx,z8 hy]
   rfl
 ·by_cases hy:y<0
  ·rw[if_neg (show ¬ x<y by omega),if_neg (show ¬ x=y by omega),z8 hx,z7 hy]
   rfl
  ·rw[z8 hx,z8 hy,key (a:=x.natAbs) (b:=y.natAbs) (by omega) (by omega)]
   rfl
theorem Qa {m n:Nat} (h:m+n<340282366920938463463374607431768211456):(yV (hl m).1 (hl n).1 (qt (hl m).2 (hl n).2 0),yV (hl m).2 (hl n).2 0)=hl (m+n):=by
 have h1:=Cp h
 have c1:(0:Int)<=qt (hl m).2 (hl n).2 0:=by rw[tY];omega
 have c2:qt (hl m).2 (hl n).2 0<=1:=by rw[tY];omega
 simp only[gj,mw,z7 c1,z7 c2] at h1
 exact Option.some.inj h1
theorem G0 {m n:Nat} (h:n<=m) (hm:m<340282366920938463463374607431768211456):(vA (hl m).1 (hl n).1 (oG (hl m).2 (hl n).2 0),vA (hl m).2 (hl n).2 0)=hl (m - n):=by
 have h1:=vc h hm
 have c1:(0:Int)<=oG (hl m).2 (hl n).2 0:=by rw[uT];omega
 have c2:oG (hl m).2 (hl n).2 0<=1:=by rw[uT];split<;>omega
 simp only[ff,ls,z7 c1,z7 c2] at h1
 exact Option.some.inj h1
theorem Ft {m n:Nat}:(decide ((0:Int)<=oG (hl m).2 (hl n).2 0)&&decide (oG (hl m).2 (hl n).2 0<=(1:Int)))=true:=by
 rw[z7 (show (0:Int)<=oG (hl m).2 (hl n).2 0 by rw[uT];omega),z7 (show oG (hl m).2 (hl n).2 0<=1 by rw[uT];split<;>omega)]
 rfl
theorem EH {m n:Nat}:(decide ((0:Int)<=qt (hl m).2 (hl n).2 0)&&decide (qt (hl m).2 (hl n).2 0<=(1:Int)))=true:=by
 rw[z7 (show (0:Int)<=qt (hl m).2 (hl n).2 0 by rw[tY];omega),z7 (show qt (hl m).2 (hl n).2 0<=1 by rw[tY];omega)]
 rfl
theorem H6 {x y:Int} (hx:x.natAbs<85070591730234615865843651857942052864) (hy:y.natAbs<85070591730234615865843651857942052864):bE (qi x) (qi y)=some (qi (x - y)):=by
 unfold qi
 simp only[bE,hO,yt,aa,sB,Ft,EH]
 by_cases hs:decide (x<0)=decide (y<0)
 ·
  rw[z7 hs]
  simp only[Bool.not_true,cF]
  by_cases hlt:x.natAbs<y.natAbs
  ·have h1:=G0 (m:=y.natAbs) (n:=x.natAbs) (by omega) (by omega)
   have h2:=congrArg Prod.fst h1
   have h3:=congrArg Prod.snd h1
   simp only at h2 h3
   rw[if_pos hlt]
   simp only[show decide ((-1:Int)<0)=true from rfl,cT,h2,h3]
   have h4:=Ha (n:=y.natAbs - x.natAbs)
   have e1:decide (x - y<0)=(bif !decide (x<0) then decide (y.natAbs - x.natAbs≠0) else false):=by
    rw[z7 (show y.natAbs - x.natAbs≠0 by omega)]
    by_cases c:x<0
    ·have c':y<0:=by rw[z7 c] at hs;exact z12 hs.symm
     rw[z7 c,z8 (show ¬ x - y<0 by omega)];rfl
    ·have c':¬ y<0:=by rw[z8 c] at hs;exact of_decide_eq_false hs.symm
     rw[z8 c,z7 (show x - y<0 by omega)];rfl
   have e2:(x - y).natAbs=y.natAbs - x.natAbs:=by
    by_cases c:x<0
    ·have c':y<0:=by rw[z7 c] at hs;exact z12 hs.symm
     omega
    ·have c':¬ y<0:=by rw[z8 c] at hs;exact of_decide_eq_false hs.symm
     omega
   rw[e1,e2,<-h4]
   generalize hl (y.natAbs - x.natAbs)=p
   obtain ⟨c,hc⟩:∃c,decide (p.1=0)=c:=⟨_,rfl⟩
   simp only[hc]
   cases decide (x<0)<;>cases c<;>rfl
  ·have h1:=G0 (m:=x.natAbs) (n:=y.natAbs) (by omega) (by omega)
   have h2:=congrArg Prod.fst h1
   have h3:=congrArg Prod.snd h1
   simp only at h2 h3
   have h0:¬ (if x.natAbs<y.natAbs then (-1:Int) else if x.natAbs=y.natAbs then 0 else 1)<0:=by
    rw[if_neg hlt]
    split<;>simp
   rw[z8 h0]
   simp only[cF,h2,h3]
   have h4:=Ha (n:=x.natAbs - y.natAbs)
   have e1:decide (x - y<0)=(bif decide (x<0) then decide (x.natAbs - y.natAbs≠0) else false):=by
    by_cases c:x<0
    ·have c':y<0:=by rw[z7 c] at hs;exact z12 hs.symm
     rw[z7 c,cond_true]
     exact decide_eq_decide.2 (by omega)
    ·have c':¬ y<0:=by rw[z8 c] at hs;exact of_decide_eq_false hs.symm
     rw[z8 c,z8 (show ¬ x - y<0 by omega)];rfl
   have e2:(x - y).natAbs=x.natAbs - y.natAbs:=by
    by_cases c:x<0
    ·have c':y<0:=by rw[z7 c] at hs;exact z12 hs.symm
     omega
    ·have c':¬ y<0:=by rw[z8 c] at hs;exact of_decide_eq_false hs.symm
     omega
   rw[e1,e2,<-h4]
   generalize hl (x.natAbs - y.natAbs)=p
   obtain ⟨c,hc⟩:∃c,decide (p.1=0)=c:=⟨_,rfl⟩
   simp only[hc]
   cases decide (x<0)<;>cases c<;>rfl
 ·rw[z8 hs]
  have h1:=Qa (m:=x.natAbs) (n:=y.natAbs) (by omega)
  have h2:=congrArg Prod.fst h1
  have h3:=congrArg Prod.snd h1
  simp only at h2 h3
  simp only[Bool.not_false,cT,h2,h3]
  have h4:=Ha (n:=y.natAbs)
  by_cases c:x<0
  ·have c':¬ y<0:=fun c'=>hs (by rw[z7 c,z7 c'])
   rw[z7 c,z8 c',z7 (show x - y<0 by omega),show (x - y).natAbs=x.natAbs+y.natAbs by omega]
   generalize hl y.natAbs=p
   obtain ⟨d,hd⟩:∃d,decide (p.1=0)=d:=⟨_,rfl⟩
   simp only[hd]
   cases d<;>rfl
  ·have c':y<0:=by
    apply Classical.byContradiction
    intro c'
    exact hs (by rw[z8 c,z8 c'])
   rw[z8 c,z7 c',z8 (show ¬ x - y<0 by omega),show (x - y).natAbs=x.natAbs+y.natAbs by omega]
   generalize hl y.natAbs=p
   obtain ⟨d,hd⟩:∃d,decide (p.1=0)=d:=⟨_,rfl⟩
   simp only[hd]
   cases d<;>rfl
theorem Oo {d q:Int} (hd:0<d) (hd2:d<9223372036854775808) (hq:q.natAbs<9223372036854775808):bQ (qi (d*q)) d=some q:=by
 unfold qi
 simp only[bQ,im]
 have e:(d*q).natAbs=d.natAbs*q.natAbs:=Int.natAbs_mul _ _
 have hdn:(d.natAbs:Int)=d:=by omega
 have h1:(d*q).natAbs / 18446744073709551616<d.natAbs:=by
  rw[e]
  refine (Nat.div_lt_iff_lt_mul (by omega)).2 ?_
  exact Nat.mul_lt_mul_of_pos_left (by omega) (by omega)
 have h2:=DN (h:=(d*q).natAbs / 18446744073709551616) (l:=(d*q).natAbs % 18446744073709551616) (y:=d.natAbs) h1 (by omega) (by omega)
 have h3:(d*q).natAbs / 18446744073709551616*18446744073709551616+(d*q).natAbs % 18446744073709551616=(d*q).natAbs:=by omega
 rw[h3,e,Nat.mul_div_cancel_left _ (by omega)] at h2
 have h4:IntKind.wrap .u64 d=(d.natAbs:Int):=by rw[a7 (by omega) (by omega)];omega
 rw[h4]
 unfold hl
 simp only
 rw[e,h2,aa]
 simp only
 rw[aA (x:=(q.natAbs:Int)) (by omega) (by omega)]
 by_cases c:q<0
 ·rw[z7 (show d*q<0 from Int.mul_neg_of_pos_of_neg hd c),cond_true,aA (by omega) (by omega)]
  congr 1
  omega
 ·rw[z8 (show ¬ d*q<0 by have:=Int.mul_nonneg (show 0<=d by omega) (show 0<=q by omega);omega),cond_false]
  congr 1
  omega
theorem aX {i:Nat} (h:i<=1000000):IntKind.wrap .i64 ((i:Int)+1)=((i+1:Nat):Int):=by rw[aA (by omega) (by omega)];rfl
def mid (T:Nat->Nat->Int) (d:Int) (r c i j:Nat):Nat->Nat->Int:=fun k l=>if k≠r/\(k<i\/(k=i/\l<j)) then piv T d r c k l else T k l
theorem Qo {T:Nat->Nat->Int} {d:Int} {r c i j l:Nat}:mid T d r c i j r l=T r l:=if_neg fun h=>h.1 rfl
theorem Da {T:Nat->Nat->Int} {d:Int} {r c i j l:Nat} (h:j<=l):mid T d r c i j i l=T i l:=by
 unfold mid
 rw[if_neg fun h=>by omega]
theorem Js {T:Nat->Nat->Int} {d:Int} {r c k l:Nat}:T k l=mid T d r c 0 0 k l:=by
 unfold mid
 rw[if_neg fun h=>by omega]
def Bd (T:Nat->Nat->Int) (i j:Nat):Nat->Nat->Int:=fun k l=>if k<i\/(k=i/\l<j) then - T k l else T k l
theorem Ir {T:Nat->Nat->Int} {i j l:Nat} (h:j<=l):Bd T i j i l=T i l:=by
 unfold Bd
 rw[if_neg fun h=>by omega]
theorem II {T:Nat->Nat->Int} {k l:Nat}:T k l=Bd T 0 0 k l:=by
 unfold Bd
 rw[if_neg fun h=>by omega]
theorem j4 {m w:Nat} {T:Nat->Nat->Int}:(i7 m w T).2=dY m w T:=rfl
theorem Hu {m w:Nat} {T T':Nat->Nat->Int} {i j:Nat} {x:Int} (hi:i<m) (hj:j<w) (h:∀k l,k<m->l<w->(if k=i/\l=j then x else T k l)=T' k l) :
  ((i7 m w T).1,(dY m w T).set i (some ((bj w (T i)).set j x)))=i7 m w T':=by
 rw[D8 hi hj,jb h]
 rfl
structure PivOk (m w:Nat) (T:Nat->Nat->Int) (d:Int) (r c:Nat):Prop where
 hm:m<=1000
 hw:w<=1000
 hr:r<m
 hc:c<w
 hd:0<d/\d<4611686018427387904
 b:∀i j,i<m->j<w->(T i j).natAbs<4611686018427387904
 q:∀i j,i<m->i≠r->j<w->d*piv T d r c i j=T r c*T i j - T i c*T r j
 qb:∀i j,i<m->i≠r->j<w->(piv T d r c i j).natAbs<4611686018427387904
theorem jU {x:Int} (h:x.natAbs<4611686018427387904): -9223372036854775808<=x/\x<9223372036854775808:=by omega
theorem Cv {x y:Int} (hx:x.natAbs<4611686018427387904) (hy:y.natAbs<4611686018427387904):(x*y).natAbs<85070591730234615865843651857942052864:=by
 rw[Int.natAbs_mul]
 exact Nat.lt_of_le_of_lt (Nat.mul_le_mul (Nat.le_of_lt_succ (n:=4611686018427387903) hx) (Nat.le_of_lt_succ (n:=4611686018427387903) hy)) (by decide)
theorem yc {m w:Nat} {T:Nat->Nat->Int} {d:Int} {β:Nat->Nat} {r c:Nat} {x3 x4:List Int} {x5 x6:Int} (h:PivOk m w T d r c) :
  aL (i7 m w T) d (jA m β) x3 x4 x5 x6 (r:Int) (c:Int)=some (i7 m w (oi T d r c),sg (T r c)*T r c,jA m (upd β r c),x3,x4,x5,x6,()):=by
 obtain ⟨hm,hw,hr,hc,hd,hb,hq,hqb⟩:=h
 unfold aL iQ
 simp only[ic,ly hr,j4,gY hr,ay,bC hc,aH,z9,z7 hr,z7 hc,dK (show Nat.succ r<=m from hr),dK (show Nat.succ c<=w from hc),cT,J5 hr,jt]
 refine bR m (by omega) (fun i=>((i:Int),i7 m w (mid T d r c i 0),PUnit.unit)) _ (by rw[jK fun k l _ _=>Js];rfl) (fun again i hi=>?_) (fun again=>?_)
 ·simp only[ic,ly hi,j4,gY hi,ay,bC hc,aH,z9,z7 hi,z7 hc,z7 (show (i:Int)<m by omega),dK (show Nat.succ i<=m from hi),dK (show Nat.succ c<=w from hc),cT,vD hi,aX (show i<=1000000 by omega)]
  by_cases e:i=r
  ·rw[z7 (show (i:Int)=r by omega),cond_true]
   congr 3
   refine jK fun k l _ _=>?_
   unfold mid
   by_cases c1:k≠r/\(k<i\/(k=i/\l<0))
   ·rw[if_pos c1,if_pos (by omega)]
   ·rw[if_neg c1,if_neg (by omega)]
  ·rw[z8 (show ¬ (i:Int)=r by omega),cond_false]
   refine qd w (by omega) (fun j=>((j:Int),i7 m w (mid T d r c i j),PUnit.unit)) _ (fun again2 j hj=>?_) (fun again2=>?_)
   ·have t1:=sJ (jU (hb i j hi hj)) (jU (hb r c hr hc))
    have t2:=sJ (jU (hb i c hi hc)) (jU (hb r j hr hj))
    have t3:=H6 (Cv (hb i j hi hj) (hb r c hr hc)) (Cv (hb i c hi hc) (hb r j hr hj))
    have t4:bQ (qi (T i j*T r c - T i c*T r j)) d=some (piv T d r c i j):=by
     rw[Int.mul_comm (T i j),<-hq i j hi e hj]
     exact Oo hd.1 (by omega) (by have:=hqb i j hi e hj;omega)
    simp only[ic,ly hr,j4,gY hi,gY hr,ay,bC hj,aH,z9,z7 hj,z7 hr,z7 (show (j:Int)<w by omega),
     dK (show Nat.succ j<=w from hj),dK (show Nat.succ r<=m from hr),cT,Qo,Da (Nat.le_refl j),Da (Nat.zero_le c),t1,t2,t3,t4,aa,aX (show j<=1000000 by omega)]
    congr 3
    refine Hu hi hj fun k l hk hl=>?_
    unfold mid
    by_cases c0:k=i/\l=j
    ·rw[if_pos c0,if_pos (by omega),c0.1,c0.2]
    ·rw[if_neg c0]
     by_cases c1:k≠r/\(k<i\/(k=i/\l<j))
     ·rw[if_pos c1,if_pos (by omega)]
     ·rw[if_neg c1,if_neg (by omega)]
   ·simp only[j4,gY hi,ay,z8 (show ¬ (w:Int)<w by omega),cF]
    congr 3
    refine jK fun k l hk hl=>?_
    unfold mid
    by_cases c1:k≠r/\(k<i\/(k=i/\l<w))
    ·rw[if_pos c1,if_pos (by omega)]
    ·rw[if_neg c1,if_neg (by omega)]
 ·simp only[ic,z8 (show ¬ (m:Int)<m by omega),cF]
  by_cases hneg:T r c<0
  ·rw[z7 hneg,cond_true]
   refine bR m (by omega) (fun i=>((i:Int),i7 m w (Bd (mid T d r c m 0) i 0),PUnit.unit)) _ (by rw[jK fun k l _ _=>II];rfl) (fun again i hi=>?_) (fun again=>?_)
   ·simp only[ic,ly hi,j4,gY hi,ay,aH,z9,z7 hi,z7 (show (i:Int)<m by omega),dK (show Nat.succ i<=m from hi),cT,vD hi,aX (show i<=1000000 by omega)]
    refine qd w (by omega) (fun j=>((j:Int),i7 m w (Bd (mid T d r c m 0) i j),PUnit.unit)) _ (fun again2 j hj=>?_) (fun again2=>?_)
    ·have hbb:(mid T d r c m 0 i j).natAbs<4611686018427387904:=by
      unfold mid
      split
      ·rename_i hh;exact hqb i j hi hh.1 hj
      ·exact hb i j hi hj
     simp only[j4,gY hi,ay,bC hj,aH,z9,z7 hj,z7 (show (j:Int)<w by omega),
      dK (show Nat.succ j<=w from hj),cT,Ir (Nat.le_refl j),aX (show j<=1000000 by omega),aA (show -9223372036854775808<=0 - mid T d r c m 0 i j by omega) (by omega)]
     congr 3
     refine Hu hi hj fun k l hk hl=>?_
     unfold Bd
     by_cases c0:k=i/\l=j
     ·rw[if_pos c0,if_pos (by omega),c0.1,c0.2]
      omega
     ·rw[if_neg c0]
      by_cases c1:k<i\/(k=i/\l<j)
      ·rw[if_pos c1,if_pos (by omega)]
      ·rw[if_neg c1,if_neg (by omega)]
    ·simp only[j4,gY hi,ay,z8 (show ¬ (w:Int)<w by omega),cF]
     congr 3
     refine jK fun k l hk hl=>?_
     unfold Bd
     by_cases c1:k<i\/(k=i/\l<w)
     ·rw[if_pos c1,if_pos (by omega)]
     ·rw[if_neg c1,if_neg (by omega)]
   ·have hrc:=hb r c hr hc
    simp only[ic,z8 (show ¬ (m:Int)<m by omega),cF,aA (show -9223372036854775808<=0 - T r c by omega) (by omega)]
    have e1:sg (T r c)= -1:=by unfold sg;rw[if_pos hneg]
    congr 2
    ·refine jK fun k l hk hl=>?_
     unfold Bd mid oi
     rw[if_pos (by omega),e1]
     by_cases c0:k=r
     ·rw[if_neg (by omega),if_pos c0,c0];omega
     ·rw[if_pos (by omega),if_neg c0];omega
    ·rw[e1]
     congr 1
     omega
  ·rw[z8 hneg,cond_false]
   have e1:sg (T r c)=1:=by unfold sg;rw[if_neg hneg]
   congr 2
   ·refine jK fun k l hk hl=>?_
    unfold mid oi
    rw[e1,Int.one_mul]
    by_cases c0:k=r
    ·rw[if_neg (by omega),if_pos c0,c0]
    ·rw[if_pos (by omega),if_neg c0]
   ·rw[e1,Int.one_mul]
theorem tU {x y z p q r:Int} (hp:0<p) (hq:0<q) (hr:0<r) (h1:x*q<=y*p) (h2:y*r<=z*q):x*r<=z*p:=by
 refine zL hq ?_
 have a1:=z11 h1 (Int.le_of_lt hr)
 have a2:=z11 h2 (Int.le_of_lt hp)
 calc q*(x*r)=x*q*r:=by grind
  _<=y*p*r:=a1
  _=y*r*p:=by grind
  _<=z*q*p:=a2
  _=q*(z*p):=by grind
theorem Nj {x y z p q r:Int} (hp:0<p) (hq:0<q) (hr:0<r) (h1:x*q<=y*p) (h2:y*r<=z*q) (h:x*r=z*p):x*q=y*p/\y*r=z*q:=by
 have h3:=tU hq hr hp h2 (by rw[h];exact Int.le_refl _)
 have h4:=tU (x:=z) (y:=x) (z:=y) (p:=r) (q:=p) (r:=q) hr hp hq (by rw[h];exact Int.le_refl _) h1
 exact ⟨Int.le_antisymm h1 h3,Int.le_antisymm h2 h4⟩
theorem yI {m w:Nat} {T:Nat->Nat->Int} {d:Int} {β:Nat->Nat} {c R:Nat} {x1:Int} {x3 x4:List Int} {x5:Int} (hm:m<=1000) (hc:c<w) (hR:R<w) (hb:∀i j,i<m->j<w->(T i j).natAbs<4611686018427387904) :
  ∃b,aF (qP m w T,x1,jA m β,x3,x4,x5,(R:Int)) (c:Int)=some b/\((b= -1/\∀i,i<m->T i c<=0)\/∃r:Nat,b=r/\Dn.Leaves m R ⟨T,d,β⟩ c r):=by
 unfold aF gX
 refine SO (fun (x:Int×Int×PUnit)=>∃i:Nat,i<=m/\x.2.1=i/\((x.1= -1/\∀k,k<i->T k c<=0)\/∃r:Nat,x.1=r/\Dn.Leaves i R ⟨T,d,β⟩ c r)) _ (fun x=>((m:Int) - x.2.1).toNat) ?_ ⟨0,by omega,rfl,.inl ⟨rfl,fun k hk=>by omega⟩⟩ (by simp only;omega)
 rintro ⟨b,_,_⟩ ⟨i,hi,rfl,hI⟩
 simp only at hI
 by_cases hlt:i<m
 ·have gR:=kB (w:=w) (T:=T) hlt
  have ext:∀r,Dn.Leaves i R ⟨T,d,β⟩ c r->(0<T i c->T r R*T i c<=T i R*T r c/\(T r R*T i c=T i R*T r c->β r<=β i))->Dn.Leaves (i+1) R ⟨T,d,β⟩ c r:=fun r h hn=>by
   refine ⟨by have:=h.lt;omega,h.pos,fun k hk hp=>?_,fun k hk hp he=>?_⟩
   ·by_cases e:k=i
    ·subst e;exact (hn hp).1
    ·exact h.le k (by omega) hp
   ·by_cases e:k=i
    ·subst e;exact (hn hp).2 he
    ·exact h.tie k (by omega) hp he
  right
  by_cases hpos:T i c<=0
  ·refine ⟨(b,((i+1:Nat):Int),PUnit.unit),⟨i+1,by omega,rfl,?_⟩,by simp only;omega,fun rec=>?_⟩
   ·rcases hI with ⟨h1,h2⟩ | ⟨r,h1,h2⟩
    ·exact .inl ⟨h1,fun k hk=>by
      by_cases e:k=i
      ·rw[e];exact hpos
      ·exact h2 k (by omega)⟩
    ·exact .inr ⟨r,h1,ext r h2 fun h=>by omega⟩
   ·simp only[fQ,aH,z9,z7 hlt,z7 (show (i:Int)<m by omega),gR,ay,bC hc,z7 hc,z7 hpos,cT,aX (show i<=1000000 by omega)]
  ·rcases hI with ⟨h1,h2⟩ | ⟨r,h1,h2⟩
   ·refine ⟨((i:Int),((i+1:Nat):Int),PUnit.unit),⟨i+1,by omega,rfl,.inr ⟨i,rfl,⟨by omega,show 0<T i c by omega,fun k hk hp=>?_,fun k hk hp _=>?_⟩⟩⟩,by simp only;omega,fun rec=>?_⟩
    ·by_cases e:k=i
     ·subst e;exact Int.le_refl _
     ·have h3:=h2 k (by omega)
      have hp:0<T k c:=hp
      omega
    ·by_cases e:k=i
     ·subst e;exact Nat.le_refl _
     ·have h3:=h2 k (by omega)
      have hp:0<T k c:=hp
      omega
    ·simp only[fQ,aH,z9,z7 hlt,z7 (show (i:Int)<m by omega),gR,ay,bC hc,z7 hc,z8 hpos,z7 (show b<0 by omega),cT,cF,aX (show i<=1000000 by omega)]
   ·subst h1
    have hr:r<m:=by have:=h2.lt;omega
    have gr:=kB (w:=w) (T:=T) hr
    have t1:=sJ (jU (hb i R hlt hR)) (jU (hb r c hr hc))
    have t2:=sJ (jU (hb r R hr hR)) (jU (hb i c hlt hc))
    have hpr:0<T r c:=h2.pos
    refine ⟨(if T i R*T r c<T r R*T i c\/(T i R*T r c=T r R*T i c/\β i<β r) then (i:Int) else (r:Int),((i+1:Nat):Int),PUnit.unit),⟨i+1,by omega,rfl,.inr ?_⟩,by simp only;omega,fun rec=>?_⟩
    ·simp only
     by_cases hq:T i R*T r c<T r R*T i c\/(T i R*T r c=T r R*T i c/\β i<β r)
     ·rw[if_pos hq]
      have hle:T i R*T r c<=T r R*T i c:=by rcases hq with h | h<;>omega
      have hpi:0<T i c:=by omega
      refine ⟨i,rfl,⟨by omega,hpi,fun k hk hp=>?_,fun k hk hp he=>?_⟩⟩
      ·have hp:0<T k c:=hp
       by_cases e:k=i
       ·subst e;exact Int.le_refl _
       ·exact tU hpi hpr hp hle (h2.le k (by omega) hp)
      ·have hp:0<T k c:=hp
       have he:T i R*T k c=T k R*T i c:=he
       by_cases e:k=i
       ·subst e;exact Nat.le_refl _
       ·obtain ⟨e1,e2⟩:=Nj hpi hpr hp hle (h2.le k (by omega) hp) he
        have h3:β r<=β k:=h2.tie k (by omega) hp e2
        show β i<=β k
        rcases hq with h | h<;>omega
     ·rw[if_neg hq]
      have h3:=fun h=>hq (.inl h)
      refine ⟨r,rfl,ext r h2 fun hp=>⟨by omega,fun he=>?_⟩⟩
      have h4:=fun h=>hq (.inr ⟨he.symm,h⟩)
      omega
    ·simp only[fQ,aH,z9,z7 hlt,z7 hr,z7 (show (i:Int)<m by omega),gR,gr,ay,bC hc,bC hR,z7 hc,z7 hR,z8 hpos,z8 (show ¬ (r:Int)<0 by omega),cT,cF,aX (show i<=1000000 by omega),
      t1,t2,aa,LI,jt,jZ hlt,jZ hr]
     by_cases c1:T i R*T r c<T r R*T i c
     ·rw[if_pos c1,if_pos (.inl c1)]
      generalize decide ((β i:Int)<β r)=bb
      cases bb<;>rfl
     ·by_cases c2:T i R*T r c=T r R*T i c
      ·rw[if_neg c1,if_pos c2]
       by_cases c3:β i<β r
       ·rw[if_pos (.inr ⟨c2,c3⟩),z7 (show (β i:Int)<β r by omega)]
        rfl
       ·rw[if_neg (by rintro (h | h)<;>omega),z8 (show ¬ (β i:Int)<β r by omega)]
        rfl
      ·rw[if_neg c1,if_neg c2,if_neg (by rintro (h | h)<;>omega)]
       generalize decide ((β i:Int)<β r)=bb
       cases bb<;>rfl
 ·left
  have e:i=m:=by omega
  subst e
  refine ⟨b,hI,fun rec=>?_⟩
  simp only[fQ,z8 (show ¬ (i:Int)<i by omega),cF]
theorem ju {n:Nat} {f:Nat->Int} {B:Int} (h:∀i,i<n-> -B<=f i/\f i<=B): -(n*B)<=sz n f/\sz n f<=n*B:=by
 induction n with
 | zero=>simp[sz]
 | succ n ih =>
  have h1:=ih fun i hi=>h i (by omega)
  have h2:=h n (by omega)
  simp only[sz]
  rw[show ((n+1:Nat):Int)*B=n*B+B by rw[show ((n+1:Nat):Int)=(n:Int)+1 by omega,Int.add_mul,Int.one_mul]]
  omega
theorem s7 {m w:Nat} {T:Nat->Nat->Int} {β:Nat->Nat} {N j:Nat} {x1 x6:Int} {x3 x4:List Int} (hm:m<=1000) (hj:j<w) (hb:∀i,i<m-> -1125899906842624<=T i j/\T i j<=1125899906842624) :
  av (qP m w T,x1,jA m β,x3,x4,(N:Int),x6) (j:Int)=some (sz m fun i=>eG N (β i)*T i j):=by
 unfold av gk
 have hterm:∀i,i<m-> -1125899906842624<=eG N (β i)*T i j/\eG N (β i)*T i j<=1125899906842624:=fun i hi=>by
  have:=hb i hi
  unfold eG
  split<;>omega
 refine qd m (by omega) (fun i=>(sz i (fun k=>eG N (β k)*T k j),(i:Int),PUnit.unit)) _ (fun again i hi=>?_) (fun again=>?_)
 ·have h1:=ju (n:=i) (f:=fun k=>eG N (β k)*T k j) (B:=1125899906842624) fun k hk=>hterm k (by omega)
  have h2:=hterm i hi
  have hi2:(i:Int)<=1000:=by omega
  have h3:(i:Int)*1125899906842624<=1000*1125899906842624:=z11 hi2 (by omega)
  simp only[fQ,jt,aH,z9,z7 hi,z7 (show (i:Int)<m by omega),kB hi,jZ hi,ay,bC hj,z7 hj,cT,aX (show i<=1000000 by omega)]
  have hT:=hb i hi
  by_cases e:N<=β i
  ·have e1:eG N (β i)*T i j=T i j:=by unfold eG;rw[if_pos e];omega
   rw[z7 (show (β i:Int)>=N by omega),cond_true,aA (by omega) (by omega)]
   simp only[sz,e1]
  ·have e1:eG N (β i)*T i j=0:=by unfold eG;rw[if_neg e];omega
   rw[z8 (show ¬ (β i:Int)>=N by omega),cond_false]
   simp only[sz,e1,Int.add_zero]
 ·simp only[fQ,z8 (show ¬ (m:Int)<m by omega),cF]
def jO (cs:List Int) (j:Nat):Int:=cs.getD j 0
theorem wN {M:List (List Int)} {x1:Int} {x2 x3 cs:List Int} {x5 x6:Int} {j:Nat}:aN (M,x1,x2,x3,cs,x5,x6) (j:Int)=some (jO cs j):=by
 unfold jO
 simp only[aN,iZ,aH,z9]
 by_cases h:j<cs.length
 ·rw[z7 h,z7 (show (j:Int)<cs.length by omega)];rfl
 ·rw[z8 (show ¬ (j:Int)<cs.length by omega),cond_false,List.getD_eq_getElem?_getD,List.getElem?_eq_none (by omega)];rfl
theorem ER {m w:Nat} {T:Nat->Nat->Int} {d:Int} {β:Nat->Nat} {j:Nat} {x3 cs:List Int} {x5 x6:Int} (hm:m<=1000) (hj:j<w) (hd: -1125899906842624<=jO cs j*d/\jO cs j*d<=1125899906842624)
  (hb:∀i,i<m-> -1125899906842624<=jO cs (β i)*T i j/\jO cs (β i)*T i j<=1125899906842624) :
  bK (qP m w T,d,jA m β,x3,cs,x5,x6) (j:Int)=some (zr m (jO cs) ⟨T,d,β⟩ j):=by
 unfold bK gZ
 rw[wN,obN]
 refine bR m (by omega) (fun i=>(jO cs j*d - sz i (fun k=>jO cs (β k)*T k j),(i:Int),PUnit.unit)) _ ?_ (fun again i hi=>?_) (fun again=>?_)
 ·simp only[sz,Int.sub_zero]
  rw[aA (by omega) (by omega)]
  rfl
 ·have h1:=ju (n:=i) (f:=fun k=>jO cs (β k)*T k j) (B:=1125899906842624) fun k hk=>hb k (by omega)
  have h2:=hb i hi
  have hi2:(i:Int)<=1000:=by omega
  have h3:(i:Int)*1125899906842624<=1000*1125899906842624:=z11 hi2 (by omega)
  simp only[fQ,jt,aH,z9,z7 hi,z7 (show (i:Int)<m by omega),kB hi,jZ hi,ay,bC hj,z7 hj,cT,aX (show i<=1000000 by omega),wN,aa]
  rw[aA (x:=jO cs (β i)*T i j) (by omega) (by omega),aA (by omega) (by omega)]
  simp only[sz]
  congr 2
  omega
 ·simp only[fQ,z8 (show ¬ (m:Int)<m by omega),cF]
  rfl
structure Bnd (L:Lin) (Y:Lay):Prop where
 ok:Y.ok L
 m:L.m<=12
 w:Y.w L<=64
 P:L.F0*L.P<=17592186044416
theorem qF {x:Int}:ab x=x.natAbs:=rfl
section
variable {L:Lin} {Y:Lay}
theorem Bnd.P' (h:Bnd L Y):L.P<=17592186044416:=by
 have h1:=L.F0_pos
 have h2:=L.P_pos
 have h3:1*L.P<=L.F0*L.P:=z11 h1 (by omega)
 have:=h.P
 omega
theorem Bnd.tab (h:Bnd L Y) {T:Nat->Nat->Int} {d:Int} {β:Nat->Nat} (ht:Tb L.m (Y.w L) (Y.M L) T d β):(0<d/\d<=17592186044416)/\∀i j,i<L.m->j<Y.w L->(T i j).natAbs<=17592186044416:=by
 obtain ⟨h1,h2⟩:=qM h.ok ht
 have h3:=h.P'
 refine ⟨⟨ht.dpos,by omega⟩,fun i j hi hj=>?_⟩
 have:=h2 i j hi hj
 rw[qF] at this
 omega
theorem JD (j:Nat):(ca L j).natAbs<=L.F0 - 1:=by
 unfold ca Lin.F0
 have h0:0<=sz L.n fun j=>ab (L.c j):=iE fun j _=>bF _
 split
 ·rename_i hj
  have h1:(sz L.n fun i=>if i=j then ab (L.c j) else 0)<=sz L.n fun j=>ab (L.c j):=oO fun i _=>by
   by_cases e:i=j
   ·rw[if_pos e,e];exact Int.le_refl _
   ·rw[if_neg e];exact bF _
  rw[fy hj fun i _ hne=>if_neg hne,if_pos rfl,qF] at h1
  omega
 ·simp only[Int.natAbs_zero]
  omega
theorem Bnd.cost (h:Bnd L Y) {x:Int} (hx:(x.natAbs:Int)<=L.P) (j:Nat): -17592186044416<=ca L j*x/\ca L j*x<=17592186044416:=by
 have h1:=JD (L:=L) j
 have h2:((ca L j*x).natAbs:Int)<=L.F0*L.P:=by
  rw[Int.natAbs_mul,Int.natCast_mul]
  refine Int.le_trans (Int.mul_le_mul (show ((ca L j).natAbs:Int)<=L.F0 by omega) hx (by omega) (by omega)) (Int.le_refl _)
 have:=h.P
 omega
theorem Bnd.tabP (h:Bnd L Y) {T:Nat->Nat->Int} {d:Int} {β:Nat->Nat} (ht:Tb L.m (Y.w L) (Y.M L) T d β):(d.natAbs:Int)<=L.P/\∀i j,i<L.m->j<Y.w L->((T i j).natAbs:Int)<=L.P:=by
 obtain ⟨h1,h2⟩:=qM h.ok ht
 have:=ht.dpos
 exact ⟨by omega,fun i j hi hj=>h2 i j hi hj⟩
theorem Tn (x:Int) (y:Int):(sg x*y).natAbs=y.natAbs:=by unfold sg;split<;>omega
theorem Bnd.piv (h:Bnd L Y) {T:Nat->Nat->Int} {d:Int} {β:Nat->Nat} (ht:Tb L.m (Y.w L) (Y.M L) T d β) {r c:Nat} (hr:r<L.m) (hc:c<Y.w L) (he:T r c≠0):PivOk L.m (Y.w L) T d r c:=by
 obtain ⟨h1,h2⟩:=h.tab ht
 obtain ⟨h3,h4⟩:=h.tab (ht.step hr hc he)
 have:=h.m
 have:=h.w
 refine ⟨by omega,by omega,hr,hc,by omega,fun i j hi hj=>by have:=h2 i j hi hj;omega,fun i j hi hne hj=>jR ht hr hi (Ne.symm hne) hc hj,fun i j hi hne hj=>?_⟩
 have h5:=h4 i j hi hj
 unfold oi at h5
 rw[if_neg hne,Tn] at h5
 omega
def AZ (L:Lin) (Y:Lay) (S:Sx):Prop:=∀i,i<L.m->Y.N<=S.β i->(∀j,j<Y.N->S.T i j=0)/\S.T i (Y.R L)=0
theorem AZ.art (S:Sx) (h:AZ L Y S):C9 L.m Y.N S (Y.R L):=fun i hi hN=>(h i hi hN).2
theorem AZ.col (S:Sx) (h:AZ L Y S) {q:Nat} (hq:q<Y.N):C9 L.m Y.N S q:=fun i hi hN=>(h i hi hN).1 q hq
def mf (S:Sx) (r c:Nat):Sx:=⟨oi S.T S.d r c,sg (S.T r c)*S.T r c,upd S.β r c⟩
theorem D9 {m w:Nat} {S:Sx} {r c:Nat} (hp:0<S.T r c):StepAt m w S (mf S r c) r c:=by
 have e:sg (S.T r c)=1:=by unfold sg;rw[if_neg (by omega)]
 refine ⟨fun i j _ _=>?_,?_,fun i _=>rfl⟩
 ·show oi S.T S.d r c i j=_
  unfold oi
  rw[e,Int.one_mul]
 ·show sg (S.T r c)*S.T r c=_
  rw[e,Int.one_mul]
theorem AZ.step {S:Sx} (h:AZ L Y S) {r c:Nat} (hc:c<Y.N):AZ L Y (mf S r c):=fun i hi hN=>by
 have hb:(mf S r c).β i=upd S.β r c i:=rfl
 rw[hb] at hN
 unfold upd at hN
 by_cases e:i=r
 ·rw[if_pos e] at hN;omega
 ·rw[if_neg e] at hN
  obtain ⟨h1,h2⟩:=h i hi hN
  have hT:∀j,(mf S r c).T i j=sg (S.T r c)*Dn.piv S.T S.d r c i j:=fun j=>by
   show oi S.T S.d r c i j=_
   unfold oi
   rw[if_neg e]
  have hz:∀j,S.T i j=0->Dn.piv S.T S.d r c i j=0:=fun j hj=>by
   unfold Dn.piv
   rw[hj,h1 c hc,Int.mul_zero,Int.zero_mul,Int.sub_zero,Int.zero_ediv]
  exact ⟨fun j hj=>by rw[hT,hz j (h1 j hj),Int.mul_zero],by rw[hT,hz _ h2,Int.mul_zero]⟩
abbrev nY (L:Lin) (Y:Lay) (x3 cs:List Int) (S:Sx):(List Nat×List (Option (List Int)))×Int×List Int×List Int×List Int×Int×Int×PUnit:=(i7 L.m (Y.w L) S.T,S.d,jA L.m S.β,x3,cs,(Y.N:Int),((Y.R L:Nat):Int),PUnit.unit)
theorem Ev (h:Bnd L Y) (hp:(Y.w L) ^ L.m<=1180591620717411303424) {x3 cs:List Int} (hcs:∀j,jO cs j=ca L j) {S:Sx} (hv:Y.Val L S) (ha:AZ L Y S) :
  ∃S' ok,bD (i7 L.m (Y.w L) S.T) S.d (jA L.m S.β) x3 cs (Y.N:Int) ((Y.R L:Nat):Int)=some (i7 L.m (Y.w L) S'.T,S'.d,jA L.m S'.β,x3,cs,(Y.N:Int),((Y.R L:Nat):Int),ok,())/\Y.Val L S'/\AZ L Y S' /\
   (ok=true->∀j,j<Y.N->0<=zr L.m (ca L) S' j)/\(ok=false->∃q,q<Y.N/\zr L.m (ca L) S' q<0/\∀i,i<L.m->S'.T i q<=0):=by
 have hcs':jO cs=ca L:=funext hcs
 have hm:=h.m
 have hw:=h.w
 have hN:Y.N<=Y.R L:=by unfold Lay.R;omega
 have hRw:Y.R L<Y.w L:=by unfold Lay.R Lay.w;omega
 unfold bD g9
 have fin:∀{x:Option ((List Nat×List (Option (List Int)))×Int×List Int×List Int×List Int×Int×Int×Bool×Unit)},(∃r,x=some r/\∃S' ok,r=(i7 L.m (Y.w L) S'.T,S'.d,jA L.m S'.β,x3,cs,(Y.N:Int),((Y.R L:Nat):Int),ok,PUnit.unit)/\Y.Val L S'/\AZ L Y S' /\
   (ok=true->∀j,j<Y.N->0<=zr L.m (ca L) S' j)/\(ok=false->∃q,q<Y.N/\zr L.m (ca L) S' q<0/\∀i,i<L.m->S'.T i q<=0))->∃S' ok,x=some (i7 L.m (Y.w L) S'.T,S'.d,jA L.m S'.β,x3,cs,(Y.N:Int),((Y.R L:Nat):Int),ok,())/\Y.Val L S'/\AZ L Y S' /\
   (ok=true->∀j,j<Y.N->0<=zr L.m (ca L) S' j)/\(ok=false->∃q,q<Y.N/\zr L.m (ca L) S' q<0/\∀i,i<L.m->S'.T i q<=0):=by
  rintro x ⟨r,h1,S',ok,rfl,h3⟩
  exact ⟨S',ok,h1,h3⟩
 refine fin (OV (γ:=Sx) (I:=fun (S:Sx) x=>x=nY L Y x3 cs S/\Y.Val L S/\AZ L Y S)
  (Q:=fun r=>∃S' ok,r=(i7 L.m (Y.w L) S'.T,S'.d,jA L.m S'.β,x3,cs,(Y.N:Int),((Y.R L:Nat):Int),ok,PUnit.unit)/\Y.Val L S'/\AZ L Y S' /\
   (ok=true->∀j,j<Y.N->0<=zr L.m (ca L) S' j)/\(ok=false->∃q,q<Y.N/\zr L.m (ca L) S' q<0/\∀i,i<L.m->S'.T i q<=0))
  (μ:=fun S=>left L.m (Y.w L) Y.N (Y.R L) (Y.M L) (ca L) S) ?_ (s:=S) ⟨rfl,hv,ha⟩ (Nat.lt_of_lt_of_le (Hm (by unfold Lay.w;omega) S) hp))
 rintro S _ ⟨rfl,hv,ha⟩
 obtain ⟨hd,hb⟩:=h.tabP hv.tb
 have hred:∀j,j<Y.N->bK (qP L.m (Y.w L) S.T,S.d,jA L.m S.β,x3,cs,(Y.N:Int),((Y.R L:Nat):Int)) (j:Int)=some (zr L.m (ca L) S j):=fun j hj=>by
  have hjw:j<Y.w L:=by omega
  have:=ER (m:=L.m) (w:=Y.w L) (T:=S.T) (d:=S.d) (β:=S.β) (j:=j) (x3:=x3) (cs:=cs) (x5:=(Y.N:Int)) (x6:=((Y.R L:Nat):Int)) (by omega) hjw
   (by rw[hcs'];have:=h.cost hd j;omega) (fun i hi=>by rw[hcs'];have:=h.cost (hb i j hi hjw) (S.β i);omega)
  rw[this,hcs']
 rcases qO Y.N (fun j=>decide (zr L.m (ca L) S j<0)) with hnone | ⟨q,hq,hneg,hleast⟩
 ·left
  refine ⟨_,⟨S,true,rfl,hv,ha,fun _ j hj=>by have:=of_decide_eq_false (hnone j hj);omega,fun e=>by cases e⟩,fun rec=>?_⟩
  refine qd Y.N (by omega) (fun j=>((-1:Int),(j:Int),PUnit.unit)) _ (fun again j hj=>?_) (fun again=>?_)
  ·simp only[aI,cT,z7 (show (j:Int)<Y.N by omega),show decide ((-1:Int)<0)=true from rfl,gT,gU,hred j hj,aa,hnone j hj,cF,aX (show j<=1000000 by omega)]
  ·simp only[aI,cT,cF,z8 (show ¬ (Y.N:Int)<Y.N by omega),show decide ((-1:Int)<0)=true from rfl]
 ·have hneg:=z12 hneg
  have hqw:q<Y.w L:=by omega
  have hent:Enters L.m Y.N (ca L) S q:=⟨hq,hneg,fun j hj=>by have:=of_decide_eq_false (hleast j hj);omega⟩
  have hbb:∀i j,i<L.m->j<Y.w L->(S.T i j).natAbs<4611686018427387904:=fun i j hi hj=>by have:=(h.tab hv.tb).2 i j hi hj;omega
  obtain ⟨b,hl1,hl2⟩:=yI (m:=L.m) (w:=Y.w L) (T:=S.T) (d:=S.d) (β:=S.β) (c:=q) (R:=Y.R L) (x1:=S.d) (x3:=x3) (x4:=cs) (x5:=(Y.N:Int)) (by omega) hqw hRw hbb
  have search:∀{R:Type} {F:(Int×Int×PUnit->Option R)->Int×Int×PUnit->Option R} {res:Option R},(∀again j,j<q->F again ((-1:Int),(j:Int),PUnit.unit)=again ((-1:Int),((j+1:Nat):Int),PUnit.unit)) ->
    (∀again,F again ((-1:Int),(q:Int),PUnit.unit)=again ((q:Int),((q+1:Nat):Int),PUnit.unit))->(∀again,F again ((q:Int),((q+1:Nat):Int),PUnit.unit)=res)->lpK (Int×Int×PUnit) R F ((-1:Int),(0:Int),PUnit.unit)=res:=fun h1 h2 h3=>by
   refine bR (q+1) (by omega) (fun j=>if j<=q then ((-1:Int),(j:Int),PUnit.unit) else ((q:Int),(j:Int),PUnit.unit)) _ (by rw[if_pos (by omega)];rfl) (fun again j hj=>?_) (fun again=>?_)
   ·by_cases e:j=q
    ·subst e
     rw[if_pos (by omega),if_neg (by omega)]
     exact h2 again
    ·rw[if_pos (by omega),if_pos (by omega)]
     exact h1 again j (by omega)
   ·rw[if_neg (by omega)]
    exact h3 again
  rcases hl2 with ⟨e,hno⟩ | ⟨r,e,hlv⟩
  ·subst e
   left
   refine ⟨_,⟨S,false,rfl,hv,ha,fun e=>(by cases e),fun _=>⟨q,hq,hneg,hno⟩⟩,fun rec=>?_⟩
   refine search (fun again j hj=>?_) (fun again=>?_) (fun again=>?_)
   ·simp only[aI,cT,z7 (show (j:Int)<Y.N by omega),show decide ((-1:Int)<0)=true from rfl,gT,gU,hred j (by omega),aa,hleast j hj,cF,aX (show j<=1000000 by omega)]
   ·simp only[aI,cT,z7 (show (q:Int)<Y.N by omega),show decide ((-1:Int)<0)=true from rfl,gT,gU,hred q hq,aa,z7 hneg,aX (show q<=1000000 by omega)]
   ·simp only[aI,cT,z8 (show ¬ (q:Int)<0 by omega),jN,Bool.and_false,cF,gT,gU,hl1,aa,show decide ((-1:Int)<0)=true from rfl]
  ·subst e
   right
   have hpr:0<S.T r q:=hlv.pos
   have hr:=hlv.lt
   have hs:=D9 (m:=L.m) (w:=Y.w L) hpr
   refine ⟨mf S r q,nY L Y x3 cs (mf S r q),⟨rfl,hv.stepAt hRw hqw (by omega) hlv hs,ha.step hq⟩,zn (Lay.art h.ok).1 (Lay.art h.ok).2 hN hRw hv ⟨hent,hlv,hs⟩,fun rec=>?_⟩
   refine search (fun again j hj=>?_) (fun again=>?_) (fun again=>?_)
   ·simp only[aI,cT,z7 (show (j:Int)<Y.N by omega),show decide ((-1:Int)<0)=true from rfl,gT,gU,hred j (by omega),aa,hleast j hj,cF,aX (show j<=1000000 by omega)]
   ·simp only[aI,cT,z7 (show (q:Int)<Y.N by omega),show decide ((-1:Int)<0)=true from rfl,gT,gU,hred q hq,aa,z7 hneg,aX (show q<=1000000 by omega)]
   ·simp only[aI,cT,z8 (show ¬ (q:Int)<0 by omega),jN,Bool.and_false,cF,gT,gU,hl1,aa,z8 (show ¬ (r:Int)<0 by omega),yc (h.piv hv.tb hr hqw (show S.T r q≠0 by omega))]
    rfl
end
section
variable {L:Lin} {Y:Lay}
theorem Val.flat {S:Sx} (hv:Y.Val L S) {r c:Nat} (hr:r<L.m) (hc:c<Y.N) (he:S.T r c≠0) (h0:S.T r (Y.R L)=0):Y.Val L (mf S r c):=by
 have hcw:c<Y.w L:=by unfold Lay.w;omega
 have hRw:Y.R L<Y.w L:=by unfold Lay.R Lay.w;omega
 have hd:=hv.tb.dpos
 refine ⟨hv.tb.step hr hcw he,fun i hi=>?_,fun i hi=>?_⟩
 ·show 0<=oi S.T S.d r c i (Y.R L)
  unfold oi
  by_cases e:i=r
  ·rw[if_pos e,h0,Int.mul_zero];exact Int.le_refl _
  ·rw[if_neg e]
   have h1:=jR hv.tb hr hi (Ne.symm e) hcw hRw
   rw[h0,Int.mul_zero,Int.sub_zero] at h1
   have h2:0<=sg (S.T r c)*S.T r c*S.T i (Y.R L):=Int.mul_nonneg (Int.le_of_lt (LP he)) (hv.feas i hi)
   rw[Int.mul_assoc,<-h1] at h2
   have h3:sg (S.T r c)*(S.d*Dn.piv S.T S.d r c i (Y.R L))=S.d*(sg (S.T r c)*Dn.piv S.T S.d r c i (Y.R L)):=by grind
   rw[h3] at h2
   exact Int.nonneg_of_mul_nonneg_right h2 hd
 ·show upd S.β r c i≠_
  unfold upd
  split
  ·unfold Lay.R;omega
  ·exact hv.ne i hi
theorem Em {T:Nat->Nat->Int} {d:Int} {r c i j:Nat} (h1:T i j=0) (h2:T i c=0\/T r j=0):Dn.piv T d r c i j=0:=by
 unfold Dn.piv
 rw[h1,Int.mul_zero]
 rcases h2 with h | h
 ·rw[h,Int.zero_mul,Int.sub_zero,Int.zero_ediv]
 ·rw[h,Int.mul_zero,Int.sub_zero,Int.zero_ediv]
structure Swp (L:Lin) (Y:Lay) (i:Nat) (S:Sx):Prop where
 val:Y.Val L S
 right:∀k,k<L.m->Y.N<=S.β k->S.T k (Y.R L)=0
 rows:∀k,k<L.m->k<i->Y.N<=S.β k->∀j,j<Y.N->S.T k j=0
theorem Swp.step {i:Nat} {S:Sx} (h:Swp L Y i S) {j:Nat} (hi:i<L.m) (hj:j<Y.N) (hN:Y.N<=S.β i) (he:S.T i j≠0):Swp L Y i (mf S i j):=by
 have h0:=h.right i hi hN
 have up:∀k,k≠i->(mf S i j).β k=S.β k:=fun k hk=>by
  show upd S.β i j k=_
  unfold upd
  rw[if_neg hk]
 have ui:(mf S i j).β i=j:=by
  show upd S.β i j i=_
  unfold upd
  rw[if_pos rfl]
 have hT:∀k l,k≠i->(mf S i j).T k l=sg (S.T i j)*Dn.piv S.T S.d i j k l:=fun k l hk=>by
  show oi S.T S.d i j k l=_
  unfold oi
  rw[if_neg hk]
 refine ⟨Val.flat h.val hi hj he h0,fun k hk hb=>?_,fun k hk hlt hb l hl=>?_⟩
 ·have e:k≠i:=fun e=>by rw[e,ui] at hb;omega
  rw[up k e] at hb
  rw[hT k _ e,Em (h.right k hk hb) (.inr h0),Int.mul_zero]
 ·have e:k≠i:=by omega
  rw[up k e] at hb
  rw[hT k _ e,Em (h.rows k hk hlt hb l hl) (.inl (h.rows k hk hlt hb j hj)),Int.mul_zero]
def Be (L:Lin) (Y:Lay) (x3 cs:List Int) (o:Option ((List Nat×List (Option (List Int)))×Int×List Int×List Int×List Int×Int×Int×Bool×Unit)):Prop :=
 ∃S' ok,o=some (i7 L.m (Y.w L) S'.T,S'.d,jA L.m S'.β,x3,cs,(Y.N:Int),((Y.R L:Nat):Int),ok,PUnit.unit)/\Y.Val L S' /\
   (ok=true->AZ L Y S')/\(ok=false->(∀j,j<Y.N->0<=zr L.m (eG Y.N) S' j)/\0<sz L.m fun i=>eG Y.N (S'.β i)*S'.T i (Y.R L))
theorem Df (h:Bnd L Y) (hp:(Y.w L) ^ L.m<=1180591620717411303424) {x3 cs:List Int} {S:Sx} (hv:Y.Val L S) :
  Be L Y x3 cs (aU (i7 L.m (Y.w L) S.T) S.d (jA L.m S.β) x3 cs (Y.N:Int) ((Y.R L:Nat):Int)):=by
 have hm:=h.m
 have hw:=h.w
 have hN:Y.N<=Y.R L:=by unfold Lay.R;omega
 have hRw:Y.R L<Y.w L:=by unfold Lay.R Lay.w;omega
 unfold aU iR
 refine wE (γ:=Sx) (I:=fun (S:Sx) x=>x=nY L Y x3 cs S/\Y.Val L S)
  (Q:=Be L Y x3 cs)
  (μ:=fun S=>left L.m (Y.w L) Y.N (Y.R L) (Y.M L) (eG Y.N) S) ?_ (s:=S) ⟨rfl,hv⟩ (Nat.lt_of_lt_of_le (Hm (by unfold Lay.w;omega) S) hp)
 rintro rec S _ ⟨rfl,hv⟩
 obtain ⟨hd,hb⟩:=h.tab hv.tb
 have hbb:∀i j,i<L.m->j<Y.w L->(S.T i j).natAbs<4611686018427387904:=fun i j hi hj=>by have:=hb i j hi hj;omega
 have hart:∀j,j<Y.w L->av (qP L.m (Y.w L) S.T,S.d,jA L.m S.β,x3,cs,(Y.N:Int),((Y.R L:Nat):Int)) (j:Int)=some (sz L.m fun i=>eG Y.N (S.β i)*S.T i j):=fun j hj =>
  s7 (by omega) hj fun i hi=>by have:=hb i j hi hj;omega
 have hz:∀j,j<Y.N->zr L.m (eG Y.N) S j= - sz L.m fun i=>eG Y.N (S.β i)*S.T i j:=fun j hj=>by
  unfold zr
  rw[show eG Y.N j=0 from if_neg (by omega),Int.zero_mul,Int.zero_sub]
 rcases qO Y.N (fun j=>decide ((sz L.m fun i=>eG Y.N (S.β i)*S.T i j)>0)) with hnone | ⟨q,hq,hneg,hleast⟩
 ·left
  have search:∀{R:Type} {F:(Int×Int×PUnit->Option R)->Int×Int×PUnit->Option R} {Q:Option R->Prop},(∀again j,j<Y.N->F again ((-1:Int),(j:Int),PUnit.unit)=again ((-1:Int),((j+1:Nat):Int),PUnit.unit)) ->
    (∃res,Q res/\∀again,F again ((-1:Int),(Y.N:Int),PUnit.unit)=res)->Q (lpK (Int×Int×PUnit) R F ((-1:Int),(0:Int),PUnit.unit)):=fun {R} {F} {Q} h1 h3=>by
   obtain ⟨res,h4,h5⟩:=h3
   have e:lpK (Int×Int×PUnit) R F ((-1:Int),(0:Int),PUnit.unit)=res:=bR Y.N (by omega) (fun j=>((-1:Int),(j:Int),PUnit.unit)) res rfl h1 h5
   rw[e]
   exact h4
  refine search (Q:=Be L Y x3 cs) (fun again j hj=>?_) ?_
  ·simp only[aI,cT,z7 (show (j:Int)<Y.N by omega),show decide ((-1:Int)<0)=true from rfl,gT,gU,hart j (by omega),aa,hnone j hj,cF,aX (show j<=1000000 by omega)]
  ·simp only[aI,cT,cF,z8 (show ¬ (Y.N:Int)<Y.N by omega),show decide ((-1:Int)<0)=true from rfl,gT,gU,hart _ hRw,aa]
   have hzr:∀j,j<Y.N->0<=zr L.m (eG Y.N) S j:=fun j hj=>by
    rw[hz j hj]
    have:=of_decide_eq_false (hnone j hj)
    omega
   by_cases hpos:(sz L.m fun i=>eG Y.N (S.β i)*S.T i (Y.R L))>0
   ·rw[z7 hpos]
    simp only[cT]
    exact ⟨_,⟨S,false,rfl,hv,fun e=>(by cases e),fun _=>⟨hzr,hpos⟩⟩,fun _=>rfl⟩
   ·rw[z8 hpos]
    simp only[cF]
    refine ⟨_,?_,fun _=>rfl⟩
    have hnn:∀i,i<L.m->0<=eG Y.N (S.β i)*S.T i (Y.R L):=fun i hi=>Int.mul_nonneg (by unfold eG;split<;>omega) (hv.feas i hi)
    have hS:Swp L Y 0 S:=by
     refine ⟨hv,fun k hk hNk=>?_,fun k _ h0=>by omega⟩
     have h1:(sz L.m fun i=>if i=k then eG Y.N (S.β k)*S.T k (Y.R L) else 0)<=sz L.m fun i=>eG Y.N (S.β i)*S.T i (Y.R L):=oO fun i hi=>by
      by_cases e:i=k
      ·rw[if_pos e,e];exact Int.le_refl _
      ·rw[if_neg e];exact hnn i hi
     rw[fy hk fun i _ hne=>if_neg hne,if_pos rfl] at h1
     have h2:=hnn k hk
     have h3:eG Y.N (S.β k)=1:=if_pos hNk
     rw[h3,Int.one_mul] at h1 h2
     omega
    refine wE (γ:=Nat×Sx) (I:=fun g x=>x=((g.1:Int),nY L Y x3 cs g.2)/\g.1<=L.m/\Swp L Y g.1 g.2)
     (Q:=Be L Y x3 cs)
     (μ:=fun g=>L.m - g.1) ?_ (s:=(0,S)) ⟨rfl,by omega,hS⟩ (by simp only;omega)
    rintro rec2 ⟨i,S⟩ _ ⟨rfl,hi,hS⟩
    simp only at hi hS
    by_cases hlt:i<L.m
    ·right
     simp only[ic,z7 (show (i:Int)<L.m by omega),cT]
     have inner:∀{R:Type} {F:(Int×(List Nat×List (Option (List Int)))×Int×List Int×List Int×List Int×Int×Int×PUnit->Option R)->Int×(List Nat×List (Option (List Int)))×Int×List Int×List Int×List Int×Int×Int×PUnit->Option R} {k:(Int×(List Nat×List (Option (List Int)))×Int×List Int×List Int×List Int×Int×Int×PUnit->Option R)},
       (∀again (j:Nat) S,Swp L Y i S->j<=Y.N->(j<Y.N->Y.N<=S.β i->S.T i j=0->F again ((j:Int),nY L Y x3 cs S)=again (((j+1:Nat):Int),nY L Y x3 cs S))/\(j<Y.N->Y.N<=S.β i->S.T i j≠0->F again ((j:Int),nY L Y x3 cs S)=again (((j+1:Nat):Int),nY L Y x3 cs (mf S i j))) /\
        (¬ (j<Y.N/\Y.N<=S.β i)->F again ((j:Int),nY L Y x3 cs S)=k (((i+1:Nat):Int),nY L Y x3 cs S))) ->
       ∃S',Swp L Y (i+1) S'/\lpK _ R F ((0:Int),nY L Y x3 cs S)=k (((i+1:Nat):Int),nY L Y x3 cs S'):=fun {R} {F} {k} hF=>by
      refine wE (γ:=Nat×Sx) (I:=fun g x=>x=((g.1:Int),nY L Y x3 cs g.2)/\g.1<=Y.N/\Swp L Y i g.2/\(Y.N<=g.2.β i->∀l,l<g.1->g.2.T i l=0))
       (Q:=fun o=>∃S',Swp L Y (i+1) S'/\o=k (((i+1:Nat):Int),nY L Y x3 cs S')) (μ:=fun g=>Y.N - g.1) ?_ (s:=(0,S)) ⟨rfl,by omega,hS,fun _ l hl=>by omega⟩ (by simp only;omega)
      rintro rec3 ⟨j,S⟩ _ ⟨rfl,hj,hS,hz⟩
      simp only at hj hS hz
      obtain ⟨f1,f2,f3⟩:=hF rec3 j S hS hj
      by_cases hc:j<Y.N/\Y.N<=S.β i
      ·right
       by_cases h0:S.T i j=0
       ·refine ⟨(j+1,S),_,⟨rfl,by simp only;omega,hS,fun hN l hl=>?_⟩,by simp only;omega,f1 hc.1 hc.2 h0⟩
        simp only at hl
        by_cases e:l=j
        ·rw[e];exact h0
        ·exact hz hN l (by omega)
       ·refine ⟨(j+1,mf S i j),_,⟨rfl,by simp only;omega,hS.step hlt hc.1 hc.2 h0,fun hN=>?_⟩,by simp only;omega,f2 hc.1 hc.2 h0⟩
        have e:(mf S i j).β i=j:=by
         show upd S.β i j i=_
         unfold upd
         rw[if_pos rfl]
        rw[e] at hN
        omega
      ·left
       refine ⟨S,⟨hS.val,hS.right,fun k hk hlt' hN l hl=>?_⟩,f3 hc⟩
       by_cases e:k=i
       ·subst e
        exact hz hN l (by omega)
       ·exact hS.rows k hk (by omega) hN l hl
     have fin:∀{o},(∃S',Swp L Y (i+1) S'/\o=rec2 (((i+1:Nat):Int),nY L Y x3 cs S'))->∃(g:Nat×Sx) (y:_),(y=((g.1:Int),nY L Y x3 cs g.2)/\g.1<=L.m/\Swp L Y g.1 g.2)/\L.m - g.1<L.m - i/\o=rec2 y:=by
      rintro o ⟨S',h1,h2⟩
      exact ⟨(i+1,S'),_,⟨rfl,by simp only;omega,h1⟩,by simp only;omega,h2⟩
     refine fin (inner (fun again j S hS hj=>⟨fun c1 c2 c3=>?_,fun c1 c2 c3=>?_,fun c1=>?_⟩))
     ·have hjw:j<Y.w L:=by omega
      simp only[nY,z7 (show (j:Int)<Y.N by omega),jt,aH,z9,z7 hlt,dK (show Nat.succ i<=L.m from hlt),jZ hlt,z7 (show (S.β i:Int)>=Y.N by omega),Bool.not_true,Bool.or_true,Bool.and_self,cT,ic,ly hlt,j4,gY hlt,ay,bC hjw,z7 hjw,dK (show Nat.succ j<=Y.w L from hjw),z7 c3,cF,aX (show j<=1000000 by omega)]
     ·have hjw:j<Y.w L:=by omega
      simp only[nY,z7 (show (j:Int)<Y.N by omega),jt,aH,z9,z7 hlt,dK (show Nat.succ i<=L.m from hlt),jZ hlt,z7 (show (S.β i:Int)>=Y.N by omega),Bool.not_true,Bool.not_false,Bool.or_true,Bool.and_self,cT,ic,ly hlt,j4,gY hlt,ay,bC hjw,z7 hjw,dK (show Nat.succ j<=Y.w L from hjw),z8 c3,aX (show j<=1000000 by omega),
       yc (h.piv hS.val.tb hlt hjw c3),aa]
      rfl
     ·by_cases c2:j<Y.N
      ·simp only[nY,z7 (show (j:Int)<Y.N by omega),jt,aH,z9,z7 hlt,dK (show Nat.succ i<=L.m from hlt),jZ hlt,z8 (show ¬ (S.β i:Int)>=Y.N by omega),Bool.not_true,Bool.or_true,Bool.and_self,cT,cF,aX (show i<=1000000 by omega)]
      ·simp only[nY,z8 (show ¬ (j:Int)<Y.N by omega),Bool.not_false,Bool.true_or,Bool.and_self,cT,cF,aX (show i<=1000000 by omega)]
    ·left
     have e:i=L.m:=by omega
     subst e
     simp only[ic,z8 (show ¬ (L.m:Int)<L.m by omega),cF]
     exact ⟨S,true,rfl,hS.val,fun _ k hk hN=>⟨hS.rows k hk hk hN,hS.right k hk hN⟩,fun e=>by cases e⟩
 ·have hneg:=z12 hneg
  have hqw:q<Y.w L:=by omega
  have hent:Enters L.m Y.N (eG Y.N) S q:=⟨hq,by rw[hz q hq];omega,fun j hj=>by rw[hz j (by omega)];have:=of_decide_eq_false (hleast j hj);omega⟩
  obtain ⟨b,hl1,hl2⟩:=yI (m:=L.m) (w:=Y.w L) (T:=S.T) (d:=S.d) (β:=S.β) (c:=q) (R:=Y.R L) (x1:=S.d) (x3:=x3) (x4:=cs) (x5:=(Y.N:Int)) (by omega) hqw hRw hbb
  rcases hl2 with ⟨e,hno⟩ | ⟨r,e,hlv⟩
  ·exfalso
   have h1:(sz L.m fun i=>eG Y.N (S.β i)*S.T i q)<=sz L.m fun _=>0:=oO fun i hi=>by
    have:=hno i hi
    unfold eG
    split<;>omega
   rw[gW (f:=fun _=>0) fun _ _=>rfl] at h1
   omega
  ·subst e
   right
   have hpr:0<S.T r q:=hlv.pos
   have hr:=hlv.lt
   have hs:=D9 (m:=L.m) (w:=Y.w L) hpr
   refine ⟨mf S r q,nY L Y x3 cs (mf S r q),⟨rfl,hv.stepAt hRw hqw (by omega) hlv hs⟩,zn (Lay.art h.ok).1 (Lay.art h.ok).2 hN hRw hv ⟨hent,hlv,hs⟩,?_⟩
   refine bR (q+1) (by omega) (fun j=>if j<=q then ((-1:Int),(j:Int),PUnit.unit) else ((q:Int),(j:Int),PUnit.unit)) _ (by rw[if_pos (by omega)];rfl) (fun again j hj=>?_) (fun again=>?_)
   ·by_cases e:j=q
    ·subst e
     rw[if_pos (by omega),if_neg (by omega)]
     simp only[aI,cT,z7 (show (j:Int)<Y.N by omega),show decide ((-1:Int)<0)=true from rfl,gT,gU,hart j hqw,aa,z7 hneg,aX (show j<=1000000 by omega)]
    ·rw[if_pos (by omega),if_pos (by omega)]
     simp only[aI,cT,z7 (show (j:Int)<Y.N by omega),show decide ((-1:Int)<0)=true from rfl,gT,gU,hart j (by omega),aa,hleast j (by omega),cF,aX (show j<=1000000 by omega)]
   ·rw[if_neg (by omega)]
    simp only[aI,cT,z8 (show ¬ (q:Int)<0 by omega),jN,Bool.and_false,cF,gT,gU,hl1,aa,yc (h.piv hv.tb hr hqw (show S.T r q≠0 by omega))]
    rfl
open Tryz Dn Dn.Sh
def an (p:Pg):Lin:=⟨p.1.length,p.2.length,fun k j=>(p.2.getD k rw0).1.getD j 0,fun k=>(p.2.getD k rw0).2.2,fun j=>p.1.getD j 0,fun k=>(p.2.getD k rw0).2.1⟩
def gi (p:Pg):Nat->Nat
 | 0=>0
 | k+1=>gi p k+if (p.2.getD k rw0).2.1=3 then 0 else 1
def au (p:Pg):Lay:=⟨p.1.length+gi p p.2.length,fun k=>p.1.length+gi p k,fun k=>if (p.2.getD k rw0).2.2<0 then -1 else 1⟩
theorem sA {p:Pg}:∀k,gi p k<=k
 | 0=>Nat.le_refl _
 | k+1=>by
  have:=sA (p:=p) k
  simp only[gi]
  split<;>omega
theorem wA {p:Pg} {k:Nat}:∀{l:Nat},k<l->(p.2.getD k rw0).2.1≠3->gi p k<gi p l
 | 0,h,_=>by omega
 | l+1,h,h3=>by
  simp only[gi]
  by_cases e:k=l
  ·subst e
   rw[if_neg h3];omega
  ·have:=wA (l:=l) (by omega) h3
   split<;>omega
theorem mo {p:Pg} (hv:ValidP p):(au p).ok (an p):=by
 have row:∀k,k<p.2.length->p.2.getD k rw0 ∈ p.2:=fun k hk=>by rw[aP hk];exact List.getElem_mem _
 refine ⟨Nat.le_add_right _ _,fun k hk=>?_,fun k hk h3=>⟨Nat.le_add_right _ _,?_⟩,fun k l hk hl h3 h4 e=>?_,fun k _=>?_,fun k _=>?_⟩
 ·have:=hv.kind _ (row k hk)
  show (p.2.getD k rw0).2.1=1\/(p.2.getD k rw0).2.1=2\/(p.2.getD k rw0).2.1=3
  omega
 ·have:=wA (p:=p) (k:=k) (l:=p.2.length) hk h3
  show p.1.length+gi p k<p.1.length+gi p p.2.length
  omega
 ·have e:p.1.length+gi p k=p.1.length+gi p l:=e
  rcases Nat.lt_trichotomy k l with h | h | h
  ·have:=wA (p:=p) h h3;omega
  ·exact h
  ·have:=wA (p:=p) h h4;omega
 ·show (if (p.2.getD k rw0).2.2<0 then (-1:Int) else 1)=1\/(if (p.2.getD k rw0).2.2<0 then (-1:Int) else 1)= -1
  split<;>omega
 ·show 0<=(if (p.2.getD k rw0).2.2<0 then (-1:Int) else 1)*(p.2.getD k rw0).2.2
  split<;>omega
theorem xF {p:Pg} (hv:ValidP p):(au p).w (an p)<=25/\(an p).m<=6:=by
 have h1:=sA (p:=p) p.2.length
 have h2:=hv.rows
 have h3:=hv.cost.2
 refine ⟨?_,h2⟩
 show p.1.length+gi p p.2.length+p.2.length+1<=25
 omega
theorem kZ {α:Type} {w:Nat} {f:Nat->α}:bj w f++[f w]=bj (w+1) f:=by
 unfold bj
 rw[List.range_succ,List.map_append]
 rfl
theorem EB {m w:Nat} {T:Nat->Nat->Int}:dY m w T++[some (bj w (T m))]=dY (m+1) w T:=by
 unfold dY
 rw[List.range_succ,List.map_append]
 rfl
theorem KX {l:List Int} {w:Nat} (h:l.length<=w):List.take 0 (List.replicate w (0:Int))++List.take w l++List.drop (0+(List.take w l).length) (List.replicate w 0)=bj w fun j=>l.getD j 0:=by
 rw[List.take_of_length_le h]
 refine List.ext_getElem (by rw[ay];simp;omega) fun i h1 h2=>?_
 rw[w4]
 have hi:i<w:=by rw[ay] at h2;exact h2
 by_cases e:i<l.length
 ·rw[aP e,List.getElem_append_left (by simp;exact e)]
  simp
 ·rw[List.getElem_append_right (by simp;omega),List.getD_eq_getElem?_getD,List.getElem?_eq_none (by omega)]
  simp
abbrev St:=Int×Int×(List Nat×List (Option (List Int)))×Int×List Int×List Int×List Int×Int×Int×PUnit
def PC {R:Type} (p:Pg) (again:St->Option R) (x:St) (x_1:Int×List Int×PUnit):Option R :=
 let v21:List Int×PUnit:=(x_1.2.1,PUnit.unit);jnK (Int×List Int×PUnit) R (fun (x_2:Int×List Int×PUnit)=>bif inB (IntKind.wrap .i64 (x.2.2.2.2.2.2.2.1+x.2.1)) (List.length x_2.2.1) then bif Nat.ble (Nat.succ (Int.toNat (IntKind.wrap .i64 (x.2.2.2.2.2.2.2.1+x.2.1)))) (List.length x_2.2.1) then bif eC (List.length x.2.2.1.1+(1:Nat)) (24:Nat) then bif eC (List.length x.2.2.2.2.2.1+(1:Nat)) (8:Nat) then bif eC (List.length x.2.2.2.2.1+(1:Nat)) (8:Nat) then again (x_1.1,IntKind.wrap .i64 (x.2.1+(1:Int)),(x.2.2.1.1++[List.length x.2.2.1.2+(0:Nat)],x.2.2.1.2++[some (List.set x_2.2.1 (Int.toNat (IntKind.wrap .i64 (x.2.2.2.2.2.2.2.1+x.2.1))) (1:Int))]),x.2.2.2.1,x.2.2.2.2.1++[(IntKind.wrap .i64 (x.2.2.2.2.2.2.2.1+x.2.1))],x.2.2.2.2.2.1++[x_2.1],x.2.2.2.2.2.2.1,x.2.2.2.2.2.2.2.1,x.2.2.2.2.2.2.2.2.1,PUnit.unit) else none else none else none else none else none) fun (j:Int×List Int×PUnit->Option R)=>bif decide ((List.getD p.2 (Int.toNat x.2.1) ([],(0:Int),(0:Int))).2.2<(0:Int)) then lpK (Int×List Int×PUnit) R (fun (again:Int×List Int×PUnit->Option R) (x:Int×List Int×PUnit) =>
 let v25:Bool:=inB x.1 (List.length x.2.1);
 let v26:Bool:=Nat.ble (Nat.succ (Int.toNat x.1)) (List.length x.2.1);
 bif decide (x.1<(↑(List.length x_1.2.1):Int)) then bif v25 then bif v26 then bif v25 then bif v26 then again (IntKind.wrap .i64 (x.1+(1:Int)),List.set x.2.1 (Int.toNat x.1) (IntKind.wrap .i64 ((0:Int) - List.getD x.2.1 (Int.toNat x.1) (0:Int))),PUnit.unit) else none else none else none else none else j ((-1:Int),x.2.1,PUnit.unit)) ((0:Int),v21) else j ((1:Int),v21)
def Qd {R:Type} (p:Pg) (again k:St->Option R) (x:St):Option R :=
 let v12:Int:=IntKind.wrap .i64 (x.1+(1:Int));
 let v13:List Int×Int×Int:=List.getD p.2 (Int.toNat x.2.1) ([],(0:Int),(0:Int));
 let v14:List Int:=List.replicate (Int.toNat (IntKind.wrap .i64 (x.2.2.2.2.2.2.2.2.1+(1:Int)))) (0:Int);
 let v15:Bool:=inB x.1 (Int.toNat (IntKind.wrap .i64 (x.2.2.2.2.2.2.2.2.1+(1:Int))));
 let v16:Bool:=Nat.ble (Nat.succ (Int.toNat x.1)) (Int.toNat (IntKind.wrap .i64 (x.2.2.2.2.2.2.2.2.1+(1:Int))));
 let _:Int:=IntKind.wrap .i64 (x.2.2.2.2.2.2.2.1+x.2.1);
 let v18:List Int:=List.take (Int.toNat (IntKind.wrap .i64 (x.2.2.2.2.2.2.2.2.1+(1:Int)))) v13.1;
 let v19:List Int:=List.set (List.take (0:Nat) v14++v18++List.drop ((0:Nat)+List.length v18) v14) (Int.toNat x.2.2.2.2.2.2.2.2.1) v13.2.2;
 bif decide (x.2.1<(↑(List.length p.2):Int)) then bif inB x.2.1 (List.length p.2) then bif decide ((0:Int)<=IntKind.wrap .i64 (x.2.2.2.2.2.2.2.2.1+(1:Int)))&&eC (Int.toNat (IntKind.wrap .i64 (x.2.2.2.2.2.2.2.2.1+(1:Int)))) (8:Nat) then bif inB x.2.2.2.2.2.2.2.2.1 (Int.toNat (IntKind.wrap .i64 (x.2.2.2.2.2.2.2.2.1+(1:Int)))) then bif Nat.ble (Nat.succ (Int.toNat x.2.2.2.2.2.2.2.2.1)) (Int.toNat (IntKind.wrap .i64 (x.2.2.2.2.2.2.2.2.1+(1:Int)))) then jnK (Int×List Int×PUnit) R (PC p again x) fun (j:Int×List Int×PUnit->Option R)=>bif decide (v13.2.1=(1:Int)) then bif v15 then bif v16 then j (v12,List.set v19 (Int.toNat x.1) (1:Int),PUnit.unit) else none else none else jnK (Int×List Int×PUnit) R (fun (x:Int×List Int×PUnit)=>j (x.1,x.2.1,PUnit.unit)) fun (j:Int×List Int×PUnit->Option R)=>bif decide (v13.2.1=(2:Int)) then bif v15 then bif v16 then j (v12,List.set v19 (Int.toNat x.1) (-1:Int),PUnit.unit) else none else none else j (x.1,v19,PUnit.unit) else none else none else none else none else k x
theorem Gs {p:Pg} (hv:ValidP p) {R:Type} {again:St->Option R} {i:Nat} (hi:i<p.2.length) {f:Nat->Int} {s s0:Int}
  (hf:∀k,k<(au p).w (an p)->f k=if k=(au p).R (an p) then (an p).b i else if (an p).kd i≠3/\k=(au p).sl i then (if (an p).kd i=1 then 1 else -1) else (p.2.getD i rw0).1.getD k 0) :
  PC p again (s0,(i:Int),(List.range i,dY i ((au p).w (an p)) ((au p).M (an p))),1,jA i (fun k=>(au p).N+k),bj i (au p).σ,p.1,((au p).N:Int),(((au p).R (an p):Nat):Int),PUnit.unit) (s,bj ((au p).w (an p)) f,PUnit.unit) =
   again (s,((i+1:Nat):Int),(List.range (i+1),dY (i+1) ((au p).w (an p)) ((au p).M (an p))),1,jA (i+1) (fun k=>(au p).N+k),bj (i+1) (au p).σ,p.1,((au p).N:Int),(((au p).R (an p):Nat):Int),PUnit.unit):=by
 obtain ⟨h1,h2⟩:=xF hv
 have hr:p.2.getD i rw0 ∈ p.2:=by rw[aP hi];exact List.getElem_mem _
 have hR:=hv.right _ hr
 have hl:=hv.len _ hr
 have hc:=hv.coefs _ hr
 have hn:=hv.cost.2
 have hbb:∀k,k<(au p).w (an p)-> -1073741824<=f k/\f k<=1073741824:=fun k hk=>by
  rw[hf k hk]
  split
  ·exact z12 hR
  ·split
   ·split<;>omega
   ·by_cases e:k<(p.2.getD i rw0).1.length
    ·have:=z12 (hc ((p.2.getD i rw0).1.getD k 0) (by rw[aP e];exact List.getElem_mem _))
     omega
    ·rw[List.getD_eq_getElem?_getD,List.getElem?_eq_none (by omega)]
     simp
 obtain ⟨w,hw⟩:∃w,w=(au p).w (an p):=⟨_,rfl⟩
 have hNi:(au p).N+i<w:=by rw[hw];show (au p).N+i<(au p).N+p.2.length+1;omega
 have hNw:(au p).N+p.2.length+1=w:=hw.symm
 have hm6:p.2.length<=6:=h2
 rw[<-hw] at hf hbb h1 ⊢
 have fin:∀(σ:Int),σ=(au p).σ i->(List.range i++[(dY i w ((au p).M (an p))).length+0],dY i w ((au p).M (an p))++[some ((bj w fun k=>σ*f k).set ((au p).N+i) 1)])=(List.range (i+1),dY (i+1) w ((au p).M (an p))):=fun σ hσ=>by
  rw[mF,Nat.add_zero,<-List.range_succ,kc hNi,<-EB]
  congr 3
  congr 1
  refine di fun k hk=>?_
  have hok:=mo hv
  unfold Lay.M
  rw[hf k hk,hσ]
  have hNn:(an p).n<=(au p).N:=hok.n
  have hRe:(au p).R (an p)=(au p).N+p.2.length:=rfl
  have hme:(an p).m=p.2.length:=rfl
  rw[hRe,hme]
  by_cases c1:k<(an p).n
  ·rw[if_neg (by omega),if_neg (by omega),if_pos c1,if_neg]
   ·rfl
   ·rintro ⟨e1,e2⟩
    have:=(hok.sl i hi e1).1
    omega
  ·rw[if_neg c1]
   by_cases c2:k<(au p).N
   ·rw[if_neg (by omega),if_neg (by omega),if_pos c2]
    by_cases c3:(an p).kd i≠3/\k=(au p).sl i
    ·rw[if_pos c3,if_pos c3]
    ·rw[if_neg c3,if_neg c3,List.getD_eq_getElem?_getD,List.getElem?_eq_none (by rw[hl];exact Nat.not_lt.1 c1)]
     simp
   ·rw[if_neg c2]
    by_cases c3:k<(au p).N+p.2.length
    ·rw[if_pos c3]
     by_cases c4:k=(au p).N+i
     ·rw[if_pos c4,if_pos c4]
     ·rw[if_neg c4,if_neg c4,if_neg (by omega),if_neg]
      ·rw[List.getD_eq_getElem?_getD,List.getElem?_eq_none (by rw[hl];exact Nat.not_lt.1 c1)]
       simp
      ·rintro ⟨e1,e2⟩
       have:=(hok.sl i hi e1).2
       omega
    ·rw[if_neg c3,if_neg (by omega),if_pos (by omega)]
 have hadd:IntKind.wrap .i64 (((au p).N:Int)+(i:Int))=(((au p).N+i:Nat):Int):=by rw[aA (by omega) (by omega)];rfl
 have hg:∀{n k:Nat},n<=1000->k<=24->eC n k=true:=fun {n k} h1 h2=>eK (Nat.le_trans (Nat.mul_le_mul h1 h2) (by decide))
 have tail:∀(σ:Int),σ=(au p).σ i->(bif inB (IntKind.wrap .i64 (((au p).N:Int)+(i:Int))) (bj w fun k=>σ*f k).length then bif Nat.ble (Nat.succ (Int.toNat (IntKind.wrap .i64 (((au p).N:Int)+(i:Int))))) (bj w fun k=>σ*f k).length then
   bif eC ((List.range i).length+1) 24 then bif eC ((bj i (au p).σ).length+1) 8 then bif eC ((jA i fun k=>(au p).N+k).length+1) 8 then
   again (s,IntKind.wrap .i64 ((i:Int)+1),(List.range i++[(dY i w ((au p).M (an p))).length+0],dY i w ((au p).M (an p))++[some ((bj w fun k=>σ*f k).set (Int.toNat (IntKind.wrap .i64 (((au p).N:Int)+(i:Int)))) 1)]),1,
    (jA i fun k=>(au p).N+k)++[IntKind.wrap .i64 (((au p).N:Int)+(i:Int))],bj i (au p).σ++[σ],p.1,((au p).N:Int),(((au p).R (an p):Nat):Int),PUnit.unit) else none else none else none else none else none) =
   again (s,((i+1:Nat):Int),(List.range (i+1),dY (i+1) w ((au p).M (an p))),1,jA (i+1) (fun k=>(au p).N+k),bj (i+1) (au p).σ,p.1,((au p).N:Int),(((au p).R (an p):Nat):Int),PUnit.unit):=fun σ hσ=>by
  rw[hadd,z9,fin σ hσ,ay,aH,z7 hNi,dK hNi,List.length_range,ay,jt,hg (by omega) (by omega),hg (by omega) (by omega),aX (show i<=1000000 by omega),hσ,kZ]
  simp only[cT]
  rw[show (jA i fun k=>(au p).N+k)++[(((au p).N+i:Nat):Int)]=jA (i+1) (fun k=>(au p).N+k) from kZ (f:=fun k=>(((au p).N+k:Nat):Int))]
 unfold PC
 simp only[sB,z9]
 by_cases hneg:(p.2.getD i rw0).2.2<0
 ·have hs:(au p).σ i= -1:=if_pos hneg
  rw[z7 hneg,cond_true]
  refine bR w (by omega) (fun k=>((k:Int),bj w (fun j=>if j<k then -1*f j else f j),PUnit.unit)) _ ?_ (fun again2 k hk=>?_) (fun again2=>?_)
  ·rw[di (f:=fun j=>if j<0 then -1*f j else f j) (g:=f) fun j _=>if_neg (by omega)];rfl
  ·have hb:=hbb k hk
   simp only[ay,aH,z9,z7 hk,z7 (show (k:Int)<w by omega),dK (show Nat.succ k<=w from hk),bC hk,cT,if_neg (Nat.lt_irrefl k),aX (show k<=1000000 by omega),aA (show -9223372036854775808<=0 - f k by omega) (by omega),kc hk]
   congr 3
   refine di fun j _=>?_
   by_cases c:j=k
   ·rw[if_pos c,if_pos (by omega),c];omega
   ·rw[if_neg c]
    by_cases c2:j<k
    ·rw[if_pos c2,if_pos (by omega)]
    ·rw[if_neg c2,if_neg (by omega)]
  ·simp only[ay,z8 (show ¬ (w:Int)<w by omega),cF]
   rw[di (f:=fun j=>if j<w then -1*f j else f j) (g:=fun j=> -1*f j) fun j hj=>if_pos hj]
   have:=tail (-1) hs.symm
   simp only[ay] at this
   exact this
 ·have hs:(au p).σ i=1:=if_neg hneg
  rw[z8 hneg,cond_false]
  have:=tail 1 hs.symm
  rw[di (f:=fun j=>1*f j) (g:=f) fun j _=>Int.one_mul _] at this
  exact this
theorem Ik {p:Pg} (hv:ValidP p) {R:Type} {k:St->Option R} :
  lpK St R (fun again x=>Qd p again k x) ((p.1.length:Int),(0:Int),([],[]),(1:Int),[],[],p.1,((au p).N:Int),(((au p).R (an p):Nat):Int),PUnit.unit) =
   k (((au p).N:Int),(p.2.length:Int),i7 p.2.length ((au p).w (an p)) ((au p).M (an p)),1,jA p.2.length (fun k=>(au p).N+k),bj p.2.length (au p).σ,p.1,((au p).N:Int),(((au p).R (an p):Nat):Int),PUnit.unit):=by
 obtain ⟨h1,h2⟩:=xF hv
 have hok:=mo hv
 have hm6:p.2.length<=6:=h2
 obtain ⟨w,hw⟩:∃w,w=(au p).w (an p):=⟨_,rfl⟩
 have hR1:(au p).R (an p)+1=w:=by rw[hw]
 refine bR p.2.length (by omega) (fun i=>(((p.1.length+gi p i:Nat):Int),(i:Int),(List.range i,dY i ((au p).w (an p)) ((au p).M (an p))),1,jA i (fun k=>(au p).N+k),bj i (au p).σ,p.1,((au p).N:Int),(((au p).R (an p):Nat):Int),PUnit.unit)) _ rfl (fun again i hi=>?_) (fun again=>?_)
 ·have hr:p.2.getD i rw0 ∈ p.2:=by rw[aP hi];exact List.getElem_mem _
  have hl:=hv.len _ hr
  have hkd:=hv.kind _ hr
  have hN:p.1.length<=(au p).N:=hok.n
  have hNR:(au p).N+p.2.length=(au p).R (an p):=rfl
  have hRw:(au p).R (an p)<w:=by omega
  rw[<-hw] at h1
  have hsl:(au p).sl i=p.1.length+gi p i:=rfl
  have hcs:=sA (p:=p) i
  unfold Qd
  simp only[aX (show (au p).R (an p)<=1000000 by omega),hR1,z9,aH,z7 hi,z7 (show (i:Int)<p.2.length by omega),z7 (show (0:Int)<=(w:Nat) by omega),eK (show w*8<=140737488355328 by omega),z7 hRw,dK (show Nat.succ ((au p).R (an p))<=w from hRw),Bool.and_self,cT,sB,KX (show (p.2.getD i rw0).1.length<=w by omega),kc hRw]
  by_cases k3:(p.2.getD i rw0).2.1=3
  ·have ec:gi p (i+1)=gi p i:=by simp only[gi,if_pos k3,Nat.add_zero]
   rw[ec,z8 (show ¬ (p.2.getD i rw0).2.1=1 by omega),z8 (show ¬ (p.2.getD i rw0).2.1=2 by omega)]
   simp only[cF]
   have:=Gs hv (again:=again) (s0:=((p.1.length+gi p i:Nat):Int)) (s:=((p.1.length+gi p i:Nat):Int)) hi (f:=fun k=>if k=(au p).R (an p) then (p.2.getD i rw0).2.2 else (p.2.getD i rw0).1.getD k 0) (fun k hk=>by
    show (if k=(au p).R (an p) then (p.2.getD i rw0).2.2 else (p.2.getD i rw0).1.getD k 0)=if k=(au p).R (an p) then (p.2.getD i rw0).2.2 else _
    by_cases c:k=(au p).R (an p)
    ·rw[if_pos c,if_pos c]
    ·rw[if_neg c,if_neg c,if_neg]
     rintro ⟨e,_⟩
     exact e k3)
   rw[<-hw] at this
   exact this
  ·have hslN:(au p).sl i<(au p).N:=(hok.sl i hi k3).2
   have hslw:p.1.length+gi p i<w:=by omega
   have ec:gi p (i+1)=gi p i+1:=by simp only[gi,if_neg k3]
   rw[ec]
   have step:∀(v:Int),v=(if (an p).kd i=1 then 1 else -1)->PC p again ((((p.1.length+gi p i:Nat):Int)),(i:Int),(List.range i,dY i ((au p).w (an p)) ((au p).M (an p))),1,jA i (fun k=>(au p).N+k),bj i (au p).σ,p.1,((au p).N:Int),(((au p).R (an p):Nat):Int),PUnit.unit)
     (((p.1.length+gi p i+1:Nat):Int),(bj w fun k=>if k=(au p).R (an p) then (p.2.getD i rw0).2.2 else (p.2.getD i rw0).1.getD k 0).set (p.1.length+gi p i) v,PUnit.unit)=again (((p.1.length+(gi p i+1):Nat):Int),((i+1:Nat):Int),(List.range (i+1),dY (i+1) ((au p).w (an p)) ((au p).M (an p))),1,jA (i+1) (fun k=>(au p).N+k),bj (i+1) (au p).σ,p.1,((au p).N:Int),(((au p).R (an p):Nat):Int),PUnit.unit):=fun v hvv=>by
    rw[kc hslw]
    have:=Gs hv (again:=again) (s0:=((p.1.length+gi p i:Nat):Int)) (s:=((p.1.length+gi p i+1:Nat):Int)) hi (f:=fun k=>if k=p.1.length+gi p i then v else if k=(au p).R (an p) then (p.2.getD i rw0).2.2 else (p.2.getD i rw0).1.getD k 0) (fun k hk=>by
     show (if k=p.1.length+gi p i then v else if k=(au p).R (an p) then (p.2.getD i rw0).2.2 else (p.2.getD i rw0).1.getD k 0)=if k=(au p).R (an p) then (p.2.getD i rw0).2.2 else _
     by_cases c:k=(au p).R (an p)
     ·rw[if_pos c,if_pos c,if_neg (by omega)]
     ·rw[if_neg c,if_neg c]
      by_cases c2:k=p.1.length+gi p i
      ·rw[if_pos c2,if_pos ⟨k3,c2⟩,hvv]
      ·rw[if_neg c2,if_neg fun h=>c2 h.2])
    rw[<-hw] at this ⊢
    exact this
   by_cases k1:(p.2.getD i rw0).2.1=1
   ·have:=step 1 (if_pos (show (an p).kd i=1 from k1)).symm
    rw[<-hw] at this
    rw[z7 k1]
    simp only[cT,z7 hslw,dK (show Nat.succ (p.1.length+gi p i)<=w from hslw),aX (show p.1.length+gi p i<=1000000 by omega)]
    exact this
   ·have k2:(p.2.getD i rw0).2.1=2:=by omega
    have:=step (-1) (if_neg (show ¬ (an p).kd i=1 from k1)).symm
    rw[<-hw] at this
    rw[z8 k1,z7 k2]
    simp only[cT,cF,z7 hslw,dK (show Nat.succ (p.1.length+gi p i)<=w from hslw),aX (show p.1.length+gi p i<=1000000 by omega)]
    exact this
 ·unfold Qd
  simp only[z8 (show ¬ (p.2.length:Int)<p.2.length by omega),cF]
  rfl
theorem zI {p:Pg} (hv:ValidP p) {R:Type} {F:(Int×Int×PUnit->Option R)->Int×Int×PUnit->Option R} (Q:Option R->Prop)
  (hF:∀again (i:Nat) (s:Int),i<p.2.length->F again (s,(i:Int),PUnit.unit)=bif !decide ((p.2.getD i rw0).2.1=3) then again (IntKind.wrap .i64 (s+1),((i+1:Nat):Int),PUnit.unit) else again (s,((i+1:Nat):Int),PUnit.unit))
  (hf:∀again,Q (F again (((gi p p.2.length:Nat):Int),(p.2.length:Int),PUnit.unit))):Q (lpK (Int×Int×PUnit) R F ((0:Int),(0:Int),PUnit.unit)):=by
 have hm:=hv.rows
 refine Lj Q p.2.length (by omega) (fun i=>(((gi p i:Nat):Int),(i:Int),PUnit.unit)) rfl (fun again i hi=>?_) hf
 rw[hF again i _ hi]
 have:=sA (p:=p) i
 by_cases k3:(p.2.getD i rw0).2.1=3
 ·rw[z7 k3]
  simp only[gi,if_pos k3,Nat.add_zero,Bool.not_true,cF]
 ·rw[z8 k3]
  simp only[gi,if_neg k3,Bool.not_false,cT,aX (show gi p i<=1000000 by omega)]
theorem xV {p:Pg} (hv:ValidP p) {R:Type} {k:St->Option R} (Q:Option R->Prop)
  (h:Q (k (((au p).N:Int),(p.2.length:Int),i7 p.2.length ((au p).w (an p)) ((au p).M (an p)),1,jA p.2.length (fun k=>(au p).N+k),bj p.2.length (au p).σ,p.1,((au p).N:Int),(((au p).R (an p):Nat):Int),PUnit.unit))) :
  Q (lpK St R (fun again x=>Qd p again k x) ((p.1.length:Int),(0:Int),([],[]),(1:Int),[],[],p.1,((au p).N:Int),(((au p).R (an p):Nat):Int),PUnit.unit)):=by
 rw[Ik hv]
 exact h
end
end Go.Proofs.YtegbncajloeepaaGreat

namespace Go.Proofs.YtegbncajloeepaaGreat
open Tryz Dn Dn.Sh
def fac (L:Lin):Nat->Int
 | 0=>L.F0
 | k+1=>L.F k
def pp (f:Nat->Int):Nat->Int
 | 0=>1
 | n+1=>pp f n*f n
def mx (f:Nat->Int):Nat->Int
 | 0=>f 0
 | n+1=>max (mx f n) (f (n+1))
def gg (L:Lin):Prop:=pp (fac L) (L.m+1)<=17592186044416/\pp (fac L) (L.m+1)*mx (fac L) L.m<=144115188075855872
instance (L:Lin):Decidable (gg L):=by unfold gg;infer_instance
theorem t9 (L:Lin) (k:Nat):1<=fac L k:=by
 cases k with
 | zero=>exact L.F0_pos
 | succ k=>exact L.F_pos k
theorem CG {f:Nat->Int}:∀{n:Nat},pp f (n+1)=f 0*pz n fun i=>f (i+1)
 | 0=>by simp[pp,pz]
 | n+1=>by
  have e:∀{n:Nat} {g:Nat->Int},pz (n+1) g=pz n g*g n:=by
   intro n
   induction n with
   | zero=>intro g;simp[pz]
   | succ n ih =>
    intro g
    have h:=ih (g:=fun i=>g (i+1))
    rw[pz,h,pz,Int.mul_assoc]
  rw[pp,CG (n:=n),e,Int.mul_assoc]
theorem Ve (L:Lin):pp (fac L) (L.m+1)=L.F0*L.P:=CG
theorem pF {f:Nat->Int} (h:∀i,1<=f i):∀n,1<=pp f n
 | 0=>by simp[pp]
 | n+1=>by
  have h1:=pF h n
  have h2:=Int.mul_le_mul h1 (h n) (by omega) (by omega)
  simp only[pp]
  omega
theorem Bj {f:Nat->Int} (h:∀i,1<=f i) {n:Nat}:∀{k:Nat},pp f n<=pp f (n+k)
 | 0=>Int.le_refl _
 | k+1=>by
  have h1:=Bj h (n:=n) (k:=k)
  have h2:=pF h (n+k)
  have h3:pp f (n+k)*1<=pp f (n+k)*f (n+k):=Int.mul_le_mul_of_nonneg_left (h _) (by omega)
  rw[<-Nat.add_assoc]
  simp only[pp]
  omega
theorem K8 {f:Nat->Int} {n:Nat}:∀{i:Nat},i<=n->f i<=mx f n:=by
 induction n with
 | zero=>intro i h;rw[show i=0 by omega];exact Int.le_refl _
 | succ n ih =>
  intro i h
  simp only[mx]
  by_cases e:i=n+1
  ·rw[e];omega
  ·have:=ih (i:=i) (by omega)
   omega
theorem Rn {f:Nat->Int} {B:Int}:∀{n:Nat},(∀i,i<=n->f i<=B)->mx f n<=B
 | 0,h=>h 0 (by omega)
 | n+1,h=>by
  have h1:=Rn (n:=n) fun i hi=>h i (by omega)
  have h2:=h (n+1) (by omega)
  simp only[mx]
  omega
theorem pZ {l:List Int} (h:∀n ∈ l,inC n=true) (j:Nat):ab (l.getD j 0)<=1048576:=by
 rw[qB]
 by_cases e:j<l.length
 ·exact z12 (h _ (by rw[aP e];exact List.getElem_mem _))
 ·rw[List.getD_eq_getElem?_getD,List.getElem?_eq_none (by omega)]
  simp
theorem oS {l:List Int} (h:∀n ∈ l,inC n=true) {n:Nat} (hn:n<=12):0<=sz n (fun j=>ab (l.getD j 0))/\sz n (fun j=>ab (l.getD j 0))<=12582912:=by
 refine ⟨iE fun _ _=>bF _,?_⟩
 have h1:=(ju (n:=n) (f:=fun j=>ab (l.getD j 0)) (B:=1048576) fun j _=>⟨by have:=bF (l.getD j 0);omega,pZ h j⟩).2
 omega
theorem zB {p:Pg} (hv:ValidP p) {k:Nat} (hk:k<=p.2.length):fac (an p) k<=2147483648:=by
 have hn:=hv.cost.2
 cases k with
 | zero =>
  have:=oS hv.cs hn
  show 1+sz p.1.length (fun j=>ab (p.1.getD j 0))<=_
  omega
 | succ k =>
  have hr:p.2.getD k rw0 ∈ p.2:=by rw[aP (show k<p.2.length by omega)];exact List.getElem_mem _
  have h1:=oS (hv.coefs _ hr) hn
  have h2:=z12 (hv.right _ hr)
  have h3:ab (p.2.getD k rw0).2.2<=1073741824:=qB.2 h2
  show 1+ab (p.2.getD k rw0).2.2+sz p.1.length (fun j=>ab ((p.2.getD k rw0).1.getD j 0))<=_
  omega
theorem CH {l:List Int} {more:Int} (h:∀n ∈ l,inC n=true) (hl:l.length<=12) (hm:inR more=true):dx l more=some (1+ab more+sz l.length fun j=>ab (l.getD j 0)):=by
 have hm:=z12 hm
 have hma:ab more<=1073741824:=qB.2 hm
 have hma0:=bF more
 unfold dx kU
 rw[uv (by omega) (by omega),obN]
 have e0:((more.natAbs:Nat):Int)=ab more:=rfl
 refine bR l.length (by omega) (fun i=>(1+ab more+sz i (fun j=>ab (l.getD j 0)),(i:Int),PUnit.unit)) _ ?_ (fun again i hi=>?_) (fun again=>?_)
 ·rw[e0,aA (x:=ab more) (by omega) (by omega),aA (by omega) (by omega)]
  simp only[sz,Int.add_zero]
  rfl
 ·have h1:=pZ h i
  have h0:=bF (l.getD i 0)
  have h2:=oS h (n:=i) (by omega)
  have h3: -1048576<=l.getD i 0/\l.getD i 0<=1048576:=qB.1 h1
  have e1:((l.getD i 0).natAbs:Int)=ab (l.getD i 0):=rfl
  simp only[aH,z9,z7 hi,z7 (show (i:Int)<l.length by omega),cT,uv (show -9223372036854775808<=l.getD i 0 by omega) (by omega),aa,e1,aX (show i<=1000000 by omega)]
  rw[aA (x:=ab (l.getD i 0)) (by omega) (by omega),aA (by omega) (by omega)]
  simp only[sz]
  congr 2
  omega
 ·simp only[z8 (show ¬ (l.length:Int)<l.length by omega),cF]
theorem Qy {n:Nat} {f:Nat->Int} (hn:n<=1000):dU (bj (n+1) f)=some (mx f n):=by
 unfold dU kX
 simp only[sB,ay,z8 (show ¬ ((n+1:Nat):Int)<1 by omega),cF,show inB (0:Int) (n+1)=true from rb (by omega) (by omega),cT,bC (show 0<n+1 by omega)]
 refine bR n (by omega) (fun i=>(mx f i,((i+1:Nat):Int),PUnit.unit)) _ rfl (fun again i hi=>?_) (fun again=>?_)
 ·simp only[z7 (show ((i+1:Nat):Int)<(n+1:Nat) by omega),aH,z7 (show i+1<n+1 by omega),z9,cT,bC (show i+1<n+1 by omega),He,aX (show i+1<=1000000 by omega)]
  rfl
 ·simp only[z8 (show ¬ ((n+1:Nat):Int)<(n+1:Nat) by omega),cF]
theorem xW {a b c:Int} (hc:0<c):a<=b / c↔a*c<=b:=Int.le_ediv_iff_mul_le hc
theorem xH {a b c:Int} (hc:0<c):a>b / c↔b<a*c:=Int.ediv_lt_iff_lt_mul hc
theorem ut {p:Pg} (hv:ValidP p):cg p=some (decide (gg (an p))):=by
 have hm:=hv.rows
 have hn:=hv.cost.2
 unfold cg nt
 rw[CH hv.cs hn (by decide),obN]
 obtain ⟨f,hf⟩:∃f,f=fac (an p):=⟨_,rfl⟩
 have hpos:∀i,1<=f i:=fun i=>by rw[hf];exact t9 _ i
 have hsm:∀k,k<=p.2.length->f k<=2147483648:=fun k hk=>by rw[hf];exact zB hv hk
 have hF:gg (an p)=(pp f (p.2.length+1)<=17592186044416/\pp f (p.2.length+1)*mx f p.2.length<=144115188075855872):=by rw[hf];rfl
 refine bR p.2.length (by omega) (fun i=>(bj (i+1) f,(i:Int),PUnit.unit)) _ ?_ (fun again i hi=>?_) (fun again=>?_)
 ·rw[hf]
  show _=([fac (an p) 0],(0:Int),PUnit.unit)
  congr 2
 ·have hr:p.2.getD i rw0 ∈ p.2:=by rw[aP hi];exact List.getElem_mem _
  have h1:=CH (hv.coefs _ hr) (by rw[hv.len _ hr];exact hn) (hv.right _ hr)
  simp only[aH,z9,z7 hi,z7 (show (i:Int)<p.2.length by omega),cT,h1,aa,ay,eK (show (i+1+1)*8<=140737488355328 by omega),aX (show i<=1000000 by omega)]
  have e:f (i+1)=1+ab (p.2.getD i rw0).2.2+sz (p.2.getD i rw0).1.length (fun j=>ab ((p.2.getD i rw0).1.getD j 0)):=by
   rw[hf,hv.len _ hr]
   rfl
  rw[<-e,kZ]
 ·simp only[z8 (show ¬ (p.2.length:Int)<p.2.length by omega),cF,ay,Qy (show p.2.length<=1000 by omega),aa]
  have hmx:1<=mx f p.2.length/\mx f p.2.length<=2147483648:=⟨Int.le_trans (hpos 0) (K8 (by omega)),Rn hsm⟩
  have round:∀{R:Type} {a b:Option R} (i:Nat),i<p.2.length+1->(bif nzB (f i) then bif decide (pp f i>IntKind.wrap .i64 (Int.tdiv 17592186044416 (f i))) then a else b else none)=bif decide (pp f (i+1)>17592186044416) then a else b:=fun i hi=>by
   have h1:=hpos i
   have h2:=hsm i (by omega)
   rw[ke (by omega),cond_true,Int.tdiv_eq_ediv_of_nonneg (by omega)]
   have h3:0<=17592186044416 / f i:=Int.ediv_nonneg (by omega) (by omega)
   have h4:17592186044416 / f i<=17592186044416:=Int.ediv_le_self _ (by omega)
   rw[aA (by omega) (by omega),decide_eq_decide.2 (xH (a:=pp f i) (show 0<f i by omega))]
   rfl
  rcases qO (p.2.length+1) (fun i=>decide (pp f (i+1)>17592186044416)) with hnone | ⟨q,hq,hbig,hleast⟩
  ·have hall:∀i,i<=p.2.length+1->pp f i<=17592186044416:=fun i hi=>by
    cases i with
    | zero=>simp[pp]
    | succ i=>have:=of_decide_eq_false (hnone i (by omega));omega
   refine bR (p.2.length+1) (by omega) (fun i=>(pp f i,(i:Int),PUnit.unit)) _ rfl (fun again i hi=>?_) (fun again=>?_)
   ·have h2:=hall (i+1) (by omega)
    have h3:=pF hpos (i+1)
    simp only[z7 (show (i:Int)<(p.2.length+1:Nat) by omega),aH,z7 hi,z9,bC hi,dK (show Nat.succ i<=p.2.length+1 from hi),cT,round i hi,hnone i hi,cF,aX (show i<=1000000 by omega)]
    rw[aA (x:=pp f i*f i) (by simp only[pp] at h2 h3;omega) (by simp only[pp] at h2;omega)]
    rfl
   ·simp only[z8 (show ¬ ((p.2.length+1:Nat):Int)<(p.2.length+1:Nat) by omega),cF]
    rw[ke (by omega),cond_true,Int.tdiv_eq_ediv_of_nonneg (by omega)]
    have h3:0<=144115188075855872 / mx f p.2.length:=Int.ediv_nonneg (by omega) (by omega)
    have h4:144115188075855872 / mx f p.2.length<=144115188075855872:=Int.ediv_le_self _ (by omega)
    rw[aA (by omega) (by omega)]
    congr 1
    refine decide_eq_decide.2 ?_
    rw[xW (a:=pp f (p.2.length+1)) (show 0<mx f p.2.length by omega),hF]
    exact ⟨fun h=>⟨hall _ (by omega),h⟩,fun h=>h.2⟩
  ·have hlow:∀i,i<=q->pp f i<=17592186044416:=fun i hi=>by
    cases i with
    | zero=>simp[pp]
    | succ i=>have:=of_decide_eq_false (hleast i (by omega));omega
   refine bR q (by omega) (fun i=>(pp f i,(i:Int),PUnit.unit)) _ rfl (fun again i hi=>?_) (fun again=>?_)
   ·have h2:=hlow (i+1) (by omega)
    have h3:=pF hpos (i+1)
    simp only[z7 (show (i:Int)<(p.2.length+1:Nat) by omega),aH,z7 (show i<p.2.length+1 by omega),z9,bC (show i<p.2.length+1 by omega),dK (show Nat.succ i<=p.2.length+1 by omega),cT,round i (by omega),hleast i hi,cF,aX (show i<=1000000 by omega)]
    rw[aA (x:=pp f i*f i) (by simp only[pp] at h2 h3;omega) (by simp only[pp] at h2;omega)]
    rfl
   ·simp only[z7 (show (q:Int)<(p.2.length+1:Nat) by omega),aH,z7 hq,z9,bC hq,dK (show Nat.succ q<=p.2.length+1 from hq),cT,round q hq,hbig]
    congr 1
    refine (z8 ?_).symm
    rw[hF]
    rintro ⟨h1,_⟩
    have h2:=z12 hbig
    have h3:=Bj hpos (n:=q+1) (k:=p.2.length - q)
    rw[show q+1+(p.2.length - q)=p.2.length+1 by omega] at h3
    omega
theorem xk {p:Pg} (hv:ValidP p) (hf:gg (an p)):Bnd (an p) (au p):=by
 obtain ⟨h1,h2⟩:=xF hv
 refine ⟨mo hv,by omega,by omega,?_⟩
 rw[<-Ve]
 exact hf.1
theorem M0 {p:Pg} (hf:gg (an p)) {k:Nat} (hk:k<=p.2.length):(an p).F0*(an p).P*fac (an p) k<=144115188075855872:=by
 rw[<-Ve]
 have h1:=K8 (f:=fac (an p)) hk
 have h2:=pF (t9 (an p)) ((an p).m+1)
 have h3:=Int.mul_le_mul_of_nonneg_left h1 (show 0<=pp (fac (an p)) ((an p).m+1) by omega)
 exact Int.le_trans h3 hf.2
end Go.Proofs.YtegbncajloeepaaGreat

namespace Go.Proofs.YtegbncajloeepaaGreat
noncomputable section
open Tryz Dn Dn.Sh
theorem vC {p:Pg} (j:Nat):jO p.1 j=ca (an p) j:=by
 unfold ca jO
 by_cases h:j<(an p).n
 ·rw[if_pos h];rfl
 ·rw[if_neg h,List.getD_eq_getElem?_getD,List.getElem?_eq_none (Nat.not_lt.1 h)];rfl
theorem KB {n d:Int} (hd:d≠0) (hn:n.natAbs<=1152921504606846976) (hd2:d.natAbs<=1152921504606846976):qw (FA n d)=(prQ ((n:Rat) / d),0,()):=by
 obtain ⟨m1,m2,m3⟩:=AK (s:=decide (n<0) !=decide (d<0)) (n:=n.natAbs) (d:=d.natAbs) (by omega)
 obtain ⟨m4,m5⟩:=Gq (s:=decide (n<0) !=decide (d<0)) m2 m3
 have hf:dh (FA n d):=by
  unfold dh FA
  rw[m1,m4,m5]
  have a1:n.natAbs / Nat.gcd n.natAbs d.natAbs<=n.natAbs:=Nat.div_le_self _ _
  have a2:d.natAbs / Nat.gcd n.natAbs d.natAbs<=d.natAbs:=Nat.div_le_self _ _
  refine ⟨?_,by rw[<-m5] at *;omega⟩
  unfold sgn
  generalize n.natAbs / Nat.gcd n.natAbs d.natAbs=p at *
  split<;>omega
 unfold qw
 rw[if_pos hf,Ay hd]
theorem ug {n d:Int} (hd:d≠0) (hn:n.natAbs<=1152921504606846976) (hd2:d.natAbs<=1152921504606846976):dh ((n:Rat) / d):=by
 have h:=KB hd hn hd2
 rw[Ay hd] at h
 rcases gd ((n:Rat) / d) with ⟨h1,_⟩ | ⟨_,h2⟩
 ·exact h1
 ·rw[h2] at h
  exact absurd (show (5:Int)=0 from congrArg (fun x:Fq×Int×Unit=>x.2.1) h) (by decide)
theorem wT {M:List (List Int)} {d n:Int} {x2 x3 cs:List Int} {x5 x6:Int} (hd:0<d/\d<=17592186044416) (hn:n.natAbs<=1152921504606846976):aM (M,d,x2,x3,cs,x5,x6) n=some (prQ ((n:Rat) / (d:Rat))):=by
 simp only[aM,i8,Qc (show -9223372036854775808<=n by omega) (by omega) (show -9223372036854775808<=d by omega) (by omega),aa,if_neg (show ¬ d=0 by omega)]
 rw[Ay (by omega)]
 unfold qw
 rw[if_pos (ug (by omega) hn (by omega))]
theorem QN {n:Nat}:List.replicate n (0:Int)=bj n fun _=>0:=by
 refine List.ext_getElem (by rw[ay];simp) fun i h1 h2=>?_
 rw[w4,List.getElem_replicate]
theorem Az {p:Pg} (k:Nat) (x:Int):((au p).σ k*x).natAbs=x.natAbs:=by
 show ((if (p.2.getD k rw0).2.2<0 then (-1:Int) else 1)*x).natAbs=_
 split<;>omega
theorem Kc {m w:Nat} {T:Nat->Nat->Int}:((i7 m w T).1.all fun x=>fW (dY m w T) x)=true:=gT
theorem Lv {m w:Nat} {T:Nat->Nat->Int}:(i7 m w T).1.map (fun x=>bI (dY m w T) x)=qP m w T:=gU
abbrev xL (p:Pg) (S:Sx):List Fq:=bj p.1.length fun j=>prQ (Bn (an p).m ((au p).R (an p)) S j)
abbrev yL (p:Pg) (wc:Nat->Int) (S:Sx):List Fq:=bj p.2.length fun k=>prQ (rB (an p).m (au p).N wc S (au p).σ k)
def XK (p:Pg) (S:Sx):Int:=sz (an p).m fun i=>ca (an p) (S.β i)*S.T i ((au p).R (an p))
abbrev E9 (p:Pg) (S:Sx):Rat:=(XK p S:Rat) / (S.d:Rat)
structure Infeas (p:Pg) (S:Sx):Prop where
 val:(au p).Val (an p) S
 zr:∀j,j<(au p).N->0<=zr (an p).m (eG (au p).N) S j
 pos:0<sz (an p).m fun i=>eG (au p).N (S.β i)*S.T i ((au p).R (an p))
structure iB (p:Pg) (S:Sx) (q:Nat):Prop where
 val:(au p).Val (an p) S
 az:AZ (an p) (au p) S
 lt:q<(au p).N
 neg:zr (an p).m (ca (an p)) S q<0
 no:∀i,i<(an p).m->S.T i q<=0
structure Opt (p:Pg) (S:Sx):Prop where
 val:(au p).Val (an p) S
 az:AZ (an p) (au p) S
 zr:∀j,j<(au p).N->0<=zr (an p).m (ca (an p)) S j
abbrev Ar:Fq×List Fq×List Fq:=((0,0),[],[])
def yj (p:Pg) (o:Option ((Fq×List Fq×List Fq)×Int×Unit)):Prop :=
 (∃S,Infeas p S/\o=some (Ar,22,()))\/(∃S q,iB p S q/\o=some (Ar,21,()))\/∃S,Opt p S/\o=some ((prQ (E9 p S),xL p S,yL p (ca (an p)) S),0,())
theorem obQ {T R:Type} {Q:Option R->Prop} {o:Option T} {t:T} {k:T->Option R} (h:o=some t) (hk:Q (k t)):Q (ah o k):=by
 rw[h]
 exact hk
theorem MY {p:Pg} (hv:ValidP p) (hf:gg (an p)):yj p (cU p):=by
 have hB:=xk hv hf
 obtain ⟨hw25,hm6'⟩:=xF hv
 have hm6:p.2.length<=6:=hm6'
 have hn:=hv.cost.2
 have hok:=mo hv
 have hpow:(au p).w (an p) ^ (an p).m<=1180591620717411303424:=Nat.le_trans (Nat.pow_le_pow_left (show _<=64 by omega) _) (Nat.le_trans (Nat.pow_le_pow_right (by omega) hm6') (by decide))
 have hcnt:=sA (p:=p) p.2.length
 have hNe:IntKind.wrap .i64 ((p.1.length:Int)+(gi p p.2.length:Nat))=((au p).N:Int):=by rw[aA (by omega) (by omega)];rfl
 have hRe:IntKind.wrap .i64 (((au p).N:Int)+(p.2.length:Int))=(((au p).R (an p):Nat):Int):=by
  have:(au p).N=p.1.length+gi p p.2.length:=rfl
  rw[aA (by omega) (by omega)];rfl
 unfold cU jH
 rw[mE,obN,iq.2 hv]
 simp only[Bool.not_true,cF]
 rw[ut hv,obN,z7 hf]
 simp only[Bool.not_true,cF]
 refine zI hv (yj p) (fun again i s hi=>?_) (fun again=>?_)
 ·simp only[z7 (show (i:Int)<p.2.length by omega),aH,z7 hi,z9,cT,aX (show i<=1000000 by omega)]
 simp only[z8 (show ¬ (p.2.length:Int)<p.2.length by omega),cF,bi,iv,eK (show (0+p.1.length)*8<=140737488355328 by omega),cT,aa,hNe,hRe]
 refine xV hv (yj p) ?_
 obtain ⟨S,ok,h1,hvS,h2,h3⟩:=Df hB hpow (x3:=bj p.2.length (au p).σ) (cs:=p.1) (Lay.first hok)
 refine obQ (Q:=yj p) h1 ?_
 cases ok with
 | false =>
  simp only[Bool.not_false,cT]
  exact .inl ⟨S,⟨hvS,(h3 rfl).1,(h3 rfl).2⟩,rfl⟩
 | true =>
  simp only[Bool.not_true,cF]
  obtain ⟨S,ok,h1,hvS,haS,h2,h3⟩:=Ev hB hpow (x3:=bj p.2.length (au p).σ) vC hvS (h2 rfl)
  refine obQ (Q:=yj p) h1 ?_
  cases ok with
  | false =>
   simp only[Bool.not_false,cT]
   obtain ⟨q,e1,e2,e3⟩:=h3 rfl
   exact .inr (.inl ⟨S,q,⟨hvS,haS,e1,e2,e3⟩,rfl⟩)
  | true =>
   simp only[Bool.not_true,cF,z9,z7 (show (0:Int)<=(p.1.length:Nat) by omega),eK (show p.1.length*8<=140737488355328 by omega),Bool.and_self,cT,QN]
   refine .inr (.inr ⟨S,⟨hvS,haS,h2 rfl⟩,?_⟩)
   obtain ⟨⟨d1,d2⟩,hb⟩:=hB.tab hvS.tb
   obtain ⟨_,hbP⟩:=hB.tabP hvS.tb
   have hRw:(au p).R (an p)<(au p).w (an p):=by unfold Lay.R Lay.w;omega
   have hm:(an p).m=p.2.length:=rfl
   have hcR:∀i,i<(an p).m-> -17592186044416<=ca (an p) (S.β i)*S.T i ((au p).R (an p))/\ca (an p) (S.β i)*S.T i ((au p).R (an p))<=17592186044416:=fun i hi=>hB.cost (hbP i _ hi hRw) _
   have hTR:∀i,i<(an p).m-> -17592186044416<=S.T i ((au p).R (an p))/\S.T i ((au p).R (an p))<=17592186044416:=fun i hi=>by have:=hb i _ hi hRw;omega
   refine bR (an p).m (by omega) (fun i=>(sz i (fun k=>ca (an p) (S.β k)*S.T k ((au p).R (an p))),(i:Int),bj p.1.length (fun j=>sz i fun k=>if S.β k=j then S.T k ((au p).R (an p)) else 0),PUnit.unit)) _ rfl (fun again i hi=>?_) (fun again=>?_)
   ·have hiR:=hcR i hi
    have hs:=ju (n:=i) (f:=fun k=>ca (an p) (S.β k)*S.T k ((au p).R (an p))) (B:=17592186044416) fun k hk=>hcR k (by omega)
    have h3:(i:Int)*17592186044416<=6*17592186044416:=z11 (by omega) (by omega)
    simp only[jt,aH,z9,z7 hi,z7 (show (i:Int)<(an p).m by omega),dK (show Nat.succ i<=(an p).m from hi),jZ hi,cT,Kc,Lv,wN,vC,aa,ic,ly hi,j4,gY hi,ay,bC hRw,z7 hRw,dK (show Nat.succ ((au p).R (an p))<=(au p).w (an p) from hRw),aX (show i<=1000000 by omega)]
    rw[aA (x:=ca (an p) (S.β i)*S.T i ((au p).R (an p))) (by omega) (by omega),aA (by omega) (by omega)]
    by_cases c:S.β i<p.1.length
    ·simp only[z7 (show (S.β i:Int)<p.1.length by omega),z7 c,dK (show Nat.succ (S.β i)<=p.1.length from c),cT,kc c]
     congr 3
     congr 1
     refine di fun j _=>?_
     by_cases e:j=S.β i
     ·subst e
      rw[if_pos rfl]
      simp only[sz]
      rw[gW fun k hk=>if_neg fun e=>by have:=hvS.tb.inj (show k<(an p).m by omega) hi e;omega,if_pos trivial,Int.zero_add]
     ·rw[if_neg e]
      simp only[sz]
      rw[if_neg (Ne.symm e),Int.add_zero]
    ·simp only[z8 (show ¬ (S.β i:Int)<p.1.length by omega),cF]
     congr 3
     congr 1
     refine di fun j hj=>?_
     simp only[sz]
     rw[if_neg (by omega),Int.add_zero]
   have hsV:=ju (n:=(an p).m) (f:=fun k=>ca (an p) (S.β k)*S.T k ((au p).R (an p))) (B:=17592186044416) hcR
   have h6:((an p).m:Int)*17592186044416<=6*17592186044416:=z11 (by omega) (by omega)
   simp only[jt,z8 (show ¬ ((an p).m:Int)<(an p).m by omega),cF,gT,gU,cT,wT ⟨d1,d2⟩ (show (sz (an p).m fun k=>ca (an p) (S.β k)*S.T k ((au p).R (an p))).natAbs<=1152921504606846976 by omega),aa,ay]
   refine bR p.1.length (by omega) (fun j=>((j:Int),prQ (E9 p S),bj j (fun j=>prQ (Bn (an p).m ((au p).R (an p)) S j)),[],PUnit.unit)) _ rfl (fun again j hj=>?_) (fun again=>?_)
   ·have hx:=ju (n:=(an p).m) (f:=fun k=>if S.β k=j then S.T k ((au p).R (an p)) else 0) (B:=17592186044416) fun k hk=>by
     have:=hTR k hk
     split<;>omega
    simp only[aH,z9,z7 hj,z7 (show (j:Int)<p.1.length by omega),dK (show Nat.succ j<=p.1.length from hj),bC hj,cT,wT ⟨d1,d2⟩ (show (sz (an p).m fun k=>if S.β k=j then S.T k ((au p).R (an p)) else 0).natAbs<=1152921504606846976 by omega),aa,ay,eK (show (j+1)*16<=140737488355328 by omega),aX (show j<=1000000 by omega)]
    rw[show prQ (((sz (an p).m fun k=>if S.β k=j then S.T k ((au p).R (an p)) else 0:Int):Rat) / (S.d:Rat))=(fun j=>prQ (Bn (an p).m ((au p).R (an p)) S j)) j from rfl,kZ]
   simp only[z8 (show ¬ (p.1.length:Int)<p.1.length by omega),cF]
   refine bR p.2.length (by omega) (fun k=>((k:Int),prQ (E9 p S),xL p S,bj k (fun k=>prQ (rB (an p).m (au p).N (ca (an p)) S (au p).σ k)),PUnit.unit)) _ rfl (fun again k hk=>?_) (fun again=>?_)
   ·have hNk:(au p).N+k<(au p).w (an p):=by unfold Lay.w;omega
    have hcN:∀i,i<(an p).m-> -17592186044416<=ca (an p) (S.β i)*S.T i ((au p).N+k)/\ca (an p) (S.β i)*S.T i ((au p).N+k)<=17592186044416:=fun i hi=>hB.cost (hbP i _ hi hNk) _
    have hNke:IntKind.wrap .i64 (((au p).N:Int)+(k:Int))=(((au p).N+k:Nat):Int):=by rw[aA (by omega) (by omega)];rfl
    simp only[z7 (show (k:Int)<p.2.length by omega),cT,hNke]
    refine bR (an p).m (by omega) (fun i=>(sz i (fun i=>ca (an p) (S.β i)*S.T i ((au p).N+k)),(i:Int),PUnit.unit)) _ rfl (fun again2 i hi=>?_) (fun again2=>?_)
    ·have hiR:=hcN i hi
     have hs:=ju (n:=i) (f:=fun i=>ca (an p) (S.β i)*S.T i ((au p).N+k)) (B:=17592186044416) fun k hk=>hcN k (by omega)
     have h3:(i:Int)*17592186044416<=6*17592186044416:=z11 (by omega) (by omega)
     simp only[aH,z9,z7 hi,z7 (show (i:Int)<(an p).m by omega),dK (show Nat.succ i<=(an p).m from hi),jZ hi,cT,wN,vC,aa,ic,ly hi,j4,gY hi,ay,bC hNk,z7 hNk,dK (show Nat.succ ((au p).N+k)<=(au p).w (an p) from hNk),aX (show i<=1000000 by omega)]
     rw[aA (x:=ca (an p) (S.β i)*S.T i ((au p).N+k)) (by omega) (by omega),aA (by omega) (by omega)]
     rfl
    ·have hs:=ju (n:=(an p).m) (f:=fun i=>ca (an p) (S.β i)*S.T i ((au p).N+k)) (B:=17592186044416) hcN
     have hab:=Az (p:=p) k (sz (an p).m fun i=>ca (an p) (S.β i)*S.T i ((au p).N+k))
     simp only[z8 (show ¬ ((an p).m:Int)<(an p).m by omega),cF,ay,aH,z9,z7 hk,dK (show Nat.succ k<=p.2.length from hk),bC hk,cT,aA (x:=(au p).σ k*sz (an p).m fun i=>ca (an p) (S.β i)*S.T i ((au p).N+k)) (by omega) (by omega),wT ⟨d1,d2⟩ (show ((au p).σ k*sz (an p).m fun i=>ca (an p) (S.β i)*S.T i ((au p).N+k)).natAbs<=1152921504606846976 by omega),aa,eK (show (k+1)*16<=140737488355328 by omega),aX (show k<=1000000 by omega)]
     rw[show prQ ((((au p).σ k*sz (an p).m fun i=>ca (an p) (S.β i)*S.T i ((au p).N+k):Int):Rat) / (S.d:Rat))=(fun k=>prQ (rB (an p).m (au p).N (ca (an p)) S (au p).σ k)) k from rfl,kZ]
   ·simp only[z8 (show ¬ (p.2.length:Int)<p.2.length by omega),cF]
end
end Go.Proofs.YtegbncajloeepaaGreat

namespace Go.Proofs.YtegbncajloeepaaGreat
open Tryz Dn Dn.Sh
def wS (p:Pg) (o:Option (List Fq×Int×Unit)):Prop :=
 (∃S,Infeas p S/\o=some (yL p (eG (au p).N) S,0,()))\/∃S,(au p).Val (an p) S/\AZ (an p) (au p) S/\o=some ([],12,())
theorem Ib {p:Pg} (hv:ValidP p) (hf:gg (an p)):wS p (cd p):=by
 have hB:=xk hv hf
 obtain ⟨hw25,hm6'⟩:=xF hv
 have hm6:p.2.length<=6:=hm6'
 have hn:=hv.cost.2
 have hok:=mo hv
 have hpow:(au p).w (an p) ^ (an p).m<=1180591620717411303424:=Nat.le_trans (Nat.pow_le_pow_left (show _<=64 by omega) _) (Nat.le_trans (Nat.pow_le_pow_right (by omega) hm6') (by decide))
 have hcnt:=sA (p:=p) p.2.length
 have hNe:IntKind.wrap .i64 ((p.1.length:Int)+(gi p p.2.length:Nat))=((au p).N:Int):=by rw[aA (by omega) (by omega)];rfl
 have hRe:IntKind.wrap .i64 (((au p).N:Int)+(p.2.length:Int))=(((au p).R (an p):Nat):Int):=by
  have:(au p).N=p.1.length+gi p p.2.length:=rfl
  rw[aA (by omega) (by omega)];rfl
 unfold cd hH
 rw[mE,obN,iq.2 hv]
 simp only[Bool.not_true,cF]
 rw[ut hv,obN,z7 hf]
 simp only[Bool.not_true,cF]
 refine zI hv (wS p) (fun again i s hi=>?_) (fun again=>?_)
 ·simp only[z7 (show (i:Int)<p.2.length by omega),aH,z7 hi,z9,cT,aX (show i<=1000000 by omega)]
 simp only[z8 (show ¬ (p.2.length:Int)<p.2.length by omega),cF,bi,iv,eK (show (0+p.1.length)*8<=140737488355328 by omega),cT,aa,hNe,hRe]
 refine xV hv (wS p) ?_
 obtain ⟨S,ok,h1,hvS,h2,h3⟩:=Df hB hpow (x3:=bj p.2.length (au p).σ) (cs:=p.1) (Lay.first hok)
 refine obQ (Q:=wS p) h1 ?_
 cases ok with
 | true =>
  simp only[cT]
  exact .inr ⟨S,hvS,h2 rfl,rfl⟩
 | false =>
  simp only[cF]
  refine .inl ⟨S,⟨hvS,(h3 rfl).1,(h3 rfl).2⟩,?_⟩
  obtain ⟨⟨d1,d2⟩,hb⟩:=hB.tab hvS.tb
  have hm:(an p).m=p.2.length:=rfl
  refine bR p.2.length (by omega) (fun k=>(bj k (fun k=>prQ (rB (an p).m (au p).N (eG (au p).N) S (au p).σ k)),(k:Int),PUnit.unit)) _ rfl (fun again k hk=>?_) (fun again=>?_)
  ·have hNk:(au p).N+k<(au p).w (an p):=by unfold Lay.w;omega
   have hNke:IntKind.wrap .i64 (((au p).N:Int)+(k:Int))=(((au p).N+k:Nat):Int):=by
    have:(au p).N=p.1.length+gi p p.2.length:=rfl
    rw[aA (by omega) (by omega)];rfl
   have hbk:∀i,i<(an p).m-> -1125899906842624<=S.T i ((au p).N+k)/\S.T i ((au p).N+k)<=1125899906842624:=fun i hi=>by have:=hb i _ hi hNk;omega
   have hbk2:∀i,i<(an p).m-> -17592186044416<=eG (au p).N (S.β i)*S.T i ((au p).N+k)/\eG (au p).N (S.β i)*S.T i ((au p).N+k)<=17592186044416:=fun i hi=>by
    have:=hb i _ hi hNk
    unfold eG
    split<;>omega
   have hs:=ju (n:=(an p).m) (f:=fun i=>eG (au p).N (S.β i)*S.T i ((au p).N+k)) (B:=17592186044416) hbk2
   have h6:((an p).m:Int)*17592186044416<=6*17592186044416:=z11 (by omega) (by omega)
   have hab:=Az (p:=p) k (sz (an p).m fun i=>eG (au p).N (S.β i)*S.T i ((au p).N+k))
   simp only[z7 (show (k:Int)<p.2.length by omega),cT,hNke,ay,aH,z9,z7 hk,dK (show Nat.succ k<=p.2.length from hk),bC hk,gT,gU,s7 (show (an p).m<=1000 by omega) hNk hbk,aa,
    aA (x:=(au p).σ k*sz (an p).m fun i=>eG (au p).N (S.β i)*S.T i ((au p).N+k)) (by omega) (by omega),wT ⟨d1,d2⟩ (show ((au p).σ k*sz (an p).m fun i=>eG (au p).N (S.β i)*S.T i ((au p).N+k)).natAbs<=1152921504606846976 by omega),eK (show (k+1)*16<=140737488355328 by omega),aX (show k<=1000000 by omega)]
   rw[show prQ ((((au p).σ k*sz (an p).m fun i=>eG (au p).N (S.β i)*S.T i ((au p).N+k):Int):Rat) / (S.d:Rat))=(fun k=>prQ (rB (an p).m (au p).N (eG (au p).N) S (au p).σ k)) k from rfl,kZ]
  ·simp only[z8 (show ¬ (p.2.length:Int)<p.2.length by omega),cF]
def vX (x:List Fq) (j:Nat):Rat:=qv (x.getD j (0,0))
theorem BZ {f:Nat->Rat}:∀{n:Nat},sq (n+1) f=f 0+sq n fun i=>f (i+1)
 | 0=>by simp only[sq];grind
 | n+1=>by
  rw[sq,BZ (n:=n)]
  simp only[sq]
  grind
theorem B5:∀{l:List Int} {x:List Fq} {s q:Rat},l.length<=x.length->e9 l x s=some q->q=s+sq l.length fun j=>((l.getD j 0:Int):Rat)*vX x j
 | [],x,s,q,_,h=>by
  unfold e9 at h
  injection h with h
  simp only[List.length_nil,sq]
  grind
 | n ::l,[],s,q,hl,h=>by simp at hl
 | n ::l,a ::x,s,q,hl,h=>by
  unfold e9 at h
  split at h
  ·have h1:=B5 (l:=l) (x:=x) (by simpa using hl) h
   rw[List.length_cons,BZ,h1]
   have e1:∀j,(n ::l).getD (j+1) 0=l.getD j 0:=fun j=>rfl
   have e2:∀j,vX (a ::x) (j+1)=vX x j:=fun j=>rfl
   simp only[e1,e2]
   have e3:((n ::l).getD 0 0:Int)=n:=rfl
   have e4:vX (a ::x) 0=qv a:=rfl
   rw[e3,e4]
   grind
  ·cases h
theorem q8 {l:List Int} {x:List Fq} (hl:l.length<=x.length) (h:(e9 l x 0).isSome=true):(e9 l x 0).getD 0=sq l.length fun j=>((l.getD j 0:Int):Rat)*vX x j:=by
 cases hq:e9 l x 0 with
 | none=>rw[hq] at h;cases h
 | some q =>
  have:=B5 hl hq
  rw[Option.getD_some,this]
  grind
theorem Gr {a b:Rat}:qq a b<=0↔a<=b:=by
 unfold qq
 by_cases h:a<b
 ·rw[if_pos h]
  exact ⟨fun _=>Rat.le_of_lt h,fun _=>by omega⟩
 ·rw[if_neg h]
  by_cases h2:a=b
  ·rw[if_pos h2]
   exact ⟨fun _=>by rw[h2];exact Rat.le_refl,fun _=>by omega⟩
  ·rw[if_neg h2]
   refine ⟨fun h3=>by omega,fun h3=>?_⟩
   exact (h (Rat.lt_of_le_of_ne h3 h2)).elim
theorem G5 {α:Type} {P:α->Bool} {l:List α} (d:α):l.all P=true↔∀k,k<l.length->P (l.getD k d)=true:=by
 rw[<-vw (p:=P) d,List.all_eq_true]
 exact ⟨fun h k hk=>h k (List.mem_range'.2 ⟨k,hk,by omega⟩),fun h i hi=>by obtain ⟨k,hk,rfl⟩:=List.mem_range'.1 hi;exact h _ (by omega)⟩
theorem EP {p:Pg} {y:List Fq} (hy:∀a ∈ y,okF a) (hl:y.length=p.2.length):iV p y=true↔(an p).Sgn (vX y):=by
 have hpos:∀j,j<y.length->((0<=(y.getD j (0,0)).1↔0<=vX y j)/\((y.getD j (0,0)).1<=0↔vX y j<=0)):=fun j hj=>by
  have hok:=hy (y.getD j (0,0)) (by rw[aP hj];exact List.getElem_mem _)
  have h1:=mQ hok
  have h2:=Hy hok
  have h3:=yn hok
  refine ⟨h1.symm,?_⟩
  unfold vX
  constructor
  ·intro h
   by_cases c:(y.getD j (0,0)).1=0
   ·rw[h3.2 c];exact Rat.le_refl
   ·exact Rat.le_of_lt (h2.2 (by omega))
  ·intro h
   apply Int.not_lt.1
   intro h4
   have h5:=h1.2 (by omega)
   have h6:=h3.1 (Rat.le_antisymm h h5)
   omega
 unfold iV
 rw[List.all_eq_true]
 have key:∀k,k<p.2.length->(rc (p.2.getD k rw0).2.1 (y.getD k (0,0)).1=true↔((an p).kd k=1->vX y k<=0)/\((an p).kd k=2->0<=vX y k)):=fun k hk=>by
  obtain ⟨h1,h2⟩:=hpos k (by omega)
  unfold rc
  have e1:(an p).kd k=(p.2.getD k rw0).2.1:=rfl
  rw[e1,z10,Bool.or_eq_true,Bool.or_eq_true,decide_eq_true_iff,decide_eq_true_iff,decide_eq_true_iff,decide_eq_true_iff,h1,h2]
  constructor
  ·rintro ⟨a1,a2⟩
   exact ⟨fun e=>a1.resolve_left fun h=>h e,fun e=>a2.resolve_left fun h=>h e⟩
  ·rintro ⟨a1,a2⟩
   refine ⟨?_,?_⟩
   ·by_cases c:(p.2.getD k rw0).2.1=1
    ·exact .inr (a1 c)
    ·exact .inl c
   ·by_cases c:(p.2.getD k rw0).2.1=2
    ·exact .inr (a2 c)
    ·exact .inl c
 constructor
 ·intro h
  exact ⟨fun k hk=>((key k hk).1 (h k (List.mem_range'.2 ⟨k,hk,by omega⟩))).1,fun k hk=>((key k hk).1 (h k (List.mem_range'.2 ⟨k,hk,by omega⟩))).2⟩
 ·rintro ⟨h1,h2⟩ i hi
  obtain ⟨k,hk,rfl⟩:=List.mem_range'.1 hi
  simp only[Nat.one_mul,Nat.zero_add]
  exact (key k hk).2 ⟨h1 k hk,h2 k hk⟩
theorem P9 {p:Pg} {y:List Fq} (hl:y.length=p.2.length) {j:Nat} (h:(e9 (jW p j) y 0).isSome=true):(e9 (jW p j) y 0).getD 0=(an p).col (vX y) j:=by
 rw[q8 (by rw[pQ];omega) h,pQ]
 refine dS fun k hk=>?_
 unfold jW
 have hk:k<p.2.length:=hk
 rw[aP (show k<(p.2.map fun r=>r.1.getD j 0).length by rw[List.length_map];exact hk),List.getElem_map]
 show _=(((p.2.getD k rw0).1.getD j 0:Int):Rat)*_
 rw[aP hk]
theorem IR {p:Pg} {y:List Fq} (hl:y.length=p.2.length) (h:(qc p y).isSome=true):(qc p y).getD 0=(an p).rhs (vX y):=by
 unfold qc at h ⊢
 rw[q8 (by rw[lg];omega) h,lg]
 refine dS fun k hk=>?_
 unfold kp
 have hk:k<p.2.length:=hk
 rw[aP (show k<(p.2.map fun r=>r.2.2).length by rw[List.length_map];exact hk),List.getElem_map]
 show _=(((p.2.getD k rw0).2.2:Int):Rat)*_
 rw[aP hk]
theorem O5 {p:Pg} {x:List Fq} (hl:x.length=p.1.length) (h:(e9 p.1 x 0).isSome=true):(e9 p.1 x 0).getD 0=(an p).val (vX x):=by
 rw[q8 (by omega) h]
 rfl
theorem H4 {p:Pg} {y:List Fq} {f:Nat->Int} (hl:y.length=p.2.length) (hf:oI p y=true):pX p y f=true↔∀j,j<p.1.length->(an p).col (vX y) j<=(f j:Rat):=by
 unfold oI at hf
 rw[List.all_eq_true] at hf
 unfold pX
 rw[List.all_eq_true]
 have hc:∀j,j<p.1.length->(e9 (jW p j) y 0).getD 0=(an p).col (vX y) j:=fun j hj=>P9 hl (hf j (List.mem_range'.2 ⟨j,hj,by omega⟩))
 constructor
 ·intro h j hj
  have:=h j (List.mem_range'.2 ⟨j,hj,by omega⟩)
  rw[decide_eq_true_iff,Gr,hc j hj] at this
  exact this
 ·intro h i hi
  obtain ⟨k,hk,rfl⟩:=List.mem_range'.1 hi
  simp only[Nat.one_mul,Nat.zero_add]
  rw[decide_eq_true_iff,Gr,hc k hk]
  exact h k hk
theorem CJ {p:Pg} {y:List Fq} (hy:∀a ∈ y,okF a) (hly:y.length=p.2.length) (f3:oI p y=true) (f4:(qc p y).isSome=true) :
  Di p y=true↔(an p).Ref (vX y):=by
 have hfit:dh ((qc p y).getD 0):=by
  unfold qc
  exact wQ
 have hp:Fc p y=true↔0<(an p).rhs (vX y):=by
  unfold Fc
  rw[decide_eq_true_iff,<-IR hly f4]
  have h1:=mQ (gA hfit)
  have h2:=yn (gA hfit)
  rw[iK] at h1 h2
  constructor
  ·intro h
   exact Rat.lt_of_le_of_ne (h1.2 (by omega)) fun e=>by have:=h2.1 e.symm;omega
  ·intro h
   have a1:=h1.1 (Rat.le_of_lt h)
   have a2:¬ (prQ ((qc p y).getD 0)).1=0:=fun e=>by rw[h2.2 e] at h;exact Rat.lt_irrefl h
   omega
 unfold Di
 simp only[z10]
 rw[hp,EP hy hly,H4 hly f3]
 constructor
 ·rintro ⟨a1,a2,a3⟩
  exact ⟨a2,fun j hj=>by have:=a3 j hj;simpa using this,a1⟩
 ·rintro ⟨a1,a2,a3⟩
  exact ⟨a3,a1,fun j hj=>by have:=a2 j hj;simpa using this⟩
theorem yy {f:Nat->Int}:∀{n:Nat},sz (n+1) f=f 0+sz n fun i=>f (i+1)
 | 0=>by simp[sz]
 | n+1=>by
  rw[sz,yy (n:=n)]
  simp only[sz]
  omega
theorem HF {α:Type} {n:Nat} {f:Nat->α}:bj (n+1) f=f 0 ::bj n fun i=>f (i+1):=by
 unfold bj
 rw[List.range_succ_eq_map,List.map_cons,List.map_map]
 rfl
theorem yD {d B:Int} (hd:0<d/\d<=1152921504606846976) (hB:B<=1152921504606846976):∀{l:List Int} {X:Nat->Int} {s:Int},(∀j,j<l.length->ab (l.getD j 0*X j)<=B)->(∀i,i<=l.length->ab (s+sz i fun j=>l.getD j 0*X j)<=B) ->
  e9 l (bj l.length fun j=>prQ ((X j:Rat) / (d:Rat))) ((s:Rat) / (d:Rat))=some (((s+sz l.length fun j=>l.getD j 0*X j:Int):Rat) / (d:Rat))
 | [],X,s,_,_=>by
  unfold e9
  simp[sz]
 | n ::l,X,s,h1,h2=>by
  have e1:∀j,(n ::l).getD (j+1) 0=l.getD j 0:=fun j=>rfl
  have e0:((n ::l).getD 0 0:Int)=n:=rfl
  have a1:=h1 0 (by simp)
  have a2:=h2 1 (by simp)
  simp only[sz,e0,Int.zero_add] at a1 a2
  rw[List.length_cons,HF]
  unfold e9
  rw[iK]
  have q1:(n:Rat)*((X 0:Rat) / (d:Rat))=((n*X 0:Int):Rat) / (d:Rat):=by rw[Rat.intCast_mul];grind
  have q2:(s:Rat) / (d:Rat)+((n*X 0:Int):Rat) / (d:Rat)=((s+n*X 0:Int):Rat) / (d:Rat):=by rw[Rat.intCast_add];grind
  have b1:(n*X 0).natAbs<=1152921504606846976:=by rw[qF] at a1;omega
  have b2:(s+n*X 0).natAbs<=1152921504606846976:=by rw[qF] at a2;omega
  rw[q1,q2,if_pos ⟨ug (by omega) b1 (by omega),ug (by omega) b2 (by omega)⟩]
  have ih:=yD hd hB (l:=l) (X:=fun j=>X (j+1)) (s:=s+n*X 0) (fun j hj=>h1 (j+1) (by simpa using hj)) (fun i hi=>by
   have:=h2 (i+1) (by simpa using hi)
   rw[yy] at this
   simp only[e1,e0] at this
   rw[<-Int.add_assoc] at this
   exact this)
  rw[ih]
  congr 3
  rw[yy]
  simp only[e1,e0]
  omega
theorem Fw {n i:Nat} {a X:Nat->Int} {B:Int} (hi:i<=n) (hB:0<=B) (hX:∀j,j<n->ab (X j)<=B):ab (sz i fun j=>a j*X j)<=(sz n fun j=>ab (a j))*B:=by
 refine Int.le_trans BJ ?_
 have h1:(sz i fun j=>ab (a j*X j))<=sz i fun j=>ab (a j)*B:=oO fun j hj=>by
  rw[n3]
  exact Int.mul_le_mul_of_nonneg_left (hX j (by omega)) (bF _)
 refine Int.le_trans h1 ?_
 rw[AN]
 refine z11 ?_ hB
 obtain ⟨k,rfl⟩:∃k,n=i+k:=⟨n - i,by omega⟩
 rw[xj]
 have:0<=sz k fun l=>ab (a (i+l)):=iE fun _ _=>bF _
 omega
theorem Ho {n j:Nat} {f:Nat->Int} (hj:j<n) (hf:∀i,i<n->0<=f i):f j<=sz n f:=by
 have h1:(sz n fun i=>if i=j then f j else 0)<=sz n f:=oO fun i hi=>by
  by_cases e:i=j
  ·rw[if_pos e,e];exact Int.le_refl _
  ·rw[if_neg e];exact hf i hi
 rw[fy hj fun i _ hne=>if_neg hne,if_pos rfl] at h1
 exact h1
theorem Fl {n j:Nat} {a X:Nat->Int} {B:Int} (hj:j<n) (hB:0<=B) (hX:∀j,j<n->ab (X j)<=B):ab (a j*X j)<=(sz n fun j=>ab (a j))*B:=by
 rw[n3]
 refine Int.le_trans (Int.mul_le_mul_of_nonneg_left (hX j hj) (bF _)) (z11 ?_ hB)
 exact Ho (f:=fun j=>ab (a j)) hj fun _ _=>bF _
theorem JU {l:List Int} {X:Nat->Int} {d B:Int} (hd:0<d/\d<=1152921504606846976) (hB:0<=B) (hX:∀j,j<l.length->ab (X j)<=B) (h:(sz l.length fun j=>ab (l.getD j 0))*B<=1152921504606846976) :
  (e9 l (bj l.length fun j=>prQ ((X j:Rat) / (d:Rat))) 0).isSome=true:=by
 have h0:(0:Rat)=((0:Int):Rat) / (d:Rat):=by rw[show ((0:Int):Rat)=0 from rfl,Rat.div_def,Rat.zero_mul]
 rw[h0,yD hd h (fun j hj=>Fl (a:=fun j=>l.getD j 0) hj hB hX) (fun i hi=>by rw[Int.zero_add];exact Fw (a:=fun j=>l.getD j 0) hi hB hX)]
 rfl
theorem F2 {l:List Int} {X:Nat->Int} {d B:Int} (hd:0<d/\d<=1152921504606846976) (hB:0<=B) (hX:∀j,j<l.length->ab (l.getD j 0*X j)<=B) (h:(l.length:Int)*B<=1152921504606846976) (hB2:B<=1152921504606846976) :
  (e9 l (bj l.length fun j=>prQ ((X j:Rat) / (d:Rat))) 0).isSome=true:=by
 have h0:(0:Rat)=((0:Int):Rat) / (d:Rat):=by rw[show ((0:Int):Rat)=0 from rfl,Rat.div_def,Rat.zero_mul]
 have hsum:∀i,i<=l.length->ab (0+sz i fun j=>l.getD j 0*X j)<=1152921504606846976:=fun i hi=>by
  rw[Int.zero_add]
  have h1:=ju (n:=i) (f:=fun j=>l.getD j 0*X j) (B:=B) fun j hj=>qB.1 (hX j (by omega))
  have h2:(i:Int)*B<=l.length*B:=z11 (by omega) hB
  refine qB.2 ⟨?_,?_⟩<;>omega
 rw[h0,yD hd (Int.le_refl _) (fun j hj=>Int.le_trans (hX j hj) hB2) hsum]
 rfl
section
variable {p:Pg} {S:Sx}
theorem Hr (hB:Bnd (an p) (au p)) (hv:(au p).Val (an p) S) (j:Nat):0<=ve (an p).m ((au p).R (an p)) S j/\ve (an p).m ((au p).R (an p)) S j<=(an p).P:=by
 refine ⟨nJ hv j,?_⟩
 have hRw:(au p).R (an p)<(au p).w (an p):=by unfold Lay.R Lay.w;omega
 obtain ⟨_,hb⟩:=hB.tabP hv.tb
 unfold ve
 by_cases h:∃i,i<(an p).m/\S.β i=j
 ·obtain ⟨i,hi,e⟩:=h
  rw[fy hi fun k hk hne=>if_neg fun e2=>hne (hv.tb.inj hk hi (by rw[e,e2])),if_pos e]
  have:=hb i _ hi hRw
  omega
 ·rw[gW fun i hi=>if_neg fun e=>h ⟨i,hi,e⟩]
  have:=(an p).P_pos
  omega
theorem NF (k:Nat) (x:Int):ab ((au p).σ k*x)=ab x:=by
 rw[qF,qF,Az]
theorem GN (hB:Bnd (an p) (au p)) (hv:(au p).Val (an p) S) {wc:Nat->Int} {W:Int} (hW:∀j,ab (wc j)<=W) {k:Nat} (hk:k<(an p).m):(an p).F k*ab (mu (an p).m (au p).N wc S (au p).σ k)<=12*(W*(an p).P):=by
 have hF:=(an p).F_pos k
 have hW0:0<=W:=Int.le_trans (bF _) (hW 0)
 have hP:=(an p).P_pos
 have hm:=hB.m
 unfold mu
 rw[NF]
 have h1:ab (sz (an p).m fun i=>wc (S.β i)*S.T i ((au p).N+k))<=sz (an p).m fun i=>W*ab (S.T i ((au p).N+k)):=Int.le_trans BJ (oO fun i _=>by
  rw[n3]
  exact z11 (hW _) (bF _))
 have h2:(an p).F k*(sz (an p).m fun i=>W*ab (S.T i ((au p).N+k)))=sz (an p).m fun i=>W*((an p).F k*ab (S.T i ((au p).N+k))):=by
  rw[<-gv]
  exact br fun i _=>by grind
 have h3:(sz (an p).m fun i=>W*((an p).F k*ab (S.T i ((au p).N+k))))<=sz (an p).m fun _=>W*(an p).P:=oO fun i hi=>Int.mul_le_mul_of_nonneg_left (HQ hB.ok hv.tb hi hk) hW0
 have h4:∀n:Nat,(sz n fun _=>W*(an p).P)=n*(W*(an p).P):=fun n=>by
  induction n with
  | zero=>simp[sz]
  | succ n ih =>
   simp only[sz]
   rw[ih,show ((n+1:Nat):Int)=(n:Int)+1 by omega,Int.add_mul,Int.one_mul]
 have h5:0<=W*(an p).P:=Int.mul_nonneg hW0 (by omega)
 have h6:((an p).m:Int)*(W*(an p).P)<=12*(W*(an p).P):=z11 (by omega) h5
 have h7:=Int.mul_le_mul_of_nonneg_left h1 (show 0<=(an p).F k by omega)
 rw[h2] at h7
 rw[h4] at h3
 omega
theorem Ov (k j:Nat) (hj:j<(an p).n):ab ((an p).A k j)<=(an p).F k/\ab ((an p).b k)<=(an p).F k:=by
 have h1:=Ho (n:=(an p).n) (f:=fun j=>ab ((an p).A k j)) hj fun _ _=>bF _
 have h2:=bF ((an p).b k)
 have h3:=bF ((an p).A k j)
 unfold Lin.F
 omega
theorem Tv (hV:ValidP p) (hB:Bnd (an p) (au p)) (hv:(au p).Val (an p) S) {wc:Nat->Int} {W:Int} (hW:∀j,ab (wc j)<=W) (hWP:W*(an p).P<=17592186044416):oI p (yL p wc S)=true/\(qc p (yL p wc S)).isSome=true:=by
 obtain ⟨⟨d1,d2⟩,hb⟩:=hB.tab hv.tb
 have hm:=hV.rows
 have hn:=hV.cost
 have term:∀(k:Nat) (a:Int),k<p.2.length->ab a<=(an p).F k->ab (a*mu (an p).m (au p).N wc S (au p).σ k)<=211106232532992:=fun k a hk ha=>by
  have h1:=GN hB hv hW (k:=k) hk
  rw[n3]
  have h2:=z11 ha (bF (mu (an p).m (au p).N wc S (au p).σ k))
  omega
 have gen:∀{l:List Int},l.length=p.2.length->(∀k,k<p.2.length->ab (l.getD k 0)<=(an p).F k)->(e9 l (yL p wc S) 0).isSome=true:=fun {l} hl hF=>by
  have h1:=F2 (l:=l) (X:=fun k=>mu (an p).m (au p).N wc S (au p).σ k) (d:=S.d) (B:=211106232532992) ⟨d1,by omega⟩ (by omega) (fun k hk=>term k _ (by omega) (hF k (by omega))) (by omega) (by omega)
  rw[hl] at h1
  exact h1
 constructor
 ·unfold oI
  rw[List.all_eq_true]
  intro i hi
  obtain ⟨j,hj,rfl⟩:=List.mem_range'.1 hi
  simp only[Nat.one_mul,Nat.zero_add]
  refine gen pQ fun k hk=>?_
  have:(jW p j).getD k 0=(an p).A k j:=by
   unfold jW
   rw[aP (show k<(p.2.map fun r=>r.1.getD j 0).length by rw[List.length_map];exact hk),List.getElem_map]
   show _=(p.2.getD k rw0).1.getD j 0
   rw[aP hk]
  rw[this]
  exact (Ov k j hj).1
 ·unfold qc
  refine gen lg fun k hk=>?_
  have:(kp p).getD k 0=(an p).b k:=by
   unfold kp
   rw[aP (show k<(p.2.map fun r=>r.2.2).length by rw[List.length_map];exact hk),List.getElem_map]
   show _=(p.2.getD k rw0).2.2
   rw[aP hk]
  rw[this]
  exact (Ov k 0 hn.1).2
theorem R5 (hV:ValidP p) (hf:gg (an p)) (hv:(au p).Val (an p) S):Av p (xL p S)=true/\(e9 p.1 (xL p S) 0).isSome=true:=by
 have hB:=xk hV hf
 obtain ⟨⟨d1,d2⟩,hb⟩:=hB.tab hv.tb
 have hm:=hV.rows
 have hP:=(an p).P_pos
 have hF0:=(an p).F0_pos
 have hx:∀j,ab (ve (an p).m ((au p).R (an p)) S j)<=(an p).P:=fun j=>by
  have:=Hr hB hv j
  exact qB.2 ⟨by omega,this.2⟩
 have gen:∀{l:List Int} {k:Nat},l.length=p.1.length->k<=p.2.length->(sz p.1.length fun j=>ab (l.getD j 0))<=fac (an p) k->(e9 l (xL p S) 0).isSome=true:=fun {l k} hl hk hF=>by
  have h2:=M0 hf hk
  have h3:1*((an p).P*fac (an p) k)<=(an p).F0*((an p).P*fac (an p) k):=z11 hF0 (Int.mul_nonneg (by omega) (by have:=t9 (an p) k;omega))
  have h5:=Int.mul_assoc (an p).F0 (an p).P (fac (an p) k)
  have h4:=z11 hF (show 0<=(an p).P by omega)
  rw[Int.mul_comm (fac (an p) k)] at h4
  have h1:=JU (l:=l) (X:=fun j=>ve (an p).m ((au p).R (an p)) S j) (d:=S.d) (B:=(an p).P) ⟨d1,by omega⟩ (by omega) (fun j _=>hx j) (by rw[hl];omega)
  rw[hl] at h1
  exact h1
 constructor
 ·unfold Av
  rw[G5 rw0]
  intro k hk
  have hr:p.2.getD k rw0 ∈ p.2:=by rw[aP hk];exact List.getElem_mem _
  refine gen (k:=k+1) (hV.len _ hr) (by omega) ?_
  show _<=1+ab (p.2.getD k rw0).2.2+sz p.1.length (fun j=>ab ((p.2.getD k rw0).1.getD j 0))
  have:=bF (p.2.getD k rw0).2.2
  omega
 ·refine gen (k:=0) rfl (by omega) ?_
  show _<=1+sz p.1.length (fun j=>ab (p.1.getD j 0))
  omega
theorem Hv (N j:Nat):ab (eG N j)<=1:=by unfold eG;split<;>simp[ab]
theorem EF {n:Nat} {f:Nat->Rat} {j:Nat} (hj:j<n):vX (bj n fun j=>prQ (f j)) j=f j:=by
 unfold vX
 rw[bC hj,iK]
theorem G2 {n:Nat} {f:Nat->Rat} (h:∀j,j<n->dh (f j)):∀a ∈ bj n (fun j=>prQ (f j)),okF a:=fun a ha=>by
 unfold bj at ha
 obtain ⟨j,hj,rfl⟩:=List.mem_map.1 ha
 exact gA (h j (List.mem_range.1 hj))
theorem U5 (hV:ValidP p) (hf:gg (an p)) (hv:(au p).Val (an p) S):∀a ∈ xL p S,okF a:=G2 fun j _=>by
 have hB:=xk hV hf
 obtain ⟨⟨d1,d2⟩,_⟩:=hB.tab hv.tb
 have:=Hr hB hv j
 have:=hB.P'
 exact ug (by omega) (by omega) (by omega)
theorem TV (_:ValidP p) (hB:Bnd (an p) (au p)) (hv:(au p).Val (an p) S) {wc:Nat->Int} {W:Int} (hW:∀j,ab (wc j)<=W) (hWP:W*(an p).P<=17592186044416):∀a ∈ yL p wc S,okF a:=G2 fun k hk=>by
 obtain ⟨⟨d1,d2⟩,_⟩:=hB.tab hv.tb
 have h1:=GN hB hv hW (k:=k) hk
 have h2:=(an p).F_pos k
 have h3:1*ab (mu (an p).m (au p).N wc S (au p).σ k)<=(an p).F k*ab (mu (an p).m (au p).N wc S (au p).σ k):=z11 h2 (bF _)
 have h4:ab (mu (an p).m (au p).N wc S (au p).σ k)<=211106232532992:=by omega
 rw[qF] at h4
 exact ug (by omega) (by omega) (by omega)
theorem Dn.Lin.Feas.congr {L:Lin} {x x':Nat->Rat} (h:∀j,j<L.n->x j=x' j) (hx:L.Feas x):L.Feas x':=by
 have hr:∀k,L.row x' k=L.row x k:=fun k=>dS fun j hj=>by rw[h j hj]
 exact ⟨fun j hj=>by rw[<-h j hj];exact hx.pos j hj,fun k hk h2=>by rw[hr];exact hx.most k hk h2,fun k hk h2=>by rw[hr];exact hx.least k hk h2⟩
theorem Dn.Lin.Sgn.congr {L:Lin} {y y':Nat->Rat} (h:∀k,k<L.m->y k=y' k) (hy:L.Sgn y):L.Sgn y' :=
 ⟨fun k hk e=>by rw[<-h k hk];exact hy.most k hk e,fun k hk e=>by rw[<-h k hk];exact hy.least k hk e⟩
theorem Dn.Lin.col_congr {L:Lin} {y y':Nat->Rat} (h:∀k,k<L.m->y k=y' k) (j:Nat):L.col y' j=L.col y j:=dS fun k hk=>by rw[h k hk]
theorem Dn.Lin.rhs_congr {L:Lin} {y y':Nat->Rat} (h:∀k,k<L.m->y k=y' k):L.rhs y'=L.rhs y:=dS fun k hk=>by rw[h k hk]
theorem Dn.Lin.val_congr {L:Lin} {x x':Nat->Rat} (h:∀j,j<L.n->x j=x' j):L.val x'=L.val x:=dS fun j hj=>by rw[h j hj]
theorem Pa (hV:ValidP p) (_:gg (an p)) (ho:Opt p S):(an p).Feas (vX (xL p S))/\(an p).Dual (vX (yL p (ca (an p)) S))/\(an p).val (vX (xL p S))=E9 p S/\(an p).rhs (vX (yL p (ca (an p)) S))=E9 p S:=by
 have hok:=mo hV
 have ex:∀j,j<(an p).n->Bn (an p).m ((au p).R (an p)) S j=vX (xL p S) j:=fun j hj=>(EF hj).symm
 have ey:∀k,k<(an p).m->rB (an p).m (au p).N (ca (an p)) S (au p).σ k=vX (yL p (ca (an p)) S) k:=fun k hk=>(EF hk).symm
 have h1:=tI hok ho.val (ho.az.art S)
 have h2:=FT hok ho.val ho.zr
 obtain ⟨h3,h4⟩:=B1 hok ho.val
 refine ⟨h1.congr ex,⟨h2.toSgn.congr ey,fun j hj=>?_⟩,?_,?_⟩
 ·rw[Lin.col_congr ey];exact h2.col j hj
 ·rw[Lin.val_congr ex];exact h3
 ·rw[Lin.rhs_congr ey];exact h4
theorem tT (hV:ValidP p) (ho:Infeas p S):(an p).Ref (vX (yL p (eG (au p).N) S)):=by
 have hok:=mo hV
 have ey:∀k,k<(an p).m->rB (an p).m (au p).N (eG (au p).N) S (au p).σ k=vX (yL p (eG (au p).N) S) k:=fun k hk=>(EF hk).symm
 have h2:=IU hok ho.val ho.zr ho.pos
 refine ⟨h2.toSgn.congr ey,fun j hj=>?_,?_⟩
 ·rw[Lin.col_congr ey];exact h2.col j hj
 ·rw[Lin.rhs_congr ey];exact h2.rhs
theorem AL (hV:ValidP p) (hf:gg (an p)) (ho:Infeas p S):b9 p (yL p (eG (au p).N) S)=some (true,0,()):=by
 have hB:=xk hV hf
 have hm:=hV.rows
 have hWP:1*(an p).P<=17592186044416:=by have:=hB.P';omega
 have hy:=TV (wc:=eG (au p).N) hV hB ho.val (Hv _) hWP
 have hly:(yL p (eG (au p).N) S).length=p.2.length:=ay
 obtain ⟨f3,f4⟩:=Tv (wc:=eG (au p).N) hV hB ho.val (Hv _) hWP
 have hc:=(CJ hy hly f3 f4).2 (tT hV ho)
 rw[wo (by omega),iq.2 hV,lr.2 hy,z7 hly,f3,f4,hc]
 rfl
end
def Xd (p:Pg) (y:List Fq) (e:Int):Prop :=
 (e=1/\y=[]/\pN p=false)\/(e=5/\y=[]/\ValidP p/\¬ gg (an p))\/(e=12/\y=[]/\ValidP p/\gg (an p)/\∃x,(an p).Feas x) \/
 (e=0/\ValidP p/\gg (an p)/\y.length=p.2.length/\b9 p y=some (true,0,())/\∃y,(an p).Ref y)
theorem Ip {p:Pg} (h:ValidP p) (hf:¬ gg (an p)):cU p=some (Ar,5,()):=by
 unfold cU jH
 rw[mE,obN,iq.2 h]
 simp only[Bool.not_true,cF]
 rw[ut h,obN,z8 hf]
 rfl
theorem Gb {p:Pg} (h:pN p=false):cd p=some ([],1,()):=by
 unfold cd hH
 rw[mE,obN,h]
 rfl
theorem FX {p:Pg} (h:ValidP p) (hf:¬ gg (an p)):cd p=some ([],5,()):=by
 unfold cd hH
 rw[mE,obN,iq.2 h]
 simp only[Bool.not_true,cF]
 rw[ut h,obN,z8 hf]
 rfl
theorem FY (p:Pg):∃y e,cd p=some (y,e,())/\Xd p y e:=by
 cases hv:pN p with
 | false=>exact ⟨_,_,Gb hv,.inl ⟨rfl,rfl,hv⟩⟩
 | true =>
  have hV:=iq.1 hv
  by_cases hf:gg (an p)
  ·rcases Ib hV hf with ⟨S,h1,h2⟩ | ⟨S,h1,h2,h3⟩
   ·exact ⟨_,_,h2,.inr (.inr (.inr ⟨rfl,hV,hf,ay,AL hV hf h1,_,tT hV h1⟩))⟩
   ·exact ⟨_,_,h3,.inr (.inr (.inl ⟨rfl,rfl,hV,hf,_,tI (mo hV) h1 (h2.art S)⟩))⟩
  ·exact ⟨_,_,FX hV hf,.inr (.inl ⟨rfl,rfl,hV,hf⟩)⟩
structure BndR (L:Lin) (Y:Lay):Prop where
 ok:Y.ok L
 m:L.m<=6
 w:Y.w L<=25
 P:L.F0*L.P<=536870912
section
variable {L:Lin} {Y:Lay}
theorem BndR.P' (h:BndR L Y):L.P<=536870912:=by
 have h1:=L.F0_pos
 have h2:=L.P_pos
 have h3:1*L.P<=L.F0*L.P:=z11 h1 (by omega)
 have:=h.P
 omega
theorem BndR.tab (h:BndR L Y) {T:Nat->Nat->Int} {d:Int} {β:Nat->Nat} (ht:Tb L.m (Y.w L) (Y.M L) T d β):(0<d/\d<=536870912)/\∀i j,i<L.m->j<Y.w L->(T i j).natAbs<=536870912/\((T i j).natAbs:Int)<=L.P:=by
 obtain ⟨h1,h2⟩:=qM h.ok ht
 have h3:=h.P'
 refine ⟨⟨ht.dpos,by omega⟩,fun i j hi hj=>?_⟩
 have:=h2 i j hi hj
 rw[qF] at this
 omega
structure Wc (L:Lin) (Y:Lay) (wc:Nat->Int):Prop where
 small:∀j x,(x.natAbs:Int)<=L.P-> -536870912<=wc j*x/\wc j*x<=536870912
end
section
variable {L:Lin} {Y:Lay}
theorem Swp.next {i:Nat} {S:Sx} (h:Swp L Y i S) (hr:Y.N<=S.β i->∀j,j<Y.N->S.T i j=0):Swp L Y (i+1) S :=
 ⟨h.val,h.right,fun k hk hlt hb j hj=>by
  by_cases e:k=i
  ·subst e;exact hr hb j hj
  ·exact h.rows k hk (by omega) hb j hj⟩
end
section
variable {p:Pg}
end
section
variable {L:Lin} {Y:Lay}
end
theorem xz {x:Int} (h1: -4611686018427387904<=x) (h2:x<4611686018427387904):eU x=some (ab x):=by
 simp only[eU,pT]
 rw[aA (by omega) (by omega)]
 congr 1
 unfold ab
 split<;>omega
theorem Db {p:Pg} (hv:ValidP p):eO p=some (bj (p.2.length+1) (fac (an p))):=by
 have hm:=hv.rows
 have hn:=hv.cost.2
 unfold eO l6
 refine bR p.1.length (by omega) (fun i=>(1+sz i (fun j=>ab (p.1.getD j 0)),(i:Int),PUnit.unit)) _ rfl (fun again i hi=>?_) (fun again=>?_)
 ·have h1:=pZ hv.cs i
  have h0:=bF (p.1.getD i 0)
  have h2:=oS hv.cs (n:=i) (by omega)
  have h3: -1048576<=p.1.getD i 0/\p.1.getD i 0<=1048576:=qB.1 h1
  simp only[aH,z9,z7 hi,z7 (show (i:Int)<p.1.length by omega),cT,xz (show -4611686018427387904<=p.1.getD i 0 by omega) (by omega),aa,aX (show i<=1000000 by omega)]
  rw[aA (by omega) (by omega)]
  simp only[sz]
  congr 2
  omega
 ·simp only[z8 (show ¬ (p.1.length:Int)<p.1.length by omega),cF]
  refine bR p.2.length (by omega) (fun i=>(bj (i+1) (fac (an p)),(i:Int),PUnit.unit)) _ rfl (fun again2 i hi=>?_) (fun again2=>?_)
  ·have hr:p.2.getD i rw0 ∈ p.2:=by rw[aP hi];exact List.getElem_mem _
   have hl:=hv.len _ hr
   have hR: -1073741824<=(p.2.getD i rw0).2.2/\(p.2.getD i rw0).2.2<=1073741824:=z12 (hv.right _ hr)
   have hRa:ab (p.2.getD i rw0).2.2<=1073741824:=qB.2 hR
   have hRb:=bF (p.2.getD i rw0).2.2
   have hsz:eU (p.2.getD i rw0).2.2=some (ab (p.2.getD i rw0).2.2):=xz (by omega) (by omega)
   simp only[z7 (show (i:Int)<p.2.length by omega),aH,z9,z7 hi,cT,hsz,aa]
   rw[aA (x:=1+ab (p.2.getD i rw0).2.2) (by omega) (by omega)]
   refine bR p.1.length (by omega) (fun j=>(1+ab (p.2.getD i rw0).2.2+sz j (fun j=>ab ((p.2.getD i rw0).1.getD j 0)),(j:Int),PUnit.unit)) _ (by simp only[sz,Int.add_zero];rfl) (fun again3 j hj=>?_) (fun again3=>?_)
   ·have h1:=pZ (hv.coefs _ hr) j
    have h0:=bF ((p.2.getD i rw0).1.getD j 0)
    have h2:=oS (hv.coefs _ hr) (n:=j) (by omega)
    have h3: -1048576<=(p.2.getD i rw0).1.getD j 0/\(p.2.getD i rw0).1.getD j 0<=1048576:=qB.1 h1
    have hsz2:eU ((p.2.getD i rw0).1.getD j 0)=some (ab ((p.2.getD i rw0).1.getD j 0)):=xz (by omega) (by omega)
    simp only[z7 (show (j:Int)<p.1.length by omega),aH,z9,z7 (show j<(p.2.getD i rw0).1.length by omega),cT,hsz2,aa,aX (show j<=1000000 by omega)]
    rw[aA (by omega) (by omega)]
    simp only[sz]
    congr 2
    omega
   ·simp only[z8 (show ¬ (p.1.length:Int)<p.1.length by omega),cF,ay,eK (show (i+1+1)*8<=140737488355328 by omega),cT,aX (show i<=1000000 by omega)]
    rw[show 1+ab (p.2.getD i rw0).2.2+sz p.1.length (fun j=>ab ((p.2.getD i rw0).1.getD j 0))=fac (an p) (i+1) from rfl,kZ]
  ·simp only[z8 (show ¬ (p.2.length:Int)<p.2.length by omega),cF]
theorem CN {n:Nat} {f:Nat->Int} {most:Int} (hn:n<=1000) (hf:∀i,1<=f i) (_:∀i,i<n->f i<=2147483648) (h0:1<=most) (h1:most<=17592186044416):dH (bj n f) most=some (if pp f n<=most then (pp f n,true,()) else (0,false,())):=by
 unfold dH l9
 have round:∀{R:Type} {a b:Option R} (i:Nat),i<n->pp f i<=most->(bif nzB (pp f i) then bif decide (f i>IntKind.wrap .i64 (Int.tdiv most (pp f i))) then a else b else none)=bif decide (pp f (i+1)>most) then a else b:=fun i hi hle=>by
  have h2:=pF hf i
  rw[ke (by omega),cond_true,Int.tdiv_eq_ediv_of_nonneg (by omega)]
  have h3:0<=most / pp f i:=Int.ediv_nonneg (by omega) (by omega)
  have h4:most / pp f i<=most:=Int.ediv_le_self _ (by omega)
  have e:decide (f i>most / pp f i)=decide (pp f (i+1)>most):=decide_eq_decide.2 (by
   rw[xH (a:=f i) (show 0<pp f i by omega),Int.mul_comm]
   exact Iff.rfl)
  rw[aA (by omega) (by omega),e]
 rcases qO n (fun i=>decide (pp f (i+1)>most)) with hnone | ⟨q,hq,hbig,hleast⟩
 ·have hall:∀i,i<=n->pp f i<=most:=fun i hi=>by
   cases i with
   | zero=>simp only[pp];omega
   | succ i=>have:=of_decide_eq_false (hnone i (by omega));omega
  rw[if_pos (hall n (Nat.le_refl _))]
  refine bR n (by omega) (fun i=>(pp f i,(i:Int),PUnit.unit)) _ rfl (fun again i hi=>?_) (fun again=>?_)
  ·have h2:=hall (i+1) (by omega)
   have h3:=pF hf (i+1)
   simp only[z7 (show (i:Int)<(n:Nat) by omega),aH,ay,z7 hi,z9,bC hi,cT,round i hi (hall i (by omega)),hnone i hi,cF,aX (show i<=1000000 by omega)]
   rw[aA (x:=pp f i*f i) (by simp only[pp] at h2 h3;omega) (by simp only[pp] at h2;omega)]
   rfl
  ·simp only[ay,z8 (show ¬ (n:Int)<n by omega),cF]
 ·have hlow:∀i,i<=q->pp f i<=most:=fun i hi=>by
   cases i with
   | zero=>simp only[pp];omega
   | succ i=>have:=of_decide_eq_false (hleast i (by omega));omega
  have h2:=z12 hbig
  have h3:=Bj hf (n:=q+1) (k:=n - (q+1))
  rw[show q+1+(n - (q+1))=n by omega] at h3
  rw[if_neg (by omega)]
  refine bR q (by omega) (fun i=>(pp f i,(i:Int),PUnit.unit)) _ rfl (fun again i hi=>?_) (fun again=>?_)
  ·have h2:=hlow (i+1) (by omega)
   have h3:=pF hf (i+1)
   simp only[z7 (show (i:Int)<(n:Nat) by omega),aH,ay,z7 (show i<n by omega),z9,bC (show i<n by omega),cT,round i (by omega) (hlow i (by omega)),hleast i hi,cF,aX (show i<=1000000 by omega)]
   rw[aA (x:=pp f i*f i) (by simp only[pp] at h2 h3;omega) (by simp only[pp] at h2;omega)]
   rfl
  ·simp only[z7 (show (q:Int)<(n:Nat) by omega),aH,ay,z7 hq,z9,bC hq,cT,round q hq (hlow q (by omega)),hbig]
theorem MD {p:Pg} (hv:ValidP p):gM p=some (decide (gg (an p))):=by
 have hm:=hv.rows
 have h1:=CN (n:=p.2.length+1) (f:=fac (an p)) (most:=17592186044416) (by omega) (t9 _) (fun i hi=>zB hv (by omega)) (by omega) (by omega)
 obtain ⟨f,hf⟩:∃f,f=fac (an p):=⟨_,rfl⟩
 have hpos:∀i,1<=f i:=fun i=>by rw[hf];exact t9 _ i
 have hF:gg (an p)=(pp f (p.2.length+1)<=17592186044416/\pp f (p.2.length+1)*mx f p.2.length<=144115188075855872):=by rw[hf];rfl
 simp only[gM,o0,Db hv,h1,aa]
 rw[<-hf]
 refine bR (p.2.length+1) (by omega) (fun i=>((match i with | 0=>0 | i+1=>mx f i),(i:Int),PUnit.unit)) _ rfl (fun again i hi=>?_) (fun again=>?_)
 ·simp only[ay,z7 (show (i:Int)<(p.2.length+1:Nat) by omega),aH,z7 hi,z9,bC hi,cT,He,aX (show i<=1000000 by omega)]
  cases i with
  | zero =>
   simp only[mx]
   have:=hpos 0
   congr 2
   omega
  | succ i=>simp only[mx]
 ·have hmx:1<=mx f p.2.length:=Int.le_trans (hpos 0) (K8 (by omega))
  have hP:=pF hpos (p.2.length+1)
  simp only[ay,z8 (show ¬ ((p.2.length+1:Nat):Int)<(p.2.length+1:Nat) by omega),cF]
  by_cases c:pp f (p.2.length+1)<=17592186044416
  ·rw[if_pos c]
   simp only[Bool.not_true,Bool.false_or,Bool.true_and,cT,ke (show pp f (p.2.length+1)≠0 by omega)]
   rw[Int.tdiv_eq_ediv_of_nonneg (by omega)]
   have h3:0<=144115188075855872 / pp f (p.2.length+1):=Int.ediv_nonneg (by omega) (by omega)
   have h4:144115188075855872 / pp f (p.2.length+1)<=144115188075855872:=Int.ediv_le_self _ (by omega)
   rw[aA (by omega) (by omega)]
   congr 1
   refine decide_eq_decide.2 ?_
   rw[xW (a:=mx f p.2.length) (show 0<pp f (p.2.length+1) by omega),hF,Int.mul_comm]
   exact ⟨fun h=>⟨c,h⟩,fun h=>h.2⟩
  ·rw[if_neg c]
   rw[z8 (show ¬ gg (an p) by rw[hF];exact fun h=>c h.1)]
   rfl
def XV (p:Pg) (a:Fq×List Fq×List Fq) (e:Int):Prop :=
 (e=5/\a=Ar/\¬ gg (an p))\/(e=22/\a=Ar/\gg (an p)/\∃y,(an p).Ref y) \/
 (e=21/\a=Ar/\gg (an p)/\(∃x,(an p).Feas x)/\∃r,(an p).Ray r) \/
 (e=0/\gg (an p)/\∃v,a.1=prQ v/\dh v/\a.2.1.length=p.1.length/\(∀x ∈ a.2.1,okF x)/\Av p a.2.1=true/\(e9 p.1 a.2.1 0).isSome=true/\(an p).Feas (vX a.2.1)/\(∃y,(an p).Dual y/\(an p).rhs y=v)/\(an p).val (vX a.2.1)=v)
theorem To {p:Pg} (hV:ValidP p):∃a e,cU p=some (a,e,())/\XV p a e:=by
 by_cases hf:gg (an p)
 ·have hok:=mo hV
  rcases MY hV hf with ⟨S,h1,h2⟩ | ⟨S,q,h1,h2⟩ | ⟨S,h1,h2⟩
  ·exact ⟨_,_,h2,.inr (.inl ⟨rfl,rfl,hf,_,tT hV h1⟩)⟩
  ·exact ⟨_,_,h2,.inr (.inr (.inl ⟨rfl,rfl,hf,⟨_,tI hok h1.val (h1.az.art S)⟩,_,Ia hok h1.val h1.lt (h1.az.col S h1.lt) h1.neg h1.no⟩))⟩
  ·obtain ⟨a1,a2,a3,a4⟩:=Pa hV hf h1
   obtain ⟨f1,f2⟩:=R5 hV hf h1.val
   have hl:(xL p S).length=p.1.length:=ay
   have hv:=O5 (p:=p) (x:=xL p S) hl f2
   have hq:dh (E9 p S):=by
    rw[<-a3,<-hv]
    exact wQ
   exact ⟨_,_,h2,.inr (.inr (.inr ⟨rfl,hf,E9 p S,rfl,hq,hl,U5 hV hf h1.val,f1,f2,a1,⟨_,a2,a4⟩,a3⟩))⟩
 ·exact ⟨_,_,Ip hV hf,.inl ⟨rfl,rfl,hf⟩⟩
theorem RH {f:(Fq×Unit)->Option Bool} {p:Fq->Bool} {l:List Fq} (hl:l.length<=1000000) (h:∀a,a ∈ l->f (a,())=some (p a)):aj l f=some (l.any p):=by
 simp only[aj,fx]
 have e:bA l f=some (jV p l 0):=by
  unfold bA gl
  exact mP (f:=f) (d:=(0,0)) hl h
 rw[e,aa,wK]
theorem OU (s:Sy) (c:List Int) (hl:c.length=s.2.length):an (fF s c)=⟨s.2.length,s.1.length,fun k j=>((bj s.1.length (kF s)).getD k rw0).1.getD j 0,fun k=>((bj s.1.length (kF s)).getD k rw0).2.2,fun j=>c.getD j 0,fun k=>((bj s.1.length (kF s)).getD k rw0).2.1⟩:=by
 unfold an fF
 simp only[hl,ay]
def EqS (s:Sy) (x:Nat->Rat):Prop:=∀i,i<s.1.length->(sq s.2.length fun j=>((Mx s i j:Int):Rat)*x j)=((bwS s i:Int):Rat)
theorem HM {s:Sy} {c:List Int} (hl:c.length=s.2.length) {x:Nat->Rat}:(an (fF s c)).Feas x↔(∀j,j<s.2.length->0<=x j)/\EqS s x:=by
 rw[OU s c hl]
 have er:∀i,i<s.1.length->(⟨s.2.length,s.1.length,fun k j=>((bj s.1.length (kF s)).getD k rw0).1.getD j 0,fun k=>((bj s.1.length (kF s)).getD k rw0).2.2,fun j=>c.getD j 0,fun k=>((bj s.1.length (kF s)).getD k rw0).2.1⟩:Lin).row x i=sq s.2.length fun j=>((Mx s i j:Int):Rat)*x j:=fun i hi=>by
  unfold Lin.row
  refine dS fun j hj=>?_
  simp only[bC hi,kF,bC hj]
 constructor
 ·rintro ⟨h1,h2,h3⟩
  refine ⟨h1,fun i hi=>?_⟩
  have hk:((bj s.1.length (kF s)).getD i rw0).2.1=3:=by rw[bC hi];rfl
  have hb:((bj s.1.length (kF s)).getD i rw0).2.2=bwS s i:=by rw[bC hi];rfl
  have a1:=h2 i hi (by simp only[hk];omega)
  have a2:=h3 i hi (by simp only[hk];omega)
  rw[er i hi] at a1 a2
  simp only[hb] at a1 a2
  exact Rat.le_antisymm a1 a2
 ·rintro ⟨h1,h2⟩
  refine ⟨h1,fun i hi _=>?_,fun i hi _=>?_⟩
  ·have hb:((bj s.1.length (kF s)).getD i rw0).2.2=bwS s i:=by rw[bC hi];rfl
   rw[er i hi,h2 i hi]
   simp only[hb]
   exact Rat.le_refl
  ·have hb:((bj s.1.length (kF s)).getD i rw0).2.2=bwS s i:=by rw[bC hi];rfl
   rw[er i hi,h2 i hi]
   simp only[hb]
   exact Rat.le_refl
theorem oW {s:Sy}:(fz s).length=s.2.length:=by unfold fz;rw[List.length_replicate]
theorem Ox {s:Sy} (h:eL s=true) {a:Fq×List Fq×List Fq} {e:Int} (hs:cU (fF s (fz s))=some (a,e,())):cB s=some (bif decide (e=0) then a.2.1 else [],e,()):=by
 unfold cB mA
 rw[CC h,aa,hs]
 by_cases he:e=0
 ·subst he;rfl
 ·simp only[z8 he,aa]
  rfl
theorem Iq {s:Sy} (h:eL s=false) (hl:s.2.length<=1000000):cB s=some ([],1,()):=by
 unfold cB mA
 rw[H3 h hl]
 rfl
theorem Fu {s:Sy} (h:eL s=true) {y:List Fq} {e:Int} (hs:cd (fF s (fz s))=some (y,e,())):bW s=some (y,e,()):=by
 unfold bW nq
 rw[CC h,aa,hs]
 rfl
end Go.Proofs.YtegbncajloeepaaGreat

namespace Go.Proofs.YtegbncajloeepaaGreat
noncomputable section
open Tryz Dn Dn.Sh
theorem QF {a:Fq} (ha:okF a):okF (-a.1,a.2)/\qv (-a.1,a.2)= - qv a:=by
 obtain ⟨⟨a1,a2⟩,⟨a3,a4⟩,a5⟩:=ha
 refine ⟨⟨⟨a1,a2⟩,⟨by simp only;omega,by simp only;omega⟩,by simpa using a5⟩,?_⟩
 simp only[qv]
 rw[Rat.neg_mkRat]
theorem OM {a b:Fq} (ha:okF a) (hb:okF b):iH a b=some (qw (qv a - qv b)):=by
 obtain ⟨h2,h3⟩:=QF hb
 have hb':=hb
 obtain ⟨_,⟨b1,b2⟩,_⟩:=hb'
 have hw:IntKind.wrap .i64 (0 - b.1)= -b.1:=by rw[aA (by omega) (by omega)];omega
 simp only[iH,qZ,nc,z7 ha,z7 hb,aa,Bool.not_true,Bool.not_false,Bool.or_true,cT,cF]
 rw[hw,Eu ha h2,aa,h3,<-Rat.sub_eq_add_neg]
theorem RY (n:Int):cJ n=some (n,1):=id rfl
theorem JS {q:Rat} {n:Int} {a:Fq} (hq:dh q) (hn: -1152921504606846976<=n/\n<=1152921504606846976) (ha:okF a) :
  ep (prQ q) n a=some (if dh ((n:Rat)*qv a)/\dh (q+(n:Rat)*qv a) then (prQ (q+(n:Rat)*qv a),0,()) else ((0,0),5,())):=by
 have hm:=K1 (lq hn.1 hn.2) ha
 rw[pU] at hm
 simp only[ep,nh,RY,aa,hm]
 rcases gd ((n:Rat)*qv a) with ⟨f1,e1⟩ | ⟨f1,e1⟩
 ·have hA:=Eu (gA hq) (gA f1)
  rw[iK,iK] at hA
  simp only[e1,decide_true,Bool.not_true,cF,hA,aa]
  rcases gd (q+(n:Rat)*qv a) with ⟨f2,e2⟩ | ⟨f2,e2⟩
  ·rw[if_pos ⟨f1,f2⟩,e2]
  ·rw[if_neg fun h=>f2 h.2,e2]
 ·rw[if_neg fun h=>f1 h.1]
  simp only[e1]
  rfl
theorem Ca {α R:Type} {F:(α->Option R)->α->Option R} {x:α} (n:Nat) (hn:n<=1180591620717411303423) (st:Nat->α) (p:Nat->Bool) {bad good:Option R} (hx:x=st 0) (hb:∀again i,i<n->F again (st i)=bif p i then again (st (i+1)) else bad) (hf:∀again,F again (st n)=good) :
  lpK α R F x=bif (List.range' 0 n).all p then good else bad:=by
 rw[hx]
 rcases qO n (fun i=>!p i) with h | ⟨q,h1,h2,h3⟩
 ·have e:(List.range' 0 n).all p=true:=List.all_eq_true.2 fun i hi=>by
   obtain ⟨k,hk,rfl⟩:=List.mem_range'.1 hi
   have:=h (0+1*k) (by omega)
   simpa using this
  rw[e,cT]
  refine qd n hn st _ (fun again i hi=>?_) hf
  have:=h i hi
  rw[hb again i hi,show p i=true by simpa using this,cT]
 ·have e:(List.range' 0 n).all p=false:=by
   rw[Bool.eq_false_iff]
   intro hh
   rw[List.all_eq_true] at hh
   have:=hh q (iy h1)
   rw[this] at h2
   cases h2
  rw[e,cF]
  refine qd q (by omega) st _ (fun again i hi=>?_) (fun again=>?_)
  ·have:=h3 i hi
   rw[hb again i (by omega),show p i=true by simpa using this,cT]
  ·rw[hb again q h1,show p q=false by simpa using h2,cF]
def yW (s:Sy) (l:List Fq) (i:Nat):Option Rat:=e9 (bj s.2.length (Mx s i)) l 0
def jX (s:Sy) (l:List Fq) (i:Nat):Rat:=((bwS s i:Int):Rat) - (yW s l i).getD 0
def uc (s:Sy) (l:List Fq) (i:Nat):Bool:=(yW s l i).isSome&&decide (dh (jX s l i))
theorem vE {s:Sy} (h:eL s=true) {l:List Fq} (hl:l.length<=1000000):dD s l=some (bif okL l then bif decide (l.length=s.2.length) then (A1 s,0,()) else ([],3,()) else ([],1,())):=by
 have hc:aj l (fun x=>dF x.1)=some (!okL l):=by
  rw[RH (p:=fun a=>!decide (okF a)) hl (fun a _=>by simp only[dF,kz,nc,aa])]
  congr 1
  unfold okL
  rw[Bool.eq_iff_iff,Bool.not_eq_true',List.any_eq_true]
  constructor
  ·rintro ⟨a,ha,h1⟩
   rw[Bool.eq_false_iff]
   intro hh
   rw[List.all_eq_true] at hh
   rw[hh a ha] at h1
   cases h1
  ·intro hh
   rw[Bool.eq_false_iff] at hh
   apply Classical.byContradiction
   intro hn
   apply hh
   rw[List.all_eq_true]
   intro a ha
   cases hd:decide (okF a) with
   | true=>rfl
   | false=>exact (hn ⟨a,ha,by rw[hd];rfl⟩).elim
 unfold dD lW
 rw[GI h,aa,hc,aa]
 rw[show decide ((l.length:Int)=s.2.length)=decide (l.length=s.2.length) from decide_eq_decide.2 (by omega)]
 cases okL l with
 | false=>rfl
 | true=>cases decide (l.length=s.2.length)<;>rfl
theorem Qk {s:Sy} (h:eL s=true) {l:List Fq} (ho:∀a ∈ l,okF a) (hlen:l.length=s.2.length) :
  bz s l=bif (List.range' 0 s.1.length).all (uc s l) then some (bj s.1.length fun i=>prQ (jX s l i),0,()) else some ([],5,()):=by
 have hV:=fG h
 have hb:=hV.bl
 have hr:=hV.rl
 have hz:cJ 0=some (prQ 0):=rfl
 unfold bz fR
 rw[vE h (by omega),aa,lr.2 ho,z7 hlen]
 simp only[cT,decide_true,Bool.not_true,cF]
 unfold A1
 refine Ca s.1.length (by omega) (fun i=>(bj i (fun i=>prQ (jX s l i)),(0:Int),(i:Int),PUnit.unit)) (uc s l) rfl (fun again i hi=>?_) (fun again=>?_)
 ·obtain ⟨out,hout⟩:∃out,out=bj i (fun i=>prQ (jX s l i)):=⟨_,rfl⟩
  have hol:out.length=i:=by rw[hout,ay]
  have hnx:bj (i+1) (fun i=>prQ (jX s l i))=out++[prQ (jX s l i)]:=by rw[hout,kT]
  simp only[hnx,<-hout]
  have hM:(qP s.1.length s.2.length (Mx s)).getD i []=bj s.2.length (Mx s i):=kB hi
  have hwt:=hV.wt i hi
  have hlr:(bj s.2.length (Mx s i)).length=s.2.length:=ay
  simp only[fQ,aH,z7 hi,z7 (show (i:Int)<s.1.length by omega),cT,z9,hM,hz,aa]
  refine (io (α:=Int×Fq×PUnit) (bj s.2.length (Mx s i)).length (by omega) (fun k (q:{q:Rat // dh q})=>((k:Int),prQ q.1,PUnit.unit))
   (fun k q K=>if h:dh ((((bj s.2.length (Mx s i)).getD k 0:Int):Rat)*qv (l.getD k (0,0)))/\dh (q.1+(((bj s.2.length (Mx s i)).getD k 0:Int):Rat)*qv (l.getD k (0,0))) then K ⟨_,h.2⟩ else some ([],5,()))
   (fun q=>bif decide (dh (((bwS s i:Int):Rat) - q.1)) then again (out++[prQ (((bwS s i:Int):Rat) - q.1)],0,((i+1:Nat):Int),PUnit.unit) else some ([],5,())) ?_ ?_ ⟨0,by decide⟩).trans ?_
  ·intro again1 k q hk
   rw[hlr] at hk
   obtain ⟨q,hq⟩:=q
   have hkl:k<l.length:=by omega
   have ha:okF (l.getD k (0,0)):=by rw[aP hkl];exact ho _ (List.getElem_mem _)
   have hg:(bj s.2.length (Mx s i)).getD k 0=Mx s i k:=bC hk
   have hbd:=yq hV i hk
   have hp:=JS (n:=Mx s i k) hq (by omega) ha
   simp only[aH,ay,z7 hk,z7 hkl,z7 (show (k:Int)<l.length by omega),cT,z9,hg,hp,aa,cW (show k<=1000000 by omega)]
   by_cases c:dh ((Mx s i k:Rat)*qv (l.getD k (0,0)))/\dh (q+(Mx s i k:Rat)*qv (l.getD k (0,0)))
   ·rw[dif_pos c,if_pos c]
    simp only[decide_true,Bool.not_true,cF]
   ·rw[dif_neg c,if_neg c]
    rfl
  ·intro again1 q
   obtain ⟨q,hq⟩:=q
   have hS:=OM (lq (n:=bwS s i) (by omega) (by omega)) (gA hq)
   rw[pU,iK] at hS
   have hwS:cJ (List.getD s.1 i ({ data:={ toList:=[] } },(0:Int))).2=some (bwS s i,1):=rfl
   simp only[hlr,hlen,z8 (show ¬ (s.2.length:Int)<s.2.length by omega),cF,hwS,aa,hS]
   rcases gd (((bwS s i:Int):Rat) - q) with ⟨f2,e2⟩ | ⟨f2,e2⟩
   ·rw[z7 f2]
    simp only[e2,decide_true,Bool.not_true,cF,cT,cW (show i<=1000000 by omega),eK (show (out.length+1)*16<=140737488355328 by omega)]
   ·rw[z8 f2]
    simp only[e2]
    rfl
  ·rw[xK (cur:=fun q:{q:Rat // dh q}=>q.1) (bad:=some ([],5,())) (good:=fun q=>bif decide (dh (((bwS s i:Int):Rat) - q)) then again (out++[prQ (((bwS s i:Int):Rat) - q)],0,((i+1:Nat):Int),PUnit.unit) else some ([],5,())) (l:=bj s.2.length (Mx s i)) (x:=l) (by omega) (fun k q h=>⟨_,h⟩) (fun _ _ _=>rfl) (fun _ _ _ _=>rfl) (fun _=>rfl) (bj s.2.length (Mx s i)).length 0 ⟨0,by decide⟩ (by omega)]
   simp only[List.drop_zero]
   rw[show e9 (bj s.2.length (Mx s i)) l 0=yW s l i from rfl]
   unfold uc jX
   cases hq:yW s l i with
   | none=>rfl
   | some q=>rfl
 ·simp only[fQ,z8 (show ¬ (s.1.length:Int)<s.1.length by omega),cF,decide_true,Bool.not_true]
def eqB (s:Sy) (l:List Fq):Bool:=(List.range' 0 s.1.length).all fun i=>decide (jX s l i=0)
def lX (s:Sy) (l:List Fq):Bool:=(List.range' 0 s.1.length).all (uc s l)
theorem GF {q:Rat}:(prQ q).1=0↔q=0:=Rat.num_eq_zero
theorem zJ {s:Sy} (h:eL s=true) {l:List Fq} (hl:l.length<=1000000):df s l=some (bif okL l then bif decide (l.length=s.2.length) then bif lX s l then (eqB s l,0,()) else (false,5,()) else (false,3,()) else (false,1,())):=by
 unfold df lY
 cases ho:okL l with
 | false =>
  have hr:bz s l=some ([],1,()):=by
   unfold bz fR
   rw[vE h hl,aa,ho]
   rfl
  rw[hr]
  rfl
 | true =>
  by_cases hn:l.length=s.2.length
  ·have hb:=(fG h).bl
   rw[Qk h (lr.1 ho) hn,z7 hn]
   rw[show ((List.range' 0 s.1.length).all (uc s l))=lX s l from rfl]
   cases hr:lX s l with
   | false=>rfl
   | true =>
    have hc:aj (bj s.1.length fun i=>prQ (jX s l i)) (fun x=>dz x.1)=some (!eqB s l):=by
     rw[RH (p:=fun a=>!decide (a.1=0)) (by rw[ay];omega) (fun a _=>by simp only[dz,kr])]
     congr 1
     unfold eqB
     rw[Bool.eq_iff_iff,List.any_eq_true,Bool.not_eq_true',Bool.eq_false_iff,Ne,List.all_eq_true]
     constructor
     ·rintro ⟨a,ha,h1⟩ hh
      obtain ⟨i,hi,rfl⟩:=lQ.1 ha
      have:=z12 (hh i (iy hi))
      rw[z7 (GF.2 this)] at h1
      cases h1
     ·intro hh
      apply Classical.byContradiction
      intro hn
      apply hh
      intro i hi
      obtain ⟨k,hk,rfl⟩:=List.mem_range'.1 hi
      refine z7 (Classical.byContradiction fun h0=>hn ⟨prQ (jX s l (0+1*k)),lQ.2 ⟨_,by omega,rfl⟩,?_⟩)
      rw[z8 fun e=>h0 (GF.1 e)]
      rfl
    simp only[cT,aa,decide_true,Bool.not_true,cF,hc,Bool.not_not]
  ·have hr:bz s l=some ([],3,()):=by
    unfold bz fR
    rw[vE h hl,aa,ho,z8 hn]
    rfl
   rw[hr,z8 hn]
   rfl
theorem OC {s:Sy} {l:List Fq} (hn:l.length=s.2.length) (hr:lX s l=true):eqB s l=true↔EqS s (vX l):=by
 unfold lX at hr
 unfold eqB
 rw[List.all_eq_true] at hr ⊢
 have e:∀i,i<s.1.length->jX s l i=((bwS s i:Int):Rat) - sq s.2.length fun j=>((Mx s i j:Int):Rat)*vX l j:=fun i hi=>by
  have h1:=hr i (iy hi)
  unfold uc at h1
  rw[z10] at h1
  have h2:=q8 (l:=bj s.2.length (Mx s i)) (x:=l) (by rw[ay];omega) h1.1
  unfold jX yW
  rw[h2,ay]
  congr 1
  exact dS fun j hj=>by rw[bC hj]
 constructor
 ·intro h i hi
  have h1:=z12 (h i (iy hi))
  rw[e i hi] at h1
  grind
 ·intro h i hi
  obtain ⟨k,hk,rfl⟩:=List.mem_range'.1 hi
  refine z7 ?_
  have h1:=h (0+1*k) (by omega)
  rw[e _ (by omega),h1]
  grind
theorem E7 {s:Sy} (h:eL s=true) {c:List Int} (hc:c.length=s.2.length) {l:List Fq} (ho:∀a ∈ l,okF a) (hn:l.length=s.2.length) (hf:Av (fF s c) l=true) (hF:(an (fF s c)).Feas (vX l)):df s l=some (true,0,()):=by
 have hr:=(fG h).rl
 obtain ⟨hpos,hE⟩:=(HM hc).1 hF
 have hsome:∀i,i<s.1.length->(yW s l i).isSome=true:=fun i hi=>by
  unfold Av at hf
  rw[List.all_eq_true] at hf
  exact hf (kF s i) (lQ.2 ⟨i,hi,rfl⟩)
 have h0:∀i,i<s.1.length->jX s l i=0:=fun i hi=>by
  have h2:=q8 (l:=bj s.2.length (Mx s i)) (x:=l) (by rw[ay];omega) (hsome i hi)
  unfold jX yW
  rw[h2,ay,dS (g:=fun j=>((Mx s i j:Int):Rat)*vX l j) fun j hj=>by rw[bC hj],hE i hi]
  grind
 have hall:lX s l=true:=List.all_eq_true.2 fun i hi=>by
  obtain ⟨k,hk,rfl⟩:=List.mem_range'.1 hi
  unfold uc
  rw[hsome _ (by omega),h0 _ (by omega)]
  rfl
 rw[zJ h (by omega),lr.2 ho,z7 hn,hall,(OC hn hall).2 hE]
 rfl
theorem PF {l:List Fq} (ho:∀a ∈ l,okF a):(l.all fun a=>!decide (a.1<0))=true↔∀j,j<l.length->0<=vX l j:=by
 rw[G5 (0,0)]
 constructor
 ·intro h j hj
  have h1:=h j hj
  rw[Bool.not_eq_true',decide_eq_false_iff_not] at h1
  exact (mQ (ho _ (by rw[aP hj];exact List.getElem_mem _))).2 (by omega)
 ·intro h j hj
  have h1:=(mQ (ho (l.getD j (0,0)) (by rw[aP hj];exact List.getElem_mem _))).1 (h j hj)
  rw[Bool.not_eq_true',decide_eq_false_iff_not]
  omega
theorem FN {s:Sy} {r:Nat->Rat} (h:(an (fF s (fz s))).Ray r):False:=by
 have h1:=h.val
 have h2:0<=(an (fF s (fz s))).val r:=HV fun j hj=>by
  have hj':j<s.2.length:=by have:j<(fz s).length:=hj;rw[oW] at this;exact this
  have e:(an (fF s (fz s))).c j=1:=by
   show (fz s).getD j 0=1
   rw[aP (by rw[oW];exact hj')]
   unfold fz
   exact List.getElem_replicate _
  rw[e]
  have:=h.pos j hj
  grind
 grind
end
end Go.Proofs.YtegbncajloeepaaGreat

namespace Go.Proofs.YtegbncajloeepaaGreat
open Tryz Dn Dn.Sh
theorem Km {α:Type} [DecidableEq α] (d:α) {l m:List α} (h:l.length=m.length):(List.range' 0 l.length).all (fun i=>decide (l.getD i d=m.getD i d))=decide (l=m):=by
 rw[Bool.eq_iff_iff,decide_eq_true_iff,List.all_eq_true]
 constructor
 ·intro hh
  refine List.ext_getElem h fun i h1 h2=>?_
  have:=z12 (hh i (iy h1))
  rw[aP h1,aP h2] at this
  exact this
 ·rintro rfl i _
  exact z7 rfl
theorem KY {α:Type} [DecidableEq α] (d:α) {l m:List α} (h:l.length=m.length) (hl:l.length<=1000000) {F:(Int×PUnit->Option Bool)->Int×PUnit->Option Bool}
  (hb:∀again (i:Nat),i<l.length->F again ((i:Int),PUnit.unit)=bif decide (l.getD i d=m.getD i d) then again (((i+1:Nat):Int),PUnit.unit) else some false) (hf:∀again,F again ((l.length:Int),PUnit.unit)=some true) :
  lpK (Int×PUnit) Bool F ((0:Int),PUnit.unit)=some (decide (l=m)):=by
 refine (io (α:=Int×PUnit) l.length (by omega) (fun i (_:Unit)=>((i:Int),PUnit.unit)) (fun i s k=>bif decide (l.getD i d=m.getD i d) then k s else some false) (fun _=>some true) ?_ ?_ ()).trans ?_
 ·intro again i _ hi
  exact hb again i hi
 ·intro again _
  exact hf again
 ·rw[jE l.length (fun i k _=>rfl) l.length 0 (by omega),Km d h]
  cases decide (l=m)<;>rfl
theorem Hk (a b:Fq):(decide (a.1=b.1)&&(decide (a.2=b.2)&&true))=decide (a=b):=by
 rw[Bool.eq_iff_iff,z10,Bool.and_true,decide_eq_true_iff,decide_eq_true_iff,decide_eq_true_iff]
 exact ⟨fun h=>Prod.ext h.1 h.2,fun h=>by rw[h];exact ⟨rfl,rfl⟩⟩
end Go.Proofs.YtegbncajloeepaaGreat

namespace Go.Proofs.YtegbncajloeepaaGreat
noncomputable section
open Tryz Dn Dn.Sh
abbrev Cl:=List Fq×Bool×List Fq
theorem HG:aW=some true:=by kernel_rfl
def Gk (c:Cl):Bool:=decide (c.1.length>30)||decide (c.2.2.length>30)
theorem ND (c:Cl):ba c=some (Gk c):=by
 simp only[ba,pC]
 unfold Gk
 rw[show decide ((c.1.length:Int)>30)=decide (c.1.length>30) from decide_eq_decide.2 (by omega),show decide ((c.2.2.length:Int)>30)=decide (c.2.2.length>30) from decide_eq_decide.2 (by omega)]
 cases decide (c.1.length>30)<;>rfl
def jQ (c:Cl):List Fq:=bif c.2.1 then c.2.2 else c.1
def p6 (c:Cl):List Fq:=bif c.2.1 then c.1 else c.2.2
theorem NR (c:Cl):eB c=some (jQ c):=by
 obtain ⟨a,r,b⟩:=c
 simp only[eB,pn]
 cases r<;>rfl
theorem IL (c:Cl):fX c=some (p6 c):=by
 obtain ⟨a,r,b⟩:=c
 simp only[fX,nV]
 cases r<;>rfl
def mR (c:Cl):Int:=bif okL c.1&&okL c.2.2 then bif decide (0<(p6 c).length) then 19 else 0 else 1
theorem I8 {c:Cl} (h1:c.1.length<=1000) (h2:c.2.2.length<=1000):dt c=some (mR c):=by
 simp only[dt,nW,Bl (show c.1.length<=1000000 by omega),Bl (show c.2.2.length<=1000000 by omega),IL,aa]
 unfold mR
 rw[show (c.1.all fun a=>decide (okF a))=okL c.1 from rfl,show (c.2.2.all fun a=>decide (okF a))=okL c.2.2 from rfl,show decide (((p6 c).length:Int)>0)=decide (0<(p6 c).length) from decide_eq_decide.2 (by omega)]
 cases okL c.1<;>cases okL c.2.2<;>cases decide (0<(p6 c).length)<;>rfl
theorem Iw {l:List Int} {x:List Fq} (hl:l.length=x.length) (h0:l.length<=1000000) (hc:∀n ∈ l,-1152921504606846976<=n/\n<=1152921504606846976) (hx:∀a ∈ x,okF a) :
  gy l x=Jj (e9 l x 0) (some ((0,0),5,())) fun q=>some (prQ q,0,()):=by
 unfold gy qS
 rw[qy,obN]
 refine (io (α:=Int×Fq×Fq×PUnit) l.length (by omega) (fun i (s:{q:Rat // dh q})=>((i:Int),(0,0),prQ s.1,PUnit.unit))
  (fun i s k=>if h:dh (((l.getD i 0:Int):Rat)*qv (x.getD i (0,0)))/\dh (s.1+((l.getD i 0:Int):Rat)*qv (x.getD i (0,0))) then k ⟨_,h.2⟩ else some ((0,0),5,())) (fun s=>some (prQ s.1,0,())) ?_ ?_ ⟨0,by decide⟩).trans ?_
 ·intro again i s hi
  have hw:IntKind.wrap .i64 ((i:Int)+1)=((i+1:Nat):Int):=by rw[aA (by omega) (by omega)];rfl
  obtain ⟨q,hq⟩:=s
  have hn:l.getD i 0 ∈ l:=by rw[aP hi];exact List.getElem_mem _
  have ha:okF (x.getD i (0,0)):=by rw[aP (show i<x.length by omega)];exact hx _ (List.getElem_mem _)
  have hm:=zK (lq (hc _ hn).1 (hc _ hn).2) ha
  rw[pU] at hm
  simp only[aH,z7 hi,z7 (show i<x.length by omega),z7 (show (i:Int)<x.length by omega),cT,z9,hw,qy,hm,aa]
  generalize l.getD i 0=n at *
  generalize x.getD i (0,0)=a at *
  rcases gd ((n:Rat)*qv a) with ⟨f1,e1⟩ | ⟨f1,e1⟩
  ·have hA:=AO (gA hq) (gA f1)
   rw[iK,iK] at hA
   simp only[e1,decide_true,Bool.not_true,cF,hA,aa]
   rcases gd (q+(n:Rat)*qv a) with ⟨f2,e2⟩ | ⟨f2,e2⟩
   ·rw[dif_pos ⟨f1,f2⟩]
    simp only[e2,decide_true,Bool.not_true,cF]
   ·rw[dif_neg fun h=>f2 h.2]
    simp only[e2]
    rfl
  ·rw[dif_neg fun h=>f1 h.1]
   simp only[e1]
   rfl
 ·intro again s
  simp only[z8 (show ¬ (l.length:Int)<x.length by omega),cF]
 ·exact xK (cur:=fun s:{q:Rat // dh q}=>s.1) (bad:=some ((0,0),5,())) (good:=fun q=>some (prQ q,0,())) (by omega) (fun i s h=>⟨_,h⟩) (fun _ _ _=>rfl) (fun _ _ _ _=>rfl) (fun _=>rfl) l.length 0 ⟨0,by decide⟩ (by omega)
theorem Ec {s:Sy} (h:eL s=true) {l:List Fq} (hl:l.length<=1000000):fY s l=some (bif okL l then bif decide (l.length=s.2.length) then 0 else 3 else 1):=by
 simp only[fY,oj,w7,h,aa,Bl hl]
 rw[show (l.all fun a=>decide (okF a))=okL l from rfl,show decide ((l.length:Int)=s.2.length)=decide (l.length=s.2.length) from decide_eq_decide.2 (by omega)]
 cases okL l with
 | false=>rfl
 | true=>cases decide (l.length=s.2.length)<;>rfl
theorem Jg {s:Sy} (h:eL s=true) {l:List Fq} (ho:∀a ∈ l,okF a) (hlen:l.length=s.2.length) :
  cP s l=bif (List.range' 0 s.1.length).all (uc s l) then some (bj s.1.length fun i=>prQ (jX s l i),0,()) else some ([],5,()):=by
 have hV:=fG h
 have hb:=hV.bl
 have hr:=hV.rl
 unfold cP kD
 rw[Ec h (by omega),aa,lr.2 ho,z7 hlen]
 simp only[cT,decide_true,Bool.not_true,cF,Cu hV,aa]
 unfold A1
 refine Ca s.1.length (by omega) (fun i=>(bj i (fun i=>prQ (jX s l i)),(i:Int),PUnit.unit)) (uc s l) rfl (fun again i hi=>?_) (fun again=>?_)
 ·obtain ⟨out,hout⟩:∃out,out=bj i (fun i=>prQ (jX s l i)):=⟨_,rfl⟩
  have hol:out.length=i:=by rw[hout,ay]
  have hnx:bj (i+1) (fun i=>prQ (jX s l i))=out++[prQ (jX s l i)]:=by rw[hout,kT]
  simp only[hnx,<-hout]
  have hM:(qP s.1.length s.2.length (Mx s)).getD i []=bj s.2.length (Mx s i):=kB hi
  have hwt:=hV.wt i hi
  have hS:=Iw (l:=bj s.2.length (Mx s i)) (x:=l) (by rw[ay];omega) (by rw[ay];omega) (fun n hn=>by
   obtain ⟨k,hk,rfl⟩:=lQ.1 hn
   have:=yq hV i hk
   omega) ho
  rw[show e9 (bj s.2.length (Mx s i)) l 0=yW s l i from rfl] at hS
  simp only[fQ,aH,z7 hi,z7 (show (i:Int)<s.1.length by omega),cT,z9,hM,hS,show List.getD s.1 i ({ data:={ toList:=[] } },(0:Int))=s.1.getD i bk0 from rfl,cW (show i<=1000000 by omega),hol,
   eK (show (i+1)*16<=140737488355328 by omega)]
  have hfit:∀q,yW s l i=some q->dh q:=fun q hq=>si (by decide) hq
  cases hq:yW s l i with
  | none =>
   have hB:uc s l i=false:=by unfold uc;rw[hq];rfl
   rw[hB]
   rfl
  | some q =>
   have hf:=hfit q hq
   have hw: -1152921504606846976<=bwS s i/\bwS s i<=1152921504606846976:=by omega
   have hsub:=Qh (lq hw.1 hw.2) (gA hf)
   rw[pU,iK] at hsub
   have hQ:jX s l i=((bwS s i:Int):Rat) - q:=by unfold jX;rw[hq];rfl
   rw[<-hQ] at hsub
   have hB:uc s l i=decide (dh (jX s l i)):=by unfold uc;rw[hq];rfl
   rw[hB]
   show (ah (some (prQ q,0,())) _)=_
   rw[aa]
   simp only[decide_true,Bool.not_true,cF,qy,aa]
   rw[show ia ((s.1.getD i bk0).2,1) (prQ q)=some (qw (jX s l i)) from hsub,aa]
   rcases gd (jX s l i) with ⟨f1,e1⟩ | ⟨f1,e1⟩
   ·rw[z7 f1,e1]
    rfl
   ·rw[z8 f1,e1]
    rfl
 ·simp only[z8 (show ¬ (s.1.length:Int)<s.1.length by omega),cF]
theorem Rt {q:Rat}:prQ q=(0,1)↔q=0:=by
 constructor
 ·intro h
  have h1:=congrArg qv h
  rw[iK] at h1
  rw[h1]
  rfl
 ·intro h
  rw[h]
  rfl
theorem Dp {s:Sy} (h:eL s=true) {l:List Fq} (ho:∀a ∈ l,okF a) (hlen:l.length=s.2.length):fg s l=some (bif lX s l then (eqB s l,0,()) else (false,5,())):=by
 have hV:=fG h
 have hb:=hV.bl
 unfold fg nS
 rw[Jg h ho hlen]
 unfold lX
 cases hr:(List.range' 0 s.1.length).all (uc s l) with
 | false=>rfl
 | true =>
  rw[cT,obN]
  simp only[decide_true,Bool.not_true,cF]
  refine (sC (p:=fun a:Fq=>decide (a=(0,1))) (d:=(0,0)) (l:=bj s.1.length fun i=>prQ (jX s l i)) (no:=some (false,0,())) (yes:=some (true,0,())) (by rw[ay];omega) ?_ ?_).trans ?_
  ·intro again i hi
   simp only[aH,z7 hi,z7 (show (i:Int)<(bj s.1.length fun i=>prQ (jX s l i)).length by omega),cT,z9,qy,aa,cW (show i<=1000000 by rw[ay] at hi;omega),Hk]
   cases decide ((bj s.1.length fun i=>prQ (jX s l i)).getD i (0,0)=(0,1))<;>rfl
  ·intro again
   simp only[z8 (show ¬ ((bj s.1.length fun i=>prQ (jX s l i)).length:Int)<(bj s.1.length fun i=>prQ (jX s l i)).length by omega),cF]
  ·have e:((bj s.1.length fun i=>prQ (jX s l i)).all fun a=>decide (a=(0,1)))=eqB s l:=by
    unfold eqB
    rw[Bool.eq_iff_iff,List.all_eq_true,List.all_eq_true]
    constructor
    ·intro hh i hi
     obtain ⟨k,hk,rfl⟩:=List.mem_range'.1 hi
     exact z7 (Rt.1 (z12 (hh _ (lQ.2 ⟨_,(by omega:0+1*k<s.1.length),rfl⟩))))
    ·intro hh a ha
     obtain ⟨i,hi,rfl⟩:=lQ.1 ha
     exact z7 (Rt.2 (z12 (hh i (iy hi))))
   rw[e]
   cases eqB s l<;>rfl
def MU (s:Sy) (c:Cl):Bool×Int×Unit :=
 bif eL s then bif decide (mR c=0) then bif decide ((jQ c).length=bif c.2.1 then s.1.length else s.2.length) then
  bif c.2.1 then bif oI (fF s (fz s)) (jQ c)&&(qc (fF s (fz s)) (jQ c)).isSome then (Di (fF s (fz s)) (jQ c),0,()) else (false,5,())
  else bif lX s (jQ c) then (eqB s (jQ c)&&(jQ c).all fun a=>!decide (a.1<0),0,()) else (false,5,())
  else (false,3,()) else (false,mR c,()) else (false,1,())
theorem EY {c:Cl} (h:mR c=0):(∀a ∈ jQ c,okF a)/\(p6 c).length=0:=by
 unfold mR at h
 cases hb:okL c.1&&okL c.2.2 with
 | false=>rw[hb,cF] at h;omega
 | true =>
  rw[hb,cT] at h
  rw[z10] at hb
  refine ⟨?_,?_⟩
  ·unfold jQ
   cases c.2.1
   ·exact lr.1 hb.1
   ·exact lr.1 hb.2
  ·by_cases h0:0<(p6 c).length
   ·rw[z7 h0,cT] at h;omega
   ·omega
theorem Dl (s:Sy) {c:Cl} (h1:c.1.length<=1000) (h2:c.2.2.length<=1000) (hsl:s.2.length<=1000000):cM s c=some (MU s c):=by
 simp only[cM,oq,NR,w7,I8 h1 h2,aa,sB]
 have hll:(jQ c).length<=1000:=by unfold jQ;cases c.2.1<;>assumption
 unfold MU
 cases hv:eL s with
 | false=>rfl
 | true =>
  have hV:=fG hv
  have hp:=ud hV
  have hpl:(fF s (fz s)).2.length=s.1.length:=ay
  simp only[Bool.not_true,cF,cT]
  by_cases hg:mR c=0
  ·obtain ⟨hok,hot⟩:=EY hg
   rw[z7 hg]
   simp only[Bool.not_true,cF,cT]
   cases hc:c.2.1 with
   | true =>
    simp only[cT]
    by_cases hn:(jQ c).length=s.1.length
    ·rw[z7 hn,z7 (show ((jQ c).length:Int)=s.1.length by omega)]
     simp only[Bool.not_true,cF,cT,D2 s hsl,Ab hv,aa,C6 hp hok (by rw[hpl];exact hn)]
    ·rw[z8 hn,z8 (show ¬ ((jQ c).length:Int)=s.1.length by omega)]
     rfl
   | false =>
    simp only[cF]
    by_cases hn:(jQ c).length=s.2.length
    ·rw[z7 hn,z7 (show ((jQ c).length:Int)=s.2.length by omega)]
     simp only[Bool.not_true,cF,cT,Dp hv hok hn,aa]
     cases lX s (jQ c) with
     | false=>rfl
     | true =>
      simp only[cT,decide_true,Bool.not_true,cF]
      generalize jQ c=l at hll ⊢
      refine (bR l.length (by omega) (fun i=>(eqB s l&&(l.take i).all (fun a=>!decide (a.1<0)),(i:Int),PUnit.unit)) (some (eqB s l&&(l.take l.length).all (fun a=>!decide (a.1<0)),0,())) (by rw[List.take_zero];simp) (fun again i hi=>?_) (fun again=>?_)).trans ?_
      ·have hx:(l.take (i+1)).all (fun a=>!decide (a.1<0))=((l.take i).all (fun a=>!decide (a.1<0))&&decide ((l.getD i (0,0)).1>=0)):=by
        rw[<-vm (0,0) hi,List.all_append]
        simp only[List.all_cons,List.all_nil,Bool.and_true]
        congr 1
        by_cases g:(l.getD i (0,0)).1<0
        ·rw[z7 g,z8 (by omega)];rfl
        ·rw[z8 g,z7 (by omega)];rfl
       rw[hx,<-Bool.and_assoc (eqB s l)]
       generalize (eqB s l&&(l.take i).all (fun a=>!decide (a.1<0)))=b
       simp only[aH,z7 hi,z7 (show (i:Int)<l.length by omega),cT,z9,cW (show i<=1000000 by omega)]
       cases b<;>rfl
      ·simp only[z8 (show ¬ (l.length:Int)<l.length by omega),cF]
      ·rw[List.take_length]
    ·rw[z8 hn,z8 (show ¬ ((jQ c).length:Int)=s.2.length by omega)]
     rfl
  ·rw[z8 hg]
   rfl
end
end Go.Proofs.YtegbncajloeepaaGreat

namespace Go.Proofs.YtegbncajloeepaaGreat
open Tryz Dn Dn.Sh
structure TabR (m w:Nat) (L:Nat->Nat->Int) (t:List Nat×List (Option (List Int))):Prop where
 len:t.1.length=m
 cell:∀i,i<m->t.2.getD (t.1.getD i 0) none=some (bj w (L i))
 inj:∀i j,i<m->j<m->t.1.getD i 0=t.1.getD j 0->i=j
section
variable {m w:Nat} {L L':Nat->Nat->Int} {t:List Nat×List (Option (List Int))}
theorem TabR.row (h:TabR m w L t) {i:Nat} (hi:i<m):bI t.2 (t.1.getD i 0)=bj w (L i):=by unfold bI;rw[h.cell i hi];rfl
theorem TabR.live (h:TabR m w L t) {i:Nat} (hi:i<m):fW t.2 (t.1.getD i 0)=true:=by unfold fW;rw[h.cell i hi];rfl
theorem TabR.id_lt (h:TabR m w L t) {i:Nat} (hi:i<m):t.1.getD i 0<t.2.length:=by
 have h1:=h.cell i hi
 by_cases h2:t.1.getD i 0<t.2.length
 ·exact h2
 ·rw[List.getD_eq_getElem?_getD,List.getElem?_eq_none (by omega)] at h1
  cases h1
theorem TabR.congr (h:TabR m w L t) (e:∀i j,i<m->j<w->L i j=L' i j):TabR m w L' t :=
 ⟨h.len,fun i hi=>by rw[h.cell i hi,di fun j hj=>e i j hi hj],h.inj⟩
theorem TabR.all (h:TabR m w L t):(t.1.all fun x=>fW t.2 x)=true:=by
 rw[List.all_eq_true]
 intro x hx
 obtain ⟨i,hi,he⟩:=List.mem_iff_getElem.1 hx
 have hi':i<m:=by rw[<-h.len];exact hi
 have:=h.live hi'
 rw[aP hi,he] at this
 exact this
theorem TabR.map (h:TabR m w L t):t.1.map (fun x=>bI t.2 x)=qP m w L:=by
 refine List.ext_getElem (by rw[List.length_map,h.len,fQ]) fun i h1 h2=>?_
 have hi:i<m:=by rw[fQ] at h2;exact h2
 have hi':i<t.1.length:=by rw[h.len];exact hi
 have e1:=h.row hi
 rw[aP hi'] at e1
 rw[List.getElem_map,e1]
 have e2:=kB (w:=w) (T:=L) hi
 rw[aP h2] at e2
 exact e2.symm
theorem TabR.put (h:TabR m w L t) {i j:Nat} {x:Int} (hi:i<m) (hj:j<w) (e:∀k l,k<m->l<w->(if k=i/\l=j then x else L k l)=L' k l) :
  TabR m w L' (t.1,t.2.set (t.1.getD i 0) (some ((bj w (L i)).set j x))):=by
 refine ⟨h.len,fun k hk=>?_,h.inj⟩
 show (t.2.set (t.1.getD i 0) (some ((bj w (L i)).set j x))).getD (t.1.getD k 0) none=_
 have hl:=h.id_lt hi
 rw[List.getD_eq_getElem?_getD,List.getElem?_set]
 by_cases c:i=k
 ·subst c
  rw[if_pos rfl,if_pos hl,kc hj]
  show some _=some _
  congr 1
  refine di fun l hl=>?_
  rw[<-e i l hi hl]
  by_cases c2:l=j
  ·rw[if_pos c2,if_pos ⟨rfl,c2⟩]
  ·rw[if_neg c2,if_neg fun h=>c2 h.2]
 ·rw[if_neg fun h'=>c (h.inj i k hi hk h'),<-List.getD_eq_getElem?_getD,h.cell k hk]
  congr 1
  refine di fun l hl=>?_
  rw[<-e k l hk hl,if_neg fun h=>c h.1.symm]
def swp (a b i:Nat):Nat:=if i=a then b else if i=b then a else i
theorem w6 (a b i:Nat):swp a b (swp a b i)=i:=by unfold swp;(repeat' split)<;>omega
theorem qY {a b i:Nat} (ha:a<m) (hb:b<m) (hi:i<m):swp a b i<m:=by unfold swp;(repeat' split)<;>omega
theorem JG {l:List Nat} {a b i:Nat} (ha:a<l.length) (hb:b<l.length):((l.set a (l.getD b 0)).set b (l.getD a 0)).getD i 0=l.getD (swp a b i) 0:=by
 rw[List.getD_eq_getElem?_getD,List.getElem?_set,List.length_set,List.getElem?_set]
 unfold swp
 by_cases c1:i=a
 ·subst c1
  by_cases c2:b=i
  ·subst c2
   rw[if_pos rfl,if_pos ha,if_pos rfl]
   rfl
  ·rw[if_neg c2,if_pos rfl,if_pos ha,if_pos rfl]
   rfl
 ·by_cases c2:b=i
  ·subst c2
   rw[if_pos rfl,if_pos hb,if_neg c1,if_pos rfl]
   rfl
  ·rw[if_neg c2,if_neg (fun h=>c1 h.symm),if_neg c1,if_neg (fun h=>c2 h.symm),List.getD_eq_getElem?_getD]
theorem TabR.swap (h:TabR m w L t) {a b:Nat} (ha:a<m) (hb:b<m):TabR m w (fun i=>L (swp a b i)) ((t.1.set a (t.1.getD b 0)).set b (t.1.getD a 0),t.2++[]++[]):=by
 have e:=fun i=>JG (l:=t.1) (a:=a) (b:=b) (i:=i) (by rw[h.len];exact ha) (by rw[h.len];exact hb)
 refine ⟨by rw[List.length_set,List.length_set];exact h.len,fun i hi=>?_,fun i j hi hj he=>?_⟩
 ·show (t.2++[]++[]).getD (((t.1.set a (t.1.getD b 0)).set b (t.1.getD a 0)).getD i 0) none=_
  rw[e,List.append_nil,List.append_nil,h.cell _ (qY ha hb hi)]
 ·have he':((t.1.set a (t.1.getD b 0)).set b (t.1.getD a 0)).getD i 0=((t.1.set a (t.1.getD b 0)).set b (t.1.getD a 0)).getD j 0:=he
  rw[e,e] at he'
  have:=h.inj _ _ (qY ha hb hi) (qY ha hb hj) he'
  rw[<-w6 a b i,this,w6]
end
def AI (w:Nat) (N:Nat->Nat->Int):Nat->Nat->Int:=fun i j=>if j<w then N i j else if j=w+i then 1 else 0
section
variable {m w:Nat} {a b:Nat}
theorem Sl {f:Nat->Int} (ha:a<m) (hb:b<m) (hab:a≠b):sz m (fun i=>f (swp a b i))=sz m f:=by
 have e:sz m (fun i=>f (swp a b i))=sz m fun i=>f i+((if i=a then f b - f a else 0)+(if i=b then f a - f b else 0)):=br fun i hi=>by
  unfold swp
  by_cases h1:i=a
  ·subst h1
   rw[if_pos rfl,if_pos rfl,if_neg hab]
   omega
  ·rw[if_neg h1,if_neg h1]
   by_cases h2:i=b
   ·subst h2
    rw[if_pos rfl,if_pos rfl]
    omega
   ·rw[if_neg h2,if_neg h2]
    omega
 rw[e,nU,nU,fy ha (f:=fun i=>if i=a then f b - f a else 0) (fun i _ hne=>if_neg hne),fy hb (f:=fun i=>if i=b then f a - f b else 0) (fun i _ hne=>if_neg hne)]
 simp only[if_true]
 omega
theorem Lk {M:Nat->Nat->Int} {γ:Nat->Nat} (ha:a<m) (hb:b<m) (hab:a≠b):dc m M (fun k=>γ (swp a b k))= - dc m M γ:=by
 have e1:fa M (fun k=>γ (swp a b k))=bO (bO (fa M γ) a fun i=>M i (γ b)) b fun i=>M i (γ a):=by
  funext i k
  show M i (γ (if k=a then b else if k=b then a else k))=if k=b then M i (γ a) else if k=a then M i (γ b) else M i (γ k)
  by_cases h1:k=b
  ·subst h1
   rw[if_neg (Ne.symm hab),if_pos rfl,if_pos rfl]
  ·rw[if_neg h1,if_neg h1]
   by_cases h2:k=a
   ·rw[if_pos h2,if_pos h2]
   ·rw[if_neg h2,if_neg h2]
 have e2:fa M γ=bO (bO (fa M γ) a fun i=>M i (γ a)) b fun i=>M i (γ b):=by
  funext i k
  show M i (γ k)=if k=b then M i (γ b) else if k=a then M i (γ a) else M i (γ k)
  by_cases h1:k=b
  ·rw[if_pos h1,h1]
  ·rw[if_neg h1]
   by_cases h2:k=a
   ·rw[if_pos h2,h2]
   ·rw[if_neg h2]
 have e3:det m (fa M γ)=det m (bO (bO (fa M γ) a fun i=>M i (γ a)) b fun i=>M i (γ b)):=by rw[<-e2]
 unfold dc
 rw[e1,Cc ha hb hab,e3]
theorem Dn.Tb.swap {W:Nat} {M T:Nat->Nat->Int} {d:Int} {β:Nat->Nat} (h:Tb m W M T d β) (ha:a<m) (hb:b<m) (hab:a≠b):Tb m W M (fun i=>T (swp a b i)) d (fun i=>β (swp a b i)):=by
 refine ⟨h.dpos,fun i hi=>h.lt _ (qY ha hb hi),fun k hk j hj=>?_,?_⟩
 ·rw[Sl (f:=fun i=>T i j*M k (β i)) ha hb hab]
  exact h.co k hk j hj
 ·obtain ⟨σ,h1,h2,h3⟩:=h.cr
  refine ⟨-σ,by rw[Int.neg_mul_neg];exact h1,by rw[Lk ha hb hab,Int.neg_mul_neg];exact h2,fun i hi j hj=>?_⟩
  have e:upd (fun i=>β (swp a b i)) i j=fun k=>upd β (swp a b i) j (swp a b k):=by
   funext k
   unfold upd
   by_cases c:k=i
   ·rw[if_pos c,c,if_pos rfl]
   ·rw[if_neg c,if_neg fun h=>c (by rw[<-w6 a b k,h,w6])]
  rw[e,Lk ha hb hab,Int.neg_mul_neg]
  exact h3 _ (qY ha hb hi) j hj
end
structure ElBnd (m w c:Nat) (N:Nat->Nat->Int):Prop where
 hm:1<=m/\m<=1000
 hw:w<=1000
 hc:c<=w
 b:∀T d β,Tb m (w+m) (AI w N) T d β->(∀i,i<m->β i<c\/w<=β i)->∀i j,i<m->j<w+m->ab (T i j)<4611686018427387904
structure El (m w c:Nat) (N:Nat->Nat->Int) (C k:Nat) (p:Nat->Nat) (L:Nat->Nat->Int) (e:Int) (T:Nat->Nat->Int) (d:Int) (β:Nat->Nat) (s:Int):Prop where
 tb:Tb m (w+m) (AI w N) T d β
 cc:C<=c
 s1:s=1\/s= -1
 le:∀i j,i<m->j<w->L i j=s*T i j
 de:e=s*d
 km:k<=m
 bp:∀i,i<k->β i=p i/\p i<C
 inc:∀i j,i<j->j<k->p i<p j
 bs:∀i,k<=i->i<m->w<=β i
 z:∀i j,k<=i->i<m->j<C->T i j=0
section
variable {m w c:Nat} {N:Nat->Nat->Int} {C k:Nat} {p:Nat->Nat} {L:Nat->Nat->Int} {e:Int} {T:Nat->Nat->Int} {d:Int} {β:Nat->Nat} {s:Int}
theorem El.first (_:m<=1000):El m w c N 0 0 (fun _=>0) N 1 (AI w N) 1 (fun i=>w+i) 1:=by
 refine ⟨Tb.first (fun i hi=>by omega) (fun k hk i hi=>?_),Nat.zero_le _,.inl rfl,fun i j hi hj=>?_,rfl,Nat.zero_le _,fun i hi=>by omega,fun i j _ hj=>by omega,fun i _ _=>Nat.le_add_right _ _,fun i j _ _ hj=>by omega⟩
 ·unfold AI
  rw[if_neg (by omega)]
  by_cases h:k=i
  ·rw[if_pos (by omega),if_pos h]
  ·rw[if_neg (by omega),if_neg h]
 ·unfold AI
  rw[if_pos hj,Int.one_mul]
theorem El.swap (h:El m w c N C k p L e T d β s) {a b:Nat} (ha:k<=a/\a<m) (hb:k<=b/\b<m) (hab:a≠b):El m w c N C k p (fun i=>L (swp a b i)) e (fun i=>T (swp a b i)) d (fun i=>β (swp a b i)) s:=by
 have hs:∀i,i<k->swp a b i=i:=fun i hi=>by unfold swp;rw[if_neg (by omega),if_neg (by omega)]
 have hs2:∀i,k<=i->k<=swp a b i:=fun i hi=>by unfold swp;(repeat' split)<;>omega
 refine ⟨h.tb.swap ha.2 hb.2 hab,h.cc,h.s1,fun i j hi hj=>h.le _ j (qY ha.2 hb.2 hi) hj,h.de,h.km,fun i hi=>?_,h.inc,fun i h1 h2=>h.bs _ (hs2 i h1) (qY ha.2 hb.2 h2),fun i j h1 h2 h3=>h.z _ j (hs2 i h1) (qY ha.2 hb.2 h2) h3⟩
 show β (swp a b i)=p i/\_
 rw[hs i hi]
 exact h.bp i hi
theorem El.sne (h:El m w c N C k p L e T d β s):s*s=1:=by rcases h.s1 with h | h<;>rw[h]<;>rfl
theorem El.ene (h:El m w c N C k p L e T d β s):e≠0:=by
 have:=h.tb.dpos
 rw[h.de]
 rcases h.s1 with h | h<;>rw[h]<;>omega
theorem El.skip (h:El m w c N C k p L e T d β s) (hC:C<c) (hw:c<=w) (h0:∀i,k<=i->i<m->L i C=0):El m w c N (C+1) k p L e T d β s:=by
 refine ⟨h.tb,hC,h.s1,h.le,h.de,h.km,fun i hi=>⟨(h.bp i hi).1,by have:=(h.bp i hi).2;omega⟩,h.inc,h.bs,fun i j h1 h2 h3=>?_⟩
 by_cases c:j=C
 ·subst c
  have h4:=h.le i j h2 (by omega)
  rw[h0 i h1 h2] at h4
  rcases h.s1 with h5 | h5<;>rw[h5] at h4<;>omega
 ·exact h.z i j h1 h2 (by omega)
def elq (L:Nat->Nat->Int) (e:Int) (r c i j:Nat):Int:=(L i j*L r c - L i c*L r j) / e
def elL (L:Nat->Nat->Int) (e:Int) (r c:Nat):Nat->Nat->Int:=fun i j=>if i=r then L r j else elq L e r c i j
theorem El.exact (h:El m w c N C k p L e T d β s) (hk:k<m) (hC:C<w) {i j:Nat} (hi:i<m) (hne:i≠k) (hj:j<w) :
  e*elq L e k C i j=L i j*L k C - L i C*L k j/\elq L e k C i j=s*piv T d k C i j:=by
 have h1:=jR h.tb hk hi (Ne.symm hne) (show C<w+m by omega) (show j<w+m by omega)
 have h2:L i j*L k C - L i C*L k j=e*(s*piv T d k C i j):=by
  rw[h.le i j hi hj,h.le k C hk hC,h.le i C hi hC,h.le k j hk hj,h.de]
  have h3:=h.sne
  have h4:s*d*(s*piv T d k C i j)=s*s*(d*piv T d k C i j):=by grind
  rw[h4,h1,h3]
  have h5:s*T i j*(s*T k C) - s*T i C*(s*T k j)=s*s*(T k C*T i j - T i C*T k j):=by grind
  rw[h5,h3]
 have h6:elq L e k C i j=s*piv T d k C i j:=by
  unfold elq
  rw[h2,Int.mul_ediv_cancel_left _ h.ene]
 exact ⟨by rw[h6,h2],h6⟩
theorem El.pivot (h:El m w c N C k p L e T d β s) (hk:k<m) (hC:C<c) (hw:c<=w) (h0:L k C≠0) :
  El m w c N (C+1) (k+1) (upd p k C) (elL L e k C) (L k C) (oi T d k C) (sg (T k C)*T k C) (upd β k C) (s*sg (T k C)):=by
 have hT:T k C≠0:=fun h1=>h0 (by rw[h.le k C hk (by omega),h1,Int.mul_zero])
 have hs1:sg (T k C)=1\/sg (T k C)= -1:=by unfold sg;split<;>omega
 refine ⟨h.tb.step hk (by omega) hT,hC,?_,fun i j hi hj=>?_,?_,hk,fun i hi=>?_,fun i j h1 h2=>?_,fun i h1 h2=>?_,fun i j h1 h2 h3=>?_⟩
 ·rcases h.s1 with h1 | h1<;>rcases hs1 with h2 | h2<;>rw[h1,h2]<;>simp
 ·have e0:s*sg (T k C)*(sg (T k C)*(if i=k then T k j else piv T d k C i j))=s*(if i=k then T k j else piv T d k C i j):=by
   have:=EW (T k C)
   grind
  unfold oi
  rw[e0]
  unfold elL
  by_cases c:i=k
  ·rw[if_pos c,if_pos c]
   exact h.le k j hk hj
  ·rw[if_neg c,if_neg c]
   exact (h.exact hk (by omega) hi c hj).2
 ·have:=EW (T k C)
  rw[h.le k C hk (by omega)]
  grind
 ·unfold upd
  by_cases c:i=k
  ·rw[if_pos c,if_pos c]
   exact ⟨rfl,by omega⟩
  ·rw[if_neg c,if_neg c]
   have:=h.bp i (by omega)
   exact ⟨this.1,by omega⟩
 ·unfold upd
  rw[if_neg (by omega)]
  by_cases c:j=k
  ·rw[if_pos c]
   exact (h.bp i (by omega)).2
  ·rw[if_neg c]
   exact h.inc i j h1 (by omega)
 ·unfold upd
  rw[if_neg (by omega)]
  exact h.bs i (by omega) h2
 ·unfold oi
  rw[if_neg (by omega)]
  have h4:T k C*T i j - T i C*T k j=0:=by
   by_cases c:j=C
   ·subst c
    rw[Int.mul_comm]
    omega
   ·rw[h.z i j (by omega) h2 (by omega),h.z k j (Nat.le_refl _) hk (by omega)]
    simp
  unfold piv
  rw[h4]
  simp
theorem El.bound (h:El m w c N C k p L e T d β s) (hB:ElBnd m w c N):(∀i j,i<m->j<w->(L i j).natAbs<4611686018427387904)/\e.natAbs<4611686018427387904:=by
 have hb:=hB.b T d β h.tb fun i hi=>by
  by_cases h1:i<k
  ·have:=h.bp i h1
   have:=h.cc
   exact .inl (by omega)
  ·exact .inr (h.bs i (by omega) hi)
 have key:∀x:Int,ab x<4611686018427387904->(s*x).natAbs<4611686018427387904:=fun x hx=>by
  unfold ab at hx
  rcases h.s1 with h1 | h1<;>rw[h1]<;>omega
 refine ⟨fun i j hi hj=>?_,?_⟩
 ·rw[h.le i j hi hj]
  exact key _ (hb i j hi (by omega))
 ·rw[h.de]
  refine key _ ?_
  have hm:=hB.hm
  have:=hb 0 (β 0) (by omega) (h.tb.lt 0 (by omega))
  rwa [h.tb.basis (show 0<m by omega)] at this
end
theorem AG {x y:Int} (hx:1<=x) (hy:x<=y):∀{n i:Nat},pz n (fun q=>if q=i then y else x)<=y*x ^ n
 | 0,i=>by
  simp only[pz,Int.pow_zero]
  omega
 | n+1,0=>by
  show y*pz n (fun q=>if q+1=0 then y else x)<=_
  have e:pz n (fun q=>if q+1=0 then y else x)<=x ^ (n+1):=by
   have:∀k:Nat,pz k (fun q=>if q+1=0 then y else x)=x ^ k:=fun k=>by
    induction k with
    | zero=>exact (Int.pow_zero x).symm
    | succ k ih =>
     show x*pz k (fun q=>if q+1+1=0 then y else x)=_
     have e2:(fun q:Nat=>if q+1+1=0 then y else x)=fun q:Nat=>if q+1=0 then y else x:=by
      funext q
      rw[if_neg (by omega),if_neg (by omega)]
     rw[e2,ih,Int.pow_succ,Int.mul_comm]
   rw[this,Int.pow_succ]
   have h1:0<=x ^ n:=Int.pow_nonneg (by omega)
   have h2:x ^ n*1<=x ^ n*x:=Int.mul_le_mul_of_nonneg_left hx h1
   omega
  exact Int.mul_le_mul_of_nonneg_left e (by omega)
 | n+1,i+1=>by
  show x*pz n (fun q=>if q+1=i+1 then y else x)<=_
  have e2:(fun q:Nat=>if q+1=i+1 then y else x)=fun q:Nat=>if q=i then y else x:=by
   funext q
   by_cases c:q=i
   ·rw[if_pos (by omega),if_pos c]
   ·rw[if_neg (by omega),if_neg c]
  rw[e2,Int.pow_succ]
  have h1:=AG hx hy (n:=n) (i:=i)
  have h2:x*pz n (fun q=>if q=i then y else x)<=x*(y*x ^ n):=Int.mul_le_mul_of_nonneg_left h1 (by omega)
  have e3:y*(x ^ n*x)=x*(y*x ^ n):=by grind
  rw[e3]
  exact h2
def Ig (n:Nat) (N:Nat->Nat->Int) (b:Nat->Int):Nat->Nat->Int:=fun i j=>if j<n then N i j else b i
def EqN (m n:Nat) (N:Nat->Nat->Int) (b:Nat->Int) (x:Nat->Rat):Prop:=∀i,i<m->(sq n fun j=>((N i j:Int):Rat)*x j)=((b i:Int):Rat)
section
variable {m n:Nat} {N:Nat->Nat->Int} {b:Nat->Int} {k:Nat} {p:Nat->Nat} {L:Nat->Nat->Int} {e:Int} {T:Nat->Nat->Int} {d:Int} {β:Nat->Nat} {s:Int}
theorem El.row_eq (h:El m (n+1) n (Ig n N b) n k p L e T d β s) {x:Nat->Rat} (hx:EqN m n N b x) {i:Nat} (hi:i<m):(sq n fun j=>((T i j:Int):Rat)*x j)=((T i n:Int):Rat):=by
 have hr:∀j,j<n+1+m->T i j=sz m fun q=>T i (n+1+q)*AI (n+1) (Ig n N b) q j:=fun j hj =>
  h.tb.rows (a:=fun q=>n+1+q) (fun q hq=>by omega) (fun q hq r hr=>by
   unfold AI
   rw[if_neg (by omega)]
   by_cases c:q=r
   ·rw[if_pos (by omega),if_pos c]
   ·rw[if_neg (by omega),if_neg c]) hi hj
 have h1:∀j,j<n->((T i j:Int):Rat)=sq m fun q=>((T i (n+1+q):Int):Rat)*((N q j:Int):Rat):=fun j hj=>by
  rw[hr j (by omega),<-uq]
  refine dS fun q _=>?_
  unfold AI Ig
  rw[if_pos (by omega),if_pos hj,Rat.intCast_mul]
 have h2:((T i n:Int):Rat)=sq m fun q=>((T i (n+1+q):Int):Rat)*((b q:Int):Rat):=by
  rw[hr n (by omega),<-uq]
  refine dS fun q _=>?_
  unfold AI Ig
  rw[if_pos (by omega),if_neg (by omega),Rat.intCast_mul]
 have h3:(sq n fun j=>((T i j:Int):Rat)*x j)=sq n fun j=>sq m fun q=>((T i (n+1+q):Int):Rat)*(((N q j:Int):Rat)*x j):=dS fun j hj=>by
  rw[h1 j hj,Rat.mul_comm,<-vk]
  exact dS fun q _=>by grind
 rw[h3,<-A2,h2]
 refine dS fun q hq=>?_
 rw[vk,hx q hq]
theorem El.row_val (h:El m (n+1) n (Ig n N b) n k p L e T d β s) {i:Nat} (hi:i<m):L i n=0↔T i n=0:=by
 rw[h.le i n hi (by omega)]
 rcases h.s1 with h1 | h1<;>rw[h1]<;>omega
theorem El.none (h:El m (n+1) n (Ig n N b) n k p L e T d β s) {i:Nat} (hk:k<=i) (hi:i<m) (h0:L i n≠0) (x:Nat->Rat):¬ EqN m n N b x:=fun hx=>by
 have h1:=h.row_eq hx hi
 rw[sw fun j hj=>by rw[h.z i j hk hi hj];exact Rat.zero_mul _] at h1
 exact h0 ((h.row_val hi).2 (Rat.intCast_inj.1 h1.symm))
end
theorem Gm (l m:List Fq) (hl:l.length<=1000000):cE l m=some (decide (l=m)):=by
 simp only[cE,kn]
 by_cases h:l.length=m.length
 ·rw[z7 (show (l.length:Int)=m.length by omega)]
  simp only[Bool.not_true,cF]
  refine KY (0,0) h hl (fun again i hi=>?_) (fun again=>?_)
  ·simp only[aH,z7 hi,z7 (show i<m.length by omega),z7 (show (i:Int)<l.length by omega),cT,z9,cW (show i<=1000000 by omega),Hk]
   cases decide (List.getD l i ((0:Int),(0:Int))=List.getD m i (0,0))<;>rfl
  ·simp only[z8 (show ¬ (l.length:Int)<l.length by omega),cF]
 ·rw[z8 (show ¬ (l.length:Int)=m.length by omega),z8 fun e=>h (by rw[e])]
  rfl
theorem D4 (c d:Cl) (h1:c.1.length<=1000000) (h2:c.2.2.length<=1000000):be c d=some (decide (c.2.1=d.2.1)&&(decide (c.1=d.1)&&decide (c.2.2=d.2.2))):=by
 simp only[be,ny]
 cases hr:decide (c.2.1=d.2.1) with
 | false=>rfl
 | true =>
  simp only[Bool.not_true,Bool.or_true,Bool.and_self,cT]
  rw[Gm c.1 d.1 h1,aa]
  cases decide (c.1=d.1) with
  | false=>rfl
  | true =>
   simp only[Bool.not_true,Bool.or_true,cT]
   rw[Gm c.2.2 d.2.2 h2,aa]
   cases decide (c.2.2=d.2.2)<;>rfl
def noC:Cl:=([],false,[])
def VP (s:Sy) (c:Cl) (e:Int):Prop :=
 (e=5/\c=noC/\¬ gg (an (fF s (fz s)))) \/
 (e=0/\gg (an (fF s (fz s)))/\c.2.1=false/\c.2.2=[]/\c.1.length=s.2.length/\(∀a ∈ c.1,okF a)/\Av (fF s (fz s)) c.1=true/\(an (fF s (fz s))).Feas (vX c.1)/\cB s=some (c.1,0,())/\∃f,(f=12\/f=5)/\(gg (an (fF s (fz s)))->f=12)/\bW s=some ([],f,())) \/
 (e=0/\gg (an (fF s (fz s)))/\c.2.1=true/\c.1=[]/\c.2.2.length=s.1.length/\b9 (fF s (fz s)) c.2.2=some (true,0,())/\cB s=some ([],22,())/\bW s=some (c.2.2,0,())/\∃y,(an (fF s (fz s))).Ref y)
theorem HC {s:Sy} (h:eL s=true):∃c e,aY s=some (c,e,())/\VP s c e:=by
 have hV:=fG h
 have hp:=ud hV
 have hvp:=iq.2 hp
 have hpl:(fF s (fz s)).2.length=s.1.length:=ay
 obtain ⟨a,e,h1,h2⟩:=To hp
 obtain ⟨y,f,h3,h4⟩:=FY (fF s (fz s))
 have ht:=Ox h h1
 have hr:=Fu h h3
 unfold aY jF
 rw[ht,aa]
 rcases h2 with ⟨rfl,rfl,hf⟩ | ⟨rfl,rfl,hf,y0,hy0⟩ | ⟨_,_,_,_,r,hr1⟩ | ⟨rfl,hf,v,_,_,hlen,ho,hfx,_,hF,_⟩
 ·exact ⟨_,_,rfl,.inl ⟨rfl,rfl,hf⟩⟩
 ·rcases h4 with ⟨_,_,h⟩ | ⟨_,_,_,h⟩ | ⟨_,_,_,_,x,hx⟩ | ⟨rfl,_,_,hly,hR,hy⟩
  ·rw[hvp] at h;cases h
  ·exact (h hf).elim
  ·exact (hy0.none hx).elim
  ·simp only[show decide ((22:Int)=0)=false from rfl,cF,decide_true,cT,hr,aa,Bool.not_true]
   exact ⟨_,_,rfl,.inr (.inr ⟨rfl,hf,rfl,rfl,by rw[hpl] at hly;exact hly,hR,ht,hr,hy⟩)⟩
 ·exact (FN hr1).elim
 ·rcases h4 with ⟨_,_,h⟩ | ⟨_,_,_,h⟩ | ⟨rfl,rfl,_⟩ | ⟨_,_,_,_,_,y1,hy1⟩
  ·rw[hvp] at h;cases h
  ·exact (h hf).elim
  ·simp only[decide_true,cT]
   exact ⟨_,_,rfl,.inr (.inl ⟨rfl,hf,rfl,rfl,hlen.trans oW,ho,hfx,hF,ht,12,.inl rfl,fun _=>rfl,hr⟩)⟩
  ·exact (hy1.none hF).elim
theorem FC {s:Sy} (h:eL s=false) (hl:s.2.length<=1000000):aY s=some (noC,1,()):=by
 unfold aY jF
 rw[Iq h hl]
 rfl
theorem B2 {s:Sy} (h:eL s=true) {c:Cl} (hc:VP s c 0):MU s c=(true,0,())/\c.1.length<=6/\c.2.2.length<=6:=by
 have hV:=fG h
 have hp:=ud hV
 have hbl:=hV.bl
 have hrl:=hV.rl
 obtain ⟨a,r,b⟩:=c
 rcases hc with ⟨h5,_⟩ | ⟨_,_,hc1,hc2,hlen,ho,hfx,hF,_⟩ | ⟨_,_,hc1,hc2,hlen,hR,_⟩
 ·cases h5
 ·simp only at hc1 hc2 hlen ho hfx hF
  subst hc1 hc2
  have hg:mR (a,false,[])=0:=by
   unfold mR p6
   rw[show okL (a,false,([]:List Fq)).1=true from lr.2 ho]
   rfl
  have hck:=E7 h oW ho hlen hfx hF
  have hcc:=zJ h (l:=a) (by omega)
  rw[lr.2 ho,z7 hlen,cT,cT,hck] at hcc
  have hpos:(a.all fun a=>!decide (a.1<0))=true:=(PF ho).2 fun j hj=>hF.pos j (by show j<(fz s).length;rw[oW];omega)
  refine ⟨?_,by show a.length<=6;omega,by show 0<=6;omega⟩
  unfold MU
  rw[h,hg]
  show (bif decide (a.length=s.2.length) then bif lX s a then (eqB s a&&a.all fun a=>!decide (a.1<0),0,()) else (false,5,()) else (false,3,()))=_
  rw[z7 hlen,cT,hpos]
  cases hra:lX s a with
  | false=>rw[hra] at hcc;cases hcc
  | true =>
   rw[hra,cT] at hcc
   injection hcc with hcc
   have:eqB s a=true:=(congrArg Prod.fst hcc).symm
   rw[this]
   rfl
 ·simp only at hc1 hc2 hlen hR
  subst hc1 hc2
  rw[wo (show b.length<=1000000 by omega)] at hR
  have hpl:(fF s (fz s)).2.length=s.1.length:=ay
  rw[iq.2 hp,hpl,z7 hlen,cT,Bool.true_and] at hR
  cases ho:okL b with
  | false=>rw[ho] at hR;cases hR
  | true =>
   rw[ho,cT] at hR
   have hg:mR ([],true,b)=0:=by
    unfold mR p6
    rw[show okL ([],true,b).2.2=true from ho]
    rfl
   refine ⟨?_,by show 0<=6;omega,by show b.length<=6;omega⟩
   unfold MU
   rw[h,hg]
   show (bif decide (b.length=s.1.length) then (bif oI (fF s (fz s)) b&&(qc (fF s (fz s)) b).isSome then (Di (fF s (fz s)) b,0,()) else (false,5,())) else (false,3,()))=_
   rw[z7 hlen,cT]
   injection hR
theorem DT (s:Sy):js s=some true:=by
 simp only[js,iM,HG,HI,aa,Bool.not_true,cF,w7]
 cases hs:uK s with
 | false=>rfl
 | true =>
  have hl:=Ez hs
  simp only[Bool.not_true,cF]
  cases hv:eL s with
  | false =>
   rw[FC hv (by omega),aa]
   simp only[decide_true,Bool.not_true,Bool.not_false,Bool.or_true,Bool.and_self,cT]
   rw[show be noC ([],false,[])=some true from (D4 noC ([],false,[]) (by decide) (by decide)).trans rfl]
   rfl
  | true =>
   have hV:=fG hv
   have hfits:gK s=some (decide (gg (an (fF s (fz s))))):=by
    unfold gK o9
    rw[D2 s (by omega),aa,Ab hv,aa,MD (ud hV),aa]
   obtain ⟨c,e,h1,h2⟩:=HC hv
   rw[h1,aa]
   simp only[Bool.not_true,cF,hfits,aa]
   have h0:=h2
   rcases h2 with ⟨rfl,rfl,hf⟩ | ⟨rfl,hf,_⟩ | ⟨rfl,hf,_⟩
   ·rw[z8 hf]
    simp only[decide_true,Bool.not_true,Bool.not_false,Bool.or_true,Bool.and_self,cT]
    rw[show be noC ([],false,[])=some true from (D4 noC ([],false,[]) (by decide) (by decide)).trans rfl]
    rfl
   all_goals
    obtain ⟨hc,l1,l2⟩:=B2 hv h0
    have hlong:Gk c=false:=by unfold Gk;rw[z8 (by omega),z8 (by omega)];rfl
    rw[z7 hf]
    simp only[decide_true,Bool.not_true,Bool.not_false,Bool.or_true,cT,cF,ND,hlong,aa,Dl s (show c.1.length<=1000 by omega) (show c.2.2.length<=1000 by omega) (show s.2.length<=1000000 by omega),hc]
    rfl
end Go.Proofs.YtegbncajloeepaaGreat
