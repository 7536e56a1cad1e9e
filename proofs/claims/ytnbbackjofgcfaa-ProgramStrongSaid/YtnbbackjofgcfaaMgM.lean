/- Programs: columns and right sides. Programs: the signs of multipliers. Programs: sums of columns below numbers; refutations. Programs: refutations, as the program tells them. Programs: refutations, as they are specified. Programs: refutations are the same in both programs. Programs: answers that are proved, in both programs. Programs: points, multipliers and refutations are those of the theory. Programs: the dual, as the program makes it. Programs: the dual, as the program makes it: its walk. Programs: the dual, as it is specified; the law ProgramDuals. Programs: the sums of what the solver returns fit, so that its answers are accepted. Programs: what the solver says of a program; the law ProgramBeats. Programs: the dual in the theory: its points are the multipliers, and the other way round. Programs: the laws ProgramProofs and ProgramStrong. -/
import Derived.Test.YtnbbackjofgcfaaMgL

namespace Go.Proofs.Ytnbbackjofgcfaa
open Try Dn Dn.Sh
def colP (p:Pg) (j:Nat):List Int:=p.2.map fun r=>r.1.getD j 0
def rightP (p:Pg):List Int:=p.2.map fun r=>r.2.2
theorem map_loop {g:Rw→Int} {rs:List Rw} {F:(List Int×Int×PUnit→Option (List Int))→List Int×Int×PUnit→Option (List Int)} (h:rs.length≤1000000)
  (hF:∀again (i:Nat),i<rs.length→F again ((rs.take i).map g,(i:Int),PUnit.unit)=again ((rs.take i).map g++[g (rs.getD i rw0)],((i+1:Nat):Int),PUnit.unit))
  (hf:∀again,F again (rs.map g,(rs.length:Int),PUnit.unit)=some (rs.map g)):lpK (List Int×Int×PUnit) (List Int) F ([],(0:Int),PUnit.unit)=some (rs.map g):=by
 refine (lpK_up (α:=List Int×Int×PUnit) (σ:=Unit) rs.length (by omega) (fun i _=>((rs.take i).map g,(i:Int),PUnit.unit)) (fun i s k=>bif true then k s else none) (fun _=>some (rs.map g)) ?_ ?_ ()).trans ?_
 ·intro again i _ hi
  rw[hF again i hi,cT]
  congr 2
  rw[getD_nat hi,List.take_succ_eq_append_getElem hi,List.map_append]
  rfl
 ·intro again _
  rw[List.take_length]
  exact hf again
 ·refine (upF_all (p:=fun _=>true) (r:=none) rs.length (fun _ _ _=>rfl) rs.length 0 (by omega)).trans ?_
  rw[show ((List.range' 0 rs.length).all fun _=>true)=true from List.all_eq_true.2 fun _ _=>rfl]
  rfl
theorem take_map_len {g:Rw→Int} {rs:List Rw} {i:Nat}:((rs.take i).map g).length≤rs.length:=by
 rw[List.length_map,List.length_take];omega
theorem column_ok {p:Pg} {j:Nat} (hv:ValidP p) (hj:j<p.1.length):program_column p (j:Int)=some (colP p j):=by
 obtain ⟨c,rs⟩:=p
 unfold program_column program_column_b colP
 have h6:=hv.rows
 simp only at h6 hj
 refine map_loop (rs:=rs) (g:=fun r=>r.1.getD j 0) (by omega) (fun again i hi=>?_) (fun again=>by simp)
 have hw:IntKind.wrap .i64 ((i:Int)+1)=((i+1:Nat):Int):=by rw[wrap_id (by omega) (by omega)];rfl
 have hr:rs.getD i rw0 ∈ rs:=by rw[getD_nat hi];exact List.getElem_mem _
 have hL:=hv.len _ hr
 have hT:=take_map_len (g:=fun r=>r.1.getD j 0) (rs:=rs) (i:=i)
 simp only at hL
 simp only[inB_nat,decide_eq_true hi,decide_eq_true (show (i:Int)<rs.length by omega),cT,Int.toNat_natCast,hw,decide_eq_true (show j<(rs.getD i rw0).1.length by omega),fitB_of (show (((rs.take i).map fun r=>r.1.getD j 0).length+1)*8≤140737488355328 by omega)]
theorem rights_ok {p:Pg} (hv:ValidP p):program_rights p=some (rightP p):=by
 obtain ⟨c,rs⟩:=p
 unfold program_rights program_rights_b rightP
 have h6:=hv.rows
 simp only at h6
 refine map_loop (rs:=rs) (g:=fun r=>r.2.2) (by omega) (fun again i hi=>?_) (fun again=>by simp)
 have hw:IntKind.wrap .i64 ((i:Int)+1)=((i+1:Nat):Int):=by rw[wrap_id (by omega) (by omega)];rfl
 have hT:=take_map_len (g:=fun r=>r.2.2) (rs:=rs) (i:=i)
 simp only[inB_nat,decide_eq_true hi,decide_eq_true (show (i:Int)<rs.length by omega),cT,Int.toNat_natCast,hw,fitB_of (show (((rs.take i).map fun r=>r.2.2).length+1)*8≤140737488355328 by omega)]
end Go.Proofs.Ytnbbackjofgcfaa

namespace Go.Proofs.Ytnbbackjofgcfaa
open Try Dn Dn.Sh
def signK (k n:Int):Bool:=(decide (k≠1)||decide (n≤0))&&(decide (k≠2)||decide (0≤n))
def signedB (p:Pg) (y:List Fq):Bool:=(List.range' 0 p.2.length).all fun i=>signK (p.2.getD i rw0).2.1 (y.getD i (0,0)).1
theorem signed_okP {p:Pg} {y:List Fq} (hv:ValidP p) (hl:y.length=p.2.length):program_signed p y=some (signedB p y):=by
 obtain ⟨c,rs⟩:=p
 unfold program_signed program_signed_b signedB
 have h6:=hv.rows
 simp only at h6 hl ⊢
 refine (lpK_up (α:=Int×PUnit) (σ:=Unit) rs.length (by omega) (fun i _=>((i:Int),PUnit.unit)) (fun i s k=>bif signK (rs.getD i rw0).2.1 (y.getD i (0,0)).1 then k s else some false) (fun _=>some true) ?_ ?_ ()).trans ?_
 ·intro again i _ hi
  have hw:IntKind.wrap .i64 ((i:Int)+1)=((i+1:Nat):Int):=by rw[wrap_id (by omega) (by omega)];rfl
  simp only[inB_nat,decide_eq_true hi,decide_eq_true (show (i:Int)<rs.length by omega),decide_eq_true (show i<y.length by omega),cT,Int.toNat_natCast,hw]
  obtain ⟨n,hn⟩:∃n,(y.getD i (0,0)).1=n:=⟨_,rfl⟩
  obtain ⟨kd,hkd⟩:∃kd,(rs.getD i rw0).2.1=kd:=⟨_,rfl⟩
  simp only[hn,hkd,signK]
  by_cases k1:kd=1<;>by_cases k2:kd=2<;>by_cases c1:n≤0<;>by_cases c2:0≤n<;>by_cases c3:n>0<;>by_cases c4:n<0<;>first | (exfalso;omega) | simp[k1,k2,c1,c2,c3,c4]
 ·intro again s
  simp only[decide_eq_false (show ¬ (rs.length:Int)<rs.length by omega),cF]
 ·refine (upF_all (p:=fun i=>signK (rs.getD i rw0).2.1 (y.getD i (0,0)).1) (r:=some false) rs.length (fun _ _ _=>rfl) rs.length 0 (by omega)).trans ?_
  cases (List.range' 0 rs.length).all fun i=>signK (rs.getD i rw0).2.1 (y.getD i (0,0)).1<;>rfl
end Go.Proofs.Ytnbbackjofgcfaa

namespace Go.Proofs.Ytnbbackjofgcfaa
open Try Dn Dn.Sh
noncomputable def fitsY (p:Pg) (y:List Fq):Bool:=(List.range' 0 p.1.length).all fun j=>(sumR (colP p j) y 0).isSome
noncomputable def belowB (p:Pg) (y:List Fq) (f:Nat→Int):Bool:=(List.range' 0 p.1.length).all fun j=>decide (cmpQ ((sumR (colP p j) y 0).getD 0) (f j:Rat)≤0)
theorem col_inC {p:Pg} {j:Nat} (hv:ValidP p) (hj:j<p.1.length):∀n ∈ colP p j,inC n=true:=fun n hn=>by
 obtain ⟨r,hr,rfl⟩:=List.mem_map.1 hn
 rw[getD_nat (by rw[hv.len r hr];exact hj)]
 exact hv.coefs r hr _ (List.getElem_mem _)
theorem col_len {p:Pg} {j:Nat}:(colP p j).length=p.2.length:=by unfold colP;rw[List.length_map]
theorem right_len {p:Pg}:(rightP p).length=p.2.length:=by unfold rightP;rw[List.length_map]
theorem right_inR {p:Pg} (hv:ValidP p):∀n ∈ rightP p,inR n=true:=fun n hn=>by
 obtain ⟨r,hr,rfl⟩:=List.mem_map.1 hn
 exact hv.right r hr
theorem upF_and {R:Type} {n:Nat} {g h:Nat→Bool} {f:Bool×Int→Option R} {b:Nat→Bool×Int→(Bool×Int→Option R)→Option R}
  (hb:∀i s k,i<n→b i s k=k (s.1&&h i,bif g i then s.2 else 5)):∀(k i:Nat) (s:Bool×Int),i+k≤n →
  upF b f k i s=f (s.1&&(List.range' i k).all h,bif (List.range' i k).all g then s.2 else 5)
 | 0,i,s,_=>by simp[upF]
 | k+1,i,s,hi=>by
  simp only[upF,hb i s _ (by omega)]
  rw[upF_and hb k (i+1) _ (by omega)]
  simp only[List.range'_succ,List.all_cons,Bool.and_assoc]
  congr 2
  cases g i<;>cases (List.range' (i+1) k).all g<;>rfl
end Go.Proofs.Ytnbbackjofgcfaa

namespace Go.Proofs.Ytnbbackjofgcfaa
open Try Dn Dn.Sh
theorem of_okR {l:List Int} {x:List Fq} {e:Int} (hl:l.length≤x.length) (h0:l.length≤1000000) (hc:∀n ∈ l,inR n=true) (hx:∀a ∈ x,okF a) :
  program_sums_of e l x=some (bif (sumR l x 0).isSome then e else 5,prQ ((sumR l x 0).getD 0)):=by
 rw[of_ok hl h0 (fun n hn=>inR_big (hc n hn)) hx]
 cases sumR l x 0<;>rfl
noncomputable def sumY (p:Pg) (y:List Fq):Option Rat:=sumR (rightP p) y 0
end Go.Proofs.Ytnbbackjofgcfaa

namespace Go.Proofs.Ytnbbackjofgcfaa
open Try Dn Dn.Sh
end Go.Proofs.Ytnbbackjofgcfaa

namespace Go.Proofs.Ytnbbackjofgcfaa
open Try Dn Dn.Sh
end Go.Proofs.Ytnbbackjofgcfaa

namespace Go.Proofs.Ytnbbackjofgcfaa
open Try Dn Dn.Sh
def eqV (q:Rat) (v:Fq):Bool:=decide ((prQ q).1=v.1)&&(decide ((prQ q).2=v.2)&&true)
noncomputable def provesB (p:Pg) (y:List Fq) (v:Fq):Bool:=belowB p y (fun j=>p.1.getD j 0)&&(eqV ((sumY p y).getD 0) v&&signedB p y)
noncomputable def fitsA (p:Pg) (x y:List Fq):Bool:=fitsX p x&&((sumR p.1 x 0).isSome&&(fitsY p y&&(sumY p y).isSome))
noncomputable def checkB (p:Pg) (v:Fq) (x y:List Fq):Bool:=feasB p x&&(eqV ((sumR p.1 x 0).getD 0) v&&provesB p y v)
theorem pcheck_ok {p:Pg} {v:Fq} {x y:List Fq} (hx:x.length≤1000000) (hy:y.length≤1000000):program_Check p (v,x,y)=some (bif validP p&&(decide (okF v)&&(okL x&&okL y)) then bif decide (x.length=p.1.length)&&decide (y.length=p.2.length) then bif fitsA p x y then (checkB p v x y,0,()) else (false,5,()) else (false,3,()) else (false,1,())):=by
 unfold program_Check program_Check_b
 rw[pValid_ok,obN]
 simp only[right_ok hx,right_ok hy,Valid_ok,not_or_self',or_self_not,cT]
 cases hv:validP p with
 | false=>rfl
 | true =>
  simp only[Bool.not_true,Bool.not_false,cT]
  rw[obN]
  cases hvv:decide (okF v) with
  | false=>rfl
  | true =>
  simp only[Bool.not_true,Bool.not_false,cT,cF]
  rw[obN]
  cases hx':okL x with
  | false=>rfl
  | true =>
  simp only[Bool.not_true,Bool.not_false,cT,cF]
  rw[obN]
  cases hy':okL y with
  | false=>rfl
  | true =>
   have hV:=validP_iff.1 hv
   have hX:=okL_iff.1 hx'
   have hY:=okL_iff.1 hy'
   have h6:=hV.rows
   have h7:=hV.cost.2
   simp only[Bool.not_true,cF,Bool.and_self,cT]
   by_cases hl:x.length=p.1.length
   ·simp only[decide_eq_true hl,decide_eq_true (show (x.length:Int)=p.1.length by omega),Bool.not_true,cT,cF,Bool.true_and]
    by_cases hm:y.length=p.2.length
    ·simp only[decide_eq_true hm,decide_eq_true (show (y.length:Int)=p.2.length by omega),Bool.not_true,cT,cF]
     rw[sfeas_ok hV hX hl,obN,of_ok' (by omega) (by omega) (fun n hn=>hV.cs n hn) hX,obN]
     have hi:∀e0:Bool,(!e0||e0)=true:=fun e0=>by cases e0<;>rfl
     simp only[hi,cT]
     refine (lpK_up (α:=Bool×Int×Int×PUnit) p.1.length (by omega) (fun i (s:Bool×Int)=>(s.1,(i:Int),s.2,PUnit.unit)) (fun j s k=>k (s.1&&decide (cmpQ ((sumR (colP p j) y 0).getD 0) ((p.1.getD j 0:Int):Rat)≤0),bif (sumR (colP p j) y 0).isSome then s.2 else 5))
      (fun s=>some ((feasB p x&&(eqV ((sumR p.1 x 0).getD 0) v&&(s.1&&(eqV ((sumY p y).getD 0) v&&signedB p y))))&&decide ((bif (sumY p y).isSome then s.2 else 5)=0),bif (sumY p y).isSome then s.2 else 5,())) ?_ ?_ (true,_)).trans ?_
     ·intro again i s hi'
      have hw:IntKind.wrap .i64 ((i:Int)+1)=((i+1:Nat):Int):=by rw[wrap_id (by omega) (by omega)];rfl
      have h1:=of_ok' (l:=colP p i) (x:=y) (e:=s.2) (by rw[col_len];omega) (by rw[col_len];omega) (col_inC hV hi') hY
      have hn:p.1.getD i 0 ∈ p.1:=by rw[getD_nat (by omega)];exact List.getElem_mem _
      have h2:=pcmp_ok (n:=p.1.getD i 0) (okF_prQ (sumR_ok (l:=colP p i) (x:=y))) (inC_big (hV.cs _ hn))
      rw[qv_prQ] at h2
      simp only[decide_eq_true (show (i:Int)<p.1.length by omega),cT,column_ok hV hi',h1,program_Check_1,program_Check_1_b,inB_nat,decide_eq_true hi',Int.toNat_natCast,h2,obind_some',hw,hi]
      cases decide (cmpQ ((sumR (colP p i) y 0).getD 0) ((p.1.getD i 0:Int):Rat)≤0)<;>cases s.1<;>rfl
     ·intro again s
      have h1:=of_okR (l:=rightP p) (x:=y) (e:=s.2) (by rw[right_len];omega) (by rw[right_len];omega) (right_inR hV) hY
      simp only[decide_eq_false (show ¬ (p.1.length:Int)<p.1.length by omega),cF,rights_ok hV,h1,obind_some',signed_okP hV hm,hi,cT,Bool.and_self]
      unfold eqV sumY
      obtain ⟨b1,e1⟩:∃b,(decide ((prQ ((sumR (rightP p) y 0).getD 0)).1=v.1)&&(decide ((prQ ((sumR (rightP p) y 0).getD 0)).2=v.2)&&true))=b:=⟨_,rfl⟩
      obtain ⟨b2,e2⟩:∃b,(decide ((prQ ((sumR p.1 x 0).getD 0)).1=v.1)&&(decide ((prQ ((sumR p.1 x 0).getD 0)).2=v.2)&&true))=b:=⟨_,rfl⟩
      simp only[e1,e2]
      cases b1<;>cases b2<;>cases signedB p y<;>cases s.1<;>cases feasB p x<;>rfl
     ·rw[upF_and (n:=p.1.length) (g:=fun j=>(sumR (colP p j) y 0).isSome) (h:=fun j=>decide (cmpQ ((sumR (colP p j) y 0).getD 0) ((p.1.getD j 0:Int):Rat)≤0)) (fun _ _ _ _=>rfl) p.1.length 0 _ (by omega)]
      rw[show ((List.range' 0 p.1.length).all fun j=>(sumR (colP p j) y 0).isSome)=fitsY p y from rfl,show ((List.range' 0 p.1.length).all fun j=>decide (cmpQ ((sumR (colP p j) y 0).getD 0) ((p.1.getD j 0:Int):Rat)≤0))=belowB p y (fun j=>p.1.getD j 0) from rfl]
      unfold fitsA checkB provesB
      generalize fitsY p y=b1
      generalize (sumY p y).isSome=b2
      generalize fitsX p x=b3
      generalize (sumR p.1 x 0).isSome=b4
      generalize feasB p x=b5
      generalize eqV ((sumR p.1 x 0).getD 0) v=b6
      generalize belowB p y (fun j=>p.1.getD j 0)=b7
      generalize eqV ((sumY p y).getD 0) v=b8
      generalize signedB p y=b9
      cases b1<;>cases b2<;>cases b3<;>cases b4<;>(try rfl)<;>cases b5<;>cases b6<;>cases b7<;>cases b8<;>cases b9<;>rfl
    ·simp only[decide_eq_false hm,decide_eq_false (show ¬ (y.length:Int)=p.2.length by omega),Bool.not_false,cT,cF]
   ·simp only[decide_eq_false hl,decide_eq_false (show ¬ (x.length:Int)=p.1.length by omega),Bool.not_false,Bool.not_true,cT,cF,Bool.false_and]
end Go.Proofs.Ytnbbackjofgcfaa

namespace Go.Proofs.Ytnbbackjofgcfaa
open Try Dn Dn.Sh
def vX (x:List Fq) (j:Nat):Rat:=qv (x.getD j (0,0))
theorem sq_front {f:Nat→Rat}:∀{n:Nat},sq (n+1) f=f 0+sq n fun i=>f (i+1)
 | 0=>by simp only[sq];grind
 | n+1=>by
  rw[sq,sq_front (n:=n)]
  simp only[sq]
  grind
theorem sumR_val:∀{l:List Int} {x:List Fq} {s q:Rat},l.length≤x.length→sumR l x s=some q→q=s+sq l.length fun j=>((l.getD j 0:Int):Rat)*vX x j
 | [],x,s,q,_,h=>by
  unfold sumR at h
  injection h with h
  simp only[List.length_nil,sq]
  grind
 | n ::l,[],s,q,hl,h=>by simp at hl
 | n ::l,a ::x,s,q,hl,h=>by
  unfold sumR at h
  split at h
  ·have h1:=sumR_val (l:=l) (x:=x) (by simpa using hl) h
   rw[List.length_cons,sq_front,h1]
   have e1:∀j,(n ::l).getD (j+1) 0=l.getD j 0:=fun j=>rfl
   have e2:∀j,vX (a ::x) (j+1)=vX x j:=fun j=>rfl
   simp only[e1,e2]
   have e3:((n ::l).getD 0 0:Int)=n:=rfl
   have e4:vX (a ::x) 0=qv a:=rfl
   rw[e3,e4]
   grind
  ·cases h
theorem sumR_get {l:List Int} {x:List Fq} (hl:l.length≤x.length) (h:(sumR l x 0).isSome=true):(sumR l x 0).getD 0=sq l.length fun j=>((l.getD j 0:Int):Rat)*vX x j:=by
 cases hq:sumR l x 0 with
 | none=>rw[hq] at h;cases h
 | some q =>
  have:=sumR_val hl hq
  rw[Option.getD_some,this]
  grind
theorem cmpQ_le {a b:Rat}:cmpQ a b≤0↔a≤b:=by
 unfold cmpQ
 by_cases h:a<b
 ·rw[if_pos h]
  exact ⟨fun _=>Rat.le_of_lt h,fun _=>by omega⟩
 ·rw[if_neg h]
  by_cases h2:a=b
  ·rw[if_pos h2]
   exact ⟨fun _=>by rw[h2];exact Rat.le_refl,fun _=>by omega⟩
  ·rw[if_neg h2]
   refine ⟨fun h3=>by omega,fun h3=>?_⟩
   exact (h (Rat.lt_of_le_of_ne h3 h2)).elim
theorem cmpQ_ge {a b:Rat}:cmpQ a b≥0↔b≤a:=by
 unfold cmpQ
 by_cases h:a<b
 ·rw[if_pos h]
  exact ⟨fun h3=>by omega,fun h3=>(Rat.not_lt.2 h3 h).elim⟩
 ·rw[if_neg h]
  have h1:=Rat.not_lt.1 h
  split<;>exact ⟨fun _=>h1,fun _=>by omega⟩
theorem cmpQ_eq {a b:Rat}:cmpQ a b=0↔a=b:=by
 unfold cmpQ
 by_cases h:a<b
 ·rw[if_pos h]
  exact ⟨fun h3=>by omega,fun h3=>by rw[h3] at h;exact (Rat.lt_irrefl h).elim⟩
 ·rw[if_neg h]
  by_cases h2:a=b
  ·rw[if_pos h2]
   exact ⟨fun _=>h2,fun _=>rfl⟩
  ·rw[if_neg h2]
   exact ⟨fun h3=>by omega,fun h3=>(h2 h3).elim⟩
theorem all_idx {α:Type} {P:α→Bool} {l:List α} (d:α):l.all P=true↔∀k,k<l.length→P (l.getD k d)=true:=by
 rw[←all_range (p:=P) d,List.all_eq_true]
 exact ⟨fun h k hk=>h k (List.mem_range'.2 ⟨k,hk,by omega⟩),fun h i hi=>by obtain ⟨k,hk,rfl⟩:=List.mem_range'.1 hi;exact h _ (by omega)⟩
theorem row_sum {p:Pg} {x:List Fq} (hv:ValidP p) (hl:x.length=p.1.length) {k:Nat} (hk:k<p.2.length) (h:(sumR (p.2.getD k rw0).1 x 0).isSome=true):(sumR (p.2.getD k rw0).1 x 0).getD 0=(linP p).row (vX x) k:=by
 have hr:p.2.getD k rw0 ∈ p.2:=by rw[getD_nat hk];exact List.getElem_mem _
 rw[sumR_get (by rw[hv.len _ hr,hl];exact Nat.le_refl _) h,hv.len _ hr]
 rfl
theorem feas_iff {p:Pg} {x:List Fq} (hv:ValidP p) (hx:∀a ∈ x,okF a) (hl:x.length=p.1.length) (hf:fitsX p x=true):feasB p x=true↔(linP p).Feas (vX x):=by
 have hrow:∀k,k<p.2.length→(sumR (p.2.getD k rw0).1 x 0).getD 0=(linP p).row (vX x) k:=fun k hk=>row_sum hv hl hk ((all_idx (P:=fun r:Rw=>(sumR r.1 x 0).isSome) rw0).1 hf k hk)
 have hkd:∀k,k<p.2.length→1≤(p.2.getD k rw0).2.1∧(p.2.getD k rw0).2.1≤3:=fun k hk=>hv.kind _ (by rw[getD_nat hk];exact List.getElem_mem _)
 have hpos:∀j,j<x.length→(decide (0≤(x.getD j (0,0)).1)=true↔0≤vX x j):=fun j hj=>by
  rw[decide_eq_true_iff]
  exact (okF_nonneg (hx _ (by rw[getD_nat hj];exact List.getElem_mem _))).symm
 unfold feasB
 rw[Bool.and_eq_true,all_idx (0,0),all_idx rw0]
 have hhold:∀k,k<p.2.length→(holdR x (p.2.getD k rw0)=true↔((linP p).kd k≠2→(linP p).row (vX x) k≤(linP p).b k)∧((linP p).kd k≠1→((linP p).b k:Rat)≤(linP p).row (vX x) k)):=fun k hk=>by
  unfold holdR holdK
  rw[hrow k hk]
  have h1:=hkd k hk
  have e1:(linP p).kd k=(p.2.getD k rw0).2.1:=rfl
  have e2:(linP p).b k=(p.2.getD k rw0).2.2:=rfl
  rw[e1,e2]
  simp only[Bool.and_eq_true,Bool.or_eq_true,decide_eq_true_iff,cmpQ_le,cmpQ_ge,cmpQ_eq]
  generalize (p.2.getD k rw0).2.1=kd at *
  generalize (linP p).row (vX x) k=r at *
  generalize ((p.2.getD k rw0).2.2:Rat)=b at *
  constructor
  ·rintro ⟨a1,a2,a3⟩
   refine ⟨fun h=>?_,fun h=>?_⟩
   ·rcases a1 with a1 | a1
    ·rcases a3 with a3 | a3
     ·omega
     ·rw[a3];exact Rat.le_refl
    ·exact a1
   ·rcases a2 with a2 | a2
    ·rcases a3 with a3 | a3
     ·omega
     ·rw[a3];exact Rat.le_refl
    ·exact a2
  ·rintro ⟨a1,a2⟩
   by_cases c1:kd=1
   ·exact ⟨.inr (a1 (by omega)),.inl (by omega),.inl (by omega)⟩
   ·by_cases c2:kd=2
    ·exact ⟨.inl c1,.inr (a2 c1),.inl (by omega)⟩
    ·exact ⟨.inl c1,.inl c2,.inr (Rat.le_antisymm (a1 c2) (a2 c1))⟩
 constructor
 ·rintro ⟨h1,h2⟩
  exact ⟨fun j hj=>(hpos j (by rw[hl];exact hj)).1 (h1 j (by rw[hl];exact hj)),fun k hk=>((hhold k hk).1 (h2 k hk)).1,fun k hk=>((hhold k hk).1 (h2 k hk)).2⟩
 ·rintro ⟨h1,h2,h3⟩
  exact ⟨fun j hj=>(hpos j hj).2 (h1 j (show j<p.1.length by omega)),fun k hk=>(hhold k hk).2 ⟨h2 k hk,h3 k hk⟩⟩
theorem signed_iff {p:Pg} {y:List Fq} (hy:∀a ∈ y,okF a) (hl:y.length=p.2.length):signedB p y=true↔(linP p).Sgn (vX y):=by
 have hpos:∀j,j<y.length→((0≤(y.getD j (0,0)).1↔0≤vX y j)∧((y.getD j (0,0)).1≤0↔vX y j≤0)):=fun j hj=>by
  have hok:=hy (y.getD j (0,0)) (by rw[getD_nat hj];exact List.getElem_mem _)
  have h1:=okF_nonneg hok
  have h2:=okF_neg hok
  have h3:=okF_zero hok
  refine ⟨h1.symm,?_⟩
  unfold vX
  constructor
  ·intro h
   by_cases c:(y.getD j (0,0)).1=0
   ·rw[h3.2 c];exact Rat.le_refl
   ·exact Rat.le_of_lt (h2.2 (by omega))
  ·intro h
   apply Int.not_lt.1
   intro h4
   have h5:=h1.2 (by omega)
   have h6:=h3.1 (Rat.le_antisymm h h5)
   omega
 unfold signedB
 rw[List.all_eq_true]
 have key:∀k,k<p.2.length→(signK (p.2.getD k rw0).2.1 (y.getD k (0,0)).1=true↔((linP p).kd k=1→vX y k≤0)∧((linP p).kd k=2→0≤vX y k)):=fun k hk=>by
  obtain ⟨h1,h2⟩:=hpos k (by omega)
  unfold signK
  have e1:(linP p).kd k=(p.2.getD k rw0).2.1:=rfl
  rw[e1,Bool.and_eq_true,Bool.or_eq_true,Bool.or_eq_true,decide_eq_true_iff,decide_eq_true_iff,decide_eq_true_iff,decide_eq_true_iff,h1,h2]
  constructor
  ·rintro ⟨a1,a2⟩
   exact ⟨fun e=>a1.resolve_left fun h=>h e,fun e=>a2.resolve_left fun h=>h e⟩
  ·rintro ⟨a1,a2⟩
   refine ⟨?_,?_⟩
   ·by_cases c:(p.2.getD k rw0).2.1=1
    ·exact .inr (a1 c)
    ·exact .inl c
   ·by_cases c:(p.2.getD k rw0).2.1=2
    ·exact .inr (a2 c)
    ·exact .inl c
 constructor
 ·intro h
  exact ⟨fun k hk=>((key k hk).1 (h k (List.mem_range'.2 ⟨k,hk,by omega⟩))).1,fun k hk=>((key k hk).1 (h k (List.mem_range'.2 ⟨k,hk,by omega⟩))).2⟩
 ·rintro ⟨h1,h2⟩ i hi
  obtain ⟨k,hk,rfl⟩:=List.mem_range'.1 hi
  simp only[Nat.one_mul,Nat.zero_add]
  exact (key k hk).2 ⟨h1 k hk,h2 k hk⟩
theorem col_sum {p:Pg} {y:List Fq} (hl:y.length=p.2.length) {j:Nat} (h:(sumR (colP p j) y 0).isSome=true):(sumR (colP p j) y 0).getD 0=(linP p).col (vX y) j:=by
 rw[sumR_get (by rw[col_len];omega) h,col_len]
 refine sq_congr fun k hk=>?_
 unfold colP
 have hk:k<p.2.length:=hk
 rw[getD_nat (show k<(p.2.map fun r=>r.1.getD j 0).length by rw[List.length_map];exact hk),List.getElem_map]
 show _=(((p.2.getD k rw0).1.getD j 0:Int):Rat)*_
 rw[getD_nat hk]
theorem right_sum {p:Pg} {y:List Fq} (hl:y.length=p.2.length) (h:(sumY p y).isSome=true):(sumY p y).getD 0=(linP p).rhs (vX y):=by
 unfold sumY at h ⊢
 rw[sumR_get (by rw[right_len];omega) h,right_len]
 refine sq_congr fun k hk=>?_
 unfold rightP
 have hk:k<p.2.length:=hk
 rw[getD_nat (show k<(p.2.map fun r=>r.2.2).length by rw[List.length_map];exact hk),List.getElem_map]
 show _=(((p.2.getD k rw0).2.2:Int):Rat)*_
 rw[getD_nat hk]
theorem val_sum {p:Pg} {x:List Fq} (hl:x.length=p.1.length) (h:(sumR p.1 x 0).isSome=true):(sumR p.1 x 0).getD 0=(linP p).val (vX x):=by
 rw[sumR_get (by omega) h]
 rfl
theorem below_iff {p:Pg} {y:List Fq} {f:Nat→Int} (hl:y.length=p.2.length) (hf:fitsY p y=true):belowB p y f=true↔∀j,j<p.1.length→(linP p).col (vX y) j≤(f j:Rat):=by
 unfold fitsY at hf
 rw[List.all_eq_true] at hf
 unfold belowB
 rw[List.all_eq_true]
 have hc:∀j,j<p.1.length→(sumR (colP p j) y 0).getD 0=(linP p).col (vX y) j:=fun j hj=>col_sum hl (hf j (List.mem_range'.2 ⟨j,hj,by omega⟩))
 constructor
 ·intro h j hj
  have:=h j (List.mem_range'.2 ⟨j,hj,by omega⟩)
  rw[decide_eq_true_iff,cmpQ_le,hc j hj] at this
  exact this
 ·intro h i hi
  obtain ⟨k,hk,rfl⟩:=List.mem_range'.1 hi
  simp only[Nat.one_mul,Nat.zero_add]
  rw[decide_eq_true_iff,cmpQ_le,hc k hk]
  exact h k hk
theorem eqV_iff {q r:Rat}:eqV q (prQ r)=true↔q=r:=by
 unfold eqV prQ
 rw[Bool.and_eq_true,Bool.and_eq_true,decide_eq_true_iff,decide_eq_true_iff]
 constructor
 ·rintro ⟨h1,h2,_⟩
  simp only at h1 h2
  exact Rat.ext h1 (by omega)
 ·rintro rfl
  exact ⟨rfl,rfl,rfl⟩
theorem check_iff {p:Pg} {x y:List Fq} {v:Rat} (hv:ValidP p) (hx:∀a ∈ x,okF a) (hy:∀a ∈ y,okF a) (hlx:x.length=p.1.length) (hly:y.length=p.2.length) (hf:fitsA p x y=true) :
  checkB p (prQ v) x y=true↔(linP p).Feas (vX x)∧(linP p).Dual (vX y)∧(linP p).val (vX x)=v∧(linP p).rhs (vX y)=v:=by
 unfold fitsA at hf
 simp only[Bool.and_eq_true] at hf
 obtain ⟨f1,f2,f3,f4⟩:=hf
 unfold checkB provesB
 simp only[Bool.and_eq_true]
 rw[feas_iff hv hx hlx f1,val_sum hlx f2,right_sum hly f4,eqV_iff,eqV_iff,signed_iff hy hly,below_iff hly f3]
 constructor
 ·rintro ⟨a1,a2,a3,a4,a5⟩
  exact ⟨a1,⟨a5,fun j hj=>a3 j hj⟩,a2,a4⟩
 ·rintro ⟨a1,a2,a3,a4⟩
  exact ⟨a1,a3,fun j hj=>a2.col j hj,a4,a2.toSgn⟩
end Go.Proofs.Ytnbbackjofgcfaa

namespace Go.Proofs.Ytnbbackjofgcfaa
open Try Dn Dn.Sh
def sgK (k:Int):List Int:=if k=1 then [-1] else if k=2 then [1] else [1,-1]
def colS (p:Pg):Nat→List (Int×Nat)
 | 0=>[]
 | i+1=>colS p i++(sgK (p.2.getD i rw0).2.1).map fun s=>(s,i)
def dCost (p:Pg) (l:List (Int×Nat)):List Int:=l.map fun c=>0 - c.1*(p.2.getD c.2 rw0).2.2
def dCoef (p:Pg) (l:List (Int×Nat)) (k:Nat):List Int:=l.map fun c=>c.1*(p.2.getD c.2 rw0).1.getD k 0
def dualP (p:Pg):Pg:=(dCost p (colS p p.2.length),rowL p.1.length fun k=>(dCoef p (colS p p.2.length) k,1,p.1.getD k 0))
def bigR (p:Pg) (i:Nat):Bool:=decide ((p.2.getD i rw0).2.2< -1048576)||decide ((p.2.getD i rw0).2.2>1048576)
def bigP (p:Pg):Nat→Bool
 | 0=>false
 | i+1=>bigP p i||bigR p i
theorem sgK_len (k:Int):(sgK k).length≤2:=by
 unfold sgK
 split
 ·simp
 ·split<;>simp
theorem colS_len (p:Pg):∀i,(colS p i).length≤2*i
 | 0=>Nat.le_refl _
 | i+1=>by
  have h1:=colS_len p i
  have h2:=sgK_len (p.2.getD i rw0).2.1
  simp only[colS,List.length_append,List.length_map]
  omega
abbrev Cl:=Nat×Int×Int
structure Rep (n:Nat) (p:Pg) (l:List Cl) (a:List (Option (List Int))) (C:Nat→List Int):Prop where
 len:l.length=n
 snd:∀k,k<n→(l.getD k (0,0,0)).2=(1,p.1.getD k 0)
 lt:∀k,k<n→(l.getD k (0,0,0)).1<a.length
 row:∀k,k<n→a.getD (l.getD k (0,0,0)).1 none=some (C k)
 inj:∀k k',k<n→k'<n→(l.getD k (0,0,0)).1=(l.getD k' (0,0,0)).1→k=k'
theorem Rep.live {n:Nat} {p:Pg} {l:List Cl} {a:List (Option (List Int))} {C:Nat→List Int} (h:Rep n p l a C) {k:Nat} (hk:k<n):liveB a (l.getD k (0,0,0)).1=true:=by unfold liveB;rw[h.row k hk];rfl
theorem Rep.rowD {n:Nat} {p:Pg} {l:List Cl} {a:List (Option (List Int))} {C:Nat→List Int} (h:Rep n p l a C) {k:Nat} (hk:k<n):Dn.rowD a (l.getD k (0,0,0)).1=C k:=by unfold Dn.rowD;rw[h.row k hk];rfl
theorem Rep.put {n:Nat} {p:Pg} {l:List Cl} {a:List (Option (List Int))} {C:Nat→List Int} (h:Rep n p l a C) {k:Nat} (hk:k<n) (x:List Int) :
  Rep n p (l.set k (a.length,(l.getD k (0,0,0)).2)) (a.set (l.getD k (0,0,0)).1 none++[some x]++[]) (fun j=>if j=k then x else C j):=by
 have hl:=h.len
 have get:∀j,(l.set k (a.length,(l.getD k (0,0,0)).2)).getD j (0,0,0)=if j=k then (a.length,(l.getD k (0,0,0)).2) else l.getD j (0,0,0):=fun j=>by
  by_cases e:j=k
  ·rw[if_pos e,e,lget_set_self (by omega)]
  ·rw[if_neg e,lget_set_ne (Ne.symm e)]
 refine ⟨by rw[List.length_set];exact hl,fun j hj=>?_,fun j hj=>?_,fun j hj=>?_,fun j j' hj hj' e=>?_⟩
 ·rw[get]
  by_cases e:j=k
  ·rw[if_pos e,e];exact h.2 k hk
  ·rw[if_neg e];exact h.2 j hj
 ·rw[get]
  simp only[List.append_nil,List.length_append,List.length_set,List.length_singleton]
  by_cases e:j=k
  ·rw[if_pos e];simp only;omega
  ·rw[if_neg e];have:=h.lt j hj;omega
 ·rw[get,List.append_nil]
  by_cases e:j=k
  ·rw[if_pos e,if_pos e]
   simp only
   rw[List.getD_eq_getElem?_getD,List.getElem?_append_right (by rw[List.length_set];exact Nat.le_refl _),List.length_set]
   simp
  ·rw[if_neg e,if_neg e]
   have h1:=h.lt j hj
   have h2:(l.getD k (0,0,0)).1≠(l.getD j (0,0,0)).1:=fun e2=>e (h.inj j k hj hk e2.symm)
   rw[List.getD_eq_getElem?_getD,List.getElem?_append_left (by rw[List.length_set];exact h1),List.getElem?_set_ne h2,←List.getD_eq_getElem?_getD]
   exact h.row j hj
 ·rw[get,get] at e
  by_cases e1:j=k
  ·by_cases e2:j'=k
   ·rw[e1,e2]
   ·rw[if_pos e1,if_neg e2] at e
    have:=h.lt j' hj'
    simp only at e
    omega
  ·by_cases e2:j'=k
   ·rw[if_neg e1,if_pos e2] at e
    have:=h.lt j hj
    simp only at e
    omega
   ·rw[if_neg e1,if_neg e2] at e
    exact h.inj j j' hj hj' e
theorem Rep.congr {n:Nat} {p:Pg} {l:List Cl} {a:List (Option (List Int))} {C C':Nat→List Int} (h:Rep n p l a C) (hc:∀k,k<n→C k=C' k):Rep n p l a C' :=
 ⟨h.len,h.2,h.lt,fun k hk=>by rw[h.row k hk,hc k hk],h.inj⟩
theorem Rep.out {n:Nat} {p:Pg} {l:List Cl} {a:List (Option (List Int))} {C:Nat→List Int} (h:Rep n p l a C):(l.all fun x=>liveB a x.1&&true)=true∧l.map (fun x=>(Dn.rowD a x.1,x.2))=rowL n fun k=>(C k,1,p.1.getD k 0):=by
 constructor
 ·rw[all_idx (P:=fun x:Cl=>liveB a x.1&&true) (0,0,0)]
  intro k hk
  rw[h.len] at hk
  rw[h.live hk]
  rfl
 ·refine List.ext_getElem (by rw[List.length_map,rowL_len,h.len]) fun k h1 h2=>?_
  rw[List.length_map,h.len] at h1
  rw[List.getElem_map,rowL_at]
  have e:l[k]'(by rw[h.len];exact h1)=l.getD k (0,0,0):=(getD_nat (by rw[h.len];exact h1)).symm
  rw[e,h.rowD h1,h.2 k h1]
end Go.Proofs.Ytnbbackjofgcfaa

namespace Go.Proofs.Ytnbbackjofgcfaa
open Try Dn Dn.Sh
abbrev Tc:=List Cl×List (Option (List Int))
theorem add_loop {n:Nat} {p:Pg} {R:Type} {F:(Int×Tc×PUnit→Option R)→Int×Tc×PUnit→Option R} (Q:Option R→Prop) {l:List Cl} {a:List (Option (List Int))} {C:Nat→List Int} {s:Int} {co:List Int} (hn:n≤12)
  (hC:∀k,k<n→(C k).length≤100) (hr:Rep n p l a C)
  (hF:∀again (k:Nat) l a,k<n→l.length=n→F again ((k:Int),(l,a),PUnit.unit)=bif liveB a (l.getD k (0,0,0)).1&&fitB ((Dn.rowD a (l.getD k (0,0,0)).1).length+1) 8 then
   again (((k+1:Nat):Int),(l.set k (a.length,(l.getD k (0,0,0)).2),a.set (l.getD k (0,0,0)).1 none++[some (Dn.rowD a (l.getD k (0,0,0)).1++[s*co.getD k 0])]++[]),PUnit.unit) else none)
  (hend:∀again l a,Rep n p l a (fun k=>C k++[s*co.getD k 0])→Q (F again ((n:Int),(l,a),PUnit.unit))):Q (lpK (Int×Tc×PUnit) R F ((0:Int),(l,a),PUnit.unit)):=by
 refine lpK_inv Q n (by omega) (fun k x=>∃l a,x=((k:Int),(l,a),PUnit.unit)∧Rep n p l a (fun j=>if j<k then C j++[s*co.getD j 0] else C j)) ⟨l,a,rfl,hr.congr fun k _=>(if_neg (by omega)).symm⟩ ?_ ?_
 ·rintro again k _ hk ⟨l,a,rfl,h⟩
  have hrow:=h.rowD hk
  simp only[if_neg (Nat.lt_irrefl k)] at hrow
  have:=hC k hk
  refine ⟨_,⟨_,_,rfl,(h.put hk (C k++[s*co.getD k 0])).congr fun j _=>?_⟩,?_⟩
  ·by_cases e:j=k
   ·rw[if_pos e,if_pos (by omega),e]
   ·rw[if_neg e]
    by_cases c:j<k
    ·rw[if_pos c,if_pos (by omega)]
    ·rw[if_neg c,if_neg (by omega)]
  ·rw[hF again k l a hk h.len,h.live hk,hrow,fitB_of (by omega)]
   rfl
 ·rintro again _ ⟨l,a,rfl,h⟩
  exact hend again l a (h.congr fun k hk=>if_pos hk)
theorem dCoef_succ {p:Pg} {i k:Nat}:dCoef p (colS p (i+1)) k=dCoef p (colS p i) k++(sgK (p.2.getD i rw0).2.1).map fun s=>s*(p.2.getD i rw0).1.getD k 0:=by
 unfold dCoef
 simp only[colS,List.map_append,List.map_map]
 rfl
theorem dCost_succ {p:Pg} {i:Nat}:dCost p (colS p (i+1))=dCost p (colS p i)++(sgK (p.2.getD i rw0).2.1).map fun s=>0 - s*(p.2.getD i rw0).2.2:=by
 unfold dCost
 simp only[colS,List.map_append,List.map_map]
 rfl
def dualR (p:Pg):Pg×Int×Unit:=if p.2.length=0 then (([],[]),14,()) else if 6<p.1.length∨12<(colS p p.2.length).length then (([],[]),4,()) else bif bigP p p.2.length then (([],[]),5,()) else (dualP p,0,())
theorem dual_ok {p:Pg}:program_Dual p=some (bif validP p then dualR p else (([],[]),1,())):=by
 unfold program_Dual program_Dual_b
 rw[pValid_ok,obN]
 cases hv:validP p with
 | false=>rfl
 | true =>
 have hV:=validP_iff.1 hv
 have hm:=hV.rows
 have hn:=hV.cost
 simp only[Bool.not_true,cF,cT]
 by_cases h0:p.2.length=0
 ·rw[decide_eq_true (show ((p.2.length:Nat):Int)=0 by omega)]
  unfold dualR
  rw[if_pos h0]
  rfl
 have hw1:IntKind.wrap .i64 ((0:Int) - 1)= -1:=by rw[wrap_id (by omega) (by omega)];rfl
 have hw2:IntKind.wrap .i64 ((0:Int) - (-1))=1:=by rw[wrap_id (by omega) (by omega)];rfl
 have hi:∀e0:Bool,(!e0||e0)=true:=fun e0=>by cases e0<;>rfl
 have hj:∀e0:Bool,(e0||!e0)=true:=fun e0=>by cases e0<;>rfl
 simp only[decide_eq_false (show ¬ ((p.2.length:Nat):Int)=0 by omega),cF,decide_eq_true (show (0:Int)≤(p.1.length:Nat) by omega),Int.toNat_natCast,fitB_of (show p.1.length*40≤140737488355328 by omega),Bool.and_self,cT,hw1,hw2]
 refine lpK_inv (fun o=>o=some (dualR p)) p.1.length (by omega) (fun i x=>∃l,x=((i:Int),(l,List.replicate (p.1.length+i) (some [])),PUnit.unit)∧l.length=p.1.length∧∀j,j<i→l.getD j (0,0,0)=(p.1.length+j,(1:Int),p.1.getD j 0)) ⟨_,rfl,?_,fun j hj=>by omega⟩ ?_ ?_
 ·refine Eq.trans (b:=(tabZ (.agg (.pair .ref (.pair i64 i64))) (0,0,0) p.1.length 0).length) ?_ (tabZ_len (.agg (.pair .ref (.pair i64 i64))) (0,0,0) p.1.length 0)
  kernel_rfl
 ·rintro again i _ hil ⟨l,rfl,hl,hg⟩
  refine ⟨(((i+1:Nat):Int),(l.set i (p.1.length+i,(1:Int),p.1.getD i 0),List.replicate (p.1.length+(i+1)) (some [])),PUnit.unit),⟨_,rfl,by rw[List.length_set];exact hl,fun j hj=>?_⟩,?_⟩
  ·by_cases e:j=i
   ·rw[e,lget_set_self (by omega)]
   ·rw[lget_set_ne (Ne.symm e)]
    exact hg j (by omega)
  ·simp only[decide_eq_true (show (i:Int)<p.1.length by omega),inB_nat,decide_eq_true hil,Int.toNat_natCast,hl,ble_of (show Nat.succ i≤p.1.length from hil),cT,List.length_replicate,succ_wrap (show i≤1000000 by omega)]
   rw[show List.replicate (p.1.length+i) (some ([]:List Int))++[some []]=List.replicate (p.1.length+(i+1)) (some []) from by rw[←Nat.add_assoc,List.replicate_succ']]
 ·rintro again _ ⟨l,rfl,hl,hg⟩
  simp only[decide_eq_false (show ¬ (p.1.length:Int)<p.1.length by omega),cF]
  have hrep:Rep p.1.length p l (List.replicate (p.1.length+p.1.length) (some [])) (fun _=>[]):=by
   refine ⟨hl,fun k hk=>by rw[hg k hk],fun k hk=>by rw[hg k hk,List.length_replicate];simp only;omega,fun k hk=>?_,fun k k' hk hk' e=>?_⟩
   ·rw[hg k hk,List.getD_eq_getElem?_getD,List.getElem?_replicate,if_pos (by simp only;omega)]
    rfl
   ·rw[hg k hk,hg k' hk'] at e
    simp only at e
    omega
  refine lpK_inv (fun o=>o=some (dualR p)) p.2.length (by omega) (fun i x=>∃l a,x=(bigP p i,(i:Int),dCost p (colS p i),(l,a),PUnit.unit)∧Rep p.1.length p l a (fun k=>dCoef p (colS p i) k)) ⟨_,_,rfl,hrep⟩ ?_ ?_
  ·rintro again i _ hil ⟨l,a,rfl,hr⟩
   have hrm:p.2.getD i rw0 ∈ p.2:=by rw[getD_nat hil];exact List.getElem_mem _
   have hR:=of_decide_eq_true (hV.right _ hrm)
   have hlen:=hV.len _ hrm
   have hkd:=hV.kind _ hrm
   have hcl:=colS_len p i
   have hcoef:∀k,-1048576≤(p.2.getD i rw0).1.getD k 0∧(p.2.getD i rw0).1.getD k 0≤1048576:=fun k=>ab_le.1 (size_small (hV.coefs _ hrm) k)
   have hbig:(bif (bif bigP p i then true else decide ((p.2.getD i rw0).2.2< -1048576)) then true else decide ((p.2.getD i rw0).2.2>1048576))=bigP p (i+1):=by
    simp only[bigP,bigR]
    cases bigP p i<;>cases decide ((p.2.getD i rw0).2.2< -1048576)<;>rfl
   have hlc:∀k,k<p.1.length→(dCoef p (colS p i) k).length≤12:=fun k _=>by
    unfold dCoef
    rw[List.length_map]
    omega
   have hlcost:(dCost p (colS p i)).length≤12:=by
    unfold dCost
    rw[List.length_map]
    omega
   have hcm:∀k,IntKind.wrap .i64 (-1*(p.2.getD i rw0).1.getD k 0)= -1*(p.2.getD i rw0).1.getD k 0:=fun k=>by have:=hcoef k;rw[wrap_id (by omega) (by omega)]
   have hcp:∀k,IntKind.wrap .i64 (1*(p.2.getD i rw0).1.getD k 0)=1*(p.2.getD i rw0).1.getD k 0:=fun k=>by have:=hcoef k;rw[wrap_id (by omega) (by omega)]
   simp only[decide_eq_true (show (i:Int)<p.2.length by omega),inB_nat,decide_eq_true hil,Int.toNat_natCast,hi,hj,cT,hbig,hr.len,succ_wrap (show i≤1000000 by omega),fitB_of (show ((dCost p (colS p i)).length+1)*8≤140737488355328 by omega),wrap_id (show -9223372036854775808≤ -1*(p.2.getD i rw0).2.2 by omega) (by omega),wrap_id (show -9223372036854775808≤1*(p.2.getD i rw0).2.2 by omega) (by omega)]
   have fin:∀{o},(∃l a,Rep p.1.length p l a (fun k=>dCoef p (colS p (i+1)) k)∧o=again (bigP p (i+1),((i+1:Nat):Int),dCost p (colS p (i+1)),(l,a),PUnit.unit)) →
     ∃y,(∃l a,y=(bigP p (i+1),((i+1:Nat):Int),dCost p (colS p (i+1)),(l,a),PUnit.unit)∧Rep p.1.length p l a (fun k=>dCoef p (colS p (i+1)) k))∧o=again y:=by
    rintro o ⟨l,a,h1,h2⟩
    exact ⟨_,⟨l,a,rfl,h1⟩,h2⟩
   by_cases k1:(p.2.getD i rw0).2.1=1
   ·have hs:sgK (p.2.getD i rw0).2.1=[-1]:=if_pos k1
    rw[decide_eq_true k1,decide_eq_false (show ¬ (p.2.getD i rw0).2.1=2 by omega)]
    simp only[Bool.not_true,Bool.not_false,cT,cF]
    refine fin (add_loop (fun o=>∃l a,Rep p.1.length p l a (fun k=>dCoef p (colS p (i+1)) k)∧o=again (bigP p (i+1),((i+1:Nat):Int),dCost p (colS p (i+1)),(l,a),PUnit.unit)) (s:= -1) (co:=(p.2.getD i rw0).1) (by omega) (fun k hk=>by have:=hlc k hk;omega) hr (fun again2 k l a hk hl=>?_) (fun again2 l a h=>?_))
    ·simp only[decide_eq_true (show (k:Int)<p.1.length by omega),inB_nat,Int.toNat_natCast,hl,hlen,decide_eq_true hk,ble_of (show Nat.succ k≤p.1.length from hk),cT,succ_wrap (show k≤1000000 by omega),hcm]
    ·refine ⟨l,a,h.congr fun k _=>by rw[dCoef_succ,hs];rfl,?_⟩
     simp only[decide_eq_false (show ¬ (p.1.length:Int)<p.1.length by omega),cF]
     rw[dCost_succ,hs]
     simp only[List.map_cons,List.map_nil]
     rw[show 0 - -1*(p.2.getD i rw0).2.2=1*(p.2.getD i rw0).2.2 by omega]
   ·by_cases k2:(p.2.getD i rw0).2.1=2
    ·have hs:sgK (p.2.getD i rw0).2.1=[1]:=by unfold sgK;rw[if_neg k1,if_pos k2]
     rw[decide_eq_false k1,decide_eq_true k2]
     simp only[Bool.not_true,Bool.not_false,cT,cF]
     refine fin (add_loop (fun o=>∃l a,Rep p.1.length p l a (fun k=>dCoef p (colS p (i+1)) k)∧o=again (bigP p (i+1),((i+1:Nat):Int),dCost p (colS p (i+1)),(l,a),PUnit.unit)) (s:=1) (co:=(p.2.getD i rw0).1) (by omega) (fun k hk=>by have:=hlc k hk;omega) hr (fun again2 k l a hk hl=>?_) (fun again2 l a h=>?_))
     ·simp only[decide_eq_true (show (k:Int)<p.1.length by omega),inB_nat,Int.toNat_natCast,hl,hlen,decide_eq_true hk,ble_of (show Nat.succ k≤p.1.length from hk),cT,succ_wrap (show k≤1000000 by omega),hcp]
     ·refine ⟨l,a,h.congr fun k _=>by rw[dCoef_succ,hs];rfl,?_⟩
      simp only[decide_eq_false (show ¬ (p.1.length:Int)<p.1.length by omega),cF]
      rw[dCost_succ,hs]
      simp only[List.map_cons,List.map_nil]
      rw[show 0 - 1*(p.2.getD i rw0).2.2= -1*(p.2.getD i rw0).2.2 by omega]
    ·have hs:sgK (p.2.getD i rw0).2.1=[1,-1]:=by unfold sgK;rw[if_neg k1,if_neg k2]
     rw[decide_eq_false k1,decide_eq_false k2]
     simp only[Bool.not_false,cT]
     refine fin (add_loop (fun o=>∃l a,Rep p.1.length p l a (fun k=>dCoef p (colS p (i+1)) k)∧o=again (bigP p (i+1),((i+1:Nat):Int),dCost p (colS p (i+1)),(l,a),PUnit.unit)) (s:=1) (co:=(p.2.getD i rw0).1) (by omega) (fun k hk=>by have:=hlc k hk;omega) hr (fun again2 k l a hk hl=>?_) (fun again2 l a h=>?_))
     ·simp only[decide_eq_true (show (k:Int)<p.1.length by omega),inB_nat,Int.toNat_natCast,hl,hlen,decide_eq_true hk,ble_of (show Nat.succ k≤p.1.length from hk),cT,succ_wrap (show k≤1000000 by omega),hcp]
     ·simp only[decide_eq_false (show ¬ (p.1.length:Int)<p.1.length by omega),cF,fitB_of (show ((dCost p (colS p i)++[-1*(p.2.getD i rw0).2.2]).length+1)*8≤140737488355328 by rw[List.length_append,List.length_singleton];omega),cT,h.len]
      refine add_loop (fun o=>∃l a,Rep p.1.length p l a (fun k=>dCoef p (colS p (i+1)) k)∧o=again (bigP p (i+1),((i+1:Nat):Int),dCost p (colS p (i+1)),(l,a),PUnit.unit)) (s:= -1) (co:=(p.2.getD i rw0).1) (by omega) (fun k hk=>by have:=hlc k hk;rw[List.length_append,List.length_singleton];omega) h (fun again2 k l a hk hl=>?_) (fun again2 l a h=>?_)
      ·simp only[decide_eq_true (show (k:Int)<p.1.length by omega),inB_nat,Int.toNat_natCast,hl,hlen,decide_eq_true hk,ble_of (show Nat.succ k≤p.1.length from hk),cT,succ_wrap (show k≤1000000 by omega),hcm]
      ·refine ⟨l,a,h.congr fun k _=>by rw[dCoef_succ,hs,List.append_assoc];rfl,?_⟩
       simp only[decide_eq_false (show ¬ (p.1.length:Int)<p.1.length by omega),cF]
       rw[dCost_succ,hs,List.append_assoc]
       simp only[List.map_cons,List.map_nil,List.cons_append,List.nil_append]
       rw[show 0 - 1*(p.2.getD i rw0).2.2= -1*(p.2.getD i rw0).2.2 by omega,show 0 - -1*(p.2.getD i rw0).2.2=1*(p.2.getD i rw0).2.2 by omega]
  ·rintro again _ ⟨l,a,rfl,hr⟩
   obtain ⟨o1,o2⟩:=hr.out
   have hlc:(dCost p (colS p p.2.length)).length=(colS p p.2.length).length:=List.length_map ..
   simp only[decide_eq_false (show ¬ (p.2.length:Int)<p.2.length by omega),cF,hi,hj,cT,hr.len,hlc]
   unfold dualR
   rw[if_neg h0]
   by_cases c1:6<p.1.length∨12<(colS p p.2.length).length
   ·rw[if_pos c1]
    rcases c1 with c | c
    ·rw[decide_eq_true (show (p.1.length:Int)>6 by omega)];rfl
    ·rw[decide_eq_true (show ((colS p p.2.length).length:Int)>12 by omega)]
     cases decide ((p.1.length:Int)>6)<;>rfl
   ·rw[if_neg c1,decide_eq_false (show ¬ (p.1.length:Int)>6 by omega),decide_eq_false (show ¬ ((colS p p.2.length).length:Int)>12 by omega)]
    simp only[cF]
    cases bigP p p.2.length with
    | true=>rfl
    | false =>
     simp only[cF]
     rw[o1,o2]
     rfl
end Go.Proofs.Ytnbbackjofgcfaa

namespace Go.Proofs.Ytnbbackjofgcfaa
open Try Dn Dn.Sh
theorem col_row {p:Pg}:∀{i:Nat},∀c ∈ colS p i,c.2<i∧(c.1=1∨c.1= -1)
 | 0,c,h=>by simp[colS] at h
 | i+1,c,h=>by
  simp only[colS,List.mem_append,List.mem_map] at h
  rcases h with h | ⟨s,hs,rfl⟩
  ·have:=col_row c h
   exact ⟨by omega,this.2⟩
  ·refine ⟨by simp,?_⟩
   unfold sgK at hs
   split at hs
   ·simp at hs;exact .inr hs
   ·split at hs
    ·simp at hs;exact .inl hs
    ·simpa using hs
theorem map_at {α β:Type} {f:α→β} {l:List α} {d:α} {e:β} {j:Nat} (hj:j<l.length):(l.map f).getD j e=f (l.getD j d):=by
 rw[getD_nat (by rw[List.length_map];exact hj),List.getElem_map,getD_nat hj]
end Go.Proofs.Ytnbbackjofgcfaa

namespace Go.Proofs.Ytnbbackjofgcfaa
open Try Dn Dn.Sh
theorem sz_front {f:Nat→Int}:∀{n:Nat},sz (n+1) f=f 0+sz n fun i=>f (i+1)
 | 0=>by simp[sz]
 | n+1=>by
  rw[sz,sz_front (n:=n)]
  simp only[sz]
  omega
theorem rowL_cons {α:Type} {n:Nat} {f:Nat→α}:rowL (n+1) f=f 0 ::rowL n fun i=>f (i+1):=by
 unfold rowL
 rw[List.range_succ_eq_map,List.map_cons,List.map_map]
 rfl
theorem sumR_int {d B:Int} (hd:0<d∧d≤1152921504606846976) (hB:B≤1152921504606846976):∀{l:List Int} {X:Nat→Int} {s:Int},(∀j,j<l.length→ab (l.getD j 0*X j)≤B)→(∀i,i≤l.length→ab (s+sz i fun j=>l.getD j 0*X j)≤B) →
  sumR l (rowL l.length fun j=>prQ ((X j:Rat) / (d:Rat))) ((s:Rat) / (d:Rat))=some (((s+sz l.length fun j=>l.getD j 0*X j:Int):Rat) / (d:Rat))
 | [],X,s,_,_=>by
  unfold sumR
  simp[sz]
 | n ::l,X,s,h1,h2=>by
  have e1:∀j,(n ::l).getD (j+1) 0=l.getD j 0:=fun j=>rfl
  have e0:((n ::l).getD 0 0:Int)=n:=rfl
  have a1:=h1 0 (by simp)
  have a2:=h2 1 (by simp)
  simp only[sz,e0,Int.zero_add] at a1 a2
  rw[List.length_cons,rowL_cons]
  unfold sumR
  rw[qv_prQ]
  have q1:(n:Rat)*((X 0:Rat) / (d:Rat))=((n*X 0:Int):Rat) / (d:Rat):=by rw[Rat.intCast_mul];grind
  have q2:(s:Rat) / (d:Rat)+((n*X 0:Int):Rat) / (d:Rat)=((s+n*X 0:Int):Rat) / (d:Rat):=by rw[Rat.intCast_add];grind
  have b1:(n*X 0).natAbs≤1152921504606846976:=by rw[ab_abs] at a1;omega
  have b2:(s+n*X 0).natAbs≤1152921504606846976:=by rw[ab_abs] at a2;omega
  rw[q1,q2,if_pos ⟨fitsDiv (by omega) b1 (by omega),fitsDiv (by omega) b2 (by omega)⟩]
  have ih:=sumR_int hd hB (l:=l) (X:=fun j=>X (j+1)) (s:=s+n*X 0) (fun j hj=>h1 (j+1) (by simpa using hj)) (fun i hi=>by
   have:=h2 (i+1) (by simpa using hi)
   rw[sz_front] at this
   simp only[e1,e0] at this
   rw[←Int.add_assoc] at this
   exact this)
  rw[ih]
  congr 3
  rw[sz_front]
  simp only[e1,e0]
  omega
theorem part_bound {n i:Nat} {a X:Nat→Int} {B:Int} (hi:i≤n) (hB:0≤B) (hX:∀j,j<n→ab (X j)≤B):ab (sz i fun j=>a j*X j)≤(sz n fun j=>ab (a j))*B:=by
 refine Int.le_trans sz_abs ?_
 have h1:(sz i fun j=>ab (a j*X j))≤sz i fun j=>ab (a j)*B:=sz_le fun j hj=>by
  rw[ab_mul]
  exact Int.mul_le_mul_of_nonneg_left (hX j (by omega)) (ab_nonneg _)
 refine Int.le_trans h1 ?_
 rw[sz_mulr]
 refine Int.mul_le_mul_of_nonneg_right ?_ hB
 obtain ⟨k,rfl⟩:∃k,n=i+k:=⟨n - i,by omega⟩
 rw[sz_split]
 have:0≤sz k fun l=>ab (a (i+l)):=sz_nonneg fun _ _=>ab_nonneg _
 omega
theorem term_le {n j:Nat} {f:Nat→Int} (hj:j<n) (hf:∀i,i<n→0≤f i):f j≤sz n f:=by
 have h1:(sz n fun i=>if i=j then f j else 0)≤sz n f:=sz_le fun i hi=>by
  by_cases e:i=j
  ·rw[if_pos e,e];exact Int.le_refl _
  ·rw[if_neg e];exact hf i hi
 rw[sz_one hj fun i _ hne=>if_neg hne,if_pos rfl] at h1
 exact h1
theorem prod_bound {n j:Nat} {a X:Nat→Int} {B:Int} (hj:j<n) (hB:0≤B) (hX:∀j,j<n→ab (X j)≤B):ab (a j*X j)≤(sz n fun j=>ab (a j))*B:=by
 rw[ab_mul]
 refine Int.le_trans (Int.mul_le_mul_of_nonneg_left (hX j hj) (ab_nonneg _)) (Int.mul_le_mul_of_nonneg_right ?_ hB)
 exact term_le (f:=fun j=>ab (a j)) hj fun _ _=>ab_nonneg _
theorem sumR_dot {l:List Int} {X:Nat→Int} {d B:Int} (hd:0<d∧d≤1152921504606846976) (hB:0≤B) (hX:∀j,j<l.length→ab (X j)≤B) (h:(sz l.length fun j=>ab (l.getD j 0))*B≤1152921504606846976) :
  (sumR l (rowL l.length fun j=>prQ ((X j:Rat) / (d:Rat))) 0).isSome=true:=by
 have h0:(0:Rat)=((0:Int):Rat) / (d:Rat):=by rw[show ((0:Int):Rat)=0 from rfl,Rat.div_def,Rat.zero_mul]
 rw[h0,sumR_int hd h (fun j hj=>prod_bound (a:=fun j=>l.getD j 0) hj hB hX) (fun i hi=>by rw[Int.zero_add];exact part_bound (a:=fun j=>l.getD j 0) hi hB hX)]
 rfl
theorem sumR_small {l:List Int} {X:Nat→Int} {d B:Int} (hd:0<d∧d≤1152921504606846976) (hB:0≤B) (hX:∀j,j<l.length→ab (l.getD j 0*X j)≤B) (h:(l.length:Int)*B≤1152921504606846976) (hB2:B≤1152921504606846976) :
  (sumR l (rowL l.length fun j=>prQ ((X j:Rat) / (d:Rat))) 0).isSome=true:=by
 have h0:(0:Rat)=((0:Int):Rat) / (d:Rat):=by rw[show ((0:Int):Rat)=0 from rfl,Rat.div_def,Rat.zero_mul]
 have hsum:∀i,i≤l.length→ab (0+sz i fun j=>l.getD j 0*X j)≤1152921504606846976:=fun i hi=>by
  rw[Int.zero_add]
  have h1:=sz_bound (n:=i) (f:=fun j=>l.getD j 0*X j) (B:=B) fun j hj=>ab_le.1 (hX j (by omega))
  have h2:(i:Int)*B≤l.length*B:=Int.mul_le_mul_of_nonneg_right (by omega) hB
  refine ab_le.2 ⟨?_,?_⟩<;>omega
 rw[h0,sumR_int hd (Int.le_refl _) (fun j hj=>Int.le_trans (hX j hj) hB2) hsum]
 rfl
section
variable {p:Pg} {S:Sx}
theorem xnum_le (hB:Bnd (linP p) (layP p)) (hv:(layP p).Val (linP p) S) (j:Nat):0≤xnum (linP p).m ((layP p).R (linP p)) S j∧xnum (linP p).m ((layP p).R (linP p)) S j≤(linP p).P:=by
 refine ⟨xnum_nonneg hv j,?_⟩
 have hRw:(layP p).R (linP p)<(layP p).w (linP p):=by unfold Lay.R Lay.w;omega
 obtain ⟨_,hb⟩:=hB.tabP hv.tb
 unfold xnum
 by_cases h:∃i,i<(linP p).m∧S.β i=j
 ·obtain ⟨i,hi,e⟩:=h
  rw[sz_one hi fun k hk hne=>if_neg fun e2=>hne (hv.tb.inj hk hi (by rw[e,e2])),if_pos e]
  have:=hb i _ hi hRw
  omega
 ·rw[sz_zero fun i hi=>if_neg fun e=>h ⟨i,hi,e⟩]
  have:=(linP p).P_pos
  omega
theorem sgn_abs' (k:Nat) (x:Int):ab ((layP p).σ k*x)=ab x:=by
 rw[ab_abs,ab_abs,sig_abs]
theorem ynum_le (hB:Bnd (linP p) (layP p)) (hv:(layP p).Val (linP p) S) {wc:Nat→Int} {W:Int} (hW:∀j,ab (wc j)≤W) {k:Nat} (hk:k<(linP p).m):(linP p).F k*ab (ynum (linP p).m (layP p).N wc S (layP p).σ k)≤12*(W*(linP p).P):=by
 have hF:=(linP p).F_pos k
 have hW0:0≤W:=Int.le_trans (ab_nonneg _) (hW 0)
 have hP:=(linP p).P_pos
 have hm:=hB.m
 unfold ynum
 rw[sgn_abs']
 have h1:ab (sz (linP p).m fun i=>wc (S.β i)*S.T i ((layP p).N+k))≤sz (linP p).m fun i=>W*ab (S.T i ((layP p).N+k)):=Int.le_trans sz_abs (sz_le fun i _=>by
  rw[ab_mul]
  exact Int.mul_le_mul_of_nonneg_right (hW _) (ab_nonneg _))
 have h2:(linP p).F k*(sz (linP p).m fun i=>W*ab (S.T i ((layP p).N+k)))=sz (linP p).m fun i=>W*((linP p).F k*ab (S.T i ((layP p).N+k))):=by
  rw[←sz_mul]
  exact sz_congr fun i _=>by grind
 have h3:(sz (linP p).m fun i=>W*((linP p).F k*ab (S.T i ((layP p).N+k))))≤sz (linP p).m fun _=>W*(linP p).P:=sz_le fun i hi=>Int.mul_le_mul_of_nonneg_left (art_bound hB.ok hv.tb hi hk) hW0
 have h4:∀n:Nat,(sz n fun _=>W*(linP p).P)=n*(W*(linP p).P):=fun n=>by
  induction n with
  | zero=>simp[sz]
  | succ n ih =>
   simp only[sz]
   rw[ih,show ((n+1:Nat):Int)=(n:Int)+1 by omega,Int.add_mul,Int.one_mul]
 have h5:0≤W*(linP p).P:=Int.mul_nonneg hW0 (by omega)
 have h6:((linP p).m:Int)*(W*(linP p).P)≤12*(W*(linP p).P):=Int.mul_le_mul_of_nonneg_right (by omega) h5
 have h7:=Int.mul_le_mul_of_nonneg_left h1 (show 0≤(linP p).F k by omega)
 rw[h2] at h7
 rw[h4] at h3
 omega
theorem coef_F (k j:Nat) (hj:j<(linP p).n):ab ((linP p).A k j)≤(linP p).F k∧ab ((linP p).b k)≤(linP p).F k:=by
 have h1:=term_le (n:=(linP p).n) (f:=fun j=>ab ((linP p).A k j)) hj fun _ _=>ab_nonneg _
 have h2:=ab_nonneg ((linP p).b k)
 have h3:=ab_nonneg ((linP p).A k j)
 unfold Lin.F
 omega
theorem y_fits (hV:ValidP p) (hB:Bnd (linP p) (layP p)) (hv:(layP p).Val (linP p) S) {wc:Nat→Int} {W:Int} (hW:∀j,ab (wc j)≤W) (hWP:W*(linP p).P≤17592186044416):fitsY p (yL p wc S)=true∧(sumY p (yL p wc S)).isSome=true:=by
 obtain ⟨⟨d1,d2⟩,hb⟩:=hB.tab hv.tb
 have hm:=hV.rows
 have hn:=hV.cost
 have term:∀(k:Nat) (a:Int),k<p.2.length→ab a≤(linP p).F k→ab (a*ynum (linP p).m (layP p).N wc S (layP p).σ k)≤211106232532992:=fun k a hk ha=>by
  have h1:=ynum_le hB hv hW (k:=k) hk
  rw[ab_mul]
  have h2:=Int.mul_le_mul_of_nonneg_right ha (ab_nonneg (ynum (linP p).m (layP p).N wc S (layP p).σ k))
  omega
 have gen:∀{l:List Int},l.length=p.2.length→(∀k,k<p.2.length→ab (l.getD k 0)≤(linP p).F k)→(sumR l (yL p wc S) 0).isSome=true:=fun {l} hl hF=>by
  have h1:=sumR_small (l:=l) (X:=fun k=>ynum (linP p).m (layP p).N wc S (layP p).σ k) (d:=S.d) (B:=211106232532992) ⟨d1,by omega⟩ (by omega) (fun k hk=>term k _ (by omega) (hF k (by omega))) (by omega) (by omega)
  rw[hl] at h1
  exact h1
 constructor
 ·unfold fitsY
  rw[List.all_eq_true]
  intro i hi
  obtain ⟨j,hj,rfl⟩:=List.mem_range'.1 hi
  simp only[Nat.one_mul,Nat.zero_add]
  refine gen col_len fun k hk=>?_
  have:(colP p j).getD k 0=(linP p).A k j:=by
   unfold colP
   rw[getD_nat (show k<(p.2.map fun r=>r.1.getD j 0).length by rw[List.length_map];exact hk),List.getElem_map]
   show _=(p.2.getD k rw0).1.getD j 0
   rw[getD_nat hk]
  rw[this]
  exact (coef_F k j hj).1
 ·unfold sumY
  refine gen right_len fun k hk=>?_
  have:(rightP p).getD k 0=(linP p).b k:=by
   unfold rightP
   rw[getD_nat (show k<(p.2.map fun r=>r.2.2).length by rw[List.length_map];exact hk),List.getElem_map]
   show _=(p.2.getD k rw0).2.2
   rw[getD_nat hk]
  rw[this]
  exact (coef_F k 0 hn.1).2
theorem x_fits (hV:ValidP p) (hf:FitsL (linP p)) (hv:(layP p).Val (linP p) S):fitsX p (xL p S)=true∧(sumR p.1 (xL p S) 0).isSome=true:=by
 have hB:=bnd_of hV hf
 obtain ⟨⟨d1,d2⟩,hb⟩:=hB.tab hv.tb
 have hm:=hV.rows
 have hP:=(linP p).P_pos
 have hF0:=(linP p).F0_pos
 have hx:∀j,ab (xnum (linP p).m ((layP p).R (linP p)) S j)≤(linP p).P:=fun j=>by
  have:=xnum_le hB hv j
  exact ab_le.2 ⟨by omega,this.2⟩
 have gen:∀{l:List Int} {k:Nat},l.length=p.1.length→k≤p.2.length→(sz p.1.length fun j=>ab (l.getD j 0))≤fac (linP p) k→(sumR l (xL p S) 0).isSome=true:=fun {l k} hl hk hF=>by
  have h2:=fac_fits hf hk
  have h3:1*((linP p).P*fac (linP p) k)≤(linP p).F0*((linP p).P*fac (linP p) k):=Int.mul_le_mul_of_nonneg_right hF0 (Int.mul_nonneg (by omega) (by have:=fac_pos (linP p) k;omega))
  have h5:=Int.mul_assoc (linP p).F0 (linP p).P (fac (linP p) k)
  have h4:=Int.mul_le_mul_of_nonneg_right hF (show 0≤(linP p).P by omega)
  rw[Int.mul_comm (fac (linP p) k)] at h4
  have h1:=sumR_dot (l:=l) (X:=fun j=>xnum (linP p).m ((layP p).R (linP p)) S j) (d:=S.d) (B:=(linP p).P) ⟨d1,by omega⟩ (by omega) (fun j _=>hx j) (by rw[hl];omega)
  rw[hl] at h1
  exact h1
 constructor
 ·unfold fitsX
  rw[all_idx rw0]
  intro k hk
  have hr:p.2.getD k rw0 ∈ p.2:=by rw[getD_nat hk];exact List.getElem_mem _
  refine gen (k:=k+1) (hV.len _ hr) (by omega) ?_
  show _≤1+ab (p.2.getD k rw0).2.2+sz p.1.length (fun j=>ab ((p.2.getD k rw0).1.getD j 0))
  have:=ab_nonneg (p.2.getD k rw0).2.2
  omega
 ·refine gen (k:=0) rfl (by omega) ?_
  show _≤1+sz p.1.length (fun j=>ab (p.1.getD j 0))
  omega
theorem costs_ab (j:Nat):ab (costs (linP p) j)≤(linP p).F0:=by
 have:=costs_le (L:=linP p) j
 rw[ab_abs]
 omega
theorem vX_row {n:Nat} {f:Nat→Rat} {j:Nat} (hj:j<n):vX (rowL n fun j=>prQ (f j)) j=f j:=by
 unfold vX
 rw[rowL_get hj,qv_prQ]
theorem row_okF {n:Nat} {f:Nat→Rat} (h:∀j,j<n→fitsQ (f j)):∀a ∈ rowL n (fun j=>prQ (f j)),okF a:=fun a ha=>by
 unfold rowL at ha
 obtain ⟨j,hj,rfl⟩:=List.mem_map.1 ha
 exact okF_prQ (h j (List.mem_range.1 hj))
theorem xL_ok (hV:ValidP p) (hf:FitsL (linP p)) (hv:(layP p).Val (linP p) S):∀a ∈ xL p S,okF a:=row_okF fun j _=>by
 have hB:=bnd_of hV hf
 obtain ⟨⟨d1,d2⟩,_⟩:=hB.tab hv.tb
 have:=xnum_le hB hv j
 have:=hB.P'
 exact fitsDiv (by omega) (by omega) (by omega)
theorem yL_ok (hV:ValidP p) (hB:Bnd (linP p) (layP p)) (hv:(layP p).Val (linP p) S) {wc:Nat→Int} {W:Int} (hW:∀j,ab (wc j)≤W) (hWP:W*(linP p).P≤17592186044416):∀a ∈ yL p wc S,okF a:=row_okF fun k hk=>by
 obtain ⟨⟨d1,d2⟩,_⟩:=hB.tab hv.tb
 have h1:=ynum_le hB hv hW (k:=k) hk
 have h2:=(linP p).F_pos k
 have h3:1*ab (ynum (linP p).m (layP p).N wc S (layP p).σ k)≤(linP p).F k*ab (ynum (linP p).m (layP p).N wc S (layP p).σ k):=Int.mul_le_mul_of_nonneg_right h2 (ab_nonneg _)
 have h4:ab (ynum (linP p).m (layP p).N wc S (layP p).σ k)≤211106232532992:=by omega
 rw[ab_abs] at h4
 exact fitsDiv (by omega) (by omega) (by omega)
theorem Dn.Lin.Feas.congr {L:Lin} {x x':Nat→Rat} (h:∀j,j<L.n→x j=x' j) (hx:L.Feas x):L.Feas x':=by
 have hr:∀k,L.row x' k=L.row x k:=fun k=>sq_congr fun j hj=>by rw[h j hj]
 exact ⟨fun j hj=>by rw[←h j hj];exact hx.pos j hj,fun k hk h2=>by rw[hr];exact hx.most k hk h2,fun k hk h2=>by rw[hr];exact hx.least k hk h2⟩
theorem Dn.Lin.Sgn.congr {L:Lin} {y y':Nat→Rat} (h:∀k,k<L.m→y k=y' k) (hy:L.Sgn y):L.Sgn y' :=
 ⟨fun k hk e=>by rw[←h k hk];exact hy.most k hk e,fun k hk e=>by rw[←h k hk];exact hy.least k hk e⟩
theorem Dn.Lin.col_congr {L:Lin} {y y':Nat→Rat} (h:∀k,k<L.m→y k=y' k) (j:Nat):L.col y' j=L.col y j:=sq_congr fun k hk=>by rw[h k hk]
theorem Dn.Lin.rhs_congr {L:Lin} {y y':Nat→Rat} (h:∀k,k<L.m→y k=y' k):L.rhs y'=L.rhs y:=sq_congr fun k hk=>by rw[h k hk]
theorem Dn.Lin.val_congr {L:Lin} {x x':Nat→Rat} (h:∀j,j<L.n→x j=x' j):L.val x'=L.val x:=sq_congr fun j hj=>by rw[h j hj]
theorem opt_lin (hV:ValidP p) (hf:FitsL (linP p)) (ho:Opt p S):(linP p).Feas (vX (xL p S))∧(linP p).Dual (vX (yL p (costs (linP p)) S))∧(linP p).val (vX (xL p S))=valL p S∧(linP p).rhs (vX (yL p (costs (linP p)) S))=valL p S:=by
 have hok:=layP_ok hV
 have ex:∀j,j<(linP p).n→xval (linP p).m ((layP p).R (linP p)) S j=vX (xL p S) j:=fun j hj=>(vX_row hj).symm
 have ey:∀k,k<(linP p).m→yval (linP p).m (layP p).N (costs (linP p)) S (layP p).σ k=vX (yL p (costs (linP p)) S) k:=fun k hk=>(vX_row hk).symm
 have h1:=table_feas hok ho.val (ho.az.art S)
 have h2:=table_dual hok ho.val ho.zr
 obtain ⟨h3,h4⟩:=table_value hok ho.val
 refine ⟨h1.congr ex,⟨h2.toSgn.congr ey,fun j hj=>?_⟩,?_,?_⟩
 ·rw[Lin.col_congr ey];exact h2.col j hj
 ·rw[Lin.val_congr ex];exact h3
 ·rw[Lin.rhs_congr ey];exact h4
theorem opt_check (hV:ValidP p) (hf:FitsL (linP p)) (ho:Opt p S):program_Check p (prQ (valL p S),xL p S,yL p (costs (linP p)) S)=some (true,0,()):=by
 have hB:=bnd_of hV hf
 have hn:=hV.cost
 have hm:=hV.rows
 obtain ⟨⟨d1,d2⟩,_⟩:=hB.tab ho.val.tb
 have hx:=xL_ok hV hf ho.val
 have hy:=yL_ok hV hB ho.val costs_ab hB.P
 have hlx:(xL p S).length=p.1.length:=rowL_len
 have hly:(yL p (costs (linP p)) S).length=p.2.length:=rowL_len
 obtain ⟨f1,f2⟩:=x_fits hV hf ho.val
 obtain ⟨f3,f4⟩:=y_fits hV hB ho.val costs_ab hB.P
 have hfit:fitsA p (xL p S) (yL p (costs (linP p)) S)=true:=by unfold fitsA;rw[f1,f2,f3,f4];rfl
 have hvf:okF (prQ (valL p S)):=okF_prQ (fitsDiv (by omega) (by
  have hRw:(layP p).R (linP p)<(layP p).w (linP p):=by unfold Lay.R Lay.w;omega
  obtain ⟨_,hbP⟩:=hB.tabP ho.val.tb
  have hm':(linP p).m=p.2.length:=rfl
  have hs:=sz_bound (n:=(linP p).m) (f:=fun k=>costs (linP p) (S.β k)*S.T k ((layP p).R (linP p))) (B:=17592186044416) fun i hi=>hB.cost (hbP i _ hi hRw) _
  have h6:((linP p).m:Int)*17592186044416≤6*17592186044416:=Int.mul_le_mul_of_nonneg_right (by omega) (by omega)
  unfold vnum
  omega) (by omega))
 have hc:=(check_iff hV hx hy hlx hly hfit).2 (opt_lin hV hf ho)
 rw[pcheck_ok (by omega) (by omega),validP_iff.2 hV,decide_eq_true hvf,okL_iff.2 hx,okL_iff.2 hy,decide_eq_true hlx,decide_eq_true hly,hfit,hc]
 rfl
theorem infeas_lin (hV:ValidP p) (ho:Infeas p S):(linP p).Ref (vX (yL p (arts (layP p).N) S)):=by
 have hok:=layP_ok hV
 have ey:∀k,k<(linP p).m→yval (linP p).m (layP p).N (arts (layP p).N) S (layP p).σ k=vX (yL p (arts (layP p).N) S) k:=fun k hk=>(vX_row hk).symm
 have h2:=table_ref hok ho.val ho.zr ho.pos
 refine ⟨h2.toSgn.congr ey,fun j hj=>?_,?_⟩
 ·rw[Lin.col_congr ey];exact h2.col j hj
 ·rw[Lin.rhs_congr ey];exact h2.rhs
end
end Go.Proofs.Ytnbbackjofgcfaa

namespace Go.Proofs.Ytnbbackjofgcfaa
open Try Dn Dn.Sh
def Sem (p:Pg) (a:Fq×List Fq×List Fq) (e:Int):Prop :=
 (e=1∧a=none3∧validP p=false)∨(e=5∧a=none3∧ValidP p∧¬ FitsL (linP p))∨(e=22∧a=none3∧ValidP p∧FitsL (linP p)∧∃y,(linP p).Ref y) ∨
 (e=21∧a=none3∧ValidP p∧FitsL (linP p)∧(∃x,(linP p).Feas x)∧∃r,(linP p).Ray r) ∨
 (e=0∧ValidP p∧FitsL (linP p)∧program_Check p a=some (true,0,())∧∃v x y,a.1=prQ v∧fitsQ v∧(linP p).Feas x∧(linP p).Dual y∧(linP p).val x=v∧(linP p).rhs y=v)
theorem solve_bad {p:Pg} (h:validP p=false):program_Solve p=some (none3,1,()):=by
 unfold program_Solve program_Solve_b
 rw[pValid_ok,obN,h]
 rfl
theorem solve_big {p:Pg} (h:ValidP p) (hf:¬ FitsL (linP p)):program_Solve p=some (none3,5,()):=by
 unfold program_Solve program_Solve_b
 rw[pValid_ok,obN,validP_iff.2 h]
 simp only[Bool.not_true,cF]
 rw[fits_okP h,obN,decide_eq_false hf]
 rfl
theorem solve_sem (p:Pg):∃a e,program_Solve p=some (a,e,())∧Sem p a e:=by
 cases hv:validP p with
 | false=>exact ⟨_,_,solve_bad hv,.inl ⟨rfl,rfl,hv⟩⟩
 | true =>
  have hV:=validP_iff.1 hv
  by_cases hf:FitsL (linP p)
  ·have hB:=bnd_of hV hf
   have hok:=layP_ok hV
   rcases solve_ok hV hf with ⟨S,h1,h2⟩ | ⟨S,q,h1,h2⟩ | ⟨S,h1,h2⟩
   ·exact ⟨_,_,h2,.inr (.inr (.inl ⟨rfl,rfl,hV,hf,_,infeas_lin hV h1⟩))⟩
   ·exact ⟨_,_,h2,.inr (.inr (.inr (.inl ⟨rfl,rfl,hV,hf,⟨_,table_feas hok h1.val (h1.az.art S)⟩,_,table_ray hok h1.val h1.lt (h1.az.col S h1.lt) h1.neg h1.no⟩)))⟩
   ·obtain ⟨a1,a2,a3,a4⟩:=opt_lin hV hf h1
    refine ⟨_,_,h2,.inr (.inr (.inr (.inr ⟨rfl,hV,hf,opt_check hV hf h1,valL p S,_,_,rfl,?_,a1,a2,a3,a4⟩)))⟩
    obtain ⟨⟨d1,d2⟩,_⟩:=hB.tab h1.val.tb
    have hRw:(layP p).R (linP p)<(layP p).w (linP p):=by unfold Lay.R Lay.w;omega
    obtain ⟨_,hbP⟩:=hB.tabP h1.val.tb
    have hm':(linP p).m=p.2.length:=rfl
    have hm:=hV.rows
    have hs:=sz_bound (n:=(linP p).m) (f:=fun k=>costs (linP p) (S.β k)*S.T k ((layP p).R (linP p))) (B:=17592186044416) fun i hi=>hB.cost (hbP i _ hi hRw) _
    have h6:((linP p).m:Int)*17592186044416≤6*17592186044416:=Int.mul_le_mul_of_nonneg_right (by omega) (by omega)
    exact fitsDiv (by omega) (by unfold vnum;omega) (by omega)
  ·exact ⟨_,_,solve_big hV hf,.inr (.inl ⟨rfl,rfl,hV,hf⟩)⟩
end Go.Proofs.Ytnbbackjofgcfaa

namespace Go.Proofs.Ytnbbackjofgcfaa
open Try Dn Dn.Sh
theorem sq_one:∀{n:Nat} {f:Nat→Rat} {k:Nat},k<n→(∀i,i<n→i≠k→f i=0)→sq n f=f k
 | 0,_,_,h,_=>by omega
 | n+1,f,k,hk,h=>by
  simp only[sq]
  by_cases e:k=n
  ·subst e
   rw[sq_zero fun i hi=>h i (by omega) (by omega)]
   grind
  ·rw[sq_one (n:=n) (k:=k) (by omega) fun i hi hne=>h i (by omega) hne,h n (by omega) (Ne.symm e)]
   grind
def lq (f:Int×Nat→Rat):List (Int×Nat)→Rat
 | []=>0
 | c ::l=>f c+lq f l
theorem lq_append {f:Int×Nat→Rat}:∀{l m:List (Int×Nat)},lq f (l++m)=lq f l+lq f m
 | [],m=>by simp only[List.nil_append,lq];grind
 | c ::l,m=>by simp only[List.cons_append,lq];rw[lq_append];grind
theorem lq_sq {f:Int×Nat→Rat}:∀{l:List (Int×Nat)},(sq l.length fun j=>f (l.getD j (0,0)))=lq f l
 | []=>rfl
 | c ::l=>by
  rw[List.length_cons,sq_front]
  simp only[lq]
  rw[←lq_sq (l:=l)]
  rfl
theorem lq_col {p:Pg} {f:Int×Nat→Rat}:∀{i:Nat},lq f (colS p i)=sq i fun k=>lq f ((sgK (p.2.getD k rw0).2.1).map fun s=>(s,k))
 | 0=>rfl
 | i+1=>by
  simp only[colS,sq]
  rw[lq_append,lq_col]
theorem col_sign {p:Pg}:∀{i:Nat},∀c ∈ colS p i,c.1 ∈ sgK (p.2.getD c.2 rw0).2.1
 | 0,c,h=>by simp[colS] at h
 | i+1,c,h=>by
  simp only[colS,List.mem_append,List.mem_map] at h
  rcases h with h | ⟨s,hs,rfl⟩
  ·exact col_sign c h
  ·exact hs
theorem col_mem {p:Pg} {s:Int} {k:Nat}:∀{i:Nat},k<i→s ∈ sgK (p.2.getD k rw0).2.1→(s,k) ∈ colS p i
 | 0,h,_=>by omega
 | i+1,h,hs=>by
  simp only[colS,List.mem_append,List.mem_map]
  by_cases e:k=i
  ·subst e
   exact .inr ⟨s,hs,rfl⟩
  ·exact .inl (col_mem (by omega) hs)
section
variable {p:Pg}
abbrev dc' (p:Pg):List (Int×Nat):=colS p p.2.length
theorem dual_n:(linP (dualP p)).n=(dc' p).length:=List.length_map ..
theorem dual_m:(linP (dualP p)).m=p.1.length:=rowL_len
theorem dual_row {k:Nat} (hk:k<p.1.length):(dualP p).2.getD k rw0=(dCoef p (dc' p) k,1,p.1.getD k 0):=rowL_get hk
theorem dual_A {k j:Nat} (hk:k<p.1.length) (hj:j<(dc' p).length):(linP (dualP p)).A k j=((dc' p).getD j (0,0)).1*(linP p).A ((dc' p).getD j (0,0)).2 k:=by
 show ((dualP p).2.getD k rw0).1.getD j 0=_
 rw[dual_row hk]
 exact map_at (d:=((0:Int),0)) hj
theorem dual_b {k:Nat} (hk:k<p.1.length):(linP (dualP p)).b k=(linP p).c k:=by
 show ((dualP p).2.getD k rw0).2.2=_
 rw[dual_row hk]
 rfl
theorem dual_kd {k:Nat} (hk:k<p.1.length):(linP (dualP p)).kd k=1:=by
 show ((dualP p).2.getD k rw0).2.1=_
 rw[dual_row hk]
theorem dual_c {j:Nat} (hj:j<(dc' p).length):(linP (dualP p)).c j=0 - ((dc' p).getD j (0,0)).1*(linP p).b ((dc' p).getD j (0,0)).2:=map_at (d:=((0:Int),0)) hj
theorem dc_at {j:Nat} (hj:j<(dc' p).length):((dc' p).getD j (0,0)).2<p.2.length∧((dc' p).getD j (0,0)).1 ∈ sgK (p.2.getD ((dc' p).getD j (0,0)).2 rw0).2.1:=by
 have hm:(dc' p).getD j (0,0) ∈ dc' p:=by rw[getD_nat hj];exact List.getElem_mem _
 exact ⟨(col_row _ hm).1,col_sign _ hm⟩
theorem sgK_cases {s k:Int} (h:s ∈ sgK k):(s=1∧k≠1)∨(s= -1∧k≠2):=by
 unfold sgK at h
 by_cases k1:k=1
 ·rw[if_pos k1] at h
  simp at h
  exact .inr ⟨h,by omega⟩
 ·rw[if_neg k1] at h
  by_cases k2:k=2
  ·rw[if_pos k2] at h
   simp at h
   exact .inl ⟨h,k1⟩
  ·rw[if_neg k2] at h
   simp at h
   rcases h with h | h
   ·exact .inl ⟨h,k1⟩
   ·exact .inr ⟨h,k2⟩
theorem by_rows {z:Nat→Rat} {g:Nat→Rat}:(sq p.2.length fun i=>g i*sq (dc' p).length fun j=>if ((dc' p).getD j (0,0)).2=i then ((((dc' p).getD j (0,0)).1:Int):Rat)*z j else 0) =
  sq (dc' p).length fun j=>g ((dc' p).getD j (0,0)).2*(((((dc' p).getD j (0,0)).1:Int):Rat)*z j):=by
 rw[sq_congr (g:=fun i=>sq (dc' p).length fun j=>g i*if ((dc' p).getD j (0,0)).2=i then ((((dc' p).getD j (0,0)).1:Int):Rat)*z j else 0) fun i _=>sq_mul.symm,sq_swap]
 refine sq_congr fun j hj=>?_
 rw[sq_one (k:=((dc' p).getD j (0,0)).2) (dc_at hj).1 fun i _ hne=>by rw[if_neg (Ne.symm hne)];grind,if_pos rfl]
theorem dual_points {z:Nat→Rat} (hz:(linP (dualP p)).Feas z):∃y,(linP p).Dual y∧(linP p).rhs y= - (linP (dualP p)).val z:=by
 have hpos:∀j,j<(dc' p).length→0≤z j:=fun j hj=>hz.pos j (by rw[dual_n];exact hj)
 refine ⟨fun i=>sq (dc' p).length fun j=>if ((dc' p).getD j (0,0)).2=i then ((((dc' p).getD j (0,0)).1:Int):Rat)*z j else 0,⟨⟨fun i hi hk=>?_,fun i hi hk=>?_⟩,fun k hk=>?_⟩,?_⟩
 ·have h1:(sq (dc' p).length fun j=>if ((dc' p).getD j (0,0)).2=i then ((((dc' p).getD j (0,0)).1:Int):Rat)*z j else 0)≤sq (dc' p).length fun _=>0:=sq_le fun j hj=>by
   have h2:=hpos j hj
   by_cases e:((dc' p).getD j (0,0)).2=i
   ·rw[if_pos e]
    have h3:=sgK_cases (dc_at hj).2
    rw[e] at h3
    have hk:(p.2.getD i rw0).2.1=1:=hk
    rcases h3 with ⟨_,h4⟩ | ⟨h4,_⟩
    ·exact (h4 hk).elim
    ·rw[h4]
     have:((-1:Int):Rat)= -1:=rfl
     rw[this]
     grind
   ·rw[if_neg e];exact Rat.le_refl
  rw[sq_zero (f:=fun _=>0) fun _ _=>rfl] at h1
  exact h1
 ·refine sq_nonneg fun j hj=>?_
  have h2:=hpos j hj
  by_cases e:((dc' p).getD j (0,0)).2=i
  ·rw[if_pos e]
   have h3:=sgK_cases (dc_at hj).2
   rw[e] at h3
   have hk:(p.2.getD i rw0).2.1=2:=hk
   rcases h3 with ⟨h4,_⟩ | ⟨_,h4⟩
   ·rw[h4]
    have:((1:Int):Rat)=1:=rfl
    rw[this]
    grind
   ·exact (h4 hk).elim
  ·rw[if_neg e];exact Rat.le_refl
 ·have hk':k<p.1.length:=hk
  have h1:=hz.most k (by rw[dual_m];exact hk') (by rw[dual_kd hk'];decide)
  rw[dual_b hk'] at h1
  have e:(linP p).col (fun i=>sq (dc' p).length fun j=>if ((dc' p).getD j (0,0)).2=i then ((((dc' p).getD j (0,0)).1:Int):Rat)*z j else 0) k=(linP (dualP p)).row z k:=by
   refine (by_rows (g:=fun i=>((linP p).A i k:Rat))).trans ?_
   unfold Lin.row
   rw[dual_n]
   refine sq_congr fun j hj=>?_
   rw[dual_A hk' hj,Rat.intCast_mul]
   grind
  rw[e]
  exact h1
 ·refine (by_rows (g:=fun i=>((linP p).b i:Rat))).trans ?_
  unfold Lin.val
  rw[dual_n]
  have:(sq (dc' p).length fun j=>(((linP (dualP p)).c j:Int):Rat)*z j)=sq (dc' p).length fun j=>(-1)*(((linP p).b ((dc' p).getD j (0,0)).2:Rat)*(((((dc' p).getD j (0,0)).1:Int):Rat)*z j)):=sq_congr fun j hj=>by
   rw[dual_c hj,Rat.intCast_sub,Rat.intCast_mul]
   have:((0:Int):Rat)=0:=rfl
   rw[this]
   grind
  rw[this,sq_mul]
  grind
theorem dual_of {y:Nat→Rat} (hV:ValidP p) (hy:(linP p).Dual y):∃z,(linP (dualP p)).Feas z∧(linP (dualP p)).val z= - (linP p).rhs y:=by
 obtain ⟨zf,hzf⟩:∃zf:Int×Nat→Rat,zf=fun c=>if 0≤(c.1:Rat)*y c.2 then (c.1:Rat)*y c.2 else 0:=⟨_,rfl⟩
 have one:((1:Int):Rat)=1:=rfl
 have mone:((-1:Int):Rat)= -1:=rfl
 have key:∀(g:Nat→Rat),lq (fun c=>g c.2*((c.1:Rat)*zf c)) (dc' p)=sq p.2.length fun i=>g i*y i:=fun g=>by
  rw[lq_col]
  refine sq_congr fun i hi=>?_
  have hkd:=hV.kind _ (show p.2.getD i rw0 ∈ p.2 by rw[getD_nat hi];exact List.getElem_mem _)
  unfold sgK
  by_cases k1:(p.2.getD i rw0).2.1=1
  ·have h1:=hy.most i hi k1
   rw[if_pos k1]
   simp only[List.map_cons,List.map_nil,lq,hzf,mone]
   rw[if_pos (by grind)]
   grind
  ·by_cases k2:(p.2.getD i rw0).2.1=2
   ·have h1:=hy.least i hi k2
    rw[if_neg k1,if_pos k2]
    simp only[List.map_cons,List.map_nil,lq,hzf,one]
    rw[if_pos (by grind)]
    grind
   ·rw[if_neg k1,if_neg k2]
    simp only[List.map_cons,List.map_nil,lq,hzf,one,mone]
    by_cases c:0≤y i
    ·by_cases c0:y i=0
     ·rw[c0,if_pos (by grind),if_pos (by grind)]
      grind
     ·rw[if_pos (by grind),if_neg (by grind)]
      grind
    ·rw[if_neg (by grind),if_pos (by grind)]
     grind
 have hlq:∀(g:Nat→Rat),(sq (dc' p).length fun j=>g ((dc' p).getD j (0,0)).2*(((((dc' p).getD j (0,0)).1:Int):Rat)*zf ((dc' p).getD j (0,0))))=sq p.2.length fun i=>g i*y i:=fun g=>by
  rw[←key g,←lq_sq (f:=fun c=>g c.2*((c.1:Rat)*zf c))]
 refine ⟨fun j=>zf ((dc' p).getD j (0,0)),⟨fun j hj=>?_,fun k hk h2=>?_,fun k hk h1=>?_⟩,?_⟩
 ·rw[hzf]
  simp only
  split
  ·assumption
  ·exact Rat.le_refl
 ·rw[dual_m] at hk
  rw[dual_b hk]
  have e:(linP (dualP p)).row (fun j=>zf ((dc' p).getD j (0,0))) k=(linP p).col y k:=by
   refine Eq.trans ?_ (hlq fun i=>((linP p).A i k:Rat))
   unfold Lin.row
   rw[dual_n]
   refine sq_congr fun j hj=>?_
   rw[dual_A hk hj,Rat.intCast_mul]
   grind
  rw[e]
  exact hy.col k hk
 ·rw[dual_m] at hk
  exact (h1 (dual_kd hk)).elim
 ·have e:(linP (dualP p)).val (fun j=>zf ((dc' p).getD j (0,0)))=sq (dc' p).length fun j=>(-1)*(((linP p).b ((dc' p).getD j (0,0)).2:Rat)*(((((dc' p).getD j (0,0)).1:Int):Rat)*zf ((dc' p).getD j (0,0)))):=by
   unfold Lin.val
   rw[dual_n]
   refine sq_congr fun j hj=>?_
   rw[dual_c hj,Rat.intCast_sub,Rat.intCast_mul]
   have:((0:Int):Rat)=0:=rfl
   rw[this]
   grind
  rw[e,sq_mul,hlq fun i=>((linP p).b i:Rat)]
  unfold Lin.rhs
  have:(linP p).m=p.2.length:=rfl
  rw[this]
  grind
theorem neg_row {x:Nat→Rat} {j:Nat} (hj:j<(dc' p).length):(linP (dualP p)).col (fun k=> - x k) j= - (((((dc' p).getD j (0,0)).1:Int):Rat)*(linP p).row x ((dc' p).getD j (0,0)).2):=by
 unfold Lin.col Lin.row
 rw[dual_m,show (linP p).n=p.1.length from rfl]
 have e:(sq p.1.length fun k=>((linP (dualP p)).A k j:Rat)* - x k)=sq p.1.length fun k=>(-((((dc' p).getD j (0,0)).1:Int):Rat))*(((linP p).A ((dc' p).getD j (0,0)).2 k:Rat)*x k):=sq_congr fun k hk=>by
  rw[dual_A hk hj,Rat.intCast_mul]
  grind
 rw[e,sq_mul]
 grind
theorem dual_mults {x:Nat→Rat} (hx:(linP p).Feas x):(linP (dualP p)).Dual (fun k=> - x k)∧(linP (dualP p)).rhs (fun k=> - x k)= - (linP p).val x:=by
 have one:((1:Int):Rat)=1:=rfl
 have mone:((-1:Int):Rat)= -1:=rfl
 have zero:((0:Int):Rat)=0:=rfl
 refine ⟨⟨⟨fun k hk _=>?_,fun k hk e=>?_⟩,fun j hj=>?_⟩,?_⟩
 ·rw[dual_m] at hk
  have:=hx.pos k hk
  grind
 ·rw[dual_m] at hk
  rw[dual_kd hk] at e
  exact absurd e (by decide)
 ·rw[dual_n] at hj
  rw[neg_row hj,dual_c hj,Rat.intCast_sub,Rat.intCast_mul,zero]
  obtain ⟨r1,r2⟩:=dc_at hj
  rcases sgK_cases r2 with ⟨e,hk⟩ | ⟨e,hk⟩
  ·have:=hx.least _ r1 hk
   rw[e,one]
   grind
  ·have:=hx.most _ r1 hk
   rw[e,mone]
   grind
 ·unfold Lin.rhs Lin.val
  rw[dual_m,show (linP p).n=p.1.length from rfl]
  have e:(sq p.1.length fun k=>((linP (dualP p)).b k:Rat)* - x k)=sq p.1.length fun k=>(-1)*(((linP p).c k:Rat)*x k):=sq_congr fun k hk=>by
   rw[dual_b hk]
   grind
  rw[e,sq_mul]
  grind
theorem dual_back {u:Nat→Rat} (hV:ValidP p) (hu:(linP (dualP p)).Dual u):∃x,(linP p).Feas x:=by
 have one:((1:Int):Rat)=1:=rfl
 have mone:((-1:Int):Rat)= -1:=rfl
 have zero:((0:Int):Rat)=0:=rfl
 have hneg:∀k,u k= - (fun k=> - u k) k:=fun k=>by simp only;grind
 have hcol:∀s i,i<p.2.length→s ∈ sgK (p.2.getD i rw0).2.1→ - ((s:Rat)*(linP p).row (fun k=> - u k) i)≤0 - (s:Rat)*(linP p).b i:=fun s i hi hs=>by
  obtain ⟨j,hj,e⟩:=List.getElem_of_mem (col_mem hi hs)
  have hj':j<(dc' p).length:=hj
  have e':(dc' p).getD j (0,0)=(s,i):=by rw[getD_nat hj'];exact e
  have h1:=hu.col j (by rw[dual_n];exact hj')
  have h2:=neg_row (x:=fun k=> - u k) hj'
  rw[show (fun k=> - (fun k=> - u k) k)=u from funext fun k=>(hneg k).symm] at h2
  rw[h2,dual_c hj',e',Rat.intCast_sub,Rat.intCast_mul,zero] at h1
  exact h1
 refine ⟨fun k=> - u k,⟨fun k hk=>?_,fun i hi h2=>?_,fun i hi h1=>?_⟩⟩
 ·have hk:k<p.1.length:=hk
  have:=hu.most k (by rw[dual_m];exact hk) (dual_kd hk)
  grind
 ·have hi:i<p.2.length:=hi
  have:=hcol (-1) i hi (by
   unfold sgK
   have h2:(p.2.getD i rw0).2.1≠2:=h2
   by_cases k1:(p.2.getD i rw0).2.1=1
   ·rw[if_pos k1];simp
   ·rw[if_neg k1,if_neg h2];simp)
  rw[mone] at this
  grind
 ·have hi:i<p.2.length:=hi
  have:=hcol 1 i hi (by
   unfold sgK
   have h1:(p.2.getD i rw0).2.1≠1:=h1
   rw[if_neg h1]
   split<;>simp)
  rw[one] at this
  grind
theorem big_row:∀{i:Nat},bigP p i=false→∀k,k<i→ -1048576≤(p.2.getD k rw0).2.2∧(p.2.getD k rw0).2.2≤1048576
 | 0,_,k,h=>by omega
 | i+1,h,k,hk=>by
  simp only[bigP,Bool.or_eq_false_iff] at h
  by_cases e:k=i
  ·subst e
   have h2:=h.2
   unfold bigR at h2
   simp only[Bool.or_eq_false_iff,decide_eq_false_iff_not] at h2
   omega
  ·exact big_row h.1 k (by omega)
theorem dual_valid (hV:ValidP p) (h:(dualR p).2.1=0):(dualR p).1=dualP p∧ValidP (dualP p):=by
 unfold dualR at h ⊢
 by_cases h0:p.2.length=0
 ·rw[if_pos h0] at h;exact absurd h (by decide)
 ·rw[if_neg h0] at h ⊢
  by_cases h1:6<p.1.length∨12<(colS p p.2.length).length
  ·rw[if_pos h1] at h;exact absurd h (by decide)
  ·rw[if_neg h1] at h ⊢
   cases hb:bigP p p.2.length with
   | true=>rw[hb] at h;exact absurd (show (5:Int)=0 from h) (by decide)
   | false =>
    refine ⟨rfl,?_⟩
    have hbr:=big_row hb
    have hlen:(dc' p).length=(dualP p).1.length:=(List.length_map ..).symm
    have hat:∀c ∈ dc' p,c.2<p.2.length∧(c.1=1∨c.1= -1):=fun c hc=>col_row c hc
    have hrows:∀r ∈ (dualP p).2,∃k,k<p.1.length∧r=(dCoef p (dc' p) k,1,p.1.getD k 0):=fun r hr=>by
     have hr:r ∈ rowL p.1.length fun k=>(dCoef p (dc' p) k,(1:Int),p.1.getD k 0):=hr
     unfold rowL at hr
     obtain ⟨k,hk,rfl⟩:=List.mem_map.1 hr
     exact ⟨k,List.mem_range.1 hk,rfl⟩
    have hne:1≤(dc' p).length:=by
     have hm:∃s,s ∈ sgK (p.2.getD 0 rw0).2.1:=by
      unfold sgK
      split
      ·exact ⟨-1,by simp⟩
      ·split
       ·exact ⟨1,by simp⟩
       ·exact ⟨1,by simp⟩
     obtain ⟨s,hs⟩:=hm
     have:=col_mem (p:=p) (i:=p.2.length) (k:=0) (by omega) hs
     exact List.length_pos_of_mem this
    have hdl:(dc' p).length≤12:=by
     show (colS p p.2.length).length≤12
     omega
    refine ⟨by rw[←hlen];omega,?_,fun n hn=>?_,fun r hr=>?_,fun r hr=>?_,fun r hr=>?_,fun r hr n hn=>?_⟩
    ·show (rowL p.1.length _).length≤6
     rw[rowL_len];omega
    ·have hn:n ∈ dCost p (dc' p):=hn
     unfold dCost at hn
     obtain ⟨c,hc,rfl⟩:=List.mem_map.1 hn
     obtain ⟨c1,c2⟩:=hat c hc
     have:=hbr _ c1
     refine decide_eq_true ?_
     rcases c2 with e | e<;>rw[e]<;>omega
    ·obtain ⟨k,hk,rfl⟩:=hrows r hr
     rw[←hlen]
     exact List.length_map ..
    ·obtain ⟨k,hk,rfl⟩:=hrows r hr
     exact ⟨by simp,by simp⟩
    ·obtain ⟨k,hk,rfl⟩:=hrows r hr
     have:=ab_le.1 (size_small hV.cs k)
     refine decide_eq_true ?_
     simp only
     omega
    ·obtain ⟨k,hk,rfl⟩:=hrows r hr
     have hn:n ∈ dCoef p (dc' p) k:=hn
     unfold dCoef at hn
     obtain ⟨c,hc,rfl⟩:=List.mem_map.1 hn
     obtain ⟨c1,c2⟩:=hat c hc
     have hrm:p.2.getD c.2 rw0 ∈ p.2:=by rw[getD_nat c1];exact List.getElem_mem _
     have:=ab_le.1 (size_small (hV.coefs _ hrm) k)
     refine decide_eq_true ?_
     rcases c2 with e | e<;>rw[e]<;>omega
end
end Go.Proofs.Ytnbbackjofgcfaa

namespace Go.Proofs.Ytnbbackjofgcfaa
open Try Dn Dn.Sh
theorem lawStrong (p:Pg):law05_ProgramStrong p=some true:=by
 have hi:∀e0:Bool,(!e0||e0)=true:=fun e0=>by cases e0<;>rfl
 have hj:∀e0:Bool,(e0||!e0)=true:=fun e0=>by cases e0<;>rfl
 simp only[law05_ProgramStrong,law05_ProgramStrong_b,awakeP_ok,fewP_ok,obind_some',Bool.not_true,cF,hi,hj,Bool.and_self,cT,dual_ok]
 cases fewB p with
 | false=>rfl
 | true =>
  simp only[Bool.not_true,cF]
  cases hv:validP p with
  | false=>rfl
  | true =>
   have hV:=validP_iff.1 hv
   simp only[cT]
   by_cases h0:(dualR p).2.1=0
   ·obtain ⟨e1,hVd⟩:=dual_valid hV h0
    obtain ⟨a,e,h1,h2⟩:=solve_sem p
    obtain ⟨b,g,g1,g2⟩:=solve_sem (dualP p)
    rw[decide_eq_true h0,e1]
    simp only[Bool.not_true,cF,h1,g1,obind_some']
    rcases h2 with ⟨_,_,h⟩ | ⟨rfl,rfl,_⟩ | ⟨rfl,rfl,_,_,y0,hy⟩ | ⟨rfl,rfl,_,_,⟨x,hx⟩,r,hr⟩ | ⟨rfl,_,_,_,v,x,y,ha,hfv,hx,hy,hxv,hyv⟩
    ·rw[hv] at h;cases h
    ·rfl
    ·rcases g2 with ⟨_,_,h⟩ | ⟨rfl,rfl,_⟩ | ⟨rfl,rfl,_⟩ | ⟨rfl,_⟩ | ⟨_,_,_,_,_,z,u,_,_,_,hu,_⟩
     ·rw[validP_iff.2 hVd] at h;cases h
     ·rfl
     ·rfl
     ·rfl
     ·obtain ⟨x,hx⟩:=dual_back hV hu
      exact (hy.none hx).elim
    ·rcases g2 with ⟨_,_,h⟩ | ⟨rfl,rfl,_⟩ | ⟨rfl,rfl,_⟩ | ⟨_,_,_,_,⟨z,hz⟩,_⟩ | ⟨_,_,_,_,_,z,_,_,_,hz,_⟩
     ·rw[validP_iff.2 hVd] at h;cases h
     ·rfl
     ·rfl
     ·obtain ⟨y,hy,_⟩:=dual_points hz
      exact (hr.none hy).elim
     ·obtain ⟨y,hy,_⟩:=dual_points hz
      exact (hr.none hy).elim
    ·obtain ⟨z1,hz1,hz1v⟩:=dual_of hV hy
     obtain ⟨hu1,hu1v⟩:=dual_mults hx
     rcases g2 with ⟨_,_,h⟩ | ⟨rfl,rfl,_⟩ | ⟨_,_,_,_,y2,hy2⟩ | ⟨_,_,_,_,_,r2,hr2⟩ | ⟨rfl,_,_,_,v2,z,u,hb,hfv2,hz,hu,hzv,huv⟩
     ·rw[validP_iff.2 hVd] at h;cases h
     ·rfl
     ·exact (hy2.none hz1).elim
     ·exact (hr2.none hu1).elim
     ·have hsum:v+v2=0:=by
       obtain ⟨y',hy',hy'v⟩:=dual_points hz
       have w1:=Lin.weak hx hy'
       have w2:=Lin.weak hz1 hu
       rw[hy'v,hxv,hzv] at w1
       rw[huv,hz1v,hyv] at w2
       refine Rat.le_antisymm ?_ ?_<;>grind
      have hadd:=Add_ok (okF_prQ hfv) (okF_prQ hfv2)
      rw[qv_prQ,qv_prQ,hsum] at hadd
      simp only[ha,hb,hadd,obind_some']
      rfl
   ·rw[decide_eq_false h0]
    simp only[Bool.not_false,cT]
    have:(dualR p).1=([],[]):=by
     unfold dualR at h0 ⊢
     split
     ·rfl
     ·rename_i c0
      rw[if_neg c0] at h0
      split
      ·rfl
      ·rename_i c1
       rw[if_neg c1] at h0
       cases hb:bigP p p.2.length with
       | true=>rfl
       | false=>rw[hb] at h0;exact (h0 rfl).elim
    rw[this]
    rfl
end Go.Proofs.Ytnbbackjofgcfaa
