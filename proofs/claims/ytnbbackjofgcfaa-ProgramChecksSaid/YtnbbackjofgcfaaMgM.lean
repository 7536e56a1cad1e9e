/- Fractions: 'Add' of package ratio. Loops over lists: searches and tests of all elements. Fractions: 'Add', 'Valid', 'All' of the reference. Fractions: 'Sub' and 'Cmp' of both. Loops over the elements of a list, as recursions over it. Programs: both programs know the same valid ones. Programs: sums of numbers times fractions. Programs: which points are feasible, as the program tells it. Programs: feasible points and values, in both programs. The law ProgramForms. Programs: columns and right sides. Programs: the signs of multipliers. Programs: sums of columns below numbers; refutations. Programs: refutations, as the program tells them. Programs: refutations, as they are specified. Programs: refutations are the same in both programs. Programs: answers that are proved, in both programs. The law ProgramChecks. -/
import Derived.Test.YtnbbackjofgcfaaMgL

namespace Go.Proofs.Ytnbbackjofgcfaa
open Try Dn Dn.Sh
theorem over_ok {n b:Nat} (hb0:0<b) (hb:b<18446744073709551616) (hn:n<340282366920938463463374607431768211456):ratio_over (hl n) (b:Int)=some (hl (n / b),((n % b:Nat):Int),()):=by
  have hz:nzB (b:Int)=true:=nzB_of (by omega)
  obtain ⟨h,l,hh,hl',hnn⟩:∃h l:Nat,h=n / 18446744073709551616∧l=n % 18446744073709551616∧n=h*18446744073709551616+l:=⟨_,_,rfl,rfl,by omega⟩
  have e:hl n=((h:Int),(l:Int)):=by unfold hl;rw[hh,hl']
  rw[e]
  simp only[ratio_over,ratio_over_b]
  rw[hz,tmod_nat,Div64_ok (Nat.mod_lt h hb0) hb (by omega),obind_some']
  have d1:=Nat.div_add_mod h b
  have d2:=Nat.mod_lt h hb0
  obtain ⟨A,hA⟩:∃A,A=h % b*18446744073709551616+l:=⟨_,rfl⟩
  rw[←hA]
  have d3:=Nat.div_add_mod A b
  have d4:=Nat.mod_lt A hb0
  have d5:A / b<18446744073709551616:=(Nat.div_lt_iff_lt_mul hb0).2 (by
    have:(h % b+1)*18446744073709551616≤b*18446744073709551616:=Nat.mul_le_mul_right _ d2
    rw[Nat.mul_comm 18446744073709551616 b]
    omega)
  have hN:n=(h / b*18446744073709551616+A / b)*b+A % b:=by
    have e1:(h / b*18446744073709551616+A / b)*b=b*(h / b)*18446744073709551616+b*(A / b):=by grind
    rw[e1,hnn]
    generalize b*(h / b)=x at *
    generalize b*(A / b)=y at *
    generalize A % b=r at *
    generalize h % b=r1 at *
    clear e hz hb0 hb hn hh hl' hnn d5 e1
    omega
  obtain ⟨n1,n2⟩:=divMod_of d4 hN
  rw[n1,n2,tdiv_nat]
  have d6:h / b<18446744073709551616:=Nat.lt_of_le_of_lt (Nat.div_le_self h b) (by omega)
  generalize h / b=x at *
  generalize A / b=y at *
  rw[u_wrap (x:=(x:Int)) (by omega) (by omega)]
  unfold hl
  rw[show (x*18446744073709551616+y) / 18446744073709551616=x by omega,show (x*18446744073709551616+y) % 18446744073709551616=y by omega]
  rfl
theorem sum_cop {na nb:Int} {da A B:Nat} (ha:Nat.gcd na.natAbs da=1) (hA:A∣da) (hAB:Nat.gcd A B=1):Nat.gcd (na*B+nb*A).natAbs A=1:=by
  have d1:=Nat.gcd_dvd_left (na*B+nb*A).natAbs A
  have d2:=Nat.gcd_dvd_right (na*B+nb*A).natAbs A
  generalize Nat.gcd (na*B+nb*A).natAbs A=d at *
  have e1:(d:Int)∣na*B+nb*A:=Int.ofNat_dvd_left.2 d1
  have e2:(d:Int)∣nb*A:=Int.dvd_mul_of_dvd_right (Int.ofNat_dvd.2 d2)
  have e3:(d:Int)∣na*B:=(Int.dvd_iff_dvd_of_dvd_add e1).2 e2
  have e4:d∣na.natAbs*B:=by
    have:=Int.ofNat_dvd_left.1 e3
    rwa [Int.natAbs_mul,Int.natAbs_natCast] at this
  have e5:Nat.Coprime d na.natAbs:=(Nat.Coprime.coprime_dvd_right (Nat.dvd_trans d2 hA) ha).symm
  have e6:d∣B:=Nat.Coprime.dvd_of_dvd_mul_left e5 e4
  have e7:=Nat.dvd_gcd d2 e6
  rw[hAB] at e7
  exact Nat.dvd_one.1 e7
theorem sum_plain {na nb:Int} {da db g A B:Nat} (ha:Nat.gcd na.natAbs da=1) (hb:Nat.gcd nb.natAbs db=1) (h1:da=A*g) (h2:db=B*g) (hAB:Nat.gcd A B=1) (hg:0<g) (hA:0<A) (hB:0<B) {c:Nat} (hc:c=Nat.gcd g (na*B+nb*A).natAbs) :
    mkRat na da+mkRat nb db=mkRat (na*B+nb*A) (A*db)∧Nat.gcd ((na*B+nb*A).natAbs / c) (A*(db / c))=1∧0<c∧c∣(na*B+nb*A).natAbs∧c∣db:=by
  have hc0:0<c:=by rw[hc];exact Nat.gcd_pos_of_pos_left _ hg
  have k1:Nat.gcd (na*B+nb*A).natAbs A=1:=sum_cop ha ⟨g,h1⟩ hAB
  have k2:Nat.gcd (na*B+nb*A).natAbs B=1:=by
    rw[Int.add_comm]
    exact sum_cop hb ⟨g,h2⟩ (by rw[Nat.gcd_comm];exact hAB)
  have c1:c∣(na*B+nb*A).natAbs:=by rw[hc];exact Nat.gcd_dvd_right _ _
  have c2:c∣g:=by rw[hc];exact Nat.gcd_dvd_left _ _
  refine ⟨?_,?_,hc0,c1,by rw[h2];exact Nat.dvd_trans c2 (Nat.dvd_mul_left g B)⟩
  · have p1:0<A*g:=Nat.mul_pos hA hg
    have p2:0<B*g:=Nat.mul_pos hB hg
    have p3:0<A*(B*g):=Nat.mul_pos hA p2
    rw[Rat.mkRat_add_mkRat _ _ (by omega) (by omega),h1,h2,Rat.mkRat_eq_iff (Nat.ne_of_gt (Nat.mul_pos p1 p2)) (by omega)]
    simp only[Int.natCast_mul]
    grind
  · have c3:Nat.gcd ((na*B+nb*A).natAbs / c) (g / c)=1:=by
      rw[hc,Nat.gcd_comm]
      exact Nat.gcd_div_gcd_div_gcd_of_pos_left hg
    have hdb:db / c=B*(g / c):=by rw[h2,Nat.mul_div_assoc _ c2]
    have dv:(na*B+nb*A).natAbs / c∣(na*B+nb*A).natAbs:=Nat.div_dvd_of_dvd c1
    rw[hdb]
    exact Nat.Coprime.mul_right (Nat.Coprime.coprime_dvd_left dv k1) (Nat.Coprime.mul_right (Nat.Coprime.coprime_dvd_left dv k2) c3)
theorem Add_ok {a b:Fq} (ha:okF a) (hb:okF b):ratio_Add a b=some (fitQ (qv a+qv b)):=by
  obtain ⟨na,da'⟩:=a
  obtain ⟨nb,db'⟩:=b
  have ha':=ha
  have hb':=hb
  unfold okF at ha' hb'
  simp only at ha' hb'
  obtain ⟨⟨a1,a2⟩,⟨a3,a4⟩,a5⟩:=ha'
  obtain ⟨⟨b1,b2⟩,⟨b3,b4⟩,b5⟩:=hb'
  obtain ⟨da,rfl⟩:∃da:Nat,da'=da:=⟨da'.toNat,by omega⟩
  obtain ⟨db,rfl⟩:∃db:Nat,db'=db:=⟨db'.toNat,by omega⟩
  rw[Int.natAbs_natCast] at a5 b5
  simp only[ratio_Add,ratio_Add_b,Valid_ok,decide_eq_true ha,decide_eq_true hb,obind_some',Bool.not_true,Bool.not_false,Bool.or_true,cT,cF,jnT]
  rw[u_wrap (x:=(da:Int)) (by omega) (by omega),u_wrap (x:=(db:Int)) (by omega) (by omega),gcd_ok _ _ (by omega),obind_some',size_ok (by omega) (by omega),obind_some',size_ok (by omega) (by omega)]
  have hg:0<Nat.gcd da db:=Nat.gcd_pos_of_pos_left _ (by omega)
  have hgl:Nat.gcd da db≤da:=Nat.gcd_le_left _ (by omega)
  obtain ⟨A,hA⟩:∃A,A=da / Nat.gcd da db:=⟨_,rfl⟩
  obtain ⟨B,hB⟩:∃B,B=db / Nat.gcd da db:=⟨_,rfl⟩
  have hAg:da=A*Nat.gcd da db:=by rw[hA,Nat.div_mul_cancel (Nat.gcd_dvd_left _ _)]
  have hBg:db=B*Nat.gcd da db:=by rw[hB,Nat.div_mul_cancel (Nat.gcd_dvd_right _ _)]
  have hAB:Nat.gcd A B=1:=by rw[hA,hB];exact Nat.gcd_div_gcd_div_gcd_of_pos_left (by omega)
  have hA0:0<A:=by rw[hA];exact Nat.div_pos (Nat.gcd_le_left _ (by omega)) hg
  have hB0:0<B:=by rw[hB];exact Nat.div_pos (Nat.gcd_le_right _ (by omega)) hg
  have hAl:A≤da:=by rw[hA];exact Nat.div_le_self _ _
  have hBl:B≤db:=by rw[hB];exact Nat.div_le_self _ _
  have hz:nzB ((Nat.gcd da db:Nat):Int)=true:=nzB_of (by omega)
  rw[hz,cT,tdiv_nat,tdiv_nat,←hA,←hB,u_wrap (x:=(A:Int)) (by omega) (by omega),u_wrap (x:=(B:Int)) (by omega) (by omega)]
  have x1:na.natAbs*B≤1152921504606846976*1152921504606846976:=Nat.mul_le_mul (by omega) (by omega)
  have y1:nb.natAbs*A≤1152921504606846976*1152921504606846976:=Nat.mul_le_mul (by omega) (by omega)
  rw[product_ok (by omega) (by omega),obind_some',obind_some',cT,product_ok (by omega) (by omega),obind_some']
  have hsum:=sum_plain (na:=na) (nb:=nb) a5 b5 hAg hBg hAB hg hA0 hB0 rfl
  generalize Nat.gcd da db=g at *
  have hv:qv (na,(da:Int))+qv (nb,(db:Int))=mkRat na da+mkRat nb db:=rfl
  rw[hv,hsum.1]
  simp only[or_self_not,Bool.not_not,cT]
  have tail:∀(s:Bool) (N:Nat),N≤2658455991569831745807614120560689152→sgn s N=na*B+nb*A→(bif decide ((hl N).1=0)&&(decide ((hl N).2=0)&&true) then some (((0:Int),(1:Int)),(0:Int),PUnit.unit) else
      obind (ratio_over (hl N) (g:Int)) fun t_5=>obind (ratio_gcd (g:Int) t_5.2.1) fun t_1=>obind (ratio_over (hl N) t_1) fun t_6=>bif nzB t_1 then obind (ratio_product (A:Int) (IntKind.wrap .u64 (Int.tdiv (db:Int) t_1))) fun t =>
        bif bif decide (t_6.1.1>0) then true else decide (t.1>0) then some (((0:Int),(0:Int)),(5:Int),PUnit.unit) else obind (ratio_signed s t_6.1.2 t.2) fun t=>some (t.1,t.2.1,PUnit.unit) else none)=some (fitQ (mkRat (na*B+nb*A) (A*db))):=by
    intro s N hN hs
    have hNT:(na*B+nb*A).natAbs=N:=by rw[←hs];unfold sgn;split<;>simp
    rw[hNT] at hsum
    rw[zero_hl (by omega)]
    by_cases h0:N=0
    · rw[decide_eq_true h0,cT,←hs,h0,show sgn s 0=0 by unfold sgn;cases s<;>rfl,Rat.zero_mkRat]
      rfl
    · obtain ⟨c,hc⟩:∃c,c=Nat.gcd g N:=⟨_,rfl⟩
      rw[←hc] at hsum
      obtain ⟨_,s2,s3,s4,s5⟩:=hsum
      have hcg:c≤g:=by rw[hc];exact Nat.gcd_le_left _ hg
      rw[decide_eq_false h0,cF,over_ok hg (by omega) (by omega),obind_some',gcd_ok _ _ (by have:=Nat.mod_lt N hg;generalize N % g=w at *;omega),obind_some',Nat.gcd_comm,←Nat.gcd_rec,←hc,over_ok s3 (by omega) (by omega),obind_some',nzB_of (by omega),cT,tdiv_nat]
      have hdc:db / c≤db:=Nat.div_le_self _ _
      have hdc0:0<db / c:=Nat.div_pos (Nat.le_of_dvd (by omega) s5) s3
      rw[u_wrap (by omega) (by generalize db / c=w at *;omega),product_ok (by omega) (by generalize db / c=w at *;omega),obind_some']
      have hNc:N / c≤N:=Nat.div_le_self _ _
      have hval:mkRat (na*B+nb*A) (A*db)=mkRat (sgn s (N / c)) (A*(db / c)):=by
        rw[←hs]
        refine mkQ_congr (Nat.mul_pos hA0 (by omega)) (Nat.mul_pos hA0 hdc0) ?_
        obtain ⟨x,rfl⟩:=s4
        obtain ⟨y,rfl⟩:=s5
        rw[Nat.mul_div_cancel_left _ s3,Nat.mul_div_cancel_left _ s3]
        grind
      rw[hval,fit_low (Nat.mul_pos hA0 hdc0) s2]
      have hden:A*(db / c)≤1152921504606846976*1152921504606846976:=Nat.mul_le_mul (by omega) (by omega)
      generalize N / c=n at *
      generalize A*(db / c)=d at *
      by_cases hn:n<18446744073709551616
      · by_cases hd:d<18446744073709551616
        · rw[hl_small hn,hl_small hd]
          simp only
          rw[show decide ((0:Int)>0)=false from rfl,cF,cF,signed_ok _ _ _ hn hd,obind_some']
        · rw[hl_small hn]
          simp only
          rw[show decide ((0:Int)>0)=false from rfl,decide_eq_true (hl_big hd),cF,cT,if_neg (by omega)]
      · rw[decide_eq_true (hl_big hn),cT,cT,if_neg (by omega)]
  have sx:∀{n:Int} {s:Bool},s=decide (n<0)→n=sgn s n.natAbs:=fun {n s} h=>by rw[h];exact size_sgn n
  by_cases hsg:decide (na<0)=decide (nb<0)
  · rw[decide_eq_true hsg,cT,rPlus_ok (by omega),obind_some']
    refine tail _ _ (by omega) ?_
    have e1:na=sgn (decide (na<0)) na.natAbs:=size_sgn na
    have e2:nb=sgn (decide (na<0)) nb.natAbs:=by rw[hsg];exact size_sgn nb
    generalize na.natAbs=m at *
    generalize nb.natAbs=n at *
    generalize decide (na<0)=s at *
    rw[e1,e2]
    unfold sgn
    cases s
    · simp only[Bool.false_eq_true,if_false]
      rw[Int.natCast_add,Int.natCast_mul,Int.natCast_mul]
    · simp only[if_true]
      rw[Int.natCast_add,Int.natCast_mul,Int.natCast_mul]
      grind
  · have e1:na=sgn (decide (na<0)) na.natAbs:=size_sgn na
    have e2:nb=sgn (!decide (na<0)) nb.natAbs:=by
      have:(!decide (na<0))=decide (nb<0):=by
        clear tail sx hsum hv ha hb
        revert hsg
        cases decide (na<0)<;>cases decide (nb<0)<;>simp
      rw[this];exact size_sgn nb
    rw[decide_eq_false hsg,cF,rLess_ok,obind_some']
    by_cases hlt:na.natAbs*B<nb.natAbs*A
    · rw[decide_eq_true hlt,cT,rMinus_ok (by omega) (by omega),obind_some']
      refine tail _ _ (by omega) ?_
      generalize na.natAbs=m at *
      generalize nb.natAbs=n at *
      generalize decide (na<0)=s at *
      rw[e1,e2]
      have e3:(((n*A - m*B:Nat)):Int)=(n:Int)*A - (m:Int)*B:=by rw[Int.ofNat_sub (Nat.le_of_lt hlt),Int.natCast_mul,Int.natCast_mul]
      unfold sgn
      cases s
      · simp only[Bool.false_eq_true,if_false,Bool.not_false,if_true]
        grind
      · simp only[if_true,Bool.not_true,Bool.false_eq_true,if_false]
        grind
    · rw[decide_eq_false hlt,cF,rMinus_ok (by omega) (by omega),obind_some']
      refine tail _ _ (by omega) ?_
      generalize na.natAbs=m at *
      generalize nb.natAbs=n at *
      generalize decide (na<0)=s at *
      rw[e1,e2]
      have e3:(((m*B - n*A:Nat)):Int)=(m:Int)*B - (n:Int)*A:=by rw[Int.ofNat_sub (Nat.not_lt.1 hlt),Int.natCast_mul,Int.natCast_mul]
      unfold sgn
      cases s
      · simp only[Bool.false_eq_true,if_false,Bool.not_false,if_true]
        grind
      · simp only[if_true,Bool.not_true,Bool.false_eq_true,if_false]
        grind
end Go.Proofs.Ytnbbackjofgcfaa

namespace Go.Proofs.Ytnbbackjofgcfaa
namespace Dn
theorem lpK_up {σ α R:Type} {F:(α→Option R)→α→Option R} (n:Nat) (hn:n≤1180591620717411303423) (enc:Nat→σ→α) (b:Nat→σ→(σ→Option R)→Option R) (f:σ→Option R)
    (hb:∀again (i:Nat) s,i<n→F again (enc i s)=b i s (fun s'=>again (enc (i+1) s'))) (hf:∀again s,F again (enc n s)=f s) (s:σ) :
    lpK α R F (enc 0 s)=upF b f n 0 s:=loopF_up n hn enc b f hb hf s
def idxI {α:Type} (p:α→Bool):List α→Int→Int
  | [],_=> -1
  | a ::l,i=>bif p a then i else idxI p l (i+1)
theorem idxI_neg {α:Type} {p:α→Bool}:∀{l:List α} {i:Int},0≤i→(idxI p l i<0↔∀a ∈ l,p a=false)
  | [],i,h=>by simp[idxI]
  | a ::l,i,h=>by
    unfold idxI
    cases hp:p a with
    | true=>simp only[cond_true,List.mem_cons,forall_eq_or_imp,hp];simp;omega
    | false=>simp only[cond_false,List.mem_cons,forall_eq_or_imp,hp,true_and];exact idxI_neg (by omega)
theorem idxI_drop {α:Type} {p:α→Bool} {l:List α} {d:α} {i:Nat} (h:i<l.length):idxI p (l.drop i) i=bif p (l.getD i d) then (i:Int) else idxI p (l.drop (i+1)) ((i:Int)+1):=by
  rw[List.drop_eq_getElem_cons h,getD_nat h]
  rfl
theorem index_loop {α:Type} {f:(α×Unit)→Option Bool} {d:α} {p:α→Bool} {l:List α} (hl:l.length≤1000000) (h:∀a,a ∈ l→f (a,())=some (p a)) :
    lpK (Int×PUnit) Int (fun (again:Int×PUnit→Option Int) (x:Int×PUnit)=>bif decide (x.fst<(↑(List.length l):Int)) then bif inB x.fst (List.length l) then obind (f
      (List.getD l (Int.toNat x.fst) d,PUnit.unit)) fun (t:Bool)=>bif t then some x.fst else again
      (IntKind.wrap IntKind.i64 (x.fst+(1:Int)),PUnit.unit) else none else some (-1:Int)) ((0:Int),PUnit.unit)=some (idxI p l 0):=by
  refine lpK_loop (g:=fun _=>some (idxI p l 0)) (I:=fun (x:Int×PUnit)=>0≤x.1∧x.1≤l.length∧idxI p (l.drop x.1.toNat) x.1=idxI p l 0) (μ:=fun (x:Int×PUnit)=>((l.length:Int) - x.1).toNat) ?_ ⟨by simp,by simp only;omega,rfl⟩ (by simp only;omega)
  rintro ⟨i,_⟩ rec ⟨h0,h1,h2⟩ hrec
  simp only at h0 h1 h2 ⊢
  by_cases hi:i<l.length
  · obtain ⟨n,rfl⟩:∃n:Nat,i=n:=⟨i.toNat,by omega⟩
    rw[decide_eq_true hi,cond_true,inB_of h0 hi,cond_true,Int.toNat_natCast,h _ (by rw[getD_nat (by omega)];exact List.getElem_mem (by omega)),obind_some',wrap_id (by omega) (by omega)]
    rw[Int.toNat_natCast,idxI_drop (d:=d) (by omega)] at h2
    cases hp:p (l.getD n d) with
    | true=>rw[hp,cond_true] at h2;rw[cond_true,h2]
    | false=>rw[hp,cond_false] at h2;rw[cond_false];exact hrec _ ⟨by simp only;omega,by simp only;omega,h2⟩ (by simp only;omega)
  · rw[decide_eq_false hi,cond_false]
    have e:i.toNat=l.length:=by omega
    rw[e,List.drop_length] at h2
    rw[←h2]
    rfl
theorem upF_all {R σ:Type} {b:Nat→σ→(σ→Option R)→Option R} {f:σ→Option R} {p:Nat→Bool} {r:Option R} {s:σ} (n:Nat) (hb:∀i (k:σ→Option R),i<n→b i s k=bif p i then k s else r) :
    ∀(k i:Nat),i+k≤n→upF b f k i s=bif (List.range' i k).all p then f s else r
  | 0,i,_=>rfl
  | k+1,i,h=>by
    simp only[upF,hb i _ (by omega),List.range'_succ,List.all_cons]
    cases hp:p i with
    | true=>exact upF_all n hb k (i+1) (by omega)
    | false=>rfl
end Dn
end Go.Proofs.Ytnbbackjofgcfaa

namespace Go.Proofs.Ytnbbackjofgcfaa
open Try Dn Dn.Sh
theorem sgn_same {na nb:Int} {A B:Nat} (h:decide (na<0)=decide (nb<0)):sgn (decide (na<0)) (na.natAbs*B+nb.natAbs*A)=na*B+nb*A:=by
  have e1:na=sgn (decide (na<0)) na.natAbs:=size_sgn na
  have e2:nb=sgn (decide (na<0)) nb.natAbs:=by rw[h];exact size_sgn nb
  generalize na.natAbs=m at *
  generalize nb.natAbs=n at *
  generalize decide (na<0)=s at *
  rw[e1,e2]
  unfold sgn
  cases s
  · simp only[Bool.false_eq_true,if_false]
    rw[Int.natCast_add,Int.natCast_mul,Int.natCast_mul]
  · simp only[if_true]
    rw[Int.natCast_add,Int.natCast_mul,Int.natCast_mul]
    grind
theorem not_same {na nb:Int} (h:¬ decide (na<0)=decide (nb<0)):nb=sgn (!decide (na<0)) nb.natAbs:=by
  have:(!decide (na<0))=decide (nb<0):=by
    revert h
    cases decide (na<0)<;>cases decide (nb<0)<;>simp
  rw[this];exact size_sgn nb
theorem sgn_less {na nb:Int} {A B:Nat} (h:¬ decide (na<0)=decide (nb<0)) (hlt:na.natAbs*B<nb.natAbs*A):sgn (!decide (na<0)) (nb.natAbs*A - na.natAbs*B)=na*B+nb*A:=by
  have e1:na=sgn (decide (na<0)) na.natAbs:=size_sgn na
  have e2:=not_same h
  generalize na.natAbs=m at *
  generalize nb.natAbs=n at *
  generalize decide (na<0)=s at *
  rw[e1,e2]
  have e3:(((n*A - m*B:Nat)):Int)=(n:Int)*A - (m:Int)*B:=by rw[Int.ofNat_sub (Nat.le_of_lt hlt),Int.natCast_mul,Int.natCast_mul]
  unfold sgn
  cases s
  · simp only[Bool.false_eq_true,if_false,Bool.not_false,if_true]
    grind
  · simp only[if_true,Bool.not_true,Bool.false_eq_true,if_false]
    grind
theorem sgn_more {na nb:Int} {A B:Nat} (h:¬ decide (na<0)=decide (nb<0)) (hlt:¬ na.natAbs*B<nb.natAbs*A):sgn (decide (na<0)) (na.natAbs*B - nb.natAbs*A)=na*B+nb*A:=by
  have e1:na=sgn (decide (na<0)) na.natAbs:=size_sgn na
  have e2:=not_same h
  generalize na.natAbs=m at *
  generalize nb.natAbs=n at *
  generalize decide (na<0)=s at *
  rw[e1,e2]
  have e3:(((m*B - n*A:Nat)):Int)=(m:Int)*B - (n:Int)*A:=by rw[Int.ofNat_sub (Nat.not_lt.1 hlt),Int.natCast_mul,Int.natCast_mul]
  unfold sgn
  cases s
  · simp only[Bool.false_eq_true,if_false,Bool.not_false,if_true]
    grind
  · simp only[if_true,Bool.not_true,Bool.false_eq_true,if_false]
    grind
theorem RAdd_ok {a b:Fq} (ha:okF a) (hb:okF b):ref02_Add a b=some (fitQ (qv a+qv b)):=by
  obtain ⟨na,da'⟩:=a
  obtain ⟨nb,db'⟩:=b
  have ha':=ha
  have hb':=hb
  unfold okF at ha' hb'
  simp only at ha' hb'
  obtain ⟨⟨a1,a2⟩,⟨a3,a4⟩,a5⟩:=ha'
  obtain ⟨⟨b1,b2⟩,⟨b3,b4⟩,b5⟩:=hb'
  obtain ⟨da,rfl⟩:∃da:Nat,da'=da:=⟨da'.toNat,by omega⟩
  obtain ⟨db,rfl⟩:∃db:Nat,db'=db:=⟨db'.toNat,by omega⟩
  simp only[ref02_Add,ref02_Add_b]
  rw[RSize_ok (by omega) (by omega),obind_some',RSize_ok (by omega) (by omega),obind_some',Int.natAbs_natCast,RMul_ok (by omega) (by omega),obind_some',RSize_ok (by omega) (by omega),obind_some',RSize_ok (by omega) (by omega),obind_some',Int.natAbs_natCast,RMul_ok (by omega) (by omega),obind_some',obind_some',obind_some',RMul_ok (by omega) (by omega),obind_some']
  have x1:na.natAbs*db≤1152921504606846976*1152921504606846976:=Nat.mul_le_mul (by omega) (by omega)
  have y1:nb.natAbs*da≤1152921504606846976*1152921504606846976:=Nat.mul_le_mul (by omega) (by omega)
  have d1:da*db≤1152921504606846976*1152921504606846976:=Nat.mul_le_mul (by omega) (by omega)
  have d0:0<da*db:=Nat.mul_pos (by omega) (by omega)
  have hv:qv (na,(da:Int))+qv (nb,(db:Int))=mkRat (na*db+nb*da) (da*db):=Rat.mkRat_add_mkRat _ _ (by omega) (by omega)
  rw[hv]
  by_cases hs:decide (na<0)=decide (nb<0)
  · rw[decide_eq_true hs,cT,Plus_ok (by omega),obind_some',RMade_ok (by omega) d0 (by omega),obind_some',sgn_same hs]
  · rw[decide_eq_false hs,cF,Less_ok,obind_some']
    by_cases hlt:na.natAbs*db<nb.natAbs*da
    · have e2:decide (nb<0)=!decide (na<0):=by
        clear ha hb hv
        revert hs
        cases decide (na<0)<;>cases decide (nb<0)<;>simp
      rw[decide_eq_true hlt,cT,Minus_ok (by omega) (by omega),obind_some',RMade_ok (by omega) d0 (by omega),obind_some',e2,sgn_less hs hlt]
    · rw[decide_eq_false hlt,cF,Minus_ok (by omega) (by omega),obind_some',RMade_ok (by omega) d0 (by omega),obind_some',sgn_more hs hlt]
theorem one_hl {n:Nat} (h:n<18446744073709551616):(decide ((hl n).1=0)&&(decide ((hl n).2=1)&&true))=decide (n=1):=by
  rw[hl_small h]
  simp only[decide_true,Bool.true_and,Bool.and_true]
  rw[Bool.eq_iff_iff,decide_eq_true_eq,decide_eq_true_eq]
  omega
theorem RValid_ok {a:Fq}:ref02_Valid a=some (decide (okF a)):=by
  simp only[ref02_Valid,ref02_Valid_b,not_or_self',or_self_not,cT]
  by_cases h1:a.2<1
  · rw[decide_eq_true h1]
    simp only[cT]
    rw[decide_eq_false (by unfold okF;omega)]
  · rw[decide_eq_false h1]
    by_cases h2:a.2>1152921504606846976
    · rw[decide_eq_true h2]
      simp only[cT,cF]
      rw[decide_eq_false (by unfold okF;omega)]
    · rw[decide_eq_false h2]
      by_cases h3:a.1< -1152921504606846976
      · rw[decide_eq_true h3]
        simp only[cT,cF]
        rw[decide_eq_false (by unfold okF;omega)]
      · rw[decide_eq_false h3]
        by_cases h4:a.1>1152921504606846976
        · rw[decide_eq_true h4]
          simp only[cT,cF]
          rw[decide_eq_false (by unfold okF;omega)]
        · rw[decide_eq_false h4]
          simp only[cT,cF]
          have hg:Nat.gcd a.1.natAbs a.2.natAbs≤a.2.natAbs:=Nat.gcd_le_right _ (by omega)
          rw[RSize_ok (by omega) (by omega),obind_some',RSize_ok (by omega) (by omega),obind_some',←hl_small (show a.1.natAbs<18446744073709551616 by omega),←hl_small (show a.2.natAbs<18446744073709551616 by omega),Gcd_ok (by omega) (by omega) (by omega),obind_some',one_hl (by generalize Nat.gcd a.1.natAbs a.2.natAbs=g at *;omega)]
          congr 1
          rw[Bool.eq_iff_iff,decide_eq_true_eq,decide_eq_true_eq]
          unfold okF
          generalize Nat.gcd a.1.natAbs a.2.natAbs=g at *
          omega
theorem RAll_ok {l:List Fq} (h:l.length≤1000000):ref02_All l=some (l.all fun a=>decide (okF a)):=by
  simp only[ref02_All,ref02_All_b]
  refine (lpK_up (α:=Int×PUnit) (σ:=Unit) l.length (by omega) (fun i _=>((i:Int),PUnit.unit)) (fun i _ K=>bif decide (okF (l.getD i (0,0))) then K () else some false) (fun _=>some true) ?_ ?_ ()).trans ?_
  · intro again i s hi
    simp only
    rw[decide_eq_true (show (i:Int)<l.length by omega),cT,inB_of (by omega) (by omega),cT,Int.toNat_natCast,RValid_ok,obind_some',wrap_id (by omega) (by omega)]
    cases decide (okF (l.getD i (0,0)))<;>rfl
  · intro again s
    simp only
    rw[decide_eq_false (by omega),cF]
  · rw[upF_all (p:=fun i=>decide (okF (l.getD i (0,0)))) (r:=some false) l.length (fun i k hi=>rfl) l.length 0 (by omega)]
    have:((List.range' 0 l.length).all fun i=>decide (okF (l.getD i (0,0))))=l.all fun a=>decide (okF a):=by
      rw[Bool.eq_iff_iff,List.all_eq_true,List.all_eq_true]
      constructor
      · intro hh a ha
        obtain ⟨i,hi,rfl⟩:=List.mem_iff_getElem.1 ha
        have:=hh i (List.mem_range'.2 ⟨i,hi,by omega⟩)
        rwa [getD_nat hi] at this
      · intro hh i hi
        obtain ⟨k,hk,rfl⟩:=List.mem_range'.1 hi
        refine hh _ ?_
        rw[getD_nat (by omega)]
        exact List.getElem_mem _
    rw[this]
    cases l.all fun a=>decide (okF a)<;>rfl
end Go.Proofs.Ytnbbackjofgcfaa

namespace Go.Proofs.Ytnbbackjofgcfaa
open Try Dn Dn.Sh
def cmpQ (p q:Rat):Int:=if p<q then -1 else if p=q then 0 else 1
theorem hl_beq {m n:Nat}:(decide ((hl m).1=(hl n).1)&&(decide ((hl m).2=(hl n).2)&&true))=decide (m=n):=by
  rw[Bool.eq_iff_iff]
  simp only[Bool.and_eq_true,decide_eq_true_eq,and_true]
  unfold hl
  constructor
  · rintro ⟨h1,h2⟩
    have h1:m / 18446744073709551616=n / 18446744073709551616:=Int.ofNat.inj h1
    have h2:m % 18446744073709551616=n % 18446744073709551616:=Int.ofNat.inj h2
    omega
  · intro h
    rw[h]
    exact ⟨rfl,rfl⟩
theorem cmp_signs {a b:Fq} (ha:okF a) (hb:okF b) {M N:Nat} (hM:M=a.1.natAbs*b.2.natAbs) (hN:N=b.1.natAbs*a.2.natAbs) :
    cmpQ (qv a) (qv b)=if a.1<0 then (if b.1<0 then (if N<M then -1 else if M=N then 0 else 1) else -1) else (if b.1<0 then 1 else (if M<N then -1 else if M=N then 0 else 1)):=by
  have e1:=okF_lt ha hb
  have e2:qv a=qv b↔a.1*b.2=b.1*a.2:=by
    have h1:=okF_le ha hb
    have h2:=okF_le hb ha
    constructor
    · intro h
      have h3:=h1.1 (by rw[h];exact Rat.le_refl)
      have h4:=h2.1 (by rw[h];exact Rat.le_refl)
      omega
    · intro h
      exact Rat.le_antisymm (h1.2 (by omega)) (h2.2 (by omega))
  obtain ⟨⟨a1,_⟩,_,_⟩:=ha
  obtain ⟨⟨b1,_⟩,_,_⟩:=hb
  have eM:(M:Int)=(a.1.natAbs:Int)*b.2:=by rw[hM,Int.natCast_mul,show ((b.2.natAbs:Nat):Int)=b.2 by omega]
  have eN:(N:Int)=(b.1.natAbs:Int)*a.2:=by rw[hN,Int.natCast_mul,show ((a.2.natAbs:Nat):Int)=a.2 by omega]
  have sa:a.1*b.2=if a.1<0 then -(M:Int) else M:=by
    split
    · rw[eM,←Int.neg_mul];congr 1;omega
    · rw[eM];congr 1;omega
  have sb:b.1*a.2=if b.1<0 then -(N:Int) else N:=by
    split
    · rw[eN,←Int.neg_mul];congr 1;omega
    · rw[eN];congr 1;omega
  have p1:a.1<0→0<M:=fun h=>by rw[hM];exact Nat.mul_pos (by omega) (by omega)
  have p2:b.1<0→0<N:=fun h=>by rw[hN];exact Nat.mul_pos (by omega) (by omega)
  unfold cmpQ
  simp only[e1,e2,sa,sb]
  clear e1 e2 sa sb eM eN hM hN
  by_cases c1:a.1<0
  · by_cases c2:b.1<0
    · simp only[c1,c2,if_true]
      repeat' split
      all_goals first | rfl | omega
    · have:=p1 c1
      simp only[c1,c2,if_true,if_false]
      repeat' split
      all_goals first | rfl | omega
  · by_cases c2:b.1<0
    · have:=p2 c2
      simp only[c1,c2,if_true,if_false]
      repeat' split
      all_goals first | rfl | omega
    · simp only[c1,c2,if_false]
      repeat' split
      all_goals first | rfl | omega
theorem RCmp_ok {a b:Fq} (ha:okF a) (hb:okF b):ref02_Cmp a b=some (cmpQ (qv a) (qv b)):=by
  have hs:=cmp_signs ha hb rfl rfl
  obtain ⟨⟨a1,a2⟩,⟨a3,a4⟩,_⟩:=ha
  obtain ⟨⟨b1,b2⟩,⟨b3,b4⟩,_⟩:=hb
  simp only[ref02_Cmp,ref02_Cmp_b]
  rw[RSize_ok (by omega) (by omega),obind_some',RSize_ok (by omega) (by omega),obind_some',RMul_ok (by omega) (by omega),obind_some',RSize_ok (by omega) (by omega),obind_some',RSize_ok (by omega) (by omega),obind_some',RMul_ok (by omega) (by omega),obind_some']
  simp only[not_or_self',cT,hl_beq,Less_ok,obind_some']
  rw[hs]
  clear hs
  generalize a.1.natAbs*b.2.natAbs=M
  generalize b.1.natAbs*a.2.natAbs=N
  by_cases c1:a.1<0
  · by_cases c2:b.1<0
    · rw[if_pos c1,if_pos c2]
      simp only[decide_eq_true c1,decide_eq_false (show ¬ b.1≥0 by omega),decide_eq_false (show ¬ a.1≥0 by omega),cT,cF]
      by_cases e:M=N
      · simp only[decide_eq_true e,cT];rw[if_neg (by omega),if_pos e]
      · simp only[decide_eq_false e,cF]
        by_cases e2:M<N
        · rw[decide_eq_true e2,if_neg (by omega),if_neg e];rfl
        · rw[decide_eq_false e2,if_pos (by omega)];rfl
    · rw[if_pos c1,if_neg c2]
      simp only[decide_eq_true c1,decide_eq_true (show b.1≥0 by omega),cT]
  · by_cases c2:b.1<0
    · rw[if_neg c1,if_pos c2]
      simp only[decide_eq_false c1,decide_eq_true c2,decide_eq_true (show a.1≥0 by omega),cT,cF]
    · rw[if_neg c1,if_neg c2]
      simp only[decide_eq_false c1,decide_eq_false c2,decide_eq_true (show a.1≥0 by omega),cT,cF]
      by_cases e:M=N
      · simp only[decide_eq_true e,cT];rw[if_neg (by omega),if_pos e]
      · simp only[decide_eq_false e,cF]
        by_cases e2:M<N
        · rw[decide_eq_true e2,if_pos e2];rfl
        · rw[decide_eq_false e2,if_neg e2,if_neg e];rfl
theorem Cmp_ok {a b:Fq} (ha:okF a) (hb:okF b):ratio_Cmp a b=some (cmpQ (qv a) (qv b),0,()):=by
  have hs:=cmp_signs ha hb rfl rfl
  have ha':=ha
  have hb':=hb
  obtain ⟨⟨a1,a2⟩,⟨a3,a4⟩,_⟩:=ha'
  obtain ⟨⟨b1,b2⟩,⟨b3,b4⟩,_⟩:=hb'
  simp only[ratio_Cmp,ratio_Cmp_b,Valid_ok,decide_eq_true ha,decide_eq_true hb,obind_some',Bool.not_true,Bool.not_false,Bool.or_true,cT,cF,jnT]
  rw[size_ok (by omega) (by omega),obind_some',u_wrap (by omega) (by omega),u_wrap (by omega) (by omega),show b.2=((b.2.natAbs:Nat):Int) by omega,product_ok (by omega) (by omega),obind_some',size_ok (by omega) (by omega),obind_some',show a.2=((a.2.natAbs:Nat):Int) by omega,product_ok (by omega) (by omega),obind_some']
  simp only[not_dec_eq]
  rw[hs]
  clear hs
  generalize a.1.natAbs*b.2.natAbs=M
  generalize b.1.natAbs*a.2.natAbs=N
  by_cases c1:a.1<0
  · by_cases c2:b.1<0
    · rw[if_pos c1,if_pos c2]
      simp only[decide_eq_true c1,decide_eq_true c2,bne_self_eq_false,cT,cF,rLess_ok,obind_some']
      by_cases e:N<M
      · simp only[decide_eq_true e,cT];rw[if_pos e]
      · simp only[decide_eq_false e,cF];rw[if_neg e]
        by_cases e2:M<N
        · simp only[decide_eq_true e2,cT];rw[if_neg (by omega)]
        · simp only[decide_eq_false e2,cF];rw[if_pos (by omega)]
    · rw[if_pos c1,if_neg c2]
      simp only[decide_eq_true c1,decide_eq_false c2,Bool.true_bne,Bool.not_false,cT]
  · by_cases c2:b.1<0
    · rw[if_neg c1,if_pos c2]
      simp only[decide_eq_false c1,decide_eq_true c2,Bool.false_bne,cT,cF]
    · rw[if_neg c1,if_neg c2]
      simp only[decide_eq_false c1,decide_eq_false c2,bne_self_eq_false,cF,rLess_ok,obind_some']
      by_cases e:M<N
      · simp only[decide_eq_true e,cT];rw[if_pos e]
      · simp only[decide_eq_false e,cF];rw[if_neg e]
        by_cases e2:N<M
        · simp only[decide_eq_true e2,cT];rw[if_neg (by omega)]
        · simp only[decide_eq_false e2,cF];rw[if_pos (by omega)]
end Go.Proofs.Ytnbbackjofgcfaa

namespace Go.Proofs.Ytnbbackjofgcfaa
namespace Dn
def listF {α σ R:Type} (b:α→σ→(σ→Option R)→Option R) (f:σ→Option R):List α→σ→Option R
  | [],s=>f s
  | a ::l,s=>b a s (listF b f l)
theorem upF_list {α σ R:Type} (L:List α) (d:α) {b:α→σ→(σ→Option R)→Option R} {c:Nat→σ→(σ→Option R)→Option R} {f:σ→Option R} (h:∀i s k,i<L.length→c i s k=b (L.getD i d) s k) :
    ∀(k i:Nat) (s:σ),i+k=L.length→upF c f k i s=listF b f (L.drop i) s
  | 0,i,s,hi=>by
    rw[List.drop_of_length_le (by omega)]
    rfl
  | k+1,i,s,hi=>by
    rw[List.drop_eq_getElem_cons (show i<L.length by omega)]
    simp only[upF,listF]
    rw[h _ _ _ (by omega),getD_nat (by omega)]
    congr 1
    funext s'
    exact upF_list L d h k (i+1) s' (by omega)
theorem lpK_int {α β σ R:Type} (L:List α) (d:α) (hn:L.length≤1180591620717411303423) {F:(β→Option R)→β→Option R} (enc:Nat→σ→β) (b:α→σ→(σ→Option R)→Option R) (f:σ→Option R)
    (hb:∀again (i:Nat) s,i<L.length→F again (enc i s)=b (L.getD i d) s (fun s'=>again (enc (i+1) s'))) (hf:∀again s,F again (enc L.length s)=f s) (s:σ):lpK β R F (enc 0 s)=listF b f L s :=
  (lpK_up L.length hn enc (fun i s k=>b (L.getD i d) s k) f hb hf s).trans ((upF_list L d (b:=b) (fun _ _ _ _=>rfl) L.length 0 s (by omega)).trans (by rw[List.drop_zero]))
theorem listF_fold {α σ R:Type} {b:α→σ→(σ→Option R)→Option R} {f:σ→Option R} (g:σ→α→σ):∀{L:List α} {s:σ},(∀a ∈ L,∀s k,b a s k=k (g s a))→listF b f L s=f (L.foldl g s)
  | [],_,_=>rfl
  | a ::L,s,h=>by
    simp only[listF,List.foldl_cons]
    rw[h a (by simp)]
    exact listF_fold g fun a' ha=>h a' (by simp[ha])
end Dn
end Go.Proofs.Ytnbbackjofgcfaa

namespace Go.Proofs.Ytnbbackjofgcfaa
open Try Dn Dn.Sh
abbrev Rw:=List Int×Int×Int
abbrev Pg:=List Int×List Rw
abbrev rw0:Rw:=([],(0:Int),(0:Int))
def inC (n:Int):Bool:=decide (-1048576≤n∧n≤1048576)
def inR (n:Int):Bool:=decide (-1073741824≤n∧n≤1073741824)
def rowOk (n:Nat) (r:Rw):Bool:=decide (r.1.length=n)&&(decide (1≤r.2.1∧r.2.1≤3)&&(inR r.2.2&&r.1.all inC))
def sizeP (p:Pg):Bool:=decide (1≤p.1.length∧p.1.length≤12∧p.2.length≤6)
def validP (p:Pg):Bool:=sizeP p&&(p.1.all inC&&p.2.all (rowOk p.1.length))
theorem any_idx {α:Type} {p:α→Bool} {l:List α}:decide (idxI p l 0≥0)=l.any p:=by
  have:=idxI_neg (p:=p) (l:=l) (i:=0) (by omega)
  rw[Bool.eq_iff_iff,decide_eq_true_iff,List.any_eq_true]
  constructor
  · intro h1
    by_cases h2:∃a ∈ l,p a=true
    · exact h2
    · have:idxI p l 0<0:=this.2 fun a ha=>by
        cases e:p a with
        | false=>rfl
        | true=>exact (h2 ⟨a,ha,e⟩).elim
      omega
  · rintro ⟨a,ha,h3⟩
    by_cases h2:idxI p l 0<0
    · rw[this.1 h2 a ha] at h3;cases h3
    · omega
theorem any_not {α:Type} {p:α→Bool} {l:List α}:(l.any fun a=>!p a)=!l.all p:=by
  induction l with
  | nil=>rfl
  | cons a l ih=>simp[ih,Bool.not_and]
theorem all_range {α:Type} {p:α→Bool} {l:List α} (d:α):(List.range' 0 l.length).all (fun i=>p (l.getD i d))=l.all p:=by
  rw[Bool.eq_iff_iff,List.all_eq_true,List.all_eq_true]
  constructor
  · intro h a ha
    obtain ⟨i,hi,rfl⟩:=List.getElem_of_mem ha
    have:=h i (List.mem_range'.2 ⟨i,hi,by omega⟩)
    rwa [getD_nat hi] at this
  · intro h i hi
    obtain ⟨k,hk,rfl⟩:=List.mem_range'.1 hi
    rw[getD_nat (by omega)]
    exact h _ (List.getElem_mem _)
theorem contains81 {f:(Int×Unit)→Option Bool} {p:Int→Bool} {l:List Int} (hl:l.length≤1000000) (h:∀a,a ∈ l→f (a,())=some (p a)):slices_ContainsFunc_81 l f=some (l.any p):=by
  have h1:slices_IndexFunc_117 l f=some (idxI p l 0):=by
    unfold slices_IndexFunc_117 slices_IndexFunc_117_b
    exact index_loop (f:=f) (d:=(0:Int)) hl h
  simp only[slices_ContainsFunc_81,slices_ContainsFunc_81_b,h1,obind_some',any_idx]
theorem containsR {f:(Rw×Unit)→Option Bool} {p:Rw→Bool} {l:List Rw} (hl:l.length≤1000000) (h:∀a,a ∈ l→f (a,())=some (p a)):slices_ContainsFunc_41 l f=some (l.any p):=by
  have h1:slices_IndexFunc_93 l f=some (idxI p l 0):=by
    unfold slices_IndexFunc_93 slices_IndexFunc_93_b
    exact index_loop (f:=f) (d:=rw0) hl h
  simp only[slices_ContainsFunc_41,slices_ContainsFunc_41_b,h1,obind_some',any_idx]
theorem containsF {f:((Int×Int)×Unit)→Option Bool} {p:(Int×Int)→Bool} {l:List (Int×Int)} (hl:l.length≤1000000) (h:∀a,a ∈ l→f (a,())=some (p a)):slices_ContainsFunc_95 l f=some (l.any p):=by
  have h1:slices_IndexFunc_122 l f=some (idxI p l 0):=by
    unfold slices_IndexFunc_122 slices_IndexFunc_122_b
    exact index_loop (f:=f) (d:=((0:Int),(0:Int))) hl h
  simp only[slices_ContainsFunc_95,slices_ContainsFunc_95_b,h1,obind_some',any_idx]
theorem containsL {f:((List (Int×Int))×Unit)→Option Bool} {p:List (Int×Int)→Bool} {l:List (List (Int×Int))} (hl:l.length≤1000000) (h:∀a,a ∈ l→f (a,())=some (p a)):slices_ContainsFunc_43 l f=some (l.any p):=by
  have h1:slices_IndexFunc_94 l f=some (idxI p l 0):=by
    unfold slices_IndexFunc_94 slices_IndexFunc_94_b
    exact index_loop (f:=f) (d:=([]:List (Int×Int))) hl h
  simp only[slices_ContainsFunc_43,slices_ContainsFunc_43_b,h1,obind_some',any_idx]
theorem far_ok (n m:Int) (h0:0≤m) (h1:m≤1099511627776):program_Valid_1_1 n m=some (!decide (-m≤n∧n≤m)):=by
  have hw:IntKind.wrap .i64 (0 - m)= -m:=by rw[wrap_id (by omega) (by omega)];omega
  simp only[program_Valid_1_1,program_Valid_1_1_b,hw,not_or_self',or_self_not,Bool.and_self,cT]
  by_cases g1:n< -m
  · rw[decide_eq_true g1,decide_eq_false (show ¬ (-m≤n∧n≤m) by omega)];rfl
  · rw[decide_eq_false g1]
    by_cases g2:n>m
    · rw[decide_eq_true g2,decide_eq_false (show ¬ (-m≤n∧n≤m) by omega)];rfl
    · rw[decide_eq_false g2,decide_eq_true (show (-m≤n∧n≤m) by omega)];rfl
theorem rwithin_ok (n m:Int) (h0:0≤m) (h1:m≤1099511627776):ref05_within n m=some (decide (-m≤n∧n≤m)):=by
  have hw:IntKind.wrap .i64 (0 - m)= -m:=by rw[wrap_id (by omega) (by omega)];omega
  simp only[ref05_within,ref05_within_b,hw,not_or_self',Bool.and_self,cT]
  by_cases g1:n≥ -m
  · rw[decide_eq_true g1]
    by_cases g2:n≤m
    · rw[decide_eq_true g2,decide_eq_true (show (-m≤n∧n≤m) by omega)];rfl
    · rw[decide_eq_false g2,decide_eq_false (show ¬ (-m≤n∧n≤m) by omega)];rfl
  · rw[decide_eq_false g1,decide_eq_false (show ¬ (-m≤n∧n≤m) by omega)];rfl
theorem farC (n:Int):program_Valid_1_1 n 1048576=some (!inC n):=far_ok n _ (by omega) (by omega)
theorem farR (n:Int):program_Valid_1_1 n 1073741824=some (!inR n):=far_ok n _ (by omega) (by omega)
theorem rinC (n:Int):ref05_within n 1048576=some (inC n):=rwithin_ok n _ (by omega) (by omega)
theorem rinR (n:Int):ref05_within n 1073741824=some (inR n):=rwithin_ok n _ (by omega) (by omega)
theorem allC_loop {R:Type} {l:List Int} (hl:l.length≤1000000) {yes no:Option R} :
    lpK (Int×PUnit) R (fun (again:Int×PUnit→Option R) (x:Int×PUnit)=>bif decide (x.fst<(↑(List.length l):Int)) then bif inB x.fst (List.length l) then obind (ref05_within (List.getD l (Int.toNat x.fst) (0:Int)) (1048576:Int)) fun (t:Bool)=>bif !t then no else again
      (IntKind.wrap IntKind.i64 (x.fst+(1:Int)),PUnit.unit) else none else yes) ((0:Int),PUnit.unit)=bif l.all inC then yes else no:=by
  refine (lpK_up (α:=Int×PUnit) l.length (by omega) (fun i (_:Unit)=>((i:Int),PUnit.unit)) (fun i s k=>bif inC (l.getD i 0) then k s else no) (fun _=>yes) ?_ ?_ ()).trans ?_
  · intro again i _ hi
    have hw:IntKind.wrap .i64 ((i:Int)+1)=((i+1:Nat):Int):=by rw[wrap_id (by omega) (by omega)];rfl
    simp only[inB_nat,decide_eq_true hi,decide_eq_true (show (i:Int)<l.length by omega),cT,Int.toNat_natCast,hw,rinC,obind_some']
    cases inC (l.getD i 0)<;>rfl
  · intro again _
    simp only[decide_eq_false (show ¬ (l.length:Int)<l.length by omega),cF]
  · refine (upF_all (p:=fun i=>inC (l.getD i 0)) (r:=no) l.length (fun _ _ _=>rfl) l.length 0 (by omega)).trans ?_
    rw[all_range (p:=inC) (l:=l) 0]
theorem pValid_ok (p:Pg):program_Valid p=some (validP p):=by
  obtain ⟨c,rs⟩:=p
  simp only[program_Valid,program_Valid_b,program_Valid_1,program_Valid_1_b,not_or_self',or_self_not,Bool.and_self,cT,validP,sizeP]
  by_cases g1:(c.length:Int)<1
  · rw[decide_eq_true g1,decide_eq_false (show ¬ (1≤c.length∧c.length≤12∧rs.length≤6) by omega)]
    rfl
  · rw[decide_eq_false g1]
    by_cases g2:(c.length:Int)>12
    · rw[decide_eq_true g2,decide_eq_false (show ¬ (1≤c.length∧c.length≤12∧rs.length≤6) by omega)]
      rfl
    · rw[decide_eq_false g2]
      by_cases g3:(rs.length:Int)>6
      · rw[decide_eq_true g3,decide_eq_false (show ¬ (1≤c.length∧c.length≤12∧rs.length≤6) by omega)]
        rfl
      · rw[decide_eq_false g3,decide_eq_true (show (1≤c.length∧c.length≤12∧rs.length≤6) by omega)]
        have hc:∀l:List Int,l.length≤1000000→slices_ContainsFunc_81 l (fun x=>program_Valid_1_1 x.fst 1048576)=some (!l.all inC):=fun l hl=>by
          rw[←any_not]
          exact contains81 hl fun a _=>farC a
        simp only[cF,cT,Bool.not_false,obind_some',hc c (by omega),Bool.true_and]
        cases hcc:c.all inC with
        | false=>rfl
        | true =>
          simp only[Bool.not_true,cF,Bool.true_and]
          refine (lpK_up (α:=Int×PUnit) rs.length (by omega) (fun i (_:Unit)=>((i:Int),PUnit.unit)) (fun i s k=>bif rowOk c.length (rs.getD i rw0) then k s else some false) (fun _=>some true) ?_ ?_ ()).trans ?_
          · intro again i _ hi
            have hw:IntKind.wrap .i64 ((i:Int)+1)=((i+1:Nat):Int):=by rw[wrap_id (by omega) (by omega)];rfl
            simp only[inB_nat,decide_eq_true hi,decide_eq_true (show (i:Int)<rs.length by omega),cT,Int.toNat_natCast,hw]
            obtain ⟨a,k,b,e⟩:∃a k b,List.getD rs i rw0=(a,k,b):=⟨_,_,_,rfl⟩
            simp only[e,rowOk,farR,decide_eq_true (show (i:Int)≥0 by omega)]
            by_cases q1:a.length=c.length
            · have hca:=hc a (by omega)
              simp only[decide_eq_true (show (a.length:Int)=c.length by omega),decide_eq_true q1,Bool.not_true,Bool.not_false,cT,cF,obind_some',hca,Bool.true_and]
              by_cases q2:k<1
              · simp only[decide_eq_true q2,decide_eq_false (show ¬ (1≤k∧k≤3) by omega)]
                cases a.all inC<;>simp[obind_some']
              · by_cases q3:k>3
                · simp only[decide_eq_false q2,decide_eq_true q3,decide_eq_false (show ¬ (1≤k∧k≤3) by omega)]
                  cases a.all inC<;>simp[obind_some']
                · simp only[decide_eq_false q2,decide_eq_false q3,decide_eq_true (show (1≤k∧k≤3) by omega)]
                  cases h1:a.all inC<;>cases h2:inR b<;>simp[obind_some',h2]
            · simp only[decide_eq_false (show ¬ (a.length:Int)=c.length by omega),decide_eq_false q1]
              simp[obind_some']
          · intro again _
            simp
          · refine (upF_all (p:=fun i=>rowOk c.length (rs.getD i rw0)) (r:=some false) rs.length (fun _ _ _=>rfl) rs.length 0 (by omega)).trans ?_
            rw[all_range (p:=rowOk c.length) (l:=rs) rw0]
            cases rs.all (rowOk c.length)<;>rfl
theorem rValid_ok (p:Pg):ref05_Valid p=some (validP p):=by
  obtain ⟨c,rs⟩:=p
  simp only[ref05_Valid,ref05_Valid_b,not_or_self',or_self_not,cT,validP,sizeP]
  by_cases g1:(c.length:Int)<1
  · rw[decide_eq_true g1,decide_eq_false (show ¬ (1≤c.length∧c.length≤12∧rs.length≤6) by omega)]
    rfl
  · rw[decide_eq_false g1]
    by_cases g2:(c.length:Int)>12
    · rw[decide_eq_true g2,decide_eq_false (show ¬ (1≤c.length∧c.length≤12∧rs.length≤6) by omega)]
      rfl
    · rw[decide_eq_false g2]
      by_cases g3:(rs.length:Int)>6
      · rw[decide_eq_true g3,decide_eq_false (show ¬ (1≤c.length∧c.length≤12∧rs.length≤6) by omega)]
        rfl
      · rw[decide_eq_false g3,decide_eq_true (show (1≤c.length∧c.length≤12∧rs.length≤6) by omega)]
        simp only[cF,Bool.true_and]
        rw[allC_loop (l:=c) (by omega)]
        cases hcc:c.all inC with
        | false=>rfl
        | true =>
          simp only[cT,Bool.true_and]
          refine (lpK_up (α:=Int×PUnit) rs.length (by omega) (fun i (_:Unit)=>((i:Int),PUnit.unit)) (fun i s k=>bif rowOk c.length (rs.getD i rw0) then k s else some false) (fun _=>some true) ?_ ?_ ()).trans ?_
          · intro again i _ hi
            have hw:IntKind.wrap .i64 ((i:Int)+1)=((i+1:Nat):Int):=by rw[wrap_id (by omega) (by omega)];rfl
            simp only[inB_nat,decide_eq_true hi,decide_eq_true (show (i:Int)<rs.length by omega),cT,Int.toNat_natCast,hw]
            obtain ⟨a,k,b,e⟩:∃a k b,List.getD rs i rw0=(a,k,b):=⟨_,_,_,rfl⟩
            simp only[e,rowOk,rinR]
            by_cases q1:a.length=c.length
            · have hca:=fun (y n:Option Bool)=>allC_loop (l:=a) (by omega) (yes:=y) (no:=n)
              simp only[decide_eq_true (show (a.length:Int)=c.length by omega),decide_eq_true q1,Bool.not_true,cF,Bool.true_and]
              rw[hca]
              by_cases q2:k<1
              · simp only[decide_eq_true q2,decide_eq_false (show ¬ (1≤k∧k≤3) by omega)]
                simp[obind_some']
              · by_cases q3:k>3
                · simp only[decide_eq_false q2,decide_eq_true q3,decide_eq_false (show ¬ (1≤k∧k≤3) by omega)]
                  simp[obind_some']
                · simp only[decide_eq_false q2,decide_eq_false q3,decide_eq_true (show (1≤k∧k≤3) by omega)]
                  cases h1:a.all inC<;>cases h2:inR b<;>simp[obind_some']
            · simp only[decide_eq_false (show ¬ (a.length:Int)=c.length by omega),decide_eq_false q1]
              simp[obind_some']
          · intro again _
            simp
          · refine (upF_all (p:=fun i=>rowOk c.length (rs.getD i rw0)) (r:=some false) rs.length (fun _ _ _=>rfl) rs.length 0 (by omega)).trans ?_
            rw[all_range (p:=rowOk c.length) (l:=rs) rw0]
            cases rs.all (rowOk c.length)<;>rfl
end Go.Proofs.Ytnbbackjofgcfaa

namespace Go.Proofs.Ytnbbackjofgcfaa
open Try Dn Dn.Sh
noncomputable def sumR:List Int→List Fq→Rat→Option Rat
  | n ::l,a ::x,s=>if fitsQ ((n:Rat)*qv a)∧fitsQ (s+(n:Rat)*qv a) then sumR l x (s+(n:Rat)*qv a) else none
  | _,_,s=>some s
noncomputable def endR {R:Type} (o:Option Rat) (bad:Option R) (good:Rat→Option R):Option R:=match o with
  | some q=>good q
  | none=>bad
theorem sum_up {σ R:Type} {l:List Int} {x:List Fq} (hl:l.length≤x.length) {b:Nat→σ→(σ→Option R)→Option R} {f:σ→Option R} {cur:σ→Rat} {bad:Option R} {good:Rat→Option R}
    (nx:∀i s,fitsQ (cur s+((l.getD i 0:Int):Rat)*qv (x.getD i (0,0)))→σ) (hnx:∀i s h,cur (nx i s h)=cur s+((l.getD i 0:Int):Rat)*qv (x.getD i (0,0)))
    (hb:∀i s k,i<l.length→b i s k=if h:fitsQ (((l.getD i 0:Int):Rat)*qv (x.getD i (0,0)))∧fitsQ (cur s+((l.getD i 0:Int):Rat)*qv (x.getD i (0,0))) then k (nx i s h.2) else bad)
    (hf:∀s,f s=good (cur s)):∀(k i:Nat) (s:σ),i+k=l.length→upF b f k i s=endR (sumR (l.drop i) (x.drop i) (cur s)) bad good
  | 0,i,s,h=>by
    rw[List.drop_eq_nil_of_le (by omega)]
    exact hf s
  | k+1,i,s,h=>by
    have h1:i<l.length:=by omega
    have h2:i<x.length:=by omega
    have e1:l.getD i 0=l[i]:=getD_nat h1
    have e2:x.getD i (0,0)=x[i]:=getD_nat h2
    simp only[upF]
    rw[hb i s _ h1,List.drop_eq_getElem_cons h1,List.drop_eq_getElem_cons h2,sumR,←e1,←e2]
    split
    · rw[sum_up hl nx hnx hb hf k (i+1) _ (by omega),hnx]
    · rfl
theorem obN {T R:Type} {t:T} {k:T→Option R}:obind (some t) k=k t:=id rfl
theorem rOf_ok (n:Int):ref02_Of n=some (n,1):=id rfl
theorem of_ok {l:List Int} {x:List Fq} {e:Int} (hl:l.length≤x.length) (h0:l.length≤1000000) (hc:∀n ∈ l,-1152921504606846976≤n∧n≤1152921504606846976) (hx:∀a ∈ x,okF a) :
    program_sums_of e l x=endR (sumR l x 0) (some (5,(0,1))) fun q=>some (e,prQ q):=by
  simp only[program_sums_of,program_sums_of_b]
  refine (lpK_up (α:=Int×Int×Fq×Fq×PUnit) l.length (by omega) (fun i (s:Fq×{q:Rat // fitsQ q})=>((i:Int),e,s.1,prQ s.2.1,PUnit.unit))
    (fun i s k=>if h:fitsQ (((l.getD i 0:Int):Rat)*qv (x.getD i (0,0)))∧fitsQ (s.2.1+((l.getD i 0:Int):Rat)*qv (x.getD i (0,0))) then k (s.1,⟨_,h.2⟩) else some (5,(0,1))) (fun s=>some (e,prQ s.2.1)) ?_ ?_ ((0,0),⟨0,by decide⟩)).trans ?_
  · intro again i s hi
    have hw:IntKind.wrap .i64 ((i:Int)+1)=((i+1:Nat):Int):=by rw[wrap_id (by omega) (by omega)];rfl
    obtain ⟨w,q,hq⟩:=s
    have hn:l.getD i 0 ∈ l:=by rw[getD_nat hi];exact List.getElem_mem _
    have ha:okF (x.getD i (0,0)):=by rw[getD_nat (show i<x.length by omega)];exact hx _ (List.getElem_mem _)
    have hm:=Mul_ok (okF_int (hc _ hn).1 (hc _ hn).2) ha
    rw[qv_int] at hm
    simp only[inB_nat,decide_eq_true hi,decide_eq_true (show i<x.length by omega),decide_eq_true (show (i:Int)<l.length by omega),cT,Int.toNat_natCast,hw,jnK_eq',hm,obind_some']
    generalize l.getD i 0=n at *
    generalize x.getD i (0,0)=a at *
    rcases fitQ_cases ((n:Rat)*qv a) with ⟨f1,e1⟩ | ⟨f1,e1⟩
    · have hA:=Add_ok (okF_prQ hq) (okF_prQ f1)
      rw[qv_prQ,qv_prQ] at hA
      simp only[e1,decide_true,cT,hA,obind_some']
      rcases fitQ_cases (q+(n:Rat)*qv a) with ⟨f2,e2⟩ | ⟨f2,e2⟩
      · rw[dif_pos ⟨f1,f2⟩]
        simp only[e2,decide_true,Bool.not_true,cF]
      · rw[dif_neg fun h=>f2 h.2]
        simp only[e2]
        rfl
    · rw[dif_neg fun h=>f1 h.1]
      simp only[e1]
      rfl
  · intro again s
    simp only[decide_eq_false (show ¬ (l.length:Int)<l.length by omega),cF]
  · exact sum_up (cur:=fun s:Fq×{q:Rat // fitsQ q}=>s.2.1) (bad:=some (5,(0,1))) (good:=fun q=>some (e,prQ q)) hl (fun i s h=>(s.1,⟨_,h⟩)) (fun _ _ _=>rfl) (fun _ _ _ _=>rfl) (fun _=>rfl) l.length 0 ((0,0),⟨0,by decide⟩) (by omega)
theorem rsum_ok {l:List Int} {x:List Fq} (hl:l.length≤x.length) (h0:l.length≤1000000) (hc:∀n ∈ l,-1152921504606846976≤n∧n≤1152921504606846976) (hx:∀a ∈ x,okF a) :
    ref05_Sum l x=endR (sumR l x 0) (some ((0,0),5,())) fun q=>some (prQ q,0,()):=by
  unfold ref05_Sum ref05_Sum_b
  rw[rOf_ok,obN]
  refine (lpK_up (α:=Int×Fq×Fq×PUnit) l.length (by omega) (fun i (s:{q:Rat // fitsQ q})=>((i:Int),(0,0),prQ s.1,PUnit.unit))
    (fun i s k=>if h:fitsQ (((l.getD i 0:Int):Rat)*qv (x.getD i (0,0)))∧fitsQ (s.1+((l.getD i 0:Int):Rat)*qv (x.getD i (0,0))) then k ⟨_,h.2⟩ else some ((0,0),5,())) (fun s=>some (prQ s.1,0,())) ?_ ?_ ⟨0,by decide⟩).trans ?_
  · intro again i s hi
    have hw:IntKind.wrap .i64 ((i:Int)+1)=((i+1:Nat):Int):=by rw[wrap_id (by omega) (by omega)];rfl
    obtain ⟨q,hq⟩:=s
    have hn:l.getD i 0 ∈ l:=by rw[getD_nat hi];exact List.getElem_mem _
    have ha:okF (x.getD i (0,0)):=by rw[getD_nat (show i<x.length by omega)];exact hx _ (List.getElem_mem _)
    have hm:=RTimes_ok (okF_int (hc _ hn).1 (hc _ hn).2) ha
    rw[qv_int] at hm
    simp only[inB_nat,decide_eq_true hi,decide_eq_true (show i<x.length by omega),decide_eq_true (show (i:Int)<l.length by omega),cT,Int.toNat_natCast,hw,rOf_ok,hm,obind_some']
    generalize l.getD i 0=n at *
    generalize x.getD i (0,0)=a at *
    rcases fitQ_cases ((n:Rat)*qv a) with ⟨f1,e1⟩ | ⟨f1,e1⟩
    · have hA:=RAdd_ok (okF_prQ hq) (okF_prQ f1)
      rw[qv_prQ,qv_prQ] at hA
      simp only[e1,decide_true,Bool.not_true,cF,hA,obind_some']
      rcases fitQ_cases (q+(n:Rat)*qv a) with ⟨f2,e2⟩ | ⟨f2,e2⟩
      · rw[dif_pos ⟨f1,f2⟩]
        simp only[e2,decide_true,Bool.not_true,cF]
      · rw[dif_neg fun h=>f2 h.2]
        simp only[e2]
        rfl
    · rw[dif_neg fun h=>f1 h.1]
      simp only[e1]
      rfl
  · intro again s
    simp only[decide_eq_false (show ¬ (l.length:Int)<l.length by omega),cF]
  · exact sum_up (cur:=fun s:{q:Rat // fitsQ q}=>s.1) (bad:=some ((0,0),5,())) (good:=fun q=>some (prQ q,0,())) hl (fun i s h=>⟨_,h⟩) (fun _ _ _=>rfl) (fun _ _ _ _=>rfl) (fun _=>rfl) l.length 0 ⟨0,by decide⟩ (by omega)
theorem sumR_fits:∀{l:List Int} {x:List Fq} {s q:Rat},fitsQ s→sumR l x s=some q→fitsQ q
  | [],_,s,q,hs,h=>by
    unfold sumR at h
    injection h with h
    rw[←h];exact hs
  | _ ::_,[],s,q,hs,h=>by
    unfold sumR at h
    injection h with h
    rw[←h];exact hs
  | n ::l,a ::x,s,q,hs,h=>by
    unfold sumR at h
    split at h
    · rename_i hh
      exact sumR_fits hh.2 h
    · cases h
end Go.Proofs.Ytnbbackjofgcfaa

namespace Go.Proofs.Ytnbbackjofgcfaa
open Try Dn Dn.Sh
theorem inC_big {n:Int} (h:inC n=true): -1152921504606846976≤n∧n≤1152921504606846976:=by
  have:=of_decide_eq_true h
  omega
theorem inR_big {n:Int} (h:inR n=true): -1152921504606846976≤n∧n≤1152921504606846976:=by
  have:=of_decide_eq_true h
  omega
structure ValidP (p:Pg):Prop where
  cost:1≤p.1.length∧p.1.length≤12
  rows:p.2.length≤6
  cs:∀n ∈ p.1,inC n=true
  len:∀r ∈ p.2,r.1.length=p.1.length
  kind:∀r ∈ p.2,1≤r.2.1∧r.2.1≤3
  right:∀r ∈ p.2,inR r.2.2=true
  coefs:∀r ∈ p.2,∀n ∈ r.1,inC n=true
theorem validP_iff {p:Pg}:validP p=true↔ValidP p:=by
  unfold validP sizeP
  rw[Bool.and_eq_true,Bool.and_eq_true,decide_eq_true_iff,List.all_eq_true,List.all_eq_true]
  constructor
  · rintro ⟨⟨h1,h2,h3⟩,h4,h5⟩
    have h6:∀r ∈ p.2,r.1.length=p.1.length∧(1≤r.2.1∧r.2.1≤3)∧inR r.2.2=true∧∀n ∈ r.1,inC n=true:=fun r hr=>by
      have:=h5 r hr
      unfold rowOk at this
      rw[Bool.and_eq_true,Bool.and_eq_true,Bool.and_eq_true,decide_eq_true_iff,decide_eq_true_iff,List.all_eq_true] at this
      exact this
    exact ⟨⟨h1,h2⟩,h3,h4,fun r hr=>(h6 r hr).1,fun r hr=>(h6 r hr).2.1,fun r hr=>(h6 r hr).2.2.1,fun r hr=>(h6 r hr).2.2.2⟩
  · rintro ⟨h1,h2,h3,h4,h5,h6,h7⟩
    refine ⟨⟨h1.1,h1.2,h2⟩,h3,fun r hr=>?_⟩
    unfold rowOk
    rw[Bool.and_eq_true,Bool.and_eq_true,Bool.and_eq_true,decide_eq_true_iff,decide_eq_true_iff,List.all_eq_true]
    exact ⟨h4 r hr,h5 r hr,h6 r hr,h7 r hr⟩
theorem pcmp_ok {a:Fq} {n:Int} (ha:okF a) (hn: -1152921504606846976≤n∧n≤1152921504606846976):program_cmp a n=some (cmpQ (qv a) (n:Rat)):=by
  have h:=Cmp_ok ha (okF_int hn.1 hn.2)
  rw[qv_int] at h
  simp only[program_cmp,program_cmp_b,h,obind_some']
theorem sumR_ok {l:List Int} {x:List Fq}:fitsQ ((sumR l x 0).getD 0):=by
  cases h:sumR l x 0 with
  | none=>decide
  | some q=>exact sumR_fits (by decide) h
theorem of_ok' {l:List Int} {x:List Fq} {e:Int} (hl:l.length≤x.length) (h0:l.length≤1000000) (hc:∀n ∈ l,inC n=true) (hx:∀a ∈ x,okF a) :
    program_sums_of e l x=some (bif (sumR l x 0).isSome then e else 5,prQ ((sumR l x 0).getD 0)):=by
  rw[of_ok hl h0 (fun n hn=>inC_big (hc n hn)) hx]
  cases sumR l x 0<;>rfl
def holdK (k c:Int):Bool:=(decide (k≠1)||decide (c≤0))&&((decide (k≠2)||decide (c≥0))&&(decide (k≠3)||decide (c=0)))
noncomputable def holdR (x:List Fq) (r:Rw):Bool:=holdK r.2.1 (cmpQ ((sumR r.1 x 0).getD 0) (r.2.2:Rat))
noncomputable def feasB (p:Pg) (x:List Fq):Bool:=x.all (fun a=>decide (0≤a.1))&&p.2.all (holdR x)
noncomputable def fitsX (p:Pg) (x:List Fq):Bool:=p.2.all fun r=>(sumR r.1 x 0).isSome
theorem sfold {x:List Fq}:∀{rs:List Rw} {b:Bool} {e:Int},rs.foldl (fun (s:Bool×Int) (r:Rw)=>(s.1&&holdR x r,bif (sumR r.1 x 0).isSome then s.2 else 5)) (b,e)=(b&&rs.all (holdR x),bif rs.all (fun r=>(sumR r.1 x 0).isSome) then e else 5)
  | [],b,e=>by simp
  | r ::rs,b,e=>by
    rw[List.foldl_cons,sfold]
    simp only[List.all_cons,Bool.and_assoc]
    congr 1
    cases (sumR r.1 x 0).isSome<;>cases rs.all (fun r=>(sumR r.1 x 0).isSome)<;>rfl
theorem sfeas_ok {e:Int} {p:Pg} {x:List Fq} (hv:ValidP p) (hx:∀a ∈ x,okF a) (hl:x.length=p.1.length):program_sums_feasible e p x=some (bif fitsX p x then e else 5,feasB p x):=by
  obtain ⟨c,rs⟩:=p
  unfold program_sums_feasible program_sums_feasible_b
  have hc:slices_ContainsFunc_95 x (fun x=>program_sums_feasible_1 x.fst)=some (!x.all fun a=>decide (0≤a.1)):=by
    rw[←any_not]
    refine containsF (p:=fun a:Fq=>!decide (0≤a.1)) (by have:=hv.cost.2;simp only at this hl;omega) fun a _=>?_
    simp only[program_sums_feasible_1,program_sums_feasible_1_b]
    congr 1
    rw[Bool.eq_iff_iff]
    simp
  rw[hc,obN,Bool.not_not]
  have h6:=hv.rows
  simp only at h6
  refine (lpK_int (α:=Rw) (σ:=Bool×Int) rs rw0 (by omega) (fun i s=>(s.1,(i:Int),s.2,PUnit.unit)) (fun r s k=>k (s.1&&holdR x r,bif (sumR r.1 x 0).isSome then s.2 else 5)) (fun s=>some (s.2,s.1)) ?_ ?_ (_,e)).trans ?_
  · intro again i s hi
    have hw:IntKind.wrap .i64 ((i:Int)+1)=((i+1:Nat):Int):=by rw[wrap_id (by omega) (by omega)];rfl
    have hr:rs.getD i rw0 ∈ rs:=by rw[getD_nat hi];exact List.getElem_mem _
    obtain ⟨is,e0⟩:=s
    have h1:=of_ok' (l:=(rs.getD i rw0).1) (x:=x) (e:=e0) (by rw[hv.len _ hr,hl];exact Nat.le_refl _) (by rw[hv.len _ hr];have:=hv.cost.2;omega) (hv.coefs _ hr) hx
    have h2:=pcmp_ok (okF_prQ (sumR_ok (l:=(rs.getD i rw0).1) (x:=x))) (inR_big (hv.right _ hr))
    rw[qv_prQ] at h2
    simp only[inB_nat,decide_eq_true hi,decide_eq_true (show (i:Int)<rs.length by omega),cT,Int.toNat_natCast,hw,h1,h2,obind_some',holdR]
    obtain ⟨cm,hcm⟩:∃cm,cmpQ ((sumR (rs.getD i rw0).1 x 0).getD 0) ((rs.getD i rw0).2.2:Rat)=cm:=⟨_,rfl⟩
    obtain ⟨kd,hkd⟩:∃kd,(rs.getD i rw0).2.1=kd:=⟨_,rfl⟩
    simp only[hcm,hkd,holdK]
    by_cases k1:kd=1<;>by_cases k2:kd=2<;>by_cases k3:kd=3<;>by_cases c1:cm≤0<;>by_cases c2:cm≥0<;>by_cases c3:cm=0<;>cases is<;>first | (exfalso;omega) | simp[k1,k2,k3,c1,c2,c3]
  · intro again s
    simp
  · rw[listF_fold (fun (s:Bool×Int) (r:Rw)=>(s.1&&holdR x r,bif (sumR r.1 x 0).isSome then s.2 else 5)) (fun _ _ _ _=>rfl),sfold]
    rfl
end Go.Proofs.Ytnbbackjofgcfaa

namespace Go.Proofs.Ytnbbackjofgcfaa
open Try Dn Dn.Sh
theorem awakeP_ok:law05_awake=some true:=by kernel_rfl
def fewB (p:Pg):Bool:=decide (p.1.length≤14∧p.2.length≤8)&&p.2.all fun r=>decide (r.1.length≤14)
theorem fewP_ok (p:Pg):law05_few p=some (fewB p):=by
  obtain ⟨c,rs⟩:=p
  simp only[law05_few,law05_few_b,not_or_self',cT,fewB]
  by_cases h1:(c.length:Int)≤14
  · by_cases h2:(rs.length:Int)≤8
    · have hc:slices_ContainsFunc_41 rs (fun x=>law05_few_1 x.fst)=some (!rs.all fun r=>decide (r.1.length≤14)):=by
        rw[←any_not]
        refine containsR (p:=fun r:Rw=>!decide (r.1.length≤14)) (by omega) fun a _=>?_
        simp only[law05_few_1,law05_few_1_b]
        congr 1
        rw[Bool.eq_iff_iff]
        simp
        omega
      rw[decide_eq_true h1,decide_eq_true h2,decide_eq_true (show c.length≤14∧rs.length≤8 by omega)]
      simp only[cT,hc,obind_some',Bool.not_not,Bool.true_and]
    · rw[decide_eq_true h1,decide_eq_false h2,decide_eq_false (show ¬ (c.length≤14∧rs.length≤8) by omega)]
      rfl
  · rw[decide_eq_false h1,decide_eq_false (show ¬ (c.length≤14∧rs.length≤8) by omega)]
    rfl
theorem shortP_ok (l:List (List Fq)) (h:l.length≤1000000):law05_short l=some (l.all fun x=>decide (x.length≤20)):=by
  have hc:slices_ContainsFunc_43 l (fun x=>law05_short_1 x.fst)=some (!l.all fun x=>decide (x.length≤20)):=by
    rw[←any_not]
    refine containsL (p:=fun x:List Fq=>!decide (x.length≤20)) h fun a _=>?_
    simp only[law05_short_1,law05_short_1_b]
    congr 1
    rw[Bool.eq_iff_iff]
    simp
    omega
  simp only[law05_short,law05_short_b,hc,obind_some',Bool.not_not]
noncomputable def okL (x:List Fq):Bool:=x.all fun a=>decide (okF a)
theorem right_ok {x:List Fq} (h:x.length≤1000000):program_right x=some (okL x):=by
  have hc:slices_ContainsFunc_95 x (fun x=>program_right_1 x.fst)=some (!okL x):=by
    unfold okL
    rw[←any_not]
    refine containsF (p:=fun a:Fq=>!decide (okF a)) h fun a _=>?_
    simp only[program_right_1,program_right_1_b,Valid_ok,obind_some']
  simp only[program_right,program_right_b,hc,obind_some',Bool.not_not]
theorem okL_iff {x:List Fq}:okL x=true↔∀a ∈ x,okF a:=by
  unfold okL
  rw[List.all_eq_true]
  exact ⟨fun h a ha=>of_decide_eq_true (h a ha),fun h a ha=>decide_eq_true (h a ha)⟩
theorem rsign_ok {a:Fq} (ha:okF a):ref05_sign a=some (cmpQ (qv a) 0):=by
  have h:=RCmp_ok ha (okF_int (n:=0) (by omega) (by omega))
  rw[qv_int] at h
  simp only[ref05_sign,ref05_sign_b,rOf_ok,obind_some',h]
  rfl
theorem cmp_nonneg {q:Rat}:decide (cmpQ q 0≥0)=decide (0≤q):=by
  unfold cmpQ
  rw[Bool.eq_iff_iff,decide_eq_true_iff,decide_eq_true_iff,←Rat.not_lt]
  split
  · rename_i h;simp[h]
  · rename_i h;split<;>simp[h]
theorem xfold {x:List Fq}:∀{b:Bool},x.foldl (fun (s:Bool) (a:Fq)=>s&&decide (0≤a.1)) b=(b&&x.all fun a=>decide (0≤a.1)):=by
  induction x with
  | nil=>intro b;simp
  | cons a l ih=>intro b;rw[List.foldl_cons,ih,List.all_cons,Bool.and_assoc]
theorem rfold {x:List Fq}:∀{rs:List Rw} {b:Bool},listF (R:=Bool×Int×Unit) (fun (r:Rw) (s:Bool) k=>bif (sumR r.1 x 0).isSome then k (s&&holdR x r) else some (false,5,())) (fun s=>some (s,0,())) rs b =
    bif rs.all (fun r=>(sumR r.1 x 0).isSome) then some (b&&rs.all (holdR x),0,()) else some (false,5,())
  | [],b=>by simp[listF]
  | r ::rs,b=>by
    simp only[listF,List.all_cons]
    cases (sumR r.1 x 0).isSome with
    | false=>rfl
    | true =>
      rw[cond_true,rfold,Bool.true_and,Bool.and_assoc]
theorem rfeas_ok {p:Pg} {x:List Fq} (hv:ValidP p) (hx:∀a ∈ x,okF a) (hl:x.length=p.1.length):ref05_Feasible p x=bif fitsX p x then some (feasB p x,0,()) else some (false,5,()):=by
  obtain ⟨c,rs⟩:=p
  unfold ref05_Feasible ref05_Feasible_b
  have h6:=hv.rows
  have h7:=hv.cost.2
  simp only at h6 h7 hl
  refine (lpK_int (α:=Fq) (σ:=Bool) x (0,0) (by omega) (fun i s=>(s,(i:Int),PUnit.unit)) (fun a s k=>k (s&&decide (0≤a.1))) (fun b=>bif rs.all (fun r=>(sumR r.1 x 0).isSome) then some (b&&rs.all (holdR x),0,()) else some (false,5,())) ?_ ?_ true).trans ?_
  · intro again i s hi
    have hw:IntKind.wrap .i64 ((i:Int)+1)=((i+1:Nat):Int):=by rw[wrap_id (by omega) (by omega)];rfl
    have ha:okF (x.getD i (0,0)):=by rw[getD_nat hi];exact hx _ (List.getElem_mem _)
    simp only[inB_nat,decide_eq_true hi,decide_eq_true (show (i:Int)<x.length by omega),cT,Int.toNat_natCast,hw,rsign_ok ha,Bool.or_true,not_or_self',Bool.and_self]
    cases s with
    | false=>rfl
    | true=>simp only[cT,obind_some',cmp_nonneg,Bool.true_and,decide_eq_decide.2 (okF_nonneg ha)]
  · intro again s
    simp only[decide_eq_false (show ¬ (x.length:Int)<x.length by omega),cF]
    refine (lpK_int (α:=Rw) (σ:=Bool) rs rw0 (by omega) (fun i s=>(s,(i:Int),PUnit.unit)) (fun r s k=>bif (sumR r.1 x 0).isSome then k (s&&holdR x r) else some (false,5,())) (fun s=>some (s,0,())) ?_ ?_ s).trans rfold
    · intro again i s hi
      have hw:IntKind.wrap .i64 ((i:Int)+1)=((i+1:Nat):Int):=by rw[wrap_id (by omega) (by omega)];rfl
      have hr:rs.getD i rw0 ∈ rs:=by rw[getD_nat hi];exact List.getElem_mem _
      have h1:=rsum_ok (l:=(rs.getD i rw0).1) (x:=x) (by rw[hv.len _ hr,hl];exact Nat.le_refl _) (by rw[hv.len _ hr];simp only;omega) (fun n hn=>inC_big (hv.coefs _ hr n hn)) hx
      have h2:=RCmp_ok (okF_prQ (sumR_ok (l:=(rs.getD i rw0).1) (x:=x))) (okF_int (inR_big (hv.right _ hr)).1 (inR_big (hv.right _ hr)).2)
      rw[qv_prQ,qv_int] at h2
      have hk:=hv.kind _ hr
      simp only[inB_nat,decide_eq_true hi,decide_eq_true (show (i:Int)<rs.length by omega),cT,Int.toNat_natCast,hw,h1,rOf_ok,holdR]
      cases hs:sumR (rs.getD i rw0).1 x 0 with
      | none=>rfl
      | some q =>
        rw[hs] at h2
        simp only[Option.getD_some] at h2
        simp only[endR,obind_some',h2,Option.getD_some,Option.isSome_some,cT]
        obtain ⟨cm,hcm⟩:∃cm,cmpQ q ((rs.getD i rw0).2.2:Rat)=cm:=⟨_,rfl⟩
        obtain ⟨kd,hkd⟩:∃kd,(rs.getD i rw0).2.1=kd:=⟨_,rfl⟩
        rw[hkd] at hk
        simp only[hcm,hkd,holdK]
        by_cases k1:kd=1<;>by_cases k2:kd=2<;>by_cases k3:kd=3<;>by_cases c1:cm≤0<;>by_cases c2:cm≥0<;>by_cases c3:cm=0<;>by_cases c4:0<cm<;>by_cases c5:cm<0<;>cases s<;>first | (exfalso;omega) | simp[k1,k2,k3,c1,c2,c3,c4,c5]
    · intro again s
      simp
  · rw[listF_fold (fun (s:Bool) (a:Fq)=>s&&decide (0≤a.1)) (fun _ _ _ _=>rfl),xfold]
    rfl
end Go.Proofs.Ytnbbackjofgcfaa

namespace Go.Proofs.Ytnbbackjofgcfaa
open Try Dn Dn.Sh
end Go.Proofs.Ytnbbackjofgcfaa

namespace Go.Proofs.Ytnbbackjofgcfaa
open Try Dn Dn.Sh
def colP (p:Pg) (j:Nat):List Int:=p.2.map fun r=>r.1.getD j 0
def rightP (p:Pg):List Int:=p.2.map fun r=>r.2.2
theorem map_loop {g:Rw→Int} {rs:List Rw} {F:(List Int×Int×PUnit→Option (List Int))→List Int×Int×PUnit→Option (List Int)} (h:rs.length≤1000000)
    (hF:∀again (i:Nat),i<rs.length→F again ((rs.take i).map g,(i:Int),PUnit.unit)=again ((rs.take i).map g++[g (rs.getD i rw0)],((i+1:Nat):Int),PUnit.unit))
    (hf:∀again,F again (rs.map g,(rs.length:Int),PUnit.unit)=some (rs.map g)):lpK (List Int×Int×PUnit) (List Int) F ([],(0:Int),PUnit.unit)=some (rs.map g):=by
  refine (lpK_up (α:=List Int×Int×PUnit) (σ:=Unit) rs.length (by omega) (fun i _=>((rs.take i).map g,(i:Int),PUnit.unit)) (fun i s k=>bif true then k s else none) (fun _=>some (rs.map g)) ?_ ?_ ()).trans ?_
  · intro again i _ hi
    rw[hF again i hi,cT]
    congr 2
    rw[getD_nat hi,List.take_succ_eq_append_getElem hi,List.map_append]
    rfl
  · intro again _
    rw[List.take_length]
    exact hf again
  · refine (upF_all (p:=fun _=>true) (r:=none) rs.length (fun _ _ _=>rfl) rs.length 0 (by omega)).trans ?_
    rw[show ((List.range' 0 rs.length).all fun _=>true)=true from List.all_eq_true.2 fun _ _=>rfl]
    rfl
theorem take_map_len {g:Rw→Int} {rs:List Rw} {i:Nat}:((rs.take i).map g).length≤rs.length:=by
  rw[List.length_map,List.length_take];omega
theorem column_ok {p:Pg} {j:Nat} (hv:ValidP p) (hj:j<p.1.length):program_column p (j:Int)=some (colP p j):=by
  obtain ⟨c,rs⟩:=p
  unfold program_column program_column_b colP
  have h6:=hv.rows
  simp only at h6 hj
  refine map_loop (rs:=rs) (g:=fun r=>r.1.getD j 0) (by omega) (fun again i hi=>?_) (fun again=>by simp)
  have hw:IntKind.wrap .i64 ((i:Int)+1)=((i+1:Nat):Int):=by rw[wrap_id (by omega) (by omega)];rfl
  have hr:rs.getD i rw0 ∈ rs:=by rw[getD_nat hi];exact List.getElem_mem _
  have hL:=hv.len _ hr
  have hT:=take_map_len (g:=fun r=>r.1.getD j 0) (rs:=rs) (i:=i)
  simp only at hL
  simp only[inB_nat,decide_eq_true hi,decide_eq_true (show (i:Int)<rs.length by omega),cT,Int.toNat_natCast,hw,decide_eq_true (show j<(rs.getD i rw0).1.length by omega),fitB_of (show (((rs.take i).map fun r=>r.1.getD j 0).length+1)*8≤140737488355328 by omega)]
theorem rcolumn_ok {p:Pg} {j:Nat} (hv:ValidP p) (hj:j<p.1.length):ref05_Column p (j:Int)=some (colP p j):=column_ok hv hj
theorem rights_ok {p:Pg} (hv:ValidP p):program_rights p=some (rightP p):=by
  obtain ⟨c,rs⟩:=p
  unfold program_rights program_rights_b rightP
  have h6:=hv.rows
  simp only at h6
  refine map_loop (rs:=rs) (g:=fun r=>r.2.2) (by omega) (fun again i hi=>?_) (fun again=>by simp)
  have hw:IntKind.wrap .i64 ((i:Int)+1)=((i+1:Nat):Int):=by rw[wrap_id (by omega) (by omega)];rfl
  have hT:=take_map_len (g:=fun r=>r.2.2) (rs:=rs) (i:=i)
  simp only[inB_nat,decide_eq_true hi,decide_eq_true (show (i:Int)<rs.length by omega),cT,Int.toNat_natCast,hw,fitB_of (show (((rs.take i).map fun r=>r.2.2).length+1)*8≤140737488355328 by omega)]
theorem rrights_ok {p:Pg} (hv:ValidP p):ref05_Rights p=some (rightP p):=rights_ok hv
end Go.Proofs.Ytnbbackjofgcfaa

namespace Go.Proofs.Ytnbbackjofgcfaa
open Try Dn Dn.Sh
def signK (k n:Int):Bool:=(decide (k≠1)||decide (n≤0))&&(decide (k≠2)||decide (0≤n))
def signedB (p:Pg) (y:List Fq):Bool:=(List.range' 0 p.2.length).all fun i=>signK (p.2.getD i rw0).2.1 (y.getD i (0,0)).1
theorem signed_okP {p:Pg} {y:List Fq} (hv:ValidP p) (hl:y.length=p.2.length):program_signed p y=some (signedB p y):=by
  obtain ⟨c,rs⟩:=p
  unfold program_signed program_signed_b signedB
  have h6:=hv.rows
  simp only at h6 hl ⊢
  refine (lpK_up (α:=Int×PUnit) (σ:=Unit) rs.length (by omega) (fun i _=>((i:Int),PUnit.unit)) (fun i s k=>bif signK (rs.getD i rw0).2.1 (y.getD i (0,0)).1 then k s else some false) (fun _=>some true) ?_ ?_ ()).trans ?_
  · intro again i _ hi
    have hw:IntKind.wrap .i64 ((i:Int)+1)=((i+1:Nat):Int):=by rw[wrap_id (by omega) (by omega)];rfl
    simp only[inB_nat,decide_eq_true hi,decide_eq_true (show (i:Int)<rs.length by omega),decide_eq_true (show i<y.length by omega),cT,Int.toNat_natCast,hw]
    obtain ⟨n,hn⟩:∃n,(y.getD i (0,0)).1=n:=⟨_,rfl⟩
    obtain ⟨kd,hkd⟩:∃kd,(rs.getD i rw0).2.1=kd:=⟨_,rfl⟩
    simp only[hn,hkd,signK]
    by_cases k1:kd=1<;>by_cases k2:kd=2<;>by_cases c1:n≤0<;>by_cases c2:0≤n<;>by_cases c3:n>0<;>by_cases c4:n<0<;>first | (exfalso;omega) | simp[k1,k2,c1,c2,c3,c4]
  · intro again s
    simp only[decide_eq_false (show ¬ (rs.length:Int)<rs.length by omega),cF]
  · refine (upF_all (p:=fun i=>signK (rs.getD i rw0).2.1 (y.getD i (0,0)).1) (r:=some false) rs.length (fun _ _ _=>rfl) rs.length 0 (by omega)).trans ?_
    cases (List.range' 0 rs.length).all fun i=>signK (rs.getD i rw0).2.1 (y.getD i (0,0)).1<;>rfl
theorem cmp_num {a:Fq} (ha:okF a):cmpQ (qv a) 0=if a.1<0 then -1 else if a.1=0 then 0 else 1:=by
  unfold cmpQ
  simp only[okF_neg ha,okF_zero ha]
theorem rsigned_ok {p:Pg} {y:List Fq} (hv:ValidP p) (hy:∀a ∈ y,okF a) (hl:y.length=p.2.length):ref05_Signed p y=some (signedB p y):=by
  obtain ⟨c,rs⟩:=p
  unfold ref05_Signed ref05_Signed_b signedB
  have h6:=hv.rows
  simp only at h6 hl ⊢
  refine (lpK_up (α:=Int×PUnit) (σ:=Unit) rs.length (by omega) (fun i _=>((i:Int),PUnit.unit)) (fun i s k=>bif signK (rs.getD i rw0).2.1 (y.getD i (0,0)).1 then k s else some false) (fun _=>some true) ?_ ?_ ()).trans ?_
  · intro again i _ hi
    have hw:IntKind.wrap .i64 ((i:Int)+1)=((i+1:Nat):Int):=by rw[wrap_id (by omega) (by omega)];rfl
    have ha:okF (y.getD i (0,0)):=by rw[getD_nat (show i<y.length by omega)];exact hy _ (List.getElem_mem _)
    have hcn:=cmp_num ha
    simp only[inB_nat,decide_eq_true hi,decide_eq_true (show (i:Int)<y.length by omega),decide_eq_true (show i<y.length by omega),cT,Int.toNat_natCast,hw,rsign_ok ha]
    obtain ⟨cq,hcq⟩:∃cq,cmpQ (qv (y.getD i (0,0))) 0=cq:=⟨_,rfl⟩
    obtain ⟨n,hn⟩:∃n,(y.getD i (0,0)).1=n:=⟨_,rfl⟩
    obtain ⟨kd,hkd⟩:∃kd,(rs.getD i rw0).2.1=kd:=⟨_,rfl⟩
    rw[hcq,hn] at hcn
    simp only[hcq,hn,hkd,signK]
    have hneg:cq<0↔n<0:=by rw[hcn];split<;>(try split)<;>omega
    have hpos:cq>0↔0<n:=by rw[hcn];split<;>(try split)<;>omega
    by_cases k1:kd=1<;>by_cases k2:kd=2<;>by_cases c1:n≤0<;>by_cases c2:0≤n<;>by_cases c3:0<cq<;>by_cases c4:cq<0<;>first | (exfalso;omega) | simp[k1,k2,c1,c2,c3,c4,obind_some']
  · intro again s
    simp only[hl,decide_eq_false (show ¬ (rs.length:Int)<rs.length by omega),cF]
  · refine (upF_all (p:=fun i=>signK (rs.getD i rw0).2.1 (y.getD i (0,0)).1) (r:=some false) rs.length (fun _ _ _=>rfl) rs.length 0 (by omega)).trans ?_
    cases (List.range' 0 rs.length).all fun i=>signK (rs.getD i rw0).2.1 (y.getD i (0,0)).1<;>rfl
end Go.Proofs.Ytnbbackjofgcfaa

namespace Go.Proofs.Ytnbbackjofgcfaa
open Try Dn Dn.Sh
noncomputable def fitsY (p:Pg) (y:List Fq):Bool:=(List.range' 0 p.1.length).all fun j=>(sumR (colP p j) y 0).isSome
noncomputable def belowB (p:Pg) (y:List Fq) (f:Nat→Int):Bool:=(List.range' 0 p.1.length).all fun j=>decide (cmpQ ((sumR (colP p j) y 0).getD 0) (f j:Rat)≤0)
theorem col_inC {p:Pg} {j:Nat} (hv:ValidP p) (hj:j<p.1.length):∀n ∈ colP p j,inC n=true:=fun n hn=>by
  obtain ⟨r,hr,rfl⟩:=List.mem_map.1 hn
  rw[getD_nat (by rw[hv.len r hr];exact hj)]
  exact hv.coefs r hr _ (List.getElem_mem _)
theorem col_len {p:Pg} {j:Nat}:(colP p j).length=p.2.length:=by unfold colP;rw[List.length_map]
theorem right_len {p:Pg}:(rightP p).length=p.2.length:=by unfold rightP;rw[List.length_map]
theorem right_inR {p:Pg} (hv:ValidP p):∀n ∈ rightP p,inR n=true:=fun n hn=>by
  obtain ⟨r,hr,rfl⟩:=List.mem_map.1 hn
  exact hv.right r hr
theorem upF_and {R:Type} {n:Nat} {g h:Nat→Bool} {f:Bool×Int→Option R} {b:Nat→Bool×Int→(Bool×Int→Option R)→Option R}
    (hb:∀i s k,i<n→b i s k=k (s.1&&h i,bif g i then s.2 else 5)):∀(k i:Nat) (s:Bool×Int),i+k≤n →
    upF b f k i s=f (s.1&&(List.range' i k).all h,bif (List.range' i k).all g then s.2 else 5)
  | 0,i,s,_=>by simp[upF]
  | k+1,i,s,hi=>by
    simp only[upF,hb i s _ (by omega)]
    rw[upF_and hb k (i+1) _ (by omega)]
    simp only[List.range'_succ,List.all_cons,Bool.and_assoc]
    congr 2
    cases g i<;>cases (List.range' (i+1) k).all g<;>rfl
end Go.Proofs.Ytnbbackjofgcfaa

namespace Go.Proofs.Ytnbbackjofgcfaa
open Try Dn Dn.Sh
theorem of_okR {l:List Int} {x:List Fq} {e:Int} (hl:l.length≤x.length) (h0:l.length≤1000000) (hc:∀n ∈ l,inR n=true) (hx:∀a ∈ x,okF a) :
    program_sums_of e l x=some (bif (sumR l x 0).isSome then e else 5,prQ ((sumR l x 0).getD 0)):=by
  rw[of_ok hl h0 (fun n hn=>inR_big (hc n hn)) hx]
  cases sumR l x 0<;>rfl
noncomputable def sumY (p:Pg) (y:List Fq):Option Rat:=sumR (rightP p) y 0
noncomputable def posB (p:Pg) (y:List Fq):Bool:=decide (0<(prQ ((sumY p y).getD 0)).1)
noncomputable def refB (p:Pg) (y:List Fq):Bool:=posB p y&&(signedB p y&&belowB p y fun _=>0)
theorem prefutes_ok {p:Pg} {y:List Fq} (h:y.length≤1000000):program_Refutes p y=some (bif validP p&&okL y then bif decide (y.length=p.2.length) then bif fitsY p y&&(sumY p y).isSome then (refB p y,0,()) else (false,5,()) else (false,3,()) else (false,1,())):=by
  unfold program_Refutes program_Refutes_b
  rw[pValid_ok,obN]
  simp only[right_ok h,not_or_self',or_self_not,cT]
  cases hv:validP p with
  | false=>rfl
  | true =>
    simp only[Bool.not_true,Bool.not_false,cT]
    rw[obN]
    cases hx:okL y with
    | false=>rfl
    | true =>
      have hV:=validP_iff.1 hv
      have hX:=okL_iff.1 hx
      have h6:=hV.rows
      have h7:=hV.cost.2
      simp only[Bool.not_true,cF,Bool.and_self,cT]
      by_cases hl:y.length=p.2.length
      · simp only[decide_eq_true hl,decide_eq_true (show (y.length:Int)=p.2.length by omega),Bool.not_true,cT,cF]
        refine (lpK_up (α:=Bool×Int×Int×PUnit) p.1.length (by omega) (fun i (s:Bool×Int)=>(s.1,(i:Int),s.2,PUnit.unit)) (fun j s k=>k (s.1&&decide (cmpQ ((sumR (colP p j) y 0).getD 0) ((0:Int):Rat)≤0),bif (sumR (colP p j) y 0).isSome then s.2 else 5))
          (fun s=>some ((posB p y&&(signedB p y&&s.1))&&decide ((bif (sumY p y).isSome then s.2 else 5)=0),bif (sumY p y).isSome then s.2 else 5,())) ?_ ?_ (true,0)).trans ?_
        · intro again i s hi
          have hw:IntKind.wrap .i64 ((i:Int)+1)=((i+1:Nat):Int):=by rw[wrap_id (by omega) (by omega)];rfl
          have h1:=of_ok' (l:=colP p i) (x:=y) (e:=s.2) (by rw[col_len];omega) (by rw[col_len];omega) (col_inC hV hi) hX
          have h2:=pcmp_ok (n:=0) (okF_prQ (sumR_ok (l:=colP p i) (x:=y))) (by omega)
          rw[qv_prQ] at h2
          simp only[decide_eq_true (show (i:Int)<p.1.length by omega),cT,column_ok hV hi,h1,program_Refutes_1,program_Refutes_1_b,h2,obind_some',hw]
          cases decide (cmpQ ((sumR (colP p i) y 0).getD 0) ((0:Int):Rat)≤0)<;>cases s.1<;>rfl
        · intro again s
          have h1:=of_okR (l:=rightP p) (x:=y) (e:=s.2) (by rw[right_len];omega) (by rw[right_len];omega) (right_inR hV) hX
          simp only[decide_eq_false (show ¬ (p.1.length:Int)<p.1.length by omega),cF,rights_ok hV,h1,obind_some',signed_okP hV hl]
          obtain ⟨n,hn⟩:∃n,(prQ ((sumR (rightP p) y 0).getD 0)).1=n:=⟨_,rfl⟩
          simp only[posB,sumY,hn]
          by_cases c1:n>0
          · simp only[decide_eq_true c1]
            cases signedB p y<;>cases s.1<;>rfl
          · simp only[decide_eq_false c1]
            cases signedB p y<;>cases s.1<;>rfl
        · rw[upF_and (n:=p.1.length) (g:=fun j=>(sumR (colP p j) y 0).isSome) (h:=fun j=>decide (cmpQ ((sumR (colP p j) y 0).getD 0) ((0:Int):Rat)≤0)) (fun _ _ _ _=>rfl) p.1.length 0 _ (by omega)]
          rw[show ((List.range' 0 p.1.length).all fun j=>(sumR (colP p j) y 0).isSome)=fitsY p y from rfl,show ((List.range' 0 p.1.length).all fun j=>decide (cmpQ ((sumR (colP p j) y 0).getD 0) ((0:Int):Rat)≤0))=belowB p y (fun _=>0) from rfl]
          unfold refB
          cases fitsY p y<;>cases (sumY p y).isSome<;>cases posB p y<;>cases signedB p y<;>cases belowB p y (fun _=>0)<;>rfl
      · simp only[decide_eq_false hl,decide_eq_false (show ¬ (y.length:Int)=p.2.length by omega),Bool.not_false,cT,cF]
end Go.Proofs.Ytnbbackjofgcfaa

namespace Go.Proofs.Ytnbbackjofgcfaa
open Try Dn Dn.Sh
theorem upF_stop {R:Type} {n:Nat} {g h:Nat→Bool} {f:Bool→Option R} {bad:Option R} {b:Nat→Bool→(Bool→Option R)→Option R}
    (hb:∀i s k,i<n→b i s k=bif g i then k (s&&h i) else bad):∀(k i:Nat) (s:Bool),i+k≤n →
    upF b f k i s=bif (List.range' i k).all g then f (s&&(List.range' i k).all h) else bad
  | 0,i,s,_=>by simp[upF]
  | k+1,i,s,hi=>by
    simp only[upF,hb i s _ (by omega)]
    simp only[List.range'_succ,List.all_cons,←Bool.and_assoc]
    cases g i with
    | false=>rfl
    | true =>
      rw[cT,upF_stop hb k (i+1) _ (by omega),Bool.true_and]
theorem rbelow_ok {p:Pg} {y:List Fq} {most:List Int} (hv:ValidP p) (hy:∀a ∈ y,okF a) (hl:y.length=p.2.length) (hm:most.length=p.1.length) (hmb:∀n ∈ most,inC n=true) :
    ref05_below p y most=bif fitsY p y then some (belowB p y (fun j=>most.getD j 0),0,()) else some (false,5,()):=by
  unfold ref05_below ref05_below_b
  have h6:=hv.rows
  have h7:=hv.cost.2
  refine (lpK_up (α:=Bool×Int×PUnit) p.1.length (by omega) (fun i (s:Bool)=>(s,(i:Int),PUnit.unit)) (fun j s k=>bif (sumR (colP p j) y 0).isSome then k (s&&decide (cmpQ ((sumR (colP p j) y 0).getD 0) ((most.getD j 0:Int):Rat)≤0)) else some (false,5,()))
    (fun s=>some (s,0,())) ?_ ?_ true).trans ?_
  · intro again i s hi
    have hw:IntKind.wrap .i64 ((i:Int)+1)=((i+1:Nat):Int):=by rw[wrap_id (by omega) (by omega)];rfl
    have h1:=rsum_ok (l:=colP p i) (x:=y) (by rw[col_len];omega) (by rw[col_len];omega) (fun n hn=>inC_big (col_inC hv hi n hn)) hy
    have hn:most.getD i 0 ∈ most:=by rw[getD_nat (by omega)];exact List.getElem_mem _
    have h2:=RCmp_ok (okF_prQ (sumR_ok (l:=colP p i) (x:=y))) (okF_int (inC_big (hmb _ hn)).1 (inC_big (hmb _ hn)).2)
    rw[qv_prQ,qv_int] at h2
    simp only[inB_nat,decide_eq_true (show (i:Int)<most.length by omega),decide_eq_true (show i<most.length by omega),cT,rcolumn_ok hv hi,h1,obind_some',hw,Int.toNat_natCast,rOf_ok]
    cases hs:sumR (colP p i) y 0 with
    | none=>rfl
    | some q =>
      rw[hs] at h2
      simp only[Option.getD_some] at h2
      cases s with
      | false=>rfl
      | true =>
        simp only[endR,obind_some',cT,h2]
        rfl
  · intro again s
    simp only[hm,decide_eq_false (show ¬ (p.1.length:Int)<p.1.length by omega),cF]
  · rw[upF_stop (n:=p.1.length) (g:=fun j=>(sumR (colP p j) y 0).isSome) (h:=fun j=>decide (cmpQ ((sumR (colP p j) y 0).getD 0) ((most.getD j 0:Int):Rat)≤0)) (fun _ _ _ _=>rfl) p.1.length 0 _ (by omega)]
    rfl
end Go.Proofs.Ytnbbackjofgcfaa

namespace Go.Proofs.Ytnbbackjofgcfaa
open Try Dn Dn.Sh
theorem getD_zeros {n j:Nat}:(List.replicate n (0:Int)).getD j 0=0:=by
  rw[List.getD_eq_getElem?_getD,List.getElem?_replicate]
  split<;>rfl
theorem rrefutes_ok {p:Pg} {y:List Fq} (hV:ValidP p) (hX:∀a ∈ y,okF a) (hl:y.length=p.2.length):ref05_Refutes p y=some (bif fitsY p y&&(sumY p y).isSome then (refB p y,0,()) else (false,5,())):=by
  have h6:=hV.rows
  have h7:=hV.cost.2
  have hb:=rbelow_ok (most:=List.replicate p.1.length 0) hV hX hl (by simp) (fun n hn=>by rw[List.eq_of_mem_replicate hn];decide)
  have hf:(fun j=>(List.replicate p.1.length (0:Int)).getD j 0)=fun _=>0:=funext fun _=>getD_zeros
  rw[hf] at hb
  have hs:=rsum_ok (l:=rightP p) (x:=y) (by rw[right_len];omega) (by rw[right_len];omega) (fun n hn=>inR_big (right_inR hV n hn)) hX
  simp only[ref05_Refutes,ref05_Refutes_b,Int.toNat_natCast,fitB_of (show p.1.length*8≤140737488355328 by omega),decide_eq_true (show (0:Int)≤(p.1.length:Nat) by omega),Bool.and_self,cT,hb]
  cases fitsY p y with
  | false=>rfl
  | true =>
    simp only[cT,obind_some',decide_true,Bool.not_true,cF,rrights_ok hV,hs,Bool.true_and]
    unfold refB posB sumY
    cases hq:sumR (rightP p) y 0 with
    | none=>rfl
    | some q =>
      have hq':=sumR_fits (by decide) hq
      have hg:=cmp_num (okF_prQ hq')
      rw[qv_prQ] at hg
      simp only[endR,obind_some',decide_true,Bool.not_true,cF,rsign_ok (okF_prQ hq'),qv_prQ,hg,rsigned_ok hV hX hl,Option.getD_some]
      obtain ⟨n,hn⟩:∃n,(prQ q).1=n:=⟨_,rfl⟩
      simp only[hn]
      by_cases c1:n<0
      · rw[if_pos c1,decide_eq_false (show ¬ 0<n by omega)]
        cases belowB p y (fun _=>0)<;>cases signedB p y<;>rfl
      · by_cases c2:n=0
        · rw[if_neg c1,if_pos c2,decide_eq_false (show ¬ 0<n by omega)]
          cases belowB p y (fun _=>0)<;>cases signedB p y<;>rfl
        · rw[if_neg c1,if_neg c2,decide_eq_true (show 0<n by omega)]
          cases belowB p y (fun _=>0)<;>cases signedB p y<;>rfl
end Go.Proofs.Ytnbbackjofgcfaa

namespace Go.Proofs.Ytnbbackjofgcfaa
open Try Dn Dn.Sh
def eqV (q:Rat) (v:Fq):Bool:=decide ((prQ q).1=v.1)&&(decide ((prQ q).2=v.2)&&true)
noncomputable def provesB (p:Pg) (y:List Fq) (v:Fq):Bool:=belowB p y (fun j=>p.1.getD j 0)&&(eqV ((sumY p y).getD 0) v&&signedB p y)
noncomputable def fitsA (p:Pg) (x y:List Fq):Bool:=fitsX p x&&((sumR p.1 x 0).isSome&&(fitsY p y&&(sumY p y).isSome))
noncomputable def checkB (p:Pg) (v:Fq) (x y:List Fq):Bool:=feasB p x&&(eqV ((sumR p.1 x 0).getD 0) v&&provesB p y v)
theorem rproves_ok {p:Pg} {y:List Fq} {v:Fq} (hV:ValidP p) (hX:∀a ∈ y,okF a) (hl:y.length=p.2.length):∃b e,ref05_Proves p y v=some (b,e,())∧(e=0↔(fitsY p y&&(sumY p y).isSome)=true)∧(e=0→b=provesB p y v):=by
  have h6:=hV.rows
  have h7:=hV.cost.2
  have hb:=rbelow_ok (most:=p.1) hV hX hl rfl (fun n hn=>hV.cs n hn)
  have hs:=rsum_ok (l:=rightP p) (x:=y) (by rw[right_len];omega) (by rw[right_len];omega) (fun n hn=>inR_big (right_inR hV n hn)) hX
  simp only[ref05_Proves,ref05_Proves_b,hb]
  cases fitsY p y with
  | false=>exact ⟨false,5,rfl,by simp,by simp⟩
  | true =>
    simp only[cT,obind_some',decide_true,Bool.not_true,cF,rrights_ok hV,hs,Bool.true_and,not_or_self',Bool.and_self,rsigned_ok hV hX hl]
    unfold provesB sumY
    cases hq:sumR (rightP p) y 0 with
    | none =>
      simp only[endR,obind_some']
      cases (bif belowB p y (fun j=>p.1.getD j 0) then decide ((0:Int)=v.1)&&(decide ((0:Int)=v.2)&&true) else false)<;>exact ⟨_,5,rfl,by simp,by simp⟩
    | some q =>
      simp only[endR,obind_some',Option.getD_some]
      unfold eqV
      cases belowB p y (fun j=>p.1.getD j 0) with
      | false=>exact ⟨false,0,rfl,by simp,fun _=>rfl⟩
      | true =>
        simp only[cT,Bool.true_and]
        obtain ⟨b,hb⟩:∃b,(decide ((prQ q).1=v.1)&&(decide ((prQ q).2=v.2)&&true))=b:=⟨_,rfl⟩
        simp only[hb]
        cases b with
        | false=>exact ⟨false,0,rfl,by simp,fun _=>rfl⟩
        | true=>exact ⟨signedB p y,0,rfl,by simp,fun _=>rfl⟩
theorem rcheck_ok {p:Pg} {v:Fq} {x y:List Fq} (hV:ValidP p) (hX:∀a ∈ x,okF a) (hY:∀a ∈ y,okF a) (hx:x.length=p.1.length) (hy:y.length=p.2.length) :
    ref05_Check p (v,x,y)=some (bif fitsA p x y then (checkB p v x y,0,()) else (false,5,())):=by
  have hf:=rfeas_ok hV hX hx
  have hs:=rsum_ok (l:=p.1) (x:=x) (by omega) (by have:=hV.cost.2;omega) (fun n hn=>inC_big (hV.cs n hn)) hX
  obtain ⟨b,e,hp,h1,h2⟩:=rproves_ok (v:=v) hV hY hy
  simp only[ref05_Check,ref05_Check_b,hf,hs,hp]
  unfold fitsA checkB
  by_cases he:e=0
  · have h3:=h1.1 he
    rw[h3,h2 he,he]
    cases fitsX p x<;>cases hq:sumR p.1 x 0<;>simp only[endR,obind_some',cT,cF,Option.getD_some,Option.isSome_some,Option.isSome_none]<;>(try rfl)
    rename_i q
    unfold eqV
    obtain ⟨b,hb⟩:∃b,(decide ((prQ q).1=v.1)&&(decide ((prQ q).2=v.2)&&true))=b:=⟨_,rfl⟩
    simp only[hb]
    cases feasB p x<;>cases b<;>cases provesB p y v<;>rfl
  · have h3:(fitsY p y&&(sumY p y).isSome)=false:=by
      cases h4:(fitsY p y&&(sumY p y).isSome)
      · rfl
      · exact (he (h1.2 h4)).elim
    rw[h3]
    simp only[Bool.and_false,cF]
    have he':decide (e=0)=false:=decide_eq_false he
    cases fitsX p x<;>cases hq:sumR p.1 x 0<;>simp only[endR,obind_some',cT,cF,he',Bool.not_false,Bool.not_true,decide_true]
    · rfl
    · rfl
    · cases feasB p x<;>rfl
    · rfl
theorem pcheck_ok {p:Pg} {v:Fq} {x y:List Fq} (hx:x.length≤1000000) (hy:y.length≤1000000):program_Check p (v,x,y)=some (bif validP p&&(decide (okF v)&&(okL x&&okL y)) then bif decide (x.length=p.1.length)&&decide (y.length=p.2.length) then bif fitsA p x y then (checkB p v x y,0,()) else (false,5,()) else (false,3,()) else (false,1,())):=by
  unfold program_Check program_Check_b
  rw[pValid_ok,obN]
  simp only[right_ok hx,right_ok hy,Valid_ok,not_or_self',or_self_not,cT]
  cases hv:validP p with
  | false=>rfl
  | true =>
    simp only[Bool.not_true,Bool.not_false,cT]
    rw[obN]
    cases hvv:decide (okF v) with
    | false=>rfl
    | true =>
    simp only[Bool.not_true,Bool.not_false,cT,cF]
    rw[obN]
    cases hx':okL x with
    | false=>rfl
    | true =>
    simp only[Bool.not_true,Bool.not_false,cT,cF]
    rw[obN]
    cases hy':okL y with
    | false=>rfl
    | true =>
      have hV:=validP_iff.1 hv
      have hX:=okL_iff.1 hx'
      have hY:=okL_iff.1 hy'
      have h6:=hV.rows
      have h7:=hV.cost.2
      simp only[Bool.not_true,cF,Bool.and_self,cT]
      by_cases hl:x.length=p.1.length
      · simp only[decide_eq_true hl,decide_eq_true (show (x.length:Int)=p.1.length by omega),Bool.not_true,cT,cF,Bool.true_and]
        by_cases hm:y.length=p.2.length
        · simp only[decide_eq_true hm,decide_eq_true (show (y.length:Int)=p.2.length by omega),Bool.not_true,cT,cF]
          rw[sfeas_ok hV hX hl,obN,of_ok' (by omega) (by omega) (fun n hn=>hV.cs n hn) hX,obN]
          have hi:∀e0:Bool,(!e0||e0)=true:=fun e0=>by cases e0<;>rfl
          simp only[hi,cT]
          refine (lpK_up (α:=Bool×Int×Int×PUnit) p.1.length (by omega) (fun i (s:Bool×Int)=>(s.1,(i:Int),s.2,PUnit.unit)) (fun j s k=>k (s.1&&decide (cmpQ ((sumR (colP p j) y 0).getD 0) ((p.1.getD j 0:Int):Rat)≤0),bif (sumR (colP p j) y 0).isSome then s.2 else 5))
            (fun s=>some ((feasB p x&&(eqV ((sumR p.1 x 0).getD 0) v&&(s.1&&(eqV ((sumY p y).getD 0) v&&signedB p y))))&&decide ((bif (sumY p y).isSome then s.2 else 5)=0),bif (sumY p y).isSome then s.2 else 5,())) ?_ ?_ (true,_)).trans ?_
          · intro again i s hi'
            have hw:IntKind.wrap .i64 ((i:Int)+1)=((i+1:Nat):Int):=by rw[wrap_id (by omega) (by omega)];rfl
            have h1:=of_ok' (l:=colP p i) (x:=y) (e:=s.2) (by rw[col_len];omega) (by rw[col_len];omega) (col_inC hV hi') hY
            have hn:p.1.getD i 0 ∈ p.1:=by rw[getD_nat (by omega)];exact List.getElem_mem _
            have h2:=pcmp_ok (n:=p.1.getD i 0) (okF_prQ (sumR_ok (l:=colP p i) (x:=y))) (inC_big (hV.cs _ hn))
            rw[qv_prQ] at h2
            simp only[decide_eq_true (show (i:Int)<p.1.length by omega),cT,column_ok hV hi',h1,program_Check_1,program_Check_1_b,inB_nat,decide_eq_true hi',Int.toNat_natCast,h2,obind_some',hw,hi]
            cases decide (cmpQ ((sumR (colP p i) y 0).getD 0) ((p.1.getD i 0:Int):Rat)≤0)<;>cases s.1<;>rfl
          · intro again s
            have h1:=of_okR (l:=rightP p) (x:=y) (e:=s.2) (by rw[right_len];omega) (by rw[right_len];omega) (right_inR hV) hY
            simp only[decide_eq_false (show ¬ (p.1.length:Int)<p.1.length by omega),cF,rights_ok hV,h1,obind_some',signed_okP hV hm,hi,cT,Bool.and_self]
            unfold eqV sumY
            obtain ⟨b1,e1⟩:∃b,(decide ((prQ ((sumR (rightP p) y 0).getD 0)).1=v.1)&&(decide ((prQ ((sumR (rightP p) y 0).getD 0)).2=v.2)&&true))=b:=⟨_,rfl⟩
            obtain ⟨b2,e2⟩:∃b,(decide ((prQ ((sumR p.1 x 0).getD 0)).1=v.1)&&(decide ((prQ ((sumR p.1 x 0).getD 0)).2=v.2)&&true))=b:=⟨_,rfl⟩
            simp only[e1,e2]
            cases b1<;>cases b2<;>cases signedB p y<;>cases s.1<;>cases feasB p x<;>rfl
          · rw[upF_and (n:=p.1.length) (g:=fun j=>(sumR (colP p j) y 0).isSome) (h:=fun j=>decide (cmpQ ((sumR (colP p j) y 0).getD 0) ((p.1.getD j 0:Int):Rat)≤0)) (fun _ _ _ _=>rfl) p.1.length 0 _ (by omega)]
            rw[show ((List.range' 0 p.1.length).all fun j=>(sumR (colP p j) y 0).isSome)=fitsY p y from rfl,show ((List.range' 0 p.1.length).all fun j=>decide (cmpQ ((sumR (colP p j) y 0).getD 0) ((p.1.getD j 0:Int):Rat)≤0))=belowB p y (fun j=>p.1.getD j 0) from rfl]
            unfold fitsA checkB provesB
            generalize fitsY p y=b1
            generalize (sumY p y).isSome=b2
            generalize fitsX p x=b3
            generalize (sumR p.1 x 0).isSome=b4
            generalize feasB p x=b5
            generalize eqV ((sumR p.1 x 0).getD 0) v=b6
            generalize belowB p y (fun j=>p.1.getD j 0)=b7
            generalize eqV ((sumY p y).getD 0) v=b8
            generalize signedB p y=b9
            cases b1<;>cases b2<;>cases b3<;>cases b4<;>(try rfl)<;>cases b5<;>cases b6<;>cases b7<;>cases b8<;>cases b9<;>rfl
        · simp only[decide_eq_false hm,decide_eq_false (show ¬ (y.length:Int)=p.2.length by omega),Bool.not_false,cT,cF]
      · simp only[decide_eq_false hl,decide_eq_false (show ¬ (x.length:Int)=p.1.length by omega),Bool.not_false,Bool.not_true,cT,cF,Bool.false_and]
end Go.Proofs.Ytnbbackjofgcfaa

namespace Go.Proofs.Ytnbbackjofgcfaa
open Try Dn Dn.Sh
theorem law2p (p:Pg) (a:Fq×List Fq×List Fq) (y:List Fq):law05_ProgramChecks p a y=some true:=by
  obtain ⟨v,x,z⟩:=a
  have hi:∀e0:Bool,(!e0||e0)=true:=fun e0=>by cases e0<;>rfl
  have hj:∀e0:Bool,(e0||!e0)=true:=fun e0=>by cases e0<;>rfl
  simp only[law05_ProgramChecks,law05_ProgramChecks_b,awakeP_ok,fewP_ok,shortP_ok [x,z,y] (by simp),obind_some',Bool.not_true,cF,hi,hj,Bool.and_self,cT]
  cases hf:fewB p with
  | false=>rfl
  | true =>
    simp only[Bool.not_true,Bool.not_false,cT,cF,obind_some']
    by_cases hs:(x.length≤20∧z.length≤20)∧y.length≤20
    · have hs1:x.length≤1000000:=by omega
      have hs2:z.length≤1000000:=by omega
      have hs3:y.length≤1000000:=by omega
      simp only[List.all_cons,List.all_nil,decide_eq_true hs.1.1,decide_eq_true hs.1.2,decide_eq_true hs.2,Bool.and_true,Bool.not_true,cF,pcheck_ok hs1 hs2,prefutes_ok hs3,rValid_ok,RValid_ok,RAll_ok hs1,RAll_ok hs2,RAll_ok hs3,obind_some',jnK_eq']
      rw[show (x.all fun a=>decide (okF a))=okL x from rfl,show (z.all fun a=>decide (okF a))=okL z from rfl,show (y.all fun a=>decide (okF a))=okL y from rfl]
      cases hv:validP p with
      | false=>rfl
      | true =>
        have hV:=validP_iff.1 hv
        simp only[Bool.not_true,Bool.not_false,cT,cF,obind_some',Bool.true_and]
        have part2:∀(t1:Bool×Int×Unit),t1=(bif okL y then bif decide (y.length=p.2.length) then bif fitsY p y&&(sumY p y).isSome then (refB p y,0,()) else (false,5,()) else (false,3,()) else (false,1,())) →
            (obind (some (okL y)) fun t=>bif !t then some (bif !t1.fst then decide (t1.snd.fst=1) else false) else bif !decide ((y.length:Int)=p.2.length) then some (bif !t1.fst then decide (t1.snd.fst=3) else false) else
              obind (ref05_Refutes p y) fun t=>some (bif decide (t1.fst=t.fst) then decide (t1.snd.fst=t.snd.fst) else false))=some true:=fun t1 ht=>by
          rw[obind_some']
          cases hy:okL y with
          | false =>
            rw[hy] at ht
            subst ht
            rfl
          | true =>
            rw[hy] at ht
            by_cases hl:y.length=p.2.length
            · rw[decide_eq_true hl] at ht
              rw[decide_eq_true (show (y.length:Int)=p.2.length by omega),rrefutes_ok hV (okL_iff.1 hy) hl]
              simp only[Bool.not_true,cF,cT,obind_some'] at ht ⊢
              subst ht
              simp
            · rw[decide_eq_false hl] at ht
              rw[decide_eq_false (show ¬ (y.length:Int)=p.2.length by omega)]
              simp only[Bool.not_true,Bool.not_false,cF,cT] at ht ⊢
              subst ht
              rfl
        obtain ⟨t1,ht1⟩:∃t1,t1=(bif okL y then bif decide (y.length=p.2.length) then bif fitsY p y&&(sumY p y).isSome then (refB p y,(0:Int),()) else (false,5,()) else (false,3,()) else (false,1,())):=⟨_,rfl⟩
        have h2:=part2 t1 ht1
        simp only[obind_some'] at h2
        rw[←ht1,h2]
        cases hvv:decide (okF v) with
        | false=>rfl
        | true =>
        cases hx:okL x with
        | false=>rfl
        | true =>
        cases hz:okL z with
        | false=>rfl
        | true =>
        simp only[Bool.not_true,Bool.not_false,cT,cF,obind_some',Bool.and_self]
        by_cases hl:x.length=p.1.length
        · simp only[decide_eq_true hl,decide_eq_true (show (x.length:Int)=p.1.length by omega),Bool.not_true,cT,cF,Bool.true_and]
          by_cases hm:z.length=p.2.length
          · simp only[decide_eq_true hm,decide_eq_true (show (z.length:Int)=p.2.length by omega),Bool.not_true,cT,cF,rcheck_ok hV (okL_iff.1 hx) (okL_iff.1 hz) hl hm,obind_some']
            cases fitsA p x z<;>cases checkB p v x z<;>rfl
          · simp only[decide_eq_false hm,decide_eq_false (show ¬ (z.length:Int)=p.2.length by omega),Bool.not_false,cT,cF]
            rfl
        · simp only[decide_eq_false hl,decide_eq_false (show ¬ (x.length:Int)=p.1.length by omega),Bool.not_false,Bool.not_true,cT,cF,Bool.false_and]
          rfl
    · have:(decide (x.length≤20)&&(decide (z.length≤20)&&decide (y.length≤20)))=false:=by
        simp only[Bool.and_eq_false_iff,decide_eq_false_iff_not]
        omega
      simp only[List.all_cons,List.all_nil,Bool.and_true,this,Bool.not_false,cT]
end Go.Proofs.Ytnbbackjofgcfaa
