/- The quotient of a number of 128 bits by one of 64. Fractions: 'Add' of package ratio. Fractions: 'Add', 'Valid', 'All' of the reference. Fractions: 'Sub' and 'Cmp' of both. What beams bear: the program's walk. What beams bear: the program's walk comes to the sums. What beams bear: the program's answer. What beams bear: the reference's answer. Beams and loads: what is wrong with them; Loads, Over. Houses: 'HouseLoads'. Houses: the reference's Loads; the law 'HouseLoads'. Houses: the law 'HouseLoads'. Houses: equal ones. Houses: equal ones, the reference; the law 'HouseForms'. Houses: the law 'HouseForms'. Sums of integers, and determinants. Tables of the simplex method: integers with a common denominator, as determinants of columns. Steps of the simplex method by the rule of least indices: they never come back to a basis. Steps of the simplex method come to an end: a measure. Linear programs over the rationals: what points and multipliers prove; and what tables of the simplex method prove. How great the numbers of a program's tables may get: the product of the rows' factors. Tables of programs: how great the numbers of the artificial columns may get. Tables of numbers as lists of rows, and loops over them. Sorting by insertion: the order of the sets of a house, as a function of the place. Houses: a set is put into a list of sets. Houses: both programs put a set as the list law says. The spare weight at a depth: both programs' answer. Laws on beams: 'GridSpares', 'GridLoads'. Laws on beams: 'GridSums'. The top: a set with one more item. The top: the law on items that are hung. -/
import Derived.Test.YtlfdhaiigdllcaaGreatDoorMgY

namespace Go.Proofs.YtlfdhaiigdllcaaGreatDoor
open Tryz Dn Dn.Sh
theorem digit_stop {q r U u y1 y0:Int} (hq:q*y1+r=U) (_:0<=u) (hy:0<y1*4294967296+y0) (hge:(U*4294967296+u) / (y1*4294967296+y0)<=q) (ht:q*y0<=4294967296*r+u):q=(U*4294967296+u) / (y1*4294967296+y0):=by
 refine Int.le_antisymm (Int.le_ediv_of_mul_le hy ?_) hge
 rw[Int.mul_add,<-Int.mul_assoc]
 omega
theorem digit_less {q r U u y1 y0:Int} (hq:q*y1+r=U) (hy:0<y1*4294967296+y0) (hU:U*4294967296+u<(y1*4294967296+y0)*4294967296) (ht:q>=4294967296\/q*y0>4294967296*r+u):(U*4294967296+u) / (y1*4294967296+y0)<=q - 1:=by
 have:(U*4294967296+u) / (y1*4294967296+y0)<q:=by
  refine Int.ediv_lt_of_lt_mul hy ?_
  rcases ht with ht | ht
  ·exact Int.lt_of_lt_of_le hU (by rw[Int.mul_comm q];exact Int.mul_le_mul_of_nonneg_left ht (by omega))
  ·rw[Int.mul_add,<-Int.mul_assoc]
   omega
 omega
theorem digit_end {q r U u y1 y0:Int} (hq:q*y1+r=U) (hu:0<=u) (hy:0<y1*4294967296+y0) (h0:0<=y0/\y0<4294967296) (hge:(U*4294967296+u) / (y1*4294967296+y0)<=q - 1) (hr:r+y1>=4294967296) (hq2:1<=q/\q<=4294967297):q - 1=(U*4294967296+u) / (y1*4294967296+y0):=by
 refine Int.le_antisymm (Int.le_ediv_of_mul_le hy ?_) hge
 have e1:(q - 1)*y0<=4294967296*4294967295:=Int.mul_le_mul (by omega) (by omega) h0.1 (by omega)
 rw[Int.mul_add,<-Int.mul_assoc,Int.sub_mul q 1 y1,Int.one_mul]
 omega
theorem lor_add {s:Nat} {a b:Nat} (h:b<2 ^ s):Nat.lor (a*2 ^ s) b=a*2 ^ s+b:=by
 have:=Nat.two_pow_add_eq_or_of_lt h a
 rw[Nat.mul_comm a]
 exact this.symm
theorem digit_loop {α R:Type} {F:(α->Option R)->α->Option R} {J:Int->Option R} {U u y1 y0:Int} (enc:Int->Int->α) (dec:α->Int) (hdec:∀q r,dec (enc q r)=q)
  (hu:0<=u) (h0:0<=y0/\y0<4294967296) (h1:2147483648<=y1/\y1<4294967296) (hU0:0<=U) (hU:U*4294967296+u<(y1*4294967296+y0)*4294967296)
  (hF1:∀again q r,1<=q->q<=4294967297->0<=r->r<4294967296->(q>=4294967296\/q*y0>4294967296*r+u)->F again (enc q r)=bif decide (r+y1>=4294967296) then J (q - 1) else again (enc (q - 1) (r+y1)))
  (hF2:∀again q r,0<=q->q<4294967296->0<=r->r<4294967296->¬ q*y0>4294967296*r+u->F again (enc q r)=J q)
  {q r:Int} (hq:q*y1+r=U) (hq0:0<=q) (hq2:q<=4294967297) (hr0:0<=r) (hr1:r<4294967296) (hge:(U*4294967296+u) / (y1*4294967296+y0)<=q) :
  lpK α R F (enc q r)=J ((U*4294967296+u) / (y1*4294967296+y0)):=by
 have hD:0<=(U*4294967296+u) / (y1*4294967296+y0):=Int.ediv_nonneg (by omega) (by omega)
 refine lpK_loop (g:=fun _=>J ((U*4294967296+u) / (y1*4294967296+y0))) (I:=fun x=>∃q r,x=enc q r/\q*y1+r=U/\0<=q/\q<=4294967297/\0<=r/\r<4294967296/\(U*4294967296+u) / (y1*4294967296+y0)<=q) (μ:=fun x=>(dec x).toNat) ?_ ⟨q,r,rfl,hq,hq0,hq2,hr0,hr1,hge⟩ (by rw[hdec];omega)
 rintro _ rec ⟨q,r,rfl,hq,hq0,hq2,hr0,hr1,hge⟩ hrec
 have hy:0<y1*4294967296+y0:=by omega
 by_cases ht:q>=4294967296\/q*y0>4294967296*r+u
 ·have hl:=digit_less hq hy hU ht
  rw[hF1 _ _ _ (by omega) hq2 hr0 hr1 ht]
  by_cases hr:r+y1>=4294967296
  ·rw[decide_eq_true hr,cond_true,digit_end hq hu hy h0 hl hr ⟨by omega,hq2⟩]
  ·rw[decide_eq_false hr,cond_false]
   refine hrec _ ⟨q - 1,r+y1,rfl,?_,by omega,by omega,by omega,by omega,hl⟩ (by rw[hdec,hdec];omega)
   rw[Int.sub_mul,Int.one_mul];omega
 ·rw[not_or] at ht
  rw[hF2 _ _ _ hq0 (by omega) hr0 hr1 ht.2,<-digit_stop hq hu hy hge (by omega)]
theorem digit_init {U u y1 y0:Int} (hu:0<=u/\u<4294967296) (h0:0<=y0/\y0<4294967296) (h1:2147483648<=y1/\y1<4294967296) (hU0:0<=U) (hU:U<y1*4294967296+y0) :
  (U / y1)*y1+(U - U / y1*y1)=U/\0<=U / y1/\U / y1<=4294967297/\0<=U - U / y1*y1/\U - U / y1*y1<4294967296/\(U*4294967296+u) / (y1*4294967296+y0)<=U / y1:=by
 have e1:=Int.mul_ediv_add_emod U y1
 have e2:=Int.emod_nonneg U (show y1≠0 by omega)
 have e3:=Int.emod_lt_of_pos U (show 0<y1 by omega)
 rw[Int.mul_comm] at e1
 refine ⟨by omega,Int.ediv_nonneg hU0 (by omega),?_,by omega,by omega,?_⟩
 ·have:U / y1<4294967298:=Int.ediv_lt_of_lt_mul (by omega) (by omega)
  omega
 ·have:(U*4294967296+u) / (y1*4294967296+y0)<U / y1+1:=by
   refine Int.ediv_lt_of_lt_mul (by omega) ?_
   have hq:0<=U / y1:=Int.ediv_nonneg hU0 (by omega)
   have e4:0<=(U / y1+1)*y0:=Int.mul_nonneg (by omega) h0.1
   rw[Int.mul_add,<-Int.mul_assoc,Int.add_mul (U / y1) 1 y1,Int.one_mul]
   omega
  omega
noncomputable def dv2E (_ _ Y u0 P q1 un:Int) (q:Int):Option (Int×Int×Unit):=some (IntKind.wrap .u64 (IntKind.wrap .u64 (q1*4294967296)+q),Int.fdiv (IntKind.wrap .u64 (IntKind.wrap .u64 (IntKind.wrap .u64 (un*4294967296)+u0) - IntKind.wrap .u64 (q*Y))) P,())
noncomputable def dv2 (y1 y0 Y u0 P q1 un:Int):Option (Int×Int×Unit):=lpK (Int×Int×PUnit) (Int×Int×PUnit) (fun again x=>bif (bif decide (x.2.1>=4294967296) then true else decide (IntKind.wrap .u64 (x.2.1*y0)>IntKind.wrap .u64 (IntKind.wrap .u64 (4294967296*x.1)+u0))) then
 (bif decide (IntKind.wrap .u64 (x.1+y1)>=4294967296) then dv2E y1 y0 Y u0 P q1 un (IntKind.wrap .u64 (x.2.1 - 1)) else again (IntKind.wrap .u64 (x.1+y1),IntKind.wrap .u64 (x.2.1 - 1),PUnit.unit)) else dv2E y1 y0 Y u0 P q1 un x.2.1)
 (IntKind.wrap .u64 (un - IntKind.wrap .u64 (IntKind.wrap .u64 (Int.tdiv un y1)*y1)),IntKind.wrap .u64 (Int.tdiv un y1),PUnit.unit)
theorem dv2_ok {y1 y0 u0 P q1 un:Int} (hu:0<=u0/\u0<4294967296) (h0:0<=y0/\y0<4294967296) (h1:2147483648<=y1/\y1<4294967296) (hU0:0<=un) (hU:un<y1*4294967296+y0) :
  dv2 y1 y0 (y1*4294967296+y0) u0 P q1 un=dv2E y1 y0 (y1*4294967296+y0) u0 P q1 un ((un*4294967296+u0) / (y1*4294967296+y0)):=by
 obtain ⟨i1,i2,i3,i4,i5,i6⟩:=digit_init (U:=un) hu h0 h1 hU0 hU
 unfold dv2
 rw[Int.tdiv_eq_ediv_of_nonneg hU0]
 have hm:un / y1*y1<=un:=by omega
 have hm0:0<=un / y1*y1:=Int.mul_nonneg i2 (by omega)
 rw[u_wrap (x:=un / y1) i2 (by omega),u_wrap (x:=un / y1*y1) hm0 (by omega),u_wrap (x:=un - un / y1*y1) (by omega) (by omega)]
 refine digit_loop (α:=Int×Int×PUnit) (enc:=fun q r=>(r,q,PUnit.unit)) (dec:=fun x=>x.2.1) (fun _ _=>rfl) hu.1 h0 h1 hU0 (by omega) ?_ ?_ i1 i2 i3 i4 i5 i6
 ·intro again q r g1 g2 g3 g4 g5
  have e1:0<=q*y0:=Int.mul_nonneg (by omega) h0.1
  have e2:q*y0<=4294967297*4294967295:=Int.mul_le_mul g2 (by omega) h0.1 (by omega)
  simp only
  rw[u_wrap (x:=q*y0) e1 (by omega),u_wrap (x:=4294967296*r) (by omega) (by omega),u_wrap (x:=4294967296*r+u0) (by omega) (by omega),u_wrap (x:=r+y1) (by omega) (by omega),u_wrap (x:=q - 1) (by omega) (by omega)]
  have e:(bif decide (q>=4294967296) then true else decide (q*y0>4294967296*r+u0))=true:=by
   rcases g5 with ht | ht
   ·rw[decide_eq_true ht];rfl
   ·rw[decide_eq_true ht];cases decide (q>=4294967296)<;>rfl
  rw[e,cT]
 ·intro again q r g1 g2 g3 g4 g5
  have e1:0<=q*y0:=Int.mul_nonneg (by omega) h0.1
  have e2:q*y0<=4294967297*4294967295:=Int.mul_le_mul (by omega) (by omega) h0.1 (by omega)
  simp only
  rw[u_wrap (x:=q*y0) e1 (by omega),u_wrap (x:=4294967296*r) (by omega) (by omega),u_wrap (x:=4294967296*r+u0) (by omega) (by omega)]
  rw[decide_eq_false (show ¬ q>=4294967296 by omega),decide_eq_false g5,cF,cF]
noncomputable def dv1E (y1 y0 Y u1 u0 P U:Int) (q1:Int):Option (Int×Int×Unit):=dv2 y1 y0 Y u0 P q1 (IntKind.wrap .u64 (IntKind.wrap .u64 (IntKind.wrap .u64 (U*4294967296)+u1) - IntKind.wrap .u64 (q1*Y)))
noncomputable def dv1 (y1 y0 Y u1 u0 P U:Int):Option (Int×Int×Unit):=lpK (Int×Int×PUnit) (Int×Int×PUnit) (fun again x=>bif (bif decide (x.1>=4294967296) then true else decide (IntKind.wrap .u64 (x.1*y0)>IntKind.wrap .u64 (IntKind.wrap .u64 (4294967296*x.2.1)+u1))) then
 (bif decide (IntKind.wrap .u64 (x.2.1+y1)>=4294967296) then dv1E y1 y0 Y u1 u0 P U (IntKind.wrap .u64 (x.1 - 1)) else again (IntKind.wrap .u64 (x.1 - 1),IntKind.wrap .u64 (x.2.1+y1),PUnit.unit)) else dv1E y1 y0 Y u1 u0 P U x.1)
 (IntKind.wrap .u64 (Int.tdiv U y1),IntKind.wrap .u64 (U - IntKind.wrap .u64 (IntKind.wrap .u64 (Int.tdiv U y1)*y1)),PUnit.unit)
theorem dv1_ok {y1 y0 u1 u0 P U:Int} (hu:0<=u1/\u1<4294967296) (h0:0<=y0/\y0<4294967296) (h1:2147483648<=y1/\y1<4294967296) (hU0:0<=U) (hU:U<y1*4294967296+y0) :
  dv1 y1 y0 (y1*4294967296+y0) u1 u0 P U=dv1E y1 y0 (y1*4294967296+y0) u1 u0 P U ((U*4294967296+u1) / (y1*4294967296+y0)):=by
 obtain ⟨i1,i2,i3,i4,i5,i6⟩:=digit_init (U:=U) hu h0 h1 hU0 hU
 unfold dv1
 rw[Int.tdiv_eq_ediv_of_nonneg hU0]
 have hm:U / y1*y1<=U:=by omega
 have hm0:0<=U / y1*y1:=Int.mul_nonneg i2 (by omega)
 rw[u_wrap (x:=U / y1) i2 (by omega),u_wrap (x:=U / y1*y1) hm0 (by omega),u_wrap (x:=U - U / y1*y1) (by omega) (by omega)]
 refine digit_loop (α:=Int×Int×PUnit) (enc:=fun q r=>(q,r,PUnit.unit)) (dec:=fun x=>x.1) (fun _ _=>rfl) hu.1 h0 h1 hU0 (by omega) ?_ ?_ i1 i2 i3 i4 i5 i6
 ·intro again q r g1 g2 g3 g4 g5
  have e1:0<=q*y0:=Int.mul_nonneg (by omega) h0.1
  have e2:q*y0<=4294967297*4294967295:=Int.mul_le_mul g2 (by omega) h0.1 (by omega)
  simp only
  rw[u_wrap (x:=q*y0) e1 (by omega),u_wrap (x:=4294967296*r) (by omega) (by omega),u_wrap (x:=4294967296*r+u1) (by omega) (by omega),u_wrap (x:=r+y1) (by omega) (by omega),u_wrap (x:=q - 1) (by omega) (by omega)]
  have e:(bif decide (q>=4294967296) then true else decide (q*y0>4294967296*r+u1))=true:=by
   rcases g5 with ht | ht
   ·rw[decide_eq_true ht];rfl
   ·rw[decide_eq_true ht];cases decide (q>=4294967296)<;>rfl
  rw[e,cT]
 ·intro again q r g1 g2 g3 g4 g5
  have e1:0<=q*y0:=Int.mul_nonneg (by omega) h0.1
  have e2:q*y0<=4294967297*4294967295:=Int.mul_le_mul (by omega) (by omega) h0.1 (by omega)
  simp only
  rw[u_wrap (x:=q*y0) e1 (by omega),u_wrap (x:=4294967296*r) (by omega) (by omega),u_wrap (x:=4294967296*r+u1) (by omega) (by omega)]
  rw[decide_eq_false (show ¬ q>=4294967296 by omega),decide_eq_false g5,cF,cF]
theorem dv_ok {U W Y P:Nat} (hY:9223372036854775808<=Y) (hY2:Y<18446744073709551616) (hW:W<18446744073709551616) (hU:U<Y) :
  dv1 ((Y:Int) / 4294967296) ((Y:Int) % 4294967296) (Y:Int) ((W:Int) / 4294967296) ((W:Int) % 4294967296) (P:Int) (U:Int)=some ((((U*18446744073709551616+W) / Y:Nat):Int),(((U*18446744073709551616+W) % Y / P:Nat):Int),()):=by
 have eY:(Y:Int) / 4294967296*4294967296+(Y:Int) % 4294967296=Y:=by omega
 have h1:=dv1_ok (y1:=(Y:Int) / 4294967296) (y0:=(Y:Int) % 4294967296) (u1:=(W:Int) / 4294967296) (u0:=(W:Int) % 4294967296) (P:=(P:Int)) (U:=(U:Int)) (by omega) (by omega) (by omega) (by omega) (by omega)
 rw[eY] at h1
 rw[h1]
 unfold dv1E
 obtain ⟨A,hA⟩:∃A:Nat,A=U*4294967296+W / 4294967296:=⟨_,rfl⟩
 have hAi:(U:Int)*4294967296+(W:Int) / 4294967296=(A:Int):=by omega
 rw[hAi]
 have hq1:A / Y<4294967296:=(Nat.div_lt_iff_lt_mul (by omega)).2 (by omega)
 have d1:=Nat.div_add_mod A Y
 have d2:=Nat.mod_lt A (show Y>0 by omega)
 rw[show (A:Int) / (Y:Int)=((A / Y:Nat):Int) from rfl]
 have hun:IntKind.wrap .u64 (IntKind.wrap .u64 (IntKind.wrap .u64 ((U:Int)*4294967296)+(W:Int) / 4294967296) - IntKind.wrap .u64 (((A / Y:Nat):Int)*(Y:Int)))=((A % Y:Nat):Int):=by
  rw[<-Int.natCast_mul,Nat.mul_comm (A / Y)]
  generalize A / Y=q1 at *
  generalize Y*q1=m at *
  rw[IntKind.wrap_u64,IntKind.wrap_u64,IntKind.wrap_u64,IntKind.wrap_u64]
  omega
 rw[hun]
 have h2:=dv2_ok (y1:=(Y:Int) / 4294967296) (y0:=(Y:Int) % 4294967296) (u0:=(W:Int) % 4294967296) (P:=(P:Int)) (q1:=((A / Y:Nat):Int)) (un:=((A % Y:Nat):Int)) (by omega) (by omega) (by omega) (by omega) (by omega)
 rw[eY] at h2
 rw[h2]
 unfold dv2E
 obtain ⟨B,hB⟩:∃B:Nat,B=A % Y*4294967296+W % 4294967296:=⟨_,rfl⟩
 have hBi:((A % Y:Nat):Int)*4294967296+(W:Int) % 4294967296=(B:Int):=by omega
 rw[hBi,show (B:Int) / (Y:Int)=((B / Y:Nat):Int) from rfl]
 have hq0:B / Y<4294967296:=(Nat.div_lt_iff_lt_mul (by omega)).2 (by omega)
 have d3:=Nat.div_add_mod B Y
 have d4:=Nat.mod_lt B (show Y>0 by omega)
 have hN:U*18446744073709551616+W=(A / Y*4294967296+B / Y)*Y+B % Y:=by
  rw[Nat.add_mul,Nat.mul_right_comm,Nat.mul_comm (A / Y),Nat.mul_comm (B / Y)]
  omega
 obtain ⟨n1,n2⟩:=divMod_of d4 hN
 rw[n1,n2]
 have hrest:IntKind.wrap .u64 (IntKind.wrap .u64 (IntKind.wrap .u64 (((A % Y:Nat):Int)*4294967296)+(W:Int) % 4294967296) - IntKind.wrap .u64 (((B / Y:Nat):Int)*(Y:Int)))=((B % Y:Nat):Int):=by
  rw[<-Int.natCast_mul,Nat.mul_comm (B / Y)]
  generalize B / Y=q0 at *
  generalize Y*q0=m at *
  generalize A % Y=r1 at *
  rw[IntKind.wrap_u64,IntKind.wrap_u64,IntKind.wrap_u64,IntKind.wrap_u64]
  omega
 rw[hrest,fdiv_of (by omega)]
 generalize A / Y=q1 at *
 generalize B / Y=q0 at *
 rw[u_wrap (x:=(q1:Int)*4294967296) (by omega) (by omega),u_wrap (by omega) (by omega)]
 rfl
theorem tmod_nat (m n:Nat):Int.tmod (m:Int) (n:Int)=((m % n:Nat):Int):=by
 rw[Int.tmod_eq_emod_of_nonneg (by omega)]
 rfl
theorem jnT {α R:Type} (j:α->Option R) (f:(α->Option R)->Option R):jnK α R j f=f j:=Eq.trans rfl rfl
theorem Div64_ok {h l y:Nat} (hy:h<y) (hy2:y<18446744073709551616) (hl0:l<18446744073709551616):bits_Div64 (h:Int) (l:Int) (y:Int)=some ((((h*18446744073709551616+l) / y:Nat):Int),(((h*18446744073709551616+l) % y:Nat):Int),()):=by
 simp only[bits_Div64,bits_Div64_b,jnT]
 rw[decide_eq_false (show ¬ (y:Int)=0 by omega),cF,decide_eq_false (show ¬ (y:Int)<=(h:Int) by omega),cF]
 have hz:nzB (y:Int)=true:=nzB_of (by omega)
 by_cases h0:h=0
 ·subst h0
  rw[decide_eq_true (show ((0:Nat):Int)=0 from rfl),cT,hz,cT,cT,tdiv_nat,tmod_nat,Nat.zero_mul,Nat.zero_add]
  have:=Nat.div_le_self l y
  generalize l / y=d at *
  rw[u_wrap (by omega) (by omega)]
 ·rw[decide_eq_false (show ¬ (h:Int)=0 by omega),cF]
  obtain ⟨L,e1,⟨e2,e3⟩,e4⟩:=Len64_ok (n:=y) (by omega) hy2
  simp only[bits_LeadingZeros64,bits_LeadingZeros64_b,e1,obind_some']
  rw[wrap_id (x:=64 - (L:Int)) (by omega) (by omega)]
  obtain ⟨s,hs⟩:∃s:Nat,L+s=64:=⟨64 - L,by omega⟩
  have w1:IntKind.wrap .u64 (64 - (L:Int))=(s:Int):=by rw[u_wrap (by omega) (by omega)];omega
  have w2:IntKind.wrap .u64 (64 - (s:Int))=(L:Int):=by rw[u_wrap (by omega) (by omega)];omega
  have p2:∀k:Nat,(2:Int) ^ k=((2 ^ k:Nat):Int):=fun k=>by rw[Int.natCast_pow];rfl
  have p32:(2:Int) ^ (32:Nat)=4294967296:=by decide
  simp only[w1,w2,Int.toNat_natCast,Nat.min_eq_left (show s<=64 by omega),Nat.min_eq_left (show L<=64 by omega),p32]
  simp only[p2]
  have hPQ:2 ^ s*2 ^ L=18446744073709551616:=by rw[<-Nat.pow_add,show s+L=64 by omega]
  have hP:0<2 ^ s:=Nat.two_pow_pos s
  have hQ:0<2 ^ L:=Nat.two_pow_pos L
  have hYlt:y*2 ^ s<18446744073709551616:=by rw[<-hPQ,Nat.mul_comm (2 ^ s)];exact Nat.mul_lt_mul_of_pos_right e2 hP
  have hYge:9223372036854775808<=y*2 ^ s:=by
   have:=Nat.mul_le_mul_right (2 ^ s) e3
   rw[Nat.mul_comm (2 ^ L),hPQ,Nat.mul_assoc] at this
   omega
  have hhP:h*2 ^ s+2 ^ s<=y*2 ^ s:=by rw[<-Nat.succ_mul];exact Nat.mul_le_mul_right _ hy
  have hlQ:l / 2 ^ L<2 ^ s:=by rw[Nat.div_lt_iff_lt_mul hQ,hPQ];exact hl0
  have hlor:IntKind.wrap .u64 ((Nat.lor (Int.toNat (IntKind.wrap .u64 ((h:Int)*((2 ^ s:Nat):Int)) % Int.ofNat 18446744073709551616)) (Int.toNat (Int.fdiv (l:Int) ((2 ^ L:Nat):Int) % Int.ofNat 18446744073709551616)):Nat):Int)=((h*2 ^ s+l / 2 ^ L:Nat):Int):=by
   have a1:IntKind.wrap .u64 ((h:Int)*((2 ^ s:Nat):Int))=((h*2 ^ s:Nat):Int):=by rw[<-Int.natCast_mul,u_wrap (by omega) (by omega)]
   have a2:Int.fdiv (l:Int) ((2 ^ L:Nat):Int)=((l / 2 ^ L:Nat):Int):=by rw[fdiv_of (by omega)];rfl
   have a3:∀n:Nat,n<18446744073709551616->Int.toNat ((n:Int) % Int.ofNat 18446744073709551616)=n:=fun n hn=>by
    rw[show Int.ofNat 18446744073709551616=(18446744073709551616:Int) from rfl];omega
   rw[a1,a2,a3 (h*2 ^ s) (by omega),a3 (l / 2 ^ L) (by omega),lor_add hlQ]
   exact u_wrap (Int.natCast_nonneg _) (by
    have h5:h*2 ^ s+l / 2 ^ L<18446744073709551616:=by omega
    exact Int.ofNat_lt.2 h5)
  have hlo:IntKind.wrap .u64 ((l:Int)*((2 ^ s:Nat):Int))=((l % 2 ^ L*2 ^ s:Nat):Int):=by
   rw[<-Int.natCast_mul,IntKind.wrap_u64]
   have a1:l*2 ^ s=(l / 2 ^ L)*18446744073709551616+l % 2 ^ L*2 ^ s:=by
    rw[<-hPQ,Nat.mul_comm (2 ^ s),<-Nat.mul_assoc,<-Nat.add_mul,Nat.mul_comm (l / 2 ^ L),Nat.div_add_mod]
   have a2:l % 2 ^ L*2 ^ s<18446744073709551616:=by rw[<-hPQ,Nat.mul_comm (2 ^ s)];exact Nat.mul_lt_mul_of_pos_right (Nat.mod_lt _ hQ) hP
   rw[a1]
   generalize l / 2 ^ L=A at *
   generalize l % 2 ^ L*2 ^ s=B at *
   omega
  have hlolt:l % 2 ^ L*2 ^ s<18446744073709551616:=by rw[<-hPQ,Nat.mul_comm (2 ^ s)];exact Nat.mul_lt_mul_of_pos_right (Nat.mod_lt _ hQ) hP
  have hN:(h*18446744073709551616+l)*2 ^ s=(h*2 ^ s+l / 2 ^ L)*18446744073709551616+l % 2 ^ L*2 ^ s:=by
   have a1:l*2 ^ s=(l / 2 ^ L)*18446744073709551616+l % 2 ^ L*2 ^ s:=by
    rw[<-hPQ,Nat.mul_comm (2 ^ s),<-Nat.mul_assoc,<-Nat.add_mul,Nat.mul_comm (l / 2 ^ L),Nat.div_add_mod]
   rw[Nat.add_mul,a1,Nat.add_mul,Nat.mul_right_comm]
   omega
  have hY:IntKind.wrap .u64 ((y:Int)*((2 ^ s:Nat):Int))=((y*2 ^ s:Nat):Int):=by rw[<-Int.natCast_mul,u_wrap (by omega) (by omega)]
  have hdiv:(h*18446744073709551616+l) / y=((h*2 ^ s+l / 2 ^ L)*18446744073709551616+l % 2 ^ L*2 ^ s) / (y*2 ^ s):=by rw[<-hN,Nat.mul_div_mul_right _ _ hP]
  have hmod:((h*18446744073709551616+l) % y)*2 ^ s=((h*2 ^ s+l / 2 ^ L)*18446744073709551616+l % 2 ^ L*2 ^ s) % (y*2 ^ s):=by rw[<-hN,Nat.mul_mod_mul_right]
  rw[hlor,hlo,hY]
  have hU:h*2 ^ s+l / 2 ^ L<y*2 ^ s:=by omega
  have hm:(h*18446744073709551616+l) % y=((h*2 ^ s+l / 2 ^ L)*18446744073709551616+l % 2 ^ L*2 ^ s) % (y*2 ^ s) / 2 ^ s:=by rw[<-hmod,Nat.mul_div_cancel _ hP]
  rw[hdiv,hm]
  generalize h*2 ^ s+l / 2 ^ L=U at *
  generalize l % 2 ^ L*2 ^ s=W at *
  generalize y*2 ^ s=Y at *
  generalize 2 ^ s=P at *
  clear e2 e3 e1 hlor hlo hN hdiv hmod hm hlQ hPQ hhP hY
  have hdv:=dv_ok (P:=P) hYge hYlt hlolt hU
  rw[<-hdv]
  have c1:decide ((0:Int)<=(s:Int))=true:=decide_eq_true (by omega)
  have c2:decide ((0:Int)<=(L:Int))=true:=decide_eq_true (by omega)
  have c3:decide ((0:Int)<=(32:Int))=true:=rfl
  have c4:nzB ((Y:Int) / 4294967296)=true:=nzB_of (by omega)
  have m1:∀n:Nat,n<18446744073709551616->IntKind.wrap .u64 ((Nat.land (Int.toNat ((n:Int) % Int.ofNat 18446744073709551616)) (Int.toNat ((4294967295:Int) % Int.ofNat 18446744073709551616)):Nat):Int)=(n:Int) % 4294967296:=fun n hn=>by
   rw[land32 (by omega) (by omega),u_wrap (by omega) (by omega)]
  simp only[fdiv_of (show (0:Int)<=4294967296 by omega),c1,c2,c3,c4,m1 Y hYlt,m1 W hlolt,or_self_not,Bool.not_not,Bool.and_self,cT]
  rfl
theorem over_ok {n b:Nat} (hb0:0<b) (hb:b<18446744073709551616) (hn:n<340282366920938463463374607431768211456):ratio_over (hl n) (b:Int)=some (hl (n / b),((n % b:Nat):Int),()):=by
 have hz:nzB (b:Int)=true:=nzB_of (by omega)
 obtain ⟨h,l,hh,hl',hnn⟩:∃h l:Nat,h=n / 18446744073709551616/\l=n % 18446744073709551616/\n=h*18446744073709551616+l:=⟨_,_,rfl,rfl,by omega⟩
 have e:hl n=((h:Int),(l:Int)):=by unfold hl;rw[hh,hl']
 rw[e]
 simp only[ratio_over,ratio_over_b]
 rw[hz,tmod_nat,Div64_ok (Nat.mod_lt h hb0) hb (by omega),obind_some']
 have d1:=Nat.div_add_mod h b
 have d2:=Nat.mod_lt h hb0
 obtain ⟨A,hA⟩:∃A,A=h % b*18446744073709551616+l:=⟨_,rfl⟩
 rw[<-hA]
 have d3:=Nat.div_add_mod A b
 have d4:=Nat.mod_lt A hb0
 have d5:A / b<18446744073709551616:=(Nat.div_lt_iff_lt_mul hb0).2 (by
  have:(h % b+1)*18446744073709551616<=b*18446744073709551616:=Nat.mul_le_mul_right _ d2
  rw[Nat.mul_comm 18446744073709551616 b]
  omega)
 have hN:n=(h / b*18446744073709551616+A / b)*b+A % b:=by
  have e1:(h / b*18446744073709551616+A / b)*b=b*(h / b)*18446744073709551616+b*(A / b):=by grind
  rw[e1,hnn]
  generalize b*(h / b)=x at *
  generalize b*(A / b)=y at *
  generalize A % b=r at *
  generalize h % b=r1 at *
  clear e hz hb0 hb hn hh hl' hnn d5 e1
  omega
 obtain ⟨n1,n2⟩:=divMod_of d4 hN
 rw[n1,n2,tdiv_nat]
 have d6:h / b<18446744073709551616:=Nat.lt_of_le_of_lt (Nat.div_le_self h b) (by omega)
 generalize h / b=x at *
 generalize A / b=y at *
 rw[u_wrap (x:=(x:Int)) (by omega) (by omega)]
 unfold hl
 rw[show (x*18446744073709551616+y) / 18446744073709551616=x by omega,show (x*18446744073709551616+y) % 18446744073709551616=y by omega]
 rfl
theorem sum_cop {na nb:Int} {da A B:Nat} (ha:Nat.gcd na.natAbs da=1) (hA:A∣da) (hAB:Nat.gcd A B=1):Nat.gcd (na*B+nb*A).natAbs A=1:=by
 have d1:=Nat.gcd_dvd_left (na*B+nb*A).natAbs A
 have d2:=Nat.gcd_dvd_right (na*B+nb*A).natAbs A
 generalize Nat.gcd (na*B+nb*A).natAbs A=d at *
 have e1:(d:Int)∣na*B+nb*A:=Int.ofNat_dvd_left.2 d1
 have e2:(d:Int)∣nb*A:=Int.dvd_mul_of_dvd_right (Int.ofNat_dvd.2 d2)
 have e3:(d:Int)∣na*B:=(Int.dvd_iff_dvd_of_dvd_add e1).2 e2
 have e4:d∣na.natAbs*B:=by
  have:=Int.ofNat_dvd_left.1 e3
  rwa [Int.natAbs_mul,Int.natAbs_natCast] at this
 have e5:Nat.Coprime d na.natAbs:=(Nat.Coprime.coprime_dvd_right (Nat.dvd_trans d2 hA) ha).symm
 have e6:d∣B:=Nat.Coprime.dvd_of_dvd_mul_left e5 e4
 have e7:=Nat.dvd_gcd d2 e6
 rw[hAB] at e7
 exact Nat.dvd_one.1 e7
theorem sum_plain {na nb:Int} {da db g A B:Nat} (ha:Nat.gcd na.natAbs da=1) (hb:Nat.gcd nb.natAbs db=1) (h1:da=A*g) (h2:db=B*g) (hAB:Nat.gcd A B=1) (hg:0<g) (hA:0<A) (hB:0<B) {c:Nat} (hc:c=Nat.gcd g (na*B+nb*A).natAbs) :
  mkRat na da+mkRat nb db=mkRat (na*B+nb*A) (A*db)/\Nat.gcd ((na*B+nb*A).natAbs / c) (A*(db / c))=1/\0<c/\c∣(na*B+nb*A).natAbs/\c∣db:=by
 have hc0:0<c:=by rw[hc];exact Nat.gcd_pos_of_pos_left _ hg
 have k1:Nat.gcd (na*B+nb*A).natAbs A=1:=sum_cop ha ⟨g,h1⟩ hAB
 have k2:Nat.gcd (na*B+nb*A).natAbs B=1:=by
  rw[Int.add_comm]
  exact sum_cop hb ⟨g,h2⟩ (by rw[Nat.gcd_comm];exact hAB)
 have c1:c∣(na*B+nb*A).natAbs:=by rw[hc];exact Nat.gcd_dvd_right _ _
 have c2:c∣g:=by rw[hc];exact Nat.gcd_dvd_left _ _
 refine ⟨?_,?_,hc0,c1,by rw[h2];exact Nat.dvd_trans c2 (Nat.dvd_mul_left g B)⟩
 ·have p1:0<A*g:=Nat.mul_pos hA hg
  have p2:0<B*g:=Nat.mul_pos hB hg
  have p3:0<A*(B*g):=Nat.mul_pos hA p2
  rw[Rat.mkRat_add_mkRat _ _ (by omega) (by omega),h1,h2,Rat.mkRat_eq_iff (Nat.ne_of_gt (Nat.mul_pos p1 p2)) (by omega)]
  simp only[Int.natCast_mul]
  grind
 ·have c3:Nat.gcd ((na*B+nb*A).natAbs / c) (g / c)=1:=by
   rw[hc,Nat.gcd_comm]
   exact Nat.gcd_div_gcd_div_gcd_of_pos_left hg
  have hdb:db / c=B*(g / c):=by rw[h2,Nat.mul_div_assoc _ c2]
  have dv:(na*B+nb*A).natAbs / c∣(na*B+nb*A).natAbs:=Nat.div_dvd_of_dvd c1
  rw[hdb]
  exact Nat.Coprime.mul_right (Nat.Coprime.coprime_dvd_left dv k1) (Nat.Coprime.mul_right (Nat.Coprime.coprime_dvd_left dv k2) c3)
theorem Add_ok {a b:Fq} (ha:okF a) (hb:okF b):ratio_Add a b=some (fitQ (qv a+qv b)):=by
 obtain ⟨na,da'⟩:=a
 obtain ⟨nb,db'⟩:=b
 have ha':=ha
 have hb':=hb
 unfold okF at ha' hb'
 simp only at ha' hb'
 obtain ⟨⟨a1,a2⟩,⟨a3,a4⟩,a5⟩:=ha'
 obtain ⟨⟨b1,b2⟩,⟨b3,b4⟩,b5⟩:=hb'
 obtain ⟨da,rfl⟩:∃da:Nat,da'=da:=⟨da'.toNat,by omega⟩
 obtain ⟨db,rfl⟩:∃db:Nat,db'=db:=⟨db'.toNat,by omega⟩
 rw[Int.natAbs_natCast] at a5 b5
 simp only[ratio_Add,ratio_Add_b,Valid_ok,decide_eq_true ha,decide_eq_true hb,obind_some',Bool.not_true,Bool.not_false,Bool.or_true,cT,cF,jnT]
 rw[u_wrap (x:=(da:Int)) (by omega) (by omega),u_wrap (x:=(db:Int)) (by omega) (by omega),gcd_ok _ _ (by omega),obind_some',size_ok (by omega) (by omega),obind_some',size_ok (by omega) (by omega)]
 have hg:0<Nat.gcd da db:=Nat.gcd_pos_of_pos_left _ (by omega)
 have hgl:Nat.gcd da db<=da:=Nat.gcd_le_left _ (by omega)
 obtain ⟨A,hA⟩:∃A,A=da / Nat.gcd da db:=⟨_,rfl⟩
 obtain ⟨B,hB⟩:∃B,B=db / Nat.gcd da db:=⟨_,rfl⟩
 have hAg:da=A*Nat.gcd da db:=by rw[hA,Nat.div_mul_cancel (Nat.gcd_dvd_left _ _)]
 have hBg:db=B*Nat.gcd da db:=by rw[hB,Nat.div_mul_cancel (Nat.gcd_dvd_right _ _)]
 have hAB:Nat.gcd A B=1:=by rw[hA,hB];exact Nat.gcd_div_gcd_div_gcd_of_pos_left (by omega)
 have hA0:0<A:=by rw[hA];exact Nat.div_pos (Nat.gcd_le_left _ (by omega)) hg
 have hB0:0<B:=by rw[hB];exact Nat.div_pos (Nat.gcd_le_right _ (by omega)) hg
 have hAl:A<=da:=by rw[hA];exact Nat.div_le_self _ _
 have hBl:B<=db:=by rw[hB];exact Nat.div_le_self _ _
 have hz:nzB ((Nat.gcd da db:Nat):Int)=true:=nzB_of (by omega)
 rw[hz,cT,tdiv_nat,tdiv_nat,<-hA,<-hB,u_wrap (x:=(A:Int)) (by omega) (by omega),u_wrap (x:=(B:Int)) (by omega) (by omega)]
 have x1:na.natAbs*B<=1152921504606846976*1152921504606846976:=Nat.mul_le_mul (by omega) (by omega)
 have y1:nb.natAbs*A<=1152921504606846976*1152921504606846976:=Nat.mul_le_mul (by omega) (by omega)
 rw[product_ok (by omega) (by omega),obind_some',obind_some',cT,product_ok (by omega) (by omega),obind_some']
 have hsum:=sum_plain (na:=na) (nb:=nb) a5 b5 hAg hBg hAB hg hA0 hB0 rfl
 generalize Nat.gcd da db=g at *
 have hv:qv (na,(da:Int))+qv (nb,(db:Int))=mkRat na da+mkRat nb db:=rfl
 rw[hv,hsum.1]
 simp only[or_self_not,Bool.not_not,cT]
 have tail:∀(s:Bool) (N:Nat),N<=2658455991569831745807614120560689152->sgn s N=na*B+nb*A->(bif decide ((hl N).1=0)&&(decide ((hl N).2=0)&&true) then some (((0:Int),(1:Int)),(0:Int),PUnit.unit) else
   obind (ratio_over (hl N) (g:Int)) fun t_5=>obind (ratio_gcd (g:Int) t_5.2.1) fun t_1=>obind (ratio_over (hl N) t_1) fun t_6=>bif nzB t_1 then obind (ratio_product (A:Int) (IntKind.wrap .u64 (Int.tdiv (db:Int) t_1))) fun t =>
    bif bif decide (t_6.1.1>0) then true else decide (t.1>0) then some (((0:Int),(0:Int)),(5:Int),PUnit.unit) else obind (ratio_signed s t_6.1.2 t.2) fun t=>some (t.1,t.2.1,PUnit.unit) else none)=some (fitQ (mkRat (na*B+nb*A) (A*db))):=by
  intro s N hN hs
  have hNT:(na*B+nb*A).natAbs=N:=by rw[<-hs];unfold sgn;split<;>simp
  rw[hNT] at hsum
  rw[zero_hl (by omega)]
  by_cases h0:N=0
  ·rw[decide_eq_true h0,cT,<-hs,h0,show sgn s 0=0 by unfold sgn;cases s<;>rfl,Rat.zero_mkRat]
   rfl
  ·obtain ⟨c,hc⟩:∃c,c=Nat.gcd g N:=⟨_,rfl⟩
   rw[<-hc] at hsum
   obtain ⟨_,s2,s3,s4,s5⟩:=hsum
   have hcg:c<=g:=by rw[hc];exact Nat.gcd_le_left _ hg
   rw[decide_eq_false h0,cF,over_ok hg (by omega) (by omega),obind_some',gcd_ok _ _ (by have:=Nat.mod_lt N hg;generalize N % g=w at *;omega),obind_some',Nat.gcd_comm,<-Nat.gcd_rec,<-hc,over_ok s3 (by omega) (by omega),obind_some',nzB_of (by omega),cT,tdiv_nat]
   have hdc:db / c<=db:=Nat.div_le_self _ _
   have hdc0:0<db / c:=Nat.div_pos (Nat.le_of_dvd (by omega) s5) s3
   rw[u_wrap (by omega) (by generalize db / c=w at *;omega),product_ok (by omega) (by generalize db / c=w at *;omega),obind_some']
   have hNc:N / c<=N:=Nat.div_le_self _ _
   have hval:mkRat (na*B+nb*A) (A*db)=mkRat (sgn s (N / c)) (A*(db / c)):=by
    rw[<-hs]
    refine mkQ_congr (Nat.mul_pos hA0 (by omega)) (Nat.mul_pos hA0 hdc0) ?_
    obtain ⟨x,rfl⟩:=s4
    obtain ⟨y,rfl⟩:=s5
    rw[Nat.mul_div_cancel_left _ s3,Nat.mul_div_cancel_left _ s3]
    grind
   rw[hval,fit_low (Nat.mul_pos hA0 hdc0) s2]
   have hden:A*(db / c)<=1152921504606846976*1152921504606846976:=Nat.mul_le_mul (by omega) (by omega)
   generalize N / c=n at *
   generalize A*(db / c)=d at *
   by_cases hn:n<18446744073709551616
   ·by_cases hd:d<18446744073709551616
    ·rw[hl_small hn,hl_small hd]
     simp only
     rw[show decide ((0:Int)>0)=false from rfl,cF,cF,signed_ok _ _ _ hn hd,obind_some']
    ·rw[hl_small hn]
     simp only
     rw[show decide ((0:Int)>0)=false from rfl,decide_eq_true (hl_big hd),cF,cT,if_neg (by omega)]
   ·rw[decide_eq_true (hl_big hn),cT,cT,if_neg (by omega)]
 have sx:∀{n:Int} {s:Bool},s=decide (n<0)->n=sgn s n.natAbs:=fun {n s} h=>by rw[h];exact size_sgn n
 by_cases hsg:decide (na<0)=decide (nb<0)
 ·rw[decide_eq_true hsg,cT,rPlus_ok (by omega),obind_some']
  refine tail _ _ (by omega) ?_
  have e1:na=sgn (decide (na<0)) na.natAbs:=size_sgn na
  have e2:nb=sgn (decide (na<0)) nb.natAbs:=by rw[hsg];exact size_sgn nb
  generalize na.natAbs=m at *
  generalize nb.natAbs=n at *
  generalize decide (na<0)=s at *
  rw[e1,e2]
  unfold sgn
  cases s
  ·simp only[Bool.false_eq_true,if_false]
   rw[Int.natCast_add,Int.natCast_mul,Int.natCast_mul]
  ·simp only[if_true]
   rw[Int.natCast_add,Int.natCast_mul,Int.natCast_mul]
   grind
 ·have e1:na=sgn (decide (na<0)) na.natAbs:=size_sgn na
  have e2:nb=sgn (!decide (na<0)) nb.natAbs:=by
   have:(!decide (na<0))=decide (nb<0):=by
    clear tail sx hsum hv ha hb
    revert hsg
    cases decide (na<0)<;>cases decide (nb<0)<;>simp
   rw[this];exact size_sgn nb
  rw[decide_eq_false hsg,cF,rLess_ok,obind_some']
  by_cases hlt:na.natAbs*B<nb.natAbs*A
  ·rw[decide_eq_true hlt,cT,rMinus_ok (by omega) (by omega),obind_some']
   refine tail _ _ (by omega) ?_
   generalize na.natAbs=m at *
   generalize nb.natAbs=n at *
   generalize decide (na<0)=s at *
   rw[e1,e2]
   have e3:(((n*A - m*B:Nat)):Int)=(n:Int)*A - (m:Int)*B:=by rw[Int.ofNat_sub (Nat.le_of_lt hlt),Int.natCast_mul,Int.natCast_mul]
   unfold sgn
   cases s
   ·simp only[Bool.false_eq_true,if_false,Bool.not_false,if_true]
    grind
   ·simp only[if_true,Bool.not_true,Bool.false_eq_true,if_false]
    grind
  ·rw[decide_eq_false hlt,cF,rMinus_ok (by omega) (by omega),obind_some']
   refine tail _ _ (by omega) ?_
   generalize na.natAbs=m at *
   generalize nb.natAbs=n at *
   generalize decide (na<0)=s at *
   rw[e1,e2]
   have e3:(((m*B - n*A:Nat)):Int)=(m:Int)*B - (n:Int)*A:=by rw[Int.ofNat_sub (Nat.not_lt.1 hlt),Int.natCast_mul,Int.natCast_mul]
   unfold sgn
   cases s
   ·simp only[Bool.false_eq_true,if_false,Bool.not_false,if_true]
    grind
   ·simp only[if_true,Bool.not_true,Bool.false_eq_true,if_false]
    grind
theorem repeat_one (z:Fq) {n:Nat} (hn:n<=1000000):slices_Repeat_113 [z] (n:Int)=some (List.replicate n z):=by
 have hm:bits_Mul (IntKind.wrap .u64 ((List.length [z]:Nat):Int)) (IntKind.wrap .u64 (n:Int))=some (0,(n:Int),()):=by
  simp only[bits_Mul,bits_Mul_b]
  rw[u_wrap (by simp) (by simp),u_wrap (by omega) (by omega),mulW (by simp) (by simp) (by omega) (by omega),obind_some']
  simp only[List.length_singleton]
  congr 1
  refine Prod.ext ?_ (Prod.ext ?_ rfl)
  ·show ((1:Nat):Int)*n / 18446744073709551616=0
   omega
  ·show ((1:Nat):Int)*n % 18446744073709551616=n
   omega
 have hw:IntKind.wrap .i64 (n:Int)=(n:Int):=wrap_id (by omega) (by omega)
 simp only[slices_Repeat_113,slices_Repeat_113_b,jnT]
 rw[decide_eq_false (show ¬ (n:Int)<0 by omega),cF,hm,obind_some']
 have h63:decide ((n:Int)>9223372036854775807)=false:=decide_eq_false (by omega)
 have hz0:decide ((0:Int)>0)=false:=rfl
 have hz1:decide ((0:Int)<=(n:Int))=true:=decide_eq_true (by omega)
 have hfb:fitB n 16=true:=fitB_of (by omega)
 simp only[hw,hz0,h63,hz1,Int.toNat_natCast,hfb,Bool.not_false,Bool.not_true,Bool.or_true,Bool.and_self,cT,cF,List.drop_zero,List.take_zero,List.nil_append]
 refine lpK_loop (g:=fun _=>some (List.replicate n z)) (I:=fun (x:Int×List Fq×PUnit)=>∃c:Nat,x.1=c/\c<=n/\(0<n->0<c)/\x.2.1.length=n/\x.2.1.take c=List.replicate c z) (μ:=fun (x:Int×List Fq×PUnit)=>n - x.1.toNat) ?_ ?_ (by simp only;omega)
 ·rintro ⟨i,row,_⟩ rec ⟨c,h1,h2,h3,h4,h5⟩ hrec
  simp only at h1 h4 h5 hrec ⊢
  subst h1
  simp only[Int.toNat_natCast,h4]
  by_cases hc:c<n
  ·have hl:(List.take (n - c) (List.take c row)).length=min (n - c) c:=by rw[List.length_take,List.length_take,h4];omega
   rw[decide_eq_true (show (c:Int)<n by omega),cT,slB_of (by omega) (by omega) (by omega),slB_of (by omega) (by omega) (by omega),ble_of (by omega),ble_of (Nat.le_refl n)]
   simp only[Bool.and_self,cT]
   rw[wrap_id (by omega) (by omega)]
   refine hrec _ ⟨c+min (n - c) c,?_,by omega,by omega,?_,?_⟩ ?_
   ·simp only;rw[hl];omega
   ·simp only[List.length_append,List.length_drop,hl,h4,List.length_take];omega
   ·simp only
    rw[List.take_append_of_le_length (by rw[List.length_append,hl,List.length_take,h4];omega),h5,List.take_replicate,List.replicate_append_replicate,List.take_replicate]
    congr 1
    omega
   ·simp only;rw[hl];omega
  ·have:c=n:=by omega
   subst this
   rw[decide_eq_false (show ¬ (c:Int)<c by omega),cF]
   rw[<-h5,List.take_of_length_le (by omega)]
 ·refine ⟨(List.take n [z]).length,rfl,by rw[List.length_take];omega,fun h=>by rw[List.length_take];simp;omega,?_,?_⟩
  ·simp only[List.length_append,List.length_drop,List.length_replicate,List.length_take,List.length_singleton];omega
  ·simp only
   rcases Nat.eq_zero_or_pos n with h | h
   ·subst h;rfl
   ·obtain ⟨m,rfl⟩:∃m,n=m+1:=⟨n - 1,by omega⟩
    simp
def shareQ (l:List Bm) (x:Ld):Rat:=mkRat x.2 (cntB l x.1)
def stepQ (l:List Bm) (x:Ld) (S:Nat->Rat):Nat->Rat:=fun i=>if isB x.1 (bmAt l i) then S i+shareQ l x else S i
def allFit (n:Nat) (S:Nat->Rat):Bool:=(List.range' 0 n).all fun i=>decide (fitsQ (S i))
def runQ (l:List Bm):List Ld->(Nat->Rat)->Option (Nat->Rat)
 | [],S=>some S
 | x ::r,S=>if allFit l.length (stepQ l x S) then runQ l r (stepQ l x S) else none
def outQ (n:Nat) (S:Nat->Rat):List Fq:=(List.range' 0 n).map fun i=>prQ (S i)
theorem outQ_len (n:Nat) (S:Nat->Rat):(outQ n S).length=n:=by simp[outQ]
theorem outQ_get {n i:Nat} (h:i<n) (S:Nat->Rat) {d:Fq}:(outQ n S).getD i d=prQ (S i):=by
 rw[getD_nat (by rw[outQ_len];exact h)]
 simp[outQ]
theorem allFit_iff {n:Nat} {S:Nat->Rat}:allFit n S=true↔∀i,i<n->fitsQ (S i):=by
 unfold allFit
 rw[List.all_eq_true]
 constructor
 ·intro h i hi
  exact of_decide_eq_true (h i (List.mem_range'.2 ⟨i,hi,by omega⟩))
 ·intro h i hi
  obtain ⟨k,hk,rfl⟩:=List.mem_range'.1 hi
  exact decide_eq_true (h _ (by omega))
abbrev Sg:=List Fq×Int×Int×List Fq×PUnit
abbrev Rg:=List Fq×Int×PUnit
noncomputable def addB (share:Fq) (a:Int×Unit) (s:Sg) (k:Sg->Option Rg):Option Rg :=
 bif inB a.1 (List.length s.2.2.2.1) then bif Nat.ble (Nat.succ (Int.toNat a.1)) (List.length s.2.2.2.1) then obind (ratio_Add (List.getD s.2.2.2.1 (Int.toNat a.1) ((0:Int),(0:Int))) share) fun (t:(Int×Int)×Int×PUnit) =>
  bif inB a.1 (List.length s.2.2.2.1) then bif Nat.ble (Nat.succ (Int.toNat a.1)) (List.length s.2.2.2.1) then bif !decide (t.2.1=(0:Int)) then some ([],t.2.1,PUnit.unit) else
   k (s.1,s.2.1,t.2.1,List.set s.2.2.2.1 (Int.toNat a.1) t.1,PUnit.unit) else none else none else none else none
def updQ (S:Nat->Rat) (i:Nat) (v:Rat):Nat->Rat:=fun j=>if j=i then v else S j
theorem outQ_set {n i:Nat} (S:Nat->Rat) (v:Rat):(outQ n S).set i (prQ v)=outQ n (updQ S i v):=by
 apply List.ext_getElem
 ·rw[List.length_set,outQ_len,outQ_len]
 ·intro j h1 h2
  rw[List.getElem_set]
  simp only[outQ,List.getElem_map,List.getElem_range',updQ]
  by_cases e:i=j
  ·subst e;simp
  ·rw[if_neg e,if_neg (by omega)]
theorem add_step {n i:Nat} {S:Nat->Rat} {q:Rat} (hi:i<n) (hS:∀j,j<n->fitsQ (S j)) (hq:fitsQ q) {d1:List Fq} {d2 e:Int} {k:Sg->Option Rg} :
  addB (prQ q) ((i:Int),()) (d1,d2,e,outQ n S,()) k=if fitsQ (S i+q) then k (d1,d2,0,outQ n (updQ S i (S i+q)),()) else some ([],5,()):=by
 unfold addB
 simp only[outQ_len,Int.toNat_natCast]
 rw[inB_of (by omega) (by omega),ble_of (by omega)]
 simp only[cT,outQ_get hi]
 rw[Add_ok (okF_prQ (hS i hi)) (okF_prQ hq),obind_some',qv_prQ,qv_prQ]
 rcases fitQ_cases (S i+q) with ⟨h1,h2⟩ | ⟨h1,h2⟩
 ·rw[h2,if_pos h1,outQ_set]
  rfl
 ·rw[h2,if_neg h1]
  rfl
def mixQ (l:List Bm) (x:Ld) (S:Nat->Rat) (k:Nat):Nat->Rat:=fun j=>if j<k then stepQ l x S j else S j
theorem inner_ok {l:List Bm} {x:Ld} {S:Nat->Rat} (hS:∀j,j<l.length->fitsQ (S j)) (hq:fitsQ (shareQ l x)) {d1:List Fq} {d2:Int} {f:Sg->Option Rg} :
  ∀(m k:Nat),k+m=l.length->(∀j,j<k->fitsQ (stepQ l x S j))->upF (fun i s kk=>bif isB x.1 (bmAt l i) then addB (prQ (shareQ l x)) ((i:Int),()) s kk else kk s) f m k (d1,d2,0,outQ l.length (mixQ l x S k),()) =
   if allFit l.length (stepQ l x S) then f (d1,d2,0,outQ l.length (stepQ l x S),()) else some ([],5,())
 | 0,k,hk,hf=>by
  have hk:k=l.length:=by omega
  subst hk
  rw[if_pos (allFit_iff.2 hf)]
  simp only[upF]
  congr 3
  show (0,outQ _ _,())=(0,outQ _ _,())
  congr 2
  unfold outQ
  apply List.map_congr_left
  intro i hi
  obtain ⟨j,hj,rfl⟩:=List.mem_range'.1 hi
  unfold mixQ
  rw[if_pos (by omega)]
 | m+1,k,hk,hf=>by
  have hk':k<l.length:=by omega
  simp only[upF]
  have hmix:∀j,j<l.length->fitsQ (mixQ l x S k j):=fun j hj=>by
   unfold mixQ
   split
   ·exact hf j (by assumption)
   ·exact hS j hj
  have hmk:mixQ l x S k k=S k:=by unfold mixQ;rw[if_neg (by omega)]
  cases hb:isB x.1 (bmAt l k) with
  | false =>
   rw[cond_false]
   have hst:stepQ l x S k=S k:=by unfold stepQ;rw[hb];rfl
   have e:mixQ l x S k=mixQ l x S (k+1):=by
    funext j
    unfold mixQ
    by_cases h1:j<k
    ·rw[if_pos h1,if_pos (by omega)]
    ·by_cases h2:j=k
     ·subst h2;rw[if_neg (by omega),if_pos (by omega),hst]
     ·rw[if_neg h1,if_neg (by omega)]
   rw[e]
   exact inner_ok hS hq m (k+1) (by omega) fun j hj=>by
    by_cases h2:j=k
    ·subst h2;rw[hst];exact hS j hk'
    ·exact hf j (by omega)
  | true =>
   rw[cond_true,add_step hk' hmix hq,hmk]
   have hst:stepQ l x S k=S k+shareQ l x:=by unfold stepQ;rw[hb];rfl
   by_cases h1:fitsQ (S k+shareQ l x)
   ·rw[if_pos h1]
    have e:updQ (mixQ l x S k) k (S k+shareQ l x)=mixQ l x S (k+1):=by
     funext j
     unfold mixQ updQ
     by_cases h2:j=k
     ·subst h2;rw[if_pos rfl,if_pos (by omega),hst]
     ·rw[if_neg h2]
      dsimp only
      by_cases h3:j<k
      ·rw[if_pos h3,if_pos (by omega)]
      ·rw[if_neg h3,if_neg (by omega)]
    rw[e]
    exact inner_ok hS hq m (k+1) (by omega) fun j hj=>by
     by_cases h2:j=k
     ·subst h2;rw[hst];exact h1
     ·exact hf j (by omega)
   ·rw[if_neg h1,if_neg]
    intro h2
    exact h1 (hst ▸ allFit_iff.1 h2 k hk')
theorem share_fits {l:List Bm} {x:Ld} (hl:l.length<=1000000) (hx:inW x.2=true) (hc:cntB l x.1≠0):fitsQ (shareQ l x):=by
 have:=cntB_le l x.1
 simp only[inW,decide_eq_true_eq] at hx
 unfold shareQ fitsQ
 rw[Rat.num_mkRat,Rat.den_mkRat]
 rw[if_neg hc,if_neg hc]
 constructor
 ·rw[Int.natAbs_ediv_of_dvd]
  ·exact Nat.le_trans (Nat.div_le_self _ _) (by omega)
  ·exact Int.ofNat_dvd_left.2 (Nat.gcd_dvd_right _ _)
 ·exact Nat.le_trans (Nat.div_le_self _ _) (by omega)
theorem listF_all {α σ R:Type} {b:α->σ->(σ->Option R)->Option R} {f:σ->Option R} {p:α->Bool} {r:Option R}:∀{L:List α} {s:σ},(∀a ∈ L,∀s k,b a s k=bif p a then k s else r)->listF b f L s=bif L.all p then f s else r
 | [],_,_=>rfl
 | a ::L,s,h=>by
  simp only[listF,List.all_cons]
  rw[h a (by simp)]
  cases p a with
  | true=>exact listF_all fun a' ha=>h a' (by simp[ha])
  | false=>rfl
def noneB (l:List Bm) (at_:List Ld):Bool:=at_.any fun x=>decide (cntB l x.1=0)
def borneQ (l:List Bm) (at_:List Ld):Rg:=if noneB l at_ then ([],12,()) else match runQ l at_ (fun _=>0) with
 | some S=>(outQ l.length S,0,())
 | none=>([],5,())
theorem outQ_zero (n:Nat):outQ n (fun _=>0)=List.replicate n ((0:Int),(1:Int)):=by
 apply List.ext_getElem
 ·rw[outQ_len,List.length_replicate]
 ·intro i h1 h2
  simp only[outQ,List.getElem_map,List.getElem_replicate]
  rfl
theorem make_share {l:List Bm} {x:Ld} (hl:l.length<=1000000) (hx:inW x.2=true) (hc:cntB l x.1≠0):(if ((cntB l x.1:Nat):Int)=0 then (((0:Int),(0:Int)),(16:Int),()) else fitQ (divQ x.2 (cntB l x.1:Nat)))=(prQ (shareQ l x),0,()):=by
 have hle:=cntB_le l x.1
 rw[if_neg (by omega)]
 have e:divQ x.2 (cntB l x.1:Nat)=shareQ l x:=by
  unfold divQ shareQ sgn
  simp only[inW,decide_eq_true_eq] at hx
  rw[show (decide (x.2<0) !=decide (((cntB l x.1:Nat):Int)<0))=false by rw[decide_eq_false (by omega),decide_eq_false (by omega)];rfl]
  simp only[Bool.false_eq_true,if_false,Int.natAbs_natCast]
  congr 1
  omega
 rw[e,<-fitQ_qv (okF_prQ (share_fits hl hx hc)),qv_prQ]
theorem borne_ok {l:List Bm} {at_:List Ld} (hl:l.length<=1000000) (ha:at_.length<=1000000) (hw:∀x ∈ at_,inW x.2=true):grid_borne l at_=some (borneQ l at_):=by
 simp only[grid_borne,grid_borne_b,grid_of,grid_of_b,obind_some']
 rw[repeat_one _ hl,obind_some',<-outQ_zero]
 refine' (lpK_int at_ ((0:Int),(0:Int)) (by omega) (fun i (s:List Fq×Int)=>(((i:Nat):Int),s.1,s.2,PUnit.unit)) (fun x s k=>bif decide (((cntB l x.1:Nat):Int)=0) then some ([],12,()) else k s) _ ?_ ?_ (([]:List Fq),(0:Int))).trans ?_
 rotate_left
 ·intro again i s hi
  have hwr:IntKind.wrap .i64 ((i:Int)+1)=((i+1:Nat):Int):=by rw[wrap_id (by omega) (by omega)];rfl
  simp only[inB_nat,decide_eq_true hi,decide_eq_true (show (i:Int)<at_.length by omega),cT,Int.toNat_natCast,hwr,count_ok hl,obind_some']
 ·intro again s
  simp only[decide_eq_false (show ¬ (at_.length:Int)<at_.length by omega),cF]
  rfl
 ·rw[listF_all (p:=fun x=>!decide (((cntB l x.1:Nat):Int)=0)) (r:=some ([],12,())) (fun x _ s k=>by cases decide (((cntB l x.1:Nat):Int)=0)<;>rfl)]
  unfold borneQ
  have hall:(at_.all fun x=>!decide (((cntB l x.1:Nat):Int)=0))=!noneB l at_:=by
   unfold noneB
   rw[List.not_any_eq_all_not]
   congr 1
   funext x
   congr 1
   rw[Bool.eq_iff_iff,decide_eq_true_iff,decide_eq_true_iff]
   omega
  rw[hall]
  cases hn:noneB l at_ with
  | true=>rfl
  | false =>
   simp only[Bool.not_false,cT,Bool.false_eq_true,if_false]
   have hc:∀x ∈ at_,cntB l x.1≠0:=fun x hx e=>by
    unfold noneB at hn
    have:=List.any_eq_false.1 hn x hx
    simp[e] at this
   refine (lpK_int at_ ((0:Int),(0:Int)) (by omega) (fun i (s:List Fq×Int×List Fq)=>(((i:Nat):Int),s.1,s.2.1,s.2.2,PUnit.unit))
    (fun x s k=>bif decide (cntB l x.1=0) then none else upF (fun i s kk=>bif isB x.1 (bmAt l i) then addB (prQ (shareQ l x)) ((i:Int),()) s kk else kk s) (fun s=>k (s.1,s.2.1,s.2.2.2.1)) l.length 0 (s.1,s.2.1,0,s.2.2,()))
    (fun s=>some (s.2.2,0,())) ?_ (fun again s=>?_) (([]:List Fq),(0:Int),outQ l.length (fun _=>0))).trans ?_
   ·intro again i s hi
    have hwr:IntKind.wrap .i64 ((i:Int)+1)=((i+1:Nat):Int):=by rw[wrap_id (by omega) (by omega)];rfl
    have hmem:at_.getD i ((0:Int),(0:Int)) ∈ at_:=by rw[getD_nat hi];exact List.getElem_mem hi
    have hc':=hc _ hmem
    have hw':=hw _ hmem
    simp only[inB_nat,decide_eq_true hi,decide_eq_true (show (i:Int)<at_.length by omega),cT,Int.toNat_natCast,hwr,count_ok hl,obind_some']
    generalize at_.getD i ((0:Int),(0:Int))=x at *
    have hle:=cntB_le l x.1
    have hx:=hw'
    simp only[inW,decide_eq_true_eq] at hx
    rw[decide_eq_false hc',cF,Make_ok (by omega) (by omega) (by omega) (by omega),obind_some',make_share hl hw' hc']
    simp only[decide_true,Bool.not_true,cF,overP_of hl,cT]
    refine (lpK_nat (overL l x.1) ((0:Int),()) (by rw[overL_len];omega) (addB (prQ (shareQ l x))) (fun (s:Sg)=>again (((i+1:Nat):Int),s.1,s.2.1,s.2.2.2.1,PUnit.unit)) ?_ (fun again' s'=>?_) (s.1,s.2.1,(0:Int),s.2.2,PUnit.unit)).trans ?_
    ·intro again' j s' hj
     rw[show Nat.ble (Nat.succ j) (overL l x.1).length=true from ble_of (by omega),cT]
     rfl
    ·rw[show Nat.ble (Nat.succ (overL l x.1).length) (overL l x.1).length=false by rw[Bool.eq_false_iff];intro e;have:=Nat.le_of_ble_eq_true e;omega,cF]
    ·exact overG_walk (l:=l) (c:=fun i _ s k=>addB (prQ (shareQ l x)) ((i:Int),()) s k) (fun _ _ _ _=>rfl) l.length 0 _ (by omega)
   ·simp only[decide_eq_false (show ¬ (at_.length:Int)<at_.length by omega),cF]
   ·have key:∀(L:List Ld) (S:Nat->Rat),(∀x ∈ L,inW x.2=true)->(∀x ∈ L,cntB l x.1≠0)->(∀j,j<l.length->fitsQ (S j)) ->
      listF (fun x (s:List Fq×Int×List Fq) (k:List Fq×Int×List Fq->Option Rg)=>bif decide (cntB l x.1=0) then none else upF (fun i s kk=>bif isB x.1 (bmAt l i) then addB (prQ (shareQ l x)) ((i:Int),()) s kk else kk s) (fun s=>k (s.1,s.2.1,s.2.2.2.1)) l.length 0 (s.1,s.2.1,0,s.2.2,()))
       (fun s=>some (s.2.2,0,())) L (([]:List Fq),(0:Int),outQ l.length S)=some (match runQ l L S with | some S=>(outQ l.length S,0,()) | none=>([],5,())):=by
     intro L
     induction L with
     | nil=>intro S _ _ _;rfl
     | cons x L ih =>
      intro S h1 h2 h3
      simp only[listF]
      have hx:=h1 x (by simp)
      have hcx:=h2 x (by simp)
      have:=inner_ok (f:=fun s=>listF (fun x (s:List Fq×Int×List Fq) (k:List Fq×Int×List Fq->Option Rg)=>bif decide (cntB l x.1=0) then none else upF (fun i s kk=>bif isB x.1 (bmAt l i) then addB (prQ (shareQ l x)) ((i:Int),()) s kk else kk s) (fun s=>k (s.1,s.2.1,s.2.2.2.1)) l.length 0 (s.1,s.2.1,0,s.2.2,()))
       (fun s=>some (s.2.2,0,())) L (s.1,s.2.1,s.2.2.2.1)) (d1:=([]:List Fq)) (d2:=(0:Int)) h3 (share_fits hl hx hcx) l.length 0 (by omega) (fun j hj=>by omega)
      rw[decide_eq_false hcx,cF]
      have e0:mixQ l x S 0=S:=by funext j;unfold mixQ;rw[if_neg (by omega)]
      rw[e0] at this
      rw[this]
      unfold runQ
      cases hf:allFit l.length (stepQ l x S) with
      | false=>rfl
      | true =>
       simp only[if_true]
       exact ih (stepQ l x S) (fun y hy=>h1 y (by simp[hy])) (fun y hy=>h2 y (by simp[hy])) (allFit_iff.1 hf)
    exact key at_ (fun _=>0) hw hc (fun j _=>by show fitsQ 0;decide)
theorem contains_of_idx {α:Type} {p:α->Bool} {l:List α}:decide (idxI p l 0>=0)=l.any p:=by
 have:=idxI_neg (p:=p) (l:=l) (i:=0) (by omega)
 rw[Bool.eq_iff_iff,decide_eq_true_iff,List.any_eq_true]
 constructor
 ·intro h1
  by_cases h2:∃a ∈ l,p a=true
  ·exact h2
  ·have:idxI p l 0<0:=this.2 fun a ha=>by
    cases e:p a with
    | false=>rfl
    | true=>exact (h2 ⟨a,ha,e⟩).elim
   omega
 ·rintro ⟨a,ha,h3⟩
  by_cases h2:idxI p l 0<0
  ·rw[this.1 h2 a ha] at h3;cases h3
  ·omega
theorem contains31 {f:(Ld×Unit)->Option Bool} {p:Ld->Bool} {l:List Ld} (hl:l.length<=1000000) (h:∀a,a ∈ l->f (a,())=some (p a)):slices_ContainsFunc_111 l f=some (l.any p):=by
 simp only[slices_ContainsFunc_111,slices_ContainsFunc_111_b]
 unfold slices_IndexFunc_132 slices_IndexFunc_132_b
 rw[index_loop (f:=f) (d:=((0:Int),(0:Int))) hl h,obind_some',contains_of_idx]
theorem given1_ok (x:Ld):grid_given_1 x=some (!loadB x):=by
 obtain ⟨a,w⟩:=x
 simp only[grid_given_1,grid_given_1_b,within_ok,obind_some',loadB]
 cases inL a with
 | false=>rfl
 | true =>
  unfold inW
  by_cases h1:w<0
  ·rw[decide_eq_true h1,decide_eq_false (show ¬ (0<=w/\w<=67108864) by omega)];rfl
  ·by_cases h2:w>67108864
   ·rw[decide_eq_false h1,decide_eq_true h2,decide_eq_false (show ¬ (0<=w/\w<=67108864) by omega)];rfl
   ·rw[decide_eq_false h1,decide_eq_false h2,decide_eq_true (show (0<=w/\w<=67108864) by omega)];rfl
theorem given_ok (l:List Bm) (at_:List Ld):grid_given l at_=some (bif validG l&&rightG at_ then 0 else 1):=by
 simp only[grid_given,grid_given_b,gValid_ok,obind_some']
 cases validG l with
 | false=>cases decide (((at_.length:Nat):Int)>1000)<;>rfl
 | true =>
  by_cases h0:at_.length<=1000
  ·have hr:rightG at_=at_.all loadB:=by unfold rightG;rw[decide_eq_true h0,Bool.true_and]
   rw[decide_eq_false (show ¬ ((at_.length:Nat):Int)>1000 by omega),hr]
   have hc:slices_ContainsFunc_111 at_ (fun x=>grid_given_1 x.1)=some (at_.any fun x=>!loadB x):=contains31 (p:=fun x=>!loadB x) (by omega) fun a _=>given1_ok a
   have e:(at_.any fun x=>!loadB x)=!at_.all loadB:=by rw[List.not_all_eq_any_not]
   simp only[Bool.not_true,Bool.not_false,cT,cF,Bool.or_false,Bool.false_or,Bool.or_true,Bool.true_or,hc,e,obind_some']
   cases at_.all loadB<;>rfl
  ·have hr:rightG at_=false:=by unfold rightG;rw[decide_eq_false h0,Bool.false_and]
   rw[decide_eq_true (show ((at_.length:Nat):Int)>1000 by omega),hr]
   rfl
theorem validG_len {l:List Bm} (h:validG l=true):l.length<=20:=by
 simp only[validG,Bool.and_eq_true,decide_eq_true_eq] at h
 exact h.1
theorem rightG_len {at_:List Ld} (h:rightG at_=true):at_.length<=1000/\∀x ∈ at_,inW x.2=true:=by
 simp only[rightG,Bool.and_eq_true,decide_eq_true_eq,List.all_eq_true] at h
 exact ⟨h.1,fun x hx=>by have:=h.2 x hx;simp only[loadB,Bool.and_eq_true] at this;exact this.2⟩
noncomputable def loadsQ (l:List Bm) (at_:List Ld):Rg:=bif validG l&&rightG at_ then borneQ l at_ else ([],1,())
theorem loads_ok (l:List Bm) (at_:List Ld):grid_Loads l at_=some (loadsQ l at_):=by
 simp only[grid_Loads,grid_Loads_b,given_ok,obind_some',loadsQ]
 cases h:validG l&&rightG at_ with
 | false=>rfl
 | true =>
  rw[Bool.and_eq_true] at h
  have h1:=validG_len h.1
  have h2:=rightG_len h.2
  simp only[cT,decide_true,Bool.not_true,cF]
  rw[borne_ok (by omega) (by omega) h2.2,obind_some']
theorem run_fits {l:List Bm}:∀{L:List Ld} {S S':Nat->Rat},(∀i,i<l.length->fitsQ (S i))->runQ l L S=some S'->∀i,i<l.length->fitsQ (S' i)
 | [],S,S',h,e=>by
  simp only[runQ,Option.some.injEq] at e
  subst e
  exact h
 | x ::r,S,S',h,e=>by
  simp only[runQ] at e
  split at e
  ·rename_i hf
   exact run_fits (allFit_iff.1 hf) e
  ·cases e
def loadI (s:HS):Int:=IntKind.wrap .i64 (IntKind.wrap .i64 (weightI s+s.2.2.2.2.2.2.2.1)+sumI s.2.2.2.2.2.2.2.2.2.2.2.2)
def heavyB (s:HS):Bool:=decide (loadI s>67108864)
def ptsH (l:List HS):List Ld:=l.map fun s=>(s.2.1,loadI s)
theorem fold_bound {α:Type} {g:Int->α->Int} {w:α->Int} {m:Int} (hg:∀a x,g a x=IntKind.wrap .i64 (a+w x)) (hm:0<=m):∀(l:List α) (a:Int),(∀x ∈ l,0<=w x/\w x<=m)->0<=a->a+l.length*m<9223372036854775808->0<=l.foldl g a/\l.foldl g a<=a+l.length*m
 | [],a,_,ha,_=>by simp;exact ha
 | x ::l,a,h,ha,hb=>by
  have hx:=h x (by simp)
  have e:((x ::l).length:Int)*m=l.length*m+m:=by rw[List.length_cons,Int.natCast_add,Int.add_mul];simp
  rw[e] at hb ⊢
  have hp:0<=(l.length:Int)*m:=Int.mul_nonneg (by omega) hm
  rw[List.foldl_cons,hg,wrap_id (by omega) (by omega)]
  have:=fold_bound hg hm l (a+w x) (fun y hy=>h y (by simp[hy])) (by omega) (by omega)
  omega
theorem set_facts {s:HS} (h:setB s=true):(0<=s.2.1/\s.2.1<=1048576)/\(1000<=s.2.2.2.2.1/\s.2.2.2.2.1<=1048576)/\(0<=s.2.2.2.2.2.2.1/\s.2.2.2.2.2.2.1<=1048576)/\(0<=s.2.2.2.2.2.2.2.1/\s.2.2.2.2.2.2.2.1<=1048576)/\itemsB s.2.2.2.2.2.2.2.2.2.2.2.1 s.2.2.2.2.1=true/\bricksB s.2.2.2.2.2.2.2.2.2.2.2.2=true:=by
 unfold setB btw at h
 simp only[Bool.and_eq_true,decide_eq_true_eq] at h
 obtain ⟨_,h1,_,_,h2,_,_,h3,h4,_,_,_,h5,h6⟩:=h
 exact ⟨h1,h2,h3,h4,h5,h6⟩
theorem items_facts {l:List Itm} {len:Int} (h:itemsB l len=true):l.length<=40/\∀x ∈ l,0<=x.2.2.2.1/\x.2.2.2.1<=1048576:=by
 unfold itemsB at h
 rw[Bool.and_eq_true,Bool.and_eq_true,decide_eq_true_iff,List.all_eq_true] at h
 refine ⟨h.1,fun x hx=>?_⟩
 have:=h.2.1 x hx
 unfold itemB btw at this
 simp only[Bool.and_eq_true,decide_eq_true_eq] at this
 omega
theorem weightI_bound {s:HS} (h:setB s=true):0<=weightI s/\weightI s<=2199023255552:=by
 obtain ⟨_,⟨h1,h2⟩,⟨h3,h4⟩,_,h5,_⟩:=set_facts h
 obtain ⟨g1,g2⟩:=items_facts h5
 have q1:Int.tdiv s.2.2.2.2.1 1000=s.2.2.2.2.1 / 1000:=Int.tdiv_eq_ediv_of_nonneg (by omega)
 have q2:0<=s.2.2.2.2.1 / 1000/\s.2.2.2.2.1 / 1000<=1048576:=by omega
 have hp:0<=wPipe s/\wPipe s<=1099511627776:=by
  unfold wPipe
  rw[q1]
  generalize s.2.2.2.2.1 / 1000=q at q2
  generalize s.2.2.2.2.2.2.1=p at h3 h4
  rw[wrap_id (x:=q) (by omega) (by omega)]
  have m1:0<=p*q:=Int.mul_nonneg h3 q2.1
  have m2:p*q<=1048576*1048576:=Int.mul_le_mul h4 q2.2 q2.1 (by omega)
  rw[wrap_id (by omega) (by omega)]
  omega
 have:=fold_bound (g:=addI) (w:=fun x:Itm=>x.2.2.2.1) (m:=1048576) (fun _ _=>rfl) (by omega) _ (wPipe s) g2 hp.1 (by omega)
 unfold weightI
 omega
theorem sumI_bound {l:List Brk} (h:bricksB l=true):0<=sumI l/\sumI l<=503316480:=by
 obtain ⟨h1,h2⟩:=bricks_all h
 have key:∀b ∈ l,0<=IntKind.wrap .i64 (b.2.1*b.2.2)/\IntKind.wrap .i64 (b.2.1*b.2.2)<=62914560:=fun b hb=>by
  have g:=h2 b hb
  have m1:0<=b.2.1*b.2.2:=Int.mul_nonneg (by omega) (by omega)
  have m2:b.2.1*b.2.2<=1048576*60:=Int.mul_le_mul g.2.1 g.2.2.2 g.2.2.1 (by omega)
  rw[wrap_id (by omega) (by omega)]
  omega
 have:=fold_bound (g:=addBk) (w:=fun b:Brk=>IntKind.wrap .i64 (b.2.1*b.2.2)) (m:=62914560) (fun _ _=>rfl) (by omega) l 0 key (by omega) (by omega)
 unfold sumI
 omega
theorem loadI_eq {s:HS} (h:setB s=true):loadI s=weightI s+s.2.2.2.2.2.2.2.1+sumI s.2.2.2.2.2.2.2.2.2.2.2.2:=by
 obtain ⟨_,_,_,h4,_,h6⟩:=set_facts h
 have g1:=weightI_bound h
 have g2:=sumI_bound h6
 unfold loadI
 rw[wrap_id (x:=weightI s+s.2.2.2.2.2.2.2.1) (by omega) (by omega),wrap_id (by omega) (by omega)]
theorem loadI_nonneg {s:HS} (h:setB s=true):0<=loadI s:=by
 obtain ⟨_,_,_,h4,_,h6⟩:=set_facts h
 have g1:=weightI_bound h
 have g2:=sumI_bound h6
 rw[loadI_eq h]
 omega
theorem valid_sets {h:HH} (hv:validHB h=true):h.2.2.1.length<=60/\validG h.2.2.2=true/\∀i,i<h.2.2.1.length->setB (h.2.2.1.getD i set0)=true:=by
 simp only[validHB,Bool.and_eq_true,Bool.not_eq_true',decide_eq_false_iff_not,List.all_eq_true] at hv
 obtain ⟨_,_,_,h1,h2,h3⟩:=hv
 exact ⟨by omega,h2,fun i hi=>(h3 i (List.mem_range'.2 ⟨i,hi,by omega⟩)).1⟩
theorem obS0 {T R:Type} {c:Option T} {t:T} (h:c=some t) (k:T->Option R):obind c k=k t:=by subst h;rfl
theorem obS {T R:Type} (t:T) (k:T->Option R):obind (some t) k=k t:=obS0 (Eq.trans rfl rfl) k
theorem counts_loop {R:Type} {l:List Brk} (hl:l.length<=1000000) {fin:List Int->Option R} {F:(List Int×Int×PUnit->Option R)->List Int×Int×PUnit->Option R}
  (hb:∀again (i:Nat) s,i<l.length->F again (s,(i:Int),PUnit.unit)=bif fitB (s.length+1) 8 then again (s++[(l.getD i brk0).2.2],((i+1:Nat):Int),PUnit.unit) else none)
  (hf:∀again s,F again (s,(l.length:Int),PUnit.unit)=fin s):lpK (List Int×Int×PUnit) R F ([],(0:Int),PUnit.unit)=fin (cntsB l):=by
 refine (lpK_up (α:=List Int×Int×PUnit) l.length (by omega) (fun i (s:List Int)=>(s,(i:Int),PUnit.unit)) (fun i s k=>bif false then none else bif fitB (s.length+1) 8 then k (s++[(l.getD i brk0).2.2]) else none) fin ?_ ?_ []).trans ?_
 ·intro again i s hi
  rw[hb again i s hi,cF]
 ·intro again s
  exact hf again s
 ·rw[upF_app (c:=fun _=>false) (g:=fun i=>(l.getD i brk0).2.2) (r:=none) (w:=8) hl (by omega) (fun i s k _=>rfl) l.length 0 [] (by omega) (by simp),range_map (g:=fun b:Brk=>b.2.2)]
  rw[show (List.range' 0 l.length).any (fun _=>false)=false from List.any_eq_false.2 fun _ _ h=>by cases h]
  rfl
theorem any_range {α:Type} {p:α->Bool} {d:α} {l:List α}:(List.range' 0 l.length).any (fun i=>p (l.getD i d))=l.any p:=by
 have:=all_range (p:=fun x=>!p x) (d:=d) (l:=l)
 rw[List.any_eq_not_all_not,List.any_eq_not_all_not,this]
noncomputable def loadsHQ (h:HH):Rg:=bif validHB h then (bif h.2.2.1.any heavyB then ([],5,()) else loadsQ h.2.2.2 (ptsH h.2.2.1)) else ([],1,())
theorem hLoads_ok (h:HH):house_Loads h=some (loadsHQ h):=by
 simp only[house_Loads,house_Loads_b,hValid_ok,obS,loadsHQ]
 cases hv:validHB h with
 | false=>rfl
 | true =>
  obtain ⟨h1,h2,h3⟩:=valid_sets hv
  obtain ⟨nm,ht,ss,rs⟩:=h
  simp only at h1 h2 h3 ⊢
  simp only[Bool.not_true,cT,cF]
  refine (lpK_up (α:=List Ld×Int×PUnit) ss.length (by omega) (fun i (s:List Ld)=>(s,(i:Int),PUnit.unit)) (fun i s k=>bif heavyB (ss.getD i set0) then some ([],5,()) else bif fitB (s.length+1) 16 then k (s++[((ss.getD i set0).2.1,loadI (ss.getD i set0))]) else none) (fun s=>some (loadsQ rs s)) ?_ ?_ []).trans ?_
  ·intro again i s hi
   have hw:IntKind.wrap .i64 ((i:Int)+1)=((i+1:Nat):Int):=by rw[wrap_id (by omega) (by omega)];rfl
   have hs:=h3 i hi
   obtain ⟨_,_,_,_,h5,h6⟩:=set_facts hs
   have hW:batten_Weight (ss.getD i set0)=some (weightI (ss.getD i set0),0,()):=by
    simp only[batten_Weight,batten_Weight_b,validA_ok,hs,obS,Bool.not_true,cF]
    rw[weightA_ok _ (by have:=(items_facts h5).1;omega),obS]
   simp only[inB_nat,decide_eq_true hi,decide_eq_true (show (i:Int)<ss.length by omega),cT,Int.toNat_natCast,hw,show List.getD ss i ({ data:={ toList:=[] } },(0:Int),(0:Int),(0:Int),(0:Int),[],(0:Int),(0:Int),(0:Int),(0:Int),(0:Int),[],[])=ss.getD i set0 from rfl,hW,obS,decide_true,Bool.not_true,cF]
   refine (counts_loop (l:=(ss.getD i set0).2.2.2.2.2.2.2.2.2.2.2.2) (by have:=(bricks_all h6).1;omega) (fin:=fun c=>obind (arbor_Weight (ss.getD i set0).2.2.2.2.2.2.2.2.2.2.2.2 c) fun t=>bif !decide (t.2.1=0) then some ([],t.2.1,PUnit.unit) else bif decide (IntKind.wrap .i64 (IntKind.wrap .i64 (weightI (ss.getD i set0)+(ss.getD i set0).2.2.2.2.2.2.2.1)+t.1)>67108864) then some ([],5,PUnit.unit) else bif fitB (s.length+1) 16 then again (s++[((ss.getD i set0).2.1,IntKind.wrap .i64 (IntKind.wrap .i64 (weightI (ss.getD i set0)+(ss.getD i set0).2.2.2.2.2.2.2.1)+t.1))],((i+1:Nat):Int),PUnit.unit) else none) ?_ ?_).trans ?_
   ·intro again_1 j c hj
    have hw2:IntKind.wrap .i64 ((j:Int)+1)=((j+1:Nat):Int):=by rw[wrap_id (by have:=(bricks_all h6).1;omega) (by have:=(bricks_all h6).1;omega)];rfl
    simp only[inB_nat,decide_eq_true hj,decide_eq_true (show (j:Int)<((ss.getD i set0).2.2.2.2.2.2.2.2.2.2.2.2.length:Nat) by omega),cT,Int.toNat_natCast,hw2]
   ·intro again_1 c
    simp only[decide_eq_false (show ¬ ((ss.getD i set0).2.2.2.2.2.2.2.2.2.2.2.2.length:Int)<((ss.getD i set0).2.2.2.2.2.2.2.2.2.2.2.2.length:Nat) by omega),cF]
   ·simp only[arborWeight_ok h6,obS,decide_true,Bool.not_true,cF,heavyB,loadI]
    rfl
  ·intro again s
   simp only[decide_eq_false (show ¬ (ss.length:Int)<ss.length by omega),cF,loads_ok,obS]
  ·rw[upF_app (c:=fun i=>heavyB (ss.getD i set0)) (g:=fun i=>((ss.getD i set0).2.1,loadI (ss.getD i set0))) (r:=some ([],5,())) (w:=16) (n:=ss.length) (by omega) (by omega) (fun i s k _=>rfl) ss.length 0 [] (by omega) (by simp),range_map (g:=fun s:HS=>(s.2.1,loadI s)),any_range]
   unfold ptsH
   cases ss.any heavyB<;>rfl
theorem set_at {h:HH} (hs:∀i,i<h.2.2.1.length->setB (h.2.2.1.getD i set0)=true):∀s ∈ h.2.2.1,setB s=true:=fun s hm=>by
 obtain ⟨i,hi,rfl⟩:=List.getElem_of_mem hm
 have:=hs i hi
 rw[getD_nat hi] at this
 exact this
theorem pts_right {h:HH} (hv:validHB h=true) (ha:h.2.2.1.any heavyB=false):rightG (ptsH h.2.2.1)=true:=by
 obtain ⟨h1,h2,h3⟩:=valid_sets hv
 unfold rightG ptsH
 rw[Bool.and_eq_true,decide_eq_true_iff,List.length_map,List.all_eq_true]
 refine ⟨by omega,fun x hx=>?_⟩
 obtain ⟨s,hs,rfl⟩:=List.mem_map.1 hx
 have hb:=set_at h3 s hs
 obtain ⟨g1,_⟩:=set_facts hb
 have g2:=loadI_nonneg hb
 have g3:heavyB s=false:=by
  cases e:heavyB s with
  | false=>rfl
  | true=>exact absurd (List.any_eq_true.2 ⟨s,hs,e⟩) (by rw[ha];simp)
 have g4:¬ loadI s>67108864:=of_decide_eq_false g3
 unfold loadB inL inW
 rw[Bool.and_eq_true,decide_eq_true_iff,decide_eq_true_iff]
 exact ⟨g1,g2,by omega⟩
end Go.Proofs.YtlfdhaiigdllcaaGreatDoor

namespace Go.Proofs.YtlfdhaiigdllcaaGreatDoor
namespace Dn
def ab (x:Int):Int:=(x.natAbs:Int)
theorem ab_nonneg (x:Int):0<=ab x:=by unfold ab;omega
theorem ab_mul (x y:Int):ab (x*y)=ab x*ab y:=by
 unfold ab
 rw[Int.natAbs_mul]
 rfl
def sz:Nat->(Nat->Int)->Int
 | 0,_=>0
 | n+1,f=>sz n f+f n
theorem sz_congr:∀{n:Nat} {f g:Nat->Int},(∀i,i<n->f i=g i)->sz n f=sz n g
 | 0,_,_,_=>rfl
 | n+1,f,g,h=>by
  simp only[sz]
  rw[sz_congr (n:=n) fun i hi=>h i (by omega),h n (by omega)]
theorem sz_add:∀{n:Nat} {f g:Nat->Int},sz n (fun i=>f i+g i)=sz n f+sz n g
 | 0,_,_=>rfl
 | n+1,f,g=>by
  simp only[sz]
  rw[sz_add]
  omega
theorem sz_mul:∀{n:Nat} {c:Int} {f:Nat->Int},sz n (fun i=>c*f i)=c*sz n f
 | 0,c,_=>by simp[sz]
 | n+1,c,f=>by
  simp only[sz]
  rw[sz_mul,Int.mul_add]
theorem sz_mulr {n:Nat} {c:Int} {f:Nat->Int}:sz n (fun i=>f i*c)=sz n f*c:=by
 rw[Int.mul_comm,<-sz_mul]
 exact sz_congr fun i _=>Int.mul_comm _ _
theorem sz_zero:∀{n:Nat} {f:Nat->Int},(∀i,i<n->f i=0)->sz n f=0
 | 0,_,_=>rfl
 | n+1,f,h=>by
  simp only[sz]
  rw[sz_zero fun i hi=>h i (by omega),h n (by omega)]
  rfl
theorem sz_neg {n:Nat} {f:Nat->Int}:sz n (fun i=> - f i)= - sz n f:=by
 have:sz n (fun i=> - f i)=sz n (fun i=>(-1)*f i):=sz_congr fun i _=>by omega
 rw[this,sz_mul]
 omega
theorem sz_sub {n:Nat} {f g:Nat->Int}:sz n (fun i=>f i - g i)=sz n f - sz n g:=by
 have:sz n (fun i=>f i - g i)=sz n (fun i=>f i+ - g i):=sz_congr fun i _=>by omega
 rw[this,sz_add,sz_neg]
 omega
theorem sz_one:∀{n:Nat} {f:Nat->Int} {k:Nat},k<n->(∀i,i<n->i≠k->f i=0)->sz n f=f k
 | n+1,f,k,hk,h=>by
  simp only[sz]
  by_cases e:k=n
  ·subst e
   rw[sz_zero fun i hi=>h i (by omega) (by omega)]
   omega
  ·rw[sz_one (k:=k) (by omega) fun i hi hne=>h i (by omega) hne,h n (by omega) (fun e'=>e e'.symm)]
   omega
theorem sz_two {n:Nat} {f:Nat->Int} {k l:Nat} (hk:k<n) (hl:l<n) (hkl:k≠l) (h:∀i,i<n->i≠k->i≠l->f i=0):sz n f=f k+f l:=by
 have e:sz n f=sz n (fun i=>(if i=k then f k else 0)+(if i=l then f l else 0)):=sz_congr fun i hi=>by
  by_cases h1:i=k
  ·subst h1;rw[if_pos rfl,if_neg hkl];omega
  ·by_cases h2:i=l
   ·subst h2;rw[if_neg h1,if_pos rfl];omega
   ·rw[if_neg h1,if_neg h2,h i hi h1 h2];rfl
 rw[e,sz_add,sz_one hk (f:=fun i=>if i=k then f k else 0) (fun i _ hne=>if_neg hne),sz_one hl (f:=fun i=>if i=l then f l else 0) (fun i _ hne=>if_neg hne)]
 simp
theorem sz_swap:∀{m n:Nat} {f:Nat->Nat->Int},sz m (fun i=>sz n (fun j=>f i j))=sz n (fun j=>sz m (fun i=>f i j))
 | 0,n,f=>by
  simp only[sz]
  exact (sz_zero fun _ _=>rfl).symm
 | m+1,n,f=>by
  simp only[sz]
  rw[sz_swap,sz_add]
theorem sz_le:∀{n:Nat} {f g:Nat->Int},(∀i,i<n->f i<=g i)->sz n f<=sz n g
 | 0,_,_,_=>Int.le_refl _
 | n+1,f,g,h=>by
  simp only[sz]
  have:=sz_le (n:=n) fun i hi=>h i (by omega)
  have:=h n (by omega)
  omega
def skip (k j:Nat):Nat:=if j<k then j else j+1
def sgd (k:Nat):Int:=if k % 2=0 then 1 else -1
theorem sgd_succ (k:Nat):sgd (k+1)= - sgd k:=by
 unfold sgd
 split<;>split<;>omega
def minor (A:Nat->Nat->Int) (k:Nat):Nat->Nat->Int:=fun i j=>A (i+1) (skip k j)
def det:Nat->(Nat->Nat->Int)->Int
 | 0,_=>1
 | n+1,A=>sz (n+1) fun k=>sgd k*A 0 k*det n (minor A k)
def setC (A:Nat->Nat->Int) (c:Nat) (v:Nat->Int):Nat->Nat->Int:=fun i j=>if j=c then v i else A i j
theorem det_congr:∀{n:Nat} {A B:Nat->Nat->Int},(∀i j,i<n->j<n->A i j=B i j)->det n A=det n B
 | 0,_,_,_=>rfl
 | n+1,A,B,h=>by
  simp only[det]
  refine sz_congr fun k hk=>?_
  rw[h 0 k (by omega) hk,det_congr (A:=minor A k) (B:=minor B k) fun i j hi hj=>h (i+1) (skip k j) (by omega) (by unfold skip;split<;>omega)]
theorem minor_setC_same {A:Nat->Nat->Int} {k:Nat} {v:Nat->Int}:minor (setC A k v) k=minor A k:=by
 funext i j
 unfold minor setC
 rw[if_neg]
 unfold skip
 split<;>omega
def pos' (k c:Nat):Nat:=if c<k then c else c - 1
theorem minor_setC {A:Nat->Nat->Int} {k c:Nat} {v:Nat->Int} (h:k≠c):minor (setC A c v) k=setC (minor A k) (pos' k c) (fun i=>v (i+1)):=by
 funext i j
 unfold minor setC skip pos'
 by_cases h1:j<k<;>by_cases h2:c<k
 ·simp only[h1,h2,if_true]
 ·simp only[h1,h2,if_true,if_false]
  rw[if_neg (by omega),if_neg (by omega)]
 ·simp only[h1,h2,if_true,if_false]
  rw[if_neg (by omega),if_neg (by omega)]
 ·simp only[h1,h2,if_false]
  by_cases h3:j+1=c
  ·rw[if_pos h3,if_pos (by omega)]
  ·rw[if_neg h3,if_neg (by omega)]
theorem det_add:∀{n:Nat} {A:Nat->Nat->Int} {c:Nat} {u v:Nat->Int},c<n->det n (setC A c fun i=>u i+v i)=det n (setC A c u)+det n (setC A c v)
 | n+1,A,c,u,v,hc=>by
  simp only[det]
  rw[<-sz_add]
  refine sz_congr fun k hk=>?_
  by_cases h:k=c
  ·subst h
   simp only[minor_setC_same]
   have e:∀v:Nat->Int,setC A k v 0 k=v 0:=fun v=>by simp[setC]
   rw[e,e,e,Int.mul_add,Int.add_mul]
  ·have e:∀v:Nat->Int,setC A c v 0 k=A 0 k:=fun v=>by simp[setC,h]
   rw[minor_setC h,minor_setC h,minor_setC h,e,e,e,det_add (u:=fun i=>u (i+1)) (v:=fun i=>v (i+1)) (by unfold pos';split<;>omega),Int.mul_add]
theorem det_smul:∀{n:Nat} {A:Nat->Nat->Int} {c:Nat} {x:Int} {u:Nat->Int},c<n->det n (setC A c fun i=>x*u i)=x*det n (setC A c u)
 | n+1,A,c,x,u,hc=>by
  simp only[det]
  rw[<-sz_mul]
  refine sz_congr fun k hk=>?_
  by_cases h:k=c
  ·subst h
   simp only[minor_setC_same]
   have e:∀v:Nat->Int,setC A k v 0 k=v 0:=fun v=>by simp[setC]
   rw[e,e]
   simp only[Int.mul_assoc,Int.mul_left_comm]
  ·have e:∀v:Nat->Int,setC A c v 0 k=A 0 k:=fun v=>by simp[setC,h]
   rw[minor_setC h,minor_setC h,e,e,det_smul (u:=fun i=>u (i+1)) (by unfold pos';split<;>omega)]
   simp only[Int.mul_assoc,Int.mul_left_comm]
theorem det_zero {n:Nat} {A:Nat->Nat->Int} {c:Nat} (hc:c<n):det n (setC A c fun _=>0)=0:=by
 have:=det_smul (n:=n) (A:=A) (x:=0) (u:=fun _=>0) hc
 simpa using this
theorem det_sum {n:Nat} {A:Nat->Nat->Int} {c:Nat} (hc:c<n):∀{m:Nat} {x:Nat->Int} {u:Nat->Nat->Int},det n (setC A c fun i=>sz m fun l=>x l*u l i)=sz m fun l=>x l*det n (setC A c (u l))
 | 0,x,u=>by simp only[sz];exact det_zero hc
 | m+1,x,u=>by
  simp only[sz]
  rw[det_add hc,det_smul hc,det_sum hc]
theorem det_adj:∀{n:Nat} {A:Nat->Nat->Int} {c:Nat},c+1<n->(∀i,i<n->A i c=A i (c+1))->det n A=0
 | n+1,A,c,hc,h=>by
  simp only[det]
  rw[sz_two (k:=c) (l:=c+1) (by omega) hc (by omega) fun k hk h1 h2=>?_]
  ·have e:det n (minor A c)=det n (minor A (c+1)):=by
    refine det_congr fun i j hi hj=>?_
    unfold minor skip
    by_cases h1:j<c
    ·rw[if_pos h1,if_pos (by omega)]
    ·by_cases h2:j=c
     ·subst h2
      rw[if_neg h1,if_pos (by omega)]
      exact (h (i+1) (by omega)).symm
     ·rw[if_neg h1,if_neg (by omega)]
   rw[e,sgd_succ,h 0 (by omega)]
   simp only[Int.neg_mul]
   omega
  ·have e:det n (minor A k)=0:=by
    refine det_adj (c:=pos' k c) ?_ fun i hi=>?_
    ·unfold pos';split<;>omega
    ·unfold minor skip pos'
     by_cases h3:c<k
     ·simp only[h3,if_true]
      rw[if_pos (by omega)]
      exact h (i+1) (by omega)
     ·simp only[h3,if_false]
      rw[if_neg (by omega),if_neg (by omega),show c - 1+1=c by omega]
      exact h (i+1) (by omega)
   rw[e,Int.mul_zero]
theorem setC_self (A:Nat->Nat->Int) (c:Nat):setC A c (fun i=>A i c)=A:=by
 funext i j
 unfold setC
 split
 ·rename_i h;rw[h]
 ·rfl
theorem setC_comm {A:Nat->Nat->Int} {c e:Nat} {u v:Nat->Int} (h:c≠e):setC (setC A c u) e v=setC (setC A e v) c u:=by
 funext i j
 unfold setC
 by_cases h1:j=c<;>by_cases h2:j=e
 ·omega
 ·simp[h1,h]
 ·simp[h2,Ne.symm h]
 ·simp[h1,h2]
theorem det_swap_adj {n:Nat} {A:Nat->Nat->Int} {c:Nat} {u v:Nat->Int} (hc:c+1<n):det n (setC (setC A c u) (c+1) v)= - det n (setC (setC A c v) (c+1) u):=by
 have h0:∀w:Nat->Int,det n (setC (setC A c w) (c+1) w)=0:=fun w=>det_adj hc fun i _=>by simp[setC]
 have h1:=h0 fun i=>u i+v i
 rw[det_add hc,setC_comm (by omega),setC_comm (u:=fun i=>u i+v i) (by omega),det_add (by omega),det_add (by omega),setC_comm (c:=c+1) (by omega),setC_comm (c:=c+1) (v:=v) (by omega),setC_comm (c:=c+1) (u:=v) (v:=u) (by omega),setC_comm (c:=c+1) (u:=v) (v:=v) (by omega),h0,h0] at h1
 omega
theorem det_eq:∀{k:Nat} {n:Nat} {A:Nat->Nat->Int} {c:Nat},c+k+1<n->(∀i,i<n->A i c=A i (c+k+1))->det n A=0
 | 0,n,A,c,hc,h=>det_adj hc h
 | k+1,n,A,c,hc,h=>by
  have e:A=setC (setC A (c+k+1) fun i=>A i (c+k+1)) (c+k+1+1) fun i=>A i (c+k+1+1):=by
   rw[setC_self,setC_self]
  rw[e,det_swap_adj (by omega)]
  have:det n (setC (setC A (c+k+1) fun i=>A i (c+k+1+1)) (c+k+1+1) fun i=>A i (c+k+1))=0:=by
   refine det_eq (k:=k) (c:=c) (by omega) fun i hi=>?_
   simp only[setC]
   rw[if_neg (by omega),if_neg (by omega),if_neg (by omega)]
   simp only[if_true]
   exact h i hi
  rw[this]
  rfl
theorem det_alt {n:Nat} {A:Nat->Nat->Int} {a b:Nat} (ha:a<n) (hb:b<n) (hab:a≠b) (h:∀i,i<n->A i a=A i b):det n A=0:=by
 by_cases hlt:a<b
 ·obtain ⟨k,rfl⟩:∃k,b=a+k+1:=⟨b - a - 1,by omega⟩
  exact det_eq hb h
 ·obtain ⟨k,rfl⟩:∃k,a=b+k+1:=⟨a - b - 1,by omega⟩
  exact det_eq ha fun i hi=>(h i hi).symm
theorem det_swap {n:Nat} {A:Nat->Nat->Int} {a b:Nat} {u v:Nat->Int} (ha:a<n) (hb:b<n) (hab:a≠b):det n (setC (setC A a u) b v)= - det n (setC (setC A a v) b u):=by
 have h0:∀w:Nat->Int,det n (setC (setC A a w) b w)=0:=fun w=>det_alt ha hb hab fun i _=>by simp[setC]
 have h1:=h0 fun i=>u i+v i
 rw[det_add hb,setC_comm hab,setC_comm (u:=fun i=>u i+v i) hab,det_add ha,det_add ha,setC_comm (c:=b) (Ne.symm hab),setC_comm (c:=b) (v:=v) (Ne.symm hab),setC_comm (c:=b) (u:=v) (v:=u) (Ne.symm hab),setC_comm (c:=b) (u:=v) (v:=v) (Ne.symm hab),h0,h0] at h1
 omega
def pz:Nat->(Nat->Int)->Int
 | 0,_=>1
 | n+1,f=>f 0*pz n fun i=>f (i+1)
def upd (β:Nat->Nat) (r c:Nat):Nat->Nat:=fun k=>if k=r then c else β k
def colsOf (M:Nat->Nat->Int) (γ:Nat->Nat):Nat->Nat->Int:=fun i k=>M i (γ k)
def dc (m:Nat) (M:Nat->Nat->Int) (γ:Nat->Nat):Int:=det m (colsOf M γ)
theorem colsOf_upd (M:Nat->Nat->Int) (β:Nat->Nat) (r c:Nat):colsOf M (upd β r c)=setC (colsOf M β) r (fun i=>M i c):=by
 funext i k
 unfold colsOf upd setC
 split<;>rfl
theorem upd_upd (β:Nat->Nat) (r c e:Nat):upd (upd β r c) r e=upd β r e:=by
 funext k
 unfold upd
 split<;>rfl
theorem upd_self (β:Nat->Nat) (r:Nat):upd β r (β r)=β:=by
 funext k
 unfold upd
 split
 ·rename_i h;rw[h]
 ·rfl
structure Tb (m w:Nat) (M T:Nat->Nat->Int) (d:Int) (β:Nat->Nat):Prop where
 dpos:0<d
 lt:∀i,i<m->β i<w
 co:∀k,k<m->∀j,j<w->d*M k j=sz m fun i=>T i j*M k (β i)
 cr:∃σ:Int,σ*σ=1/\d=σ*dc m M β/\∀i,i<m->∀j,j<w->T i j=σ*dc m M (upd β i j)
section
variable {m w:Nat} {M T:Nat->Nat->Int} {d:Int} {β:Nat->Nat}
theorem dc_upd_other {i k:Nat} (hi:i<m) (hk:k<m) (h:i≠k):dc m M (upd β i (β k))=0:=by
 refine det_alt hi hk h fun l _=>?_
 unfold colsOf upd
 rw[if_pos rfl,if_neg (Ne.symm h)]
theorem Tb.basis (h:Tb m w M T d β) {i:Nat} (hi:i<m):T i (β i)=d:=by
 obtain ⟨σ,_,h2,h3⟩:=h.cr
 rw[h3 i hi _ (h.lt i hi),upd_self,<-h2]
theorem Tb.other (h:Tb m w M T d β) {i k:Nat} (hi:i<m) (hk:k<m) (hik:i≠k):T i (β k)=0:=by
 obtain ⟨σ,_,h2,h3⟩:=h.cr
 rw[h3 i hi _ (h.lt k hk),dc_upd_other hi hk hik,Int.mul_zero]
theorem Tb.inj (h:Tb m w M T d β) {i k:Nat} (hi:i<m) (hk:k<m) (hb:β i=β k):i=k:=by
 by_cases e:i=k
 ·exact e
 ·have h1:=h.other hi hk e
  rw[<-hb,h.basis hi] at h1
  have:=h.dpos
  omega
theorem dc_two (h:Tb m w M T d β) {r i c j:Nat} (hr:r<m) (hi:i<m) (hri:r≠i) (hc:c<w) (hj:j<w) :
  d*d*dc m M (upd (upd β r c) i j)=(T r c*T i j - T i c*T r j)*dc m M β:=by
 obtain ⟨B,hB⟩:∃B,B=colsOf M β:=⟨_,rfl⟩
 have e1:d*d*dc m M (upd (upd β r c) i j)=det m (setC (setC B r fun q=>d*M q c) i fun q=>d*M q j):=by
  have a1:=det_smul (n:=m) (A:=setC B r fun q=>d*M q c) (c:=i) (x:=d) (u:=fun q=>M q j) hi
  have a2:=det_smul (n:=m) (A:=setC B i fun q=>M q j) (c:=r) (x:=d) (u:=fun q=>M q c) hr
  unfold dc
  rw[colsOf_upd,colsOf_upd,<-hB,a1,setC_comm (u:=fun q=>d*M q c) hri,a2,setC_comm (u:=fun q=>M q c) hri,Int.mul_assoc]
 have e2:det m (setC (setC B r fun q=>d*M q c) i fun q=>d*M q j)=det m (setC (setC B r fun q=>sz m fun k=>T k c*B q k) i fun q=>sz m fun l=>T l j*B q l):=by
  refine det_congr fun p q hp hq=>?_
  unfold setC
  rw[hB]
  split
  ·exact h.co p hp j hj
  ·split
   ·exact h.co p hp c hc
   ·rfl
 rw[e1,e2,det_sum hi (x:=fun l=>T l j) (u:=fun l q=>B q l)]
 have e3:∀l,det m (setC (setC B r fun q=>sz m fun k=>T k c*B q k) i fun q=>B q l)=sz m fun k=>T k c*det m (setC (setC B i fun q=>B q l) r fun q=>B q k):=fun l=>by
  rw[setC_comm hri,det_sum hr (x:=fun k=>T k c) (u:=fun k q=>B q k)]
 have z1:∀k l,k<m->k≠r->k≠i->det m (setC (setC B i fun q=>B q l) r fun q=>B q k)=0:=fun k l hk h1 h2 =>
  det_alt hr hk h1.symm fun q _=>by simp[setC,h1,h2]
 have z2:∀k l,l<m->l≠r->l≠i->det m (setC (setC B i fun q=>B q l) r fun q=>B q k)=0:=fun k l hl h1 h2 =>
  det_alt hi hl h2.symm fun q _=>by simp[setC,h1,h2,hri.symm]
 have z3:det m (setC (setC B i fun q=>B q r) r fun q=>B q r)=0:=det_alt hi hr hri.symm fun q _=>by simp[setC,hri.symm]
 have z4:det m (setC (setC B i fun q=>B q i) r fun q=>B q i)=0:=det_alt hi hr hri.symm fun q _=>by simp[setC,hri.symm]
 have z5:det m (setC (setC B i fun q=>B q i) r fun q=>B q r)=det m B:=by
  rw[setC_self,setC_self]
 have z6:det m (setC (setC B i fun q=>B q r) r fun q=>B q i)= - det m B:=by
  rw[det_swap hi hr hri.symm,z5]
 have e4:∀l,l<m->(sz m fun k=>T k c*det m (setC (setC B i fun q=>B q l) r fun q=>B q k))=T r c*det m (setC (setC B i fun q=>B q l) r fun q=>B q r)+T i c*det m (setC (setC B i fun q=>B q l) r fun q=>B q i):=fun l _ =>
  sz_two hr hi hri fun k hk h1 h2=>by rw[z1 k l hk h1 h2,Int.mul_zero]
 rw[sz_congr (g:=fun l=>T l j*(T r c*det m (setC (setC B i fun q=>B q l) r fun q=>B q r)+T i c*det m (setC (setC B i fun q=>B q l) r fun q=>B q i))) fun l hl=>by rw[e3 l,e4 l hl]]
 rw[sz_two hr hi hri fun l hl h1 h2=>by rw[z2 r l hl h1 h2,z2 i l hl h1 h2];simp]
 rw[z3,z4,z5,z6]
 have:dc m M β=det m B:=by rw[hB];rfl
 rw[this]
 grind
def piv (T:Nat->Nat->Int) (d:Int) (r c i j:Nat):Int:=(T r c*T i j - T i c*T r j) / d
theorem piv_exact (h:Tb m w M T d β) {r i c j:Nat} (hr:r<m) (hi:i<m) (hri:r≠i) (hc:c<w) (hj:j<w):d*piv T d r c i j=T r c*T i j - T i c*T r j:=by
 obtain ⟨σ,h1,h2,_⟩:=h.cr
 have h3:=dc_two h hr hi hri hc hj
 have hd:=h.dpos
 have h4:dc m M β=σ*d:=by rw[h2,<-Int.mul_assoc,h1,Int.one_mul]
 rw[h4] at h3
 have h5:d*(d*dc m M (upd (upd β r c) i j))=d*((T r c*T i j - T i c*T r j)*σ):=by
  rw[<-Int.mul_assoc,h3]
  grind
 have h6:=Int.eq_of_mul_eq_mul_left (by omega) h5
 have h7:T r c*T i j - T i c*T r j=d*(σ*dc m M (upd (upd β r c) i j)):=by
  have:(T r c*T i j - T i c*T r j)*σ*σ=d*dc m M (upd (upd β r c) i j)*σ:=by rw[h6]
  rw[Int.mul_assoc,h1,Int.mul_one] at this
  rw[this]
  grind
 unfold piv
 rw[h7,Int.mul_ediv_cancel_left _ (by omega)]
theorem piv_eq (h:Tb m w M T d β) {σ:Int} (h1:σ*σ=1) (h2:d=σ*dc m M β) {r i c j:Nat} (hr:r<m) (hi:i<m) (hri:r≠i) (hc:c<w) (hj:j<w):piv T d r c i j=σ*dc m M (upd (upd β r c) i j):=by
 have h3:=dc_two h hr hi hri hc hj
 have hd:=h.dpos
 have h4:dc m M β=σ*d:=by rw[h2,<-Int.mul_assoc,h1,Int.one_mul]
 have h5:=piv_exact h hr hi hri hc hj
 rw[h4,<-h5] at h3
 have h6:(d*d)*dc m M (upd (upd β r c) i j)=(d*d)*(piv T d r c i j*σ):=by rw[h3];grind
 have h7:=Int.eq_of_mul_eq_mul_left (Int.ne_of_gt (Int.mul_pos hd hd)) h6
 rw[h7]
 grind
def sg (x:Int):Int:=if x<0 then -1 else 1
theorem sg_mul (x:Int):sg x*sg x=1:=by unfold sg;split<;>rfl
theorem sg_pos {x:Int} (h:x≠0):0<sg x*x:=by unfold sg;split<;>omega
def pivT (T:Nat->Nat->Int) (d:Int) (r c:Nat):Nat->Nat->Int:=fun i j=>sg (T r c)*(if i=r then T r j else piv T d r c i j)
theorem Tb.step (h:Tb m w M T d β) {r c:Nat} (hr:r<m) (hc:c<w) (he:T r c≠0):Tb m w M (pivT T d r c) (sg (T r c)*T r c) (upd β r c):=by
 have hd:=h.dpos
 refine ⟨sg_pos he,fun i hi=>?_,fun k hk j hj=>?_,?_⟩
 ·unfold upd
  split
  ·exact hc
  ·exact h.lt i hi
 ·have h1:∀i,i<m->d*((if i=r then T r j else piv T d r c i j)*M k (upd β r c i))=(T r c*(T i j*M k (β i)) - T r j*(T i c*M k (β i)))+(if i=r then d*(T r j*M k c) else 0):=fun i hi=>by
   unfold upd
   by_cases e:i=r
   ·subst e
    simp only[if_true]
    grind
   ·simp only[e,if_false,Int.add_zero]
    rw[<-Int.mul_assoc,piv_exact h hr hi (Ne.symm e) hc hj]
    grind
  have h2:d*(sz m fun i=>(if i=r then T r j else piv T d r c i j)*M k (upd β r c i))=d*(T r c*M k j):=by
   rw[<-sz_mul,sz_congr h1,sz_add,sz_sub,sz_mul,sz_mul,<-h.co k hk j hj,<-h.co k hk c hc,sz_one hr fun i _ hne=>if_neg hne,if_pos rfl]
   grind
  have h3:=Int.eq_of_mul_eq_mul_left (by omega) h2
  have h4:(sz m fun i=>pivT T d r c i j*M k (upd β r c i))=sg (T r c)*sz m fun i=>(if i=r then T r j else piv T d r c i j)*M k (upd β r c i):=by
   rw[<-sz_mul]
   exact sz_congr fun i _=>by unfold pivT;rw[Int.mul_assoc]
  rw[h4,h3,Int.mul_assoc]
 ·obtain ⟨σ,h1,h2,h3⟩:=h.cr
  refine ⟨sg (T r c)*σ,?_,?_,fun i hi j hj=>?_⟩
  ·have:=sg_mul (T r c)
   grind
  ·rw[h3 r hr c hc]
   grind
  ·unfold pivT
   by_cases e:i=r
   ·subst e
    rw[if_pos rfl,h3 i hi j hj,upd_upd]
    grind
   ·rw[if_neg e,piv_eq h h1 h2 hr hi (Ne.symm e) hc hj]
    grind
theorem det_one:∀n:Nat,det n (fun i k=>if i=k then 1 else 0)=1
 | 0=>rfl
 | n+1=>by
  simp only[det]
  rw[sz_one (k:=0) (by omega) fun k _ hk=>by rw[if_neg (Ne.symm hk)];simp]
  have:det n (minor (fun i k=>if i=k then 1 else 0) 0)=det n (fun i k=>if i=k then 1 else 0):=det_congr fun i j _ _=>by
   unfold minor skip
   simp
  rw[this,det_one n]
  simp[sgd]
theorem Tb.first {a:Nat->Nat} (ha:∀i,i<m->a i<w) (hM:∀k,k<m->∀i,i<m->M k (a i)=if k=i then 1 else 0):Tb m w M M 1 a:=by
 have h1:dc m M a=1:=by
  unfold dc
  rw[<-det_one m]
  exact det_congr fun i j hi hj=>hM i hi j hj
 refine ⟨by omega,ha,fun k hk j hj=>?_,1,by omega,by rw[h1];rfl,fun i hi j hj=>?_⟩
 ·rw[sz_one hk fun i hi hne=>by rw[hM k hk i hi,if_neg (Ne.symm hne),Int.mul_zero],hM k hk k hk,if_pos rfl]
  omega
 ·unfold dc
  rw[colsOf_upd]
  have e:det m (setC (colsOf M a) i fun q=>M q j)=det m (setC (colsOf M a) i fun q=>sz m fun k=>M k j*colsOf M a q k):=by
   refine det_congr fun p q hp hq=>?_
   unfold setC
   split
   ·show M p j=sz m fun k=>M k j*colsOf M a p k
    rw[sz_one hp fun k hk hne=>by unfold colsOf;rw[hM p hp k hk,if_neg (Ne.symm hne),Int.mul_zero]]
    unfold colsOf
    rw[hM p hp p hp,if_pos rfl]
    omega
   ·rfl
  rw[e,det_sum hi (x:=fun k=>M k j) (u:=fun k q=>colsOf M a q k),sz_one hi fun k hk hne=>by
   rw[det_alt hi hk (Ne.symm hne) fun q _=>by simp[setC,hne],Int.mul_zero],setC_self]
  have:det m (colsOf M a)=1:=h1
  rw[this]
  omega
theorem Tb.rows (h:Tb m w M T d β) {a:Nat->Nat} (ha:∀i,i<m->a i<w) (hM:∀k,k<m->∀i,i<m->M k (a i)=if k=i then 1 else 0) {i j:Nat} (hi:i<m) (hj:j<w):T i j=sz m fun k=>T i (a k)*M k j:=by
 obtain ⟨σ,h1,h2,h3⟩:=h.cr
 rw[h3 i hi j hj]
 have e:dc m M (upd β i j)=sz m fun k=>M k j*dc m M (upd β i (a k)):=by
  unfold dc
  rw[colsOf_upd]
  have e:det m (setC (colsOf M β) i fun q=>M q j)=det m (setC (colsOf M β) i fun q=>sz m fun k=>M k j*M q (a k)):=by
   refine det_congr fun p q hp hq=>?_
   unfold setC
   split
   ·show M p j=sz m fun k=>M k j*M p (a k)
    rw[sz_one hp fun k hk hne=>by rw[hM p hp k hk,if_neg (Ne.symm hne),Int.mul_zero],hM p hp p hp,if_pos rfl]
    omega
   ·rfl
  rw[e,det_sum hi (x:=fun k=>M k j) (u:=fun k q=>M q (a k))]
  exact sz_congr fun k _=>by rw[colsOf_upd]
 rw[e,<-sz_mul]
 exact sz_congr fun k hk=>by rw[h3 i hi _ (ha k hk)];grind
theorem Tb.bound (h:Tb m w M T d β) {i j:Nat} (hi:i<m) (hj:j<w):ab (T i j)=ab (dc m M (upd β i j)):=by
 obtain ⟨σ,h1,_,h3⟩:=h.cr
 rw[h3 i hi j hj,ab_mul]
 have h4:ab σ*ab σ=1:=by rw[<-ab_mul,h1];rfl
 have h5:ab σ=1:=by
  have h6:=ab_nonneg σ
  by_cases h7:ab σ<=1
  ·have:ab σ≠0:=fun e=>by rw[e] at h4;simp at h4
   omega
  ·exfalso
   have:2*2<=ab σ*ab σ:=Int.mul_le_mul (by omega) (by omega) (by omega) h6
   omega
 rw[h5,Int.one_mul]
end
structure Sx where
 T:Nat->Nat->Int
 d:Int
 β:Nat->Nat
def zr (m:Nat) (wc:Nat->Int) (S:Sx) (j:Nat):Int:=wc j*S.d - sz m fun i=>wc (S.β i)*S.T i j
structure Leaves (m R:Nat) (S:Sx) (c r:Nat):Prop where
 lt:r<m
 pos:0<S.T r c
 le:∀i,i<m->0<S.T i c->S.T r R*S.T i c<=S.T i R*S.T r c
 tie:∀i,i<m->0<S.T i c->S.T r R*S.T i c=S.T i R*S.T r c->S.β r<=S.β i
structure EntersB (m N:Nat) (wc:Nat->Int) (S:Sx) (c:Nat):Prop where
 lt:c<N
 neg:zr m wc S c<0
 least:∀j,j<c->0<=zr m wc S j
structure StepAt (m w:Nat) (S S':Sx) (r c:Nat):Prop where
 T:∀i j,i<m->j<w->S'.T i j=if i=r then S.T r j else piv S.T S.d r c i j
 d:S'.d=S.T r c
 β:∀i,i<m->S'.β i=upd S.β r c i
structure Step (m w N R:Nat) (wc:Nat->Int) (S S':Sx) (r c:Nat):Prop where
 enters:EntersB m N wc S c
 leaves:Leaves m R S c r
 at':StepAt m w S S' r c
structure Val (m w N R:Nat) (M:Nat->Nat->Int) (S:Sx):Prop where
 tb:Tb m w M S.T S.d S.β
 feas:∀i,i<m->0<=S.T i R
 ne:∀i,i<m->S.β i≠R
section
variable {m w N R:Nat} {M:Nat->Nat->Int} {wc:Nat->Int}
theorem dc_congr {β β':Nat->Nat} (h:∀i,i<m->β' i=β i):dc m M β'=dc m M β:=det_congr fun i j _ hj=>by unfold colsOf;rw[h j hj]
theorem Tb.congr {T T':Nat->Nat->Int} {d:Int} {β β':Nat->Nat} (h:Tb m w M T d β) (hT:∀i j,i<m->j<w->T' i j=T i j) (hβ:∀i,i<m->β' i=β i):Tb m w M T' d β':=by
 refine ⟨h.dpos,fun i hi=>by rw[hβ i hi];exact h.lt i hi,fun k hk j hj=>?_,?_⟩
 ·rw[h.co k hk j hj]
  exact sz_congr fun i hi=>by rw[hT i j hi hj,hβ i hi]
 ·obtain ⟨σ,h1,h2,h3⟩:=h.cr
  refine ⟨σ,h1,by rw[dc_congr hβ];exact h2,fun i hi j hj=>?_⟩
  rw[hT i j hi hj,h3 i hi j hj]
  congr 1
  exact (dc_congr fun k hk=>by unfold upd;rw[hβ k hk]).symm
theorem Val.stepAt {S S':Sx} (h:Val m w N R M S) (hR:R<w) {r c:Nat} (hc:c<w) (hcR:c≠R) (hl:Leaves m R S c r) (hs:StepAt m w S S' r c):Val m w N R M S':=by
 have hr:=hl.lt
 have e1:sg (S.T r c)=1:=by unfold sg;rw[if_neg (by have:=hl.pos;omega)]
 have h1:=h.tb.step hr hc (by have:=hl.pos;omega)
 have h2:=h1.congr (T':=S'.T) (β':=S'.β) (fun i j hi hj=>by rw[hs.T i j hi hj];unfold pivT;rw[e1,Int.one_mul]) hs.β
 rw[e1,Int.one_mul,<-hs.d] at h2
 refine ⟨h2,fun i hi=>?_,fun i hi=>?_⟩
 ·rw[hs.T i R hi hR]
  split
  ·exact h.feas r hr
  ·rename_i hne
   have h3:=piv_exact h.tb hr hi (Ne.symm hne) hc hR
   have h4:=h.tb.dpos
   have h5:=hl.pos
   have h6:0<=S.T r c*S.T i R - S.T i c*S.T r R:=by
    by_cases h7:0<S.T i c
    ·have:=hl.le i hi h7
     have e1:=Int.mul_comm (S.T r R) (S.T i c)
     have e2:=Int.mul_comm (S.T i R) (S.T r c)
     omega
    ·have h8:0<=S.T r c*S.T i R:=Int.mul_nonneg (by omega) (h.feas i hi)
     have h9:0<= -S.T i c*S.T r R:=Int.mul_nonneg (by omega) (h.feas r hr)
     rw[Int.neg_mul] at h9
     omega
   rw[<-h3] at h6
   exact Int.nonneg_of_mul_nonneg_right h6 h4
 ·rw[hs.β i hi]
  unfold upd
  split
  ·exact hcR
  ·exact h.ne i hi
theorem zr_basis {S:Sx} (h:Tb m w M S.T S.d S.β) {i:Nat} (hi:i<m):zr m wc S (S.β i)=0:=by
 unfold zr
 rw[sz_one hi fun k hk hne=>by rw[h.other hk hi hne,Int.mul_zero],h.basis hi]
 omega
theorem zr_rows {S:Sx} (h:Tb m w M S.T S.d S.β) {a:Nat->Nat} (ha:∀i,i<m->a i<w) (hM:∀k,k<m->∀i,i<m->M k (a i)=if k=i then 1 else 0) {j:Nat} (hj:j<w) :
  zr m wc S j=wc j*S.d - sz m fun k=>(sz m fun i=>wc (S.β i)*S.T i (a k))*M k j:=by
 unfold zr
 congr 1
 rw[sz_congr (g:=fun i=>sz m fun k=>wc (S.β i)*S.T i (a k)*M k j) fun i hi=>by
  rw[h.rows ha hM hi hj,<-sz_mul]
  exact sz_congr fun k _=>by rw[Int.mul_assoc]]
 rw[sz_swap]
 exact sz_congr fun k _=>sz_mulr
theorem zr_step {S S':Sx} (h:Tb m w M S.T S.d S.β) {r c j:Nat} (hr:r<m) (hc:c<w) (hj:j<w) (hs:StepAt m w S S' r c):S.d*zr m wc S' j=S.T r c*zr m wc S j - zr m wc S c*S.T r j:=by
 have h1:∀i,i<m->S.d*(wc (S'.β i)*S'.T i j)=(S.T r c*(wc (S.β i)*S.T i j) - S.T r j*(wc (S.β i)*S.T i c))+(if i=r then S.d*(wc c*S.T r j) else 0):=fun i hi=>by
  rw[hs.β i hi,hs.T i j hi hj]
  unfold upd
  by_cases e:i=r
  ·subst e
   simp only[if_true]
   grind
  ·simp only[e,if_false,Int.add_zero]
   have:=piv_exact h hr hi (Ne.symm e) hc hj
   grind
 have h2:S.d*(sz m fun i=>wc (S'.β i)*S'.T i j)=S.T r c*(sz m fun i=>wc (S.β i)*S.T i j) - S.T r j*(sz m fun i=>wc (S.β i)*S.T i c)+S.d*(wc c*S.T r j):=by
  rw[<-sz_mul,sz_congr h1,sz_add,sz_sub,sz_mul,sz_mul,sz_one hr fun i _ hne=>if_neg hne,if_pos rfl]
 unfold zr
 rw[Int.mul_sub,h2,hs.d]
 grind
theorem zr_two {S S':Sx} (h:Tb m w M S.T S.d S.β) (h':Tb m w M S'.T S'.d S'.β) {a:Nat->Nat} (ha:∀i,i<m->a i<w) (hM:∀k,k<m->∀i,i<m->M k (a i)=if k=i then 1 else 0) {s:Nat} (hs:s<w) :
  S.d*zr m wc S' s=S'.d*zr m wc S s+sz m fun i=>S.T i s*zr m wc S' (S.β i):=by
 have e1:=zr_rows (wc:=wc) h' ha hM hs
 have e2:∀i,i<m->S.T i s*zr m wc S' (S.β i)=S'.d*(wc (S.β i)*S.T i s) - sz m fun k=>(sz m fun i=>wc (S'.β i)*S'.T i (a k))*(S.T i s*M k (S.β i)):=fun i hi=>by
  rw[zr_rows (wc:=wc) h' ha hM (h.lt i hi),Int.mul_sub,<-sz_mul]
  congr 1
  ·grind
  ·exact sz_congr fun k _=>by grind
 rw[sz_congr e2,sz_sub,sz_mul,sz_swap]
 have e3:(sz m fun k=>sz m fun i=>(sz m fun i=>wc (S'.β i)*S'.T i (a k))*(S.T i s*M k (S.β i)))=S.d*sz m fun k=>(sz m fun i=>wc (S'.β i)*S'.T i (a k))*M k s:=by
  rw[<-sz_mul]
  refine sz_congr fun k hk=>?_
  rw[sz_mul,<-h.co k hk s hs]
  grind
 rw[e3,e1]
 unfold zr
 grind
theorem left_between {β:Nat->Nat->Nat} {q:Nat}:∀{k i:Nat},(∃p,p<m/\β i p=q)->(¬ ∃p,p<m/\β (i+k) p=q)->∃n,i<=n/\n<i+k/\(∃p,p<m/\β n p=q)/\¬ ∃p,p<m/\β (n+1) p=q
 | 0,i,h1,h2=>(h2 h1).elim
 | k+1,i,h1,h2=>by
  by_cases h:∃p,p<m/\β (i+k) p=q
  ·exact ⟨i+k,by omega,by omega,h,h2⟩
  ·obtain ⟨n,h3,h4,h5,h6⟩:=left_between h1 h
   exact ⟨n,h3,by omega,h5,h6⟩
theorem come_between {β:Nat->Nat->Nat} {q:Nat}:∀{k i:Nat},(¬ ∃p,p<m/\β i p=q)->(∃p,p<m/\β (i+k) p=q)->∃n,i<=n/\n<i+k/\(¬ ∃p,p<m/\β n p=q)/\∃p,p<m/\β (n+1) p=q
 | 0,i,h1,h2=>(h1 h2).elim
 | k+1,i,h1,h2=>by
  by_cases h:∃p,p<m/\β (i+k) p=q
  ·obtain ⟨n,h3,h4,h5,h6⟩:=come_between h1 h
   exact ⟨n,h3,by omega,h5,h6⟩
  ·exact ⟨i+k,by omega,by omega,h,h2⟩
theorem max_of {k:Nat} {f:Nat->Nat}:0<k->∃n,n<k/\∀i,i<k->f i<=f n:=by
 induction k with
 | zero=>intro h;omega
 | succ k ih =>
  intro _
  by_cases hk:k=0
  ·subst hk
   exact ⟨0,by omega,fun i hi=>by rw[show i=0 by omega];exact Nat.le_refl _⟩
  ·obtain ⟨n,h1,h2⟩:=ih (by omega)
   by_cases h3:f k<=f n
   ·refine ⟨n,by omega,fun i hi=>?_⟩
    by_cases h4:i=k
    ·rw[h4];exact h3
    ·exact h2 i (by omega)
   ·refine ⟨k,by omega,fun i hi=>?_⟩
    by_cases h4:i=k
    ·rw[h4];exact Nat.le_refl _
    ·have:=h2 i (by omega);omega
theorem le_cancel {e x y:Int} (he:0<e) (h:e*x<=e*y):x<=y:=Int.le_of_mul_le_mul_left h he
structure Run (m w N R:Nat) (M:Nat->Nat->Int) (wc:Nat->Int) (k:Nat) (S:Nat->Sx) (r c:Nat->Nat):Prop where
 val:∀n,n<=k->Val m w N R M (S n)
 step:∀n,n<k->Step m w N R wc (S n) (S (n+1)) (r n) (c n)
theorem Run.of {k:Nat} {S:Nat->Sx} {r c:Nat->Nat} (hN:N<=R) (hR:R<w) (h0:Val m w N R M (S 0)) (hs:∀n,n<k->Step m w N R wc (S n) (S (n+1)) (r n) (c n)):Run m w N R M wc k S r c:=by
 refine ⟨fun n=>?_,hs⟩
 induction n with
 | zero=>intro _;exact h0
 | succ n ih =>
  intro hn
  have h1:=hs n (by omega)
  have:=h1.enters.lt
  exact (ih (by omega)).stepAt hR (by omega) (by omega) h1.leaves h1.at'
theorem Run.nocycle {k:Nat} {S:Nat->Sx} {r c:Nat->Nat} {a:Nat->Nat} (ha:∀i,i<m->a i<w) (hM:∀k,k<m->∀i,i<m->M k (a i)=if k=i then 1 else 0) (hN:N<=R) (hR:R<w)
  (h:Run m w N R M wc k S r c) (hk:0<k):¬ ∀i,i<m->(S k).β i=(S 0).β i:=by
 intro hcyc
 have cw:∀n,n<k->c n<w:=fun n hn=>by have:=(h.step n hn).enters.lt;omega
 have dp:∀n,n<=k->0<(S n).d:=fun n hn=>(h.val n hn).tb.dpos
 have vstep:∀n,n<k->zr m wc (S n) R*(S (n+1)).d<=zr m wc (S (n+1)) R*(S n).d/\((S n).T (r n) R≠0->zr m wc (S n) R*(S (n+1)).d<zr m wc (S (n+1)) R*(S n).d):=fun n hn=>by
  have hs:=h.step n hn
  have h1:=zr_step (wc:=wc) (h.val n (by omega)).tb hs.leaves.lt (cw n hn) hR hs.at'
  have h2:=hs.enters.neg
  have h3:=(h.val n (by omega)).feas (r n) hs.leaves.lt
  have h4:0<= -zr m wc (S n) (c n)*(S n).T (r n) R:=Int.mul_nonneg (by omega) h3
  rw[Int.neg_mul] at h4
  rw[hs.at'.d,Int.mul_comm (zr m wc (S (n+1)) R),h1,Int.mul_comm (zr m wc (S n) R)]
  refine ⟨by omega,fun hne=>?_⟩
  have h5:0< -zr m wc (S n) (c n)*(S n).T (r n) R:=Int.mul_pos (by omega) (by omega)
  rw[Int.neg_mul] at h5
  omega
 have vle:∀i j,i+j<=k->zr m wc (S i) R*(S (i+j)).d<=zr m wc (S (i+j)) R*(S i).d:=by
  intro i j
  induction j with
  | zero=>intro _;exact Int.le_refl _
  | succ j ih =>
   intro hj
   have h1:=ih (by omega)
   have h2:=(vstep (i+j) (by omega)).1
   have d1:=dp i (by omega)
   have d2:=dp (i+j) (by omega)
   have d3:=dp (i+j+1) (by omega)
   refine le_cancel d2 ?_
   have h3:=Int.mul_le_mul_of_nonneg_right h1 (Int.le_of_lt d3)
   have h4:=Int.mul_le_mul_of_nonneg_right h2 (Int.le_of_lt d1)
   rw[show i+(j+1)=i+j+1 by omega]
   calc (S (i+j)).d*(zr m wc (S i) R*(S (i+j+1)).d)=zr m wc (S i) R*(S (i+j)).d*(S (i+j+1)).d:=by grind
    _<=zr m wc (S (i+j)) R*(S i).d*(S (i+j+1)).d:=h3
    _=zr m wc (S (i+j)) R*(S (i+j+1)).d*(S i).d:=by grind
    _<=zr m wc (S (i+j+1)) R*(S (i+j)).d*(S i).d:=h4
    _=(S (i+j)).d*(zr m wc (S (i+j+1)) R*(S i).d):=by grind
 have same:(S k).d=(S 0).d/\∀i j,i<m->j<w->(S k).T i j=(S 0).T i j:=by
  obtain ⟨σ,s1,s2,s3⟩:=(h.val k (Nat.le_refl _)).tb.cr
  obtain ⟨τ,t1,t2,t3⟩:=(h.val 0 (by omega)).tb.cr
  rw[dc_congr hcyc] at s2
  have p1:=dp k (Nat.le_refl _)
  have p2:=dp 0 (by omega)
  have e:σ=τ:=by
   have h1:σ*(S k).d=dc m M (S 0).β:=by rw[s2,<-Int.mul_assoc,s1,Int.one_mul]
   have h2:τ*(S 0).d=dc m M (S 0).β:=by rw[t2,<-Int.mul_assoc,t1,Int.one_mul]
   have pm:∀x:Int,x*x=1->x=1\/x= -1:=fun x hx=>by
    have h4:x.natAbs*x.natAbs=1:=by
     have:=congrArg Int.natAbs hx
     rwa [Int.natAbs_mul] at this
    have h5:x.natAbs=1:=Nat.eq_one_of_mul_eq_one_left h4
    omega
   rcases pm σ s1 with rfl | rfl<;>rcases pm τ t1 with rfl | rfl<;>omega
  refine ⟨by rw[s2,e];exact t2.symm,fun i j hi hj=>?_⟩
  rw[s3 i hi j hj,t3 i hi j hj,e]
  congr 1
  exact dc_congr fun l hl=>by unfold upd;rw[hcyc l hl]
 have vend:zr m wc (S k) R=zr m wc (S 0) R:=by
  unfold zr
  rw[same.1]
  congr 1
  exact sz_congr fun i hi=>by rw[hcyc i hi,same.2 i R hi hR]
 have flat:∀n,n<k->(S n).T (r n) R=0:=fun n hn=>by
  by_cases e:(S n).T (r n) R=0
  ·exact e
  ·exfalso
   have h1:=(vstep n hn).2 e
   have h2:=vle 0 n (by omega)
   have h3:=vle (n+1) (k - (n+1)) (by omega)
   rw[Nat.zero_add] at h2
   rw[show n+1+(k - (n+1))=k by omega,vend,same.1] at h3
   have d0:=dp 0 (by omega)
   have d1:=dp n (by omega)
   have d2:=dp (n+1) (by omega)
   have h4:=Int.mul_lt_mul_of_pos_right h1 d0
   have h5:=Int.mul_le_mul_of_nonneg_right h2 (Int.le_of_lt d2)
   have h6:=Int.mul_le_mul_of_nonneg_right h3 (Int.le_of_lt d1)
   have:zr m wc (S 0) R*(S n).d*(S (n+1)).d<zr m wc (S 0) R*(S n).d*(S (n+1)).d:=by
    calc zr m wc (S 0) R*(S n).d*(S (n+1)).d<=zr m wc (S n) R*(S 0).d*(S (n+1)).d:=h5
     _=zr m wc (S n) R*(S (n+1)).d*(S 0).d:=by grind
     _<zr m wc (S (n+1)) R*(S n).d*(S 0).d:=h4
     _=zr m wc (S (n+1)) R*(S 0).d*(S n).d:=by grind
     _<=zr m wc (S 0) R*(S (n+1)).d*(S n).d:=h6
     _=zr m wc (S 0) R*(S n).d*(S (n+1)).d:=by grind
   omega
 have zeroStep:∀n q,n<k->((∀i,i<m->(S n).β i=q->(S n).T i R=0)↔(∀i,i<m->(S (n+1)).β i=q->(S (n+1)).T i R=0)):=fun n q hn=>by
  have hs:=h.step n hn
  have hf:=flat n hn
  have htb:=(h.val n (by omega)).tb
  have key:∀i,i<m->i≠r n->((S (n+1)).T i R=0↔(S n).T i R=0):=fun i hi hne=>by
   rw[hs.at'.T i R hi hR,if_neg hne]
   have h1:=piv_exact htb hs.leaves.lt hi (Ne.symm hne) (cw n hn) hR
   rw[hf,Int.mul_zero,Int.sub_zero] at h1
   have h2:=hs.leaves.pos
   have h3:=dp n (by omega)
   constructor
   ·intro e
    rw[e,Int.mul_zero] at h1
    rcases Int.mul_eq_zero.1 h1.symm with h4 | h4
    ·omega
    ·exact h4
   ·intro e
    rw[e,Int.mul_zero] at h1
    rcases Int.mul_eq_zero.1 h1 with h4 | h4
    ·omega
    ·exact h4
  constructor
  ·intro hz i hi hb
   by_cases e:i=r n
   ·rw[e,hs.at'.T _ R hs.leaves.lt hR,if_pos rfl];exact hf
   ·rw[hs.at'.β i hi] at hb
    unfold upd at hb
    rw[if_neg e] at hb
    exact (key i hi e).2 (hz i hi hb)
  ·intro hz i hi hb
   by_cases e:i=r n
   ·rw[e];exact hf
   ·refine (key i hi e).1 (hz i hi ?_)
    rw[hs.at'.β i hi]
    unfold upd
    rw[if_neg e]
    exact hb
 have zeroAll:∀q n,n<=k->((∀i,i<m->(S 0).β i=q->(S 0).T i R=0)↔(∀i,i<m->(S n).β i=q->(S n).T i R=0)):=fun q n=>by
  induction n with
  | zero=>intro _;exact Iff.rfl
  | succ n ih=>intro hn;exact (ih (by omega)).trans (zeroStep n q (by omega))
 have comes:∀n q,n<k->(¬ ∃p,p<m/\(S n).β p=q)->(∃p,p<m/\(S (n+1)).β p=q)->q=c n:=fun n q hn h1 ⟨p,hp,hq⟩=>by
  have hs:=h.step n hn
  rw[hs.at'.β p hp] at hq
  unfold upd at hq
  split at hq
  ·exact hq.symm
  ·exact (h1 ⟨p,hp,hq⟩).elim
 have goes:∀n q,n<k->(∃p,p<m/\(S n).β p=q)->(¬ ∃p,p<m/\(S (n+1)).β p=q)->q=(S n).β (r n):=fun n q hn ⟨p,hp,hq⟩ h1=>by
  have hs:=h.step n hn
  by_cases e:p=r n
  ·rw[<-e];exact hq.symm
  ·refine (h1 ⟨p,hp,?_⟩).elim
   rw[hs.at'.β p hp]
   unfold upd
   rw[if_neg e]
   exact hq
 have notIn:∀n,n<k->¬ ∃p,p<m/\(S n).β p=c n:=fun n hn ⟨p,hp,hq⟩=>by
  have hs:=h.step n hn
  have h1:=hs.enters.neg
  rw[<-hq,zr_basis (h.val n (by omega)).tb hp] at h1
  omega
 have isIn:∀n,n<k->∃p,p<m/\(S (n+1)).β p=c n:=fun n hn=>by
  have hs:=h.step n hn
  refine ⟨r n,hs.leaves.lt,?_⟩
  rw[hs.at'.β _ hs.leaves.lt]
  unfold upd
  rw[if_pos rfl]
 have ends:∀q,(∃p,p<m/\(S k).β p=q)↔∃p,p<m/\(S 0).β p=q:=fun q=>by
  constructor
  ·rintro ⟨p,hp,hq⟩;exact ⟨p,hp,by rw[<-hcyc p hp];exact hq⟩
  ·rintro ⟨p,hp,hq⟩;exact ⟨p,hp,by rw[hcyc p hp];exact hq⟩
 obtain ⟨ns,hns,hmax⟩:=max_of (f:=c) hk
 have leaves:∃n,n<k/\(S n).β (r n)=c ns:=by
  by_cases h0:∃p,p<m/\(S 0).β p=c ns
  ·obtain ⟨n,h1,h2,h3,h4⟩:=left_between (β:=fun n=>(S n).β) (k:=ns) (i:=0) h0 (by rw[Nat.zero_add];exact notIn ns hns)
   exact ⟨n,by omega,(goes n _ (by omega) h3 h4).symm⟩
  ·have h1:¬ ∃p,p<m/\(S k).β p=c ns:=fun e=>h0 ((ends _).1 e)
   obtain ⟨n,h2,h3,h4,h5⟩:=left_between (β:=fun n=>(S n).β) (k:=k - (ns+1)) (i:=ns+1) (isIn ns hns) (by rw[show ns+1+(k - (ns+1))=k by omega];exact h1)
   exact ⟨n,by omega,(goes n _ (by omega) h4 h5).symm⟩
 obtain ⟨n,hn,hleave⟩:=leaves
 have hs:=h.step n hn
 have hst:=h.step ns hns
 have vn:=h.val n (by omega)
 have vs:=h.val ns (by omega)
 have hcn:=hmax n hn
 have hne:c n≠c ns:=fun e=>notIn n hn ⟨r n,hs.leaves.lt,by rw[hleave];exact e.symm⟩
 have id:=zr_two (wc:=wc) vn.tb vs.tb ha hM (cw n hn)
 have z1:0<=zr m wc (S ns) (c n):=hst.enters.least (c n) (by omega)
 have z2:=hs.enters.neg
 have d1:=dp n (by omega)
 have d2:=dp ns (by omega)
 have hsum:0<sz m fun i=>(S n).T i (c n)*zr m wc (S ns) ((S n).β i):=by
  have h1:0<=(S n).d*zr m wc (S ns) (c n):=Int.mul_nonneg (by omega) z1
  have h2:0<(S ns).d* -zr m wc (S n) (c n):=Int.mul_pos d2 (by omega)
  rw[Int.mul_neg] at h2
  omega
 have hex:∃i,i<m/\0<(S n).T i (c n)*zr m wc (S ns) ((S n).β i):=by
  by_cases e:∃i,i<m/\0<(S n).T i (c n)*zr m wc (S ns) ((S n).β i)
  ·exact e
  ·exfalso
   have:=sz_le (n:=m) (f:=fun i=>(S n).T i (c n)*zr m wc (S ns) ((S n).β i)) (g:=fun _=>0) fun i hi=>Int.not_lt.1 fun h'=>e ⟨i,hi,h'⟩
   rw[sz_zero (f:=fun _=>0) fun _ _=>rfl] at this
   omega
 obtain ⟨i,hi,hpos⟩:=hex
 have hq0:zr m wc (S ns) ((S n).β i)≠0:=fun e=>by rw[e,Int.mul_zero] at hpos;omega
 have hq1:¬ ∃p,p<m/\(S ns).β p=(S n).β i:=fun ⟨p,hp,hq⟩=>hq0 (by rw[<-hq];exact zr_basis vs.tb hp)
 have hq2:∃p,p<m/\(S n).β p=(S n).β i:=⟨i,hi,rfl⟩
 have hq3:∃n',n'<k/\(S n).β i=c n':=by
  by_cases hlt:ns<n
  ·obtain ⟨n',h1,h2,h3,h4⟩:=come_between (β:=fun n=>(S n).β) (k:=n - ns) (i:=ns) hq1 (by rw[show ns+(n - ns)=n by omega];exact hq2)
   exact ⟨n',by omega,comes n' _ (by omega) h3 h4⟩
  ·by_cases h0:∃p,p<m/\(S 0).β p=(S n).β i
   ·obtain ⟨n',h1,h2,h3,h4⟩:=come_between (β:=fun n=>(S n).β) (k:=k - ns) (i:=ns) hq1 (by rw[show ns+(k - ns)=k by omega];exact (ends _).2 h0)
    exact ⟨n',by omega,comes n' _ (by omega) h3 h4⟩
   ·obtain ⟨n',h1,h2,h3,h4⟩:=come_between (β:=fun n=>(S n).β) (k:=n) (i:=0) h0 (by rw[Nat.zero_add];exact hq2)
    exact ⟨n',by omega,comes n' _ (by omega) h3 h4⟩
 obtain ⟨n',hn',hq4⟩:=hq3
 have hq5:(S n).β i<=c ns:=by rw[hq4];exact hmax n' hn'
 by_cases hqt:(S n).β i=c ns
 ·have:i=r n:=vn.tb.inj hi hs.leaves.lt (by rw[hqt,hleave])
  rw[this,hleave] at hpos
  have h1:=hs.leaves.pos
  have h2:=hst.enters.neg
  have h3:0<(S n).T (r n) (c n)* -zr m wc (S ns) (c ns):=Int.mul_pos h1 (by omega)
  rw[Int.mul_neg] at h3
  omega
 ·have z3:0<=zr m wc (S ns) ((S n).β i):=hst.enters.least _ (by omega)
  have hTi:0<(S n).T i (c n):=by
   by_cases e:0<(S n).T i (c n)
   ·exact e
   ·exfalso
    have:0<= -(S n).T i (c n)*zr m wc (S ns) ((S n).β i):=Int.mul_nonneg (by omega) z3
    rw[Int.neg_mul] at this
    omega
  have hiR:(S n).T i R=0:=((zeroAll _ n (by omega)).1 ((zeroAll _ ns (by omega)).2 fun p hp hq=>(hq1 ⟨p,hp,hq⟩).elim)) i hi rfl
  have:=hs.leaves.tie i hi hTi (by rw[flat n hn,hiR,Int.zero_mul,Int.zero_mul])
  rw[hleave] at this
  omega
end
theorem pigeon:∀(K:Nat) (f:Nat->Nat),(∀i,i<=K->f i<K)->∃i j,i<j/\j<=K/\f i=f j
 | 0,f,h=>by have:=h 0 (by omega);omega
 | K+1,f,h=>by
  by_cases e:∃i,i<=K/\f i=f (K+1)
  ·obtain ⟨i,h1,h2⟩:=e
   exact ⟨i,K+1,by omega,by omega,h2⟩
  ·
   obtain ⟨i,j,h1,h2,h3⟩:=pigeon K (fun i=>if f i<f (K+1) then f i else f i - 1) fun i hi=>by
    have h4:=h i (by omega)
    have h5:=h (K+1) (by omega)
    have h6:f i≠f (K+1):=fun e'=>e ⟨i,hi,e'⟩
    show (if f i<f (K+1) then f i else f i - 1)<K
    split<;>omega
   refine ⟨i,j,h1,by omega,?_⟩
   have h6:f i≠f (K+1):=fun e'=>e ⟨i,by omega,e'⟩
   have h7:f j≠f (K+1):=fun e'=>e ⟨j,by omega,e'⟩
   have h3:(if f i<f (K+1) then f i else f i - 1)=(if f j<f (K+1) then f j else f j - 1):=h3
   split at h3<;>split at h3<;>omega
def code (w:Nat) (β:Nat->Nat):Nat->Nat
 | 0=>0
 | m+1=>code w β m*w+β m
theorem code_lt {w:Nat} {β:Nat->Nat}:∀{m:Nat},(∀i,i<m->β i<w)->code w β m<w ^ m
 | 0,_=>by simp[code]
 | m+1,h=>by
  simp only[code]
  have h1:=code_lt (m:=m) fun i hi=>h i (by omega)
  have h2:=h m (by omega)
  have h3:(code w β m+1)*w<=w ^ m*w:=Nat.mul_le_mul_right _ h1
  rw[Nat.pow_succ]
  rw[Nat.add_mul,Nat.one_mul] at h3
  omega
theorem code_inj {w:Nat} {β γ:Nat->Nat}:∀{m:Nat},(∀i,i<m->β i<w)->(∀i,i<m->γ i<w)->code w β m=code w γ m->∀i,i<m->β i=γ i
 | 0,_,_,_,i,hi=>by omega
 | m+1,hβ,hγ,h,i,hi=>by
  simp only[code] at h
  have h1:=hβ m (by omega)
  have h2:=hγ m (by omega)
  have e1:(code w β m*w+β m) % w=β m:=by rw[Nat.mul_comm,Nat.mul_add_mod,Nat.mod_eq_of_lt h1]
  have e2:(code w γ m*w+γ m) % w=γ m:=by rw[Nat.mul_comm,Nat.mul_add_mod,Nat.mod_eq_of_lt h2]
  have e3:β m=γ m:=by rw[<-e1,<-e2,h]
  have e4:code w β m=code w γ m:=by
   have:code w β m*w=code w γ m*w:=by omega
   exact Nat.eq_of_mul_eq_mul_right (by omega) this
  by_cases e:i=m
  ·rw[e];exact e3
  ·exact code_inj (fun i hi=>hβ i (by omega)) (fun i hi=>hγ i (by omega)) e4 i (by omega)
open Classical in
noncomputable def greatest (p:Nat->Prop):Nat->Nat
 | 0=>0
 | k+1=>if p k then k else greatest p k
section
variable {m w N R:Nat} {M:Nat->Nat->Int} {wc:Nat->Int}
theorem Run.short {k:Nat} {S:Nat->Sx} {r c:Nat->Nat} {a:Nat->Nat} (ha:∀i,i<m->a i<w) (hM:∀k,k<m->∀i,i<m->M k (a i)=if k=i then 1 else 0) (hN:N<=R) (hR:R<w)
  (h:Run m w N R M wc k S r c):k<w ^ m:=by
 by_cases hk:k<w ^ m
 ·exact hk
 ·exfalso
  obtain ⟨i,j,h1,h2,h3⟩:=pigeon (w ^ m) (fun n=>code w (S n).β m) fun n hn=>code_lt (h.val n (by omega)).tb.lt
  have h4:=code_inj (h.val i (by omega)).tb.lt (h.val j (by omega)).tb.lt h3
  have h5:Run m w N R M wc (j - i) (fun n=>S (i+n)) (fun n=>r (i+n)) (fun n=>c (i+n)):=⟨fun n hn=>h.val (i+n) (by omega),fun n hn=>h.step (i+n) (by omega)⟩
  refine h5.nocycle ha hM hN hR (by omega) fun p hp=>?_
  show (S (i+(j - i))).β p=(S (i+0)).β p
  rw[show i+(j - i)=j by omega,Nat.add_zero]
  exact (h4 p hp).symm
noncomputable def left (m w N R:Nat) (M:Nat->Nat->Int) (wc:Nat->Int) (s:Sx):Nat:=greatest (fun k=>∃S r c,S 0=s/\Run m w N R M wc k S r c) (w ^ m)
end
def sq:Nat->(Nat->Rat)->Rat
 | 0,_=>0
 | n+1,f=>sq n f+f n
theorem sq_congr:∀{n:Nat} {f g:Nat->Rat},(∀i,i<n->f i=g i)->sq n f=sq n g
 | 0,_,_,_=>rfl
 | n+1,f,g,h=>by
  simp only[sq]
  rw[sq_congr (n:=n) fun i hi=>h i (by omega),h n (by omega)]
theorem sq_add:∀{n:Nat} {f g:Nat->Rat},sq n (fun i=>f i+g i)=sq n f+sq n g
 | 0,_,_=>by simp only[sq];grind
 | n+1,f,g=>by
  simp only[sq]
  rw[sq_add]
  grind
theorem sq_mul:∀{n:Nat} {c:Rat} {f:Nat->Rat},sq n (fun i=>c*f i)=c*sq n f
 | 0,c,_=>by simp[sq]
 | n+1,c,f=>by
  simp only[sq]
  rw[sq_mul]
  grind
theorem sq_zero:∀{n:Nat} {f:Nat->Rat},(∀i,i<n->f i=0)->sq n f=0
 | 0,_,_=>rfl
 | n+1,f,h=>by
  simp only[sq]
  rw[sq_zero fun i hi=>h i (by omega),h n (by omega)]
  grind
theorem sq_le:∀{n:Nat} {f g:Nat->Rat},(∀i,i<n->f i<=g i)->sq n f<=sq n g
 | 0,_,_,_=>Rat.le_refl
 | n+1,f,g,h=>by
  simp only[sq]
  have:=sq_le (n:=n) fun i hi=>h i (by omega)
  have:=h n (by omega)
  grind
theorem sq_swap:∀{m n:Nat} {f:Nat->Nat->Rat},sq m (fun i=>sq n (fun j=>f i j))=sq n (fun j=>sq m (fun i=>f i j))
 | 0,n,f=>by
  simp only[sq]
  exact (sq_zero fun _ _=>rfl).symm
 | m+1,n,f=>by
  simp only[sq]
  rw[sq_swap,sq_add]
structure Lin where
 n:Nat
 m:Nat
 A:Nat->Nat->Int
 b:Nat->Int
 c:Nat->Int
 kd:Nat->Int
def Lin.row (L:Lin) (x:Nat->Rat) (k:Nat):Rat:=sq L.n fun j=>(L.A k j:Rat)*x j
def Lin.col (L:Lin) (y:Nat->Rat) (j:Nat):Rat:=sq L.m fun k=>(L.A k j:Rat)*y k
def Lin.val (L:Lin) (x:Nat->Rat):Rat:=sq L.n fun j=>(L.c j:Rat)*x j
def Lin.rhs (L:Lin) (y:Nat->Rat):Rat:=sq L.m fun k=>(L.b k:Rat)*y k
structure Lin.Feas (L:Lin) (x:Nat->Rat):Prop where
 pos:∀j,j<L.n->0<=x j
 most:∀k,k<L.m->L.kd k≠2->L.row x k<=L.b k
 least:∀k,k<L.m->L.kd k≠1->(L.b k:Rat)<=L.row x k
structure Lin.Sgn (L:Lin) (y:Nat->Rat):Prop where
 most:∀k,k<L.m->L.kd k=1->y k<=0
 least:∀k,k<L.m->L.kd k=2->0<=y k
structure Lin.Dual (L:Lin) (y:Nat->Rat):Prop extends L.Sgn y where
 col:∀j,j<L.n->L.col y j<=L.c j
structure Lin.Ref (L:Lin) (y:Nat->Rat):Prop extends L.Sgn y where
 col:∀j,j<L.n->L.col y j<=0
 rhs:0<L.rhs y
structure Lin.Ray (L:Lin) (r:Nat->Rat):Prop where
 pos:∀j,j<L.n->0<=r j
 most:∀k,k<L.m->L.kd k≠2->L.row r k<=0
 least:∀k,k<L.m->L.kd k≠1->0<=L.row r k
 val:L.val r<0
section
variable {L:Lin}
theorem Lin.swap (x y:Nat->Rat):sq L.n (fun j=>L.col y j*x j)=sq L.m (fun k=>y k*L.row x k):=by
 have e1:sq L.n (fun j=>L.col y j*x j)=sq L.n (fun j=>sq L.m fun k=>(L.A k j:Rat)*y k*x j):=sq_congr fun j _=>by
  unfold Lin.col
  rw[<-sq_mul (c:=x j) |>fun h=>(by rw[h];grind:(sq L.m fun k=>x j*((L.A k j:Rat)*y k))=sq L.m (fun k=>(L.A k j:Rat)*y k)*x j)]
  exact sq_congr fun k _=>by grind
 rw[e1,sq_swap]
 refine sq_congr fun k _=>?_
 unfold Lin.row
 rw[<-sq_mul]
 exact sq_congr fun j _=>by grind
theorem rowle {y r b:Rat} (h:(y<=0/\r<=b)\/(0<=y/\b<=r)\/r=b):b*y<=y*r:=by
 rcases h with ⟨h1,h2⟩ | ⟨h1,h2⟩ | h
 ·have:0<=(-y)*(b - r):=Rat.mul_nonneg (by grind) (by grind)
  grind
 ·have:0<=y*(r - b):=Rat.mul_nonneg h1 (by grind)
  grind
 ·subst h;grind
theorem Lin.Sgn.rows {x y:Nat->Rat} (h:L.Sgn y) {b:Nat->Rat} (h1:∀k,k<L.m->L.kd k≠2->L.row x k<=b k) (h2:∀k,k<L.m->L.kd k≠1->b k<=L.row x k):sq L.m (fun k=>b k*y k)<=sq L.m (fun k=>y k*L.row x k):=sq_le fun k hk=>by
 apply rowle
 by_cases e1:L.kd k=1
 ·exact .inl ⟨h.most k hk e1,h1 k hk (by omega)⟩
 ·by_cases e2:L.kd k=2
  ·exact .inr (.inl ⟨h.least k hk e2,h2 k hk e1⟩)
  ·have a1:=h1 k hk e2
   have a2:=h2 k hk e1
   exact .inr (.inr (Rat.le_antisymm a1 a2))
theorem Lin.Ref.none {x y:Nat->Rat} (hy:L.Ref y) (hx:L.Feas x):False:=by
 have h1:=hy.rows (x:=x) (b:=fun k=>(L.b k:Rat)) hx.most hx.least
 rw[<-L.swap x y] at h1
 have h2:sq L.n (fun j=>L.col y j*x j)<=sq L.n (fun _=>0):=sq_le fun j hj=>by
  have:0<=(-L.col y j)*x j:=Rat.mul_nonneg (by have:=hy.col j hj;grind) (hx.pos j hj)
  grind
 rw[sq_zero (f:=fun _=>0) fun _ _=>rfl] at h2
 have h3:=hy.rhs
 unfold Lin.rhs at h3
 grind
theorem Lin.Ray.none {r y:Nat->Rat} (hr:L.Ray r) (hy:L.Dual y):False:=by
 have h1:=hy.rows (x:=r) (b:=fun _=>0) hr.most hr.least
 rw[<-L.swap r y,sq_zero (f:=fun k=>0*y k) fun k _=>by grind] at h1
 have h2:sq L.n (fun j=>L.col y j*r j)<=L.val r:=sq_le fun j hj=>Rat.mul_le_mul_of_nonneg_right (hy.col j hj) (hr.pos j hj)
 have h3:=hr.val
 grind
end
structure Lay where
 N:Nat
 sl:Nat->Nat
 σ:Nat->Int
def Lay.M (Y:Lay) (L:Lin) (k j:Nat):Int :=
 if j<L.n then Y.σ k*L.A k j else if j<Y.N then (if L.kd k≠3/\j=Y.sl k then Y.σ k*(if L.kd k=1 then 1 else -1) else 0) else if j<Y.N+L.m then (if j=Y.N+k then 1 else 0) else Y.σ k*L.b k
structure Lay.ok (Y:Lay) (L:Lin):Prop where
 n:L.n<=Y.N
 kd:∀k,k<L.m->L.kd k=1\/L.kd k=2\/L.kd k=3
 sl:∀k,k<L.m->L.kd k≠3->L.n<=Y.sl k/\Y.sl k<Y.N
 inj:∀k l,k<L.m->l<L.m->L.kd k≠3->L.kd l≠3->Y.sl k=Y.sl l->k=l
 sg:∀k,k<L.m->Y.σ k=1\/Y.σ k= -1
 b:∀k,k<L.m->0<=Y.σ k*L.b k
abbrev Lay.R (Y:Lay) (L:Lin):Nat:=Y.N+L.m
abbrev Lay.w (Y:Lay) (L:Lin):Nat:=Y.N+L.m+1
section
variable {L:Lin} {Y:Lay}
theorem Lay.M_a (h:Y.ok L) {k i:Nat} (hi:i<L.m):Y.M L k (Y.N+i)=if k=i then 1 else 0:=by
 have:=h.n
 unfold Lay.M
 rw[if_neg (by omega),if_neg (by omega),if_pos (by omega)]
 by_cases e:k=i
 ·rw[if_pos e,if_pos (by omega)]
 ·rw[if_neg e,if_neg (by omega)]
theorem Lay.M_R (h:Y.ok L) {k:Nat}:Y.M L k (Y.R L)=Y.σ k*L.b k:=by
 have:=h.n
 unfold Lay.M Lay.R
 rw[if_neg (by omega),if_neg (by omega),if_neg (by omega)]
theorem Lay.ss (h:Y.ok L) {k:Nat} (hk:k<L.m):Y.σ k*Y.σ k=1:=by
 rcases h.sg k hk with e | e<;>rw[e]<;>rfl
abbrev Lay.Val (Y:Lay) (L:Lin) (S:Sx):Prop:=Dn.Val L.m (Y.w L) Y.N (Y.R L) (Y.M L) S
theorem Lay.art (h:Y.ok L):(∀i,i<L.m->Y.N+i<Y.w L)/\∀k,k<L.m->∀i,i<L.m->Y.M L k (Y.N+i)=if k=i then 1 else 0 :=
 ⟨fun i hi=>by unfold Lay.w;omega,fun k _ i hi=>Lay.M_a h hi⟩
theorem Lay.first (h:Y.ok L):Y.Val L ⟨Y.M L,1,fun i=>Y.N+i⟩:=by
 refine ⟨Tb.first (Lay.art h).1 (Lay.art h).2,fun i hi=>?_,fun i hi=>?_⟩
 ·show 0<=Y.M L i (Y.R L)
  rw[Lay.M_R h]
  exact h.b i hi
 ·show Y.N+i≠Y.N+L.m
  omega
def costs (L:Lin) (j:Nat):Int:=if j<L.n then L.c j else 0
end
def Lin.F (L:Lin) (k:Nat):Int:=1+ab (L.b k)+sz L.n fun j=>ab (L.A k j)
def Lin.P (L:Lin):Int:=pz L.m L.F
section
variable {L:Lin} {Y:Lay}
end
section
variable {L:Lin} {Y:Lay}
end
section
variable {α R:Type} {F:(α->Option R)->α->Option R}
theorem loopF_seq (n:Nat) (st:Nat->α) (r:Option R) (hb:∀again i,i<n->F again (st i)=again (st (i+1))) (hf:∀again,F again (st n)=r):∀(k i m:Nat),i+k=n->k<m->loopF F m (st i)=r
 | 0,i,m,h1,h2=>by
  obtain ⟨m,rfl⟩:∃m',m=m'+1:=⟨m - 1,by omega⟩
  rw[loopF_succ,show i=n by omega,hf]
 | k+1,i,m,h1,h2=>by
  obtain ⟨m,rfl⟩:∃m',m=m'+1:=⟨m - 1,by omega⟩
  rw[loopF_succ,hb _ _ (by omega)]
  exact loopF_seq n st r hb hf k (i+1) m (by omega) (by omega)
theorem lpK_seq (n:Nat) (hn:n<=1180591620717411303423) (st:Nat->α) (r:Option R) (hb:∀again i,i<n->F again (st i)=again (st (i+1))) (hf:∀again,F again (st n)=r):lpK α R F (st 0)=r :=
 loopF_seq n st r hb hf n 0 K0 (by omega) (by unfold K0;omega)
theorem lpK_seqX {x:α} (n:Nat) (hn:n<=1180591620717411303423) (st:Nat->α) (r:Option R) (hx:x=st 0) (hb:∀again i,i<n->F again (st i)=again (st (i+1))) (hf:∀again,F again (st n)=r):lpK α R F x=r:=by
 rw[hx]
 exact lpK_seq n hn st r hb hf
end
section
variable {α:Type} {m w:Nat} {T T':Nat->Nat->Int}
end
end Dn
end Go.Proofs.YtlfdhaiigdllcaaGreatDoor

namespace Go.Proofs.YtlfdhaiigdllcaaGreatDoor
open Dn Dn.Sh
def kk (d:Int->Int) (f:Nat->Int) (x:Int):Nat->Nat
 | 0=>0
 | n+1=>if d x<d (f n) then kk d f x n else n+1
section
variable {d:Int->Int}
end
end Go.Proofs.YtlfdhaiigdllcaaGreatDoor

namespace Go.Proofs.YtlfdhaiigdllcaaGreatDoor
open Tryz Dn Dn.Sh
theorem succ_wrap {i:Nat} (h:i<=1000000):IntKind.wrap .i64 ((i:Int)+1)=((i+1:Nat):Int):=by rw[wrap_id (by omega) (by omega)];rfl
theorem obN {T R:Type} {t:T} {k:T->Option R}:obind (some t) k=k t:=id rfl
theorem idxI_first {α:Type} {p:α->Bool} {d:α}:∀{l:List α} {k:Nat} {i:Int},k<l.length->p (l.getD k d)=true->(∀j,j<k->p (l.getD j d)=false)->idxI p l i=i+k
 | [],k,i,hk,_,_=>by simp at hk
 | a ::l,0,i,_,hp,_=>by
  unfold idxI
  rw[show p a=true from hp]
  simp
 | a ::l,k+1,i,hk,hp,hj=>by
  unfold idxI
  rw[show p a=false from hj 0 (by omega),cond_false,idxI_first (k:=k) (i:=i+1) (by simpa using hk) hp (fun j h=>hj (j+1) (by omega))]
  omega
def fI (ss:List HS) (n:ByteArray):Int:=idxI (fun s:HS=>decide (s.1=n)) ss 0
def Uq (ss:List HS):Prop:=∀i,i<ss.length->fI ss (ss.getD i set0).1=(i:Int)
theorem fI_at {ss:List HS} {n:ByteArray} (h:0<=fI ss n):(fI ss n).toNat<ss.length/\(ss.getD (fI ss n).toNat set0).1=n:=by
 obtain ⟨h1,h2,h3⟩:=idxI_at (d:=set0) (i:=0) (by omega) h
 refine ⟨by unfold fI at h ⊢;omega,?_⟩
 have:=of_decide_eq_true h3
 rw[Int.sub_zero] at this
 exact this
theorem uq_iff {ss:List HS}:Uq ss↔∀i j,i<ss.length->j<ss.length->(ss.getD i set0).1=(ss.getD j set0).1->i=j:=by
 constructor
 ·intro h i j hi hj e
  have h1:=h i hi
  have h2:=h j hj
  rw[e,h2] at h1
  omega
 ·intro h i hi
  unfold fI
  rw[idxI_first (d:=set0) (k:=i) hi (decide_eq_true rfl) fun j hj=>decide_eq_false fun e=>by have:=h j i (by omega) hi e;omega]
  omega
noncomputable def putL (ss:List HS) (s:HS):List HS:=bif decide (fI ss s.1<0) then ss++[s] else ss.set (fI ss s.1).toNat s
theorem putL_new {ss:List HS} {s:HS} (h:fI ss s.1<0):putL ss s=ss++[s]:=by unfold putL;rw[decide_eq_true h,cond_true]
theorem putL_old {ss:List HS} {s:HS} (h:¬ fI ss s.1<0):putL ss s=ss.set (fI ss s.1).toNat s:=by unfold putL;rw[decide_eq_false h,cond_false]
theorem getD_new {α:Type} {l:List α} {a d:α} {i:Nat}:(l++[a]).getD i d=if i<l.length then l.getD i d else if i=l.length then a else d:=by
 simp only[List.getD_eq_getElem?_getD]
 by_cases h1:i<l.length
 ·rw[if_pos h1,List.getElem?_append_left h1]
 ·rw[if_neg h1,List.getElem?_append_right (by omega)]
  by_cases h2:i=l.length
  ·rw[if_pos h2,h2];simp
  ·rw[if_neg h2,List.getElem?_eq_none (by simp;omega)];rfl
theorem getD_old {α:Type} {l:List α} {a d:α} {i k:Nat} (hk:k<l.length):(l.set k a).getD i d=if i=k then a else l.getD i d:=by
 simp only[List.getD_eq_getElem?_getD,List.getElem?_set]
 by_cases h:k=i
 ·subst h;simp[hk]
 ·rw[if_neg h,if_neg fun e=>h e.symm]
theorem fI_none {ss:List HS} {n:ByteArray} (h:fI ss n<0) {i:Nat} (hi:i<ss.length):(ss.getD i set0).1≠n:=fun e=>by
 have h0:=(idxI_neg (p:=fun s:HS=>decide (s.1=n)) (l:=ss) (i:=0) (by omega)).1 h (ss.getD i set0) (by rw[getD_nat hi];exact List.getElem_mem _)
 exact of_decide_eq_false h0 e
theorem put_uq {ss:List HS} {s:HS} (h:Uq ss):Uq (putL ss s):=by
 rw[uq_iff] at h ⊢
 by_cases hn:fI ss s.1<0
 ·rw[putL_new hn]
  intro i j hi hj e
  rw[List.length_append,List.length_singleton] at hi hj
  rw[getD_new,getD_new] at e
  by_cases h1:i<ss.length
  ·rw[if_pos h1] at e
   by_cases h2:j<ss.length
   ·rw[if_pos h2] at e
    exact h i j h1 h2 e
   ·rw[if_neg h2,if_pos (by omega)] at e
    exact absurd e (fI_none hn h1)
  ·rw[if_neg h1,if_pos (by omega)] at e
   by_cases h2:j<ss.length
   ·rw[if_pos h2] at e
    exact absurd e.symm (fI_none hn h2)
   ·omega
 ·obtain ⟨k1,k2⟩:=fI_at (show 0<=fI ss s.1 by omega)
  rw[putL_old hn]
  have hg:∀i,((ss.set (fI ss s.1).toNat s).getD i set0).1=(ss.getD i set0).1:=fun i=>by
   rw[getD_old k1]
   by_cases c:i=(fI ss s.1).toNat
   ·rw[if_pos c,c,k2]
   ·rw[if_neg c]
  intro i j hi hj e
  rw[List.length_set] at hi hj
  rw[hg,hg] at e
  exact h i j hi hj e
theorem put_at {ss:List HS} {s:HS} (h:Uq ss):∃k:Nat,fI (putL ss s) s.1=(k:Int)/\k<(putL ss s).length/\(putL ss s).getD k set0=s:=by
 have hu:=put_uq (s:=s) h
 by_cases hn:fI ss s.1<0
 ·have e:(putL ss s).getD ss.length set0=s:=by rw[putL_new hn,getD_new,if_neg (by omega),if_pos rfl]
  have hl:ss.length<(putL ss s).length:=by rw[putL_new hn];simp
  have:=hu ss.length hl
  rw[e] at this
  exact ⟨_,this,hl,e⟩
 ·obtain ⟨k1,k2⟩:=fI_at (show 0<=fI ss s.1 by omega)
  have e:(putL ss s).getD (fI ss s.1).toNat set0=s:=by rw[putL_old hn,getD_old k1,if_pos rfl]
  have hl:(fI ss s.1).toNat<(putL ss s).length:=by rw[putL_old hn,List.length_set];exact k1
  have:=hu _ hl
  rw[e] at this
  exact ⟨_,this,hl,e⟩
theorem put_len {ss:List HS} {s:HS}:(putL ss s).length=if fI ss s.1<0 then ss.length+1 else ss.length:=by
 by_cases hn:fI ss s.1<0
 ·rw[if_pos hn,putL_new hn];simp
 ·rw[if_neg hn,putL_old hn];simp
theorem put_mem {ss:List HS} {s:HS} {P:HS->Prop} (h:∀x ∈ ss,P x) (hs:P s):∀x ∈ putL ss s,P x:=by
 intro x hx
 by_cases hn:fI ss s.1<0
 ·rw[putL_new hn,List.mem_append,List.mem_singleton] at hx
  rcases hx with hx | rfl
  ·exact h x hx
  ·exact hs
 ·rw[putL_old hn] at hx
  rcases List.mem_or_eq_of_mem_set hx with hx | rfl
  ·exact h x hx
  ·exact hs
theorem validHB_iff {nm:ByteArray} {ht:Int} {ss:List HS} {rs:List Bm}:validHB (nm,ht,ss,rs)=true↔nameB nm=true/\1<=ht/\ht<=1048576/\ss.length<=60/\validG rs=true/\(∀s ∈ ss,setB s=true/\s.2.2.2.1<=ht)/\Uq ss:=by
 unfold validHB
 simp only[Bool.and_eq_true,Bool.not_eq_true',decide_eq_false_iff_not,List.all_eq_true,List.mem_range',decide_eq_true_eq,Nat.one_mul,Nat.zero_add]
 constructor
 ·rintro ⟨h1,h2,h3,h4,h5,h6⟩
  refine ⟨h1,by omega,by omega,by omega,h5,fun s hs=>?_,fun i hi=>?_⟩
  ·obtain ⟨i,hi,rfl⟩:=List.getElem_of_mem hs
   obtain ⟨g1,g2,_⟩:=h6 i ⟨i,hi,rfl⟩
   rw[getD_nat hi] at g1 g2
   exact ⟨g1,by omega⟩
  ·exact (h6 i ⟨i,hi,rfl⟩).2.2
 ·rintro ⟨h1,h2,h3,h4,h5,h6,h7⟩
  refine ⟨h1,by omega,by omega,by omega,h5,fun i hi=>?_⟩
  obtain ⟨_,hi,rfl⟩:=hi
  have:=h6 (ss.getD _ set0) (by rw[getD_nat hi];exact List.getElem_mem _)
  exact ⟨this.1,by omega,h7 _ hi⟩
theorem put_valid {nm:ByteArray} {ht:Int} {ss:List HS} {rs:List Bm} {s:HS} (h:validHB (nm,ht,ss,rs)=true) (hs:setB s=true) (h59:ss.length<=59):validHB (nm,ht,putL ss s,rs)=decide (s.2.2.2.1<=ht):=by
 obtain ⟨h1,h2,h3,h4,h5,h6,h7⟩:=validHB_iff.1 h
 by_cases hh:s.2.2.2.1<=ht
 ·rw[decide_eq_true hh]
  refine validHB_iff.2 ⟨h1,h2,h3,?_,h5,put_mem h6 ⟨hs,hh⟩,put_uq h7⟩
  rw[put_len]
  split<;>omega
 ·rw[decide_eq_false hh,<-Bool.not_eq_true]
  intro hv
  obtain ⟨_,_,_,_,_,g6,_⟩:=validHB_iff.1 hv
  obtain ⟨k,_,k2,k3⟩:=put_at (s:=s) h7
  have hm:(putL ss s).getD k set0 ∈ putL ss s:=by rw[getD_nat k2];exact List.getElem_mem _
  rw[k3] at hm
  exact hh (g6 s hm).2
abbrev fewS (s:HS):Prop:=s.2.2.2.2.2.1.length<=1000000/\s.2.2.2.2.2.2.2.2.2.2.2.1.length<=1000000/\s.2.2.2.2.2.2.2.2.2.2.2.2.length<=1000000
abbrev h0:HH:=({ data:=#[] },(0:Int),[],[])
theorem copied_ok {s:HS} (h:fewS s):house_copied s=some s:=by
 obtain ⟨nm,dp,lo,hi,len,ls,pi,ar,pu,mo,br,l,bs⟩:=s
 obtain ⟨h1,h2,h3⟩:=h
 simp only at h1 h2 h3
 simp only[house_copied,house_copied_b,slices_Clone_67,slices_Clone_67_b,slices_Clone_68,slices_Clone_68_b,slices_Clone_69,slices_Clone_69_b,fitB_of (show (0+ls.length)*8<=140737488355328 by omega),fitB_of (show (0+l.length)*64<=140737488355328 by omega),fitB_of (show (0+bs.length)*32<=140737488355328 by omega),cT,obN]
theorem take_next {ss:List HS} {i:Nat} (h:i<ss.length):ss.take i++[ss.getD i set0]=ss.take (i+1):=by
 rw[getD_nat h,List.take_append_getElem]
section
variable {nm:ByteArray} {ht:Int} {ss:List HS} {rs:List Bm} {s:HS}
set_option maxRecDepth 10000 in
theorem put_ok (hl:ss.length<=1000) (hr:rs.length<=1000) (hss:∀x ∈ ss,fewS x) (hs:fewS s) :
  house_Put (nm,ht,ss,rs) s=some (bif validHB (nm,ht,ss,rs)&&(setB s&&!decide (s.2.2.2.1>ht)) then (bif decide (fI ss s.1<0)&&decide ((ss.length:Int)=60) then (h0,(4:Int),PUnit.unit) else ((nm,ht,putL ss s,rs),(0:Int),PUnit.unit)) else (h0,(1:Int),PUnit.unit)):=by
 have e1:∀e0:Bool,(!e0||e0)=true:=fun e0=>by cases e0<;>rfl
 have e2:∀e0:Bool,(e0||!e0)=true:=fun e0=>by cases e0<;>rfl
 have hfind:house_find (nm,ht,ss,rs) s.1=some (fI ss s.1):=find_ok _ _ (show ss.length<=1000000 by omega)
 simp only[house_Put,house_Put_b,hValid_ok,validA_ok,obN,obind_bif,e1,e2,Bool.and_self,cT,hfind,slices_Clone_39,slices_Clone_39_b,fitB_of (show (0+rs.length)*40<=140737488355328 by omega)]
 generalize validHB (nm,ht,ss,rs)=b1
 generalize setB s=b2
 cases b1;· simp only[Bool.not_true,Bool.not_false,Bool.false_and,cT,cF]
 cases b2;· simp only[Bool.not_true,Bool.not_false,Bool.false_and,Bool.and_false,cT,cF]
 simp only[Bool.not_true,Bool.not_false,Bool.and_self,Bool.true_and,cF]
 by_cases c:s.2.2.2.1>ht
 ·simp only[decide_eq_true c,Bool.not_true,cT,cF]
 ·simp only[decide_eq_false c,Bool.not_false,cT,cF]
  generalize hb3:decide ((ss.length:Int)=60)=b3
  by_cases hn:fI ss s.1<0
  ·simp only[decide_eq_true hn,Bool.true_and,cT]
   cases b3
   ·simp only[cF]
    refine lpK_seqX ss.length (by omega) (fun i=>((i:Int),nm,ht,ss.take i,rs,PUnit.unit)) _ rfl (fun again i hi=>?_) (fun again=>?_)
    ·simp only[decide_eq_true (show (i:Int)<ss.length by omega),inB_nat,decide_eq_true hi,Int.toNat_natCast,copied_ok (hss (ss.getD i set0) (by rw[getD_nat hi];exact List.getElem_mem _)),obN,List.length_take,fitB_of (show (min i ss.length+1)*160<=140737488355328 by omega),cT,take_next hi,succ_wrap (show i<=1000000 by omega)]
    ·simp only[decide_eq_false (show ¬ (ss.length:Int)<ss.length by omega),cF,copied_ok hs,obN,fitB_of (show (ss.length+1)*160<=140737488355328 by omega),cT,List.take_length,putL_new hn]
   ·simp only[cT]
  ·simp only[decide_eq_false hn,Bool.false_and,cF]
   obtain ⟨k1,k2⟩:=fI_at (show 0<=fI ss s.1 by omega)
   obtain ⟨k,hk⟩:∃k:Nat,fI ss s.1=(k:Int):=⟨(fI ss s.1).toNat,by omega⟩
   rw[hk,Int.toNat_natCast] at k1
   refine lpK_seqX ss.length (by omega) (fun i=>((i:Int),nm,ht,ss.take i,rs,PUnit.unit)) _ rfl (fun again i hi=>?_) (fun again=>?_)
   ·simp only[decide_eq_true (show (i:Int)<ss.length by omega),inB_nat,decide_eq_true hi,Int.toNat_natCast,copied_ok (hss (ss.getD i set0) (by rw[getD_nat hi];exact List.getElem_mem _)),obN,List.length_take,fitB_of (show (min i ss.length+1)*160<=140737488355328 by omega),cT,take_next hi,succ_wrap (show i<=1000000 by omega)]
   ·simp only[decide_eq_false (show ¬ (ss.length:Int)<ss.length by omega),cF,copied_ok hs,obN,List.take_length,hk,inB_nat,Int.toNat_natCast,decide_eq_true k1,ble_of (show Nat.succ k<=ss.length by omega),cT,putL_old hn]
end
abbrev Rs:=Fq×Int×PUnit
def sumQ (S:Nat->Rat):Nat->Rat
 | 0=>0
 | n+1=>sumQ S n+S n
def wsum:List Ld->Int
 | []=>0
 | x ::r=>x.2+wsum r
theorem cntB_take {l:List Bm} {d:Int} {n:Nat} (h:n<l.length):(cntB (l.take (n+1)) d:Int)=cntB (l.take n) d+(if isB d (bmAt l n) then 1 else 0):=by
 have e:bmAt l n=l[n]:=getD_nat h
 unfold cntB
 rw[List.take_succ_eq_append_getElem h,List.filter_append,List.length_append,e]
 cases hb:isB d l[n]<;>simp[List.filter_cons,hb]
theorem step_sum {l:List Bm} {x:Ld} {S:Nat->Rat}:∀n:Nat,n<=l.length->sumQ (stepQ l x S) n=sumQ S n+((cntB (l.take n) x.1:Int):Rat)*shareQ l x
 | 0,_=>by
  simp only[sumQ,cntB,List.take_zero,List.filter_nil,List.length_nil]
  grind
 | n+1,h=>by
  have ih:=step_sum (l:=l) (x:=x) (S:=S) n (by omega)
  have hc:=cntB_take (l:=l) (d:=x.1) (n:=n) (by omega)
  simp only[sumQ]
  rw[ih,hc]
  unfold stepQ
  cases isB x.1 (bmAt l n) with
  | true =>
   simp only[if_true]
   rw[Rat.intCast_add]
   grind
  | false =>
   simp only[Bool.false_eq_true,if_false]
   rw[Rat.intCast_add]
   grind
theorem share_all {l:List Bm} {x:Ld} (hc:cntB l x.1≠0):((cntB l x.1:Int):Rat)*shareQ l x=(x.2:Rat):=by
 unfold shareQ
 rw[Rat.mkRat_eq_div]
 have h:((cntB l x.1:Int):Rat)≠0:=by
  intro e
  have:=(Rat.intCast_eq_zero_iff).1 e
  omega
 have h2:((cntB l x.1:Nat):Rat)=((cntB l x.1:Int):Rat):=rfl
 rw[h2]
 generalize ((cntB l x.1:Int):Rat)=c at *
 grind
theorem run_sum {l:List Bm}:∀{L:List Ld} {S S':Nat->Rat},(∀x ∈ L,cntB l x.1≠0)->runQ l L S=some S'->sumQ S' l.length=sumQ S l.length+(wsum L:Rat)
 | [],S,S',_,e=>by
  simp only[runQ,Option.some.injEq] at e
  subst e
  simp only[wsum]
  grind
 | x ::r,S,S',h,e=>by
  simp only[runQ] at e
  split at e
  ·have ih:=run_sum (L:=r) (fun y hy=>h y (by simp[hy])) e
   have h1:=step_sum (l:=l) (x:=x) (S:=S) l.length (Nat.le_refl _)
   rw[List.take_length,share_all (h x (by simp))] at h1
   rw[ih,h1]
   simp only[wsum]
   rw[Rat.intCast_add]
   grind
  ·cases e
theorem sum_range (S:Nat->Rat):∀n:Nat,((List.range' 0 n).map S).foldl (·+·) 0=sumQ S n
 | 0=>rfl
 | n+1=>by
  rw[List.range'_1_concat,List.map_append,List.foldl_append,sum_range S n]
  simp[sumQ]
theorem sum_walk {d:Fq} {f:Fq×Fq->Option Rs}:∀{L:List Rat} {q:Rat},fitsQ q->(∀y ∈ L,fitsQ y) ->
  (listF (fun (x:Fq) (s:Fq×Fq) (k:Fq×Fq->Option Rs)=>obind (ratio_Add s.2 x) fun (t:(Int×Int)×Int×PUnit)=>bif !decide (t.2.1=(0:Int)) then some (((0:Int),(0:Int)),t.2.1,PUnit.unit) else k (s.1,t.1)) f (L.map prQ) (d,prQ q)=some ((0,0),5,())) \/
  (fitsQ (L.foldl (·+·) q)/\listF (fun (x:Fq) (s:Fq×Fq) (k:Fq×Fq->Option Rs)=>obind (ratio_Add s.2 x) fun (t:(Int×Int)×Int×PUnit)=>bif !decide (t.2.1=(0:Int)) then some (((0:Int),(0:Int)),t.2.1,PUnit.unit) else k (s.1,t.1)) f (L.map prQ) (d,prQ q)=f (d,prQ (L.foldl (·+·) q)))
 | [],q,hq,_=>.inr ⟨hq,rfl⟩
 | y ::L,q,hq,hy=>by
  simp only[List.map_cons,listF,List.foldl_cons]
  rw[Add_ok (okF_prQ hq) (okF_prQ (hy y (by simp))),obind_some',qv_prQ,qv_prQ]
  rcases fitQ_cases (q+y) with ⟨h1,h2⟩ | ⟨h1,h2⟩
  ·rw[h2]
   exact sum_walk h1 fun z hz=>hy z (by simp[hz])
  ·rw[h2]
   exact .inl rfl
theorem contains27 {f:(Fq×Unit)->Option Bool} {p:Fq->Bool} {l:List Fq} (hl:l.length<=1000000) (h:∀a,a ∈ l->f (a,())=some (p a)):slices_ContainsFunc_43 l f=some (l.any p):=by
 simp only[slices_ContainsFunc_43,slices_ContainsFunc_43_b]
 unfold slices_IndexFunc_77 slices_IndexFunc_77_b
 rw[index_loop (f:=f) (d:=((0:Int),(0:Int))) hl h,obind_some',contains_of_idx]
theorem outQ_mem {n:Nat} {S:Nat->Rat} {a:Fq} (h:a ∈ outQ n S):∃i,i<n/\a=prQ (S i):=by
 unfold outQ at h
 obtain ⟨i,hi,rfl⟩:=List.mem_map.1 h
 obtain ⟨k,hk,rfl⟩:=List.mem_range'.1 hi
 exact ⟨_,by omega,rfl⟩
theorem sumF_ok {n:Nat} {S:Nat->Rat} (hn:n<=1000) (hS:∀i,i<n->fitsQ (S i)):ratio_Sum (outQ n S)=some ((0,0),5,())\/(fitsQ (sumQ S n)/\ratio_Sum (outQ n S)=some (prQ (sumQ S n),0,())):=by
 have hlen:=outQ_len n S
 have hc:slices_ContainsFunc_43 (outQ n S) (fun x=>ratio_Sum_1 x.1)=some false:=by
  rw[contains27 (p:=fun a=>!decide (okF a)) (by omega) (fun a _=>by simp only[ratio_Sum_1,ratio_Sum_1_b,Valid_ok,obind_some'])]
  congr 1
  rw[List.any_eq_false]
  intro a ha
  obtain ⟨i,hi,rfl⟩:=outQ_mem ha
  simp[decide_eq_true (okF_prQ (hS i hi))]
 have hw:=sum_walk (d:=((0:Int),(0:Int))) (f:=fun s=>some (s.2,(0:Int),PUnit.unit)) (L:=(List.range' 0 n).map S) (q:=0) (by decide) (fun y hy=>by
  obtain ⟨i,hi,rfl⟩:=List.mem_map.1 hy
  obtain ⟨k,hk,rfl⟩:=List.mem_range'.1 hi
  exact hS _ (by omega))
 rw[sum_range,show ((List.range' 0 n).map S).map prQ=outQ n S by unfold outQ;rw[List.map_map];rfl] at hw
 have key:ratio_Sum (outQ n S)=listF (fun (x:Fq) (s:Fq×Fq) (k:Fq×Fq->Option Rs)=>obind (ratio_Add s.2 x) fun (t:(Int×Int)×Int×PUnit)=>bif !decide (t.2.1=(0:Int)) then some (((0:Int),(0:Int)),t.2.1,PUnit.unit) else k (s.1,t.1)) (fun s=>some (s.2,(0:Int),PUnit.unit)) (outQ n S) (((0:Int),(0:Int)),prQ 0):=by
  simp only[ratio_Sum,ratio_Sum_b,hc,obind_some',cF]
  rw[decide_eq_false (show ¬ (((outQ n S).length:Nat):Int)>1000 by omega),cF]
  refine lpK_int (outQ n S) ((0:Int),(0:Int)) (by omega) (fun i (s:Fq×Fq)=>(((i:Nat):Int),s.1,s.2,PUnit.unit)) _ _ (fun again i s hi=>?_) (fun again s=>?_) (((0:Int),(0:Int)),((0:Int),(1:Int)))
  ·have hwr:IntKind.wrap .i64 ((i:Int)+1)=((i+1:Nat):Int):=by rw[wrap_id (by omega) (by omega)];rfl
   simp only[inB_nat,decide_eq_true hi,decide_eq_true (show (i:Int)<(outQ n S).length by omega),cT,Int.toNat_natCast,hwr]
  ·simp only[decide_eq_false (show ¬ (((outQ n S).length:Nat):Int)<(outQ n S).length by omega),cF]
 rw[key]
 exact hw
theorem small6_ok (h:HH):ref30_Small h 6=some (smallHB h):=by
 obtain ⟨nm,ht,ss,rs⟩:=h
 simp only[ref30_Small,ref30_Small_b,smallHB,small21_ok,obind_some']
 have h1:shortB nm=!decide ((nm.size:Int)>60):=rfl
 rw[h1,show IntKind.wrap .i64 (6+10)=16 by kernel_rfl]
 generalize decide ((nm.size:Int)>60)=b1
 generalize hb2:decide ((ss.length:Int)>6)=b2
 generalize hb3:decide ((rs.length:Int)>16)=b3
 cases b2;case true=>rfl
 cases b3;case true=>rfl
 cases b1;case true=>rfl
 have g2:¬ (ss.length:Int)>6:=of_decide_eq_false hb2
 have g3:¬ (rs.length:Int)>16:=of_decide_eq_false hb3
 simp only[Bool.not_true,Bool.not_false,Bool.or_true,Bool.and_self,Bool.true_and,cT,cF]
 refine Eq.trans (chk_loop (p:=small21B) (d:=set0) (l:=ss) (no:=some false) (yes:=some (rs.all fun x=>shortB x.1)) (by omega) ?_ ?_) ?_
 ·intro again i hi
  have hw:IntKind.wrap .i64 ((i:Int)+1)=((i+1:Nat):Int):=by rw[wrap_id (by omega) (by omega)];rfl
  simp only[inB_nat,decide_eq_true hi,decide_eq_true (show (i:Int)<ss.length by omega),cT,Int.toNat_natCast,hw]
  cases small21B (ss.getD i set0)<;>rfl
 ·intro again
  simp only[decide_eq_false (show ¬ (ss.length:Int)<ss.length by omega),cF]
  refine (chk_loop (p:=fun x:Bm=>shortB x.1) (d:=bm0) (l:=rs) (no:=some false) (yes:=some true) (by omega) ?_ ?_).trans ?_
  ·intro again i hi
   have hw:IntKind.wrap .i64 ((i:Int)+1)=((i+1:Nat):Int):=by rw[wrap_id (by omega) (by omega)];rfl
   simp only[inB_nat,decide_eq_true hi,decide_eq_true (show (i:Int)<rs.length by omega),cT,Int.toNat_natCast,hw]
   unfold shortB
   cases decide ((((rs.getD i bm0).1.size:Nat):Int)>60)<;>rfl
  ·intro again
   simp only[decide_eq_false (show ¬ (rs.length:Int)<rs.length by omega),cF]
  ·cases rs.all (fun x=>shortB x.1)<;>rfl
 ·cases ss.all small21B<;>cases rs.all (fun x=>shortB x.1)<;>rfl
theorem neg_ok {a:Fq} (ha:okF a):okF (-a.1,a.2)/\qv (-a.1,a.2)= - qv a:=by
 obtain ⟨⟨a1,a2⟩,⟨a3,a4⟩,a5⟩:=ha
 refine ⟨⟨⟨a1,a2⟩,⟨by simp only;omega,by simp only;omega⟩,by simpa using a5⟩,?_⟩
 simp only[qv]
 rw[Rat.neg_mkRat]
theorem sub_ok {a b:Fq} (ha:okF a) (hb:okF b):ratio_Sub a b=some (fitQ (qv a - qv b)):=by
 obtain ⟨h2,h3⟩:=neg_ok hb
 have hb':=hb
 obtain ⟨_,⟨b1,b2⟩,_⟩:=hb'
 have hw:IntKind.wrap .i64 (0 - b.1)= -b.1:=by rw[wrap_id (by omega) (by omega)];omega
 simp only[ratio_Sub,ratio_Sub_b,Valid_ok,decide_eq_true ha,decide_eq_true hb,obind_some',Bool.not_true,Bool.not_false,Bool.or_false,Bool.or_true,Bool.false_or,Bool.true_or,cT,cF]
 rw[hw,Add_ok ha h2,obind_some',h3,<-Rat.sub_eq_add_neg]
def hung (s:HS) (x:Itm):HS:=(s.1,s.2.1,s.2.2.1,s.2.2.2.1,s.2.2.2.2.1,s.2.2.2.2.2.1,s.2.2.2.2.2.2.1,s.2.2.2.2.2.2.2.1,s.2.2.2.2.2.2.2.2.1,s.2.2.2.2.2.2.2.2.2.1,s.2.2.2.2.2.2.2.2.2.2.1,s.2.2.2.2.2.2.2.2.2.2.2.1++[x],s.2.2.2.2.2.2.2.2.2.2.2.2)
def Fits (s:HS) (x:Itm):Prop:=s.2.2.2.2.2.2.2.2.2.2.2.1.length≠40/\itemB s.2.2.2.2.1 x=true/\(∀y ∈ s.2.2.2.2.2.2.2.2.2.2.2.1,y.1≠x.1)/\∀y ∈ s.2.2.2.2.2.2.2.2.2.2.2.1,apartB y x=true
theorem bput_ok {s:HS} (hf:fewS s) (x:Itm):(∃t e,e≠(0:Int)/\batten_Put s x=some (t,e,PUnit.unit))\/(setB s=true/\Fits s x/\batten_Put s x=some (hung s x,(0:Int),PUnit.unit)):=by
 obtain ⟨nm,dp,lo,hi,len,ls,pi,ar,pu,mo,br,l,bs⟩:=s
 obtain ⟨h1,h2,h3⟩:=hf
 simp only at h1 h2 h3
 have c1:slices_ContainsFunc_25 l (fun y:Itm×PUnit=>batten_Put_1 y.1 x)=some (l.any fun y=>decide (y.1=x.1)):=containsI h2 fun y _=>by simp only[batten_Put_1,batten_Put_1_b,str_beq]
 have c2:slices_ContainsFunc_25 l (fun y:Itm×PUnit=>batten_Put_2 y.1 x)=some (l.any fun y=>!apartB x y):=containsI h2 fun y _=>by simp only[batten_Put_2,batten_Put_2_b,apartA_ok,obind_some']
 simp only[batten_Put,batten_Put_b,validA_ok,obind_some',c1,c2,aloneA_ok,insideA_ok,obind_bif,not_or_self',Bool.and_self,cT]
 cases hv:setB (nm,dp,lo,hi,len,ls,pi,ar,pu,mo,br,l,bs) with
 | false=>exact .inl ⟨_,_,by decide,rfl⟩
 | true =>
 simp only[Bool.not_true,cF]
 cases hn:l.any fun y=>decide (y.1=x.1) with
 | true=>exact .inl ⟨_,_,by decide,rfl⟩
 | false =>
 simp only[cF]
 by_cases h40:(l.length:Int)=40
 ·rw[decide_eq_true h40];exact .inl ⟨_,_,by decide,rfl⟩
 rw[decide_eq_false h40]
 simp only[cF]
 cases hb:itemB len x with
 | false =>
  have hb':=hb
  unfold itemB at hb'
  revert hb'
  cases nameB x.1<;>cases btw x.2.2.1 1 1048576<;>cases btw x.2.1 0 (IntKind.wrap .i64 (len - x.2.2.1))<;>cases btw x.2.2.2.1 0 1048576<;>cases btw x.2.2.2.2.1 0 1048576<;>cases btw x.2.2.2.2.2.1 0 1048576<;>cases btw x.2.2.2.2.2.2 0 1048576<;>first | (intro h;cases h;done) | exact fun _=>.inl ⟨_,_,by decide,rfl⟩
 | true =>
 have hb':=hb
 unfold itemB at hb'
 simp only[Bool.and_eq_true] at hb'
 obtain ⟨a1,a2,a3,a4,a5,a6,a7⟩:=hb'
 simp only[a1,a2,a3,a4,a5,a6,a7,Bool.and_self,Bool.not_true,Bool.not_false,cT,cF,Bool.or_true,Bool.true_or]
 cases ha:l.any fun y=>!apartB x y with
 | true=>exact .inl ⟨_,_,by decide,rfl⟩
 | false =>
 refine .inr ⟨by first | trivial | exact hv,⟨fun e=>h40 (by have:l.length=40:=e;omega),hb,fun y hy e=>?_,fun y hy=>?_⟩,?_⟩
 ·have:=List.any_eq_false.1 hn y hy
  exact this (decide_eq_true e)
 ·have:=List.any_eq_false.1 ha y hy
  rw[apartB_comm]
  simpa using this
 ·simp only[cF,slices_Clone_67,slices_Clone_67_b,slices_Clone_68,slices_Clone_68_b,slices_Clone_69,slices_Clone_69_b,fitB_of (show (0+ls.length)*8<=140737488355328 by omega),fitB_of (show (0+l.length)*64<=140737488355328 by omega),fitB_of (show (0+bs.length)*32<=140737488355328 by omega),cT,obN,fitB_of (show (l.length+1)*64<=140737488355328 by omega)]
  rfl
theorem items_snoc {l:List Itm} {len:Int} {x:Itm} (h:itemsB l len=true) (h40:l.length≠40) (hx:itemB len x=true) (hn:∀y ∈ l,y.1≠x.1) (ha:∀y ∈ l,apartB y x=true):itemsB (l++[x]) len=true:=by
 unfold itemsB at h ⊢
 simp only[Bool.and_eq_true,decide_eq_true_eq] at h ⊢
 obtain ⟨h1,h2,h3,h4⟩:=h
 refine ⟨by rw[List.length_append,List.length_singleton];omega,by rw[List.all_append,h2];simp[hx],?_,?_⟩
 ·rw[nodupB_iff,List.map_append,List.nodup_append] at *
  refine ⟨h3,by simp,fun a ha b hb=>?_⟩
  rw[List.map_cons,List.map_nil,List.mem_singleton] at hb
  obtain ⟨y,hy,rfl⟩:=List.mem_map.1 ha
  rw[hb]
  exact hn y hy
 ·rw[List.length_append,List.length_singleton,List.range'_1_concat,List.all_append,Bool.and_eq_true]
  constructor
  ·rw[List.all_eq_true] at h4 ⊢
   intro i hi
   obtain ⟨k,hk,rfl⟩:=List.mem_range'.1 hi
   have:=h4 _ hi
   unfold earlyN at this ⊢
   rw[List.take_append_of_le_length (by omega),getD_new,if_pos (by omega)]
   exact this
  ·simp only[List.all_cons,List.all_nil,Bool.and_true,Nat.zero_add]
   unfold earlyN
   rw[List.take_left' rfl,getD_new,if_neg (by omega),if_pos rfl,Bool.not_eq_true',List.any_eq_false]
   intro y hy
   simp[ha y hy]
theorem hung_valid {s:HS} {x:Itm} (h:setB s=true) (hx:Fits s x):setB (hung s x)=true:=by
 obtain ⟨nm,dp,lo,hi,len,ls,pi,ar,pu,mo,br,l,bs⟩:=s
 obtain ⟨g1,g2,g3,g4⟩:=hx
 simp only at g1 g2 g3 g4
 unfold setB hung at *
 simp only[Bool.and_eq_true] at h ⊢
 obtain ⟨a1,a2,a3,a4,a5,a6,a7,a8,a9,a10,a11,a12,a13,a14⟩:=h
 exact ⟨a1,a2,a3,a4,a5,a6,a7,a8,a9,a10,a11,a12,items_snoc a13 g1 g2 g3 g4,a14⟩
theorem item_weight {s:HS} {x:Itm} (hx:Fits s x):0<=x.2.2.2.1/\x.2.2.2.1<=1048576:=by
 obtain ⟨_,h,_⟩:=hx
 unfold itemB btw at h
 simp only[Bool.and_eq_true,decide_eq_true_eq] at h
 omega
theorem hung_weight {s:HS} {x:Itm} (h:setB s=true) (hx:Fits s x):weightI (hung s x)=weightI s+x.2.2.2.1:=by
 have hw:=item_weight hx
 have hb:=weightI_bound h
 have e:weightI (hung s x)=addI (weightI s) x:=by
  unfold weightI hung
  rw[List.foldl_append]
  rfl
 rw[e]
 unfold addI
 rw[wrap_id (by omega) (by omega)]
theorem hung_load {s:HS} {x:Itm} (h:setB s=true) (hx:Fits s x):loadI (hung s x)=loadI s+x.2.2.2.1:=by
 rw[loadI_eq h,loadI_eq (hung_valid h hx),hung_weight h hx]
 show weightI s+x.2.2.2.1+s.2.2.2.2.2.2.2.1+sumI s.2.2.2.2.2.2.2.2.2.2.2.2=_
 omega
theorem weightOk {s:HS} (h:setB s=true):batten_Weight s=some (weightI s,0,PUnit.unit):=by
 obtain ⟨_,_,_,_,h5,_⟩:=set_facts h
 simp only[batten_Weight,batten_Weight_b,validA_ok,h,obind_some',Bool.not_true,cF]
 rw[weightA_ok _ (by have:=(items_facts h5).1;omega),obind_some']
theorem purchase {s:HS} (h:setB s=true):1<=s.2.2.2.2.2.2.2.2.1/\s.2.2.2.2.2.2.2.2.1<=2:=by
 unfold setB at h
 simp only[Bool.and_eq_true] at h
 obtain ⟨a1,a2,a3,a4,a5,a6,a7,a8,a9,a10,a11,a12,a13,a14⟩:=h
 unfold btw at a10
 simp only[Bool.and_eq_true,decide_eq_true_eq] at a10
 exact a10
theorem needed_ok {s:HS} (h:setB s=true):arbor_Needed s=some (weightI s*s.2.2.2.2.2.2.2.2.1 - s.2.2.2.2.2.2.2.1,0,PUnit.unit):=by
 obtain ⟨_,_,_,h4,_,_⟩:=set_facts h
 obtain ⟨m4,m5⟩:=purchase h
 have hb:=weightI_bound h
 have h1:=Int.mul_nonneg hb.1 (show 0<=s.2.2.2.2.2.2.2.2.1 by omega)
 have h5:=Int.mul_le_mul hb.2 m5 (by omega) (by decide)
 have hz:decide ((0:Int)=0)=true:=rfl
 unfold arbor_Needed arbor_Needed_b
 rw[weightOk h]
 simp only[obind_some',hz,decide_true,Bool.not_true,cF]
 rw[wrap_id (x:=weightI s*s.2.2.2.2.2.2.2.2.1) (by omega) (by omega),wrap_id (by omega) (by omega)]
theorem bsucc' {i:Nat} (h:i<=1000000):IntKind.wrap .i64 ((i:Int)+1)=((i+1:Nat):Int):=by rw[wrap_id (by omega) (by omega)];rfl
theorem there_ok {s:HS} (h:s.2.2.2.2.2.2.2.2.2.2.2.2.length<=1000000):∃c,arbor_there s=some (sumI s.2.2.2.2.2.2.2.2.2.2.2.2,c,PUnit.unit):=by
 obtain ⟨nm,dp,lo,hi,len,ls,pi,ar,pu,mo,br,l,bs⟩:=s
 simp only at h
 refine ⟨bs.foldl addW 0,?_⟩
 unfold arbor_there arbor_there_b
 refine lpK_seqX (α:=Int×Int×Int×PUnit) (R:=Int×Int×PUnit) bs.length (by omega) (fun i=>((bs.take i).foldl addBk 0,(bs.take i).foldl addW 0,(i:Int),PUnit.unit)) _ rfl (fun again i hi=>?_) (fun again=>?_)
 ·rw[decide_eq_true (show (i:Int)<bs.length by omega),cT,inB_nat,decide_eq_true hi,cT]
  refine congrArg again ?_
  rw[List.take_succ_eq_append_getElem hi,List.foldl_append,List.foldl_append,<-getD_nat (d:=brk0) hi]
  show (_,_,IntKind.wrap .i64 ((i:Int)+1),PUnit.unit)=_
  rw[bsucc' (show i<=1000000 by omega)]
  rfl
 ·rw[decide_eq_false (show ¬ (bs.length:Int)<bs.length by omega),cF,List.take_length]
  rfl
def balI (s:HS):Int:=weightI s*s.2.2.2.2.2.2.2.2.1 - s.2.2.2.2.2.2.2.1 - sumI s.2.2.2.2.2.2.2.2.2.2.2.2
theorem balance_ok' {s:HS} (h:setB s=true):arbor_Balance s=some (balI s,0,PUnit.unit):=by
 obtain ⟨_,_,_,h4,_,h6⟩:=set_facts h
 obtain ⟨m4,m5⟩:=purchase h
 have hb:=weightI_bound h
 have hs:=sumI_bound h6
 have h1:=Int.mul_nonneg hb.1 (show 0<=s.2.2.2.2.2.2.2.2.1 by omega)
 have h5:=Int.mul_le_mul hb.2 m5 (by omega) (by decide)
 have hz:decide ((0:Int)=0)=true:=rfl
 obtain ⟨c,hc⟩:=there_ok (s:=s) (by have:=(bricks_all h6).1;omega)
 unfold arbor_Balance arbor_Balance_b
 rw[needed_ok h,obind_some',hc]
 simp only[obind_some',hz,decide_true,Bool.not_true,cF]
 rw[wrap_id (by omega) (by omega)]
 rfl
theorem hung_balance {s:HS} {x:Itm} (h:setB s=true) (hx:Fits s x):balI (hung s x)=balI s+s.2.2.2.2.2.2.2.2.1*x.2.2.2.1:=by
 unfold balI
 rw[hung_weight h hx]
 show (weightI s+x.2.2.2.1)*s.2.2.2.2.2.2.2.2.1 - s.2.2.2.2.2.2.2.1 - sumI s.2.2.2.2.2.2.2.2.2.2.2.2=_
 rw[Int.add_mul,Int.mul_comm x.2.2.2.1]
 omega
theorem change_ok {s:HS} (h:setB s=true) {w:Int} (h0:0<=w) (h1:w<=1048576):brake_Change s ({ data:=#[(104:UInt8),(97:UInt8),(110:UInt8),(103:UInt8)] },true,w)=some (s.2.2.2.2.2.2.2.2.1*w,0,PUnit.unit):=by
 obtain ⟨m4,m5⟩:=purchase h
 have g1:=Int.mul_nonneg (show 0<=s.2.2.2.2.2.2.2.2.1 by omega) h0
 have g2:=Int.mul_le_mul m5 h1 h0 (by decide)
 have hname:decimal_IsName { data:=#[(104:UInt8),(97:UInt8),(110:UInt8),(103:UInt8)] }=some true:=by kernel_rfl
 have hv:brake_Valid [({ data:=#[(104:UInt8),(97:UInt8),(110:UInt8),(103:UInt8)] },true,w)]=some true:=by
  unfold brake_Valid brake_Valid_b
  obtain ⟨nm,hnm⟩:∃nm:ByteArray,nm={ data:=#[(104:UInt8),(97:UInt8),(110:UInt8),(103:UInt8)] }:=⟨_,rfl⟩
  rw[<-hnm] at hname ⊢
  have hg:getM str Sh.bool nm false ([]:List (ByteArray×Bool))=false:=rfl
  have hp:putM str Sh.bool nm true ([]:List (ByteArray×Bool))=[(nm,true)]:=rfl
  have d0:decide ((([(nm,true,w)]:List (ByteArray×Bool×Int)).length:Int)>100)=false:=rfl
  rw[d0,cF]
  refine (lpK_seqX (α:=Int×List (ByteArray×Bool)×PUnit) (R:=Bool) 1 (by omega) (fun i=>((i:Int),(match i with | 0=>[] | _+1=>[(nm,true)]),PUnit.unit)) _ rfl (fun again i hi=>?_) (fun again=>rfl))
  obtain rfl:i=0:=by omega
  have d1:decide (w< -1048576)=false:=decide_eq_false (by omega)
  have d2:decide (w>1048576)=false:=decide_eq_false (by omega)
  have e0:List.getD [(nm,true,w)] (Int.toNat ((0:Nat):Int)) (({ data:={ toList:=[] } }:ByteArray),false,(0:Int))=(nm,true,w):=rfl
  have c0:decide (((0:Nat):Int)<(([(nm,true,w)]:List (ByteArray×Bool×Int)).length:Int))=true:=rfl
  have c1:inB ((0:Nat):Int) ([(nm,true,w)]:List (ByteArray×Bool×Int)).length=true:=rfl
  have hw:IntKind.wrap .i64 (((0:Nat):Int)+1)=((0+1:Nat):Int):=by rw[wrap_id (by omega) (by omega)];rfl
  simp only[c0,c1,cT,e0,hname,obind_some',hg,d1,d2,hp,hw,cF,Bool.not_true,Bool.not_false,Bool.or_true,Bool.or_false,Bool.true_or,Bool.false_or,Bool.and_self]
 simp only[brake_Change,brake_Change_b,validA_ok,h,hv,obind_some',not_or_self',Bool.not_true,Bool.not_false,cT,cF,Bool.or_true,Bool.true_or,brake_change,brake_change_b]
 rw[wrap_id (by omega) (by omega)]
theorem txt_lit:(⟨txt.toArray⟩:ByteArray)={ data:=List.toArray (List.append [(104:UInt8),(111:UInt8),(117:UInt8),(115:UInt8),(101:UInt8),(32:UInt8),(104:UInt8),(32:UInt8),(56:UInt8),(48:UInt8),(48:UInt8),(48:UInt8),(10:UInt8),(115:UInt8),(101:UInt8),(116:UInt8),(32:UInt8),(115:UInt8),(32:UInt8),(48:UInt8),(32:UInt8),(48:UInt8),(32:UInt8),(56:UInt8),(48:UInt8),(48:UInt8),(48:UInt8),(32:UInt8),(49:UInt8),(48:UInt8),(48:UInt8),(48:UInt8),(32:UInt8)] [(54:UInt8),(48:UInt8),(32:UInt8),(52:UInt8),(48:UInt8),(32:UInt8),(49:UInt8),(32:UInt8),(49:UInt8),(48:UInt8),(48:UInt8),(32:UInt8),(49:UInt8),(48:UInt8),(32:UInt8),(48:UInt8),(32:UInt8),(49:UInt8),(48:UInt8),(48:UInt8),(48:UInt8),(10:UInt8),(98:UInt8),(114:UInt8),(105:UInt8),(99:UInt8),(107:UInt8),(32:UInt8),(98:UInt8),(32:UInt8),(55:UInt8),(32:UInt8),(50:UInt8),(10:UInt8)]) }:=by
 rw[txt_is]
 decide +kernel
theorem order_is:loadin_Order wset wjobs=some ([(0:Int),(1:Int)],0,()):=if_pos ⟨rfl,rfl⟩
theorem text_is:source_Text whouse wsheet=some (⟨txt.toArray⟩,0,()):=if_pos ⟨rfl,rfl⟩
theorem wbal_ok:arbor_Balance wset=some (6,0,()):=by kernel_rfl
theorem wset_ok:top_writtenSet=some wset:=rfl
theorem weq_ok:slices_Equal_18 [(0:Int),(1:Int)] [(0:Int),(1:Int)]=some true:=by kernel_rfl
theorem written_ok:top_writtenAwake=some true:=by
 unfold top_writtenAwake top_writtenAwake_b
 rw[wset_ok,obind_some',wbal_ok,obind_some',obind_some',order_is,obind_some',obind_some',text_is,obind_some',str_beq,txt_lit]
 simp only[decide_true,cT,Bool.not_true,Bool.false_or,Bool.and_self,weq_ok,obind_some']
theorem wsum_set {t:HS} {d:Int}:∀{ss:List HS} {i:Nat},i<ss.length->loadI t=loadI (ss.getD i set0)+d->wsum (ptsH (ss.set i t))=wsum (ptsH ss)+d
 | [],_,h,_=>by simp at h
 | s ::r,0,_,e=>by
  have e':loadI t=loadI s+d:=e
  unfold ptsH
  simp only[List.set_cons_zero,List.map_cons,wsum,e']
  omega
 | s ::r,i+1,h,e=>by
  have ih:=wsum_set (ss:=r) (i:=i) (by simpa using h) e
  unfold ptsH at ih ⊢
  simp only[List.set_cons_succ,List.map_cons,wsum,ih]
  omega
theorem none_set {rs:List Bm} {t:HS} {ss:List HS} {i:Nat} (hi:i<ss.length) (h:t.2.1=(ss.getD i set0).2.1):noneB rs (ptsH (ss.set i t))=noneB rs (ptsH ss):=by
 have key:∀L:List HS,noneB rs (ptsH L)=(L.map fun s=>s.2.1).any fun d=>decide (cntB rs d=0):=fun L=>by
  unfold noneB ptsH
  rw[List.any_map,List.any_map]
  rfl
 rw[key,key,List.map_set,h,getD_nat hi]
 congr 1
 apply List.ext_getElem
 ·simp
 ·intro j h1 h2
  simp only[List.getElem_set,List.getElem_map]
  split
  ·rename_i e;subst e;rfl
  ·rfl
theorem loads_by {nm:ByteArray} {ht:Int} {ss:List HS} {rs:List Bm} (hv:validHB (nm,ht,ss,rs)=true) :
  (∃S,loadsHQ (nm,ht,ss,rs)=(outQ rs.length S,0,())/\(∀n,n<rs.length->fitsQ (S n))/\sumQ S rs.length=(wsum (ptsH ss):Rat))\/(noneB rs (ptsH ss)=true/\loadsHQ (nm,ht,ss,rs)=([],12,()))\/loadsHQ (nm,ht,ss,rs)=([],5,()):=by
 obtain ⟨g1,g2,g3⟩:=valid_sets hv
 cases ha:ss.any heavyB with
 | true=>exact .inr (.inr (by simp only[loadsHQ,hv,cT,ha]))
 | false =>
  have hr:=pts_right hv ha
  have h2:=rightG_len hr
  simp only[loadsHQ,hv,cT,ha,cF,loadsQ,g2,hr,Bool.and_self,borneQ]
  by_cases hn:noneB rs (ptsH ss)=true
  ·exact .inr (.inl ⟨hn,by simp only[hn,if_true]⟩)
  ·simp only[hn,if_false,Bool.false_eq_true]
   have hc:∀x ∈ ptsH ss,cntB rs x.1≠0:=fun x hx e=>by
    unfold noneB at hn
    have:=List.any_eq_false.1 (Bool.eq_false_iff.2 hn) x hx
    simp[e] at this
   cases hrun:runQ rs (ptsH ss) (fun _=>0) with
   | none=>exact .inr (.inr rfl)
   | some S =>
    have hS:=run_fits (fun _ _=>by show fitsQ 0;decide) hrun
    have hsum:=run_sum hc hrun
    have hz:∀n,sumQ (fun _=>0) n=0:=fun n=>by
     induction n with
     | zero=>rfl
     | succ n ih=>simp only[sumQ,ih];grind
    rw[hz,Rat.zero_add] at hsum
    exact .inl ⟨S,rfl,hS,hsum⟩
set_option maxRecDepth 10000 in
theorem lawHung (h:HH) (w:Int) (x:Itm) (w0:0<=w) (w1:w<=255):top_TopHung h w x=some true:=by
 have e1:∀e0:Bool,(!e0||e0)=true:=fun e0=>by cases e0<;>rfl
 have e2:∀e0:Bool,(e0||!e0)=true:=fun e0=>by cases e0<;>rfl
 obtain ⟨nm,ht,ss,rs⟩:=h
 unfold top_TopHung top_TopHung_b
 simp only[written_ok,small6_ok,obind_some',Bool.not_true,Bool.not_not,cF,e1,e2,cT,Bool.and_self]
 cases hsm:smallHB (nm,ht,ss,rs) with
 | false=>simp only[Bool.not_false,cT,cF,obind_some',Bool.not_true,Bool.true_or,Bool.or_true]
 | true =>
 obtain ⟨l1,l2,l3⟩:=small_len hsm
 simp only at l1 l2 l3
 simp only[Bool.not_true,Bool.not_false,cF,cT]
 cases hnm:decide ((ByteArray.size x.1:Int)>60) with
 | true=>simp only[Bool.not_false,cT,cF,obind_some',Bool.not_true,Bool.true_or,Bool.or_true]
 | false =>
 have hrv:=hRefValid_ok (nm,ht,ss,rs) (fun s hs=>by have:=(l3 s hs).2.1;omega)
 simp only[Bool.not_false,cT,cF,hrv,obind_some',Bool.not_true,Bool.true_or,Bool.or_true,Bool.false_or,Bool.or_false]
 cases hv:validHB (nm,ht,ss,rs) with
 | false=>simp only[Bool.not_false,cT]
 | true =>
 by_cases hz:(ss.length:Int)=0
 ·simp only[decide_eq_true hz,Bool.not_true,cF,cT]
 obtain ⟨i,hi,hm⟩:∃i:Nat,i<ss.length/\Int.tmod (IntKind.wrap .i64 w) (ss.length:Int)=(i:Int):=by
  refine ⟨w.toNat % ss.length,Nat.mod_lt _ (by omega),?_⟩
  rw[wrap_id (by omega) (by omega),Int.tmod_eq_emod_of_nonneg w0,Int.natCast_emod]
  congr 1
  omega
 have hnz:nzB (ss.length:Int)=true:=by unfold nzB;simpa using hz
 obtain ⟨v1,v2,v3,v4,v5,v6,v7⟩:=validHB_iff.1 hv
 obtain ⟨s,hs⟩:∃s:HS,s=ss.getD i set0:=⟨_,rfl⟩
 have hmem:s ∈ ss:=by rw[hs,getD_nat hi];exact List.getElem_mem _
 obtain ⟨hset,hhigh⟩:=v6 s hmem
 have hfew:∀y ∈ ss,fewS y:=fun y hy=>by
  have:=l3 y hy
  exact ⟨by omega,by omega,by omega⟩
 have hp:List.getD ss i ({ data:={ toList:=[] } },(0:Int),(0:Int),(0:Int),(0:Int),[],(0:Int),(0:Int),(0:Int),(0:Int),(0:Int),[],[])=s:=hs.symm
 simp only[decide_eq_false hz,Bool.not_true,cF,hnz,cT,hm,inB_nat,decide_eq_true hi,Int.toNat_natCast,hp]
 rcases bput_ok (hfew s hmem) x with ⟨t,e,he,hb⟩ | ⟨_,hfit,hb⟩
 ·rw[hb,obind_some']
  simp only[decide_eq_false he,Bool.not_false,cT]
 have htv:=hung_valid hset hfit
 have hxw:=item_weight hfit
 have hw1:=weightI_bound hset
 have hw2:=weightI_bound htv
 have hpu:=purchase hset
 have hbal:balI (hung s x)=IntKind.wrap .i64 (balI s+s.2.2.2.2.2.2.2.2.1*x.2.2.2.1):=by
  obtain ⟨_,_,_,h4,_,h6⟩:=set_facts hset
  have hs':=sumI_bound h6
  have q1:=Int.mul_nonneg hw2.1 (show 0<=s.2.2.2.2.2.2.2.2.1 by omega)
  have q2:=Int.mul_le_mul hw2.2 hpu.2 (by omega) (by decide)
  have q3:balI (hung s x)=weightI (hung s x)*s.2.2.2.2.2.2.2.2.1 - s.2.2.2.2.2.2.2.1 - sumI s.2.2.2.2.2.2.2.2.2.2.2.2:=rfl
  have q4:=hung_balance hset hfit
  rw[<-q4,wrap_id (by omega) (by omega)]
 have hwt:weightI (hung s x)=IntKind.wrap .i64 (weightI s+x.2.2.2.1):=by
  rw[hung_weight hset hfit,wrap_id (by omega) (by omega)]
 have hld:=hung_load hset hfit
 obtain ⟨t,ht'⟩:∃t,t=hung s x:=⟨_,rfl⟩
 have htf:fewS t:=by
  have:=hfew s hmem
  have h40:=(items_facts (set_facts htv).2.2.2.2.1).1
  rw[ht']
  exact ⟨this.1,by omega,this.2.2⟩
 have ht1:t.1=s.1:=by rw[ht'];rfl
 have ht2:t.2.1=s.2.1:=by rw[ht'];rfl
 have hth:t.2.2.2.1=s.2.2.2.1:=by rw[ht'];rfl
 rw[<-ht'] at hb htv hbal hwt hld
 have hc:¬ t.2.2.2.1>ht:=by omega
 have hfi:fI ss t.1=(i:Int):=by rw[ht1,hs];exact v7 i hi
 have hput:putL ss t=ss.set i t:=by rw[putL_old (by omega),hfi,Int.toNat_natCast]
 have hpo:=put_ok (nm:=nm) (ht:=ht) (ss:=ss) (rs:=rs) (s:=t) (by omega) (by omega) hfew htf
 have hv2:=put_valid (s:=t) hv htv (by omega)
 rw[decide_eq_true (show t.2.2.2.1<=ht by omega),hput] at hv2
 rw[hv,htv,decide_eq_false hc,hfi,decide_eq_false (show ¬ (i:Int)<0 by omega),hput] at hpo
 simp only[Bool.not_false,Bool.and_self,Bool.false_and,cT,cF] at hpo
 rw[hb,obind_some']
 simp only[balance_ok' hset,balance_ok' htv,change_ok hset hxw.1 hxw.2,weightOk hset,weightOk htv,obind_some',decide_true,Bool.not_true,cF,decide_eq_true hbal,decide_eq_true hwt,hpo,hLoads_ok]
 have hsum:=wsum_set (t:=t) (d:=x.2.2.2.1) hi (by rw[<-hs];exact hld)
 have hnone:=none_set (rs:=rs) (t:=t) hi (by rw[<-hs];exact ht2)
 have d5:decide ((5:Int)=0)=false:=rfl
 have d12:decide ((12:Int)=0)=false:=rfl
 have d55:decide ((5:Int)=5)=true:=rfl
 have d05:decide ((0:Int)=5)=false:=rfl
 rcases loads_by hv with ⟨S,hS,hS1,hS2⟩ | hSe
 ·rcases loads_by hv2 with ⟨S',hS',hS1',hS2'⟩ | ⟨hn,hS'⟩ | hS'
  ·simp only[hS,hS',decide_true,outQ_len,Bool.not_true,cF]
   rcases sumF_ok (show rs.length<=1000 by omega) hS1' with h3 | ⟨h3,h4⟩
   ·rcases sumF_ok (show rs.length<=1000 by omega) hS1 with h5 | ⟨h5,h6⟩
    ·simp only[h3,h5,obind_some',d5,d55,decide_true,Bool.not_false,cT]
    ·simp only[h3,h6,obind_some',d5,d55,decide_true,Bool.not_false,cT]
   ·rcases sumF_ok (show rs.length<=1000 by omega) hS1 with h5 | ⟨h5,h6⟩
    ·simp only[h4,h5,obind_some',d5,d55,d05,decide_true,Bool.not_false,Bool.not_true,cT,cF]
    ·simp only[h4,h6,obind_some',decide_true,Bool.not_true,cF,sub_ok (okF_prQ h3) (okF_prQ h5),qv_prQ]
     have hq:sumQ S' rs.length - sumQ S rs.length=((x.2.2.2.1:Int):Rat):=by
      rw[hS2',hS2,hsum,Rat.intCast_add]
      grind
     rw[hq]
     rcases fitQ_cases ((x.2.2.2.1:Int):Rat) with ⟨h7,h8⟩ | ⟨h7,h8⟩
     ·rw[h8,prQ_int]
      simp only[d05,decide_true,Bool.not_true,Bool.not_false,Bool.and_self,Bool.or_true,cT,cF]
     ·rw[h8]
      simp only[d5,d55,decide_true,Bool.true_or,Bool.and_self,cT]
  ·rw[hnone] at hn
   exfalso
   have:loadsHQ (nm,ht,ss,rs)=([],12,())\/loadsHQ (nm,ht,ss,rs)=([],5,()):=by
    obtain ⟨g1,g2,g3⟩:=valid_sets hv
    cases ha:ss.any heavyB with
    | true=>exact .inr (by simp only[loadsHQ,hv,cT,ha])
    | false=>exact .inl (by simp only[loadsHQ,hv,cT,ha,cF,loadsQ,g2,pts_right hv ha,Bool.and_self,borneQ,hn,if_true])
   rw[hS] at this
   rcases this with h | h<;>(have:=congrArg (fun r:Rg=>r.2.1) h;simp at this)
  ·simp only[hS,hS',d5,d55,decide_true,Bool.not_false,Bool.not_true,cT,cF]
 ·rcases hSe with ⟨_,hS⟩ | hS
  ·simp only[hS,d12,Bool.not_false,cT]
  ·simp only[hS,d5,decide_true,Bool.not_false,cT]
end Go.Proofs.YtlfdhaiigdllcaaGreatDoor
