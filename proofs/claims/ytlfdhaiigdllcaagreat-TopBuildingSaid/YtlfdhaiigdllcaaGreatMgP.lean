/- Beams: products, levers, overhangs, sides. Beams: turned beams; overhangs and sides. Beams: the moments at the supports. Beams: the reactions. Beams: the reactions together are the weight. Names: both programs know the same ones. Beams: valid beams; their reactions. Loops over the elements of a list, as recursions over it. Line sets: both programs know the same valid items and bricks. Line sets: bricks, lines, and valid sets. Line sets: lines, and valid sets. Beams and loads: both programs know the same valid ones. Houses: small ones, the sets' names, valid ones. Houses: what the sets load. Beams over a depth: how many, which. Fractions: what 'Make', 'Valid', 'Mul', 'Floor', 'Ceil' of package ratio answer. Fractions: products of two words, 'Mul', 'Floor', 'Ceil' of package ratio. Fractions of the reference: numbers of two words, their greatest common divisors and quotients. Fractions of the reference: 'Div', 'Made', 'Make', 'Times', 'Floor', 'Ceil'. Numbers of 128 bits: sums, differences, comparisons; the length of a number. The quotient of a number of 128 bits by one of 64. Fractions: 'Add' of package ratio. Fractions: 'Add', 'Valid', 'All' of the reference. Fractions: 'Sub' and 'Cmp' of both. What beams bear: the program's walk. What beams bear: the program's walk comes to the sums. What beams bear: the program's answer. What beams bear: the reference's answer. Beams and loads: what is wrong with them; Loads, Over. Houses: 'HouseLoads'. Houses: the reference's Loads; the law 'HouseLoads'. The spare weight at a depth: both programs' answer. Laws on beams: 'GridSpares', 'GridLoads'. Laws on beams: 'GridSums'. The top: the head load of a set is its weight. The top: the statements are awake. The top: all weight comes to the building. -/
import Derived.Laws.StructEq
import Derived.KernelRfl
import Derived.Test.YtlfdhaiigdllcaaGreatMgO
open Bool renaming and_self→g_,eq_iff_iff→pH,false_eq_true→ld,not_false→iF,not_true→bX,true_and→oK
open ByteArray renaming toList→oF
open Go.IntKind renaming wrap→aq,wrap_u64→fD
open Int renaming fdiv→l_,mul_nonneg→mK,natCast_mul→gO,ofNat→bY,toNat→aS
open List renaming append_assoc→lT,getD→a_,length→aC,length_append→dg,length_cons→gC,length_drop→ph,length_set→k_,length_take→cl,range'→n_,replicate→eX
open Nat renaming add_mul→iN,add_zero→lD,ble→eS,div_le_self→j_,gcd→bT,gcd_dvd_right→nE,le_refl→b_,le_trans→m_,mod_eq_of_lt→mv,mul_comm→iS,mul_le_mul_right→mV,succ→iD,zero_add→dO
open Option.some renaming injEq→aT
open PUnit renaming unit→aQ
open Prod.mk renaming injEq→dG

namespace Go.Proofs.YtlfdhaiigdllcaaGreat
open Tryz Dn Dn.Sh
abbrev Bea:=ByteArray×Int×List Int×List (Int×Int)×Int
structure OkB (b:Bea):Prop where
 len:1<=b.2.1/\b.2.1<=1048576
 even:0<=b.2.2.2.2/\b.2.2.2.2<=1048576
 n1:1<=b.2.2.1.length
 n10:b.2.2.1.length<=10
 sup:∀i,i<b.2.2.1.length->0<=b.2.2.1.getD i 0/\b.2.2.1.getD i 0<=b.2.1
 inc:∀i,i+1<b.2.2.1.length->b.2.2.1.getD i 0<b.2.2.1.getD (i+1) 0
 nl:b.2.2.2.1.length<=40
 load:∀i,i<b.2.2.2.1.length->(0<=(b.2.2.2.1.getD i (0,0)).1/\(b.2.2.2.1.getD i (0,0)).1<=b.2.1)/\0<=(b.2.2.2.1.getD i (0,0)).2/\(b.2.2.2.1.getD i (0,0)).2<=67108864
def prI:List Int->Int->Int
 | [],a=>a
 | x ::l,a=>prI l (a*x)
theorem Fy:∀(l:List Int) (x a:Int),prI (l++[x]) a=prI l a*x
 | [],x,a=>rfl
 | y ::l,x,a=>Fy l x (a*y)
theorem nI {d:Int} {l:List Int} (hd:d≠0) (hd2: -9223372036854775808<=d/\d<9223372036854775808) (hl:∀x ∈ l,-9223372036854775808<=x/\x<9223372036854775808) (hn:l.length<=100):∃z,aF d l=some z/\IsE (2*l.length+2) z (((prI l 1:Int):Rat) / (d:Rat)):=by
 obtain ⟨w1,h1,h2⟩:=CX (z:=1) (by decide)
 unfold aF nh
 rw[h1,af]
 refine tI (α:=Int×(Bool×List Int)×PUnit) (R:=(Bool×List Int)×Bool×List Int) (fun o=>∃z,o=some z/\IsE (2*l.length+2) z (((prI l 1:Int):Rat) / (d:Rat))) l.length (by omega) (fun i st=>∃w,st=((i:Int),w,aQ)/\IsN (2*i+2) w (prI (l.take i) 1)) ⟨w1,rfl,h2⟩ (fun again i st hi ⟨w,hst,hw⟩=>?_) (fun again st ⟨w,hst,hw⟩=>?_)
 ·subst hst
  have hx:=hl (l.getD i 0) (by rw[ca hi];exact List.getElem_mem _)
  obtain ⟨w2,g1,g2⟩:=CX hx
  obtain ⟨w3,g3,g4⟩:=jL hw g2 (by omega) (by omega)
  simp only[z7 (show (i:Int)<l.length by omega),be,z7 hi,cT,z9,g1,af,g3,gJ (show i<=100000000000 by omega)]
  refine ⟨_,⟨w3,rfl,?_⟩,rfl⟩
  rw[List.take_succ_eq_append_getElem hi,Fy,<-ca (d:=0) hi]
  exact g4.mono (by omega)
 ·subst hst
  rw[List.take_length] at hw
  obtain ⟨w2,g1,g2⟩:=CX hd2
  obtain ⟨z,g3,g4⟩:=tE hw (g2.mono (by omega)) hd (by omega)
  simp only[z8 (show ¬ (l.length:Int)<l.length by omega),cF,g1,af,g3]
  refine ⟨z,rfl,g4 _ ?_⟩
  exact Rat.div_mul_cancel fun h=>hd (by exact_mod_cast h)
def sL (b:Bea) (f:Int×Int->Rat):Rat:=sq b.2.2.2.1.length fun i=>f (b.2.2.2.1.getD i (0,0))
theorem yl {b:Bea} (hb:OkB b) {K D:Nat} {q0:Rat} {f:Int×Int->Rat} {z0:(Bool×List Int)×Bool×List Int} {F:(Int×((Bool×List Int)×Bool×List Int)×PUnit->Option ((Bool×List Int)×Bool×List Int))->Int×((Bool×List Int)×Bool×List Int)×PUnit->Option ((Bool×List Int)×Bool×List Int)} {Q:Option ((Bool×List Int)×Bool×List Int)->Prop}
  (h0:IsE K z0 q0)
  (hb1:∀again (i:Nat) z q,i<b.2.2.2.1.length->IsE (K+D*i) z q->∃z',F again ((i:Int),z,aQ)=again (((i+1:Nat):Int),z',aQ)/\IsE (K+D*(i+1)) z' (q+f (b.2.2.2.1.getD i (0,0))))
  (hf:∀again z,IsE (K+D*40) z (q0+sL b f)->Q (F again ((b.2.2.2.1.length:Int),z,aQ))) :
  Q (lpK (Int×((Bool×List Int)×Bool×List Int)×PUnit) ((Bool×List Int)×Bool×List Int) F (0,z0,aQ)):=by
 have hn:=hb.nl
 refine tI (α:=Int×((Bool×List Int)×Bool×List Int)×PUnit) (R:=(Bool×List Int)×Bool×List Int) Q b.2.2.2.1.length (by omega) (fun i st=>∃z,st=((i:Int),z,aQ)/\IsE (K+D*i) z (q0+sq i fun i=>f (b.2.2.2.1.getD i (0,0)))) ⟨z0,rfl,?_⟩ (fun again i st hi ⟨z,hst,hz⟩=>?_) (fun again st ⟨z,hst,hz⟩=>?_)
 ·show IsE (K+D*0) z0 (q0+0)
  rw[Rat.add_zero]
  exact h0
 ·subst hst
  obtain ⟨z',g1,g2⟩:=hb1 again i z _ hi hz
  refine ⟨_,⟨z',rfl,?_⟩,g1⟩
  show IsE (K+D*(i+1)) z' (q0+((sq i fun i=>f (b.2.2.2.1.getD i (0,0)))+f (b.2.2.2.1.getD i (0,0))))
  rw[<-Rat.add_assoc]
  exact g2
 ·subst hst
  exact hf again z (hz.mono (Nat.add_le_add_left (Nat.mul_le_mul_left D hn) K))
theorem pq {K L:Nat} {z:(Bool×List Int)×Bool×List Int} {q r:Rat} (h:IsE K z q) (hr:r=0) (hk:K<=L):IsE L z (q+r):=by
 rw[hr,Rat.add_zero]
 exact h.mono hk
def DY (b:Bea) (f t:Int) (left:Bool) (x:Int×Int):Rat:=if x.1<=f\/x.1>=t then 0 else ((x.2*(if left then t - x.1 else x.1 - f):Int):Rat) / ((t - f:Int):Rat)
theorem Ey {b:Bea} (hb:OkB b) {f t:Int} (h0:0<=f) (hft:f<t) (ht:t<=1048576) (left:Bool):∃z,dI b f t left=some z/\IsE 300 z (((b.2.2.2.2*(t - f):Int):Rat) / ((2000:Int):Rat)+sL b (DY b f t left)):=by
 have hn:=hb.nl
 have he:=hb.even
 unfold dI ql
 rw[ap (x:=t - f) (by omega) (by omega)]
 obtain ⟨z0,g1,g2⟩:=nI (d:=2000) (l:=[b.2.2.2.2,t - f]) (by decide) (by decide) (fun x hx=>by
  simp at hx
  rcases hx with rfl | rfl<;>omega) (by simp)
 have e0:prI [b.2.2.2.2,t - f] 1=b.2.2.2.2*(t - f):=by show 1*b.2.2.2.2*(t - f)=_;rw[Int.one_mul]
 rw[e0] at g2
 simp only[g1,af]
 refine yl hb (K:=6) (D:=7) (Q:=fun o=>∃z,o=some z/\IsE 300 z (((b.2.2.2.2*(t - f):Int):Rat) / ((2000:Int):Rat)+sL b (DY b f t left))) (f:=DY b f t left) g2 (fun again i z q hi hz=>?_) (fun again z hz=>?_)
 ·have hld:=hb.load i hi
  have hbl:=hb.len
  obtain ⟨x,hx⟩:∃x,x=b.2.2.2.1.getD i (0,0):=⟨_,rfl⟩
  rw[<-hx] at hld ⊢
  have hx':a_ b.2.2.2.1 i ((0:Int),(0:Int))=x:=hx.symm
  simp only[z7 (show (i:Int)<b.2.2.2.1.length by omega),be,z7 hi,cT,z9,hx',gJ (show i<=100000000000 by omega),jnB,bC,gw,g_]
  by_cases c1:x.1<=f
  ·simp only[z7 c1,cT]
   exact ⟨z,rfl,pq hz (if_pos (.inl c1)) (by omega)⟩
  ·by_cases c2:x.1>=t
   ·simp only[z8 c1,cF,z7 c2,cT]
    exact ⟨z,rfl,pq hz (if_pos (.inr c2)) (by omega)⟩
   ·simp only[z8 c1,cF,z8 c2,ap (x:=t - x.1) (by omega) (by omega),ap (x:=x.1 - f) (by omega) (by omega)]
    obtain ⟨y,k1,k2⟩:=nI (d:=t - f) (l:=[x.2,if left then t - x.1 else x.1 - f]) (by omega) (by omega) (fun y hy=>by
     simp at hy
     rcases hy with rfl | rfl
     ·omega
     ·split<;>omega) (by simp)
    rw[show prI [x.2,if left then t - x.1 else x.1 - f] 1=x.2*(if left then t - x.1 else x.1 - f) by show 1*x.2*_=_;rw[Int.one_mul]] at k2
    obtain ⟨z',k3,k4⟩:=im hz k2 (by simp only[gC,List.length_nil];omega)
    refine ⟨z',?_,?_⟩
    ·cases left with
     | true =>
      simp only[if_true] at k1
      simp only[bX,cF,k1,af,k3]
     | false =>
      have k1':aF (t - f) [x.2,x.1 - f]=some y:=k1
      simp only[iF,cT,k1',af,k3]
    ·unfold DY
     rw[if_neg (by omega)]
     exact k4.mono (by simp only[gC,List.length_nil];omega)
 ·simp only[z8 (show ¬ (b.2.2.2.1.length:Int)<b.2.2.2.1.length by omega),cF]
  exact ⟨z,rfl,hz.mono (by decide)⟩
def Au (at':Int) (x:Int×Int):Rat:=if x.1<at' then ((x.2:Int):Rat) else 0
theorem Bl {b:Bea} (hb:OkB b) {p:Int} (h0:0<=p) (ht:p<=1048576):∃z,fh b p=some z/\IsE 200 z (((b.2.2.2.2*p:Int):Rat) / ((1000:Int):Rat)+sL b (Au p)):=by
 have hn:=hb.nl
 have he:=hb.even
 unfold fh pf
 obtain ⟨z0,g1,g2⟩:=nI (d:=1000) (l:=[b.2.2.2.2,p]) (by decide) (by decide) (fun x hx=>by
  simp at hx
  rcases hx with rfl | rfl<;>omega) (by simp)
 have e0:prI [b.2.2.2.2,p] 1=b.2.2.2.2*p:=by show 1*b.2.2.2.2*p=_;rw[Int.one_mul]
 rw[e0] at g2
 simp only[g1,af]
 refine yl hb (K:=6) (D:=3) (Q:=fun o=>∃z,o=some z/\IsE 200 z (((b.2.2.2.2*p:Int):Rat) / ((1000:Int):Rat)+sL b (Au p))) (f:=Au p) g2 (fun again i z q hi hz=>?_) (fun again z hz=>?_)
 ·have hld:=hb.load i hi
  obtain ⟨x,hx⟩:∃x,x=b.2.2.2.1.getD i (0,0):=⟨_,rfl⟩
  rw[<-hx] at hld ⊢
  have hx':a_ b.2.2.2.1 i ((0:Int),(0:Int))=x:=hx.symm
  simp only[z7 (show (i:Int)<b.2.2.2.1.length by omega),be,z7 hi,cT,z9,hx',gJ (show i<=100000000000 by omega)]
  by_cases c1:x.1<p
  ·obtain ⟨y,k1,k2⟩:=jh (z:=x.2) (by omega)
   obtain ⟨z',k3,k4⟩:=im hz k2 (by omega)
   simp only[z7 c1,cT,k1,af,k3]
   refine ⟨z',rfl,?_⟩
   unfold Au
   rw[if_pos c1]
   exact k4.mono (by omega)
  ·simp only[z8 c1,cF]
   exact ⟨z,rfl,pq hz (if_neg c1) (by omega)⟩
 ·simp only[z8 (show ¬ (b.2.2.2.1.length:Int)<b.2.2.2.1.length by omega),cF]
  exact ⟨z,rfl,hz.mono (by decide)⟩
theorem xm {b:Bea} (hb:OkB b):∃z q,dx b=some z/\IsE 400 z q:=by
 have hn:=hb.nl
 have he:=hb.even
 have hbl:=hb.len
 have hs:=hb.sup 0 (by have:=hb.n1;omega)
 obtain ⟨a,ha⟩:∃a,a=b.2.2.1.getD 0 0:=⟨_,rfl⟩
 have ha':a_ b.2.2.1 0 (0:Int)=a:=ha.symm
 rw[<-ha] at hs
 unfold dx lW
 obtain ⟨z0,g1,g2⟩:=nI (d:=2000) (l:=[b.2.2.2.2,a,a]) (by decide) (by decide) (fun x hx=>by
  simp at hx
  rcases hx with rfl | rfl<;>omega) (by simp)
 simp only[ha',oM (show (0:Int)<=0 by decide) (show (0:Int)<b.2.2.1.length by have:=hb.n1;omega),cT,g1,af]
 suffices hs2:∃z,_=some z/\∃q,IsE 400 z q by
  obtain ⟨z,h1,q,h2⟩:=hs2
  exact ⟨z,q,h1,h2⟩
 refine yl hb (K:=8) (D:=7) (Q:=fun o=>∃z,o=some z/\∃q,IsE 400 z q) (f:=fun x=>if x.1<a then ((prI [x.2,a - x.1] 1:Int):Rat) / ((1:Int):Rat) else 0) g2 (fun again i z q hi hz=>?_) (fun again z hz=>?_)
 ·have hld:=hb.load i hi
  obtain ⟨x,hx⟩:∃x,x=b.2.2.2.1.getD i (0,0):=⟨_,rfl⟩
  rw[<-hx] at hld ⊢
  have hx':a_ b.2.2.2.1 i ((0:Int),(0:Int))=x:=hx.symm
  simp only[z7 (show (i:Int)<b.2.2.2.1.length by omega),be,z7 hi,cT,z9,hx',gJ (show i<=100000000000 by omega)]
  by_cases c1:x.1<a
  ·obtain ⟨y,k1,k2⟩:=nI (d:=1) (l:=[x.2,a - x.1]) (by decide) (by decide) (fun y hy=>by
    simp at hy
    rcases hy with rfl | rfl<;>omega) (by simp)
   obtain ⟨z',k3,k4⟩:=im hz k2 (by simp only[gC,List.length_nil];omega)
   simp only[z7 c1,cT,ap (x:=a - x.1) (by omega) (by omega),k1,af,k3,if_pos c1]
   exact ⟨z',rfl,k4.mono (by simp only[gC,List.length_nil];omega)⟩
  ·simp only[z8 c1,cF]
   exact ⟨z,rfl,pq hz (if_neg c1) (by omega)⟩
 ·obtain ⟨y,k1,k2⟩:=jh (z:=0) (by decide)
  obtain ⟨z',k3,k4⟩:=jY k2 hz (by decide)
  simp only[z8 (show ¬ (b.2.2.2.1.length:Int)<b.2.2.2.1.length by omega),cF,k1,af,k3]
  exact ⟨z',rfl,_,k4.mono (by decide)⟩
theorem wA {x y m:Int} (hx:0<=x/\x<=m) (hy:0<=y/\y<=m):0<=x*y/\x*y<=m*m :=
 ⟨mK hx.1 hy.1,Int.mul_le_mul hx.2 hy.2 hy.1 (by omega)⟩
theorem G7 {b:Bea} (hb:OkB b) {f t:Int} (h0:0<=f) (hft:f<t) (ht:t<=1048576) (left:Bool):∃z q,fU b f t left=some z/\IsE 400 z q:=by
 have hn:=hb.nl
 have he:=hb.even
 unfold fU sy
 rw[ap (x:=t - f) (by omega) (by omega)]
 obtain ⟨l,hl⟩:∃l,l=t - f:=⟨_,rfl⟩
 have hll:=wA (x:=l) (y:=l) (m:=1048576) (by omega) (by omega)
 obtain ⟨z0,g1,g2⟩:=nI (d:=4000) (l:=[b.2.2.2.2,l,l,l]) (by decide) (by decide) (fun x hx=>by
  simp at hx
  rcases hx with rfl | rfl<;>omega) (by simp)
 rw[<-hl]
 simp only[g1,af]
 suffices hs2:∃z,_=some z/\∃q,IsE 400 z q by
  obtain ⟨z,h1,q,h2⟩:=hs2
  exact ⟨z,q,h1,h2⟩
 refine yl hb (K:=10) (D:=9) (Q:=fun o=>∃z,o=some z/\∃q,IsE 400 z q) (f:=fun x=>if x.1<=f\/x.1>=t then 0 else ((prI [x.2,if left then x.1 - f else t - x.1,l*l - (if left then x.1 - f else t - x.1)*(if left then x.1 - f else t - x.1)] 1:Int):Rat) / ((l:Int):Rat)) g2 (fun again i z q hi hz=>?_) (fun again z hz=>?_)
 ·have hld:=hb.load i hi
  have hbl:=hb.len
  obtain ⟨x,hx⟩:∃x,x=b.2.2.2.1.getD i (0,0):=⟨_,rfl⟩
  rw[<-hx] at hld ⊢
  have hx':a_ b.2.2.2.1 i ((0:Int),(0:Int))=x:=hx.symm
  simp only[z7 (show (i:Int)<b.2.2.2.1.length by omega),be,z7 hi,cT,z9,hx',gJ (show i<=100000000000 by omega),jnB,bC,gw,g_]
  by_cases c1:x.1<=f
  ·simp only[z7 c1,cT]
   exact ⟨z,rfl,pq hz (if_pos (.inl c1)) (by omega)⟩
  ·by_cases c2:x.1>=t
   ·simp only[z8 c1,cF,z7 c2,cT]
    exact ⟨z,rfl,pq hz (if_pos (.inr c2)) (by omega)⟩
   ·obtain ⟨a,ha⟩:∃a:Int,a=if left then x.1 - f else t - x.1:=⟨_,rfl⟩
    have hab:0<=a/\a<=1048576:=by rw[ha];split<;>omega
    have haa:=wA hab hab
    rw[if_neg (show ¬ (x.1<=f\/x.1>=t) by omega),<-ha]
    obtain ⟨y,k1,k2⟩:=nI (d:=l) (l:=[x.2,a,l*l - a*a]) (by omega) (by omega) (fun y hy=>by
     simp at hy
     rcases hy with rfl | rfl | rfl<;>omega) (by simp)
    obtain ⟨z',k3,k4⟩:=im hz k2 (by simp only[gC,List.length_nil];omega)
    refine ⟨z',?_,k4.mono (by simp only[gC,List.length_nil];omega)⟩
    have hbody:∀a':Int,a'=a->(ah (aF l [x.2,a',aq .i64 (aq .i64 (l*l) - aq .i64 (a'*a'))]) fun (t:(Bool×List Int)×Bool×List Int)=>ah (aj z t) fun (t:(Bool×List Int)×Bool×List Int)=>again (((i+1:Nat):Int),t,aQ))=again (((i+1:Nat):Int),z',aQ):=fun a' e=>by
     rw[e,ap (x:=l*l) (by omega) (by omega),ap (x:=a*a) (by omega) (by omega),ap (x:=l*l - a*a) (by omega) (by omega),k1,af,k3,af]
    simp only[z8 c1,cF,z8 c2]
    cases left with
    | true =>
     simp only[bX,cF]
     exact hbody _ (by rw[ap (by omega) (by omega),ha];rfl)
    | false =>
     simp only[iF,cT]
     exact hbody _ (by rw[ap (by omega) (by omega),ha];rfl)
 ·simp only[z8 (show ¬ (b.2.2.2.1.length:Int)<b.2.2.2.1.length by omega),cF]
  exact ⟨z,rfl,_,hz.mono (by decide)⟩
def rL (b:Bea):Bea:=(b.1,b.2.1,jg b.2.2.1.length (fun i=>b.2.1 - b.2.2.1.getD (b.2.2.1.length - 1 - i) 0),jg b.2.2.2.1.length (fun i=>(b.2.1 - (b.2.2.2.1.getD i (0,0)).1,(b.2.2.2.1.getD i (0,0)).2)),b.2.2.2.2)
theorem uG {α:Type} {n:Nat} {f:Nat->α}:jg n f++[f n]=jg (n+1) f:=by
 unfold jg
 rw[List.range_succ,List.map_append]
 rfl
theorem AN {b:Bea} (hb:OkB b):ce b=some (rL b):=by
 have hn:=hb.n10
 have hnl:=hb.nl
 have hbl:=hb.len
 obtain ⟨n,hnn⟩:∃n,n=b.2.2.1.length:=⟨_,rfl⟩
 unfold ce oO
 rw[<-hnn] at hn ⊢
 simp only[wC,ff (show n<=4398046511104 by omega),cT]
 refine gQ (α:=Nat×ByteArray×Int×List Int×List (Int×Int)×Int×PUnit) (R:=ByteArray×Int×List Int×List (Int×Int)×Int) n (by omega) (fun i=>(i,b.1,b.2.1,jg i (fun i=>b.2.1 - b.2.2.1.getD (n - 1 - i) 0),[],b.2.2.2.2,aQ)) _ rfl (fun again i hi=>?_) (fun again=>?_)
 ·have hg:a_ (xt b.2.2.1 n) i ((0:Int),(0:Int),aQ)=(((n - 1 - i:Nat):Int),b.2.2.1.getD (n - 1 - i) 0,()):=by
   rw[List.getD_eq_getElem?_getD,zm _ _ _ hi]
   rfl
  have hs:=hb.sup (n - 1 - i) (by omega)
  simp only[ff (show i.succ<=n by omega),cT,fi,iH (show (i+1)*8<=140737488355328 by omega),hg,ap (x:=b.2.1 - b.2.2.1.getD (n - 1 - i) 0) (by omega) (by omega)]
  rw[uG (f:=fun i=>b.2.1 - b.2.2.1.getD (n - 1 - i) 0)]
 ·have hble:eS n.succ n=false:=by
   rw[Bool.eq_false_iff,ne_eq,Nat.ble_eq]
   omega
  simp only[hble,cF]
  refine gQ (α:=Int×ByteArray×Int×List Int×List (Int×Int)×Int×PUnit) (R:=ByteArray×Int×List Int×List (Int×Int)×Int) b.2.2.2.1.length (by omega) (fun i=>((i:Int),b.1,b.2.1,jg n (fun i=>b.2.1 - b.2.2.1.getD (n - 1 - i) 0),jg i (fun i=>(b.2.1 - (b.2.2.2.1.getD i (0,0)).1,(b.2.2.2.1.getD i (0,0)).2)),b.2.2.2.2,aQ)) _ rfl (fun again i hi=>?_) (fun again=>?_)
  ·have hld:=hb.load i hi
   simp only[z7 (show (i:Int)<b.2.2.2.1.length by omega),be,z7 hi,cT,z9,fi,iH (show (i+1)*16<=140737488355328 by omega),gJ (show i<=100000000000 by omega),ap (x:=b.2.1 - (b.2.2.2.1.getD i (0,0)).1) (by omega) (by omega)]
   rw[uG (f:=fun i=>(b.2.1 - (b.2.2.2.1.getD i (0,0)).1,(b.2.2.2.1.getD i (0,0)).2))]
  ·simp only[z8 (show ¬ (b.2.2.2.1.length:Int)<b.2.2.2.1.length by omega),cF]
   unfold rL
   rw[hnn]
theorem Dp {b:Bea} (hb:OkB b):OkB (rL b):=by
 have hn:=hb.n10
 have h1:=hb.n1
 have hbl:=hb.len
 have hlen:(rL b).2.2.1.length=b.2.2.1.length:=fi
 have hll:(rL b).2.2.2.1.length=b.2.2.2.1.length:=fi
 have hg:∀i,i<b.2.2.1.length->(rL b).2.2.1.getD i 0=b.2.1 - b.2.2.1.getD (b.2.2.1.length - 1 - i) 0:=fun i hi=>jk hi
 have hgl:∀i,i<b.2.2.2.1.length->(rL b).2.2.2.1.getD i (0,0)=(b.2.1 - (b.2.2.2.1.getD i (0,0)).1,(b.2.2.2.1.getD i (0,0)).2):=fun i hi=>jk hi
 refine ⟨hb.len,hb.even,by rw[hlen];exact h1,by rw[hlen];exact hn,fun i hi=>?_,fun i hi=>?_,by rw[hll];exact hb.nl,fun i hi=>?_⟩
 ·rw[hlen] at hi
  have hs:=hb.sup (b.2.2.1.length - 1 - i) (by omega)
  rw[hg i hi]
  show 0<=_/\_<=b.2.1
  omega
 ·rw[hlen] at hi
  have hs:=hb.inc (b.2.2.1.length - 1 - (i+1)) (by omega)
  rw[show b.2.2.1.length - 1 - (i+1)+1=b.2.2.1.length - 1 - i by omega] at hs
  rw[hg i (by omega),hg (i+1) hi]
  omega
 ·rw[hll] at hi
  have hs:=hb.load i hi
  rw[hgl i hi]
  refine ⟨?_,hs.2⟩
  show 0<=b.2.1 - _/\b.2.1 - _<=b.2.1
  omega
abbrev e0x:(Bool×List Int)×Bool×List Int:=((false,[]),false,[])
theorem kH {α:Type} {l:List α} {i j:Nat} {x d:α} (hi:i<l.length):(l.set i x).getD j d=if j=i then x else l.getD j d:=by
 by_cases c:j=i
 ·subst c
  rw[if_pos rfl,ca (by rw[k_];exact hi),List.getElem_set_self]
 ·rw[if_neg c,List.getD_eq_getElem?_getD,List.getD_eq_getElem?_getD,List.getElem?_set_ne (Ne.symm c)]
theorem OV {k g q:Rat} (hk:0<k) (hg:0<g) (hq:k<q):g<2*(k+g) - k / q*k:=by
 have hq0:q≠0:=by grind
 have h1:k / q*q=k:=Rat.div_mul_cancel hq0
 obtain ⟨t,ht⟩:∃t,t=k / q:=⟨_,rfl⟩
 rw[<-ht] at h1 ⊢
 have h2:t<1:=by
  apply Classical.byContradiction
  intro h
  have h3:0<=(t - 1)*q:=Rat.mul_nonneg (by grind) (by grind)
  have h4:(t - 1)*q=k - q:=by grind
  grind
 have h5:0<(1 - t)*k:=Rat.mul_pos (by grind) hk
 have h6:(1 - t)*k=k - t*k:=by grind
 grind
def jl (b:Bea) (i:Nat):Int:=b.2.2.1.getD (i+1) 0 - b.2.2.1.getD i 0
theorem tO {b:Bea} (hb:OkB b) {i:Nat} (hi:i+1<b.2.2.1.length):1<=jl b i/\jl b i<=1048576:=by
 have h1:=hb.inc i hi
 have h2:=hb.sup i (by omega)
 have h3:=hb.sup (i+1) hi
 have h4:=hb.len
 unfold jl
 omega
theorem yp {z:Int} (h:1<=z):(0:Rat)<(z:Rat):=by
 have:((0:Int):Rat)<((z:Int):Rat):=Rat.intCast_lt_intCast.2 (by omega)
 simpa using this
def Mq (b:Bea) (i:Nat) (D R:List ((Bool×List Int)×Bool×List Int)):Prop:=D.length=b.2.2.1.length/\R.length=b.2.2.1.length/\∀j,1<=j->j<i->(∃q,IsE (7*j) (D.getD j e0x) q/\((jl b j:Int):Rat)<q)/\∃r,IsE (1300*j) (R.getD j e0x) r
theorem BD {b:Bea} {i:Nat} {D R:List ((Bool×List Int)×Bool×List Int)} (h:Mq b i D R) (hi:i<b.2.2.1.length) {d r:(Bool×List Int)×Bool×List Int} {D' R':List ((Bool×List Int)×Bool×List Int)} (hD:D'=D.set i d) (hR:R'=R.set i r) {q s:Rat} (h1:IsE (7*i) d q) (h2:((jl b i:Int):Rat)<q) (h3:IsE (1300*i) r s):Mq b (i+1) D' R':=by
 obtain ⟨a1,a2,a3⟩:=h
 refine ⟨by rw[hD,k_,a1],by rw[hR,k_,a2],fun j j1 j2=>?_⟩
 rw[hD,hR,kH (by omega),kH (by omega)]
 by_cases c:j=i
 ·subst c
  rw[if_pos rfl,if_pos rfl]
  exact ⟨⟨q,h1,h2⟩,s,h3⟩
 ·rw[if_neg c,if_neg c]
  exact a3 j j1 (by omega)
theorem Gp {b:Bea} (hb:OkB b) (hn:2<=b.2.2.1.length):∃ms:List ((Bool×List Int)×Bool×List Int),eU b=some (ms,true,aQ)/\ms.length=b.2.2.1.length/\∀i,i<b.2.2.1.length->∃q,IsE 150000 (ms.getD i e0x) q:=by
 have hn10:=hb.n10
 have hbl:=hb.len
 obtain ⟨n,hnn⟩:∃n,n=b.2.2.1.length:=⟨_,rfl⟩
 obtain ⟨o1,p1,h1,h2⟩:=xm hb
 obtain ⟨o2,p2,h3,h4⟩:=xm (Dp hb)
 obtain ⟨w0,h5,h6⟩:=jh (z:=0) (by decide)
 unfold eU mR
 have hsup:=hb.sup
 have hgp:∀i,i+1<n->_:=fun i hi=>tO hb (i:=i) (by omega)
 rw[<-hnn] at hn hn10 hsup ⊢
 rw[h1,af,AN hb,af,h3,af,z8 (show ¬ (n:Int)=1 by omega),cF]
 simp only[z9,z7 (show (0:Int)<=(n:Int) by omega),iH (show n*64<=140737488355328 by omega),g_,cT,oM (show (0:Int)<=0 by decide) (show (0:Int)<(n:Nat) by omega),ff (show 1<=n by omega),sf (show 1<=n by omega) (show n<=100000000000 by omega),be,z7 (show n - 1<n by omega),ff (show (n - 1).succ<=n by omega)]
 refine tI (α:=Int×List ((Bool×List Int)×Bool×List Int)×List ((Bool×List Int)×Bool×List Int)×PUnit) (R:=List ((Bool×List Int)×Bool×List Int)×Bool×PUnit) (fun o=>∃ms:List ((Bool×List Int)×Bool×List Int),o=some (ms,true,aQ)/\ms.length=n/\∀i,i<n->∃q,IsE 150000 (ms.getD i e0x) q) (n - 2) (by omega) (fun i st=>∃D R,st=(((i+1:Nat):Int),D,R,aQ)/\Mq b (i+1) D R) ⟨_,_,rfl,by rw[List.length_replicate,hnn],by rw[List.length_replicate,hnn],fun j j1 j2=>by omega⟩ (fun again i0 st hi0 ⟨D,R,hst,hI⟩=>?_) (fun again st ⟨D,R,hst,hI⟩=>?_)
 ·subst hst
  obtain ⟨i,hi⟩:∃i,i=i0+1:=⟨_,rfl⟩
  rw[<-hi] at hI ⊢
  have hI':=hI
  obtain ⟨a1,a2,a3⟩:=hI'
  rw[<-hnn] at a1 a2
  have hin:i+1<n:=by omega
  obtain ⟨k1,k2⟩:=hgp (i - 1) (by omega)
  obtain ⟨g1,g2⟩:=hgp i hin
  have sA:=hsup (i - 1) (by omega)
  have sB:=hsup i (by omega)
  have sC:=hsup (i+1) (by omega)
  have hk:b.2.2.1.getD i 0 - b.2.2.1.getD (i - 1) 0=jl b (i - 1):=by unfold jl;rw[show i - 1+1=i by omega]
  have hg:b.2.2.1.getD (i+1) 0 - b.2.2.1.getD i 0=jl b i:=rfl
  obtain ⟨k,hkk⟩:∃k,k=jl b (i - 1):=⟨_,rfl⟩
  obtain ⟨g,hgg⟩:∃g,g=jl b i:=⟨_,rfl⟩
  obtain ⟨side1,r1,s1,s2⟩:=G7 hb (f:=b.2.2.1.getD (i - 1) 0) (t:=b.2.2.1.getD i 0) sA.1 (by omega) (by omega) true
  obtain ⟨side2,r2,s3,s4⟩:=G7 hb (f:=b.2.2.1.getD i 0) (t:=b.2.2.1.getD (i+1) 0) sB.1 (by omega) (by omega) false
  rw[<-hkk] at k1 k2 hk
  rw[<-hgg] at g1 g2 hg
  obtain ⟨w1,u1,u2⟩:=jh (z:=2*(k+g)) (by omega)
  obtain ⟨wk,u3,u4⟩:=jh (z:=k) (by omega)
  obtain ⟨x1,u5,u6⟩:=jY h6 s2 (by decide)
  obtain ⟨x2,u7,u8⟩:=jY u6 s4 (by decide)
  have e1:aq .i64 (b.2.2.1.getD i 0 - b.2.2.1.getD (i - 1) 0)=k:=by rw[hk,ap (by omega) (by omega)]
  have e2:aq .i64 (b.2.2.1.getD (i+1) 0 - b.2.2.1.getD i 0)=g:=by rw[hg,ap (by omega) (by omega)]
  have e3:aq .i64 (2*aq .i64 (k+g))=2*(k+g):=by rw[ap (x:=k+g) (by omega) (by omega),ap (by omega) (by omega)]
  have kq:=yp k1
  have gq:=yp g1
  have v1:∀(y:(Bool×List Int)×Bool×List Int),(R.set i y).getD i ((false,[]),false,[])=y:=fun y=>by rw[kH (by omega),if_pos rfl]
  have v2:∀(y:(Bool×List Int)×Bool×List Int),(D.set i y).getD i ((false,[]),false,[])=y:=fun y=>by rw[kH (by omega),if_pos rfl]
  have v3:∀(y:(Bool×List Int)×Bool×List Int),(R.set i y).getD (i - 1) ((false,[]),false,[])=R.getD (i - 1) e0x:=fun y=>by rw[kH (by omega),if_neg (by omega)]
  have v4:∀(y:(Bool×List Int)×Bool×List Int),(D.set i y).getD (i - 1) ((false,[]),false,[])=D.getD (i - 1) e0x:=fun y=>by rw[kH (by omega),if_neg (by omega)]
  simp only[sf (show 1<=i by omega) (show i<=100000000000 by omega),gJ (show i<=100000000000 by omega),z7 (show (i:Int)<((n - 1:Nat):Int) by omega),cT,be,z7 (show i<n by omega),z7 (show i - 1<n by omega),z7 hin,z9,e1,e2,e3,u1,af,a1,a2,ff (show i.succ<=n by omega),h5,s1,u5,s3,u7]
  by_cases c1:i=1
  ·obtain ⟨y1,t1,t2⟩:=tw h2 u4 (by decide)
   obtain ⟨y2,t3,t4⟩:=jY u8 t2 (by decide)
   simp only[z7 (show (i:Int)=1 by omega),cT,u3,af,t1,v1,t3,List.set_set]
   refine ⟨_,⟨_,_,rfl,BD hI (by omega) rfl rfl (u2.mono (by omega)) ?_ (t4.mono (by omega))⟩,rfl⟩
   rw[<-hgg,Rat.intCast_mul,Rat.intCast_add]
   have:((2:Int):Rat)=2:=rfl
   grind
  ·obtain ⟨⟨q,m1,m2⟩,r,m3⟩:=a3 (i - 1) (by omega) (by omega)
   rw[<-hkk] at m2
   obtain ⟨y1,t1,t2⟩:=C7 u4 m1 (by grind) (by omega)
   obtain ⟨y2,t3,t4⟩:=tw t2 u4 (by omega)
   obtain ⟨y3,t5,t6⟩:=jY u2 t4 (by omega)
   obtain ⟨y4,t7,t8⟩:=tw t2 m3 (by omega)
   obtain ⟨y5,t9,t10⟩:=jY u8 t8 (by omega)
   simp only[z8 (show ¬ (i:Int)=1 by omega),cF,u3,af,ff (show (i - 1).succ<=n by omega),cT,v4,t1,t3,v2,t5,v3,t7,v1,t9,List.set_set]
   refine ⟨_,⟨_,_,rfl,BD hI (by omega) rfl rfl (t6.mono (by omega)) ?_ (t10.mono (by omega))⟩,rfl⟩
   rw[<-hgg,Rat.intCast_mul,Rat.intCast_add]
   exact OV kq gq m2
 ·subst hst
  obtain ⟨a1,a2,a3⟩:=hI
  rw[<-hnn] at a1 a2
  have e1:n - 2+1=n - 1:=by omega
  rw[e1] at a3 ⊢
  simp only[sf (show 1<=n - 1 by omega) (show n - 1<=100000000000 by omega),z8 (show ¬ ((n - 1:Nat):Int)<((n - 1:Nat):Int) by omega),cF]
  rw[show aq .i64 ((n:Int) - 2)=((n - 2:Nat):Int) by rw[ap (by omega) (by omega)];omega]
  refine tI (α:=Int×List ((Bool×List Int)×Bool×List Int)×PUnit) (R:=List ((Bool×List Int)×Bool×List Int)×Bool×PUnit) (fun o=>∃ms:List ((Bool×List Int)×Bool×List Int),o=some (ms,true,aQ)/\ms.length=n/\∀i,i<n->∃q,IsE 150000 (ms.getD i e0x) q) (n - 2) (by omega) (fun m st=>∃O,st=(((n - 2 - m:Nat):Int),O,aQ)/\O.length=n/\(∃q,IsE 400 (O.getD 0 e0x) q)/\∀j,n - 2 - m<j->j<n->∃q,IsE (400+14000*(n - 1 - j)) (O.getD j e0x) q) ⟨_,rfl,by rw[k_,k_,List.length_replicate],?_,fun j j1 j2=>?_⟩ (fun again m st hm ⟨O,hst,hO,hO0,hOj⟩=>?_) (fun again st ⟨O,hst,hO,hO0,hOj⟩=>?_)
  ·rw[kH (by rw[k_,List.length_replicate];omega),if_neg (by omega),kH (by rw[List.length_replicate];omega),if_pos rfl]
   exact ⟨p1,h2⟩
  ·rw[kH (by rw[k_,List.length_replicate];omega),if_pos (by omega)]
   exact ⟨p2,h4.mono (by omega)⟩
  ·subst hst
   obtain ⟨i,hi⟩:∃i,i=n - 2 - m:=⟨_,rfl⟩
   have hi2:n - 2 - (m+1)=i - 1:=by omega
   rw[<-hi] at hOj ⊢
   obtain ⟨g1,g2⟩:=hgp i (by omega)
   have hg:b.2.2.1.getD (i+1) 0 - b.2.2.1.getD i 0=jl b i:=rfl
   obtain ⟨⟨q,m1,m2⟩,r,m3⟩:=a3 i (by omega) (by omega)
   obtain ⟨p,m4⟩:=hOj (i+1) (by omega) (by omega)
   have gq:=yp g1
   obtain ⟨g,hgg⟩:∃g,g=jl b i:=⟨_,rfl⟩
   rw[<-hgg] at g1 g2 hg m2 gq
   have e2:aq .i64 (b.2.2.1.getD (i+1) 0 - b.2.2.1.getD i 0)=g:=by rw[hg,ap (by omega) (by omega)]
   obtain ⟨wg,u1,u2⟩:=jh (z:=g) (by omega)
   obtain ⟨y1,t1,t2⟩:=tw m4 u2 (by omega)
   obtain ⟨y2,t3,t4⟩:=jY m3 t2 (by omega)
   obtain ⟨y3,t5,t6⟩:=C7 t4 m1 (by grind) (by omega)
   simp only[gJ (show i<=100000000000 by omega),sf (show 1<=i by omega) (show i<=100000000000 by omega),z7 (show (i:Int)>0 by omega),cT,be,z7 (show i+1<n by omega),z7 (show i<n by omega),z9,a1,a2,hO,ff (show i.succ<=n by omega),ff (show (i+1).succ<=n by omega),e2,u1,af,t1,t3,t5]
   refine ⟨_,⟨_,by rw[hi2],by rw[k_,hO],?_,fun j j1 j2=>?_⟩,rfl⟩
   ·rw[kH (by omega),if_neg (by omega)]
    exact hO0
   ·rw[kH (by omega)]
    by_cases c:j=i
    ·rw[if_pos c]
     exact ⟨_,t6.mono (by omega)⟩
    ·rw[if_neg c]
     exact hOj j (by omega) j2
  ·subst hst
   simp only[Nat.sub_self,z8 (show ¬ ((0:Nat):Int)>0 by decide),cF]
   refine ⟨O,rfl,hO,fun i hi=>?_⟩
   by_cases c:i=0
   ·subst c
    obtain ⟨q,hq⟩:=hO0
    exact ⟨q,hq.mono (by decide)⟩
   ·obtain ⟨q,hq⟩:=hOj i (by omega) hi
    exact ⟨q,hq.mono (by omega)⟩
def cK (b:Bea) (i:Nat):Int:=b.2.2.1.getD i 0
def Db (b:Bea) (i:Nat) (left:Bool):Rat:=((b.2.2.2.2*jl b i:Int):Rat) / ((2000:Int):Rat)+sL b (DY b (cK b i) (cK b (i+1)) left)
def PS (b:Bea) (p:Int):Rat:=((b.2.2.2.2*p:Int):Rat) / ((1000:Int):Rat)+sL b (Au p)
def pW (p:Int) (x:Int×Int):Rat:=if x.1=p then ((x.2:Int):Rat) else 0
def reQ (b:Bea) (m:Nat->Rat) (i:Nat):Rat :=
 (0+sL b (pW (cK b i)))+(if 0<i then Db b (i - 1) false+(m (i - 1) - m i) / ((jl b (i - 1):Int):Rat) else 0)
  + (if i+1<b.2.2.1.length then Db b i true+(m (i+1) - m i) / ((jl b i:Int):Rat) else 0)
  + (if i=0 then PS b (cK b i) else 0)+(if i+1=b.2.2.1.length then PS (rL b) (b.2.1 - cK b i) else 0)
theorem Cu {z:Int} (h:1<=z):((z:Int):Rat)≠0:=by have:=yp h;grind
theorem Df {b:Bea} (hb:OkB b) (hn:2<=b.2.2.1.length) {ms:List ((Bool×List Int)×Bool×List Int)} {m:Nat->Rat} (hml:ms.length=b.2.2.1.length) (hm:∀i,i<b.2.2.1.length->IsE 150000 (ms.getD i e0x) (m i)) :
  ∃rs:List ((Bool×List Int)×Bool×List Int),cD b ms=some rs/\rs.length=b.2.2.1.length/\∀i,i<b.2.2.1.length->IsE 700000 (rs.getD i e0x) (reQ b m i):=by
 have hn10:=hb.n10
 have hbl:=hb.len
 have hnl:=hb.nl
 obtain ⟨n,hnn⟩:∃n,n=b.2.2.1.length:=⟨_,rfl⟩
 have hsup:=hb.sup
 have hgp:∀i,i+1<n->_:=fun i hi=>tO hb (i:=i) (by omega)
 obtain ⟨w0,h5,h6⟩:=jh (z:=0) (by decide)
 rw[<-hnn] at hn hn10 hsup hml hm ⊢
 unfold cD kE
 rw[<-hnn,z9,z7 (show (0:Int)<=(n:Int) by omega),iH (show n*64<=140737488355328 by omega),g_,cT]
 refine tI (α:=Int×List ((Bool×List Int)×Bool×List Int)×PUnit) (R:=List ((Bool×List Int)×Bool×List Int)) (fun o=>∃rs:List ((Bool×List Int)×Bool×List Int),o=some rs/\rs.length=n/\∀i,i<n->IsE 700000 (rs.getD i e0x) (reQ b m i)) n (by omega) (fun i st=>∃O,st=((i:Int),O,aQ)/\O.length=n/\∀j,j<i->IsE 700000 (O.getD j e0x) (reQ b m j)) ⟨_,rfl,List.length_replicate,fun j hj=>absurd hj (Nat.not_lt_zero _)⟩ (fun again i st hi ⟨O,hst,hO,hI⟩=>?_) (fun again st ⟨O,hst,hO,hI⟩=>?_)
 ·subst hst
  have v1:∀z:(Bool×List Int)×Bool×List Int,(O.set i z).getD i ((false,[]),false,[])=z:=fun z=>by rw[kH (by omega),if_pos rfl]
  have sB:=hsup i hi
  have hsp:b.2.2.1.getD i 0=cK b i:=rfl
  have fin:∀z q,IsE 700000 z q->q=reQ b m i->∃y,(∃O',y=(((i+1:Nat):Int),O',aQ)/\O'.length=n/\∀j,j<i+1->IsE 700000 (O'.getD j e0x) (reQ b m j))/\again (((i+1:Nat):Int),O.set i z,aQ)=again y:=fun z q hz hq=>by
   refine ⟨_,⟨_,rfl,by rw[k_,hO],fun j hj=>?_⟩,rfl⟩
   rw[kH (by omega)]
   by_cases c:j=i
   ·rw[if_pos c,c,<-hq];exact hz
   ·rw[if_neg c];exact hI j (by omega)
  simp only[z7 (show (i:Int)<(n:Int) by omega),be,z7 hi,cT,z9,h5,af,hO,ff (show i.succ<=n by omega),jnB,gJ (show i<=100000000000 by omega),hsp]
  refine tI (α:=Int×List ((Bool×List Int)×Bool×List Int)×PUnit) (R:=List ((Bool×List Int)×Bool×List Int)) (fun o=>∃y,(∃O',y=(((i+1:Nat):Int),O',aQ)/\O'.length=n/\∀j,j<i+1->IsE 700000 (O'.getD j e0x) (reQ b m j))/\o=again y) b.2.2.2.1.length (by omega) (fun k st=>∃z,st=((k:Int),O.set i z,aQ)/\IsE (2+3*k) z (0+sq k fun k=>pW (cK b i) (b.2.2.2.1.getD k (0,0)))) ⟨w0,rfl,by
   show IsE 2 w0 (0+0)
   rw[Rat.add_zero]
   exact h6⟩ (fun again1 k st hk ⟨z,hst,hz⟩=>?_) (fun again1 st ⟨z,hst,hz⟩=>?_)
  ·subst hst
   have hld:=hb.load k hk
   obtain ⟨x,hx⟩:∃x,x=b.2.2.2.1.getD k (0,0):=⟨_,rfl⟩
   have hx':a_ b.2.2.2.1 k ((0:Int),(0:Int))=x:=hx.symm
   rw[<-hx] at hld
   simp only[z7 (show (k:Int)<b.2.2.2.1.length by omega),be,z7 hk,cT,z9,hx',gJ (show k<=100000000000 by omega),k_,hO,z7 hi,ff (show i.succ<=n by omega),v1]
   by_cases c1:x.1=cK b i
   ·obtain ⟨y,k1,k2⟩:=jh (z:=x.2) (by omega)
    obtain ⟨z',k3,k4⟩:=im hz k2 (by omega)
    simp only[z7 c1,cT,k1,af,k3,List.set_set]
    refine ⟨_,⟨z',rfl,?_⟩,rfl⟩
    show IsE _ z' (0+((sq k fun k=>pW (cK b i) (b.2.2.2.1.getD k (0,0)))+pW (cK b i) (b.2.2.2.1.getD k (0,0))))
    rw[<-hx,show pW (cK b i) x=((x.2:Int):Rat) from if_pos c1,<-Rat.add_assoc]
    exact k4.mono (by omega)
   ·simp only[z8 c1,cF]
    refine ⟨_,⟨z,rfl,?_⟩,rfl⟩
    show IsE _ z (0+((sq k fun k=>pW (cK b i) (b.2.2.2.1.getD k (0,0)))+pW (cK b i) (b.2.2.2.1.getD k (0,0))))
    rw[<-hx,show pW (cK b i) x=0 from if_neg c1,Rat.add_zero]
    exact hz.mono (by omega)
  ·subst hst
   have hz':IsE 122 z (0+sL b (pW (cK b i))):=hz.mono (by omega)
   simp only[z8 (show ¬ (b.2.2.2.1.length:Int)<b.2.2.2.1.length by omega),cF,k_,hO,z7 hi,cT,ff (show i.succ<=n by omega),v1,hml,sf (show 1<=n by omega) (show n<=100000000000 by omega),AN hb,af,List.set_set,be]
   have pL:0<i->∀{K:Nat} {y:(Bool×List Int)×Bool×List Int} {q:Rat},IsE K y q->K<=400000->∃zl z1 z2 z3 z4 z5,dI b (cK b (i - 1)) (cK b i) false=some zl/\aj y zl=some z1/\aw (ms.getD (i - 1) ((false,[]),false,[])) (ms.getD i ((false,[]),false,[]))=some z2/\az (aq .i64 (cK b i - cK b (i - 1)))=some z3/\bg z2 z3=some z4/\aj z1 z4=some z5/\IsE (K+300310) z5 (q+(Db b (i - 1) false+(m (i - 1) - m i) / ((jl b (i - 1):Int):Rat))):=fun h0 K y q hy hK=>by
    obtain ⟨g1,g2⟩:=hgp (i - 1) (by omega)
    have sA:=hsup (i - 1) (by omega)
    have hg:cK b i - cK b (i - 1)=jl b (i - 1):=by unfold jl cK;rw[show i - 1+1=i by omega]
    obtain ⟨zl,a1,a2⟩:=Ey hb (f:=cK b (i - 1)) (t:=cK b i) sA.1 (by omega) (by have:cK b i<=b.2.1:=sB.2;omega) false
    obtain ⟨z1,a3,a4⟩:=im hy a2 (by omega)
    obtain ⟨z2,a5,a6⟩:=jY (hm (i - 1) (by omega)) (hm i hi) (by decide)
    obtain ⟨z3,a7,a8⟩:=jh (z:=jl b (i - 1)) (by omega)
    obtain ⟨z4,a9,a10⟩:=C7 a6 a8 (Cu g1) (by decide)
    obtain ⟨z5,a11,a12⟩:=im a4 a10 (by omega)
    refine ⟨zl,z1,z2,z3,z4,z5,a1,a3,a5,by rw[hg,ap (by omega) (by omega),a7],a9,a11,?_⟩
    rw[<-Rat.add_assoc]
    unfold Db
    rw[show i - 1+1=i by omega,<-hg]
    rw[hg] at a12 ⊢
    exact a12.mono (by omega)
   have pR:i+1<n->∀{K:Nat} {y:(Bool×List Int)×Bool×List Int} {q:Rat},IsE K y q->K<=400000->∃zl z1 z2 z3 z4 z5,dI b (cK b i) (b.2.2.1.getD (i+1) 0) true=some zl/\aj y zl=some z1/\aw (ms.getD (i+1) ((false,[]),false,[])) (ms.getD i ((false,[]),false,[]))=some z2/\az (aq .i64 (b.2.2.1.getD (i+1) 0 - cK b i))=some z3/\bg z2 z3=some z4/\aj z1 z4=some z5/\IsE (K+300310) z5 (q+(Db b i true+(m (i+1) - m i) / ((jl b i:Int):Rat))):=fun h0 K y q hy hK=>by
    obtain ⟨g1,g2⟩:=hgp i h0
    have sC:=hsup (i+1) h0
    have hg:b.2.2.1.getD (i+1) 0 - cK b i=jl b i:=rfl
    obtain ⟨zl,a1,a2⟩:=Ey hb (f:=cK b i) (t:=b.2.2.1.getD (i+1) 0) sB.1 (by omega) (by omega) true
    obtain ⟨z1,a3,a4⟩:=im hy a2 (by omega)
    obtain ⟨z2,a5,a6⟩:=jY (hm (i+1) h0) (hm i hi) (by decide)
    obtain ⟨z3,a7,a8⟩:=jh (z:=jl b i) (by omega)
    obtain ⟨z4,a9,a10⟩:=C7 a6 a8 (Cu g1) (by decide)
    obtain ⟨z5,a11,a12⟩:=im a4 a10 (by omega)
    refine ⟨zl,z1,z2,z3,z4,z5,a1,a3,a5,by rw[hg,ap (by omega) (by omega),a7],a9,a11,?_⟩
    rw[<-Rat.add_assoc]
    exact a12.mono (by omega)
   by_cases c0:i=0
   ·subst c0
    obtain ⟨zl,z1,z2,z3,z4,z5,r1,r2,r3,r4,r5,r6,r7⟩:=pR (by omega) hz' (by decide)
    obtain ⟨y1,t1,t2⟩:=Bl hb (p:=cK b 0) sB.1 (by have:cK b 0<=b.2.1:=sB.2;omega)
    obtain ⟨y2,t3,t4⟩:=im r7 t2 (by decide)
    simp only[z8 (show ¬ ((0:Nat):Int)>0 by decide),cF,z7 (show ((0+1:Nat):Int)<(n:Int) by omega),cT,z7 (show 0+1<n by omega),r1,af,r2,r3,r4,r5,r6,z7 (show ((0:Nat):Int)=0 from rfl),t1,t3,z8 (show ¬ ((0:Nat):Int)=((n - 1:Nat):Int) by omega),k_,hO,z7 hi,ff (show (0:Nat).succ<=n by omega),v1,List.set_set]
    refine fin y2 _ (t4.mono (by decide)) ?_
    unfold reQ
    rw[if_neg (show ¬ (0:Nat)<0 by decide),if_pos (show 0+1<b.2.2.1.length by omega),if_pos rfl,if_neg (show ¬ 0+1=b.2.2.1.length by omega)]
    rw[Rat.add_zero,Rat.add_zero]
    rfl
   ·obtain ⟨zl,z1,z2,z3,z4,z5,r1,r2,r3,r4,r5,r6,r7⟩:=pL (by omega) hz' (by decide)
    have e1:a_ b.2.2.1 (i - 1) (0:Int)=cK b (i - 1):=rfl
    by_cases c1:i+1<n
    ·obtain ⟨ul,u1,u2,u3,u4,u5,s1,s2,s3,s4,s5,s6,s7⟩:=pR c1 r7 (by decide)
     simp only[z7 (show (i:Int)>0 by omega),cT,sf (show 1<=i by omega) (show i<=100000000000 by omega),be,z7 (show i - 1<n by omega),z9,e1,r1,af,r2,r3,r4,r5,r6,z7 (show ((i+1:Nat):Int)<(n:Int) by omega),z7 c1,k_,hO,z7 hi,ff (show i.succ<=n by omega),v1,s1,s2,s3,s4,s5,s6,List.set_set,z8 (show ¬ (i:Int)=0 by omega),cF,z8 (show ¬ (i:Int)=((n - 1:Nat):Int) by omega)]
     refine fin u5 _ (s7.mono (by decide)) ?_
     unfold reQ
     rw[if_pos (show 0<i by omega),if_pos (show i+1<b.2.2.1.length by omega),if_neg c0,if_neg (show ¬ i+1=b.2.2.1.length by omega),Rat.add_zero,Rat.add_zero]
    ·have hin:i+1=n:=by omega
     have hL:0<=b.2.1 - cK b i/\b.2.1 - cK b i<=1048576:=by
      have h1:0<=cK b i/\cK b i<=b.2.1:=sB
      omega
     obtain ⟨y1,t1,t2⟩:=Bl (Dp hb) (p:=b.2.1 - cK b i) hL.1 hL.2
     obtain ⟨y2,t3,t4⟩:=im r7 t2 (by decide)
     simp only[z7 (show (i:Int)>0 by omega),cT,sf (show 1<=i by omega) (show i<=100000000000 by omega),be,z7 (show i - 1<n by omega),z9,e1,r1,af,r2,r3,r4,r5,r6,z8 (show ¬ ((i+1:Nat):Int)<(n:Int) by omega),cF,k_,hO,z7 hi,ff (show i.succ<=n by omega),v1,List.set_set,z8 (show ¬ (i:Int)=0 by omega),z7 (show (i:Int)=((n - 1:Nat):Int) by omega),ap (x:=b.2.1 - cK b i) (by omega) (by omega),t1,t3]
     refine fin y2 _ (t4.mono (by decide)) ?_
     unfold reQ
     rw[if_pos (show 0<i by omega),if_neg (show ¬ i+1<b.2.2.1.length by omega),if_neg c0,if_pos (show i+1=b.2.2.1.length by omega),Rat.add_zero,Rat.add_zero]
     rfl
 ·subst hst
  simp only[z8 (show ¬ (n:Int)<(n:Int) by omega),cF]
  exact ⟨O,rfl,hO,hI⟩
theorem HY {A B w g:Rat} (h:A+B=w*g) (hg:g≠0):A / g+B / g=w:=by
 rw[Rat.div_def,Rat.div_def,<-Rat.add_mul,h,Rat.mul_assoc,Rat.mul_inv_cancel _ hg,Rat.mul_one]
theorem LB (X:Rat):X / ((2000:Int):Rat)+X / ((2000:Int):Rat)=X / ((1000:Int):Rat):=by
 rw[show ((2000:Int):Rat)=2000 from rfl,show ((1000:Int):Rat)=1000 from rfl]
 grind
theorem zf {E a b c:Int} (h:c=a+b):((E*a:Int):Rat) / ((1000:Int):Rat)+((E*b:Int):Rat) / ((1000:Int):Rat)=((E*c:Int):Rat) / ((1000:Int):Rat):=by
 rw[h,Int.mul_add,Rat.intCast_add,Rat.div_def,Rat.div_def,Rat.div_def,<-Rat.add_mul]
theorem zJ {b:Bea} {f g:Int×Int->Rat}:sL b f+sL b g=sL b fun x=>f x+g x:=by
 unfold sL
 rw[<-FE]
theorem vJ {b:Bea} {f g:Int×Int->Rat} (h:∀x,f x=g x):sL b f=sL b g:=by rw[funext h]
def upW (b:Bea) (p:Int):Rat:=sL b fun x=>if x.1<=p then ((x.2:Int):Rat) else 0
def K6 (f t:Int) (x:Int×Int):Rat:=if f<x.1/\x.1<t then ((x.2:Int):Rat) else 0
theorem HV {b:Bea} (hb:OkB b) {i:Nat} (hi:i+1<b.2.2.1.length):Db b i true+Db b i false=((b.2.2.2.2*jl b i:Int):Rat) / ((1000:Int):Rat)+sL b (K6 (cK b i) (cK b (i+1))):=by
 have hg:=(tO hb hi).1
 have hgb:cK b (i+1) - cK b i=jl b i:=rfl
 have h1:sL b (DY b (cK b i) (cK b (i+1)) true)+sL b (DY b (cK b i) (cK b (i+1)) false)=sL b (K6 (cK b i) (cK b (i+1))):=by
  rw[zJ]
  refine vJ fun x=>?_
  unfold DY K6
  by_cases c:x.1<=cK b i\/x.1>=cK b (i+1)
  ·rw[if_pos c,if_pos c,if_neg (by omega)]
   grind
  ·rw[if_neg c,if_neg c,if_pos (show cK b i<x.1/\x.1<cK b (i+1) by omega),hgb]
   show ((x.2*(cK b (i+1) - x.1):Int):Rat) / _+((x.2*(x.1 - cK b i):Int):Rat) / _=_
   refine HY ?_ (Cu hg)
   rw[<-Rat.intCast_add,<-Rat.intCast_mul,<-Int.mul_add,show cK b (i+1) - x.1+(x.1 - cK b i)=jl b i by omega]
 unfold Db
 rw[<-h1,<-LB]
 grind
theorem G1 {b:Bea} (hb:OkB b) {i:Nat} (hi:i+1<b.2.2.1.length) (m:Nat->Rat):(m (i+1) - m i) / ((jl b i:Int):Rat)+(m i - m (i+1)) / ((jl b i:Int):Rat)=0 :=
 HY (by grind) (Cu (tO hb hi).1)
theorem GW {b:Bea} {f t:Int} (h:f<t):upW b f+sL b (K6 f t)+sL b (pW t)=upW b t:=by
 unfold upW
 rw[zJ,zJ]
 refine vJ fun x=>?_
 unfold K6 pW
 by_cases c1:x.1<=f
 ·rw[if_pos c1,if_neg (by omega),if_neg (by omega),if_pos (by omega)]
  grind
 ·by_cases c2:x.1<t
  ·rw[if_neg c1,if_pos (by omega),if_neg (by omega),if_pos (by omega)]
   grind
  ·by_cases c3:x.1=t
   ·rw[if_neg c1,if_neg (by omega),if_pos c3,if_pos (by omega)]
    grind
   ·rw[if_neg c1,if_neg (by omega),if_neg c3,if_neg (by omega)]
    grind
theorem Ki {b:Bea} {t:Int}:sL b (Au t)+sL b (pW t)=upW b t:=by
 unfold upW
 rw[zJ]
 refine vJ fun x=>?_
 unfold Au pW
 by_cases c2:x.1<t
 ·rw[if_pos c2,if_neg (by omega),if_pos (by omega)]
  grind
 ·by_cases c3:x.1=t
  ·rw[if_neg c2,if_pos c3,if_pos (by omega)]
   grind
  ·rw[if_neg c2,if_neg c3,if_neg (by omega)]
   grind
theorem Py {b:Bea} {t:Int}:upW b t+sL (rL b) (Au (b.2.1 - t))=sL b fun x=>((x.2:Int):Rat):=by
 have h1:sL (rL b) (Au (b.2.1 - t))=sL b fun x=>if t<x.1 then ((x.2:Int):Rat) else 0:=by
  unfold sL
  rw[show (rL b).2.2.2.1.length=b.2.2.2.1.length from fi]
  refine ll fun i hi=>?_
  rw[show (rL b).2.2.2.1.getD i (0,0)=(b.2.1 - (b.2.2.2.1.getD i (0,0)).1,(b.2.2.2.1.getD i (0,0)).2) from jk hi]
  unfold Au
  obtain ⟨x,hx⟩:∃x,x=b.2.2.2.1.getD i (0,0):=⟨_,rfl⟩
  rw[<-hx]
  show (if b.2.1 - x.1<b.2.1 - t then ((x.2:Int):Rat) else 0)=if t<x.1 then ((x.2:Int):Rat) else 0
  by_cases c:t<x.1
  ·rw[if_pos c,if_pos (by omega)]
  ·rw[if_neg c,if_neg (by omega)]
 rw[h1]
 unfold upW
 rw[zJ]
 refine vJ fun x=>?_
 by_cases c:x.1<=t
 ·rw[if_pos c,if_neg (by omega)]
  grind
 ·rw[if_neg c,if_pos (by omega)]
  grind
theorem An {b:Bea} (hb:OkB b) (m:Nat->Rat):∀k,k+1<b.2.2.1.length->sq (k+1) (reQ b m)=((b.2.2.2.2*cK b k:Int):Rat) / ((1000:Int):Rat)+upW b (cK b k)+Db b k true+(m (k+1) - m k) / ((jl b k:Int):Rat)
 | 0,hk=>by
  show 0+reQ b m 0=_
  unfold reQ PS
  rw[if_neg (by decide),if_pos (by omega),if_pos rfl,if_neg (by omega),<-Ki]
  grind
 | k+1,hk=>by
  have ih:=An hb m k (by omega)
  have hl:=HV hb (i:=k) (by omega)
  have hm:=G1 hb (i:=k) (by omega) m
  have hg:=(tO hb (i:=k) (by omega)).1
  have hgb:cK b (k+1) - cK b k=jl b k:=rfl
  have hu:=GW (b:=b) (f:=cK b k) (t:=cK b (k+1)) (by omega)
  have he:=zf (E:=b.2.2.2.2) (a:=cK b k) (b:=jl b k) (c:=cK b (k+1)) (by omega)
  show sq (k+1) (reQ b m)+reQ b m (k+1)=_
  rw[ih,<-hu,<-he]
  unfold reQ
  rw[if_pos (by omega),if_pos (by omega),if_neg (by omega),if_neg (by omega),show k+1 - 1=k by omega]
  grind
theorem QO {b:Bea} (hb:OkB b) (hn:2<=b.2.2.1.length) (m:Nat->Rat):sq b.2.2.1.length (reQ b m)=((b.2.2.2.2*b.2.1:Int):Rat) / ((1000:Int):Rat)+sL b fun x=>((x.2:Int):Rat):=by
 obtain ⟨k,hk⟩:∃k,b.2.2.1.length=k+1+1:=⟨b.2.2.1.length - 2,by omega⟩
 have ih:=An hb m k (by omega)
 have hl:=HV hb (i:=k) (by omega)
 have hm:=G1 hb (i:=k) (by omega) m
 have hg:=(tO hb (i:=k) (by omega)).1
 have hgb:cK b (k+1) - cK b k=jl b k:=rfl
 have hu:=GW (b:=b) (f:=cK b k) (t:=cK b (k+1)) (by omega)
 have he:=zf (E:=b.2.2.2.2) (a:=cK b k) (b:=jl b k) (c:=cK b (k+1)) (by omega)
 have he2:=zf (E:=b.2.2.2.2) (a:=cK b (k+1)) (b:=b.2.1 - cK b (k+1)) (c:=b.2.1) (by omega)
 have hup:=Py (b:=b) (t:=cK b (k+1))
 have e1:sq b.2.2.1.length (reQ b m)=sq (k+1) (reQ b m)+reQ b m (k+1):=by rw[hk];rfl
 rw[e1,ih,<-hup,<-hu,<-he2,<-he]
 unfold reQ PS
 rw[if_pos (by omega),if_neg (by omega),if_neg (by omega),if_pos (by omega),show k+1 - 1=k by omega]
 show _+(_+(((b.2.2.2.2*(b.2.1 - cK b (k+1)):Int):Rat) / ((1000:Int):Rat)+_))=_
 grind
end Go.Proofs.YtlfdhaiigdllcaaGreat

namespace Go.Proofs.YtlfdhaiigdllcaaGreat
noncomputable section
open Tryz Dn Dn.Sh
theorem yr (a b:ByteArray):List.beq (oF a) (oF b)=decide (a=b):=by
 show (a.toList ==b.toList)=_
 rw[ByteArray.toList_eq,ByteArray.toList_eq,pH,decide_eq_true_iff,beq_iff_eq]
 exact ⟨fun h=>ByteArray.ext (Array.toList_inj.mp h),fun h=>by rw[h]⟩
theorem Nu {α R:Type} {F:(α->Option R)->α->Option R} (I:α->Prop) (μ:α->Nat) (h:∀x rec,I x->(∀y,I y->μ y<μ x->(rec y).isSome=true)->(F rec x).isSome=true) {x:α} (hx:I x) (hn:μ x<1180591620717411303424):(lpK α R F x).isSome=true:=by
 have key:∀n x,I x->μ x<n->(ko F n x).isSome=true:=by
  intro n
  induction n with
  | zero=>intro x _ h;omega
  | succ n ih =>
   intro x hx hn
   rw[jB]
   exact h x _ hx fun y hy hlt=>ih y hy (by omega)
 exact key _ x hx hn
theorem xq (c:Int):∃b,bl c=some b:=by
 simp only[bl,kO,bC,gw,cond_true]
 cases decide (c>=97)<;>cases decide (c<=122)<;>cases decide (c>=65)<;>exact ⟨_,rfl⟩
theorem FSs (c:Int):∃b,dZ c=some b:=by
 simp only[dZ,lQ,bC,cond_true]
 exact ⟨_,rfl⟩
theorem Js {s:ByteArray} (h:s.size<=1000000):∃n,eh s=some n:=by
 rw[<-Option.isSome_iff_exists]
 simp only[eh,mW]
 refine Nu (I:=fun (x:Int×PUnit)=>0<=x.1/\x.1<=s.size) (μ:=fun (x:Int×PUnit)=>((s.size:Int) - x.1).toNat) (x:=((0:Int),aQ)) ?_ ⟨Int.le_refl _,by simp only;omega⟩ (by simp only;omega)
 rintro ⟨i,_⟩ rec ⟨h0,h1⟩ hrec
 simp only at h0 h1 ⊢
 by_cases hi:i<s.size
 ·rw[oM h0 hi,z7 hi]
  obtain ⟨b,hb⟩:=xq (gg s i.toNat)
  obtain ⟨c,hc⟩:=FSs (gg s i.toNat)
  have hw:aq .i64 (i+1)=i+1:=ap (by omega) (by omega)
  have hr:=hrec (i+1,aQ) ⟨by simp only;omega,by simp only;omega⟩ (by simp only;omega)
  simp only[hb,hc,hw]
  cases b<;>cases c<;>cases decide (gg s i.toNat=95)<;>simp[af,hr]
 ·rw[z8 hi]
  simp[af]
def lF (s:ByteArray):Bool:=decide (0<s.size)&&(decide (s.size<=20)&&((bl (gg s 0)).getD false&&decide ((eh s).getD 0=(s.size:Int))))
theorem Bo (s:ByteArray):s={ data:=#[] }↔s.size=0:=by
 constructor
 ·intro h;rw[h];rfl
 ·intro h
  apply ByteArray.ext
  exact Array.eq_empty_of_size_eq_zero h
theorem kN (s:ByteArray):ak s=some (lF s):=by
 simp only[ak,kA,yr,bC,g_,cond_true]
 unfold lF
 by_cases h0:s.size=0
 ·have e:decide (s={ data:=#[] })=true:=z7 ((Bo s).2 h0)
  simp[e,h0,af]
 ·have e:decide (s={ data:=#[] })=false:=z8 fun h=>h0 ((Bo s).1 h)
  by_cases h1:s.size<=20
  ·obtain ⟨b,hb⟩:=xq (gg s 0)
   obtain ⟨n,hn⟩:=Js (s:=s) (by omega)
   have h2:decide ((s.size:Int)<=20)=true:=z7 (by omega)
   rw[oM (show (0:Int)<=0 by omega) (show (0:Int)<s.size by omega)]
   simp only[e,h2,hb,hn]
   cases b<;>simp[af,h1,show 0<s.size by omega]
  ·have h2:decide ((s.size:Int)<=20)=false:=z8 (by omega)
   simp[e,h2,h1,af]
end
end Go.Proofs.YtlfdhaiigdllcaaGreat

namespace Go.Proofs.YtlfdhaiigdllcaaGreat
open Tryz Dn Dn.Sh
def ldB (b:Bea) (x:Int×Int):Bool:=decide (x.1<0)||(decide (x.1>b.2.1)||(decide (x.2<0)||decide (x.2>67108864)))
theorem Ij (x:Int×Int) (b:Bea):eJ x b=some (ldB b x):=by
 unfold eJ ni ldB
 cases decide (x.1<0)<;>cases decide (x.1>b.2.1)<;>cases decide (x.2<0)<;>rfl
theorem Wx {f:((Int×Int)×Unit)->Option Bool} {p:Int×Int->Bool} {l:List (Int×Int)} (hl:l.length<=1000000) (h:∀a,a ∈ l->f (a,())=some (p a)):av l f=some (l.any p):=by
 unfold av eD
 have e:bm l f=some (mu p l 0):=by
  unfold bm fA
  exact jz (f:=f) (d:=(0,0)) hl h
 rw[e,af]
 congr 1
 cases hh:l.any p with
 | false =>
  refine z8 ?_
  have:=(sU (l:=l) (p:=p) (i:=0) (by omega)).2 (fun a ha=>by
   have:=List.any_eq_false.1 hh a ha
   simpa using this)
  omega
 | true =>
  refine z7 ?_
  by_cases c:mu p l 0<0
  ·have:=(sU (l:=l) (p:=p) (i:=0) (by omega)).1 c
   obtain ⟨a,ha,hp⟩:=List.any_eq_true.1 hh
   rw[this a ha] at hp
   cases hp
  ·omega
def R0 (b:Bea) (o:Option Bool):Prop:=∃v,o=some v/\(v=true->OkB b)
theorem jQ {b:Bea} {o:Option Bool} (h:o=some false):R0 b o:=⟨false,h,fun h=>Bool.noConfusion h⟩
theorem Kq (b:Bea):R0 b (gG b):=by
 have t1:∀x:Bool,(!x||x)=true:=fun x=>by cases x<;>rfl
 have t2:∀x:Bool,(x||!x)=true:=fun x=>by cases x<;>rfl
 unfold gG qV
 rw[kN]
 simp only[af,Bool.not_not,t1,t2,g_,cT]
 cases lF b.1 with
 | false=>exact jQ (by simp only[iF,cT])
 | true =>
 simp only[bX,cF]
 by_cases c1:b.2.1<1
 ·exact jQ (by simp only[z7 c1,cT])
 by_cases c2:b.2.1>1048576
 ·exact jQ (by simp only[z7 c2,cT,z8 c1,cF])
 by_cases c3:b.2.2.2.2<0
 ·exact jQ (by simp only[z7 c3,cT,z8 c1,z8 c2,cF])
 by_cases c4:b.2.2.2.2>1048576
 ·exact jQ (by simp only[z7 c4,cT,z8 c1,z8 c2,z8 c3,cF])
 by_cases c5:(b.2.2.1.length:Int)<1
 ·exact jQ (by simp only[z7 c5,cT,z8 c1,z8 c2,z8 c3,z8 c4,cF])
 by_cases c6:(b.2.2.1.length:Int)>10
 ·exact jQ (by simp only[z7 c6,cT,z8 c1,z8 c2,z8 c3,z8 c4,z8 c5,cF])
 by_cases c7:(b.2.2.2.1.length:Int)>40
 ·exact jQ (by simp only[z7 c7,cT,z8 c1,z8 c2,z8 c3,z8 c4,z8 c5,z8 c6,cF])
 simp only[z8 c1,z8 c2,z8 c3,z8 c4,z8 c5,z8 c6,z8 c7,cF]
 refine iZ (γ:=Nat) (α:=Int×PUnit) (R:=Bool) (fun i st=>i<=b.2.2.1.length/\st=((i:Int),aQ)/\∀j,j<i->(0<=b.2.2.1.getD j 0/\b.2.2.1.getD j 0<=b.2.1)/\(0<j->b.2.2.1.getD (j - 1) 0<b.2.2.1.getD j 0)) (R0 b) (fun i=>b.2.2.1.length - i) (fun rec i st ⟨hi,hst,hI⟩=>?_) (s:=0) ⟨Nat.zero_le _,rfl,fun j hj=>absurd hj (Nat.not_lt_zero _)⟩ (by omega)
 subst hst
 by_cases hil:i<b.2.2.1.length
 ·have hB:∀B:Bool,(!(B&&decide ((i:Int)>0))||inB (aq .i64 ((i:Int) - 1)) b.2.2.1.length)=true:=fun B=>by
   by_cases c0:i=0
   ·subst c0
    cases B<;>rfl
   ·rw[sf (by omega) (by omega),be,z7 (show i - 1<b.2.2.1.length by omega),Bool.or_true]
  have t3:∀A B:Bool,(!A||(!B||(!A||A&&B)))=true:=fun A B=>by cases A<;>cases B<;>rfl
  simp only[z7 (show (i:Int)<b.2.2.1.length by omega),be,z7 hil,cT,z9,Bool.not_not,t1,t2,g_,hB,t3,oK,Bool.or_true,gJ (show i<=100000000000 by omega)]
  by_cases d1:b.2.2.1.getD i 0<0
  ·simp only[z7 d1,cT]
   exact .inl (jQ rfl)
  by_cases d2:b.2.2.1.getD i 0>b.2.1
  ·simp only[z8 d1,cF,z7 d2,cT]
   exact .inl (jQ rfl)
  simp only[z8 d1,cF,z8 d2]
  by_cases c0:i=0
  ·subst c0
   simp only[z8 (show ¬ ((0:Nat):Int)>0 by decide),cF]
   exact .inr ⟨0+1,_,⟨hil,rfl,fun j hj=>⟨by rw[show j=0 by omega];omega,fun h=>by omega⟩⟩,by omega,rfl⟩
  ·simp only[z7 (show (i:Int)>0 by omega),cT,sf (show 1<=i by omega) (show i<=100000000000 by omega),z9]
   by_cases d3:b.2.2.1.getD i 0<=b.2.2.1.getD (i - 1) 0
   ·rw[z7 d3,cT]
    exact .inl (jQ rfl)
   ·rw[z8 d3,cF]
    refine .inr ⟨i+1,_,⟨hil,rfl,fun j hj=>?_⟩,by omega,rfl⟩
    by_cases e:j=i
    ·subst e
     exact ⟨by omega,fun _=>by omega⟩
    ·exact hI j (by omega)
 ·have hin:i=b.2.2.1.length:=by omega
  subst hin
  rw[z8 (show ¬ ((b.2.2.1.length:Nat):Int)<b.2.2.1.length by omega),cF,Wx (p:=ldB b) (show b.2.2.2.1.length<=1000000 by omega) (fun x _=>Ij x b),af]
  refine .inl ⟨_,rfl,fun hv=>?_⟩
  have hall:∀x ∈ b.2.2.2.1,ldB b x=false:=fun x hx=>by
   have:=List.any_eq_false.1 (show b.2.2.2.1.any (ldB b)=false by simpa using hv) x hx
   simpa using this
  refine ⟨by omega,by omega,by omega,by omega,fun j hj=>(hI j hj).1,fun j hj=>?_,by omega,fun j hj=>?_⟩
  ·have:=(hI (j+1) hj).2 (by omega)
   rw[Nat.add_sub_cancel] at this
   exact this
  ·have h:=hall (b.2.2.2.1.getD j (0,0)) (by rw[ca hj];exact List.getElem_mem _)
   unfold ldB at h
   simp only[Bool.or_eq_false_iff,decide_eq_false_iff_not] at h
   omega
theorem Pf {b:Bea} (hn:2<=b.2.2.1.length):∃(l:List (Int×Int)) (e:Int),dw b=some (l,e,aQ)/\(e=0->OkB b/\l.length=b.2.2.1.length/\(∀a ∈ l,okF a)/\(sq l.length fun i=>qv (l.getD i (0,0)))=((b.2.2.2.2*b.2.1:Int):Rat) / ((1000:Int):Rat)+sL b fun x=>((x.2:Int):Rat)):=by
 obtain ⟨v,h1,h2⟩:=Kq b
 unfold dw kz gY qm
 rw[h1]
 cases v with
 | false =>
  exact ⟨[],1,rfl,fun e=>absurd e (by decide)⟩
 | true =>
  have hb:=h2 rfl
  obtain ⟨ms,m1,m2,m3⟩:=Gp hb hn
  have m4:∃m:Nat->Rat,∀i,i<b.2.2.1.length->IsE 150000 (ms.getD i e0x) (m i) :=
   ⟨fun i=>if h:i<b.2.2.1.length then Classical.choose (m3 i h) else 0,fun i hi=>by
    simp only[hi,dif_pos]
    exact Classical.choose_spec (m3 i hi)⟩
  obtain ⟨m,m5⟩:=m4
  obtain ⟨rs,r1,r2,r3⟩:=Df hb hn m2 m5
  obtain ⟨l,e,f1,f2⟩:=LV (l:=rs) (K:=700000) (q:=reQ b m) (by have:=hb.n10;omega) (by decide) (fun i hi=>r3 i (by omega))
  have hz:decide ((0:Int)=0)=true:=rfl
  simp only[af,bX,cF,m1,hz,r1,f1]
  refine ⟨l,e,rfl,fun he=>?_⟩
  obtain ⟨f3,f4,f5⟩:=f2 he
  refine ⟨hb,by omega,f4,?_⟩
  rw[show l.length=b.2.2.1.length by omega,<-QO hb hn m]
  exact ll fun i hi=>f5 i (by omega)
end Go.Proofs.YtlfdhaiigdllcaaGreat

namespace Go.Proofs.YtlfdhaiigdllcaaGreat
namespace Dn
def jG {α σ R:Type} (b:α->σ->(σ->Option R)->Option R) (f:σ->Option R):List α->σ->Option R
 | [],s=>f s
 | a ::l,s=>b a s (jG b f l)
theorem zN {α σ R:Type} (L:List α) (d:α) {b:α->σ->(σ->Option R)->Option R} {c:Nat->σ->(σ->Option R)->Option R} {f:σ->Option R} (h:∀i s k,i<L.length->c i s k=b (L.getD i d) s k) :
  ∀(k i:Nat) (s:σ),i+k=L.length->upF c f k i s=jG b f (L.drop i) s
 | 0,i,s,hi=>by
  rw[List.drop_of_length_le (by omega)]
  rfl
 | k+1,i,s,hi=>by
  rw[List.drop_eq_getElem_cons (show i<L.length by omega)]
  simp only[upF,jG]
  rw[h _ _ _ (by omega),ca (by omega)]
  congr 1
  funext s'
  exact zN L d h k (i+1) s' (by omega)
theorem H6 {α σ R:Type} (L:List α) (d:α) (hn:L.length<=1180591620717411303423) {F:(Nat×σ->Option R)->Nat×σ->Option R} (b:α->σ->(σ->Option R)->Option R) (f:σ->Option R)
  (hb:∀again (i:Nat) s,i<L.length->F again (i,s)=b (L.getD i d) s (fun s'=>again (i+1,s'))) (hf:∀again s,F again (L.length,s)=f s) (s:σ):lpK (Nat×σ) R F (0,s)=jG b f L s :=
 (kQ L.length hn (fun i s=>(i,s)) (fun i s k=>b (L.getD i d) s k) f hb hf s).trans ((zN L d (b:=b) (fun _ _ _ _=>rfl) L.length 0 s (by omega)).trans (by rw[List.drop_zero]))
theorem vv {α β σ R:Type} (L:List α) (d:α) (hn:L.length<=1180591620717411303423) {F:(β->Option R)->β->Option R} (enc:Nat->σ->β) (b:α->σ->(σ->Option R)->Option R) (f:σ->Option R)
  (hb:∀again (i:Nat) s,i<L.length->F again (enc i s)=b (L.getD i d) s (fun s'=>again (enc (i+1) s'))) (hf:∀again s,F again (enc L.length s)=f s) (s:σ):lpK β R F (enc 0 s)=jG b f L s :=
 (kQ L.length hn enc (fun i s k=>b (L.getD i d) s k) f hb hf s).trans ((zN L d (b:=b) (fun _ _ _ _=>rfl) L.length 0 s (by omega)).trans (by rw[List.drop_zero]))
theorem va {α σ R:Type} {b:α->σ->(σ->Option R)->Option R} {f:σ->Option R} (g:σ->α->σ):∀{L:List α} {s:σ},(∀a ∈ L,∀s k,b a s k=k (g s a))->jG b f L s=f (L.foldl g s)
 | [],_,_=>rfl
 | a ::L,s,h=>by
  simp only[jG,List.foldl_cons]
  rw[h a (by simp)]
  exact va g fun a' ha=>h a' (by simp[ha])
end Dn
end Go.Proofs.YtlfdhaiigdllcaaGreat

namespace Go.Proofs.YtlfdhaiigdllcaaGreat
noncomputable section
open Tryz Dn Dn.Sh
abbrev Itm:=ByteArray×Int×Int×Int×Int×Int×Int
abbrev Brk:=ByteArray×Int×Int
abbrev pB:Itm:=({ data:={ toList:=[] } },(0:Int),(0:Int),(0:Int),(0:Int),(0:Int),(0:Int))
abbrev iK:Brk:=({ data:={ toList:=[] } },(0:Int),(0:Int))
def btw (n a b:Int):Bool:=decide (a<=n)&&decide (n<=b)
theorem vS (n a b:Int):an n a b=some (btw n a b):=by
 simp only[an,kL,bC,g_,cT,qK,ge_iff_le,btw]
theorem yj {σ R:Type} {b:Nat->σ->(σ->Option R)->Option R} {f:σ->Option R} {q:Nat->Bool} {g:Nat->σ->σ} {r:Option R} (n:Nat) (hb:∀i s (k:σ->Option R),i<n->b i s k=bif q i then k (g i s) else r) :
  ∀(k i:Nat) (s:σ),i+k<=n->upF b f k i s=bif (n_ i k).all q then f ((n_ i k).foldl (fun s i=>g i s) s) else r
 | 0,i,s,_=>rfl
 | k+1,i,s,h=>by
  simp only[upF,hb i s _ (by omega),List.range'_succ,List.all_cons,List.foldl_cons]
  cases hp:q i with
  | true=>exact yj n hb k (i+1) _ (by omega)
  | false=>rfl
theorem Hr {α:Type} {p q:α->Bool} {l:List α}:(l.all fun a=>p a&&q a)=(l.all p&&l.all q):=by
 rw[pH,z10,List.all_eq_true,List.all_eq_true,List.all_eq_true]
 constructor
 ·exact fun h=>⟨fun a ha=>((z10 _ _).mp (h a ha)).1,fun a ha=>((z10 _ _).mp (h a ha)).2⟩
 ·exact fun h a ha=>(z10 _ _).mpr ⟨h.1 a ha,h.2 a ha⟩
def oY {α:Type} (p:α->α->Bool) (d:α) (l:List α) (i:Nat):Bool:=!(l.take i).any fun a=>p a (l.getD i d)
theorem vT (x:ByteArray):∀l:List ByteArray,vI .str x l=true↔x ∈ l
 | []=>by simp[vI]
 | y ::l=>by
  simp only[vI,og,Bool.or_eq_true,vT x l,List.mem_cons,decide_eq_true_iff]
def jP:List ByteArray->Bool
 | []=>true
 | x ::l=>!vI .str x l&&jP l
theorem qA:∀{l:List ByteArray},jP l=true↔l.Nodup
 | []=>by simp[jP]
 | x ::l=>by
  rw[jP,z10,qA,List.nodup_cons,<-vT,Bool.not_eq_true',Bool.not_eq_true]
theorem wE:∀(L S:List ByteArray),(L.foldl (fun s x=>nW .str x s) S).length<=S.length+L.length/\((L.foldl (fun s x=>nW .str x s) S).length=S.length+L.length↔L.Nodup/\∀x ∈ L,x ∉ S)
 | [],S=>by simp
 | x ::L,S=>by
  simp only[List.foldl_cons,gC]
  by_cases hx:x ∈ S
  ·have e:nW .str x S=S:=by unfold nW;rw[(vT x S).2 hx];rfl
   rw[e]
   obtain ⟨h1,_⟩:=wE L S
   refine ⟨by omega,fun h=>by omega,fun h=>?_⟩
   exact absurd hx (h.2 x (by simp))
  ·have e:nW .str x S=S++[x]:=by
    unfold nW
    cases hm:vI .str x S with
    | false=>rfl
    | true=>exact absurd ((vT x S).1 hm) hx
   rw[e]
   obtain ⟨h1,h2⟩:=wE L (S++[x])
   rw[dg,List.length_singleton] at h1 h2
   refine ⟨by omega,?_⟩
   rw[show S.length+(L.length+1)=S.length+1+L.length by omega,h2,List.nodup_cons]
   constructor
   ·rintro ⟨g1,g2⟩
    refine ⟨⟨fun hm=>(g2 x hm) (by simp),g1⟩,fun y hy=>?_⟩
    rcases List.mem_cons.1 hy with rfl | hy
    ·exact hx
    ·exact fun hs=>g2 y hy (by simp[hs])
   ·rintro ⟨⟨g1,g2⟩,g3⟩
    refine ⟨g2,fun y hy hm=>?_⟩
    rcases List.mem_append.1 hm with hm | hm
    ·exact g3 y (by simp[hy]) hm
    ·rw[List.mem_singleton] at hm
     subst hm
     exact g1 hy
theorem yZ {α:Type} (f:α->ByteArray) (l:List α):decide (((l.foldl (fun (s:List ByteArray) x=>nW .str (f x) s) []).length:Int)<(l.length:Int))=!jP (l.map f):=by
 have h:=wE (l.map f) []
 have e:(l.map f).foldl (fun s x=>nW .str x s) []=l.foldl (fun (s:List ByteArray) x=>nW .str (f x) s) []:=by rw[List.foldl_map]
 rw[e] at h
 generalize (l.foldl (fun (s:List ByteArray) x=>nW .str (f x) s) []).length=N at h ⊢
 simp only[List.length_map,List.length_nil,dO,List.not_mem_nil,not_false_eq_true,implies_true,and_true] at h
 cases hn:jP (l.map f) with
 | true =>
  have:=h.2.2 (qA.1 hn)
  rw[z8 (by omega)]
  rfl
 | false =>
  have h3:¬ (l.map f).Nodup:=fun hh=>by rw[qA.2 hh] at hn;cases hn
  have h4:¬ N=l.length:=fun hh=>h3 (h.2.1 hh)
  have:=h.1
  rw[z7 (by omega)]
  rfl
theorem qa {α σ:Type} {d:α} {g:σ->α->σ} {l:List α}:∀(k i:Nat) (s:σ),i+k=l.length->(n_ i k).foldl (fun s i=>g s (l.getD i d)) s=(l.drop i).foldl g s
 | 0,i,s,h=>by rw[List.drop_of_length_le (by omega)];rfl
 | k+1,i,s,h=>by
  rw[List.range'_succ,List.foldl_cons,qa k (i+1) _ (by omega),List.drop_eq_getElem_cons (show i<l.length by omega),List.foldl_cons,ca (by omega)]
theorem DL {α:Type} {d:α} {f:α->ByteArray} {l:List α}:(n_ 0 l.length).all (oY (fun a b=>decide (f a=f b)) d l)=jP (l.map f):=by
 rw[pH,qA,List.all_eq_true,List.nodup_iff_pairwise_ne,List.pairwise_iff_getElem]
 simp only[List.length_map,List.getElem_map]
 constructor
 ·intro h i j hi hj hij he
  have h1:=h j (List.mem_range'.2 ⟨j,hj,by omega⟩)
  unfold oY at h1
  rw[Bool.not_eq_true',List.any_eq_false] at h1
  have h2:=h1 l[i] (List.mem_take_iff_getElem.2 ⟨i,by omega,rfl⟩)
  rw[ca hj] at h2
  exact h2 (z7 he)
 ·intro h k hk
  obtain ⟨j,hj,rfl⟩:=List.mem_range'.1 hk
  unfold oY
  rw[Bool.not_eq_true',List.any_eq_false]
  intro a ha he
  obtain ⟨i,hi,rfl⟩:=List.mem_take_iff_getElem.1 ha
  rw[ca (by omega)] at he
  exact h i (0+1*j) (by omega) (by omega) (by omega) (z12 he)
theorem xL {α:Type} {p:α->Bool} {l:List α}:decide (mu p l 0>=0)=l.any p:=by
 have:=sU (p:=p) (l:=l) (i:=0) (by omega)
 rw[pH,decide_eq_true_iff,List.any_eq_true]
 constructor
 ·intro h1
  by_cases h2:∃a ∈ l,p a=true
  ·exact h2
  ·have:mu p l 0<0:=this.2 fun a ha=>by
    cases e:p a with
    | false=>rfl
    | true=>exact (h2 ⟨a,ha,e⟩).elim
   omega
 ·rintro ⟨a,ha,h3⟩
  by_cases h2:mu p l 0<0
  ·rw[this.1 h2 a ha] at h3;cases h3
  ·omega
def DV (len:Int) (x:Itm):Bool:=lF x.1&&(btw x.2.2.1 1 1048576&&(btw x.2.1 0 (aq .i64 (len - x.2.2.1))&&(btw x.2.2.2.1 0 1048576&&(btw x.2.2.2.2.1 0 1048576&&(btw x.2.2.2.2.2.1 0 1048576&&btw x.2.2.2.2.2.2 0 1048576)))))
def oJ (x y:Itm):Bool:=decide (aq .i64 (x.2.1+x.2.2.1)<=y.2.1)||decide (aq .i64 (y.2.1+y.2.2.1)<=x.2.1)
theorem D1 (x y:Itm):oJ x y=oJ y x:=by unfold oJ;rw[Bool.or_comm]
def vh (l:List Itm) (len:Int):Bool:=decide (l.length<=40)&&(l.all (DV len)&&(jP (l.map fun x=>x.1)&&(n_ 0 l.length).all (oY (fun a b=>!oJ a b) pB l)))
theorem pA {α:Type} {p:α->Bool} {d:α} {l:List α}:(n_ 0 l.length).all (fun i=>p (l.getD i d))=l.all p:=by
 rw[pH,List.all_eq_true,List.all_eq_true]
 constructor
 ·intro h a ha
  obtain ⟨j,hj,rfl⟩:=List.getElem_of_mem ha
  have:=h j (List.mem_range'.2 ⟨j,hj,by omega⟩)
  rw[ca hj] at this
  exact this
 ·intro h j hj
  obtain ⟨k,hk,rfl⟩:=List.mem_range'.1 hj
  rw[ca (by omega)]
  exact h _ (List.getElem_mem _)
theorem IQ (x y:Itm):eK x y=some (oJ x y):=by
 simp only[eK,mN,oJ]
 cases decide (aq .i64 (x.2.1+x.2.2.1)<=y.2.1)<;>cases decide (aq .i64 (y.2.1+y.2.2.1)<=x.2.1)<;>rfl
theorem IM (x:Itm):eP x=some (lF x.1&&(btw x.2.2.2.1 0 1048576&&(btw x.2.2.2.2.1 0 1048576&&(btw x.2.2.2.2.2.1 0 1048576&&btw x.2.2.2.2.2.2 0 1048576)))):=by
 simp only[eP,mZ,kN,vS,af,bC,cT]
 cases lF x.1<;>cases btw x.2.2.2.1 0 1048576<;>cases btw x.2.2.2.2.1 0 1048576<;>cases btw x.2.2.2.2.2.1 0 1048576<;>cases btw x.2.2.2.2.2.2 0 1048576<;>rfl
theorem F3 (x:Itm) (len:Int):dY x len=some (btw x.2.2.1 1 1048576&&btw x.2.1 0 (aq .i64 (len - x.2.2.1))):=by
 simp only[dY,lS,vS,bC,cT,g_,ge_iff_le]
 rw[show btw x.2.1 0 (aq .i64 (len - x.2.2.1))=(decide (0<=x.2.1)&&decide (x.2.1<=aq .i64 (len - x.2.2.1))) from rfl]
 cases decide (0<=x.2.1)<;>cases btw x.2.2.1 1 1048576<;>cases decide (x.2.1<=aq .i64 (len - x.2.2.1))<;>rfl
theorem JW {l:List Itm} (hl:l.length<=1000000):bV l (fun x=>dt x.1)=some (!jP (l.map fun x=>x.1)):=by
 simp only[bV,jF,dt,kM,af]
 refine (vv l pB (by omega) (fun i (s:List ByteArray)=>(((i:Nat):Int),s,aQ)) (fun x s k=>k (nW .str x.1 s)) (fun s=>some (decide ((s.length:Int)<(l.length:Int)))) ?_ ?_ []).trans ?_
 ·intro again i s hi
  have hw:aq .i64 ((i:Int)+1)=((i+1:Nat):Int):=by rw[ap (by omega) (by omega)];rfl
  simp only[be,z7 hi,z7 (show (i:Int)<l.length by omega),cT,z9,hw]
 ·intro again s
  simp only[z8 (show ¬ (l.length:Int)<l.length by omega),cF]
 ·rw[va (fun (s:List ByteArray) (x:Itm)=>nW .str x.1 s) (fun _ _ _ _=>rfl)]
  congr 1
  exact yZ (fun x:Itm=>x.1) l
theorem Je {l:List Brk} (hl:l.length<=1000000):bW l (fun x=>cV x.1)=some (!jP (l.map fun x=>x.1)):=by
 simp only[bW,jD,cV,km,af]
 refine (vv l iK (by omega) (fun i (s:List ByteArray)=>(((i:Nat):Int),s,aQ)) (fun x s k=>k (nW .str x.1 s)) (fun s=>some (decide ((s.length:Int)<(l.length:Int)))) ?_ ?_ []).trans ?_
 ·intro again i s hi
  have hw:aq .i64 ((i:Int)+1)=((i+1:Nat):Int):=by rw[ap (by omega) (by omega)];rfl
  simp only[be,z7 hi,z7 (show (i:Int)<l.length by omega),cT,z9,hw]
 ·intro again s
  simp only[z8 (show ¬ (l.length:Int)<l.length by omega),cF]
 ·rw[va (fun (s:List ByteArray) (x:Brk)=>nW .str x.1 s) (fun _ _ _ _=>rfl)]
  congr 1
  exact yZ (fun x:Brk=>x.1) l
theorem I5 {f:(Itm×Unit)->Option Bool} {p:Itm->Bool} {l:List Itm} (hl:l.length<=1000000) (h:∀a,a ∈ l->f (a,())=some (p a)):aW l f=some (l.any p):=by
 simp only[aW,gk]
 unfold bD ii
 rw[jz (f:=f) (d:=pB) hl h,af,xL]
theorem Jd {f:(Brk×Unit)->Option Bool} {p:Brk->Bool} {l:List Brk} (hl:l.length<=1000000) (h:∀a,a ∈ l->f (a,())=some (p a)):aX l f=some (l.any p):=by
 simp only[aX,gi]
 unfold bG gV
 rw[jz (f:=f) (d:=iK) hl h,af,xL]
theorem Jr (l:List Itm) (len:Int):eN l len=some (vh l len):=by
 simp only[eN,nD,vh]
 by_cases h0:l.length<=40
 ·rw[z8 (show ¬ ((l.length:Nat):Int)>40 by omega),z7 h0]
  simp only[iF,bX,Bool.or_true,cT,cF,JW (show l.length<=1000000 by omega),af,oK]
  cases hd:jP (l.map fun x=>x.1) with
  | false=>simp
  | true =>
   simp only[bX,cF,oK]
   refine (kQ (α:=Int×PUnit) l.length (by omega) (fun i (_:Unit)=>((i:Int),aQ)) (fun i s k=>bif DV len (l.getD i pB)&&oY (fun a b=>!oJ a b) pB l i then k s else some false) (fun _=>some true) ?_ ?_ ()).trans ?_
   ·intro again i _ hi
    have hw:aq .i64 ((i:Int)+1)=((i+1:Nat):Int):=by rw[ap (by omega) (by omega)];rfl
    have hs:slB (0:Int) (i:Int) l.length=true:=wG (by omega) (by omega) (by omega)
    have hc:aW (List.drop 0 (List.take i l)) (fun x=>dz x.1 (l.getD i pB))=some ((l.take i).any fun a=>!oJ a (l.getD i pB)) :=
     I5 (l:=List.drop 0 (List.take i l)) (by rw[List.drop_zero,cl];omega) fun a _=>by
      simp only[dz,kX,IQ,af]
      rw[D1]
    simp only[be,z7 hi,z7 (show (i:Int)<l.length by omega),cT,z9,hw,show a_ l i ({ data:={ toList:=[] } },(0:Int),(0:Int),(0:Int),(0:Int),(0:Int),(0:Int))=l.getD i pB from rfl,IM,F3,af,hs,hc,Bool.or_true,bC,g_]
    unfold oY DV
    generalize (l.take i).any (fun a=>!oJ a (l.getD i pB))=q
    generalize l.getD i pB=x
    cases lF x.1<;>cases btw x.2.2.1 1 1048576<;>cases btw x.2.1 0 (aq .i64 (len - x.2.2.1))<;>cases btw x.2.2.2.1 0 1048576<;>cases btw x.2.2.2.2.1 0 1048576<;>cases btw x.2.2.2.2.2.1 0 1048576<;>cases btw x.2.2.2.2.2.2 0 1048576<;>cases q<;>rfl
   ·intro again _
    simp only[z8 (show ¬ (l.length:Int)<l.length by omega),cF]
   ·rw[tK l.length (fun i k _=>rfl) l.length 0 (by omega),Hr,pA]
    cases l.all (DV len)&&(n_ 0 l.length).all (oY (fun a b=>!oJ a b) pB l)<;>rfl
 ·rw[z7 (show ((l.length:Nat):Int)>40 by omega),z8 h0]
  rfl
abbrev HS:=ByteArray×Int×Int×Int×Int×List Int×Int×Int×Int×Int×Int×List Itm×List Brk
def pb (b:Brk):Bool:=lF b.1&&(btw b.2.1 1 1048576&&btw b.2.2 0 60)
def B8 (s:Int) (b:Brk):Int:=aq .i64 (s+b.2.2)
def kf (l:List Brk):Bool:=decide (l.length<=8)&&(l.all pb&&(jP (l.map fun x=>x.1)&&decide (l.foldl B8 0<=60)))
theorem FB (l:List Brk):dX l=some (kf l):=by
 simp only[dX,lP,kf]
 by_cases h0:l.length<=8
 ·rw[z8 (show ¬ ((l.length:Nat):Int)>8 by omega),z7 h0]
  simp only[iF,bX,Bool.or_true,cT,cF,Je (show l.length<=1000000 by omega),af,oK]
  cases hd:jP (l.map fun x=>x.1) with
  | false=>simp
  | true =>
   simp only[bX,cF,oK]
   refine (kQ (α:=Int×Int×PUnit) l.length (by omega) (fun i (s:Int)=>(s,(i:Int),aQ)) (fun i s k=>bif pb (l.getD i iK) then k (B8 s (l.getD i iK)) else some false) (fun s=>some (decide (s<=60))) ?_ ?_ 0).trans ?_
   ·intro again i s hi
    have hw:aq .i64 ((i:Int)+1)=((i+1:Nat):Int):=by rw[ap (by omega) (by omega)];rfl
    simp only[be,z7 hi,z7 (show (i:Int)<l.length by omega),cT,z9,hw,show a_ l i ({ data:={ toList:=[] } },(0:Int),(0:Int))=l.getD i iK from rfl,kN,vS,af,bC]
    unfold pb B8
    generalize l.getD i iK=b
    cases lF b.1<;>cases btw b.2.1 1 1048576<;>cases btw b.2.2 0 60<;>rfl
   ·intro again s
    simp only[z8 (show ¬ (l.length:Int)<l.length by omega),cF]
   ·rw[yj (q:=fun i=>pb (l.getD i iK)) (g:=fun i s=>B8 s (l.getD i iK)) (r:=some false) l.length (fun i s k _=>rfl) l.length 0 0 (by omega),pA,qa (g:=B8) (d:=iK) l.length 0 0 (by omega),List.drop_zero]
    cases l.all pb<;>rfl
 ·rw[z7 (show ((l.length:Nat):Int)>8 by omega),z8 h0]
  rfl
def Hq (l:List Int) (len:Int) (i:Nat):Bool:=btw (l.getD i 0) 0 len&&(decide (i=0)||decide (l.getD (i - 1) 0<l.getD i 0))
def yI (l:List Int) (len:Int):Bool:=btw (l.length:Int) 2 10&&(n_ 0 l.length).all (Hq l len)
theorem NM {l:List Int} {len:Int} (h2:2<=l.length):(decide (0<=l.getD 0 0)&&(decide (l.getD (l.length - 1) 0<=len)&&(n_ 0 (l.length - 1)).all fun i=>decide (l.getD i 0<l.getD (i+1) 0)))=(n_ 0 l.length).all (Hq l len):=by
 rw[pH,z10,z10,List.all_eq_true,List.all_eq_true,decide_eq_true_iff,decide_eq_true_iff]
 constructor
 ·rintro ⟨h0,h1,h3⟩ i hi
  obtain ⟨k,hk,rfl⟩:=List.mem_range'.1 hi
  have step:∀i,i+1<l.length->l.getD i 0<l.getD (i+1) 0:=fun i hi=>z12 (h3 i (List.mem_range'.2 ⟨i,by omega,by omega⟩))
  have mono:∀d i,i+d<l.length->l.getD i 0<=l.getD (i+d) 0:=by
   intro d
   induction d with
   | zero=>intro i _;exact Int.le_refl _
   | succ d ih =>
    intro i hi
    have g1:=ih i (by omega)
    have g2:=step (i+d) (by omega)
    rw[show i+(d+1)=i+d+1 by omega]
    omega
  have g1:=mono (0+1*k) 0 (by omega)
  have g2:=mono (l.length - 1 - (0+1*k)) (0+1*k) (by omega)
  rw[dO] at g1
  rw[show 0+1*k+(l.length - 1 - (0+1*k))=l.length - 1 by omega] at g2
  unfold Hq btw
  rw[z10,z10,Bool.or_eq_true,decide_eq_true_iff,decide_eq_true_iff,decide_eq_true_iff,decide_eq_true_iff]
  refine ⟨⟨by omega,by omega⟩,?_⟩
  by_cases hz:0+1*k=0
  ·exact .inl hz
  ·right
   have:=step (0+1*k - 1) (by omega)
   rw[show 0+1*k - 1+1=0+1*k by omega] at this
   exact this
 ·intro h
  have at':∀i,i<l.length->(0<=l.getD i 0/\l.getD i 0<=len)/\(i=0\/l.getD (i - 1) 0<l.getD i 0):=fun i hi=>by
   have:=h i (List.mem_range'.2 ⟨i,hi,by omega⟩)
   unfold Hq btw at this
   rw[z10,z10,Bool.or_eq_true,decide_eq_true_iff,decide_eq_true_iff,decide_eq_true_iff,decide_eq_true_iff] at this
   exact this
  refine ⟨(at' 0 (by omega)).1.1,(at' (l.length - 1) (by omega)).1.2,fun i hi=>?_⟩
  obtain ⟨k,hk,rfl⟩:=List.mem_range'.1 hi
  have:=(at' (0+1*k+1) (by omega)).2
  rw[decide_eq_true_iff]
  rcases this with h | h
  ·omega
  ·rw[Nat.add_sub_cancel] at h
   exact h
theorem JA (l:List Int) (len:Int):eQ l len=some (yI l len):=by
 simp only[eQ,nJ,vS,af,yI]
 cases hb:btw (l.length:Int) 2 10 with
 | false=>rfl
 | true =>
  have h2:2<=l.length/\l.length<=10:=by
   unfold btw at hb
   rw[z10,decide_eq_true_iff,decide_eq_true_iff] at hb
   omega
  have hw0:aq .i64 ((l.length:Int) - 1)=((l.length - 1:Nat):Int):=by rw[ap (by omega) (by omega)];omega
  rw[<-NM h2.1]
  simp only[hw0,z9,be,oM (show (0:Int)<=0 by omega) (show (0:Int)<(l.length:Nat) by omega),z7 (show l.length - 1<l.length by omega),bX,iF,Bool.or_true,g_,oK,cT,cF,bC,gw]
  by_cases g0:l.getD 0 0<0
  ·rw[z7 g0,z8 (show ¬ 0<=l.getD 0 0 by omega)]
   rfl
  ·rw[z8 g0,z7 (show 0<=l.getD 0 0 by omega)]
   by_cases g1:l.getD (l.length - 1) 0>len
   ·rw[z7 g1,z8 (show ¬ l.getD (l.length - 1) 0<=len by omega)]
    rfl
   ·rw[z8 g1,z7 (show l.getD (l.length - 1) 0<=len by omega)]
    simp only[oK,cF]
    refine (kQ (α:=Int×PUnit) (l.length - 1) (by omega) (fun i (_:Unit)=>(((i+1:Nat):Int),aQ)) (fun i s k=>bif decide (l.getD i 0<l.getD (i+1) 0) then k s else some false) (fun _=>some true) ?_ ?_ ()).trans ?_
    ·intro again i _ hi
     have hw:aq .i64 (((i+1:Nat):Int)+1)=((i+1+1:Nat):Int):=by rw[ap (by omega) (by omega)];omega
     have hw1:aq .i64 (((i+1:Nat):Int) - 1)=((i:Nat):Int):=by rw[ap (by omega) (by omega)];omega
     simp only[hw,hw1,be,z7 (show ((i+1:Nat):Int)<l.length by omega),z7 (show i+1<l.length by omega),z7 (show i<l.length by omega),cT,z9]
     by_cases hc:l.getD i 0<l.getD (i+1) 0
     ·rw[z7 hc,z8 (show ¬ l.getD (i+1) 0<=l.getD i 0 by omega)];rfl
     ·rw[z8 hc,z7 (show l.getD (i+1) 0<=l.getD i 0 by omega)];rfl
    ·intro again _
     simp only[z8 (show ¬ ((l.length - 1+1:Nat):Int)<l.length by omega),cF]
    ·rw[tK (l.length - 1) (fun i k _=>rfl) (l.length - 1) 0 (by omega)]
     cases (n_ 0 (l.length - 1)).all fun i=>decide (l.getD i 0<l.getD (i+1) 0)<;>rfl
def nv (s:HS):Bool:=lF s.1&&(btw s.2.1 0 1048576&&(btw s.2.2.1 0 s.2.2.2.1&&(btw s.2.2.2.1 0 1048576&&(btw s.2.2.2.2.1 1000 1048576&&(decide (Int.tmod s.2.2.2.2.1 1000=0)&&(yI s.2.2.2.2.2.1 s.2.2.2.2.1 &&
 (btw s.2.2.2.2.2.2.1 0 1048576&&(btw s.2.2.2.2.2.2.2.1 0 1048576&&(btw s.2.2.2.2.2.2.2.2.1 1 2&&(btw s.2.2.2.2.2.2.2.2.2.1 1 67108864&&(btw s.2.2.2.2.2.2.2.2.2.2.1 0 67108864&&(vh s.2.2.2.2.2.2.2.2.2.2.2.1 s.2.2.2.2.1&&kf s.2.2.2.2.2.2.2.2.2.2.2.2))))))))))))
theorem BB {R:Type} {b x:Bool} {k:Bool->Option R}:(ah (bif b then some x else some false) k)=k (b&&x):=by cases b<;>rfl
theorem tN (s:HS):aJ s=some (nv s):=by
 obtain ⟨nm,dp,lo,hi,len,ls,pi,ar,pu,mo,br,l,bs⟩:=s
 simp only[aJ,nF,kN,vS,JA,Jr,FB,BB,af,bC,g_,Bool.or_true,cT,qK,nv]
 have e:(decide (0<=lo)&&(decide (lo<=hi)&&decide (hi<=1048576)))=(btw lo 0 hi&&btw hi 0 1048576):=by
  unfold btw
  by_cases h1:0<=lo<;>by_cases h2:lo<=hi<;>by_cases h3:hi<=1048576
  all_goals first | (rw[z7 h1]) | (rw[z8 h1])
  all_goals first | (rw[z7 h2]) | (rw[z8 h2])
  all_goals first | (rw[z7 h3]) | (rw[z8 h3])
  all_goals simp
  omega
 have e2:∀R:Bool,(decide (0<=lo)&&(decide (lo<=hi)&&(decide (hi<=1048576)&&R)))=(btw lo 0 hi&&(btw hi 0 1048576&&R)):=fun R=>by
  have:=congrArg (·&&R) e
  simpa only[Bool.and_assoc] using this
 rw[<-e2]
 congr 1
 generalize lF nm=b1
 generalize btw dp 0 1048576=b2
 generalize decide (0<=lo)=b3
 generalize decide (lo<=hi)=b4
 generalize decide (hi<=1048576)=b5
 generalize btw len 1000 1048576=b6
 generalize decide (Int.tmod len 1000=0)=b7
 generalize yI ls len=b8
 generalize btw pi 0 1048576=b9
 generalize btw ar 0 1048576=b10
 generalize btw pu 1 2=b11
 generalize btw mo 1 67108864=b12
 generalize btw br 0 67108864=b13
 generalize vh l len=b14
 generalize kf bs=b15
 cases b1;· rfl
 cases b2;· rfl
 cases b3;· rfl
 cases b4;· rfl
 cases b5;· rfl
 cases b6;· rfl
 cases b7;· rfl
 cases b8;· rfl
 cases b9;· rfl
 cases b10;· rfl
 cases b11;· rfl
 cases b12;· rfl
 cases b13;· rfl
 cases b14;· rfl
 cases b15<;>rfl
abbrev Bm:=ByteArray×Int×Int×Int
abbrev Ld:=Int×Int
abbrev bm0:Bm:=({ data:={ toList:=[] } },(0:Int),(0:Int),(0:Int))
def lv (l:List Bm) (i:Nat):Bm:=l.getD i bm0
def inL (n:Int):Bool:=decide (0<=n/\n<=1048576)
def inW (n:Int):Bool:=decide (0<=n/\n<=67108864)
def HR (l:List Bm) (i:Nat):Bool:=lF (lv l i).1&&(decide (0<=(lv l i).2.1/\(lv l i).2.1<=(lv l i).2.2.1/\(lv l i).2.2.1<=1048576)&&(inW (lv l i).2.2.2&&decide (mu (fun a:Bm=>decide (a.1=(lv l i).1)) (l.take i) 0<0)))
def mS (l:List Bm):Bool:=decide (l.length<=20)&&(n_ 0 l.length).all (HR l)
def sN (x:Ld):Bool:=inL x.1&&inW x.2
def mM (at_:List Ld):Bool:=decide (at_.length<=1000)&&at_.all sN
theorem BC (n:Int):bS n=some (inL n):=by
 simp only[bS,oA,bC,cT,qK,ge_iff_le,inL,Bool.decide_and]
theorem GA (s:ByteArray):fN s=some (lF s):=by
 simp only[fN,oU,kN,af]
theorem Ox {f:(Bm×Unit)->Option Bool} {p:Bm->Bool} {l:List Bm} (hl:l.length<=1000000) (h:∀a,a ∈ l->f (a,())=some (p a)):bp l f=some (mu p l 0):=by
 unfold bp ig
 exact jz (f:=f) (d:=bm0) hl h
theorem DU {f:(Bm×Unit)->Option Bool} {p:Bm->Bool} {l:List Bm} (hl:l.length<=1000000) (h:∀a,a ∈ l->f (a,())=some (p a)):aZ l f=some (!decide (mu p l 0<0)):=by
 simp only[aZ,gE,Ox hl h,af]
 congr 1
 rw[pH]
 simp
theorem AZ (l:List Bm):cA l=some (mS l):=by
 simp only[cA,qp,mS]
 by_cases h0:l.length<=20
 ·rw[z8 (show ¬ ((l.length:Nat):Int)>20 by omega),z7 h0]
  simp only[cF,oK]
  refine (kQ (α:=Int×PUnit) l.length (by omega) (fun i (_:Unit)=>((i:Int),aQ)) (fun i s k=>bif HR l i then k s else some false) (fun _=>some true) ?_ ?_ ()).trans ?_
  ·intro again i _ hi
   have hw:aq .i64 ((i:Int)+1)=((i+1:Nat):Int):=by rw[ap (by omega) (by omega)];rfl
   have hs:slB (0:Int) (i:Int) l.length=true:=wG (by omega) (by omega) (by omega)
   have hc:aZ (List.drop 0 (List.take i l)) (fun x=>eO x.1 (lv l i))=some (!decide (mu (fun a:Bm=>decide (a.1=(lv l i).1)) (l.take i) 0<0)) :=
    DU (l:=List.drop 0 (List.take i l)) (p:=fun a:Bm=>decide (a.1=(lv l i).1)) (by rw[List.drop_zero,cl];omega) fun a _=>by simp only[eO,nR,yr]
   simp only[be,z7 hi,z7 (show (i:Int)<l.length by omega),cT,z9,hw,show a_ l i bm0=lv l i from rfl,GA,BC,af,hs]
   unfold HR
   generalize lv l i=b at *
   obtain ⟨s,fr,to,mo⟩:=b
   simp only at hc ⊢
   rw[hc]
   generalize decide (mu (fun a:Bm=>decide (a.1=s)) (l.take i) 0<0)=q
   cases lF s with
   | false=>rfl
   | true =>
    by_cases g1:0<=fr/\fr<=1048576
    ·by_cases g2:0<=to/\to<=1048576
     ·by_cases g3:fr>to
      ·simp only[inL,z7 g1,z7 g2,z7 g3,z8 (show ¬ (0<=fr/\fr<=to/\to<=1048576) by omega)]
       simp[af]
      ·by_cases g4:mo<0
       ·simp only[inL,inW,z7 g1,z7 g2,z8 g3,z7 g4,z7 (show (0<=fr/\fr<=to/\to<=1048576) by omega),z8 (show ¬ (0<=mo/\mo<=67108864) by omega)]
        simp[af]
       ·by_cases g5:mo>67108864
        ·simp only[inL,inW,z7 g1,z7 g2,z8 g3,z8 g4,z7 g5,z7 (show (0<=fr/\fr<=to/\to<=1048576) by omega),z8 (show ¬ (0<=mo/\mo<=67108864) by omega)]
         simp[af]
        ·simp only[inL,inW,z7 g1,z7 g2,z8 g3,z8 g4,z8 g5,z7 (show (0<=fr/\fr<=to/\to<=1048576) by omega),z7 (show (0<=mo/\mo<=67108864) by omega)]
         cases q<;>simp[af]
     ·simp only[inL,z7 g1,z8 g2,z8 (show ¬ (0<=fr/\fr<=to/\to<=1048576) by omega)]
      simp[af]
    ·simp only[inL,z8 g1]
     by_cases g6:0<=fr/\fr<=to/\to<=1048576
     ·omega
     ·simp only[z8 g6]
      simp[af]
  ·intro again _
   simp
  ·exact tK l.length (fun i k _=>rfl) l.length 0 (by omega) |>.trans (by cases (n_ 0 l.length).all (HR l)<;>rfl)
 ·rw[z7 (show ((l.length:Nat):Int)>20 by omega),z8 h0]
  rfl
abbrev HH:=ByteArray×Int×List HS×List Bm
abbrev fX:HS:=({ data:={ toList:=[] } },(0:Int),(0:Int),(0:Int),(0:Int),[],(0:Int),(0:Int),(0:Int),(0:Int),(0:Int),[],[])
def kD (s:ByteArray):Bool:=!decide ((s.size:Int)>60)
def yu (s:HS):Bool:=kD s.1&&(!decide ((s.2.2.2.2.2.1.length:Int)>12)&&(!(decide ((s.2.2.2.2.2.2.2.2.2.2.2.1.length:Int)>8)&&decide ((s.2.2.2.2.2.2.2.2.2.2.2.1.length:Int)<=40))&&(!decide ((s.2.2.2.2.2.2.2.2.2.2.2.1.length:Int)>45) &&
 (!decide ((s.2.2.2.2.2.2.2.2.2.2.2.2.length:Int)>10)&&(s.2.2.2.2.2.2.2.2.2.2.2.1.all (fun x=>kD x.1)&&s.2.2.2.2.2.2.2.2.2.2.2.2.all (fun x=>kD x.1))))))
theorem E7 {α R:Type} {p:α->Bool} {d:α} {l:List α} {yes no:Option R} {F:(Int×PUnit->Option R)->Int×PUnit->Option R} (hl:l.length<=1000000)
  (hb:∀again (i:Nat),i<l.length->F again ((i:Int),aQ)=bif p (l.getD i d) then again (((i+1:Nat):Int),aQ) else no) (hf:∀again,F again ((l.length:Int),aQ)=yes) :
  lpK (Int×PUnit) R F ((0:Int),aQ)=bif l.all p then yes else no:=by
 refine (kQ (α:=Int×PUnit) l.length (by omega) (fun i (_:Unit)=>((i:Int),aQ)) (fun i s k=>bif p (l.getD i d) then k s else no) (fun _=>yes) ?_ ?_ ()).trans ?_
 ·intro again i _ hi
  exact hb again i hi
 ·intro again _
  exact hf again
 ·rw[tK l.length (fun i k _=>rfl) l.length 0 (by omega),pA]
theorem FW (s:HS):fS s 8=some (yu s):=by
 obtain ⟨nm,dp,lo,hi,len,ls,pi,ar,pu,mo,br,l,bs⟩:=s
 simp only[fS,oG,yu]
 have h1:kD nm=!decide ((nm.size:Int)>60):=rfl
 rw[h1]
 generalize decide ((nm.size:Int)>60)=b1
 generalize decide ((ls.length:Int)>12)=b2
 generalize decide ((l.length:Int)>8)=b3
 generalize decide ((l.length:Int)<=40)=b4
 generalize hb5:decide ((l.length:Int)>45)=b5
 generalize hb6:decide ((bs.length:Int)>10)=b6
 cases b1;case true=>rfl
 cases b2;case true=>rfl
 have key:∀b:Bool,b5=false->b6=false->lpK (Int×PUnit) Bool (fun (again:Int×PUnit->Option Bool) (x:Int×PUnit)=>bif decide (x.1<(↑(aC l):Int)) then bif inB x.1 (aC l) then bif decide ((↑(ByteArray.size (a_ l (aS x.1) pB).1):Int)>(60:Int)) then some false else again (aq .i64 (x.1+(1:Int)),aQ) else none else
   lpK (Int×PUnit) Bool (fun (again:Int×PUnit->Option Bool) (x:Int×PUnit)=>bif decide (x.1<(↑(aC bs):Int)) then bif inB x.1 (aC bs) then bif decide ((↑(ByteArray.size (a_ bs (aS x.1) iK).1):Int)>(60:Int)) then some false else again (aq .i64 (x.1+(1:Int)),aQ) else none else some true) ((0:Int),aQ)) ((0:Int),aQ)
   = some (l.all (fun x=>kD x.1)&&bs.all (fun x=>kD x.1)):=fun _ h5 h6=>by
  subst h5;subst h6
  have g5:¬ (l.length:Int)>45:=of_decide_eq_false hb5
  have g6:¬ (bs.length:Int)>10:=of_decide_eq_false hb6
  refine (E7 (p:=fun x:Itm=>kD x.1) (d:=pB) (l:=l) (no:=some false) (yes:=some (bs.all fun x=>kD x.1)) (by omega) ?_ ?_).trans ?_
  ·intro again i hi
   have hw:aq .i64 ((i:Int)+1)=((i+1:Nat):Int):=by rw[ap (by omega) (by omega)];rfl
   simp only[be,z7 hi,z7 (show (i:Int)<l.length by omega),cT,z9,hw]
   unfold kD
   cases decide ((((l.getD i pB).1.size:Nat):Int)>60)<;>rfl
  ·intro again
   simp only[z8 (show ¬ (l.length:Int)<l.length by omega),cF]
   refine (E7 (p:=fun x:Brk=>kD x.1) (d:=iK) (l:=bs) (no:=some false) (yes:=some true) (by omega) ?_ ?_).trans ?_
   ·intro again i hi
    have hw:aq .i64 ((i:Int)+1)=((i+1:Nat):Int):=by rw[ap (by omega) (by omega)];rfl
    simp only[be,z7 hi,z7 (show (i:Int)<bs.length by omega),cT,z9,hw]
    unfold kD
    cases decide ((((bs.getD i iK).1.size:Nat):Int)>60)<;>rfl
   ·intro again
    simp only[z8 (show ¬ (bs.length:Int)<bs.length by omega),cF]
   ·cases bs.all (fun x=>kD x.1)<;>rfl
  ·cases l.all (fun x=>kD x.1)<;>rfl
 cases b3 with
 | false =>
  cases b5;case true=>rfl
  cases b6;case true=>rfl
  simp only[bX,iF,Bool.or_true,Bool.or_false,g_,oK,Bool.false_and,Bool.and_false,cT,cF]
  exact key true rfl rfl
 | true =>
  cases b4;case true=>rfl
  cases b5;case true=>rfl
  cases b6;case true=>rfl
  simp only[bX,iF,Bool.or_true,g_,oK,Bool.and_false,cT,cF]
  exact key true rfl rfl
def Ee (h:HH) (n:ByteArray):Int:=mu (fun s:HS=>decide (s.1=n)) h.2.2.1 0
theorem Pk (h:HH) (n:ByteArray) (hl:h.2.2.1.length<=1000000):gF h n=some (Ee h n):=by
 simp only[gF,qX,fB,nB,yr]
 unfold bJ iw
 exact congrArg (fun m:Option Int=>ah m fun t=>some t) (jz (f:=fun x:HS×Unit=>some (decide (x.1.1=n))) (p:=fun s:HS=>decide (s.1=n)) (d:=fX) hl (fun a _=>rfl))
def oa (h:HH):Bool:=lF h.1&&(!decide (h.2.1<1)&&(!decide (h.2.1>1048576)&&(!decide ((h.2.2.1.length:Int)>60)&&(mS h.2.2.2&&(n_ 0 h.2.2.1.length).all fun i=>nv (h.2.2.1.getD i fX)&&(!decide ((h.2.2.1.getD i fX).2.2.2.1>h.2.1)&&decide (Ee h (h.2.2.1.getD i fX).1=(i:Int)))))))
theorem BP (h:HH):cb h=some (oa h):=by
 obtain ⟨nm,ht,ss,rs⟩:=h
 simp only[cb,oH,kN,AZ,tN,BB,af,oa]
 generalize lF nm=b1
 generalize decide (ht<1)=b2
 generalize decide (ht>1048576)=b3
 generalize hb4:decide ((ss.length:Int)>60)=b4
 generalize mS rs=b5
 cases b1;· rfl
 cases b2;case true=>rfl
 cases b3;case true=>rfl
 cases b4;case true=>rfl
 cases b5;· rfl
 have g4:¬ (ss.length:Int)>60:=of_decide_eq_false hb4
 have hfind:=fun n=>Pk (nm,ht,ss,rs) n (by simp only;omega)
 simp only[bX,iF,Bool.or_true,g_,oK,cT,cF]
 refine (kQ (α:=Int×PUnit) ss.length (by omega) (fun i (_:Unit)=>((i:Int),aQ)) (fun i s k=>bif nv (ss.getD i fX)&&(!decide ((ss.getD i fX).2.2.2.1>ht)&&decide (Ee (nm,ht,ss,rs) (ss.getD i fX).1=(i:Int))) then k s else some false) (fun _=>some true) ?_ ?_ ()).trans ?_
 ·intro again i _ hi
  have hw:aq .i64 ((i:Int)+1)=((i+1:Nat):Int):=by rw[ap (by omega) (by omega)];rfl
  simp only[be,z7 hi,z7 (show (i:Int)<ss.length by omega),cT,z9,hw,hfind,show a_ ss i ({ data:={ toList:=[] } },(0:Int),(0:Int),(0:Int),(0:Int),[],(0:Int),(0:Int),(0:Int),(0:Int),(0:Int),[],[])=ss.getD i fX from rfl]
  generalize hf:decide (Ee (nm,ht,ss,rs) (ss.getD i fX).1=(i:Int))=b6
  cases nv (ss.getD i fX) with
  | false=>rfl
  | true =>
   cases decide ((ss.getD i fX).2.2.2.1>ht) with
   | true=>rfl
   | false =>
    simp only[bX,iF,Bool.or_true,oK,cT,cF,af,hf]
    cases b6<;>rfl
 ·intro again _
  simp only[z8 (show ¬ (ss.length:Int)<ss.length by omega),cF]
 ·rw[tK ss.length (fun i k _=>rfl) ss.length 0 (by omega)]
  cases (n_ 0 ss.length).all fun i=>nv (ss.getD i fX)&&(!decide ((ss.getD i fX).2.2.2.1>ht)&&decide (Ee (nm,ht,ss,rs) (ss.getD i fX).1=(i:Int)))<;>rfl
end
end Go.Proofs.YtlfdhaiigdllcaaGreat

namespace Go.Proofs.YtlfdhaiigdllcaaGreat
open Tryz Dn Dn.Sh
theorem CY {α R:Type} {f:List α->Option R} {g:Nat->α} {c:Nat->Bool} {r:Option R} {n w:Nat} (hn:n<=1000000) (hw:w<=1000) {b:Nat->List α->(List α->Option R)->Option R}
  (hb:∀i s k,i<n->b i s k=bif c i then r else bif fz (s.length+1) w then k (s++[g i]) else none):∀(k i:Nat) (s:List α),i+k<=n->s.length<=i->upF b f k i s=bif (n_ i k).any c then r else f (s++(n_ i k).map g)
 | 0,i,s,_,_=>by simp[upF]
 | k+1,i,s,h,hs=>by
  simp only[upF,hb i s _ (by omega),List.range'_succ,List.any_cons,List.map_cons]
  cases hc:c i with
  | true=>rfl
  | false =>
   have:(s.length+1)*w<=1000001*1000:=Nat.mul_le_mul (by omega) hw
   rw[iH (by omega),cT,cF,CY hn hw hb k (i+1) (s++[g i]) (by omega) (by rw[dg,List.length_singleton];omega),Bool.false_or,lT]
   rfl
theorem AG {α σ R:Type} {d:α} {l:List α} {f:σ->Option R} {g:σ->α->σ} {b:Nat->σ->(σ->Option R)->Option R} (hb:∀i s k,i<l.length->b i s k=k (g s (l.getD i d))) (s:σ):upF b f l.length 0 s=f (l.foldl g s):=by
 rw[yj (q:=fun _=>true) (g:=fun i s=>g s (l.getD i d)) (r:=none) l.length (fun i s k h=>hb i s k h) l.length 0 s (by omega),qa (g:=g) (d:=d) l.length 0 s (by omega),List.drop_zero]
 rw[show (n_ 0 l.length).all (fun _=>true)=true from List.all_eq_true.2 fun _ _=>rfl,cT]
def uz (s:HS):Int:=aq .i64 (s.2.2.2.2.2.2.1*aq .i64 (Int.tdiv s.2.2.2.2.1 1000))
def NL (a:Int) (x:Itm):Int:=aq .i64 (a+x.2.2.2.1)
def cO (s:HS):Int:=s.2.2.2.2.2.2.2.2.2.2.2.1.foldl NL (uz s)
theorem NR (s:HS):fH s=some (uz s):=by simp only[fH,oB,uz]
theorem zx (s:HS) (hl:s.2.2.2.2.2.2.2.2.2.2.2.1.length<=1000000):ef s=some (cO s):=by
 obtain ⟨nm,dp,lo,hi,len,ls,pi,ar,pu,mo,br,l,bs⟩:=s
 simp only at hl
 simp only[ef,lU,NR,af,cO]
 generalize uz (nm,dp,lo,hi,len,ls,pi,ar,pu,mo,br,l,bs)=a0
 refine (kQ (α:=Int×Int×PUnit) l.length (by omega) (fun i (s:Int)=>(s,(i:Int),aQ)) (fun i s k=>k (NL s (l.getD i pB))) (fun s=>some s) ?_ ?_ _).trans ?_
 ·intro again i s hi
  have hw:aq .i64 ((i:Int)+1)=((i+1:Nat):Int):=by rw[ap (by omega) (by omega)];rfl
  simp only[be,z7 hi,z7 (show (i:Int)<l.length by omega),cT,z9,hw]
  rfl
 ·intro again s
  simp only[z8 (show ¬ (l.length:Int)<l.length by omega),cF]
 ·exact AG (g:=NL) (d:=pB) (fun _ _ _ _=>rfl) _
def te (a:Int) (b:Brk):Int:=aq .i64 (a+aq .i64 (b.2.1*b.2.2))
def GF (l:List Brk):Int:=l.foldl te 0
def zw (l:List Brk):List Int:=l.map fun b=>b.2.2
theorem O5 (l:List Brk) (i:Nat) (h:i<l.length):(zw l).getD i 0=(l.getD i iK).2.2:=by
 rw[ca (by unfold zw;rw[List.length_map];exact h),ca h]
 unfold zw
 rw[List.getElem_map]
theorem BO {α β:Type} {d:α} {g:α->β} {l:List α}:(n_ 0 l.length).map (fun i=>g (l.getD i d))=l.map g:=by
 apply List.ext_getElem
 ·simp
 ·intro i h1 h2
  simp only[List.length_map,List.length_range'] at h1
  rw[List.getElem_map,List.getElem_map,List.getElem_range',Nat.one_mul,dO,ca h1]
theorem AD (l:List Brk):fP l=some (kf l):=by
 simp only[fP,pc,kf]
 by_cases h0:l.length<=8
 ·rw[z8 (show ¬ ((l.length:Nat):Int)>8 by omega),z7 h0]
  simp only[cF,oK]
  refine (kQ (α:=Int×Int×PUnit) l.length (by omega) (fun i (s:Int)=>(s,(i:Int),aQ)) (fun i s k=>bif pb (l.getD i iK)&&oY (fun a b=>decide (a.1=b.1)) iK l i then k (B8 s (l.getD i iK)) else some false) (fun s=>some (decide (s<=60))) ?_ ?_ 0).trans ?_
  ·intro again i s hi
   have hw:aq .i64 ((i:Int)+1)=((i+1:Nat):Int):=by rw[ap (by omega) (by omega)];rfl
   have hs:slB (0:Int) (i:Int) l.length=true:=wG (by omega) (by omega) (by omega)
   have hc:aX (List.drop 0 (List.take i l)) (fun x=>dV x.1 (l.getD i iK))=some ((l.take i).any fun a=>decide (a.1=(l.getD i iK).1)) :=
    Jd (l:=List.drop 0 (List.take i l)) (by rw[List.drop_zero,cl];omega) fun a _=>by
     simp only[dV,lO,yr]
   simp only[be,z7 hi,z7 (show (i:Int)<l.length by omega),cT,z9,hw,show a_ l i ({ data:={ toList:=[] } },(0:Int),(0:Int))=l.getD i iK from rfl,kN,af,hs,hc]
   unfold oY pb btw B8
   generalize (l.take i).any (fun a=>decide (a.1=(l.getD i iK).1))=q
   generalize l.getD i iK=b
   cases lF b.1 with
   | false=>rfl
   | true =>
    by_cases g1:b.2.1<1
    ·rw[z7 g1,z8 (show ¬ 1<=b.2.1 by omega)];rfl
    ·rw[z8 g1,z7 (show 1<=b.2.1 by omega)]
     by_cases g2:b.2.1>1048576
     ·rw[z7 g2,z8 (show ¬ b.2.1<=1048576 by omega)];rfl
     ·rw[z8 g2,z7 (show b.2.1<=1048576 by omega)]
      by_cases g3:b.2.2<0
      ·rw[z7 g3,z8 (show ¬ 0<=b.2.2 by omega)];rfl
      ·rw[z8 g3,z7 (show 0<=b.2.2 by omega)]
       by_cases g4:b.2.2>60
       ·rw[z7 g4,z8 (show ¬ b.2.2<=60 by omega)];rfl
       ·rw[z8 g4,z7 (show b.2.2<=60 by omega)]
        cases q<;>rfl
  ·intro again s
   simp only[z8 (show ¬ (l.length:Int)<l.length by omega),cF]
  ·rw[yj (q:=fun i=>pb (l.getD i iK)&&oY (fun a b=>decide (a.1=b.1)) iK l i) (g:=fun i s=>B8 s (l.getD i iK)) (r:=some false) l.length (fun i s k _=>rfl) l.length 0 0 (by omega),Hr,pA,DL (f:=fun x:Brk=>x.1),qa (g:=B8) (d:=iK) l.length 0 0 (by omega),List.drop_zero]
   cases l.all pb<;>cases jP (l.map fun x=>x.1)<;>rfl
 ·rw[z7 (show ((l.length:Nat):Int)>8 by omega),z8 h0]
  rfl
theorem kI {l:List Brk} (h:kf l=true):l.length<=8/\∀b ∈ l,1<=b.2.1/\b.2.1<=1048576/\0<=b.2.2/\b.2.2<=60:=by
 unfold kf at h
 rw[z10,z10,decide_eq_true_iff,List.all_eq_true] at h
 refine ⟨h.1,fun b hb=>?_⟩
 have:=h.2.1 b hb
 unfold pb btw at this
 simp only[z10,decide_eq_true_iff] at this
 omega
theorem zL {l:List Brk} (h:kf l=true):dh l (zw l)=some (GF l,0,()):=by
 have hc:(zw l).length=l.length:=by unfold zw;rw[List.length_map]
 obtain ⟨h1,h2⟩:=kI h
 simp only[dh,nu,AD,h,af,hc,decide_true,bX,cF]
 refine (kQ (α:=Int×Int×PUnit) l.length (by omega) (fun i (s:Int)=>(s,(i:Int),aQ)) (fun i s k=>k (te s (l.getD i iK))) (fun s=>some (s,0,())) ?_ ?_ 0).trans ?_
 ·intro again i s hi
  have hw:aq .i64 ((i:Int)+1)=((i+1:Nat):Int):=by rw[ap (by omega) (by omega)];rfl
  have hm:=h2 (l.getD i iK) (by rw[ca hi];exact List.getElem_mem _)
  simp only[be,z7 hi,z7 (show (i:Int)<l.length by omega),cT,z9,hw,O5 l i hi,show a_ l i ({ data:={ toList:=[] } },(0:Int),(0:Int))=l.getD i iK from rfl,z8 (show ¬ (l.getD i iK).2.2<0 by omega),z8 (show ¬ (l.getD i iK).2.2>(l.getD i iK).2.2 by omega)]
  simp only[bX,iF,Bool.or_true,g_,cT,cF]
  unfold te
  rw[Int.mul_comm]
 ·intro again s
  simp only[z8 (show ¬ (l.length:Int)<l.length by omega),cF]
 ·exact AG (g:=te) (d:=iK) (fun _ _ _ _=>rfl) _
def isB (d:Int) (b:Bm):Bool:=decide (b.2.1<=d)&&decide (d<=b.2.2.1)
def iP (l:List Bm) (d:Int):Nat:=(l.filter (isB d)).length
theorem xI (d:Int) (b:Bm) (r:List Bm) (i:Int):kw d (b ::r) i=bif isB d b then (i,()) ::kw d r (i+1) else kw d r (i+1):=rfl
theorem wI (d:Int):∀(r:List Bm) (i:Int),(kw d r i).length=iP r d
 | [],_=>rfl
 | b ::r,i=>by
  rw[xI]
  unfold iP
  rw[List.filter_cons]
  cases isB d b with
  | true=>simp only[cond_true,gC,if_true];rw[wI d r (i+1)];rfl
  | false=>simp only[cond_false,ld,if_false];rw[wI d r (i+1)];rfl
theorem tP (l:List Bm) (d:Int):(jp l d).length=iP l d:=wI d l 0
theorem yg (l:List Bm) (d:Int):iP l d<=l.length:=List.length_filter_le _ _
theorem yM {σ R:Type} {d:Int} {l:List Bm} {b:Int×Unit->σ->(σ->Option R)->Option R} {c:Nat->Bm->σ->(σ->Option R)->Option R} {f:σ->Option R} (h:∀i s k,i<l.length->b ((i:Int),()) s k=c i (lv l i) s k) :
  ∀(n k:Nat) (s:σ),k+n=l.length->jG b f (kw d (l.drop k) k) s=upF (fun i s k=>bif isB d (lv l i) then c i (lv l i) s k else k s) f n k s
 | 0,k,s,hk=>by
  rw[List.drop_of_length_le (by omega)]
  rfl
 | n+1,k,s,hk=>by
  have hk':k<l.length:=by omega
  rw[List.drop_eq_getElem_cons hk',xI]
  have e:l[k]=lv l k:=(ca hk').symm
  rw[e]
  simp only[upF]
  have ih:=fun s'=>yM (d:=d) (f:=f) h n (k+1) s' (by omega)
  cases isB d (lv l k) with
  | false=>rw[cond_false,cond_false];exact ih s
  | true =>
   rw[cond_true,cond_true]
   simp only[jG]
   rw[h k s _ hk']
   congr 1
   funext s'
   exact ih s'
theorem E6 {l:List Bm} (h:l.length<=1000000):HE l=true:=ff (by omega)
theorem Dh {l:List Bm} (h:l.length<=1000000) (d:Int):cj l d=some (iP l d:Int):=by
 simp only[cj,jA]
 rw[E6 h,cT]
 have hle:=yg l d
 refine (H6 (jp l d) ((0:Int),()) (by rw[tP];omega) (fun (_:Int×Unit) (s:Int×PUnit) k=>k (aq .i64 (s.1+1),aQ)) (fun s=>some s.1) ?_ ?_ ((0:Int),aQ)).trans ?_
 ·intro again i s hi
  rw[show eS (iD i) (jp l d).length=true from ff (by omega),cT]
 ·intro again s
  rw[show eS (iD (jp l d).length) (jp l d).length=false by rw[Bool.eq_false_iff];intro e;have:=Nat.le_of_ble_eq_true e;omega,cF]
 ·have key:∀(L:List (Int×Unit)) (n:Nat),n+L.length<=1000000->jG (fun (_:Int×Unit) (s:Int×PUnit) (k:Int×PUnit->Option Int)=>k (aq .i64 (s.1+1),aQ)) (fun s=>some s.1) L ((n:Int),aQ)=some ((n+L.length:Nat):Int):=by
   intro L
   induction L with
   | nil=>intro n _;rfl
   | cons a L ih =>
    intro n hn
    simp only[gC] at hn
    simp only[jG]
    rw[ap (by omega) (by omega)]
    have:=ih (n+1) (by omega)
    rw[show ((n+1:Nat):Int)=(n:Int)+1 by omega] at this
    rw[this]
    congr 1
    simp only[gC]
    omega
  rw[<-tP]
  have:=key (jp l d) 0 (by rw[tP];omega)
  rw[dO] at this
  exact this
theorem aU {x:Int} (h1:0<=x) (h2:x<18446744073709551616):aq .u64 x=x:=by
 rw[fD];omega
theorem qO {x:Int} (h1: -9223372036854775808<=x) (h2:x<9223372036854775808):aH x=some (x.natAbs:Int):=by
 simp only[aH,qg]
 by_cases h:x<0
 ·simp only[h,decide_true,cond_true]
  rw[fD,fD]
  congr 1;omega
 ·simp only[h,decide_false,cond_false]
  rw[aU (by omega) (by omega)]
  congr 1;omega
theorem wv (m n:Nat) (hn:n<18446744073709551616):bj (m:Int) (n:Int)=some ((bT m n:Nat):Int):=by
 simp only[bj,sw]
 refine jj (g:=fun x=>some ((bT x.1.toNat x.2.1.toNat:Nat):Int)) (I:=fun (x:Int×Int×PUnit)=>0<=x.1/\0<=x.2.1) (μ:=fun (x:Int×Int×PUnit)=>x.2.1.toNat) (x:=((m:Int),(n:Int),aQ)) ?_ ⟨Int.natCast_nonneg _,Int.natCast_nonneg _⟩ (by simp only;omega)
 rintro ⟨a,b,_⟩ rec ⟨h1,h2⟩ hrec
 simp only at h1 h2 ⊢
 by_cases hb:b=0
 ·subst hb
  simp only[decide_true,bX,cond_false,Int.toNat_zero,Nat.gcd_zero_right]
  congr 1;omega
 ·rw[z8 hb,oD hb,Int.tmod_eq_emod_of_nonneg h1]
  simp only[iF,cT]
  have h3:0<=a % b:=Int.emod_nonneg _ hb
  have h4:a % b<b:=Int.emod_lt_of_pos _ (by omega)
  rw[hrec _ ⟨by simp only;omega,by simp only;omega⟩ (by simp only;omega)]
  simp only
  congr 2
  rw[Int.toNat_emod h1 h2,Nat.gcd_comm a.toNat,Nat.gcd_rec b.toNat a.toNat,Nat.gcd_comm]
theorem wS (s:Bool) (n d:Nat) (h1:n<18446744073709551616) (h2:d<18446744073709551616) :
  aY s (n:Int) (d:Int)=some (if n<=1152921504606846976/\d<=1152921504606846976 then ((sgn s n,(d:Int)),0,()) else ((0,0),5,())):=by
 simp only[aY,nc,bC,gw,cond_true]
 by_cases hn:n<=1152921504606846976
 ·by_cases hd:d<=1152921504606846976
  ·have e1:decide ((n:Int)>1152921504606846976)=false:=z8 (by omega)
   have e2:decide ((d:Int)>1152921504606846976)=false:=z8 (by omega)
   rw[ap (x:=(n:Int)) (by omega) (by omega),ap (x:=(d:Int)) (by omega) (by omega),ap (x:=0 - (n:Int)) (by omega) (by omega)]
   simp only[e1,e2,cond_false,hn,hd,and_self,if_true]
   cases s<;>simp[sgn]
  ·have e2:decide ((d:Int)>1152921504606846976)=true:=z7 (by omega)
   simp only[e2,IX,Bool.or_true,cond_true,hd,and_false,if_false]
 ·have e1:decide ((n:Int)>1152921504606846976)=true:=z7 (by omega)
  simp only[e1,cond_true,hn,false_and,if_false]
def MO (n d:Int):Rat:=mkRat (sgn (decide (n<0) !=decide (d<0)) n.natAbs) d.natAbs
theorem kn (m n:Nat):Int.tdiv (m:Int) (n:Int)=((m / n:Nat):Int):=by
 rw[Int.tdiv_eq_ediv_of_nonneg (by omega)]
 rfl
theorem Pb {n d:Int} (h1: -9223372036854775808<=n) (h2:n<9223372036854775808) (h3: -9223372036854775808<=d) (h4:d<9223372036854775808) :
  cC n d=some (if d=0 then ((0,0),16,()) else uZ (MO n d)):=by
 simp only[cC,qx,bC,g_,cond_true]
 by_cases hd:d=0
 ·simp only[hd,decide_true,cond_true,if_true]
 ·simp only[hd,decide_false,cond_false,if_false]
  rw[qO h1 h2,af,qO h3 h4,af,wv _ _ (by omega),af]
  have hg:0<bT n.natAbs d.natAbs:=Nat.gcd_pos_of_pos_right _ (by omega)
  have a1:n.natAbs / bT n.natAbs d.natAbs<=n.natAbs:=j_ _ _
  have a2:d.natAbs / bT n.natAbs d.natAbs<=d.natAbs:=j_ _ _
  have hz:nzB ((bT n.natAbs d.natAbs:Nat):Int)=true:=oD (by omega)
  obtain ⟨m1,m2,m3⟩:=yq (s:=decide (n<0) !=decide (d<0)) (n:=n.natAbs) (d:=d.natAbs) (by omega)
  have hs:n=0->n.natAbs / bT n.natAbs d.natAbs=0:=fun h=>by subst h;simp
  rw[hz,cond_true,cond_true,kn,kn]
  unfold MO
  rw[m1]
  generalize n.natAbs / bT n.natAbs d.natAbs=p at *
  generalize d.natAbs / bT n.natAbs d.natAbs=q at *
  rw[aU (by omega) (by omega),aU (by omega) (by omega),wS _ _ _ (by omega) (by omega),af,vr m2 m3]
  have hs:sgn (bif !decide (n=0) then !decide (decide (n<0)=decide (d<0)) else false) p=sgn (decide (n<0) !=decide (d<0)) p:=by
   by_cases h0:n=0
   ·rw[hs h0]
    exact EG _ _
   ·simp only[h0,decide_false,iF,cond_true]
    cases decide (n<0)<;>cases decide (d<0)<;>rfl
  rw[hs]
theorem zV {a:Fq}:ax a=some (decide (okF a)):=by
 simp only[ax,oS,bC,g_,cond_true,qK]
 unfold okF
 by_cases h1:1<=a.2
 ·by_cases h2:a.2<=1152921504606846976
  ·by_cases h3: -1152921504606846976<=a.1
   ·by_cases h4:a.1<=1152921504606846976
    ·have e:aq .u64 a.2=((a.2.natAbs:Nat):Int):=by rw[aU (by omega) (by omega)];omega
     simp only[ge_iff_le,h1,h2,h3,h4,decide_true,g_,cond_true]
     rw[qO (by omega) (by omega),af,e,wv _ _ (by omega),af]
     congr 1
     rw[pH]
     simp only[oK,decide_eq_true_eq,true_and]
     generalize bT a.1.natAbs a.2.natAbs=g
     omega
    ·simp[af,h4]
   ·simp[af,h3]
  ·simp[af,h2]
 ·simp[af,h1]
theorem sd {x:Int} (h1:0<=x) (h2:x<18446744073709551616):((Nat.land (aS (x % bY 18446744073709551616)) (aS ((4294967295:Int) % bY 18446744073709551616)):Nat):Int)=x % 4294967296:=by
 have e1:x % bY 18446744073709551616=x:=Int.emod_eq_of_lt h1 h2
 have e2:aS ((4294967295:Int) % bY 18446744073709551616)=2 ^ 32 - 1:=by decide
 rw[e1,e2]
 have:Nat.land x.toNat (2 ^ 32 - 1)=x.toNat % 2 ^ 32:=Nat.and_two_pow_sub_one_eq_mod x.toNat 32
 rw[this]
 omega
def hl (n:Nat):Int×Int:=(((n / 18446744073709551616:Nat):Int),((n % 18446744073709551616:Nat):Int))
theorem VT {x y:Int} (x0:0<=x) (x1:x<18446744073709551616) (y0:0<=y) (y1:y<18446744073709551616):bz x y=some (x*y / 18446744073709551616,x*y % 18446744073709551616,()):=by
 have p32:(2:Int) ^ (32:Nat)=4294967296:=by decide
 simp only[bz,pZ,p32,show decide ((0:Int)<=32)=true from rfl,cond_true]
 obtain ⟨a,b,ha,hb,hx⟩:∃a b,a=x / 4294967296/\b=x % 4294967296/\x=a*4294967296+b:=⟨_,_,rfl,rfl,by omega⟩
 obtain ⟨c,d,hc,hd,hy⟩:∃c d,c=y / 4294967296/\d=y % 4294967296/\y=c*4294967296+d:=⟨_,_,rfl,rfl,by omega⟩
 have fd:∀n:Int,l_ n 4294967296=n / 4294967296:=fun n=>Int.fdiv_eq_ediv_of_nonneg n (by omega)
 rw[sd x0 x1,sd y0 y1,<-hb,<-hd]
 simp only[fd,<-ha,<-hc]
 have a0:0<=a/\a<=4294967295:=by omega
 have b0:0<=b/\b<=4294967295:=by omega
 have c0:0<=c/\c<=4294967295:=by omega
 have d0:0<=d/\d<=4294967295:=by omega
 have mb:∀{m n:Int},0<=m/\m<=4294967295->0<=n/\n<=4294967295->0<=m*n/\m*n<=18446744065119617025:=fun {m n} hm hn=>⟨mK hm.1 hn.1,Int.le_trans (Int.mul_le_mul hm.2 hn.2 hn.1 (by omega)) (by decide)⟩
 have e1:=mb a0 c0
 have e2:=mb a0 d0
 have e3:=mb b0 c0
 have e4:=mb b0 d0
 have hxy:x*y=a*c*18446744073709551616+(a*d+b*c)*4294967296+b*d:=by rw[hx,hy];grind
 rw[fD (x*y)]
 rw[hxy]
 rw[aU (x:=b) (by omega) (by omega),aU (x:=d) (by omega) (by omega)]
 rw[aU (x:=b*d) (by omega) (by omega),aU (x:=a*d) (by omega) (by omega),aU (x:=b*c) (by omega) (by omega),aU (x:=a*c) (by omega) (by omega)]
 generalize b*d=bd at *
 generalize a*d=ad at *
 generalize b*c=bc at *
 generalize a*c=ac at *
 rw[aU (x:=ad+bd / 4294967296) (by omega) (by omega)]
 generalize ht:ad+bd / 4294967296=t
 rw[sd (by omega) (by omega)]
 rw[aU (x:=t % 4294967296) (by omega) (by omega)]
 rw[aU (x:=t % 4294967296+bc) (by omega) (by omega),aU (x:=ac+t / 4294967296) (by omega) (by omega)]
 rw[aU (x:=ac+t / 4294967296+(t % 4294967296+bc) / 4294967296) (by omega) (by omega)]
 congr 1
 ext
 ·simp only;omega
 ·rfl
theorem nP {m n:Nat} (hm:m<18446744073709551616) (hn:n<18446744073709551616):aI (m:Int) (n:Int)=some (hl (m*n)):=by
 simp only[aI,lL]
 rw[VT (by omega) (by omega) (by omega) (by omega),af,<-gO]
 rfl
theorem iW {n:Nat} (h:n<18446744073709551616):hl n=(0,(n:Int)):=by
 unfold hl
 rw[Nat.div_eq_of_lt h,mv h]
 rfl
theorem CJ {n:Nat} (h:¬ n<18446744073709551616):(hl n).1>0:=by
 unfold hl
 simp only
 omega
theorem RJ {a b:Fq} (ha:okF a) (hb:okF b):cH a b=some (uZ (qv a*qv b)):=by
 simp only[cH,sS,zV,ha,hb,decide_true,af,bX,iF,g_,cond_true,cond_false,bC,gw]
 have ha':=ha
 have hb':=hb
 obtain ⟨⟨a1,a2⟩,⟨a3,a4⟩,a5⟩:=ha'
 obtain ⟨⟨b1,b2⟩,⟨b3,b4⟩,b5⟩:=hb'
 rw[G8 a,G8 b,Ct]
 obtain ⟨d,hd⟩:∃d:Nat,a.2=(d:Int):=⟨a.2.toNat,by omega⟩
 obtain ⟨e,he⟩:∃e:Nat,b.2=(e:Int):=⟨b.2.toNat,by omega⟩
 rw[qO (by omega) (by omega),qO (by omega) (by omega)]
 simp only[af,hd,he,z9] at *
 rw[aU (x:=(d:Int)) (by omega) (by omega),aU (x:=(e:Int)) (by omega) (by omega),wv _ _ (by omega),af,wv _ _ (by omega),af]
 have sa:a.1.natAbs<=1152921504606846976:=by omega
 have sb:b.1.natAbs<=1152921504606846976:=by omega
 have za:a.1=0↔a.1.natAbs=0:=by omega
 have zb:b.1=0↔b.1.natAbs=0:=by omega
 have hlt:decide (a.1<0)=true->a.1.natAbs≠0:=fun h=>by have:=z12 h;omega
 rw[Int.natAbs_natCast] at a5 b5
 generalize a.1.natAbs=m at *
 generalize b.1.natAbs=n at *
 generalize decide (a.1<0)=s at *
 generalize decide (b.1<0)=t at *
 have hd0:0<d:=by omega
 have he0:0<e:=by omega
 have hg:0<bT m e:=Nat.gcd_pos_of_pos_right _ he0
 have hh:0<bT n d:=Nat.gcd_pos_of_pos_right _ hd0
 rw[oD (show ((bT m e:Nat):Int)≠0 by omega),oD (show ((bT n d:Nat):Int)≠0 by omega)]
 simp only[cond_true,kn]
 have m1:m / bT m e*bT m e=m:=Nat.div_mul_cancel (Nat.gcd_dvd_left m e)
 have e1:e / bT m e*bT m e=e:=Nat.div_mul_cancel (nE m e)
 have n1:n / bT n d*bT n d=n:=Nat.div_mul_cancel (Nat.gcd_dvd_left n d)
 have d1:d / bT n d*bT n d=d:=Nat.div_mul_cancel (nE n d)
 have c1:Nat.Coprime (m / bT m e) (e / bT m e):=Nat.coprime_div_gcd_div_gcd hg
 have c2:Nat.Coprime (n / bT n d) (d / bT n d):=Nat.coprime_div_gcd_div_gcd hh
 have q1:m / bT m e<=m:=j_ _ _
 have q2:e / bT m e<=e:=j_ _ _
 have q3:n / bT n d<=n:=j_ _ _
 have q4:d / bT n d<=d:=j_ _ _
 have p2:0<e / bT m e:=Nat.div_pos (Nat.le_of_dvd he0 (nE m e)) hg
 have p4:0<d / bT n d:=Nat.div_pos (Nat.le_of_dvd hd0 (nE n d)) hh
 have x1:m / bT m e∣m:=Nat.div_dvd_of_dvd (Nat.gcd_dvd_left m e)
 have x2:e / bT m e∣e:=Nat.div_dvd_of_dvd (nE m e)
 have x3:n / bT n d∣n:=Nat.div_dvd_of_dvd (Nat.gcd_dvd_left n d)
 have x4:d / bT n d∣d:=Nat.div_dvd_of_dvd (nE n d)
 generalize bT m e=g at *
 generalize bT n d=h at *
 generalize m / g=m' at *
 generalize e / g=e' at *
 generalize n / h=n' at *
 generalize d / h=d' at *
 have cop:bT (m'*n') (d'*e')=1:=by
  refine Nat.Coprime.mul_left (Nat.Coprime.mul_right ?_ c1) (Nat.Coprime.mul_right c2 ?_)
  ·exact Nat.Coprime.coprime_dvd_left x1 (Nat.Coprime.coprime_dvd_right x4 a5)
  ·exact Nat.Coprime.coprime_dvd_left x3 (Nat.Coprime.coprime_dvd_right x2 b5)
 have hq:mkRat (sgn (s !=t) (m*n)) (d*e)=mkRat (sgn (s !=t) (m'*n')) (d'*e'):=by
  refine tR (Nat.mul_pos hd0 he0) (Nat.mul_pos p4 p2) ?_
  rw[<-m1,<-n1,<-d1,<-e1]
  grind
 rw[hq,vr (Nat.mul_pos p4 p2) cop]
 rw[aU (by omega) (by omega),aU (by omega) (by omega),nP (by omega) (by omega),af,aU (by omega) (by omega),aU (by omega) (by omega),nP (by omega) (by omega),af]
 by_cases hN:m'*n'<18446744073709551616
 ·rw[iW hN]
  by_cases hD:d'*e'<18446744073709551616
  ·rw[iW hD]
   simp only[show decide ((0:Int)>0)=false from rfl,cond_false]
   rw[wS _ _ _ hN hD,af]
   have hs:sgn (bif decide (((m'*n':Nat):Int)>0) then !decide (s=t) else false) (m'*n')=sgn (s !=t) (m'*n'):=by
    by_cases h0:m'*n'=0
    ·rw[h0];exact EG _ _
    ·rw[z7 (show ((m'*n':Nat):Int)>0 by omega)]
     cases s<;>cases t<;>rfl
   rw[hs]
  ·have:=CJ hD
   simp only[show decide ((0:Int)>0)=false from rfl,cond_false,z7 this,cond_true]
   rw[if_neg (by omega)]
 ·have:=CJ hN
  simp only[z7 this,cond_true]
  rw[if_neg (by omega)]
theorem mA {n d:Int} (h:0<=d):l_ n d=n / d:=Int.fdiv_eq_ediv_of_nonneg n h
theorem yd {n:Nat} (_:n<340282366920938463463374607431768211456):eF (hl n)=some (hl (n / 2)):=by
 simp only[eF,qT,show decide ((0:Int)<=1)=true from rfl,show decide ((0:Int)<=63)=true from rfl,cond_true,show (2:Int) ^ (1:Nat)=2 from rfl,show (2:Int) ^ (63:Nat)=9223372036854775808 from rfl,fD,mA (show (0:Int)<=2 by omega),hl]
 congr 1
 ext<;>simp only<;>omega
theorem CF {a b:Nat}:bE (hl a) (hl b)=some (decide (a<b)):=by
 simp only[bE,qE]
 have e:decide (a<b)=(bif decide ((hl a).1<(hl b).1) then true else bif decide ((hl a).1=(hl b).1) then decide ((hl a).2<(hl b).2) else false):=by
  by_cases c1:(hl a).1<(hl b).1
  ·simp only[c1,decide_true,cond_true]
   simp only[hl] at c1
   exact z7 (by omega)
  ·by_cases c2:(hl a).1=(hl b).1
   ·rw[z8 c1,z7 c2,cond_true,cond_false]
    have e2:a<b↔(hl a).2<(hl b).2:=by
     simp only[hl] at c1 c2 ⊢
     omega
    rw[pH,decide_eq_true_iff,decide_eq_true_iff]
    exact e2
   ·simp only[c1,c2,decide_false,cond_false]
    simp only[hl] at c1 c2
    exact z8 (by omega)
 rw[e]
 cases decide ((hl a).1<(hl b).1)<;>cases decide ((hl a).1=(hl b).1)<;>rfl
theorem sE {a b:Nat} (h:b<=a) (ha:a<340282366920938463463374607431768211456):ba (hl a) (hl b)=some (hl (a - b)):=by
 simp only[ba,lc]
 by_cases hc:(hl a).2<(hl b).2
 ·rw[z7 hc,cond_true]
  simp only[fD,hl] at hc ⊢
  congr 1
  ext<;>simp only<;>omega
 ·rw[z8 hc,cond_false]
  simp only[fD,hl] at hc ⊢
  congr 1
  ext<;>simp only<;>omega
theorem Gm {a b:Nat} (h:b<=a) (hb:a - b<340282366920938463463374607431768211456) (_:b<340282366920938463463374607431768211456):ba (hl (a % 340282366920938463463374607431768211456)) (hl b)=some (hl (a - b)):=by
 simp only[ba,lc]
 by_cases hc:(hl (a % 340282366920938463463374607431768211456)).2<(hl b).2
 ·rw[z7 hc,cond_true]
  simp only[fD,hl] at hc ⊢
  congr 1
  ext<;>simp only<;>omega
 ·rw[z8 hc,cond_false]
  simp only[fD,hl] at hc ⊢
  congr 1
  ext<;>simp only<;>omega
theorem G0 {m n:Nat} (h:m+n<340282366920938463463374607431768211456):cB (hl m) (hl n)=some (hl (m+n)):=by
 simp only[cB,qn]
 by_cases hc:aq .u64 ((hl m).2+(hl n).2)<(hl m).2
 ·rw[z7 hc,cond_true]
  simp only[fD,hl] at hc ⊢
  congr 1
  ext<;>simp only<;>omega
 ·rw[z8 hc,cond_false]
  simp only[fD,hl] at hc ⊢
  congr 1
  ext<;>simp only<;>omega
theorem XX {x:Int} (h1:0<=x) (h2:x<18446744073709551616):aq .u64 ((Nat.land (aS (x % bY 18446744073709551616)) (aS ((1:Int) % bY 18446744073709551616)):Nat):Int)=x % 2:=by
 have e1:x % bY 18446744073709551616=x:=Int.emod_eq_of_lt h1 h2
 have e2:aS ((1:Int) % bY 18446744073709551616)=2 ^ 1 - 1:=by decide
 rw[e1,e2]
 have:Nat.land x.toNat (2 ^ 1 - 1)=x.toNat % 2 ^ 1:=Nat.and_two_pow_sub_one_eq_mod x.toNat 1
 rw[this,fD]
 omega
theorem CU {n:Nat}:decide (aq .u64 ((Nat.land (aS ((hl n).2 % bY 18446744073709551616)) (aS ((1:Int) % bY 18446744073709551616)):Nat):Int)=0)=decide (n % 2=0):=by
 rw[XX (by simp only[hl];omega) (by simp only[hl];omega)]
 rw[pH,decide_eq_true_iff,decide_eq_true_iff]
 simp only[hl]
 omega
theorem ye {n:Nat} (_:n<340282366920938463463374607431768211456):(decide ((hl n).1=0)&&(decide ((hl n).2=0)&&true))=decide (n=0):=by
 rw[Bool.and_true,pH,z10,decide_eq_true_iff,decide_eq_true_iff,decide_eq_true_iff]
 simp only[hl]
 omega
def Dq (p:Int×Int):Nat:=p.1.toNat*18446744073709551616+p.2.toNat
theorem mn {n:Nat}:Dq (hl n)=n:=by
 simp only[Dq,hl];omega
theorem Fi {a b:Nat} (ha:a % 2=0) (h:bT a b % 2=1):bT (a / 2) b=bT a b:=by
 have h2:a / 2∣a:=Nat.div_dvd_of_dvd (Nat.dvd_of_mod_eq_zero ha)
 refine Nat.dvd_antisymm (Nat.dvd_gcd (Nat.dvd_trans (Nat.gcd_dvd_left _ _) h2) (nE _ _)) (Nat.dvd_gcd ?_ (nE _ _))
 have h3:bT a b∣2*(a / 2):=by rw[show 2*(a / 2)=a by omega];exact Nat.gcd_dvd_left _ _
 refine Nat.Coprime.dvd_of_dvd_mul_left ?_ h3
 show bT (bT a b) 2=1
 rw[Nat.gcd_comm,Nat.gcd_rec,h]
 rfl
theorem tY {a:Nat} (h:2<=a):Nat.log2 (a / 2)+1=Nat.log2 a:=by
 conv=>rhs;rw[Nat.log2_def]
 rw[if_pos h]
theorem tX {a b:Nat} (h:a<=b):Nat.log2 a<=Nat.log2 b:=by
 by_cases ha:a=0
 ·subst ha;simp
 ·have hb:b≠0:=by omega
  rw[Nat.le_log2 hb]
  exact m_ ((Nat.le_log2 ha).1 (b_ _)) h
theorem LL {a b:Nat} (ha:0<a) (h:2*a<=b):Nat.log2 a+1<=Nat.log2 b:=by
 have h1:=tY (a:=b) (by omega)
 have:=tX (show a<=b / 2 by omega)
 omega
theorem pP {a:Nat} (h:a<340282366920938463463374607431768211456):Nat.log2 a<=127:=by
 by_cases ha:a=0
 ·subst ha;simp
 ·have:Nat.log2 a<128:=(Nat.log2_lt ha).2 h
  omega
theorem Rq {A B:Nat} (hA:A<340282366920938463463374607431768211456) (hB0:0<B) (hB:B<340282366920938463463374607431768211456):iu (hl A) (hl B)=some (hl (bT A B)):=by
 simp only[iu,so]
 rw[ye hA]
 by_cases hA0:A=0
 ·rw[z7 hA0,cond_true,hA0,Nat.gcd_zero_left]
 rw[z8 hA0,cond_false]
 have hG:bT A B<=B:=Nat.le_of_dvd hB0 (nE A B)
 have hGdef:∃G,G=bT A B:=⟨_,rfl⟩
 obtain ⟨G,hGd⟩:=hGdef
 rw[<-hGd]
 refine jj (g:=fun _=>some (hl G)) (I:=fun (x:Int×(Int×Int)×(Int×Int)×PUnit)=>∃t a b:Nat,x=((t:Int),hl a,hl b,⟨⟩)/\0<a/\a<340282366920938463463374607431768211456/\0<b/\b<340282366920938463463374607431768211456/\2 ^ t*bT a b=G/\t+Nat.log2 a<=127)
  (μ:=fun (x:Int×(Int×Int)×(Int×Int)×PUnit)=>Nat.log2 (Dq x.2.1)) (x:=((0:Int),hl A,hl B,aQ)) ?_ ⟨0,A,B,rfl,by omega,hA,hB0,hB,by rw[hGd];simp,by have:=pP hA;omega⟩ (by simp only[mn];have:=pP hA;omega)
 rintro _ rec ⟨t,a,b,rfl,a0,a1,b0,b1,hg,ht⟩ hrec
 simp only[CU,bC,cond_true]
 by_cases hev:a % 2=0/\b % 2=0
 ·rw[z7 hev.1,cond_true,z7 hev.2,cond_true,yd a1,af,yd b1,af,ap (by omega) (by omega)]
  have hl2:=tY (a:=a) (by omega)
  refine hrec _ ⟨t+1,a / 2,b / 2,by rfl,by omega,by omega,by omega,by omega,?_,by omega⟩ (by simp only[mn];omega)
  rw[<-hg,Nat.pow_succ,Nat.mul_assoc,<-Nat.gcd_mul_left,show 2*(a / 2)=a by omega,show 2*(b / 2)=b by omega]
 have hodd:bT a b % 2=1:=by
  rcases Nat.mod_two_eq_zero_or_one (bT a b) with h | h
  ·exfalso
   have h2:=Nat.dvd_of_mod_eq_zero h
   exact hev ⟨Nat.mod_eq_zero_of_dvd (Nat.dvd_trans h2 (Nat.gcd_dvd_left a b)),Nat.mod_eq_zero_of_dvd (Nat.dvd_trans h2 (nE a b))⟩
  ·exact h
 have hcond:(bif decide (a % 2=0) then decide (b % 2=0) else false)=false:=by
  rw[Bool.eq_false_iff]
  intro h
  by_cases h2:a % 2=0
  ·rw[z7 h2,cond_true,decide_eq_true_iff] at h
   exact hev ⟨h2,h⟩
  ·rw[z8 h2,cond_false] at h
   cases h
 rw[hcond,cond_false]
 clear hcond hrec
 generalize hgd:bT a b=g at *
 refine jj (g:=fun _=>some (hl G)) (I:=fun (x:(Int×Int)×(Int×Int)×PUnit)=>∃a b:Nat,x=(hl a,hl b,⟨⟩)/\a<340282366920938463463374607431768211456/\0<b/\b<340282366920938463463374607431768211456/\bT a b=g)
  (μ:=fun (x:(Int×Int)×(Int×Int)×PUnit)=>Nat.log2 (Dq x.1)+Nat.log2 (Dq x.2.1)+Dq x.1 % 2) (x:=(hl a,hl b,aQ)) ?_ ⟨a,b,rfl,a1,b0,b1,hgd⟩ (by simp only[mn];have:=pP a1;have:=pP b1;omega)
 clear hgd hev a0 a1 b0 b1
 rintro _ rec ⟨a,b,rfl,a1,b0,b1,hgd⟩ hrec
 simp only[ye a1]
 by_cases ha0:a=0
 ·rw[z7 ha0,bX,cond_false]
  have hbg:b=g:=by rw[<-hgd,ha0,Nat.gcd_zero_left]
  refine jj (g:=fun _=>some (hl G)) (I:=fun (x:Int×(Int×Int)×PUnit)=>∃t b:Nat,x=((t:Int),hl b,⟨⟩)/\0<b/\2 ^ t*b=G/\t<=127)
   (μ:=fun (x:Int×(Int×Int)×PUnit)=>x.1.toNat) (x:=((t:Int),hl b,aQ)) ?_ ⟨t,b,rfl,b0,by rw[hbg];exact hg,by omega⟩ (by simp only;omega)
  rintro _ rec ⟨t,b,rfl,b0,hg,ht⟩ hrec
  simp only
  by_cases ht0:t=0
  ·rw[z8 (by omega),cond_false,<-hg,ht0];simp
  ·rw[z7 (by omega),cond_true]
   obtain ⟨s,rfl⟩:∃s,t=s+1:=⟨t - 1,by omega⟩
   have h2:2 ^ s*(b+b)=G:=by rw[<-hg,Nat.pow_succ,Nat.mul_assoc];congr 1;omega
   have h3:b+b<=G:=by
    rw[<-h2]
    exact Nat.le_mul_of_pos_left _ (Nat.pow_pos (by omega))
   rw[G0 (by omega),af,ap (by omega) (by omega)]
   exact hrec _ ⟨s,b+b,by simp only[dG,and_true];omega,by omega,h2,by omega⟩ (by simp only;omega)
 rw[z8 ha0,iF,cond_true]
 refine jj (g:=fun _=>some (hl G)) (I:=fun (x:(Int×Int)×PUnit)=>∃c:Nat,x=(hl c,⟨⟩)/\0<c/\c<340282366920938463463374607431768211456/\bT c b=g/\(c=a\/2*c<=a))
  (μ:=fun (x:(Int×Int)×PUnit)=>Nat.log2 (Dq x.1)) (x:=(hl a,aQ)) ?_ ⟨a,rfl,by omega,a1,hgd,.inl rfl⟩ (by simp only[mn];have:=pP a1;omega)
 rintro _ rec3 ⟨c,rfl,c0,c1,hgc,hca⟩ hrec3
 simp only[CU]
 by_cases hce:c % 2=0
 ·rw[z7 hce,cond_true,yd c1,af]
  have hl2:=tY (a:=c) (by omega)
  exact hrec3 _ ⟨c / 2,rfl,by omega,by omega,by rw[Fi hce (by rw[hgc];exact hodd),hgc],.inr (by omega)⟩ (by simp only[mn];omega)
 rw[z8 hce,cond_false]
 clear hrec3
 refine jj (g:=fun _=>some (hl G)) (I:=fun (x:(Int×Int)×PUnit)=>∃d:Nat,x=(hl d,⟨⟩)/\0<d/\d<=b/\bT c d=g)
  (μ:=fun (x:(Int×Int)×PUnit)=>Nat.log2 (Dq x.1)) (x:=(hl b,aQ)) ?_ ⟨b,rfl,b0,b_ _,hgc⟩ (by simp only[mn];have:=pP b1;omega)
 rintro _ rec4 ⟨d,rfl,d0,d1,hgd'⟩ hrec4
 simp only[CU]
 by_cases hde:d % 2=0
 ·rw[z7 hde,cond_true,yd (by omega),af]
  have hl2:=tY (a:=d) (by omega)
  exact hrec4 _ ⟨d / 2,rfl,by omega,by omega,by rw[Nat.gcd_comm,Fi hde (by rw[Nat.gcd_comm,hgd'];exact hodd),Nat.gcd_comm,hgd']⟩ (by simp only[mn];omega)
 rw[z8 hde,cond_false,CF,af]
 clear hrec4
 have lb:=tX d1
 have la:Nat.log2 c+1<=Nat.log2 a+a % 2:=by
  rcases hca with rfl | h
  ·omega
  ·have:=LL c0 h;omega
 by_cases hlt:c<d
 ·rw[z7 hlt,cond_true,sE (by omega) (by omega),af]
  have l1:=tX (show d - c<=d by omega)
  exact hrec _ ⟨d - c,c,rfl,by omega,c0,c1,by rw[Nat.gcd_sub_self_left (by omega),Nat.gcd_comm,hgd']⟩ (by simp only[mn];omega)
 ·rw[z8 hlt,cond_false,sE (by omega) (by omega),af]
  have l1:=tX (show c - d<=c by omega)
  exact hrec _ ⟨c - d,d,rfl,by omega,d0,by omega,by rw[Nat.gcd_sub_self_left (by omega),hgd']⟩ (by simp only[mn];omega)
theorem J6 {n:Nat}:(aq .u64 (aq .u64 ((hl n).1*2)+(hl n).2 / 9223372036854775808),aq .u64 ((hl n).2*2))=hl (2*n % 340282366920938463463374607431768211456):=by
 simp only[fD,hl]
 ext<;>simp only<;>omega
theorem OP {r a:Nat} (_:r<340282366920938463463374607431768211456) (ha:a<340282366920938463463374607431768211456):(aq .u64 (aq .u64 ((hl r).1*2)+(hl r).2 / 9223372036854775808),aq .u64 (aq .u64 ((hl r).2*2)+(hl a).1 / 9223372036854775808))=hl ((2*r+2*a / 340282366920938463463374607431768211456) % 340282366920938463463374607431768211456):=by
 simp only[fD,hl]
 ext<;>simp only<;>omega
theorem H0 {q:Nat} (hq:2*q+1<340282366920938463463374607431768211456):(aq .u64 (aq .u64 ((hl q).1*2)+(hl q).2 / 9223372036854775808),aq .u64 (aq .u64 ((hl q).2*2)+1))=hl (2*q+1):=by
 simp only[fD,hl]
 ext<;>simp only<;>omega
theorem PX {r a:Nat} (hr:r<340282366920938463463374607431768211456) (ha:a<340282366920938463463374607431768211456):decide ((hl r).1 / 9223372036854775808>0)=decide (340282366920938463463374607431768211456<=2*r+2*a / 340282366920938463463374607431768211456):=by
 rw[pH,decide_eq_true_iff,decide_eq_true_iff]
 simp only[hl]
 omega
theorem wZ {t b q r:Nat} (hr:r<b) (h:t=q*b+r):t / b=q/\t % b=r:=by
 subst h
 constructor
 ·rw[iS,Nat.mul_add_div (by omega),Nat.div_eq_of_lt hr,lD]
 ·rw[iS,Nat.mul_add_mod,mv hr]
theorem Hn {A B:Nat} (hA:A<340282366920938463463374607431768211456) (hB0:0<B) (hB:B<340282366920938463463374607431768211456):gS (hl A) (hl B)=some (hl (A / B),hl (A % B),()):=by
 simp only[gS,sH,show decide ((0:Int)<=1)=true from rfl,show decide ((0:Int)<=63)=true from rfl,cond_true,bC,show (2:Int) ^ (1:Nat)=2 from rfl,show (2:Int) ^ (63:Nat)=9223372036854775808 from rfl,mA (show (0:Int)<=9223372036854775808 by omega),g_]
 by_cases hs:A<18446744073709551616/\B<18446744073709551616
 ·rw[iW hs.1,iW hs.2]
  have q1:A / B<=A:=j_ _ _
  have q2:A % B<=A:=Nat.mod_le _ _
  simp only[decide_true,cond_true,oD (show (B:Int)≠0 by omega),kn]
  have hq:((A / B:Nat):Int)<18446744073709551616:=by
   generalize A / B=z at *
   omega
  rw[iW (show A / B<18446744073709551616 by omega),iW (show A % B<18446744073709551616 by omega),aU (Int.natCast_nonneg _) hq,Int.tmod_eq_emod_of_nonneg (by omega),Int.natCast_emod]
 ·have hc:(bif decide ((hl A).1=0) then decide ((hl B).1=0) else false)=false:=by
   rw[Bool.eq_false_iff]
   intro h
   by_cases h1:(hl A).1=0
   ·rw[z7 h1,cond_true,decide_eq_true_iff] at h
    simp only[hl] at h1 h
    omega
   ·rw[z8 h1,cond_false] at h
    cases h
  rw[hc,cond_false]
  refine jj (g:=fun _=>some (hl (A / B),hl (A % B),())) (I:=fun (x:Int×(Int×Int)×(Int×Int)×(Int×Int)×PUnit)=>∃i X:Nat,i<=128/\X=A*2 ^ i/\x=((i:Int),hl (X % 340282366920938463463374607431768211456),hl (X / 340282366920938463463374607431768211456 / B),hl (X / 340282366920938463463374607431768211456 % B),⟨⟩))
   (μ:=fun (x:Int×(Int×Int)×(Int×Int)×(Int×Int)×PUnit)=>(128 - x.1).toNat) (x:=((0:Int),hl A,((0:Int),(0:Int)),((0:Int),(0:Int)),aQ)) ?_ ⟨0,A,by omega,by simp,by
    rw[mv hA,Nat.div_eq_of_lt hA,Nat.zero_div,Nat.zero_mod];rfl⟩ (by simp only;omega)
  rintro _ rec ⟨i,X,hi,hX,rfl⟩ hrec
  simp only
  by_cases hlt:i<128
  ·rw[z7 (show (i:Int)<128 by omega),cond_true]
   have hX2:2*X=A*2 ^ (i+1):=by rw[hX,Nat.pow_succ];grind
   have hT:2*X / 340282366920938463463374607431768211456<=A:=by
    have:A*2 ^ (i+1)<=A*2 ^ 128:=Nat.mul_le_mul_left _ (Nat.pow_le_pow_right (by omega) (by omega))
    rw[hX2]
    refine Nat.div_le_of_le_mul ?_
    rw[show (2:Nat) ^ 128=340282366920938463463374607431768211456 from rfl,iS A 340282366920938463463374607431768211456] at this
    exact this
   have ha:=Nat.mod_lt X (show 340282366920938463463374607431768211456>0 by omega)
   have hr:=Nat.mod_lt (X / 340282366920938463463374607431768211456) hB0
   have e1:2*X % 340282366920938463463374607431768211456=2*(X % 340282366920938463463374607431768211456) % 340282366920938463463374607431768211456:=by omega
   have e2:2*X / 340282366920938463463374607431768211456=2*(X / 340282366920938463463374607431768211456)+2*(X % 340282366920938463463374607431768211456) / 340282366920938463463374607431768211456:=by omega
   have e3:X / 340282366920938463463374607431768211456=X / 340282366920938463463374607431768211456 / B*B+X / 340282366920938463463374607431768211456 % B:=by rw[iS];exact (Nat.div_add_mod _ _).symm
   have hq:X / 340282366920938463463374607431768211456 / B<=X / 340282366920938463463374607431768211456:=j_ _ _
   rw[ap (x:=(i:Int)+1) (by omega) (by omega)]
   have bit:2*(X % 340282366920938463463374607431768211456) / 340282366920938463463374607431768211456<=1:=by omega
   have step:∀q r,r<B->2*X / 340282366920938463463374607431768211456=q*B+r->rec ((i:Int)+1,hl (2*(X % 340282366920938463463374607431768211456) % 340282366920938463463374607431768211456),hl q,hl r,aQ)=some (hl (A / B),hl (A % B),()):=fun q r h1 h2=>by
    obtain ⟨h3,h4⟩:=wZ h1 h2
    exact hrec _ ⟨i+1,2*X,by omega,hX2,by rw[h3,h4,e1];rfl⟩ (by simp only;omega)
   generalize hTd:X / 340282366920938463463374607431768211456=T at *
   generalize hαd:X % 340282366920938463463374607431768211456=α at *
   generalize hqd:T / B=q at *
   generalize hrd:T % B=r at *
   have hq2:2*q+1<340282366920938463463374607431768211456:=by
    by_cases hq0:q=0
    ·omega
    ·have h1:q*1<=q*B:=Nat.mul_le_mul_left _ hB0
     have h2:A<=340282366920938463463374607431768211455:=by omega
     omega
   rw[PX (r:=r) (a:=α) (by omega) ha,J6 (n:=α),OP (r:=r) (a:=α) (by omega) ha]
   have hmul2:2*(q*B)=2*q*B:=by rw[Nat.mul_assoc]
   have hmul3:(2*q+1)*B=2*q*B+B:=by rw[iN,Nat.one_mul]
   by_cases ho:340282366920938463463374607431768211456<=2*r+2*α / 340282366920938463463374607431768211456
   ·simp only[z7 ho,bX,cond_true,cond_false,af]
    rw[Gm (a:=2*r+2*α / 340282366920938463463374607431768211456) (b:=B) (by omega) (by omega) hB,af,H0 hq2]
    exact step _ _ (by omega) (by rw[hmul3];omega)
   ·have hR:(2*r+2*α / 340282366920938463463374607431768211456) % 340282366920938463463374607431768211456=2*r+2*α / 340282366920938463463374607431768211456:=mv (by omega)
    simp only[z8 ho,hR,iF,cond_true,cond_false,af,Bool.or_true,CF]
    by_cases hl2:2*r+2*α / 340282366920938463463374607431768211456<B
    ·simp only[z7 hl2,bX,cond_false]
     have e:=J6 (n:=q)
     rw[mv (show 2*q<340282366920938463463374607431768211456 by omega)] at e
     rw[e]
     exact step _ _ (by omega) (by omega)
    ·simp only[z8 hl2,iF,cond_true]
     rw[sE (by omega) (by omega),af,H0 hq2]
     exact step _ _ (by omega) (by rw[hmul3];omega)
  ·have:i=128:=by omega
   subst this
   have hx:X / 340282366920938463463374607431768211456=A:=by
    rw[hX]
    exact Nat.mul_div_cancel A (by decide)
   rw[z8 (by omega),cond_false,hx]
theorem zG {s:Bool} {n d:Nat} (hn:n<340282366920938463463374607431768211456) (hd0:0<d) (hd:d<340282366920938463463374607431768211456):ep (hl n) s (hl d)=some (uZ (mkRat (sgn s n) d)):=by
 have hG0:0<bT n d:=Nat.gcd_pos_of_pos_right _ hd0
 have hG:bT n d<=d:=Nat.le_of_dvd hd0 (nE n d)
 simp only[ep,rb,bC,gw,cond_true]
 rw[ye hd,z8 (show ¬ d=0 by omega),cond_false,Rq hn hd0 hd,af,Hn hn hG0 (by omega),af,Hn hd hG0 (by omega),af]
 obtain ⟨m1,m2,m3⟩:=yq (s:=s) (n:=n) (d:=d) hd0
 rw[m1,vr m2 m3]
 have q1:n / bT n d<=n:=j_ _ _
 have q2:d / bT n d<=d:=j_ _ _
 generalize n / bT n d=p at *
 generalize d / bT n d=q at *
 simp only
 have big:∀{x:Nat},x<340282366920938463463374607431768211456->(bif decide ((hl x).1>0) then true else decide ((hl x).2>1152921504606846976))=decide (¬ x<=1152921504606846976):=fun {x} hx=>by
  by_cases h1:(hl x).1>0
  ·rw[z7 h1,cond_true]
   simp only[hl] at h1
   exact (z7 (by omega)).symm
  ·rw[z8 h1,cond_false,pH,decide_eq_true_iff,decide_eq_true_iff]
   simp only[hl] at h1 ⊢
   omega
 rw[big (show p<340282366920938463463374607431768211456 by omega)]
 by_cases hp:p<=1152921504606846976
 ·simp only[hp,not_true_eq_false,decide_false,cond_false,true_and]
  rw[big (show q<340282366920938463463374607431768211456 by omega)]
  by_cases hq:q<=1152921504606846976
  ·simp only[hq,not_true_eq_false,decide_false,cond_false,if_true]
   rw[iW (show p<18446744073709551616 by omega),iW (show q<18446744073709551616 by omega)]
   simp only
   rw[ap (x:=(p:Int)) (by omega) (by omega),ap (x:=(q:Int)) (by omega) (by omega),ap (x:=0 - (p:Int)) (by omega) (by omega)]
   cases s<;>simp[sgn]
  ·simp only[hq,not_false_eq_true,decide_true,cond_true,if_false]
 ·simp only[hp,not_false_eq_true,decide_true,cond_true,false_and,if_false]
theorem wq {x:Int} (h1: -9223372036854775808<=x) (h2:x<9223372036854775808):dK x=some (x.natAbs:Int):=by
 simp only[dK,qB]
 by_cases h:x<0
 ·simp only[h,decide_true,cond_true]
  rw[fD,fD]
  congr 1;omega
 ·simp only[h,decide_false,cond_false]
  rw[aU (by omega) (by omega)]
  congr 1;omega
theorem Ca {m n:Nat} (hm:m<18446744073709551616) (hn:n<18446744073709551616):fp (m:Int) (n:Int)=some (hl (m*n)):=by
 have x0:0<=(m:Int):=by omega
 have x1:(m:Int)<18446744073709551616:=by omega
 have y0:0<=(n:Int):=by omega
 have y1:(n:Int)<18446744073709551616:=by omega
 have hmn:((m*n:Nat):Int)=(m:Int)*n:=gO m n
 simp only[hl,Int.natCast_ediv,Int.natCast_emod,hmn]
 generalize (m:Int)=x at *
 generalize (n:Int)=y at *
 have p32:(2:Int) ^ (32:Nat)=4294967296:=by decide
 simp only[fp,sR,p32,show decide ((0:Int)<=32)=true from rfl,cond_true]
 obtain ⟨a,b,ha,hb,hx⟩:∃a b,a=x / 4294967296/\b=x % 4294967296/\x=a*4294967296+b:=⟨_,_,rfl,rfl,by omega⟩
 obtain ⟨c,d,hc,hd,hy⟩:∃c d,c=y / 4294967296/\d=y % 4294967296/\y=c*4294967296+d:=⟨_,_,rfl,rfl,by omega⟩
 rw[sd x0 x1,sd y0 y1,<-hb,<-hd]
 simp only[mA (show (0:Int)<=4294967296 by omega),<-ha,<-hc]
 have a0:0<=a/\a<=4294967295:=by omega
 have b0:0<=b/\b<=4294967295:=by omega
 have c0:0<=c/\c<=4294967295:=by omega
 have d0:0<=d/\d<=4294967295:=by omega
 have mb:∀{m n:Int},0<=m/\m<=4294967295->0<=n/\n<=4294967295->0<=m*n/\m*n<=18446744065119617025:=fun {m n} hm hn=>⟨mK hm.1 hn.1,Int.le_trans (Int.mul_le_mul hm.2 hn.2 hn.1 (by omega)) (by decide)⟩
 have e1:=mb a0 c0
 have e2:=mb a0 d0
 have e3:=mb b0 c0
 have e4:=mb b0 d0
 have hxy:x*y=a*c*18446744073709551616+(a*d+b*c)*4294967296+b*d:=by rw[hx,hy];grind
 rw[hxy]
 rw[aU (x:=b) (by omega) (by omega),aU (x:=d) (by omega) (by omega)]
 rw[aU (x:=b*d) (by omega) (by omega),aU (x:=a*d) (by omega) (by omega),aU (x:=b*c) (by omega) (by omega),aU (x:=a*c) (by omega) (by omega)]
 generalize b*d=bd at *
 generalize a*d=ad at *
 generalize b*c=bc at *
 generalize a*c=ac at *
 rw[aU (x:=ad+bd / 4294967296) (by omega) (by omega)]
 generalize ht:ad+bd / 4294967296=t
 rw[sd (by omega) (by omega),sd (by omega) (by omega)]
 rw[aU (x:=t % 4294967296) (by omega) (by omega),aU (x:=bd % 4294967296) (by omega) (by omega)]
 rw[aU (x:=bc+t % 4294967296) (by omega) (by omega),aU (x:=ac+t / 4294967296) (by omega) (by omega)]
 rw[aU (x:=ac+t / 4294967296+(bc+t % 4294967296) / 4294967296) (by omega) (by omega)]
 rw[fD ((bc+t % 4294967296)*4294967296),fD]
 congr 1
 ext<;>simp only<;>omega
end Go.Proofs.YtlfdhaiigdllcaaGreat

namespace Go.Proofs.YtlfdhaiigdllcaaGreat
noncomputable section
open Tryz Dn Dn.Sh
theorem NT {a b:Nat}:cg (hl a) (hl b)=some (decide (a<b)):=by
 simp only[cg,qc]
 have e:decide (a<b)=(bif decide ((hl a).1<(hl b).1) then true else bif decide ((hl a).1=(hl b).1) then decide ((hl a).2<(hl b).2) else false):=by
  by_cases c1:(hl a).1<(hl b).1
  ·simp only[c1,decide_true,cond_true]
   simp only[hl] at c1
   exact z7 (by omega)
  ·by_cases c2:(hl a).1=(hl b).1
   ·rw[z8 c1,z7 c2,cond_true,cond_false]
    have e2:a<b↔(hl a).2<(hl b).2:=by
     simp only[hl] at c1 c2 ⊢
     omega
    rw[pH,decide_eq_true_iff,decide_eq_true_iff]
    exact e2
   ·simp only[c1,c2,decide_false,cond_false]
    simp only[hl] at c1 c2
    exact z8 (by omega)
 rw[e]
 cases decide ((hl a).1<(hl b).1)<;>cases decide ((hl a).1=(hl b).1)<;>rfl
theorem QQ {m n:Nat}:Ak (hl m).2 (hl n).2 0=(((m % 18446744073709551616+n % 18446744073709551616) / 18446744073709551616:Nat):Int):=by
 simp only[Ak,hl,z9,Int.toNat_zero,lD]
 rfl
theorem O9 {m n:Nat}:xO (hl m).2 (hl n).2 0=(((if m % 18446744073709551616<n % 18446744073709551616 then 1 else 0:Nat):Nat):Int):=by
 simp only[xO,hl,z9,Int.toNat_zero,lD]
 cases h:Nat.blt (m % 18446744073709551616) (n % 18446744073709551616) with
 | true =>
  have h':m % 18446744073709551616<n % 18446744073709551616:=by simpa [Nat.blt_eq] using h
  rw[if_pos h'];rfl
 | false =>
  have h':¬ m % 18446744073709551616<n % 18446744073709551616:=by
   intro h2
   have:Nat.blt (m % 18446744073709551616) (n % 18446744073709551616)=true:=by simpa [Nat.blt_eq] using h2
   rw[this] at h;cases h
  rw[if_neg h'];rfl
theorem Lb {m n:Nat} (h:m+n<340282366920938463463374607431768211456):gI (hl m) (hl n)=some (hl (m+n)):=by
 simp only[gI,qQ,QQ]
 have c1:decide ((0:Int)<=(0:Int))=true:=rfl
 have c2:decide ((0:Int)<=(1:Int))=true:=rfl
 rw[c1,c2,z7 (show (0:Int)<=(((m % 18446744073709551616+n % 18446744073709551616) / 18446744073709551616:Nat):Int) by omega),z7 (show (((m % 18446744073709551616+n % 18446744073709551616) / 18446744073709551616:Nat):Int)<=1 by omega)]
 simp only[g_,cT,aT,EP,hl,z9,Int.toNat_zero,lD,dG]
 constructor
 ·show ((_:Nat):Int)=((_:Nat):Int)
  omega
 ·show ((_:Nat):Int)=((_:Nat):Int)
  omega
theorem AY {m n:Nat} (h:n<=m) (hm:m<340282366920938463463374607431768211456):fg (hl m) (hl n)=some (hl (m - n)):=by
 simp only[fg,oZ,O9]
 have c1:decide ((0:Int)<=(0:Int))=true:=rfl
 have c2:decide ((0:Int)<=(1:Int))=true:=rfl
 have hb:(if m % 18446744073709551616<n % 18446744073709551616 then 1 else 0:Nat)<=1:=by split<;>omega
 have hc:(if m % 18446744073709551616<n % 18446744073709551616 then 1 else 0:Nat)=1/\m % 18446744073709551616<n % 18446744073709551616\/(if m % 18446744073709551616<n % 18446744073709551616 then 1 else 0:Nat)=0/\¬ m % 18446744073709551616<n % 18446744073709551616:=by split<;>simp_all
 generalize (if m % 18446744073709551616<n % 18446744073709551616 then 1 else 0:Nat)=c at *
 rw[c1,c2,z7 (show (0:Int)<=(c:Int) by omega),z7 (show (c:Int)<=1 by omega)]
 simp only[g_,cT,aT,B7,hl,z9,Int.toNat_zero,Nat.sub_zero,dG]
 constructor
 ·show ((_:Nat):Int)=((_:Nat):Int)
  omega
 ·show ((_:Nat):Int)=((_:Nat):Int)
  omega
def OZ (T:ByteArray) (a b:Int):Option Int :=
 bif decide (a>=(256:Int)) then bif decide ((0:Int)<=(8:Int)) then bif inB (aq .u8 (l_ a ((2:Int) ^ (8:Nat)))) (256:Nat) then
  some (aq .i64 (aq .i64 (b+(8:Int))+aq .i64 (gg T (aS (aq .u8 (l_ a ((2:Int) ^ (8:Nat)))))))) else none else none
 else bif inB (aq .u8 a) (256:Nat) then some (aq .i64 (b+aq .i64 (gg T (aS (aq .u8 a))))) else none
def Pr (T:ByteArray) (a b:Int):Option Int:=bif decide (a>=(65536:Int)) then bif decide ((0:Int)<=(16:Int)) then OZ T (l_ a ((2:Int) ^ (16:Nat))) (aq .i64 (b+(16:Int))) else none else OZ T a b
theorem JK:∃T:ByteArray,(∀i,i<256->0<=gg T i/\gg T i<=8/\(0<i->i<2 ^ (gg T i).toNat/\2 ^ (gg T i).toNat<=2*i)) /\
  ∀x,gz x=bif decide (x>=(4294967296:Int)) then bif decide ((0:Int)<=(32:Int)) then Pr T (l_ x ((2:Int) ^ (32:Nat))) 32 else none else Pr T x 0 :=
 ⟨_,by decide +kernel,fun _=>rfl⟩
def zh (n L:Nat):Prop:=n<2 ^ L/\2 ^ L<=2*n
theorem sX {n k L:Nat} (h:zh (n / 2 ^ k) L):zh n (L+k):=by
 obtain ⟨h1,h2⟩:=h
 have hk:0<2 ^ k:=Nat.two_pow_pos k
 unfold zh
 rw[Nat.pow_add]
 constructor
 ·exact (Nat.div_lt_iff_lt_mul hk).1 h1
 ·have h3:n / 2 ^ k*2 ^ k<=n:=Nat.div_mul_le_self n _
  have h4:=mV (2 ^ k) h2
  rw[Nat.mul_assoc] at h4
  omega
theorem HA {x:Int} (h1:0<=x) (h2:x<256):aq .u8 x=x:=by
 rw[IntKind.wrap_u8];omega
theorem Oq {n:Nat} (h0:0<n) (h1:n<18446744073709551616):∃L:Nat,gz (n:Int)=some (L:Int)/\zh n L/\L<=64:=by
 obtain ⟨T,hT,hx⟩:=JK
 have tab:∀i:Nat,0<i->i<256->∃L:Nat,gg T i=L/\L<=8/\zh i L:=fun i h2 h3=>by
  obtain ⟨a1,a2,a3⟩:=hT i h3
  exact ⟨(gg T i).toNat,by omega,by omega,a3 h2⟩
 have p8:(2:Int) ^ (8:Nat)=256:=by decide
 have p16:(2:Int) ^ (16:Nat)=65536:=by decide
 have p32:(2:Int) ^ (32:Nat)=4294967296:=by decide
 have stepT:∀a b:Nat,0<a->a<65536->b<=48->∃L:Nat,OZ T (a:Int) (b:Int)=some ((L+b:Nat):Int)/\zh a L/\L<=16:=fun a b ha hb hb2=>by
  unfold OZ
  by_cases h:a<256
  ·obtain ⟨L,e1,e2,e3⟩:=tab a ha h
   rw[z8 (show ¬ (a:Int)>=256 by omega),cond_false,HA (by omega) (by omega),oM (by omega) (by omega),cond_true,z9,e1,ap (x:=(L:Int)) (by omega) (by omega),ap (by omega) (by omega)]
   exact ⟨L,by congr 1;omega,e3,by omega⟩
  ·obtain ⟨L,e1,e2,e3⟩:=tab (a / 256) (by omega) (by omega)
   rw[z7 (show (a:Int)>=256 by omega),cond_true,show decide ((0:Int)<=8)=true from rfl,cond_true,p8,mA (by omega),HA (by omega) (by omega),oM (by omega) (by omega),cond_true,show ((a:Int) / 256).toNat=a / 256 by omega,e1,ap (x:=(L:Int)) (by omega) (by omega),ap (x:=(b:Int)+8) (by omega) (by omega),ap (by omega) (by omega)]
   exact ⟨L+8,by congr 1;omega,sX (k:=8) e3,by omega⟩
 have stepU:∀a b:Nat,0<a->a<4294967296->b<=32->∃L:Nat,Pr T (a:Int) (b:Int)=some ((L+b:Nat):Int)/\zh a L/\L<=32:=fun a b ha hb hb2=>by
  unfold Pr
  by_cases h:a<65536
  ·obtain ⟨L,e1,e2,e3⟩:=stepT a b ha h (by omega)
   rw[z8 (show ¬ (a:Int)>=65536 by omega),cond_false,e1]
   exact ⟨L,rfl,e2,by omega⟩
  ·obtain ⟨L,e1,e2,e3⟩:=stepT (a / 65536) (b+16) (by omega) (by omega) (by omega)
   rw[z7 (show (a:Int)>=65536 by omega),cond_true,show decide ((0:Int)<=16)=true from rfl,cond_true,p16,mA (by omega),ap (by omega) (by omega),show (a:Int) / 65536=((a / 65536:Nat):Int) by omega,show (b:Int)+16=((b+16:Nat):Int) by omega,e1]
   exact ⟨L+16,by congr 1;omega,sX (k:=16) e2,by omega⟩
 rw[hx]
 by_cases h:n<4294967296
 ·obtain ⟨L,e1,e2,e3⟩:=stepU n 0 h0 h (by omega)
  rw[z8 (show ¬ (n:Int)>=4294967296 by omega),cond_false]
  exact ⟨L,e1,e2,by omega⟩
 ·obtain ⟨L,e1,e2,e3⟩:=stepU (n / 4294967296) 32 (by omega) (by omega) (by omega)
  rw[z7 (show (n:Int)>=4294967296 by omega),cond_true,show decide ((0:Int)<=32)=true from rfl,cond_true,p32,mA (by omega),show (n:Int) / 4294967296=((n / 4294967296:Nat):Int) by omega]
  exact ⟨L+32,e1,sX (k:=32) e2,by omega⟩
theorem Gw {q r U u y1 y0:Int} (hq:q*y1+r=U) (_:0<=u) (hy:0<y1*4294967296+y0) (hge:(U*4294967296+u) / (y1*4294967296+y0)<=q) (ht:q*y0<=4294967296*r+u):q=(U*4294967296+u) / (y1*4294967296+y0):=by
 refine Int.le_antisymm (Int.le_ediv_of_mul_le hy ?_) hge
 rw[Int.mul_add,<-Int.mul_assoc]
 omega
theorem FX {q r U u y1 y0:Int} (hq:q*y1+r=U) (hy:0<y1*4294967296+y0) (hU:U*4294967296+u<(y1*4294967296+y0)*4294967296) (ht:q>=4294967296\/q*y0>4294967296*r+u):(U*4294967296+u) / (y1*4294967296+y0)<=q - 1:=by
 have:(U*4294967296+u) / (y1*4294967296+y0)<q:=by
  refine Int.ediv_lt_of_lt_mul hy ?_
  rcases ht with ht | ht
  ·exact Int.lt_of_lt_of_le hU (by rw[Int.mul_comm q];exact Int.mul_le_mul_of_nonneg_left ht (by omega))
  ·rw[Int.mul_add,<-Int.mul_assoc]
   omega
 omega
theorem IV {q r U u y1 y0:Int} (hq:q*y1+r=U) (hu:0<=u) (hy:0<y1*4294967296+y0) (h0:0<=y0/\y0<4294967296) (hge:(U*4294967296+u) / (y1*4294967296+y0)<=q - 1) (hr:r+y1>=4294967296) (hq2:1<=q/\q<=4294967297):q - 1=(U*4294967296+u) / (y1*4294967296+y0):=by
 refine Int.le_antisymm (Int.le_ediv_of_mul_le hy ?_) hge
 have e1:(q - 1)*y0<=4294967296*4294967295:=Int.mul_le_mul (by omega) (by omega) h0.1 (by omega)
 rw[Int.mul_add,<-Int.mul_assoc,Int.sub_mul q 1 y1,Int.one_mul]
 omega
theorem OS {s:Nat} {a b:Nat} (h:b<2 ^ s):Nat.lor (a*2 ^ s) b=a*2 ^ s+b:=by
 have:=Nat.two_pow_add_eq_or_of_lt h a
 rw[iS a]
 exact this.symm
theorem yO {α R:Type} {F:(α->Option R)->α->Option R} {J:Int->Option R} {U u y1 y0:Int} (enc:Int->Int->α) (dec:α->Int) (hdec:∀q r,dec (enc q r)=q)
  (hu:0<=u) (h0:0<=y0/\y0<4294967296) (h1:2147483648<=y1/\y1<4294967296) (hU0:0<=U) (hU:U*4294967296+u<(y1*4294967296+y0)*4294967296)
  (hF1:∀again q r,1<=q->q<=4294967297->0<=r->r<4294967296->(q>=4294967296\/q*y0>4294967296*r+u)->F again (enc q r)=bif decide (r+y1>=4294967296) then J (q - 1) else again (enc (q - 1) (r+y1)))
  (hF2:∀again q r,0<=q->q<4294967296->0<=r->r<4294967296->¬ q*y0>4294967296*r+u->F again (enc q r)=J q)
  {q r:Int} (hq:q*y1+r=U) (hq0:0<=q) (hq2:q<=4294967297) (hr0:0<=r) (hr1:r<4294967296) (hge:(U*4294967296+u) / (y1*4294967296+y0)<=q) :
  lpK α R F (enc q r)=J ((U*4294967296+u) / (y1*4294967296+y0)):=by
 have hD:0<=(U*4294967296+u) / (y1*4294967296+y0):=Int.ediv_nonneg (by omega) (by omega)
 refine jj (g:=fun _=>J ((U*4294967296+u) / (y1*4294967296+y0))) (I:=fun x=>∃q r,x=enc q r/\q*y1+r=U/\0<=q/\q<=4294967297/\0<=r/\r<4294967296/\(U*4294967296+u) / (y1*4294967296+y0)<=q) (μ:=fun x=>(dec x).toNat) ?_ ⟨q,r,rfl,hq,hq0,hq2,hr0,hr1,hge⟩ (by rw[hdec];omega)
 rintro _ rec ⟨q,r,rfl,hq,hq0,hq2,hr0,hr1,hge⟩ hrec
 have hy:0<y1*4294967296+y0:=by omega
 by_cases ht:q>=4294967296\/q*y0>4294967296*r+u
 ·have hl:=FX hq hy hU ht
  rw[hF1 _ _ _ (by omega) hq2 hr0 hr1 ht]
  by_cases hr:r+y1>=4294967296
  ·rw[z7 hr,cond_true,IV hq hu hy h0 hl hr ⟨by omega,hq2⟩]
  ·rw[z8 hr,cond_false]
   refine hrec _ ⟨q - 1,r+y1,rfl,?_,by omega,by omega,by omega,by omega,hl⟩ (by rw[hdec,hdec];omega)
   rw[Int.sub_mul,Int.one_mul];omega
 ·rw[not_or] at ht
  rw[hF2 _ _ _ hq0 (by omega) hr0 hr1 ht.2,<-Gw hq hu hy hge (by omega)]
theorem yG {U u y1 y0:Int} (hu:0<=u/\u<4294967296) (h0:0<=y0/\y0<4294967296) (h1:2147483648<=y1/\y1<4294967296) (hU0:0<=U) (hU:U<y1*4294967296+y0) :
  (U / y1)*y1+(U - U / y1*y1)=U/\0<=U / y1/\U / y1<=4294967297/\0<=U - U / y1*y1/\U - U / y1*y1<4294967296/\(U*4294967296+u) / (y1*4294967296+y0)<=U / y1:=by
 have e1:=Int.mul_ediv_add_emod U y1
 have e2:=Int.emod_nonneg U (show y1≠0 by omega)
 have e3:=Int.emod_lt_of_pos U (show 0<y1 by omega)
 rw[Int.mul_comm] at e1
 refine ⟨by omega,Int.ediv_nonneg hU0 (by omega),?_,by omega,by omega,?_⟩
 ·have:U / y1<4294967298:=Int.ediv_lt_of_lt_mul (by omega) (by omega)
  omega
 ·have:(U*4294967296+u) / (y1*4294967296+y0)<U / y1+1:=by
   refine Int.ediv_lt_of_lt_mul (by omega) ?_
   have hq:0<=U / y1:=Int.ediv_nonneg hU0 (by omega)
   have e4:0<=(U / y1+1)*y0:=mK (by omega) h0.1
   rw[Int.mul_add,<-Int.mul_assoc,Int.add_mul (U / y1) 1 y1,Int.one_mul]
   omega
  omega
def Ql (_ _ Y u0 P q1 un:Int) (q:Int):Option (Int×Int×Unit):=some (aq .u64 (aq .u64 (q1*4294967296)+q),l_ (aq .u64 (aq .u64 (aq .u64 (un*4294967296)+u0) - aq .u64 (q*Y))) P,())
def dv2 (y1 y0 Y u0 P q1 un:Int):Option (Int×Int×Unit):=lpK (Int×Int×PUnit) (Int×Int×PUnit) (fun again x=>bif (bif decide (x.2.1>=4294967296) then true else decide (aq .u64 (x.2.1*y0)>aq .u64 (aq .u64 (4294967296*x.1)+u0))) then
 (bif decide (aq .u64 (x.1+y1)>=4294967296) then Ql y1 y0 Y u0 P q1 un (aq .u64 (x.2.1 - 1)) else again (aq .u64 (x.1+y1),aq .u64 (x.2.1 - 1),aQ)) else Ql y1 y0 Y u0 P q1 un x.2.1)
 (aq .u64 (un - aq .u64 (aq .u64 (Int.tdiv un y1)*y1)),aq .u64 (Int.tdiv un y1),aQ)
theorem SC {y1 y0 u0 P q1 un:Int} (hu:0<=u0/\u0<4294967296) (h0:0<=y0/\y0<4294967296) (h1:2147483648<=y1/\y1<4294967296) (hU0:0<=un) (hU:un<y1*4294967296+y0) :
  dv2 y1 y0 (y1*4294967296+y0) u0 P q1 un=Ql y1 y0 (y1*4294967296+y0) u0 P q1 un ((un*4294967296+u0) / (y1*4294967296+y0)):=by
 obtain ⟨i1,i2,i3,i4,i5,i6⟩:=yG (U:=un) hu h0 h1 hU0 hU
 unfold dv2
 rw[Int.tdiv_eq_ediv_of_nonneg hU0]
 have hm:un / y1*y1<=un:=by omega
 have hm0:0<=un / y1*y1:=mK i2 (by omega)
 rw[aU (x:=un / y1) i2 (by omega),aU (x:=un / y1*y1) hm0 (by omega),aU (x:=un - un / y1*y1) (by omega) (by omega)]
 refine yO (α:=Int×Int×PUnit) (enc:=fun q r=>(r,q,aQ)) (dec:=fun x=>x.2.1) (fun _ _=>rfl) hu.1 h0 h1 hU0 (by omega) ?_ ?_ i1 i2 i3 i4 i5 i6
 ·intro again q r g1 g2 g3 g4 g5
  have e1:0<=q*y0:=mK (by omega) h0.1
  have e2:q*y0<=4294967297*4294967295:=Int.mul_le_mul g2 (by omega) h0.1 (by omega)
  simp only
  rw[aU (x:=q*y0) e1 (by omega),aU (x:=4294967296*r) (by omega) (by omega),aU (x:=4294967296*r+u0) (by omega) (by omega),aU (x:=r+y1) (by omega) (by omega),aU (x:=q - 1) (by omega) (by omega)]
  have e:(bif decide (q>=4294967296) then true else decide (q*y0>4294967296*r+u0))=true:=by
   rcases g5 with ht | ht
   ·rw[z7 ht];rfl
   ·rw[z7 ht];cases decide (q>=4294967296)<;>rfl
  rw[e,cT]
 ·intro again q r g1 g2 g3 g4 g5
  have e1:0<=q*y0:=mK (by omega) h0.1
  have e2:q*y0<=4294967297*4294967295:=Int.mul_le_mul (by omega) (by omega) h0.1 (by omega)
  simp only
  rw[aU (x:=q*y0) e1 (by omega),aU (x:=4294967296*r) (by omega) (by omega),aU (x:=4294967296*r+u0) (by omega) (by omega)]
  rw[z8 (show ¬ q>=4294967296 by omega),z8 g5,cF,cF]
def Oy (y1 y0 Y u1 u0 P U:Int) (q1:Int):Option (Int×Int×Unit):=dv2 y1 y0 Y u0 P q1 (aq .u64 (aq .u64 (aq .u64 (U*4294967296)+u1) - aq .u64 (q1*Y)))
def dv1 (y1 y0 Y u1 u0 P U:Int):Option (Int×Int×Unit):=lpK (Int×Int×PUnit) (Int×Int×PUnit) (fun again x=>bif (bif decide (x.1>=4294967296) then true else decide (aq .u64 (x.1*y0)>aq .u64 (aq .u64 (4294967296*x.2.1)+u1))) then
 (bif decide (aq .u64 (x.2.1+y1)>=4294967296) then Oy y1 y0 Y u1 u0 P U (aq .u64 (x.1 - 1)) else again (aq .u64 (x.1 - 1),aq .u64 (x.2.1+y1),aQ)) else Oy y1 y0 Y u1 u0 P U x.1)
 (aq .u64 (Int.tdiv U y1),aq .u64 (U - aq .u64 (aq .u64 (Int.tdiv U y1)*y1)),aQ)
theorem Tr {y1 y0 u1 u0 P U:Int} (hu:0<=u1/\u1<4294967296) (h0:0<=y0/\y0<4294967296) (h1:2147483648<=y1/\y1<4294967296) (hU0:0<=U) (hU:U<y1*4294967296+y0) :
  dv1 y1 y0 (y1*4294967296+y0) u1 u0 P U=Oy y1 y0 (y1*4294967296+y0) u1 u0 P U ((U*4294967296+u1) / (y1*4294967296+y0)):=by
 obtain ⟨i1,i2,i3,i4,i5,i6⟩:=yG (U:=U) hu h0 h1 hU0 hU
 unfold dv1
 rw[Int.tdiv_eq_ediv_of_nonneg hU0]
 have hm:U / y1*y1<=U:=by omega
 have hm0:0<=U / y1*y1:=mK i2 (by omega)
 rw[aU (x:=U / y1) i2 (by omega),aU (x:=U / y1*y1) hm0 (by omega),aU (x:=U - U / y1*y1) (by omega) (by omega)]
 refine yO (α:=Int×Int×PUnit) (enc:=fun q r=>(q,r,aQ)) (dec:=fun x=>x.1) (fun _ _=>rfl) hu.1 h0 h1 hU0 (by omega) ?_ ?_ i1 i2 i3 i4 i5 i6
 ·intro again q r g1 g2 g3 g4 g5
  have e1:0<=q*y0:=mK (by omega) h0.1
  have e2:q*y0<=4294967297*4294967295:=Int.mul_le_mul g2 (by omega) h0.1 (by omega)
  simp only
  rw[aU (x:=q*y0) e1 (by omega),aU (x:=4294967296*r) (by omega) (by omega),aU (x:=4294967296*r+u1) (by omega) (by omega),aU (x:=r+y1) (by omega) (by omega),aU (x:=q - 1) (by omega) (by omega)]
  have e:(bif decide (q>=4294967296) then true else decide (q*y0>4294967296*r+u1))=true:=by
   rcases g5 with ht | ht
   ·rw[z7 ht];rfl
   ·rw[z7 ht];cases decide (q>=4294967296)<;>rfl
  rw[e,cT]
 ·intro again q r g1 g2 g3 g4 g5
  have e1:0<=q*y0:=mK (by omega) h0.1
  have e2:q*y0<=4294967297*4294967295:=Int.mul_le_mul (by omega) (by omega) h0.1 (by omega)
  simp only
  rw[aU (x:=q*y0) e1 (by omega),aU (x:=4294967296*r) (by omega) (by omega),aU (x:=4294967296*r+u1) (by omega) (by omega)]
  rw[z8 (show ¬ q>=4294967296 by omega),z8 g5,cF,cF]
theorem UZ {U W Y P:Nat} (hY:9223372036854775808<=Y) (hY2:Y<18446744073709551616) (hW:W<18446744073709551616) (hU:U<Y) :
  dv1 ((Y:Int) / 4294967296) ((Y:Int) % 4294967296) (Y:Int) ((W:Int) / 4294967296) ((W:Int) % 4294967296) (P:Int) (U:Int)=some ((((U*18446744073709551616+W) / Y:Nat):Int),(((U*18446744073709551616+W) % Y / P:Nat):Int),()):=by
 have eY:(Y:Int) / 4294967296*4294967296+(Y:Int) % 4294967296=Y:=by omega
 have h1:=Tr (y1:=(Y:Int) / 4294967296) (y0:=(Y:Int) % 4294967296) (u1:=(W:Int) / 4294967296) (u0:=(W:Int) % 4294967296) (P:=(P:Int)) (U:=(U:Int)) (by omega) (by omega) (by omega) (by omega) (by omega)
 rw[eY] at h1
 rw[h1]
 unfold Oy
 obtain ⟨A,hA⟩:∃A:Nat,A=U*4294967296+W / 4294967296:=⟨_,rfl⟩
 have hAi:(U:Int)*4294967296+(W:Int) / 4294967296=(A:Int):=by omega
 rw[hAi]
 have hq1:A / Y<4294967296:=(Nat.div_lt_iff_lt_mul (by omega)).2 (by omega)
 have d1:=Nat.div_add_mod A Y
 have d2:=Nat.mod_lt A (show Y>0 by omega)
 rw[show (A:Int) / (Y:Int)=((A / Y:Nat):Int) from rfl]
 have hun:aq .u64 (aq .u64 (aq .u64 ((U:Int)*4294967296)+(W:Int) / 4294967296) - aq .u64 (((A / Y:Nat):Int)*(Y:Int)))=((A % Y:Nat):Int):=by
  rw[<-gO,iS (A / Y)]
  generalize A / Y=q1 at *
  generalize Y*q1=m at *
  rw[fD,fD,fD,fD]
  omega
 rw[hun]
 have h2:=SC (y1:=(Y:Int) / 4294967296) (y0:=(Y:Int) % 4294967296) (u0:=(W:Int) % 4294967296) (P:=(P:Int)) (q1:=((A / Y:Nat):Int)) (un:=((A % Y:Nat):Int)) (by omega) (by omega) (by omega) (by omega) (by omega)
 rw[eY] at h2
 rw[h2]
 unfold Ql
 obtain ⟨B,hB⟩:∃B:Nat,B=A % Y*4294967296+W % 4294967296:=⟨_,rfl⟩
 have hBi:((A % Y:Nat):Int)*4294967296+(W:Int) % 4294967296=(B:Int):=by omega
 rw[hBi,show (B:Int) / (Y:Int)=((B / Y:Nat):Int) from rfl]
 have hq0:B / Y<4294967296:=(Nat.div_lt_iff_lt_mul (by omega)).2 (by omega)
 have d3:=Nat.div_add_mod B Y
 have d4:=Nat.mod_lt B (show Y>0 by omega)
 have hN:U*18446744073709551616+W=(A / Y*4294967296+B / Y)*Y+B % Y:=by
  rw[iN,Nat.mul_right_comm,iS (A / Y),iS (B / Y)]
  omega
 obtain ⟨n1,n2⟩:=wZ d4 hN
 rw[n1,n2]
 have hrest:aq .u64 (aq .u64 (aq .u64 (((A % Y:Nat):Int)*4294967296)+(W:Int) % 4294967296) - aq .u64 (((B / Y:Nat):Int)*(Y:Int)))=((B % Y:Nat):Int):=by
  rw[<-gO,iS (B / Y)]
  generalize B / Y=q0 at *
  generalize Y*q0=m at *
  generalize A % Y=r1 at *
  rw[fD,fD,fD,fD]
  omega
 rw[hrest,mA (by omega)]
 generalize A / Y=q1 at *
 generalize B / Y=q0 at *
 rw[aU (x:=(q1:Int)*4294967296) (by omega) (by omega),aU (by omega) (by omega)]
 rfl
theorem DX (m n:Nat):Int.tmod (m:Int) (n:Int)=((m % n:Nat):Int):=by
 rw[Int.tmod_eq_emod_of_nonneg (by omega)]
 rfl
theorem jnT {α R:Type} (j:α->Option R) (f:(α->Option R)->Option R):jnK α R j f=f j:=Eq.trans rfl rfl
theorem Mo {h l y:Nat} (hy:h<y) (hy2:y<18446744073709551616) (hl0:l<18446744073709551616):cz (h:Int) (l:Int) (y:Int)=some ((((h*18446744073709551616+l) / y:Nat):Int),(((h*18446744073709551616+l) % y:Nat):Int),()):=by
 simp only[cz,qq,jnT]
 rw[z8 (show ¬ (y:Int)=0 by omega),cF,z8 (show ¬ (y:Int)<=(h:Int) by omega),cF]
 have hz:nzB (y:Int)=true:=oD (by omega)
 by_cases h0:h=0
 ·subst h0
  rw[z7 (show ((0:Nat):Int)=0 from rfl),cT,hz,cT,cT,kn,DX,Nat.zero_mul,dO]
  have:=j_ l y
  generalize l / y=d at *
  rw[aU (by omega) (by omega)]
 ·rw[z8 (show ¬ (h:Int)=0 by omega),cF]
  obtain ⟨L,e1,⟨e2,e3⟩,e4⟩:=Oq (n:=y) (by omega) hy2
  simp only[cf,iz,e1,af]
  rw[ap (x:=64 - (L:Int)) (by omega) (by omega)]
  obtain ⟨s,hs⟩:∃s:Nat,L+s=64:=⟨64 - L,by omega⟩
  have w1:aq .u64 (64 - (L:Int))=(s:Int):=by rw[aU (by omega) (by omega)];omega
  have w2:aq .u64 (64 - (s:Int))=(L:Int):=by rw[aU (by omega) (by omega)];omega
  have p2:∀k:Nat,(2:Int) ^ k=((2 ^ k:Nat):Int):=fun k=>by rw[Int.natCast_pow];rfl
  have p32:(2:Int) ^ (32:Nat)=4294967296:=by decide
  simp only[w1,w2,z9,Nat.min_eq_left (show s<=64 by omega),Nat.min_eq_left (show L<=64 by omega),p32]
  simp only[p2]
  have hPQ:2 ^ s*2 ^ L=18446744073709551616:=by rw[<-Nat.pow_add,show s+L=64 by omega]
  have hP:0<2 ^ s:=Nat.two_pow_pos s
  have hQ:0<2 ^ L:=Nat.two_pow_pos L
  have hYlt:y*2 ^ s<18446744073709551616:=by rw[<-hPQ,iS (2 ^ s)];exact Nat.mul_lt_mul_of_pos_right e2 hP
  have hYge:9223372036854775808<=y*2 ^ s:=by
   have:=mV (2 ^ s) e3
   rw[iS (2 ^ L),hPQ,Nat.mul_assoc] at this
   omega
  have hhP:h*2 ^ s+2 ^ s<=y*2 ^ s:=by rw[<-Nat.succ_mul];exact mV _ hy
  have hlQ:l / 2 ^ L<2 ^ s:=by rw[Nat.div_lt_iff_lt_mul hQ,hPQ];exact hl0
  have hlor:aq .u64 ((Nat.lor (aS (aq .u64 ((h:Int)*((2 ^ s:Nat):Int)) % bY 18446744073709551616)) (aS (l_ (l:Int) ((2 ^ L:Nat):Int) % bY 18446744073709551616)):Nat):Int)=((h*2 ^ s+l / 2 ^ L:Nat):Int):=by
   have a1:aq .u64 ((h:Int)*((2 ^ s:Nat):Int))=((h*2 ^ s:Nat):Int):=by rw[<-gO,aU (by omega) (by omega)]
   have a2:l_ (l:Int) ((2 ^ L:Nat):Int)=((l / 2 ^ L:Nat):Int):=by rw[mA (by omega)];rfl
   have a3:∀n:Nat,n<18446744073709551616->aS ((n:Int) % bY 18446744073709551616)=n:=fun n hn=>by
    rw[show bY 18446744073709551616=(18446744073709551616:Int) from rfl];omega
   rw[a1,a2,a3 (h*2 ^ s) (by omega),a3 (l / 2 ^ L) (by omega),OS hlQ]
   exact aU (Int.natCast_nonneg _) (by
    have h5:h*2 ^ s+l / 2 ^ L<18446744073709551616:=by omega
    exact Int.ofNat_lt.2 h5)
  have hlo:aq .u64 ((l:Int)*((2 ^ s:Nat):Int))=((l % 2 ^ L*2 ^ s:Nat):Int):=by
   rw[<-gO,fD]
   have a1:l*2 ^ s=(l / 2 ^ L)*18446744073709551616+l % 2 ^ L*2 ^ s:=by
    rw[<-hPQ,iS (2 ^ s),<-Nat.mul_assoc,<-iN,iS (l / 2 ^ L),Nat.div_add_mod]
   have a2:l % 2 ^ L*2 ^ s<18446744073709551616:=by rw[<-hPQ,iS (2 ^ s)];exact Nat.mul_lt_mul_of_pos_right (Nat.mod_lt _ hQ) hP
   rw[a1]
   generalize l / 2 ^ L=A at *
   generalize l % 2 ^ L*2 ^ s=B at *
   omega
  have hlolt:l % 2 ^ L*2 ^ s<18446744073709551616:=by rw[<-hPQ,iS (2 ^ s)];exact Nat.mul_lt_mul_of_pos_right (Nat.mod_lt _ hQ) hP
  have hN:(h*18446744073709551616+l)*2 ^ s=(h*2 ^ s+l / 2 ^ L)*18446744073709551616+l % 2 ^ L*2 ^ s:=by
   have a1:l*2 ^ s=(l / 2 ^ L)*18446744073709551616+l % 2 ^ L*2 ^ s:=by
    rw[<-hPQ,iS (2 ^ s),<-Nat.mul_assoc,<-iN,iS (l / 2 ^ L),Nat.div_add_mod]
   rw[iN,a1,iN,Nat.mul_right_comm]
   omega
  have hY:aq .u64 ((y:Int)*((2 ^ s:Nat):Int))=((y*2 ^ s:Nat):Int):=by rw[<-gO,aU (by omega) (by omega)]
  have hdiv:(h*18446744073709551616+l) / y=((h*2 ^ s+l / 2 ^ L)*18446744073709551616+l % 2 ^ L*2 ^ s) / (y*2 ^ s):=by rw[<-hN,Nat.mul_div_mul_right _ _ hP]
  have hmod:((h*18446744073709551616+l) % y)*2 ^ s=((h*2 ^ s+l / 2 ^ L)*18446744073709551616+l % 2 ^ L*2 ^ s) % (y*2 ^ s):=by rw[<-hN,Nat.mul_mod_mul_right]
  rw[hlor,hlo,hY]
  have hU:h*2 ^ s+l / 2 ^ L<y*2 ^ s:=by omega
  have hm:(h*18446744073709551616+l) % y=((h*2 ^ s+l / 2 ^ L)*18446744073709551616+l % 2 ^ L*2 ^ s) % (y*2 ^ s) / 2 ^ s:=by rw[<-hmod,Nat.mul_div_cancel _ hP]
  rw[hdiv,hm]
  generalize h*2 ^ s+l / 2 ^ L=U at *
  generalize l % 2 ^ L*2 ^ s=W at *
  generalize y*2 ^ s=Y at *
  generalize 2 ^ s=P at *
  clear e2 e3 e1 hlor hlo hN hdiv hmod hm hlQ hPQ hhP hY
  have hdv:=UZ (P:=P) hYge hYlt hlolt hU
  rw[<-hdv]
  have c1:decide ((0:Int)<=(s:Int))=true:=z7 (by omega)
  have c2:decide ((0:Int)<=(L:Int))=true:=z7 (by omega)
  have c3:decide ((0:Int)<=(32:Int))=true:=rfl
  have c4:nzB ((Y:Int) / 4294967296)=true:=oD (by omega)
  have m1:∀n:Nat,n<18446744073709551616->aq .u64 ((Nat.land (aS ((n:Int) % bY 18446744073709551616)) (aS ((4294967295:Int) % bY 18446744073709551616)):Nat):Int)=(n:Int) % 4294967296:=fun n hn=>by
   rw[sd (by omega) (by omega),aU (by omega) (by omega)]
  simp only[mA (show (0:Int)<=4294967296 by omega),c1,c2,c3,c4,m1 Y hYlt,m1 W hlolt,gw,Bool.not_not,g_,cT]
  rfl
end
end Go.Proofs.YtlfdhaiigdllcaaGreat

namespace Go.Proofs.YtlfdhaiigdllcaaGreat
open Tryz Dn Dn.Sh
theorem Hw {n b:Nat} (hb0:0<b) (hb:b<18446744073709551616) (hn:n<340282366920938463463374607431768211456):dJ (hl n) (b:Int)=some (hl (n / b),((n % b:Nat):Int),()):=by
 have hz:nzB (b:Int)=true:=oD (by omega)
 obtain ⟨h,l,hh,hl',hnn⟩:∃h l:Nat,h=n / 18446744073709551616/\l=n % 18446744073709551616/\n=h*18446744073709551616+l:=⟨_,_,rfl,rfl,by omega⟩
 have e:hl n=((h:Int),(l:Int)):=by unfold hl;rw[hh,hl']
 rw[e]
 simp only[dJ,qu]
 rw[hz,DX,Mo (Nat.mod_lt h hb0) hb (by omega),af]
 have d1:=Nat.div_add_mod h b
 have d2:=Nat.mod_lt h hb0
 obtain ⟨A,hA⟩:∃A,A=h % b*18446744073709551616+l:=⟨_,rfl⟩
 rw[<-hA]
 have d3:=Nat.div_add_mod A b
 have d4:=Nat.mod_lt A hb0
 have d5:A / b<18446744073709551616:=(Nat.div_lt_iff_lt_mul hb0).2 (by
  have:(h % b+1)*18446744073709551616<=b*18446744073709551616:=mV _ d2
  rw[iS 18446744073709551616 b]
  omega)
 have hN:n=(h / b*18446744073709551616+A / b)*b+A % b:=by
  have e1:(h / b*18446744073709551616+A / b)*b=b*(h / b)*18446744073709551616+b*(A / b):=by grind
  rw[e1,hnn]
  generalize b*(h / b)=x at *
  generalize b*(A / b)=y at *
  generalize A % b=r at *
  generalize h % b=r1 at *
  clear e hz hb0 hb hn hh hl' hnn d5 e1
  omega
 obtain ⟨n1,n2⟩:=wZ d4 hN
 rw[n1,n2,kn]
 have d6:h / b<18446744073709551616:=Nat.lt_of_le_of_lt (j_ h b) (by omega)
 generalize h / b=x at *
 generalize A / b=y at *
 rw[aU (x:=(x:Int)) (by omega) (by omega)]
 unfold hl
 rw[show (x*18446744073709551616+y) / 18446744073709551616=x by omega,show (x*18446744073709551616+y) % 18446744073709551616=y by omega]
 rfl
theorem Hy {na nb:Int} {da A B:Nat} (ha:bT na.natAbs da=1) (hA:A∣da) (hAB:bT A B=1):bT (na*B+nb*A).natAbs A=1:=by
 have d1:=Nat.gcd_dvd_left (na*B+nb*A).natAbs A
 have d2:=nE (na*B+nb*A).natAbs A
 generalize bT (na*B+nb*A).natAbs A=d at *
 have e1:(d:Int)∣na*B+nb*A:=Int.ofNat_dvd_left.2 d1
 have e2:(d:Int)∣nb*A:=Int.dvd_mul_of_dvd_right (Int.ofNat_dvd.2 d2)
 have e3:(d:Int)∣na*B:=(Int.dvd_iff_dvd_of_dvd_add e1).2 e2
 have e4:d∣na.natAbs*B:=by
  have:=Int.ofNat_dvd_left.1 e3
  rwa [Int.natAbs_mul,Int.natAbs_natCast] at this
 have e5:Nat.Coprime d na.natAbs:=(Nat.Coprime.coprime_dvd_right (Nat.dvd_trans d2 hA) ha).symm
 have e6:d∣B:=Nat.Coprime.dvd_of_dvd_mul_left e5 e4
 have e7:=Nat.dvd_gcd d2 e6
 rw[hAB] at e7
 exact Nat.dvd_one.1 e7
theorem JJ {na nb:Int} {da db g A B:Nat} (ha:bT na.natAbs da=1) (hb:bT nb.natAbs db=1) (h1:da=A*g) (h2:db=B*g) (hAB:bT A B=1) (hg:0<g) (hA:0<A) (hB:0<B) {c:Nat} (hc:c=bT g (na*B+nb*A).natAbs) :
  mkRat na da+mkRat nb db=mkRat (na*B+nb*A) (A*db)/\bT ((na*B+nb*A).natAbs / c) (A*(db / c))=1/\0<c/\c∣(na*B+nb*A).natAbs/\c∣db:=by
 have hc0:0<c:=by rw[hc];exact Nat.gcd_pos_of_pos_left _ hg
 have k1:bT (na*B+nb*A).natAbs A=1:=Hy ha ⟨g,h1⟩ hAB
 have k2:bT (na*B+nb*A).natAbs B=1:=by
  rw[Int.add_comm]
  exact Hy hb ⟨g,h2⟩ (by rw[Nat.gcd_comm];exact hAB)
 have c1:c∣(na*B+nb*A).natAbs:=by rw[hc];exact nE _ _
 have c2:c∣g:=by rw[hc];exact Nat.gcd_dvd_left _ _
 refine ⟨?_,?_,hc0,c1,by rw[h2];exact Nat.dvd_trans c2 (Nat.dvd_mul_left g B)⟩
 ·have p1:0<A*g:=Nat.mul_pos hA hg
  have p2:0<B*g:=Nat.mul_pos hB hg
  have p3:0<A*(B*g):=Nat.mul_pos hA p2
  rw[Rat.mkRat_add_mkRat _ _ (by omega) (by omega),h1,h2,Rat.mkRat_eq_iff (Nat.ne_of_gt (Nat.mul_pos p1 p2)) (by omega)]
  simp only[gO]
  grind
 ·have c3:bT ((na*B+nb*A).natAbs / c) (g / c)=1:=by
   rw[hc,Nat.gcd_comm]
   exact Nat.gcd_div_gcd_div_gcd_of_pos_left hg
  have hdb:db / c=B*(g / c):=by rw[h2,Nat.mul_div_assoc _ c2]
  have dv:(na*B+nb*A).natAbs / c∣(na*B+nb*A).natAbs:=Nat.div_dvd_of_dvd c1
  rw[hdb]
  exact Nat.Coprime.mul_right (Nat.Coprime.coprime_dvd_left dv k1) (Nat.Coprime.mul_right (Nat.Coprime.coprime_dvd_left dv k2) c3)
theorem Lf {a b:Fq} (ha:okF a) (hb:okF b):cn a b=some (uZ (qv a+qv b)):=by
 obtain ⟨na,da'⟩:=a
 obtain ⟨nb,db'⟩:=b
 have ha':=ha
 have hb':=hb
 unfold okF at ha' hb'
 simp only at ha' hb'
 obtain ⟨⟨a1,a2⟩,⟨a3,a4⟩,a5⟩:=ha'
 obtain ⟨⟨b1,b2⟩,⟨b3,b4⟩,b5⟩:=hb'
 obtain ⟨da,rfl⟩:∃da:Nat,da'=da:=⟨da'.toNat,by omega⟩
 obtain ⟨db,rfl⟩:∃db:Nat,db'=db:=⟨db'.toNat,by omega⟩
 rw[Int.natAbs_natCast] at a5 b5
 simp only[cn,sW,zV,z7 ha,z7 hb,af,bX,iF,Bool.or_true,cT,cF,jnT]
 rw[aU (x:=(da:Int)) (by omega) (by omega),aU (x:=(db:Int)) (by omega) (by omega),wv _ _ (by omega),af,qO (by omega) (by omega),af,qO (by omega) (by omega)]
 have hg:0<bT da db:=Nat.gcd_pos_of_pos_left _ (by omega)
 have hgl:bT da db<=da:=Nat.gcd_le_left _ (by omega)
 obtain ⟨A,hA⟩:∃A,A=da / bT da db:=⟨_,rfl⟩
 obtain ⟨B,hB⟩:∃B,B=db / bT da db:=⟨_,rfl⟩
 have hAg:da=A*bT da db:=by rw[hA,Nat.div_mul_cancel (Nat.gcd_dvd_left _ _)]
 have hBg:db=B*bT da db:=by rw[hB,Nat.div_mul_cancel (nE _ _)]
 have hAB:bT A B=1:=by rw[hA,hB];exact Nat.gcd_div_gcd_div_gcd_of_pos_left (by omega)
 have hA0:0<A:=by rw[hA];exact Nat.div_pos (Nat.gcd_le_left _ (by omega)) hg
 have hB0:0<B:=by rw[hB];exact Nat.div_pos (Nat.gcd_le_right _ (by omega)) hg
 have hAl:A<=da:=by rw[hA];exact j_ _ _
 have hBl:B<=db:=by rw[hB];exact j_ _ _
 have hz:nzB ((bT da db:Nat):Int)=true:=oD (by omega)
 rw[hz,cT,kn,kn,<-hA,<-hB,aU (x:=(A:Int)) (by omega) (by omega),aU (x:=(B:Int)) (by omega) (by omega)]
 have x1:na.natAbs*B<=1152921504606846976*1152921504606846976:=Nat.mul_le_mul (by omega) (by omega)
 have y1:nb.natAbs*A<=1152921504606846976*1152921504606846976:=Nat.mul_le_mul (by omega) (by omega)
 rw[nP (by omega) (by omega),af,af,cT,nP (by omega) (by omega),af]
 have hsum:=JJ (na:=na) (nb:=nb) a5 b5 hAg hBg hAB hg hA0 hB0 rfl
 generalize bT da db=g at *
 have hv:qv (na,(da:Int))+qv (nb,(db:Int))=mkRat na da+mkRat nb db:=rfl
 rw[hv,hsum.1]
 simp only[gw,Bool.not_not,cT]
 have tail:∀(s:Bool) (N:Nat),N<=2658455991569831745807614120560689152->sgn s N=na*B+nb*A->(bif decide ((hl N).1=0)&&(decide ((hl N).2=0)&&true) then some (((0:Int),(1:Int)),(0:Int),aQ) else
   ah (dJ (hl N) (g:Int)) fun t_5=>ah (bj (g:Int) t_5.2.1) fun t_1=>ah (dJ (hl N) t_1) fun t_6=>bif nzB t_1 then ah (aI (A:Int) (aq .u64 (Int.tdiv (db:Int) t_1))) fun t =>
    bif bif decide (t_6.1.1>0) then true else decide (t.1>0) then some (((0:Int),(0:Int)),(5:Int),aQ) else ah (aY s t_6.1.2 t.2) fun t=>some (t.1,t.2.1,aQ) else none)=some (uZ (mkRat (na*B+nb*A) (A*db))):=by
  intro s N hN hs
  have hNT:(na*B+nb*A).natAbs=N:=by rw[<-hs];unfold sgn;split<;>simp
  rw[hNT] at hsum
  rw[ye (by omega)]
  by_cases h0:N=0
  ·rw[z7 h0,cT,<-hs,h0,show sgn s 0=0 by unfold sgn;cases s<;>rfl,Rat.zero_mkRat]
   rfl
  ·obtain ⟨c,hc⟩:∃c,c=bT g N:=⟨_,rfl⟩
   rw[<-hc] at hsum
   obtain ⟨_,s2,s3,s4,s5⟩:=hsum
   have hcg:c<=g:=by rw[hc];exact Nat.gcd_le_left _ hg
   rw[z8 h0,cF,Hw hg (by omega) (by omega),af,wv _ _ (by have:=Nat.mod_lt N hg;generalize N % g=w at *;omega),af,Nat.gcd_comm,<-Nat.gcd_rec,<-hc,Hw s3 (by omega) (by omega),af,oD (by omega),cT,kn]
   have hdc:db / c<=db:=j_ _ _
   have hdc0:0<db / c:=Nat.div_pos (Nat.le_of_dvd (by omega) s5) s3
   rw[aU (by omega) (by generalize db / c=w at *;omega),nP (by omega) (by generalize db / c=w at *;omega),af]
   have hNc:N / c<=N:=j_ _ _
   have hval:mkRat (na*B+nb*A) (A*db)=mkRat (sgn s (N / c)) (A*(db / c)):=by
    rw[<-hs]
    refine tR (Nat.mul_pos hA0 (by omega)) (Nat.mul_pos hA0 hdc0) ?_
    obtain ⟨x,rfl⟩:=s4
    obtain ⟨y,rfl⟩:=s5
    rw[Nat.mul_div_cancel_left _ s3,Nat.mul_div_cancel_left _ s3]
    grind
   rw[hval,vr (Nat.mul_pos hA0 hdc0) s2]
   have hden:A*(db / c)<=1152921504606846976*1152921504606846976:=Nat.mul_le_mul (by omega) (by omega)
   generalize N / c=n at *
   generalize A*(db / c)=d at *
   by_cases hn:n<18446744073709551616
   ·by_cases hd:d<18446744073709551616
    ·rw[iW hn,iW hd]
     simp only
     rw[show decide ((0:Int)>0)=false from rfl,cF,cF,wS _ _ _ hn hd,af]
    ·rw[iW hn]
     simp only
     rw[show decide ((0:Int)>0)=false from rfl,z7 (CJ hd),cF,cT,if_neg (by omega)]
   ·rw[z7 (CJ hn),cT,cT,if_neg (by omega)]
 have sx:∀{n:Int} {s:Bool},s=decide (n<0)->n=sgn s n.natAbs:=fun {n s} h=>by rw[h];exact gP n
 by_cases hsg:decide (na<0)=decide (nb<0)
 ·rw[z7 hsg,cT,Lb (by omega),af]
  refine tail _ _ (by omega) ?_
  have e1:na=sgn (decide (na<0)) na.natAbs:=gP na
  have e2:nb=sgn (decide (na<0)) nb.natAbs:=by rw[hsg];exact gP nb
  generalize na.natAbs=m at *
  generalize nb.natAbs=n at *
  generalize decide (na<0)=s at *
  rw[e1,e2]
  unfold sgn
  cases s
  ·simp only[ld,if_false]
   rw[Int.natCast_add,gO,gO]
  ·simp only[if_true]
   rw[Int.natCast_add,gO,gO]
   grind
 ·have e1:na=sgn (decide (na<0)) na.natAbs:=gP na
  have e2:nb=sgn (!decide (na<0)) nb.natAbs:=by
   have:(!decide (na<0))=decide (nb<0):=by
    clear tail sx hsum hv ha hb
    revert hsg
    cases decide (na<0)<;>cases decide (nb<0)<;>simp
   rw[this];exact gP nb
  rw[z8 hsg,cF,NT,af]
  by_cases hlt:na.natAbs*B<nb.natAbs*A
  ·rw[z7 hlt,cT,AY (by omega) (by omega),af]
   refine tail _ _ (by omega) ?_
   generalize na.natAbs=m at *
   generalize nb.natAbs=n at *
   generalize decide (na<0)=s at *
   rw[e1,e2]
   have e3:(((n*A - m*B:Nat)):Int)=(n:Int)*A - (m:Int)*B:=by rw[Int.ofNat_sub (Nat.le_of_lt hlt),gO,gO]
   unfold sgn
   cases s
   ·simp only[ld,if_false,iF,if_true]
    grind
   ·simp only[if_true,bX,ld,if_false]
    grind
  ·rw[z8 hlt,cF,AY (by omega) (by omega),af]
   refine tail _ _ (by omega) ?_
   generalize na.natAbs=m at *
   generalize nb.natAbs=n at *
   generalize decide (na<0)=s at *
   rw[e1,e2]
   have e3:(((m*B - n*A:Nat)):Int)=(m:Int)*B - (n:Int)*A:=by rw[Int.ofNat_sub (Nat.not_lt.1 hlt),gO,gO]
   unfold sgn
   cases s
   ·simp only[ld,if_false,iF,if_true]
    grind
   ·simp only[if_true,bX,ld,if_false]
    grind
theorem NS {na nb:Int} {A B:Nat} (h:decide (na<0)=decide (nb<0)):sgn (decide (na<0)) (na.natAbs*B+nb.natAbs*A)=na*B+nb*A:=by
 have e1:na=sgn (decide (na<0)) na.natAbs:=gP na
 have e2:nb=sgn (decide (na<0)) nb.natAbs:=by rw[h];exact gP nb
 generalize na.natAbs=m at *
 generalize nb.natAbs=n at *
 generalize decide (na<0)=s at *
 rw[e1,e2]
 unfold sgn
 cases s
 ·simp only[ld,if_false]
  rw[Int.natCast_add,gO,gO]
 ·simp only[if_true]
  rw[Int.natCast_add,gO,gO]
  grind
theorem Dw {na nb:Int} (h:¬ decide (na<0)=decide (nb<0)):nb=sgn (!decide (na<0)) nb.natAbs:=by
 have:(!decide (na<0))=decide (nb<0):=by
  revert h
  cases decide (na<0)<;>cases decide (nb<0)<;>simp
 rw[this];exact gP nb
theorem Mz {na nb:Int} {A B:Nat} (h:¬ decide (na<0)=decide (nb<0)) (hlt:na.natAbs*B<nb.natAbs*A):sgn (!decide (na<0)) (nb.natAbs*A - na.natAbs*B)=na*B+nb*A:=by
 have e1:na=sgn (decide (na<0)) na.natAbs:=gP na
 have e2:=Dw h
 generalize na.natAbs=m at *
 generalize nb.natAbs=n at *
 generalize decide (na<0)=s at *
 rw[e1,e2]
 have e3:(((n*A - m*B:Nat)):Int)=(n:Int)*A - (m:Int)*B:=by rw[Int.ofNat_sub (Nat.le_of_lt hlt),gO,gO]
 unfold sgn
 cases s
 ·simp only[ld,if_false,iF,if_true]
  grind
 ·simp only[if_true,bX,ld,if_false]
  grind
theorem J0 {na nb:Int} {A B:Nat} (h:¬ decide (na<0)=decide (nb<0)) (hlt:¬ na.natAbs*B<nb.natAbs*A):sgn (decide (na<0)) (na.natAbs*B - nb.natAbs*A)=na*B+nb*A:=by
 have e1:na=sgn (decide (na<0)) na.natAbs:=gP na
 have e2:=Dw h
 generalize na.natAbs=m at *
 generalize nb.natAbs=n at *
 generalize decide (na<0)=s at *
 rw[e1,e2]
 have e3:(((m*B - n*A:Nat)):Int)=(m:Int)*B - (n:Int)*A:=by rw[Int.ofNat_sub (Nat.not_lt.1 hlt),gO,gO]
 unfold sgn
 cases s
 ·simp only[ld,if_false,iF,if_true]
  grind
 ·simp only[if_true,bX,ld,if_false]
  grind
theorem QI {a b:Fq} (ha:okF a) (hb:okF b):io a b=some (uZ (qv a+qv b)):=by
 obtain ⟨na,da'⟩:=a
 obtain ⟨nb,db'⟩:=b
 have ha':=ha
 have hb':=hb
 unfold okF at ha' hb'
 simp only at ha' hb'
 obtain ⟨⟨a1,a2⟩,⟨a3,a4⟩,a5⟩:=ha'
 obtain ⟨⟨b1,b2⟩,⟨b3,b4⟩,b5⟩:=hb'
 obtain ⟨da,rfl⟩:∃da:Nat,da'=da:=⟨da'.toNat,by omega⟩
 obtain ⟨db,rfl⟩:∃db:Nat,db'=db:=⟨db'.toNat,by omega⟩
 simp only[io,rX]
 rw[wq (by omega) (by omega),af,wq (by omega) (by omega),af,Int.natAbs_natCast,Ca (by omega) (by omega),af,wq (by omega) (by omega),af,wq (by omega) (by omega),af,Int.natAbs_natCast,Ca (by omega) (by omega),af,af,af,Ca (by omega) (by omega),af]
 have x1:na.natAbs*db<=1152921504606846976*1152921504606846976:=Nat.mul_le_mul (by omega) (by omega)
 have y1:nb.natAbs*da<=1152921504606846976*1152921504606846976:=Nat.mul_le_mul (by omega) (by omega)
 have d1:da*db<=1152921504606846976*1152921504606846976:=Nat.mul_le_mul (by omega) (by omega)
 have d0:0<da*db:=Nat.mul_pos (by omega) (by omega)
 have hv:qv (na,(da:Int))+qv (nb,(db:Int))=mkRat (na*db+nb*da) (da*db):=Rat.mkRat_add_mkRat _ _ (by omega) (by omega)
 rw[hv]
 by_cases hs:decide (na<0)=decide (nb<0)
 ·rw[z7 hs,cT,G0 (by omega),af,zG (by omega) d0 (by omega),af,NS hs]
 ·rw[z8 hs,cF,CF,af]
  by_cases hlt:na.natAbs*db<nb.natAbs*da
  ·have e2:decide (nb<0)=!decide (na<0):=by
    clear ha hb hv
    revert hs
    cases decide (na<0)<;>cases decide (nb<0)<;>simp
   rw[z7 hlt,cT,sE (by omega) (by omega),af,zG (by omega) d0 (by omega),af,e2,Mz hs hlt]
  ·rw[z8 hlt,cF,sE (by omega) (by omega),af,zG (by omega) d0 (by omega),af,J0 hs hlt]
theorem F6 (z:Fq) {n:Nat} (hn:n<=1000000):bQ [z] (n:Int)=some (eX n z):=by
 have hm:eq (aq .u64 ((aC [z]:Nat):Int)) (aq .u64 (n:Int))=some (0,(n:Int),()):=by
  simp only[eq,uW]
  rw[aU (by simp) (by simp),aU (by omega) (by omega),VT (by simp) (by simp) (by omega) (by omega),af]
  simp only[List.length_singleton]
  congr 1
  refine Prod.ext ?_ (Prod.ext ?_ rfl)
  ·show ((1:Nat):Int)*n / 18446744073709551616=0
   omega
  ·show ((1:Nat):Int)*n % 18446744073709551616=n
   omega
 have hw:aq .i64 (n:Int)=(n:Int):=ap (by omega) (by omega)
 simp only[bQ,jf,jnT]
 rw[z8 (show ¬ (n:Int)<0 by omega),cF,hm,af]
 have h63:decide ((n:Int)>9223372036854775807)=false:=z8 (by omega)
 have hz0:decide ((0:Int)>0)=false:=rfl
 have hz1:decide ((0:Int)<=(n:Int))=true:=z7 (by omega)
 have hfb:fz n 16=true:=iH (by omega)
 simp only[hw,hz0,h63,hz1,z9,hfb,iF,bX,Bool.or_true,g_,cT,cF,List.drop_zero,List.take_zero,List.nil_append]
 refine jj (g:=fun _=>some (eX n z)) (I:=fun (x:Int×List Fq×PUnit)=>∃c:Nat,x.1=c/\c<=n/\(0<n->0<c)/\x.2.1.length=n/\x.2.1.take c=eX c z) (μ:=fun (x:Int×List Fq×PUnit)=>n - x.1.toNat) ?_ ?_ (by simp only;omega)
 ·rintro ⟨i,row,_⟩ rec ⟨c,h1,h2,h3,h4,h5⟩ hrec
  simp only at h1 h4 h5 hrec ⊢
  subst h1
  simp only[z9,h4]
  by_cases hc:c<n
  ·have hl:(List.take (n - c) (List.take c row)).length=min (n - c) c:=by rw[cl,cl,h4];omega
   rw[z7 (show (c:Int)<n by omega),cT,wG (by omega) (by omega) (by omega),wG (by omega) (by omega) (by omega),ff (by omega),ff (b_ n)]
   simp only[g_,cT]
   rw[ap (by omega) (by omega)]
   refine hrec _ ⟨c+min (n - c) c,?_,by omega,by omega,?_,?_⟩ ?_
   ·simp only;rw[hl];omega
   ·simp only[dg,ph,hl,h4,cl];omega
   ·simp only
    rw[List.take_append_of_le_length (by rw[dg,hl,cl,h4];omega),h5,List.take_replicate,List.replicate_append_replicate,List.take_replicate]
    congr 1
    omega
   ·simp only;rw[hl];omega
  ·have:c=n:=by omega
   subst this
   rw[z8 (show ¬ (c:Int)<c by omega),cF]
   rw[<-h5,List.take_of_length_le (by omega)]
 ·refine ⟨(List.take n [z]).length,rfl,by rw[cl];omega,fun h=>by rw[cl];simp;omega,?_,?_⟩
  ·simp only[dg,ph,List.length_replicate,cl,List.length_singleton];omega
  ·simp only
   rcases Nat.eq_zero_or_pos n with h | h
   ·subst h;rfl
   ·obtain ⟨m,rfl⟩:∃m,n=m+1:=⟨n - 1,by omega⟩
    simp
def gW (l:List Bm) (x:Ld):Rat:=mkRat x.2 (iP l x.1)
def ot (l:List Bm) (x:Ld) (S:Nat->Rat):Nat->Rat:=fun i=>if isB x.1 (lv l i) then S i+gW l x else S i
def zA (n:Nat) (S:Nat->Rat):Bool:=(n_ 0 n).all fun i=>decide (eE (S i))
def zk (l:List Bm):List Ld->(Nat->Rat)->Option (Nat->Rat)
 | [],S=>some S
 | x ::r,S=>if zA l.length (ot l x S) then zk l r (ot l x S) else none
def iC (n:Nat) (S:Nat->Rat):List Fq:=(n_ 0 n).map fun i=>prQ (S i)
theorem lu (n:Nat) (S:Nat->Rat):(iC n S).length=n:=by simp[iC]
theorem Ab {n i:Nat} (h:i<n) (S:Nat->Rat) {d:Fq}:(iC n S).getD i d=prQ (S i):=by
 rw[ca (by rw[lu];exact h)]
 simp[iC]
theorem rc {n:Nat} {S:Nat->Rat}:zA n S=true↔∀i,i<n->eE (S i):=by
 unfold zA
 rw[List.all_eq_true]
 constructor
 ·intro h i hi
  exact z12 (h i (List.mem_range'.2 ⟨i,hi,by omega⟩))
 ·intro h i hi
  obtain ⟨k,hk,rfl⟩:=List.mem_range'.1 hi
  exact z7 (h _ (by omega))
end Go.Proofs.YtlfdhaiigdllcaaGreat

namespace Go.Proofs.YtlfdhaiigdllcaaGreat
noncomputable section
open Tryz Dn Dn.Sh
abbrev Sg:=List Fq×Int×Int×List Fq×PUnit
abbrev Rg:=List Fq×Int×PUnit
def EL (share:Fq) (a:Int×Unit) (s:Sg) (k:Sg->Option Rg):Option Rg :=
 bif inB a.1 (aC s.2.2.2.1) then bif eS (iD (aS a.1)) (aC s.2.2.2.1) then ah (cn (a_ s.2.2.2.1 (aS a.1) ((0:Int),(0:Int))) share) fun (t:(Int×Int)×Int×PUnit) =>
  bif inB a.1 (aC s.2.2.2.1) then bif eS (iD (aS a.1)) (aC s.2.2.2.1) then bif !decide (t.2.1=(0:Int)) then some ([],t.2.1,aQ) else
   k (s.1,s.2.1,t.2.1,List.set s.2.2.2.1 (aS a.1) t.1,aQ) else none else none else none else none
def Ml (S:Nat->Rat) (i:Nat) (v:Rat):Nat->Rat:=fun j=>if j=i then v else S j
theorem L0 {n i:Nat} (S:Nat->Rat) (v:Rat):(iC n S).set i (prQ v)=iC n (Ml S i v):=by
 apply List.ext_getElem
 ·rw[k_,lu,lu]
 ·intro j h1 h2
  rw[List.getElem_set]
  simp only[iC,List.getElem_map,List.getElem_range',Ml]
  by_cases e:i=j
  ·subst e;simp
  ·rw[if_neg e,if_neg (by omega)]
theorem Nv {n i:Nat} {S:Nat->Rat} {q:Rat} (hi:i<n) (hS:∀j,j<n->eE (S j)) (hq:eE q) {d1:List Fq} {d2 e:Int} {k:Sg->Option Rg} :
  EL (prQ q) ((i:Int),()) (d1,d2,e,iC n S,()) k=if eE (S i+q) then k (d1,d2,0,iC n (Ml S i (S i+q)),()) else some ([],5,()):=by
 unfold EL
 simp only[lu,z9]
 rw[oM (by omega) (by omega),ff (by omega)]
 simp only[cT,Ab hi]
 rw[Lf (mi (hS i hi)) (mi hq),af,sF,sF]
 rcases qy (S i+q) with ⟨h1,h2⟩ | ⟨h1,h2⟩
 ·rw[h2,if_pos h1,L0]
  rfl
 ·rw[h2,if_neg h1]
  rfl
def vD (l:List Bm) (x:Ld) (S:Nat->Rat) (k:Nat):Nat->Rat:=fun j=>if j<k then ot l x S j else S j
theorem yH {l:List Bm} {x:Ld} {S:Nat->Rat} (hS:∀j,j<l.length->eE (S j)) (hq:eE (gW l x)) {d1:List Fq} {d2:Int} {f:Sg->Option Rg} :
  ∀(m k:Nat),k+m=l.length->(∀j,j<k->eE (ot l x S j))->upF (fun i s kk=>bif isB x.1 (lv l i) then EL (prQ (gW l x)) ((i:Int),()) s kk else kk s) f m k (d1,d2,0,iC l.length (vD l x S k),()) =
   if zA l.length (ot l x S) then f (d1,d2,0,iC l.length (ot l x S),()) else some ([],5,())
 | 0,k,hk,hf=>by
  have hk:k=l.length:=by omega
  subst hk
  rw[if_pos (rc.2 hf)]
  simp only[upF]
  congr 3
  show (0,iC _ _,())=(0,iC _ _,())
  congr 2
  unfold iC
  apply List.map_congr_left
  intro i hi
  obtain ⟨j,hj,rfl⟩:=List.mem_range'.1 hi
  unfold vD
  rw[if_pos (by omega)]
 | m+1,k,hk,hf=>by
  have hk':k<l.length:=by omega
  simp only[upF]
  have di:∀j,j<l.length->eE (vD l x S k j):=fun j hj=>by
   unfold vD
   split
   ·exact hf j (by assumption)
   ·exact hS j hj
  have hmk:vD l x S k k=S k:=by unfold vD;rw[if_neg (by omega)]
  cases hb:isB x.1 (lv l k) with
  | false =>
   rw[cond_false]
   have hst:ot l x S k=S k:=by unfold ot;rw[hb];rfl
   have e:vD l x S k=vD l x S (k+1):=by
    funext j
    unfold vD
    by_cases h1:j<k
    ·rw[if_pos h1,if_pos (by omega)]
    ·by_cases h2:j=k
     ·subst h2;rw[if_neg (by omega),if_pos (by omega),hst]
     ·rw[if_neg h1,if_neg (by omega)]
   rw[e]
   exact yH hS hq m (k+1) (by omega) fun j hj=>by
    by_cases h2:j=k
    ·subst h2;rw[hst];exact hS j hk'
    ·exact hf j (by omega)
  | true =>
   rw[cond_true,Nv hk' di hq,hmk]
   have hst:ot l x S k=S k+gW l x:=by unfold ot;rw[hb];rfl
   by_cases h1:eE (S k+gW l x)
   ·rw[if_pos h1]
    have e:Ml (vD l x S k) k (S k+gW l x)=vD l x S (k+1):=by
     funext j
     unfold vD Ml
     by_cases h2:j=k
     ·subst h2;rw[if_pos rfl,if_pos (by omega),hst]
     ·rw[if_neg h2]
      dsimp only
      by_cases h3:j<k
      ·rw[if_pos h3,if_pos (by omega)]
      ·rw[if_neg h3,if_neg (by omega)]
    rw[e]
    exact yH hS hq m (k+1) (by omega) fun j hj=>by
     by_cases h2:j=k
     ·subst h2;rw[hst];exact h1
     ·exact hf j (by omega)
   ·rw[if_neg h1,if_neg]
    intro h2
    exact h1 (hst ▸ rc.1 h2 k hk')
theorem zO {l:List Bm} {x:Ld} (hl:l.length<=1000000) (hx:inW x.2=true) (hc:iP l x.1≠0):eE (gW l x):=by
 have:=yg l x.1
 simp only[inW,decide_eq_true_eq] at hx
 unfold gW eE
 rw[Rat.num_mkRat,Rat.den_mkRat]
 rw[if_neg hc,if_neg hc]
 constructor
 ·rw[Int.natAbs_ediv_of_dvd]
  ·exact m_ (j_ _ _) (by omega)
  ·exact Int.ofNat_dvd_left.2 (nE _ _)
 ·exact m_ (j_ _ _) (by omega)
end
end Go.Proofs.YtlfdhaiigdllcaaGreat

namespace Go.Proofs.YtlfdhaiigdllcaaGreat
open Tryz Dn Dn.Sh
theorem AR {α σ R:Type} {b:α->σ->(σ->Option R)->Option R} {f:σ->Option R} {p:α->Bool} {r:Option R}:∀{L:List α} {s:σ},(∀a ∈ L,∀s k,b a s k=bif p a then k s else r)->jG b f L s=bif L.all p then f s else r
 | [],_,_=>rfl
 | a ::L,s,h=>by
  simp only[jG,List.all_cons]
  rw[h a (by simp)]
  cases p a with
  | true=>exact AR fun a' ha=>h a' (by simp[ha])
  | false=>rfl
def zE (l:List Bm) (at_:List Ld):Bool:=at_.any fun x=>decide (iP l x.1=0)
def Cv (l:List Bm) (at_:List Ld):Rg:=if zE l at_ then ([],12,()) else match zk l at_ (fun _=>0) with
 | some S=>(iC l.length S,0,())
 | none=>([],5,())
theorem Ir (n:Nat):iC n (fun _=>0)=eX n ((0:Int),(1:Int)):=by
 apply List.ext_getElem
 ·rw[lu,List.length_replicate]
 ·intro i h1 h2
  simp only[iC,List.getElem_map,List.getElem_replicate]
  rfl
theorem GP {l:List Bm} {x:Ld} (hl:l.length<=1000000) (hx:inW x.2=true) (hc:iP l x.1≠0):(if ((iP l x.1:Nat):Int)=0 then (((0:Int),(0:Int)),(16:Int),()) else uZ (MO x.2 (iP l x.1:Nat)))=(prQ (gW l x),0,()):=by
 have hle:=yg l x.1
 rw[if_neg (by omega)]
 have e:MO x.2 (iP l x.1:Nat)=gW l x:=by
  unfold MO gW sgn
  simp only[inW,decide_eq_true_eq] at hx
  rw[show (decide (x.2<0) !=decide (((iP l x.1:Nat):Int)<0))=false by rw[z8 (by omega),z8 (by omega)];rfl]
  simp only[ld,if_false,Int.natAbs_natCast]
  congr 1
  omega
 rw[e,<-G5 (mi (zO hl hx hc)),sF]
theorem Oc {l:List Bm} {at_:List Ld} (hl:l.length<=1000000) (ha:at_.length<=1000000) (hw:∀x ∈ at_,inW x.2=true):fw l at_=some (Cv l at_):=by
 simp only[fw,qf,mx,wY,af]
 rw[F6 _ hl,af,<-Ir]
 refine' (vv at_ ((0:Int),(0:Int)) (by omega) (fun i (s:List Fq×Int)=>(((i:Nat):Int),s.1,s.2,aQ)) (fun x s k=>bif decide (((iP l x.1:Nat):Int)=0) then some ([],12,()) else k s) _ ?_ ?_ (([]:List Fq),(0:Int))).trans ?_
 rotate_left
 ·intro again i s hi
  have hwr:aq .i64 ((i:Int)+1)=((i+1:Nat):Int):=by rw[ap (by omega) (by omega)];rfl
  simp only[be,z7 hi,z7 (show (i:Int)<at_.length by omega),cT,z9,hwr,Dh hl,af]
 ·intro again s
  simp only[z8 (show ¬ (at_.length:Int)<at_.length by omega),cF]
  rfl
 ·rw[AR (p:=fun x=>!decide (((iP l x.1:Nat):Int)=0)) (r:=some ([],12,())) (fun x _ s k=>by cases decide (((iP l x.1:Nat):Int)=0)<;>rfl)]
  unfold Cv
  have hall:(at_.all fun x=>!decide (((iP l x.1:Nat):Int)=0))=!zE l at_:=by
   unfold zE
   rw[List.not_any_eq_all_not]
   congr 1
   funext x
   congr 1
   rw[pH,decide_eq_true_iff,decide_eq_true_iff]
   omega
  rw[hall]
  cases hn:zE l at_ with
  | true=>rfl
  | false =>
   simp only[iF,cT,ld,if_false]
   have hc:∀x ∈ at_,iP l x.1≠0:=fun x hx e=>by
    unfold zE at hn
    have:=List.any_eq_false.1 hn x hx
    simp[e] at this
   refine (vv at_ ((0:Int),(0:Int)) (by omega) (fun i (s:List Fq×Int×List Fq)=>(((i:Nat):Int),s.1,s.2.1,s.2.2,aQ))
    (fun x s k=>bif decide (iP l x.1=0) then none else upF (fun i s kk=>bif isB x.1 (lv l i) then EL (prQ (gW l x)) ((i:Int),()) s kk else kk s) (fun s=>k (s.1,s.2.1,s.2.2.2.1)) l.length 0 (s.1,s.2.1,0,s.2.2,()))
    (fun s=>some (s.2.2,0,())) ?_ (fun again s=>?_) (([]:List Fq),(0:Int),iC l.length (fun _=>0))).trans ?_
   ·intro again i s hi
    have hwr:aq .i64 ((i:Int)+1)=((i+1:Nat):Int):=by rw[ap (by omega) (by omega)];rfl
    have hmem:at_.getD i ((0:Int),(0:Int)) ∈ at_:=by rw[ca hi];exact List.getElem_mem hi
    have hc':=hc _ hmem
    have hw':=hw _ hmem
    simp only[be,z7 hi,z7 (show (i:Int)<at_.length by omega),cT,z9,hwr,Dh hl,af]
    generalize at_.getD i ((0:Int),(0:Int))=x at *
    have hle:=yg l x.1
    have hx:=hw'
    simp only[inW,decide_eq_true_eq] at hx
    rw[z8 hc',cF,Pb (by omega) (by omega) (by omega) (by omega),af,GP hl hw' hc']
    simp only[decide_true,bX,cF,E6 hl,cT]
    refine (H6 (jp l x.1) ((0:Int),()) (by rw[tP];omega) (EL (prQ (gW l x))) (fun (s:Sg)=>again (((i+1:Nat):Int),s.1,s.2.1,s.2.2.2.1,aQ)) ?_ (fun again' s'=>?_) (s.1,s.2.1,(0:Int),s.2.2,aQ)).trans ?_
    ·intro again' j s' hj
     rw[show eS (iD j) (jp l x.1).length=true from ff (by omega),cT]
     rfl
    ·rw[show eS (iD (jp l x.1).length) (jp l x.1).length=false by rw[Bool.eq_false_iff];intro e;have:=Nat.le_of_ble_eq_true e;omega,cF]
    ·exact yM (l:=l) (c:=fun i _ s k=>EL (prQ (gW l x)) ((i:Int),()) s k) (fun _ _ _ _=>rfl) l.length 0 _ (by omega)
   ·simp only[z8 (show ¬ (at_.length:Int)<at_.length by omega),cF]
   ·have key:∀(L:List Ld) (S:Nat->Rat),(∀x ∈ L,inW x.2=true)->(∀x ∈ L,iP l x.1≠0)->(∀j,j<l.length->eE (S j)) ->
      jG (fun x (s:List Fq×Int×List Fq) (k:List Fq×Int×List Fq->Option Rg)=>bif decide (iP l x.1=0) then none else upF (fun i s kk=>bif isB x.1 (lv l i) then EL (prQ (gW l x)) ((i:Int),()) s kk else kk s) (fun s=>k (s.1,s.2.1,s.2.2.2.1)) l.length 0 (s.1,s.2.1,0,s.2.2,()))
       (fun s=>some (s.2.2,0,())) L (([]:List Fq),(0:Int),iC l.length S)=some (match zk l L S with | some S=>(iC l.length S,0,()) | none=>([],5,())):=by
     intro L
     induction L with
     | nil=>intro S _ _ _;rfl
     | cons x L ih =>
      intro S h1 h2 h3
      simp only[jG]
      have hx:=h1 x (by simp)
      have hcx:=h2 x (by simp)
      have:=yH (f:=fun s=>jG (fun x (s:List Fq×Int×List Fq) (k:List Fq×Int×List Fq->Option Rg)=>bif decide (iP l x.1=0) then none else upF (fun i s kk=>bif isB x.1 (lv l i) then EL (prQ (gW l x)) ((i:Int),()) s kk else kk s) (fun s=>k (s.1,s.2.1,s.2.2.2.1)) l.length 0 (s.1,s.2.1,0,s.2.2,()))
       (fun s=>some (s.2.2,0,())) L (s.1,s.2.1,s.2.2.2.1)) (d1:=([]:List Fq)) (d2:=(0:Int)) h3 (zO hl hx hcx) l.length 0 (by omega) (fun j hj=>by omega)
      rw[z8 hcx,cF]
      have e0:vD l x S 0=S:=by funext j;unfold vD;rw[if_neg (by omega)]
      rw[e0] at this
      rw[this]
      unfold zk
      cases hf:zA l.length (ot l x S) with
      | false=>rfl
      | true =>
       simp only[if_true]
       exact ih (ot l x S) (fun y hy=>h1 y (by simp[hy])) (fun y hy=>h2 y (by simp[hy])) (rc.1 hf)
    exact key at_ (fun _=>0) hw hc (fun j _=>by show eE 0;decide)
end Go.Proofs.YtlfdhaiigdllcaaGreat

namespace Go.Proofs.YtlfdhaiigdllcaaGreat
noncomputable section
open Tryz Dn Dn.Sh
theorem rp {α:Type} {p:α->Bool} {l:List α}:decide (mu p l 0>=0)=l.any p:=by
 have:=sU (p:=p) (l:=l) (i:=0) (by omega)
 rw[pH,decide_eq_true_iff,List.any_eq_true]
 constructor
 ·intro h1
  by_cases h2:∃a ∈ l,p a=true
  ·exact h2
  ·have:mu p l 0<0:=this.2 fun a ha=>by
    cases e:p a with
    | false=>rfl
    | true=>exact (h2 ⟨a,ha,e⟩).elim
   omega
 ·rintro ⟨a,ha,h3⟩
  by_cases h2:mu p l 0<0
  ·rw[this.1 h2 a ha] at h3;cases h3
  ·omega
theorem GM {f:(Ld×Unit)->Option Bool} {p:Ld->Bool} {l:List Ld} (hl:l.length<=1000000) (h:∀a,a ∈ l->f (a,())=some (p a)):av l f=some (l.any p):=by
 simp only[av,eD]
 unfold bm fA
 rw[jz (f:=f) (d:=((0:Int),(0:Int))) hl h,af,rp]
theorem JD (x:Ld):eo x=some (!sN x):=by
 obtain ⟨a,w⟩:=x
 simp only[eo,nO,BC,af,sN]
 cases inL a with
 | false=>rfl
 | true =>
  unfold inW
  by_cases h1:w<0
  ·rw[z7 h1,z8 (show ¬ (0<=w/\w<=67108864) by omega)];rfl
  ·by_cases h2:w>67108864
   ·rw[z8 h1,z7 h2,z8 (show ¬ (0<=w/\w<=67108864) by omega)];rfl
   ·rw[z8 h1,z8 h2,z7 (show (0<=w/\w<=67108864) by omega)];rfl
theorem Kr (l:List Bm) (at_:List Ld):gB l at_=some (bif mS l&&mM at_ then 0 else 1):=by
 simp only[gB,qD,AZ,af]
 cases mS l with
 | false=>cases decide (((at_.length:Nat):Int)>1000)<;>rfl
 | true =>
  by_cases h0:at_.length<=1000
  ·have hr:mM at_=at_.all sN:=by unfold mM;rw[z7 h0,oK]
   rw[z8 (show ¬ ((at_.length:Nat):Int)>1000 by omega),hr]
   have hc:av at_ (fun x=>eo x.1)=some (at_.any fun x=>!sN x):=GM (p:=fun x=>!sN x) (by omega) fun a _=>JD a
   have e:(at_.any fun x=>!sN x)=!at_.all sN:=by rw[List.not_all_eq_any_not]
   simp only[bX,iF,cT,cF,Bool.or_false,Bool.false_or,Bool.or_true,Bool.true_or,hc,e,af]
   cases at_.all sN<;>rfl
  ·have hr:mM at_=false:=by unfold mM;rw[z8 h0,Bool.false_and]
   rw[z7 (show ((at_.length:Nat):Int)>1000 by omega),hr]
   rfl
theorem zD {l:List Bm} (h:mS l=true):l.length<=20:=by
 simp only[mS,z10,decide_eq_true_eq] at h
 exact h.1
theorem FO {at_:List Ld} (h:mM at_=true):at_.length<=1000/\∀x ∈ at_,inW x.2=true:=by
 simp only[mM,z10,decide_eq_true_eq,List.all_eq_true] at h
 exact ⟨h.1,fun x hx=>by have:=h.2 x hx;simp only[sN,z10] at this;exact this.2⟩
def zU (l:List Bm) (at_:List Ld):Rg:=bif mS l&&mM at_ then Cv l at_ else ([],1,())
theorem Mf (l:List Bm) (at_:List Ld):fy l at_=some (zU l at_):=by
 simp only[fy,qJ,Kr,af,zU]
 cases h:mS l&&mM at_ with
 | false=>rfl
 | true =>
  rw[z10] at h
  have h1:=zD h.1
  have h2:=FO h.2
  simp only[cT,decide_true,bX,cF]
  rw[Oc (by omega) (by omega) h2.2,af]
theorem EU {l:List Bm}:∀{L:List Ld} {S S':Nat->Rat},(∀i,i<l.length->eE (S i))->zk l L S=some S'->∀i,i<l.length->eE (S' i)
 | [],S,S',h,e=>by
  simp only[zk,aT] at e
  subst e
  exact h
 | x ::r,S,S',h,e=>by
  simp only[zk] at e
  split at e
  ·rename_i hf
   exact EU (rc.1 hf) e
  ·cases e
def md (s:HS):Int:=aq .i64 (aq .i64 (cO s+s.2.2.2.2.2.2.2.1)+GF s.2.2.2.2.2.2.2.2.2.2.2.2)
def rm (s:HS):Bool:=decide (md s>67108864)
def yJ (l:List HS):List Ld:=l.map fun s=>(s.2.1,md s)
theorem uM {α:Type} {g:Int->α->Int} {w:α->Int} {m:Int} (hg:∀a x,g a x=aq .i64 (a+w x)) (hm:0<=m):∀(l:List α) (a:Int),(∀x ∈ l,0<=w x/\w x<=m)->0<=a->a+l.length*m<9223372036854775808->0<=l.foldl g a/\l.foldl g a<=a+l.length*m
 | [],a,_,ha,_=>by simp;exact ha
 | x ::l,a,h,ha,hb=>by
  have hx:=h x (by simp)
  have e:((x ::l).length:Int)*m=l.length*m+m:=by rw[gC,Int.natCast_add,Int.add_mul];simp
  rw[e] at hb ⊢
  have hp:0<=(l.length:Int)*m:=mK (by omega) hm
  rw[List.foldl_cons,hg,ap (by omega) (by omega)]
  have:=uM hg hm l (a+w x) (fun y hy=>h y (by simp[hy])) (by omega) (by omega)
  omega
theorem gn {s:HS} (h:nv s=true):(0<=s.2.1/\s.2.1<=1048576)/\(1000<=s.2.2.2.2.1/\s.2.2.2.2.1<=1048576)/\(0<=s.2.2.2.2.2.2.1/\s.2.2.2.2.2.2.1<=1048576)/\(0<=s.2.2.2.2.2.2.2.1/\s.2.2.2.2.2.2.2.1<=1048576)/\vh s.2.2.2.2.2.2.2.2.2.2.2.1 s.2.2.2.2.1=true/\kf s.2.2.2.2.2.2.2.2.2.2.2.2=true:=by
 unfold nv btw at h
 simp only[z10,decide_eq_true_eq] at h
 obtain ⟨_,h1,_,_,h2,_,_,h3,h4,_,_,_,h5,h6⟩:=h
 exact ⟨h1,h2,h3,h4,h5,h6⟩
theorem lx {l:List Itm} {len:Int} (h:vh l len=true):l.length<=40/\∀x ∈ l,0<=x.2.2.2.1/\x.2.2.2.1<=1048576:=by
 unfold vh at h
 rw[z10,z10,decide_eq_true_iff,List.all_eq_true] at h
 refine ⟨h.1,fun x hx=>?_⟩
 have:=h.2.1 x hx
 unfold DV btw at this
 simp only[z10,decide_eq_true_eq] at this
 omega
theorem gA {s:HS} (h:nv s=true):0<=cO s/\cO s<=2199023255552:=by
 obtain ⟨_,⟨h1,h2⟩,⟨h3,h4⟩,_,h5,_⟩:=gn h
 obtain ⟨g1,g2⟩:=lx h5
 have q1:Int.tdiv s.2.2.2.2.1 1000=s.2.2.2.2.1 / 1000:=Int.tdiv_eq_ediv_of_nonneg (by omega)
 have q2:0<=s.2.2.2.2.1 / 1000/\s.2.2.2.2.1 / 1000<=1048576:=by omega
 have hp:0<=uz s/\uz s<=1099511627776:=by
  unfold uz
  rw[q1]
  generalize s.2.2.2.2.1 / 1000=q at q2
  generalize s.2.2.2.2.2.2.1=p at h3 h4
  rw[ap (x:=q) (by omega) (by omega)]
  have m1:0<=p*q:=mK h3 q2.1
  have m2:p*q<=1048576*1048576:=Int.mul_le_mul h4 q2.2 q2.1 (by omega)
  rw[ap (by omega) (by omega)]
  omega
 have:=uM (g:=NL) (w:=fun x:Itm=>x.2.2.2.1) (m:=1048576) (fun _ _=>rfl) (by omega) _ (uz s) g2 hp.1 (by omega)
 unfold cO
 omega
theorem uY {l:List Brk} (h:kf l=true):0<=GF l/\GF l<=503316480:=by
 obtain ⟨h1,h2⟩:=kI h
 have key:∀b ∈ l,0<=aq .i64 (b.2.1*b.2.2)/\aq .i64 (b.2.1*b.2.2)<=62914560:=fun b hb=>by
  have g:=h2 b hb
  have m1:0<=b.2.1*b.2.2:=mK (by omega) (by omega)
  have m2:b.2.1*b.2.2<=1048576*60:=Int.mul_le_mul g.2.1 g.2.2.2 g.2.2.1 (by omega)
  rw[ap (by omega) (by omega)]
  omega
 have:=uM (g:=te) (w:=fun b:Brk=>aq .i64 (b.2.1*b.2.2)) (m:=62914560) (fun _ _=>rfl) (by omega) l 0 key (by omega) (by omega)
 unfold GF
 omega
theorem zo {s:HS} (h:nv s=true):md s=cO s+s.2.2.2.2.2.2.2.1+GF s.2.2.2.2.2.2.2.2.2.2.2.2:=by
 obtain ⟨_,_,_,h4,_,h6⟩:=gn h
 have g1:=gA h
 have g2:=uY h6
 unfold md
 rw[ap (x:=cO s+s.2.2.2.2.2.2.2.1) (by omega) (by omega),ap (by omega) (by omega)]
theorem Cp {s:HS} (h:nv s=true):0<=md s:=by
 obtain ⟨_,_,_,h4,_,h6⟩:=gn h
 have g1:=gA h
 have g2:=uY h6
 rw[zo h]
 omega
theorem vg {h:HH} (hv:oa h=true):h.2.2.1.length<=60/\mS h.2.2.2=true/\∀i,i<h.2.2.1.length->nv (h.2.2.1.getD i fX)=true:=by
 simp only[oa,z10,Bool.not_eq_true',decide_eq_false_iff_not,List.all_eq_true] at hv
 obtain ⟨_,_,_,h1,h2,h3⟩:=hv
 exact ⟨by omega,h2,fun i hi=>(h3 i (List.mem_range'.2 ⟨i,hi,by omega⟩)).1⟩
theorem YX {T R:Type} {c:Option T} {t:T} (h:c=some t) (k:T->Option R):ah c k=k t:=by subst h;rfl
theorem obS {T R:Type} (t:T) (k:T->Option R):ah (some t) k=k t:=YX (Eq.trans rfl rfl) k
theorem EF {R:Type} {l:List Brk} (hl:l.length<=1000000) {fin:List Int->Option R} {F:(List Int×Int×PUnit->Option R)->List Int×Int×PUnit->Option R}
  (hb:∀again (i:Nat) s,i<l.length->F again (s,(i:Int),aQ)=bif fz (s.length+1) 8 then again (s++[(l.getD i iK).2.2],((i+1:Nat):Int),aQ) else none)
  (hf:∀again s,F again (s,(l.length:Int),aQ)=fin s):lpK (List Int×Int×PUnit) R F ([],(0:Int),aQ)=fin (zw l):=by
 refine (kQ (α:=List Int×Int×PUnit) l.length (by omega) (fun i (s:List Int)=>(s,(i:Int),aQ)) (fun i s k=>bif false then none else bif fz (s.length+1) 8 then k (s++[(l.getD i iK).2.2]) else none) fin ?_ ?_ []).trans ?_
 ·intro again i s hi
  rw[hb again i s hi,cF]
 ·intro again s
  exact hf again s
 ·rw[CY (c:=fun _=>false) (g:=fun i=>(l.getD i iK).2.2) (r:=none) (w:=8) hl (by omega) (fun i s k _=>rfl) l.length 0 [] (by omega) (by simp),BO (g:=fun b:Brk=>b.2.2)]
  rw[show (n_ 0 l.length).any (fun _=>false)=false from List.any_eq_false.2 fun _ _ h=>by cases h]
  rfl
theorem IJ {α:Type} {p:α->Bool} {d:α} {l:List α}:(n_ 0 l.length).any (fun i=>p (l.getD i d))=l.any p:=by
 have:=pA (p:=fun x=>!p x) (d:=d) (l:=l)
 rw[List.any_eq_not_all_not,List.any_eq_not_all_not,this]
def Da (h:HH):Rg:=bif oa h then (bif h.2.2.1.any rm then ([],5,()) else zU h.2.2.2 (yJ h.2.2.1)) else ([],1,())
theorem It (h:HH):fM h=some (Da h):=by
 simp only[fM,pj,BP,obS,Da]
 cases hv:oa h with
 | false=>rfl
 | true =>
  obtain ⟨h1,h2,h3⟩:=vg hv
  obtain ⟨nm,ht,ss,rs⟩:=h
  simp only at h1 h2 h3 ⊢
  simp only[bX,cT,cF]
  refine (kQ (α:=List Ld×Int×PUnit) ss.length (by omega) (fun i (s:List Ld)=>(s,(i:Int),aQ)) (fun i s k=>bif rm (ss.getD i fX) then some ([],5,()) else bif fz (s.length+1) 16 then k (s++[((ss.getD i fX).2.1,md (ss.getD i fX))]) else none) (fun s=>some (zU rs s)) ?_ ?_ []).trans ?_
  ·intro again i s hi
   have hw:aq .i64 ((i:Int)+1)=((i+1:Nat):Int):=by rw[ap (by omega) (by omega)];rfl
   have hs:=h3 i hi
   obtain ⟨_,_,_,_,h5,h6⟩:=gn hs
   have hW:aB (ss.getD i fX)=some (cO (ss.getD i fX),0,()):=by
    simp only[aB,jt,tN,hs,obS,bX,cF]
    rw[zx _ (by have:=(lx h5).1;omega),obS]
   simp only[be,z7 hi,z7 (show (i:Int)<ss.length by omega),cT,z9,hw,show a_ ss i ({ data:={ toList:=[] } },(0:Int),(0:Int),(0:Int),(0:Int),[],(0:Int),(0:Int),(0:Int),(0:Int),(0:Int),[],[])=ss.getD i fX from rfl,hW,obS,decide_true,bX,cF]
   refine (EF (l:=(ss.getD i fX).2.2.2.2.2.2.2.2.2.2.2.2) (by have:=(kI h6).1;omega) (fin:=fun c=>ah (dh (ss.getD i fX).2.2.2.2.2.2.2.2.2.2.2.2 c) fun t=>bif !decide (t.2.1=0) then some ([],t.2.1,aQ) else bif decide (aq .i64 (aq .i64 (cO (ss.getD i fX)+(ss.getD i fX).2.2.2.2.2.2.2.1)+t.1)>67108864) then some ([],5,aQ) else bif fz (s.length+1) 16 then again (s++[((ss.getD i fX).2.1,aq .i64 (aq .i64 (cO (ss.getD i fX)+(ss.getD i fX).2.2.2.2.2.2.2.1)+t.1))],((i+1:Nat):Int),aQ) else none) ?_ ?_).trans ?_
   ·intro again_1 j c hj
    have hw2:aq .i64 ((j:Int)+1)=((j+1:Nat):Int):=by rw[ap (by have:=(kI h6).1;omega) (by have:=(kI h6).1;omega)];rfl
    simp only[be,z7 hj,z7 (show (j:Int)<((ss.getD i fX).2.2.2.2.2.2.2.2.2.2.2.2.length:Nat) by omega),cT,z9,hw2]
   ·intro again_1 c
    simp only[z8 (show ¬ ((ss.getD i fX).2.2.2.2.2.2.2.2.2.2.2.2.length:Int)<((ss.getD i fX).2.2.2.2.2.2.2.2.2.2.2.2.length:Nat) by omega),cF]
   ·simp only[zL h6,obS,decide_true,bX,cF,rm,md]
    rfl
  ·intro again s
   simp only[z8 (show ¬ (ss.length:Int)<ss.length by omega),cF,Mf,obS]
  ·rw[CY (c:=fun i=>rm (ss.getD i fX)) (g:=fun i=>((ss.getD i fX).2.1,md (ss.getD i fX))) (r:=some ([],5,())) (w:=16) (n:=ss.length) (by omega) (by omega) (fun i s k _=>rfl) ss.length 0 [] (by omega) (by simp),BO (g:=fun s:HS=>(s.2.1,md s)),IJ]
   unfold yJ
   cases ss.any rm<;>rfl
end
end Go.Proofs.YtlfdhaiigdllcaaGreat

namespace Go.Proofs.YtlfdhaiigdllcaaGreat
open Tryz Dn Dn.Sh
theorem SE {h:HH} (hs:∀i,i<h.2.2.1.length->nv (h.2.2.1.getD i fX)=true):∀s ∈ h.2.2.1,nv s=true:=fun s hm=>by
 obtain ⟨i,hi,rfl⟩:=List.getElem_of_mem hm
 have:=hs i hi
 rw[ca hi] at this
 exact this
theorem IW {h:HH} (hv:oa h=true) (ha:h.2.2.1.any rm=false):mM (yJ h.2.2.1)=true:=by
 obtain ⟨h1,h2,h3⟩:=vg hv
 unfold mM yJ
 rw[z10,decide_eq_true_iff,List.length_map,List.all_eq_true]
 refine ⟨by omega,fun x hx=>?_⟩
 obtain ⟨s,hs,rfl⟩:=List.mem_map.1 hx
 have hb:=SE h3 s hs
 obtain ⟨g1,_⟩:=gn hb
 have g2:=Cp hb
 have g3:rm s=false:=by
  cases e:rm s with
  | false=>rfl
  | true=>exact absurd (List.any_eq_true.2 ⟨s,hs,e⟩) (by rw[ha];simp)
 have g4:¬ md s>67108864:=of_decide_eq_false g3
 unfold sN inL inW
 rw[z10,decide_eq_true_iff,decide_eq_true_iff]
 exact ⟨g1,g2,by omega⟩
abbrev Rs:=Fq×Int×PUnit
def qP (S:Nat->Rat):Nat->Rat
 | 0=>0
 | n+1=>qP S n+S n
def yX:List Ld->Int
 | []=>0
 | x ::r=>x.2+yX r
theorem IZ {l:List Bm} {d:Int} {n:Nat} (h:n<l.length):(iP (l.take (n+1)) d:Int)=iP (l.take n) d+(if isB d (lv l n) then 1 else 0):=by
 have e:lv l n=l[n]:=ca h
 unfold iP
 rw[List.take_succ_eq_append_getElem h,List.filter_append,dg,e]
 cases hb:isB d l[n]<;>simp[List.filter_cons,hb]
theorem EA {l:List Bm} {x:Ld} {S:Nat->Rat}:∀n:Nat,n<=l.length->qP (ot l x S) n=qP S n+((iP (l.take n) x.1:Int):Rat)*gW l x
 | 0,_=>by
  simp only[qP,iP,List.take_zero,List.filter_nil,List.length_nil]
  grind
 | n+1,h=>by
  have ih:=EA (l:=l) (x:=x) (S:=S) n (by omega)
  have hc:=IZ (l:=l) (d:=x.1) (n:=n) (by omega)
  simp only[qP]
  rw[ih,hc]
  unfold ot
  cases isB x.1 (lv l n) with
  | true =>
   simp only[if_true]
   rw[Rat.intCast_add]
   grind
  | false =>
   simp only[ld,if_false]
   rw[Rat.intCast_add]
   grind
theorem Iz {l:List Bm} {x:Ld} (hc:iP l x.1≠0):((iP l x.1:Int):Rat)*gW l x=(x.2:Rat):=by
 unfold gW
 rw[Rat.mkRat_eq_div]
 have h:((iP l x.1:Int):Rat)≠0:=by
  intro e
  have:=(Rat.intCast_eq_zero_iff).1 e
  omega
 have h2:((iP l x.1:Nat):Rat)=((iP l x.1:Int):Rat):=rfl
 rw[h2]
 generalize ((iP l x.1:Int):Rat)=c at *
 grind
theorem Ib {l:List Bm}:∀{L:List Ld} {S S':Nat->Rat},(∀x ∈ L,iP l x.1≠0)->zk l L S=some S'->qP S' l.length=qP S l.length+(yX L:Rat)
 | [],S,S',_,e=>by
  simp only[zk,aT] at e
  subst e
  simp only[yX]
  grind
 | x ::r,S,S',h,e=>by
  simp only[zk] at e
  split at e
  ·have ih:=Ib (L:=r) (fun y hy=>h y (by simp[hy])) e
   have h1:=EA (l:=l) (x:=x) (S:=S) l.length (b_ _)
   rw[List.take_length,Iz (h x (by simp))] at h1
   rw[ih,h1]
   simp only[yX]
   rw[Rat.intCast_add]
   grind
  ·cases e
theorem AL (S:Nat->Rat):∀n:Nat,((n_ 0 n).map S).foldl (·+·) 0=qP S n
 | 0=>rfl
 | n+1=>by
  rw[List.range'_1_concat,List.map_append,List.foldl_append,AL S n]
  simp[qP]
theorem DF {d:Fq} {f:Fq×Fq->Option Rs}:∀{L:List Rat} {q:Rat},eE q->(∀y ∈ L,eE y) ->
  (jG (fun (x:Fq) (s:Fq×Fq) (k:Fq×Fq->Option Rs)=>ah (cn s.2 x) fun (t:(Int×Int)×Int×PUnit)=>bif !decide (t.2.1=(0:Int)) then some (((0:Int),(0:Int)),t.2.1,aQ) else k (s.1,t.1)) f (L.map prQ) (d,prQ q)=some ((0,0),5,())) \/
  (eE (L.foldl (·+·) q)/\jG (fun (x:Fq) (s:Fq×Fq) (k:Fq×Fq->Option Rs)=>ah (cn s.2 x) fun (t:(Int×Int)×Int×PUnit)=>bif !decide (t.2.1=(0:Int)) then some (((0:Int),(0:Int)),t.2.1,aQ) else k (s.1,t.1)) f (L.map prQ) (d,prQ q)=f (d,prQ (L.foldl (·+·) q)))
 | [],q,hq,_=>.inr ⟨hq,rfl⟩
 | y ::L,q,hq,hy=>by
  simp only[List.map_cons,jG,List.foldl_cons]
  rw[Lf (mi hq) (mi (hy y (by simp))),af,sF,sF]
  rcases qy (q+y) with ⟨h1,h2⟩ | ⟨h1,h2⟩
  ·rw[h2]
   exact DF h1 fun z hz=>hy z (by simp[hz])
  ·rw[h2]
   exact .inl rfl
theorem GN {f:(Fq×Unit)->Option Bool} {p:Fq->Bool} {l:List Fq} (hl:l.length<=1000000) (h:∀a,a ∈ l->f (a,())=some (p a)):aA l f=some (l.any p):=by
 simp only[aA,gH]
 unfold bI iy
 rw[jz (f:=f) (d:=((0:Int),(0:Int))) hl h,af,rp]
theorem LW {n:Nat} {S:Nat->Rat} {a:Fq} (h:a ∈ iC n S):∃i,i<n/\a=prQ (S i):=by
 unfold iC at h
 obtain ⟨i,hi,rfl⟩:=List.mem_map.1 h
 obtain ⟨k,hk,rfl⟩:=List.mem_range'.1 hi
 exact ⟨_,by omega,rfl⟩
theorem Pg {n:Nat} {S:Nat->Rat} (hn:n<=1000) (hS:∀i,i<n->eE (S i)):gm (iC n S)=some ((0,0),5,())\/(eE (qP S n)/\gm (iC n S)=some (prQ (qP S n),0,())):=by
 have hlen:=lu n S
 have hc:aA (iC n S) (fun x=>fJ x.1)=some false:=by
  rw[GN (p:=fun a=>!decide (okF a)) (by omega) (fun a _=>by simp only[fJ,oT,zV,af])]
  congr 1
  rw[List.any_eq_false]
  intro a ha
  obtain ⟨i,hi,rfl⟩:=LW ha
  simp[z7 (mi (hS i hi))]
 have hw:=DF (d:=((0:Int),(0:Int))) (f:=fun s=>some (s.2,(0:Int),aQ)) (L:=(n_ 0 n).map S) (q:=0) (by decide) (fun y hy=>by
  obtain ⟨i,hi,rfl⟩:=List.mem_map.1 hy
  obtain ⟨k,hk,rfl⟩:=List.mem_range'.1 hi
  exact hS _ (by omega))
 rw[AL,show ((n_ 0 n).map S).map prQ=iC n S by unfold iC;rw[List.map_map];rfl] at hw
 have key:gm (iC n S)=jG (fun (x:Fq) (s:Fq×Fq) (k:Fq×Fq->Option Rs)=>ah (cn s.2 x) fun (t:(Int×Int)×Int×PUnit)=>bif !decide (t.2.1=(0:Int)) then some (((0:Int),(0:Int)),t.2.1,aQ) else k (s.1,t.1)) (fun s=>some (s.2,(0:Int),aQ)) (iC n S) (((0:Int),(0:Int)),prQ 0):=by
  simp only[gm,td,hc,af,cF]
  rw[z8 (show ¬ (((iC n S).length:Nat):Int)>1000 by omega),cF]
  refine vv (iC n S) ((0:Int),(0:Int)) (by omega) (fun i (s:Fq×Fq)=>(((i:Nat):Int),s.1,s.2,aQ)) _ _ (fun again i s hi=>?_) (fun again s=>?_) (((0:Int),(0:Int)),((0:Int),(1:Int)))
  ·have hwr:aq .i64 ((i:Int)+1)=((i+1:Nat):Int):=by rw[ap (by omega) (by omega)];rfl
   simp only[be,z7 hi,z7 (show (i:Int)<(iC n S).length by omega),cT,z9,hwr]
  ·simp only[z8 (show ¬ (((iC n S).length:Nat):Int)<(iC n S).length by omega),cF]
 rw[key]
 exact hw
theorem uA {s:HS} (h:nv s=true):Int.tmod s.2.2.2.2.1 1000=0/\2<=s.2.2.2.2.2.1.length/\s.2.2.2.2.2.1.length<=10/\1<=s.2.2.2.2.2.2.2.2.1/\s.2.2.2.2.2.2.2.2.1<=2:=by
 unfold nv yI btw at h
 simp only[z10,decide_eq_true_eq] at h
 obtain ⟨_,_,_,_,_,h1,⟨⟨h2,h3⟩,_⟩,_,_,⟨h4,h5⟩,_⟩:=h
 exact ⟨h1,by omega,by omega,h4,h5⟩
def ZL (x:Itm):Int:=aq .i64 (x.2.1+aq .i64 (Int.tdiv x.2.2.1 2))
def ldW (s:HS) (i:Nat):Int×Int:=(ZL (s.2.2.2.2.2.2.2.2.2.2.2.1.getD i pB),(s.2.2.2.2.2.2.2.2.2.2.2.1.getD i pB).2.2.2.1)
def Ax (s:HS):Bea:=(s.1,s.2.2.2.2.1,s.2.2.2.2.2.1,jg s.2.2.2.2.2.2.2.2.2.2.2.1.length (ldW s),s.2.2.2.2.2.2.1)
theorem Im {s:HS} (h1:s.2.2.2.2.2.1.length<=1000000) (h2:s.2.2.2.2.2.2.2.2.2.2.2.1.length<=1000000):dU s=some (Ax s):=by
 unfold dU lV
 simp only[ay,jC,iH (show (0+s.2.2.2.2.2.1.length)*8<=140737488355328 by omega),cT,af]
 obtain ⟨n,hn⟩:∃n,n=s.2.2.2.2.2.2.2.2.2.2.2.1.length:=⟨_,rfl⟩
 unfold Ax
 rw[<-hn] at h2 ⊢
 refine gQ (α:=Int×ByteArray×Int×List Int×List (Int×Int)×Int×PUnit) (R:=ByteArray×Int×List Int×List (Int×Int)×Int) n (by omega) (fun i=>((i:Int),s.1,s.2.2.2.2.1,s.2.2.2.2.2.1,jg i (ldW s),s.2.2.2.2.2.2.1,aQ)) _ rfl (fun again i hi=>?_) (fun again=>?_)
 ·have hg:a_ s.2.2.2.2.2.2.2.2.2.2.2.1 i ({ data:={ toList:=[] } },(0:Int),(0:Int),(0:Int),(0:Int),(0:Int),(0:Int))=s.2.2.2.2.2.2.2.2.2.2.2.1.getD i pB:=rfl
  simp only[z7 (show (i:Int)<(n:Int) by omega),be,z7 hi,cT,z9,hg,eT,lH,af,fi,iH (show (i+1)*16<=140737488355328 by omega),gJ (show i<=100000000000 by omega)]
  rw[<-uG (f:=ldW s)]
  rfl
 ·simp only[z8 (show ¬ (n:Int)<(n:Int) by omega),cF]
def ov {α:Type} (w:α->Int):List α->Int
 | []=>0
 | x ::l=>w x+ov w l
theorem uS {α:Type} {g:Int->α->Int} {w:α->Int} {m:Int} (hg:∀a x,g a x=aq .i64 (a+w x)) (hm:0<=m):∀(l:List α) (a:Int),(∀x ∈ l,0<=w x/\w x<=m)->0<=a->a+l.length*m<9223372036854775808->l.foldl g a=a+ov w l
 | [],a,_,_,_=>by simp[ov]
 | x ::l,a,h,ha,hb=>by
  have hx:=h x (by simp)
  have e:((x ::l).length:Int)*m=l.length*m+m:=by rw[gC,Int.natCast_add,Int.add_mul];simp
  rw[e] at hb
  have hp:0<=(l.length:Int)*m:=mK (by omega) hm
  rw[List.foldl_cons,hg,ap (by omega) (by omega),uS hg hm l (a+w x) (fun y hy=>h y (by simp[hy])) (by omega) (by omega)]
  show a+w x+ov w l=a+(w x+ov w l)
  omega
theorem OB {α:Type} (w:α->Int) (d:α):∀(l:List α),(sq l.length fun i=>((w (l.getD i d):Int):Rat))=((ov w l:Int):Rat):=by
 intro l
 have key:∀k,k<=l.length->(sq k fun i=>((w (l.getD i d):Int):Rat))+((ov w (l.drop k):Int):Rat)=((ov w l:Int):Rat):=by
  intro k
  induction k with
  | zero=>intro _;simp only[sq,List.drop_zero,Rat.zero_add]
  | succ k ih =>
   intro hk
   have h1:=ih (by omega)
   rw[List.drop_eq_getElem_cons (show k<l.length by omega)] at h1
   rw[<-h1]
   simp only[sq,ov,ca (d:=d) (show k<l.length by omega),Rat.intCast_add]
   grind
 have h2:=key l.length (b_ _)
 rw[List.drop_length] at h2
 have h3:((ov w ([]:List α):Int):Rat)=0:=rfl
 rw[h3,Rat.add_zero] at h2
 exact h2
theorem Cc {s:HS} (h:nv s=true):cO s=s.2.2.2.2.2.2.1*(s.2.2.2.2.1 / 1000)+ov (fun x:Itm=>x.2.2.2.1) s.2.2.2.2.2.2.2.2.2.2.2.1:=by
 obtain ⟨_,h2,h3,_,h5,_⟩:=gn h
 obtain ⟨i1,i2⟩:=lx h5
 have hd:Int.tdiv s.2.2.2.2.1 1000=s.2.2.2.2.1 / 1000:=Int.tdiv_eq_ediv_of_nonneg (by omega)
 have hq:0<=s.2.2.2.2.1 / 1000/\s.2.2.2.2.1 / 1000<=1048576:=by omega
 have hb:=wA h3 hq
 have hw:uz s=s.2.2.2.2.2.2.1*(s.2.2.2.2.1 / 1000):=by
  unfold uz
  rw[hd,ap (x:=s.2.2.2.2.1 / 1000) (by omega) (by omega),ap (by omega) (by omega)]
 unfold cO
 rw[uS (g:=NL) (w:=fun x:Itm=>x.2.2.2.1) (m:=1048576) (fun _ _=>rfl) (by decide) _ _ i2 (by rw[hw];omega) (by rw[hw];omega),hw]
theorem G9 (S:Nat->Rat):∀n,qP S n=sq n S
 | 0=>rfl
 | n+1=>by simp only[qP,sq,G9 S n]
theorem Sl {l:List Fq} (h:∀a ∈ l,okF a):l=iC l.length fun i=>qv (l.getD i (0,0)):=by
 refine List.ext_getElem (by rw[lu]) fun i h1 h2=>?_
 have e:(iC l.length fun i=>qv (l.getD i (0,0)))[i]=(iC l.length fun i=>qv (l.getD i (0,0))).getD i (0,0):=(ca h2).symm
 rw[e,Ab h1,ca h1,KN (h _ (List.getElem_mem _))]
theorem Qz {s:HS} (h:nv s=true):∃(a c:Int×Int) (e:Int),dS s=some (a,c,e,aQ)/\(e=0->a=(cO s,1)/\c=(cO s*s.2.2.2.2.2.2.2.2.1,1)):=by
 obtain ⟨_,g2,g3,_,g5,_⟩:=gn h
 obtain ⟨i1,_⟩:=lx g5
 obtain ⟨m1,m2,m3,m4,m5⟩:=uA h
 have hb:=gA h
 have hw:=Cc h
 obtain ⟨l,e,r1,r2⟩:=Pf (b:=Ax s) m2
 unfold dS lN bi nt
 rw[tN,h,Im (show s.2.2.2.2.2.1.length<=1000000 by omega) (show s.2.2.2.2.2.2.2.2.2.2.2.1.length<=1000000 by omega)]
 simp only[af,bX,cF,r1]
 by_cases he:e=0
 ·obtain ⟨k1,k2,k3,k4⟩:=r2 he
  have hlen:l.length<=10:=by rw[k2];exact m3
  have hsum:qP (fun i=>qv (l.getD i (0,0))) l.length=((cO s:Int):Rat):=by
   rw[G9,k4,hw,Rat.intCast_add]
   have e1:sL (Ax s) (fun x=>((x.2:Int):Rat))=((ov (fun x:Itm=>x.2.2.2.1) s.2.2.2.2.2.2.2.2.2.2.2.1:Int):Rat):=by
    rw[<-OB (fun x:Itm=>x.2.2.2.1) pB]
    unfold sL
    rw[show (Ax s).2.2.2.1.length=s.2.2.2.2.2.2.2.2.2.2.2.1.length from fi]
    refine ll fun i hi=>?_
    rw[show (Ax s).2.2.2.1.getD i (0,0)=ldW s i from jk hi]
    rfl
   have e2:(((Ax s).2.2.2.2*(Ax s).2.1:Int):Rat) / ((1000:Int):Rat)=((s.2.2.2.2.2.2.1*(s.2.2.2.2.1 / 1000):Int):Rat):=by
    have hL:(Ax s).2.2.2.2*(Ax s).2.1=s.2.2.2.2.2.2.1*(s.2.2.2.2.1 / 1000)*1000:=by
     show s.2.2.2.2.2.2.1*s.2.2.2.2.1=_
     have hm:s.2.2.2.2.1 % 1000=0:=by
      rw[<-Int.tmod_eq_emod_of_nonneg (show 0<=s.2.2.2.2.1 by omega)]
      exact m1
     have:s.2.2.2.2.1=s.2.2.2.2.1 / 1000*1000:=by omega
     rw[Int.mul_assoc,<-this]
    rw[hL,Rat.intCast_mul]
    exact Rat.mul_div_cancel (by decide)
   rw[e1,e2]
  have hS:∀i,i<l.length->eE (qv (l.getD i (0,0))):=fun i hi=>D7 (k3 _ (by rw[ca hi];exact List.getElem_mem _))
  have hso:=Pg (n:=l.length) (S:=fun i=>qv (l.getD i (0,0))) (by omega) hS
  rw[<-Sl k3,hsum,HX] at hso
  simp only[z7 he,bX,cF]
  rcases hso with h3 | ⟨_,h4⟩
  ·rw[h3]
   exact ⟨_,_,_,rfl,fun e=>absurd e (by decide)⟩
  ·have hp: -1152921504606846976<=cO s*s.2.2.2.2.2.2.2.2.1/\cO s*s.2.2.2.2.2.2.2.2.1<=1152921504606846976:=by
    have:=mK hb.1 (show 0<=s.2.2.2.2.2.2.2.2.1 by omega)
    have h5:=Int.mul_le_mul hb.2 m5 (by omega) (by decide)
    omega
   have hmul:cH (cO s,1) (s.2.2.2.2.2.2.2.2.1,1)=some ((cO s*s.2.2.2.2.2.2.2.2.1,1),0,aQ):=by
    rw[RJ (BV (by omega) (by omega)) (BV (by omega) (by omega)),sr,sr,<-Rat.intCast_mul,<-sr,G5 (BV hp.1 hp.2)]
   rw[h4]
   have hz:decide ((0:Int)=0)=true:=rfl
   simp only[af,hz,bX,cF,ej,kx,hmul]
   exact ⟨_,_,_,rfl,fun _=>⟨rfl,rfl⟩⟩
 ·simp only[z8 he,iF,cT]
  exact ⟨_,_,_,rfl,fun e=>absurd e he⟩
theorem Nz:cS=some true:=by kernel_rfl
theorem D8 (h:HH):∃b,fO h 4=some b:=by
 have t1:∀x:Bool,(!x||x)=true:=fun x=>by cases x<;>rfl
 have t2:∀x:Bool,(x||!x)=true:=fun x=>by cases x<;>rfl
 unfold fO oV
 rw[ap (x:=4+10) (by decide) (by decide)]
 simp only[Bool.not_not,t1,t2,g_,cT]
 by_cases c1:(h.2.2.1.length:Int)>4
 ·simp only[z7 c1,cT]
  exact ⟨_,rfl⟩
 by_cases c2:(h.2.2.2.length:Int)>4+10
 ·simp only[z8 c1,z7 c2,cT,cF]
  exact ⟨_,rfl⟩
 by_cases c3:(h.1.size:Int)>60
 ·simp only[z8 c1,z8 c2,z7 c3,cT,cF]
  exact ⟨_,rfl⟩
 simp only[z8 c1,z8 c2,z8 c3,cF]
 refine iZ (γ:=Nat) (α:=Int×PUnit) (R:=Bool) (fun i st=>i<=h.2.2.1.length/\st=((i:Int),aQ)) (fun o=>∃b,o=some b) (fun i=>h.2.2.1.length - i) (fun rec i st ⟨hi,hst⟩=>?_) (s:=0) ⟨Nat.zero_le _,rfl⟩ (by omega)
 subst hst
 by_cases hil:i<h.2.2.1.length
 ·simp only[z7 (show (i:Int)<h.2.2.1.length by omega),be,z7 hil,cT,z9,FW,af,gJ (show i<=100000000000 by omega)]
  cases yu (a_ h.2.2.1 i fX) with
  | false=>exact .inl ⟨_,rfl⟩
  | true=>exact .inr ⟨i+1,_,⟨hil,rfl⟩,by omega,rfl⟩
 ·simp only[z8 (show ¬ (i:Int)<h.2.2.1.length by omega),cF]
  refine .inl (iZ (γ:=Nat) (α:=Int×PUnit) (R:=Bool) (fun i st=>i<=h.2.2.2.length/\st=((i:Int),aQ)) (fun o=>∃b,o=some b) (fun i=>h.2.2.2.length - i) (fun rec i st ⟨hi,hst⟩=>?_) (s:=0) ⟨Nat.zero_le _,rfl⟩ (by omega))
  subst hst
  by_cases hjl:i<h.2.2.2.length
  ·simp only[z7 (show (i:Int)<h.2.2.2.length by omega),be,z7 hjl,cT,z9,gJ (show i<=100000000000 by omega)]
   cases decide (((a_ h.2.2.2 i (({ data:={ toList:=[] } }:ByteArray),(0:Int),(0:Int),(0:Int))).1.size:Int)>60) with
   | true=>exact .inl ⟨_,rfl⟩
   | false=>exact .inr ⟨i+1,_,⟨hjl,rfl⟩,by omega,rfl⟩
  ·simp only[z8 (show ¬ (i:Int)<h.2.2.2.length by omega),cF]
   exact .inl ⟨_,rfl⟩
theorem Al {s:HS} (h:nv s=true):aB s=some (cO s,0,aQ):=by
 obtain ⟨_,_,_,_,h5,_⟩:=gn h
 simp only[aB,jt,tN,h,af,bX,cF]
 rw[zx _ (by have:=(lx h5).1;omega),af]
theorem I3:∀(l:List Brk) (a:Int),(∀b ∈ l,1<=b.2.1/\b.2.1<=1048576/\0<=b.2.2/\b.2.2<=60)->0<=a->a+l.length*62914560<9223372036854775808->l.foldl te a=a+ov (fun b:Brk=>b.2.1*b.2.2) l:=fun l a h h0 hb=>by
 have hw:∀b ∈ l,0<=b.2.1*b.2.2/\b.2.1*b.2.2<=62914560:=fun b hb=>by
  obtain ⟨h1,h2,h3,h4⟩:=h b hb
  have h5:=mK (show 0<=b.2.1 by omega) h3
  have h6:=Int.mul_le_mul h2 h4 h3 (by decide)
  omega
 have e:l.foldl te a=l.foldl (fun a b=>aq .i64 (a+b.2.1*b.2.2)) a:=by
  clear hb h0
  induction l generalizing a with
  | nil=>rfl
  | cons x l ih =>
   have hx:=hw x (by simp)
   rw[List.foldl_cons,List.foldl_cons,ih _ (fun b hb=>h b (by simp[hb])) (fun b hb=>hw b (by simp[hb]))]
   unfold te
   rw[ap (x:=x.2.1*x.2.2) (by omega) (by omega)]
 rw[e]
 exact uS (w:=fun b:Brk=>b.2.1*b.2.2) (fun _ _=>rfl) (by decide) l a hw h0 hb
theorem Ns {s:HS} (h:nv s=true):dW s=some (md s,0,aQ):=by
 obtain ⟨_,_,_,h4,_,h6⟩:=gn h
 have hb:=gA h
 obtain ⟨b1,b2⟩:=kI h6
 have hsum:∀a,0<=a->a<=4611686018427387904->s.2.2.2.2.2.2.2.2.2.2.2.2.foldl te a=a+ov (fun b:Brk=>b.2.1*b.2.2) s.2.2.2.2.2.2.2.2.2.2.2.2:=fun a a1 a2=>I3 _ a b2 a1 (by omega)
 have hl:md s=s.2.2.2.2.2.2.2.2.2.2.2.2.foldl te (cO s+s.2.2.2.2.2.2.2.1):=by
  rw[zo h,hsum _ (by omega) (by omega)]
  unfold GF
  rw[hsum 0 (by decide) (by decide)]
  omega
 unfold dW lI
 rw[Al h,hl]
 rw[af,z7 (show (0:Int)=0 from rfl),bX,cF,ap (x:=cO s+s.2.2.2.2.2.2.2.1) (by omega) (by omega)]
 obtain ⟨l,hll⟩:∃l,l=s.2.2.2.2.2.2.2.2.2.2.2.2:=⟨_,rfl⟩
 rw[<-hll] at b1 ⊢
 refine gQ (α:=Int×Int×PUnit) (R:=Int×Int×PUnit) l.length (by omega) (fun i=>((l.take i).foldl te (cO s+s.2.2.2.2.2.2.2.1),(i:Int),aQ)) _ rfl (fun again i hi=>?_) (fun again=>?_)
 ·rw[z7 (show (i:Int)<l.length by omega),cT,be,z7 hi,cT]
  refine congrArg again ?_
  rw[List.take_succ_eq_append_getElem hi,List.foldl_append,<-ca (d:=iK) hi]
  show (_,aq .i64 ((i:Int)+1),aQ)=_
  rw[gJ (show i<=100000000000 by omega)]
  rfl
 ·rw[z8 (show ¬ (l.length:Int)<l.length by omega),cF,List.take_length]
theorem JL {s:HS} (h:nv s=true):eM s=some (cO s*s.2.2.2.2.2.2.2.2.1 - s.2.2.2.2.2.2.2.1,0,aQ):=by
 obtain ⟨_,_,_,h4,_,_⟩:=gn h
 obtain ⟨_,_,_,m4,m5⟩:=uA h
 have hb:=gA h
 have h1:=mK hb.1 (show 0<=s.2.2.2.2.2.2.2.2.1 by omega)
 have h5:=Int.mul_le_mul hb.2 m5 (by omega) (by decide)
 have hz:decide ((0:Int)=0)=true:=rfl
 unfold eM nH
 rw[Al h]
 simp only[af,hz,decide_true,bX,cF]
 rw[ap (x:=cO s*s.2.2.2.2.2.2.2.2.1) (by omega) (by omega),ap (by omega) (by omega)]
def yL (l:List HS) (i:Nat):Int:=yX (yJ (l.take i))
theorem A0:∀(L:List Ld) (x:Ld),yX (L++[x])=yX L+x.2
 | [],x=>by simp[yX]
 | y ::L,x=>by
  simp only[List.cons_append,yX,A0 L x]
  omega
theorem wu {l:List HS} {i:Nat} (hi:i<l.length):yL l (i+1)=yL l i+md (l.getD i fX):=by
 unfold yL yJ
 rw[List.take_succ_eq_append_getElem hi,List.map_append,List.map_cons,List.map_nil,A0,ca hi]
theorem HP {s:HS} (h:nv s=true):0<=md s/\md s<=3000000000000:=by
 obtain ⟨_,_,_,h4,_,h6⟩:=gn h
 have h1:=gA h
 have h2:=uY h6
 rw[zo h]
 omega
theorem Ae {l:List HS} (h:∀i,i<l.length->nv (l.getD i fX)=true):∀i,i<=l.length->0<=yL l i/\yL l i<=3000000000000*(i:Int)
 | 0,_=>by
  have:yL l 0=0:=rfl
  omega
 | i+1,hi=>by
  have ih:=Ae h i (by omega)
  have hl:=HP (h i (by omega))
  rw[wu (by omega)]
  omega
theorem ER (h:HH):lX h=some true:=by
 have t1:∀x:Bool,(!x||x)=true:=fun x=>by cases x<;>rfl
 have t2:∀x:Bool,(x||!x)=true:=fun x=>by cases x<;>rfl
 obtain ⟨b,hb⟩:=D8 h
 unfold lX jR
 rw[Nz,af,hb]
 simp only[af,bX,cF,Bool.not_not,t1,t2,cT]
 cases b with
 | false=>rfl
 | true =>
 simp only[bX,cF,cT,BP,af]
 cases hv:oa h with
 | false=>rfl
 | true =>
 simp only[bX,cF]
 obtain ⟨g1,g2,g3⟩:=vg hv
 have hsb:=Ae g3
 have hz:decide ((0:Int)=0)=true:=rfl
 refine gQ (α:=Int×Int×PUnit) (R:=Bool) h.2.2.1.length (by omega) (fun i=>(yL h.2.2.1 i,(i:Int),aQ)) _ rfl (fun again i hi=>?_) (fun again=>?_)
 ·have hset:=g3 i hi
  have h1:=hsb (i+1) hi
  rw[wu hi] at h1
  have h1':=hsb i (by omega)
  have h2:=HP hset
  obtain ⟨_,_,_,m4,m5⟩:=uA hset
  obtain ⟨_,_,_,a4,_,_⟩:=gn hset
  have hw:=gA hset
  have p1:=mK hw.1 (show 0<=(h.2.2.1.getD i fX).2.2.2.2.2.2.2.2.1 by omega)
  have p2:=Int.mul_le_mul hw.2 m5 (by omega) (by decide)
  obtain ⟨a,c,e,k1,k2⟩:=Qz hset
  have hg:a_ h.2.2.1 i ({ data:={ toList:=[] } },(0:Int),(0:Int),(0:Int),(0:Int),[],(0:Int),(0:Int),(0:Int),(0:Int),(0:Int),[],[])=h.2.2.1.getD i fX:=rfl
  have hfin:aq .i64 (yL h.2.2.1 i+md (h.2.2.1.getD i fX))=yL h.2.2.1 (i+1):=by
   rw[wu hi,ap (by omega) (by omega)]
  rw[z7 (show (i:Int)<h.2.2.1.length by omega),cT,be,z7 hi,cT]
  simp only[z9,hg,Al hset,af,Ns hset,hz,decide_true,bX,iF,Bool.false_or,Bool.or_true,Bool.true_or,cF,k1,hfin,gJ (show i<=100000000000 by omega),JL hset,aN,js,g_]
  by_cases he:e=0
  ·obtain ⟨e1,e2⟩:=k2 he
   have e3:aq .i64 (cO (h.2.2.1.getD i fX)*(h.2.2.1.getD i fX).2.2.2.2.2.2.2.2.1 - (h.2.2.1.getD i fX).2.2.2.2.2.2.2.1+(h.2.2.1.getD i fX).2.2.2.2.2.2.2.1)=cO (h.2.2.1.getD i fX)*(h.2.2.1.getD i fX).2.2.2.2.2.2.2.2.1:=by
    rw[show ∀x y:Int,x - y+y=x by omega,ap (by omega) (by omega)]
   simp only[z7 he,bX,cF,e1,e2,e3,decide_true,g_,iF,Bool.true_or,Bool.or_true,cT,af]
  ·simp only[z8 he,iF,cT]
 ·have hall:yL h.2.2.1 h.2.2.1.length=yX (yJ h.2.2.1):=by unfold yL;rw[List.take_length]
  rw[z8 (show ¬ (h.2.2.1.length:Int)<h.2.2.1.length by omega),cF,It,af]
  unfold Da
  rw[hv,cT,hall]
  cases ha:h.2.2.1.any rm with
  | true=>rfl
  | false =>
   have hr:=IW hv ha
   have hl:=zD g2
   rw[cF]
   unfold zU Cv
   rw[g2,hr,g_,cT]
   by_cases hn:zE h.2.2.2 (yJ h.2.2.1)=true
   case pos=>rw[if_pos hn];rfl
   case neg =>
    rw[if_neg hn]
    have hc:∀x ∈ yJ h.2.2.1,iP h.2.2.2 x.1≠0:=fun x hx e=>by
     unfold zE at hn
     have:=List.any_eq_false.1 (Bool.eq_false_iff.2 hn) x hx
     simp[e] at this
    cases hrun:zk h.2.2.2 (yJ h.2.2.1) (fun _=>0) with
    | none=>rfl
    | some S =>
     have hS:=EU (fun _ _=>by show eE 0;decide) hrun
     have hsum:=Ib hc hrun
     have hz0:∀n,qP (fun _=>0) n=0:=fun n=>by
      induction n with
      | zero=>rfl
      | succ n ih=>simp only[qP,ih];grind
     rw[hz0,Rat.zero_add] at hsum
     obtain ⟨W,hW⟩:∃W,W=yX (yJ h.2.2.1):=⟨_,rfl⟩
     rw[<-hW] at hsum ⊢
     obtain ⟨n,hnn⟩:∃n,n=h.2.2.2.length:=⟨_,rfl⟩
     rw[<-hnn] at hS hsum hl ⊢
     show cond (!decide ((0:Int)=0)) _ _=_
     rw[z7 (show (0:Int)=0 from rfl),bX,cF]
     show ah (some (0,1)) _=_
     rw[af]
     show lpK (Int×(Int×Int)×PUnit) Bool _ (0,(0,1),aQ)=_
     rw[lu]
     refine iZ (γ:=Nat) (α:=Int×(Int×Int)×PUnit) (R:=Bool) (fun i st=>i<=n/\eE (qP S i)/\st=((i:Int),prQ (qP S i),aQ)) (fun o=>o=some true) (fun i=>n - i) (fun rec i st ⟨hi,hf,hst⟩=>?_) (s:=0) ⟨Nat.zero_le _,by show eE 0;decide,rfl⟩ (by omega)
     subst hst
     by_cases hil:i<n
     ·have hA:=QI (mi hf) (mi (hS i hil))
      rw[sF,sF] at hA
      simp only[z7 (show (i:Int)<(n:Int) by omega),be,z7 hil,cT,z9,Ab hil,hA,af,gJ (show i<=100000000000 by omega)]
      rcases qy (qP S i+S i) with ⟨f1,f2⟩ | ⟨f1,f2⟩
      ·simp only[f2,hz,decide_true,bX,cF]
       exact .inr ⟨i+1,_,⟨hil,f1,rfl⟩,by omega,rfl⟩
      ·simp only[f2]
       exact .inl rfl
     ·have hin:i=n:=by omega
      subst hin
      simp only[z8 (show ¬ (i:Int)<(i:Int) by omega),cF]
      refine .inl ?_
      rw[hsum,HX]
      simp[aN,js,af]
end Go.Proofs.YtlfdhaiigdllcaaGreat
