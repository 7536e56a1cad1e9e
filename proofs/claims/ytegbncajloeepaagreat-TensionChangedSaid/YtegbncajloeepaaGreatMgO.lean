/- Claims about tensions: bytes, numbers in bytes, and the checksum. Claims about tensions: Claim is right; it decides. Claims about tensions: what Encode and Decode of both programs answer, and that a claim is read from its bytes. Claims about tensions: Decode of any bytes. Claims about tensions: a changed byte is noticed. -/
import Derived.Laws.BitsLemmas
import Derived.Test.YtegbncajloeepaaGreatMgN

namespace Go.Proofs.YtegbncajloeepaaGreat
open Tryz Dn Dn.Sh
theorem Dy {f:Int->Int->Int} {s:Int} {l:List Int} {i:Nat} (h:i<l.length):(l.take (i+1)).foldl f s=f ((l.take i).foldl f s) (l.getD i 0):=by
 rw[List.take_succ_eq_append_getElem h,List.foldl_append,eq h]
 rfl
theorem wd {R:Type} {l:List Int} (hl:l.length<=1000000) (f g:Int->Int->Int) (e:Int->Int) {F:(Int×Int×PUnit->Option R)->Int×Int×PUnit->Option R} {r:Option R} (s0:Int)
  (hg:∀i,i<l.length->g (e ((l.take i).foldl f s0)) (l.getD i 0)=e (f ((l.take i).foldl f s0) (l.getD i 0)))
  (hb:∀again (i:Nat) s,i<l.length->F again (s,(i:Int),PUnit.unit)=again (g s (l.getD i 0),((i+1:Nat):Int),PUnit.unit))
  (hf:∀again,F again (e (l.foldl f s0),(l.length:Int),PUnit.unit)=r):lpK (Int×Int×PUnit) R F (e s0,0,PUnit.unit)=r:=by
 refine tY l.length (by omega) (fun i=>(e ((l.take i).foldl f s0),(i:Int),PUnit.unit)) r ?_ (fun again i hi=>?_) (fun again=>?_)
 ·rw[List.take_zero];rfl
 ·rw[hb again i _ hi,hg i hi,Dy hi]
 ·rw[List.take_length]
  exact hf again
def byB (n:Int):Prop:=0<=n/\n<256
def byL (l:List Int):Prop:=∀n ∈ l,byB n
theorem xz {l:List Int} (h:byL l) {i:Nat} (hi:i<l.length):byB (l.getD i 0):=by
 rw[eq hi]
 exact h _ (List.getElem_mem _)
theorem sY {l m:List Int}:byL (l++m)↔byL l/\byL m :=
 ⟨fun h=>⟨fun n hn=>h n (List.mem_append_left _ hn),fun n hn=>h n (List.mem_append_right _ hn)⟩,fun h n hn=>(List.mem_append.1 hn).elim (h.1 n) (h.2 n)⟩
theorem tQ {l:List Int} (h:byL l) (k:Nat):byL (l.take k):=fun n hn=>h n (List.mem_of_mem_take hn)
theorem tI {l:List Int} (h:byL l) (k:Nat):byL (l.drop k):=fun n hn=>h n (List.mem_of_mem_drop hn)
def vi (n x:Int):Int:=(31*n+x+1) % 4294967296
def mB (l:List Int):Int:=l.foldl vi 0
theorem An {l:List Int}:∀{s:Int},0<=s/\s<4294967296->0<=l.foldl vi s/\l.foldl vi s<4294967296:=by
 induction l with
 | nil=>intro s h;exact h
 | cons x l ih =>
  intro s h
  exact ih (by unfold vi;omega)
theorem pN (l:List Int):0<=mB l/\mB l<4294967296:=An (by omega)
theorem BN {l:List Int} (hl:l.length<=1000000) (hb:byL l):bL l=some (mB l):=by
 unfold bL kP
 refine wd hl vi (fun n x=>IntKind.wrap IntKind.u32 (IntKind.wrap IntKind.u32 (IntKind.wrap IntKind.u32 (31*n)+IntKind.wrap IntKind.u32 x)+1)) (fun n=>n) 0 (fun i hi=>?_) (fun again i s hi=>?_) (fun again=>?_)
 ·have h1:=xz hb hi
  unfold byB at h1
  simp only[IntKind.wrap_u32,vi]
  omega
 ·simp only[z7 (show (i:Int)<l.length by omega),cT,ol,z7 hi,z9,qc (show i<=1000000 by omega)]
 ·simp only[z8 (show ¬ (l.length:Int)<l.length by omega),cF]
  have:=pN l
  unfold mB at this ⊢
  rw[da (by omega) (by omega)]
def Ba (n x:Int):Int:=256*n+x
def na (l:List Int):Int:=l.foldl Ba 0
abbrev w64 (n:Int):Int:=IntKind.wrap .i64 n
theorem Fh {v x:Int} (h:byB x):IntKind.wrap .i64 ((Nat.lor (Int.toNat (IntKind.wrap .i64 (w64 v*2 ^ 8) % Int.ofNat 18446744073709551616)) (Int.toNat (IntKind.wrap .i64 x % Int.ofNat 18446744073709551616)):Nat):Int)=w64 (Ba v x):=by
 unfold byB at h
 have e1:(IntKind.wrap .i64 (w64 v*2 ^ 8) % Int.ofNat 18446744073709551616).toNat=(v % 72057594037927936).toNat*2 ^ 8:=by
  simp only[w64,IntKind.wrap_i64,show (Int.ofNat 18446744073709551616)=(18446744073709551616:Int) from rfl,show ((2:Int) ^ 8)=256 from rfl,show (2 ^ 8:Nat)=256 from rfl]
  omega
 have e2:(IntKind.wrap .i64 x % Int.ofNat 18446744073709551616).toNat=x.toNat:=by
  rw[da (by omega) (by omega),show (Int.ofNat 18446744073709551616)=(18446744073709551616:Int) from rfl]
  omega
 have e3:Nat.lor ((v % 72057594037927936).toNat*2 ^ 8) x.toNat=(v % 72057594037927936).toNat*2 ^ 8+x.toNat:=by
  have:=Nat.shiftLeft_add_eq_or_of_lt (a:=(v % 72057594037927936).toNat) (b:=x.toNat) (i:=8) (by omega)
  rw[Nat.shiftLeft_eq] at this
  exact this.symm
 rw[e1,e2,e3]
 simp only[w64,IntKind.wrap_i64,Ba,show (2 ^ 8:Nat)=256 from rfl]
 omega
theorem wW {l:List Int} (hl:l.length<=1000000) (hb:byL l):dx l=some (w64 (na l)):=by
 unfold dx kM
 refine wd hl Ba (fun n x=>IntKind.wrap .i64 ((Nat.lor (Int.toNat (IntKind.wrap .i64 (n*2 ^ 8) % Int.ofNat 18446744073709551616)) (Int.toNat (IntKind.wrap .i64 x % Int.ofNat 18446744073709551616)):Nat):Int)) w64 0 (fun i hi=>Fh (xz hb hi)) (fun again i s hi=>?_) (fun again=>?_)
 ·simp only[z7 (show (i:Int)<l.length by omega),cT,ol,z7 hi,z9,qc (show i<=1000000 by omega),show decide ((0:Int)<=8)=true from rfl]
 ·simp only[z8 (show ¬ (l.length:Int)<l.length by omega),cF]
  rfl
def byt (n:Int) (k:Nat):Int:=IntKind.wrap IntKind.u8 (Int.fdiv n (2 ^ min (8*k) 64))
def lx (n:Int) (size:Nat):List Int:=gR size fun i=>byt n (size - 1 - i)
theorem K9 (n:Int) (k:Nat):byB (byt n k):=by
 unfold byB byt
 rw[IntKind.wrap_u8]
 omega
theorem ou (n:Int) (k:Nat):byL (lx n k):=fun x hx=>by
 obtain ⟨i,_,rfl⟩:=ul.1 hx
 exact K9 _ _
theorem gX {n:Int} {k:Nat}:(lx n k).length=k:=lu
theorem tB {b:List Int} {n:Int} {size:Nat} (hb:1<=b.length/\b.length<=1000000) (hs:size<=8):cz b n size=some (b++lx n size):=by
 unfold cz kQ
 refine tY size (by omega) (fun i=>(b++gR i (fun j=>byt n (size - 1 - j)),(size:Int) - 1 - i,PUnit.unit)) _ ?_ (fun again i hi=>?_) (fun again=>?_)
 ·rw[da (by omega) (by omega)]
  simp only[gR,List.range_zero,List.map_nil,List.append_nil]
  rw[show (size:Int) - 1 - ((0:Nat):Int)=(size:Int) - 1 by omega]
 ·simp only
  rw[da (x:=8*((size:Int) - 1 - i)) (by omega) (by omega),da (x:=(size:Int) - 1 - i - 1) (by omega) (by omega)]
  rw[z7 (show (size:Int) - 1 - i>=0 by omega),cT,z7 (show (0:Int)<=8*((size:Int) - 1 - i) by omega),cT,oA (by rw[List.length_append,lu];omega),cT]
  rw[<-uy,List.append_assoc,show (8*((size:Int) - 1 - i)).toNat=8*(size - 1 - i) by omega,show (size:Int) - 1 - i - 1=(size:Int) - 1 - ((i+1:Nat):Int) by omega]
  rfl
 ·simp only
  rw[z8 (show ¬ (size:Int) - 1 - size>=0 by omega),cF,show Nat.ble 1 (b++gR size fun j=>byt n (size - 1 - j)).length=true by rw[Nat.ble_eq,List.length_append];omega,cT]
  rfl
theorem Ag {n:Int} (h:0<=n/\n<4294967296):w64 (na (lx n 4))=n:=by
 have e:na (lx n 4)=256*(256*(256*(256*0+byt n 3)+byt n 2)+byt n 1)+byt n 0:=rfl
 have f0:byt n 0=n % 256:=by unfold byt;rw[IntKind.wrap_u8,Int.fdiv_eq_ediv_of_nonneg _ (by decide)];show n / 1 % 256=_;omega
 have f1:byt n 1=n / 256 % 256:=by unfold byt;rw[IntKind.wrap_u8,Int.fdiv_eq_ediv_of_nonneg _ (by decide)];rfl
 have f2:byt n 2=n / 65536 % 256:=by unfold byt;rw[IntKind.wrap_u8,Int.fdiv_eq_ediv_of_nonneg _ (by decide)];rfl
 have f3:byt n 3=n / 16777216 % 256:=by unfold byt;rw[IntKind.wrap_u8,Int.fdiv_eq_ediv_of_nonneg _ (by decide)];rfl
 rw[e,f0,f1,f2,f3]
 unfold w64
 rw[da (by omega) (by omega)]
 omega
theorem zY {f:Int->Int->Int} {P:Int->Prop} (hP:∀a y,P a->byB y->P (f a y)) (hI:∀a b y,P a->P b->byB y->f a y=f b y->a=b):∀{l:List Int} {a b:Int},byL l->P a->P b->l.foldl f a=l.foldl f b->a=b
 | [],_,_,_,_,_,h=>h
 | x ::l,a,b,hl,ha,hb,h=>by
  have hx:byB x:=hl x (by simp)
  exact hI a b x ha hb hx (zY hP hI (fun n hn=>hl n (by simp[hn])) (hP a x ha hx) (hP b x hb hx) h)
theorem ug {f:Int->Int->Int} {P:Int->Prop} (hP:∀a y,P a->byB y->P (f a y)) (hI:∀a b y,P a->P b->byB y->f a y=f b y->a=b) (hS:∀a x y,P a->byB x->byB y->f a x=f a y->x=y) {v:Int} (hv:byB v) :
  ∀{l:List Int} {p:Nat} {s:Int},byL l->P s->p<l.length->(l.set p v).foldl f s=l.foldl f s->v=l.getD p 0
 | [],_,_,_,_,h,_=>absurd h (Nat.not_lt_zero _)
 | x ::l,0,s,hl,hs,_,h=>by
  have hx:byB x:=hl x (by simp)
  exact hS s v x hs hv hx (zY hP hI (fun n hn=>hl n (by simp[hn])) (hP s v hs hv) (hP s x hs hx) h)
 | x ::l,p+1,s,hl,hs,hp,h=>by
  have hx:byB x:=hl x (by simp)
  have:=ug hP hI hS hv (fun n hn=>hl n (by simp[hn])) (hP s x hs hx) (show p<l.length by simpa using hp) h
  rw[this]
  rfl
theorem F2 {l:List Int} (hl:byL l) {p:Nat} (hp:p<l.length) {v:Int} (hv:byB v) (h:mB (l.set p v)=mB l):v=l.getD p 0 :=
 ug (f:=vi) (P:=fun a=>0<=a/\a<4294967296) (fun a y ha hy=>by unfold byB at hy;unfold vi;omega) (fun a b y ha hb hy e=>by unfold byB at hy;unfold vi at e;omega) (fun a x y ha hx hy e=>by unfold byB at hx hy;unfold vi at e;omega) hv hl (by omega) hp h
theorem EZ {l:List Int} (hl:byL l) {p:Nat} (hp:p<l.length) {v:Int} (hv:byB v) (h:na (l.set p v)=na l):v=l.getD p 0 :=
 ug (f:=Ba) (P:=fun _=>True) (fun _ _ _ _=>trivial) (fun a b y _ _ _ e=>by unfold Ba at e;omega) (fun a x y _ _ _ e=>by unfold Ba at e;omega) hv hl trivial hp h
theorem Dv {l:List Int} (hl:byL l) (h4:l.length=4):0<=na l/\na l<4294967296:=by
 match l,h4,hl with
 | [a,b,c,d],_,hl =>
  have h1:=hl a (by simp)
  have h2:=hl b (by simp)
  have h3:=hl c (by simp)
  have h4:=hl d (by simp)
  unfold byB at h1 h2 h3 h4
  show 0<=256*(256*(256*(256*0+a)+b)+c)+d/\256*(256*(256*(256*0+a)+b)+c)+d<_
  omega
theorem yj {l:List Int} (hl:byL l) (h4:l.length=4):w64 (na l)=na l:=by
 have:=Dv hl h4
 unfold w64
 exact da (by omega) (by omega)
def noC:Cl:=([],false,[])
end Go.Proofs.YtegbncajloeepaaGreat

namespace Go.Proofs.YtegbncajloeepaaGreat
noncomputable section
open Tryz Dn Dn.Sh
def hdC (c:Cl):List Int:=[84,67,bif c.2.1 then 1 else 0,IntKind.wrap IntKind.u8 ((dl c).length:Int)]
def bod (l:List Fq):List Int:=l.flatMap fun a=>lx a.1 8++lx a.2 8
def kZ (c:Cl):List Int:=hdC c++bod (dl c)
def gY (c:Cl):List Int:=kZ c++lx (mB (kZ c)) 4
theorem uC (a:Fq) (l:List Fq):bod (a ::l)=lx a.1 8++(lx a.2 8++bod l):=by
 unfold bod
 rw[List.flatMap_cons,List.append_assoc]
theorem Je (l m:List Fq):bod (l++m)=bod l++bod m:=List.flatMap_append
theorem Hg {l:List Fq} {i:Nat} (h:i<l.length):bod (l.take (i+1))=bod (l.take i)++lx (l.getD i (0,0)).1 8++lx (l.getD i (0,0)).2 8:=by
 rw[List.take_succ_eq_append_getElem h,Je,uC,eq h,show bod []=[] from rfl,List.append_nil,List.append_assoc]
theorem xe (l:List Fq):(bod l).length=16*l.length:=by
 induction l with
 | nil=>rfl
 | cons a l ih=>rw[uC,List.length_append,List.length_append,ih,gX,gX,List.length_cons];omega
theorem LH (l:List Fq):byL (bod l):=by
 induction l with
 | nil=>intro n hn;cases hn
 | cons a l ih=>rw[uC,sY,sY];exact ⟨ou _ _,ou _ _,ih⟩
theorem LZ (c:Cl):byL (hdC c):=by
 intro n hn
 simp only[hdC,List.mem_cons,List.not_mem_nil,or_false] at hn
 unfold byB
 rcases hn with rfl | rfl | rfl | rfl
 ·decide
 ·decide
 ·cases c.2.1<;>decide
 ·rw[IntKind.wrap_u8];omega
theorem xE (c:Cl):byL (kZ c):=sY.2 ⟨LZ c,LH _⟩
theorem xW (c:Cl):byL (gY c):=sY.2 ⟨xE c,ou _ _⟩
theorem qe (c:Cl):(kZ c).length=4+16*(dl c).length:=by
 unfold kZ
 rw[List.length_append,xe]
 rfl
theorem Ah (c:Cl):(gY c).length=8+16*(dl c).length:=by
 unfold gY
 rw[List.length_append,qe,gX]
 omega
def zQ (c:Cl):List Int×Int×Unit:=bif !(okL c.1&&okL c.2.2) then ([],1,()) else bif decide (0<(iG c).length) then ([],19,()) else bif decide (20<(dl c).length) then ([],4,()) else (gY c,0,())
theorem Ie {c:Cl} (h1:c.1.length<=1000) (h2:c.2.2.length<=1000):bc c=some (zQ c):=by
 unfold bc im
 simp only[C6,Dt h1 h2,aA]
 unfold zQ
 cases okL c.1&&okL c.2.2 with
 | false=>rfl
 | true =>
  simp only[Bool.not_true,cF]
  by_cases h3:0<(iG c).length
  ·rw[z7 h3,z7 (show ((iG c).length:Int)>0 by omega)];rfl
  rw[z8 h3,z8 (show ¬ ((iG c).length:Int)>0 by omega)]
  simp only[cF]
  by_cases h4:20<(dl c).length
  ·rw[z7 h4,z7 (show ((dl c).length:Int)>20 by omega)];rfl
  rw[z8 h4,z8 (show ¬ ((dl c).length:Int)>20 by omega)]
  simp only[cF,jnT]
  have hl4:(hdC c).length=4:=rfl
  have hstep:∀i,i<(dl c).length->cz (hdC c++bod ((dl c).take i)) ((dl c).getD i (0,0)).1 8=some (hdC c++bod ((dl c).take i)++lx ((dl c).getD i (0,0)).1 8):=fun i hi=>by
   refine tB (size:=8) ?_ (by omega)
   rw[List.length_append,xe,List.length_take]
   omega
  have hstep2:∀i,i<(dl c).length->cz (hdC c++bod ((dl c).take i)++lx ((dl c).getD i (0,0)).1 8) ((dl c).getD i (0,0)).2 8=some (hdC c++bod ((dl c).take (i+1))):=fun i hi=>by
   rw[Hg hi,<-List.append_assoc,<-List.append_assoc]
   refine tB (size:=8) ?_ (by omega)
   rw[List.length_append,List.length_append,xe,List.length_take,gX]
   omega
  have hput:cz (kZ c) (mB (kZ c)) 4=some (gY c):=tB (size:=4) (by rw[qe];omega) (by omega)
  have hsum:=BN (l:=kZ c) (by rw[qe];omega) (xE c)
  have hst:∀x,x=hdC c->(x,(0:Int),PUnit.unit)=(hdC c++bod ((dl c).take 0),((0:Nat):Int),PUnit.unit):=fun x hx=>by
   rw[hx,List.take_zero,show bod []=[] from rfl,List.append_nil];rfl
  cases hr:c.2.1 <;>
  ·simp only[cT,cF]
   refine tY (dl c).length (by omega) (fun i=>(hdC c++bod ((dl c).take i),(i:Int),PUnit.unit)) _ (hst _ (by unfold hdC;rw[hr];rfl)) (fun again i hi=>?_) (fun again=>?_)
   ·simp only[z7 (show (i:Int)<(dl c).length by omega),cT,ol,z7 hi,z9,hstep i hi,hstep2 i hi,aA,qc (show i<=1000000 by omega)]
   ·simp only[z8 (show ¬ ((dl c).length:Int)<(dl c).length by omega),cF,List.take_length]
    rw[show hdC c++bod (dl c)=kZ c from rfl,hsum,aA,hput,aA]
theorem CF {c:Cl} (h:(zQ c).2.1=0):okL c.1=true/\okL c.2.2=true/\iG c=[]/\(dl c).length<=20/\zQ c=(gY c,0,()):=by
 unfold zQ at h ⊢
 cases h1:okL c.1&&okL c.2.2 with
 | false=>rw[h1] at h;cases h
 | true =>
  rw[h1] at h
  rw[z10] at h1
  by_cases h3:0<(iG c).length
  ·rw[z7 h3] at h;cases h
  by_cases h4:20<(dl c).length
  ·rw[z7 h4,z8 h3] at h;cases h
  refine ⟨h1.1,h1.2,List.length_eq_zero_iff.1 (by omega),by omega,?_⟩
  rw[z8 h3,z8 h4]
  rfl
def BB (b:List Int) (i:Nat):Fq:=(w64 (na ((b.drop (4+16*i)).take 8)),w64 (na ((b.drop (12+16*i)).take 8)))
def frs (b:List Int):List Fq:=gR (b.getD 3 0).toNat (BB b)
def hdB (b:List Int):Bool:=decide (b.getD 0 0=84)&&(decide (b.getD 1 0=67)&&(!decide (b.getD 2 0>1)&&(!decide (b.getD 3 0>20)&&decide ((b.length:Int)=8+16*b.getD 3 0))))
def E8 (b:List Int):Cl×Int×Unit:=bif decide (b.length>1048576) then (noC,4,()) else bif decide (b.length<8) then (noC,8,()) else bif !hdB b then (noC,7,()) else
 bif !decide (w64 (na (b.drop (b.length - 4)))=mB (b.take (b.length - 4))) then (noC,18,()) else bif okL (frs b) then (bif decide (b.getD 2 0=1) then ([],true,frs b) else (frs b,false,[]),0,()) else (noC,1,())
theorem IP {k:Nat} {f:Nat->Fq}:((List.range' 0 k).all fun i=>decide (okF (f i)))=okL (gR k f):=by
 rw[Bool.eq_iff_iff,Jy,List.all_eq_true]
 refine ⟨fun h a ha=>?_,fun h i hi=>?_⟩
 ·obtain ⟨i,hi,rfl⟩:=ul.1 ha
  exact z12 (h i (List.mem_range'.2 ⟨i,hi,by omega⟩))
 ·obtain ⟨j,hj,rfl⟩:=List.mem_range'.1 hi
  exact z7 (h _ (ul.2 ⟨_,by omega,rfl⟩))
theorem Jk {b:List Int} (hb:byL b) (hlen:b.length<=10000000):ce b=some (E8 b):=by
 unfold ce io E8
 by_cases h1:b.length>1048576
 ·simp only[z7 h1,z7 (show (b.length:Int)>1048576 by omega),cT]
  rfl
 by_cases h2:b.length<8
 ·simp only[z8 h1,z8 (show ¬ (b.length:Int)>1048576 by omega),z7 h2,z7 (show (b.length:Int)<8 by omega),cT,cF]
  rfl
 have h3:=xz hb (show 3<b.length by omega)
 unfold byB at h3
 simp only[z8 h1,z8 (show ¬ (b.length:Int)>1048576 by omega),z8 h2,z8 (show ¬ (b.length:Int)<8 by omega),cF,rB (show (0:Int)<=0 by omega) (show (0:Int)<b.length by omega),
  rB (show (0:Int)<=1 by omega) (show (1:Int)<b.length by omega),rB (show (0:Int)<=2 by omega) (show (2:Int)<b.length by omega),rB (show (0:Int)<=3 by omega) (show (3:Int)<b.length by omega),
  da (x:=b.getD 3 0) (by omega) (by omega),da (x:=16*b.getD 3 0) (by omega) (by omega),da (x:=8+16*b.getD 3 0) (by omega) (by omega),da (x:=(b.length:Int) - 4) (by omega) (by omega),cT,Bool.or_true,Bool.and_true]
 cases hh:hdB b with
 | false =>
  unfold hdB at hh
  revert hh
  generalize decide ((b.length:Int)=8+16*b.getD 3 0)=d4
  generalize decide (b.getD 3 0>20)=d3
  generalize decide (b.getD 2 0>1)=d2
  generalize decide (b.getD 1 0=67)=d1
  generalize decide (b.getD 0 0=84)=d0
  intro hh
  revert hh
  cases d0<;>cases d1<;>cases d2<;>cases d3<;>cases d4<;>intro hh<;>first | rfl | (exact absurd hh (by decide))
 | true =>
  have hh':=hh
  unfold hdB at hh'
  simp only[z10,decide_eq_true_eq,Bool.not_eq_true',decide_eq_false_iff_not] at hh'
  obtain ⟨e0,e1,e2,e3,e4⟩:=hh'
  obtain ⟨k,hk⟩:∃k:Nat,b.getD 3 0=k:=⟨(b.getD 3 0).toNat,by omega⟩
  have hn:b.length=8+16*k:=by omega
  have hsum:=BN (l:=b.take (4+16*k)) (by rw[List.length_take];omega) (tQ hb _)
  have hval:=wW (l:=b.drop (4+16*k)) (by rw[List.length_drop];omega) (tI hb _)
  simp only[z7 e0,z7 e1,z8 e2,z8 e3,z7 e4,Bool.not_true,Bool.not_false,cT,cF,Bool.or_true,Bool.true_or,Bool.and_self,vc (show (0:Int)<=(b.length:Int) - 4 by omega) (show (b.length:Int) - 4<=b.length by omega) (show (b.length:Int)<=b.length by omega),
   vc (show (0:Int)<=0 by omega) (show 0<=(b.length:Int) - 4 by omega) (show (b.length:Int) - 4<=b.length by omega),z9,List.take_length,show ((b.length:Int) - 4).toNat=4+16*k by omega,show b.length - 4=4+16*k by omega,List.drop_zero,hsum,hval,aA]
  cases hs:decide (w64 (na (b.drop (4+16*k)))=mB (b.take (4+16*k))) with
  | false=>rfl
  | true =>
   simp only[Bool.not_true,cF]
   refine (H4 (α:=List Fq×Int×Cl×PUnit) (R:=Cl×Int×PUnit) k (by omega) (fun i=>(gR i (BB b),((4+16*i:Nat):Int),noC,PUnit.unit)) (fun i=>decide (okF (BB b i))) (bad:=some (noC,1,())) (good:=some (bif decide (b.getD 2 0=1) then ([],true,frs b) else (frs b,false,[]),0,())) rfl ?_ ?_).trans ?_
   rotate_right
   ·rw[IP,show gR k (BB b)=frs b by unfold frs;rw[hk,z9]]
    cases okL (frs b)<;>rfl
   ·intro again i hi
    have g1:4+16*i+16<=b.length:=by omega
    have c1:=wW (l:=(b.drop (4+16*i)).take 8) (by rw[List.length_take];omega) (tQ (tI hb _) _)
    have c2:=wW (l:=(b.drop (12+16*i)).take 8) (by rw[List.length_take];omega) (tQ (tI hb _) _)
    have t1:(b.take (4+16*i+8)).drop (4+16*i)=(b.drop (4+16*i)).take 8:=by rw[List.drop_take,show 4+16*i+8 - (4+16*i)=8 by omega]
    have t2:(b.take (4+16*i+16)).drop (12+16*i)=(b.drop (12+16*i)).take 8:=by rw[List.drop_take,show 4+16*i+16 - (12+16*i)=8 by omega]
    simp only[da (x:=((4+16*i:Nat):Int)+8) (by omega) (by omega),da (x:=((4+16*i:Nat):Int)+16) (by omega) (by omega),z7 (show ((4+16*i:Nat):Int)<(b.length:Int) - 4 by omega),cT,
     vc (show (0:Int)<=((4+16*i:Nat):Int) by omega) (show ((4+16*i:Nat):Int)<=((4+16*i:Nat):Int)+8 by omega) (show ((4+16*i:Nat):Int)+8<=b.length by omega),
     vc (show (0:Int)<=((4+16*i:Nat):Int)+8 by omega) (show ((4+16*i:Nat):Int)+8<=((4+16*i:Nat):Int)+16 by omega) (show ((4+16*i:Nat):Int)+16<=b.length by omega),z9,
     show (((4+16*i:Nat):Int)+8).toNat=4+16*i+8 by omega,show (((4+16*i:Nat):Int)+16).toNat=4+16*i+16 by omega,t1,c1,aA]
    rw[show 4+16*i+8=12+16*i by omega,t2,c2,aA,zP,aA,oA (by rw[lu];omega),<-uy,show ((4+16*i:Nat):Int)+16=((4+16*(i+1):Nat):Int) by omega]
    simp only[cT]
    rw[show (w64 (na ((b.drop (4+16*i)).take 8)),w64 (na ((b.drop (12+16*i)).take 8)))=BB b i from rfl]
    cases decide (okF (BB b i))<;>rfl
   ·intro again
    simp only[z8 (show ¬ ((4+16*k:Nat):Int)<(b.length:Int) - 4 by omega),cF]
    rw[show frs b=gR k (BB b) by unfold frs;rw[hk,z9]]
    cases decide (b.getD 2 0=1)<;>rfl
theorem Ft {b:List Int} (h:(E8 b).2.1=0):w64 (na (b.drop (b.length - 4)))=mB (b.take (b.length - 4)):=by
 unfold E8 at h
 revert h
 cases decide (b.length>1048576) with
 | true=>intro h;cases h
 | false=>?_
 cases decide (b.length<8) with
 | true=>intro h;cases h
 | false=>?_
 cases hdB b with
 | false=>intro h;cases h
 | true=>?_
 cases hs:decide (w64 (na (b.drop (b.length - 4)))=mB (b.take (b.length - 4))) with
 | false=>intro h;cases h
 | true=>intro _;exact z12 hs
end
end Go.Proofs.YtegbncajloeepaaGreat

namespace Go.Proofs.YtegbncajloeepaaGreat
open Tryz Dn Dn.Sh
theorem NJ {n:Int} (h:(Lit.int .u8 n).wf=true):byB n:=by
 unfold Lit.wf at h
 rw[z10,decide_eq_true_eq,decide_eq_true_eq,show IntKind.u8.min=0 by decide,show IntKind.u8.max=255 by decide] at h
 unfold byB
 omega
theorem K6 {n:Int} (h:(Lit.int .u16 n).wf=true):0<=n/\n<65536:=by
 unfold Lit.wf at h
 rw[z10,decide_eq_true_eq,decide_eq_true_eq,show IntKind.u16.min=0 by decide,show IntKind.u16.max=65535 by decide] at h
 omega
theorem L0 {x y:Int} (hx:byB x) (hy:byB y) (h:y≠0):byB (IntKind.wrap IntKind.u8 ((Nat.xor (Int.toNat (x % Int.ofNat 256)) (Int.toNat (y % Int.ofNat 256)):Nat):Int))/\IntKind.wrap IntKind.u8 ((Nat.xor (Int.toNat (x % Int.ofNat 256)) (Int.toNat (y % Int.ofNat 256)):Nat):Int)≠x:=by
 unfold byB at *
 have e1:(x % Int.ofNat 256).toNat=x.toNat:=by rw[show (Int.ofNat 256)=(256:Int) from rfl];omega
 have e2:(y % Int.ofNat 256).toNat=y.toNat:=by rw[show (Int.ofNat 256)=(256:Int) from rfl];omega
 rw[e1,e2,IntKind.wrap_u8]
 have hlt:Nat.xor x.toNat y.toNat<2 ^ 8:=Nat.xor_lt_two_pow (by omega) (by omega)
 refine ⟨by omega,fun e=>h ?_⟩
 have e3:Nat.xor x.toNat y.toNat=x.toNat:=by omega
 have e4:y.toNat=0:=by
  have:x.toNat ^^^ (x.toNat ^^^ y.toNat)=x.toNat ^^^ x.toNat:=congrArg (x.toNat ^^^ ·) e3
  rw[<-Nat.xor_assoc,Nat.xor_self,Nat.zero_xor] at this
  exact this
 omega
theorem DW {l:List Int} (h:byL l) {v:Int} (hv:byB v) (p:Nat):byL (l.set p v):=fun n hn=>by
 rcases List.mem_or_eq_of_mem_set hn with h1 | rfl
 ·exact h n h1
 ·exact hv
theorem BE {c:Cl} (h4:(dl c).length<=20) {p:Nat} (hp:p<(gY c).length) {v:Int} (hv:byB v) (hne:v≠(gY c).getD p 0):(E8 ((gY c).set p v)).2.1≠0:=by
 intro h
 have hs:=Ft h
 have hn:=Ah c
 have hpn:=qe c
 have hb:=xW c
 rw[List.length_set,show (gY c).length - 4=4+16*(dl c).length by omega] at hs
 have ht:(gY c).take (4+16*(dl c).length)=kZ c:=by unfold gY;exact List.take_left' hpn
 have hd:(gY c).drop (4+16*(dl c).length)=lx (mB (kZ c)) 4:=by unfold gY;exact List.drop_left' hpn
 by_cases hp4:p<4+16*(dl c).length
 ·rw[List.drop_set_of_lt hp4,List.take_set,ht,hd,Ag (pN _)] at hs
  have:=F2 (xE c) (show p<(kZ c).length by omega) hv hs.symm
  refine hne (this.trans ?_)
  unfold gY
  rw[eq (show p<(kZ c).length by omega),eq (by rw[List.length_append];omega),List.getElem_append_left]
 ·have e1:((gY c).set p v).take (4+16*(dl c).length)=kZ c:=by rw[List.take_set_of_le (by omega),ht]
  have e2:((gY c).set p v).drop (4+16*(dl c).length)=(lx (mB (kZ c)) 4).set (p - (4+16*(dl c).length)) v:=by rw[List.drop_set,if_neg (by omega),hd]
  have h4':lx (mB (kZ c)) 4=lx (mB (kZ c)) 4:=rfl
  rw[e1,e2,yj (DW (ou _ _) hv _) (by rw[List.length_set,gX])] at hs
  have hw:na (lx (mB (kZ c)) 4)=mB (kZ c):=by rw[<-yj (ou _ _) gX];exact Ag (pN _)
  have:=EZ (ou _ _) (p:=p - (4+16*(dl c).length)) (by rw[gX];omega) hv (hs.trans hw.symm)
  refine hne (this.trans ?_)
  unfold gY
  rw[eq (show p - (4+16*(dl c).length)<(lx (mB (kZ c)) 4).length by rw[gX];omega),eq (by rw[List.length_append,gX];omega),List.getElem_append_right (by omega)]
  congr 1
  omega
theorem xT (c:Cl) (at_ by_:Int) (h:Sh.wf (.int .u16) at_) (h':Sh.wf (.int .u8) by_):fR c at_ by_=some true:=by
 have hy:byB by_:=NJ h'
 have ha:0<=at_/\at_<65536:=K6 h
 simp only[fR,fj,C5,FG,aA,Bool.not_true,cF]
 cases hc:zM c with
 | true=>rfl
 | false=>?_
 obtain ⟨c1,c2⟩:=DK hc
 have hX:∀x:Bool,(!x||x)=true:=fun x=>by cases x<;>rfl
 have hA:∀x:Bool,(x||!x)=true:=fun x=>by cases x<;>rfl
 simp only[Bool.not_false,cT,cF,hX,hA,aA,CY (show c.1.length<=1000 by omega) (show c.2.2.length<=1000 by omega),Ie (show c.1.length<=1000 by omega) (show c.2.2.length<=1000 by omega)]
 by_cases hg:xD c=0
 rotate_left
 ·rw[z8 hg];rfl
 rw[z7 hg]
 simp only[Bool.not_true,cF,Bool.not_false,Bool.or_true,Bool.true_or,cT]
 by_cases hz:by_=0
 ·rw[z7 hz];rfl
 rw[z8 hz]
 simp only[cF]
 by_cases he:(zQ c).2.1=0
 rotate_left
 ·rw[z8 he]
  have:(zQ c).2.1=4:=by
   unfold zQ xD at *
   revert hg he
   cases okL c.1&&okL c.2.2 with
   | false=>intro hg;cases hg
   | true=>?_
   cases decide (0<(iG c).length) with
   | true=>intro hg;cases hg
   | false=>?_
   cases decide (20<(dl c).length) with
   | true=>intro _ _;rfl
   | false=>intro _ he;exact absurd rfl he
  rw[this];rfl
 obtain ⟨g1,g2,g3,g4,g5⟩:=CF he
 have hbl:=Ah c
 rw[g5]
 have hcl:cG (gY c)=some (gY c):=by
  simp only[cG,gP]
  rw[oA (by omega),cT]
 have hm:Int.tmod (IntKind.wrap .i64 at_) ((gY c).length:Int)=((at_.toNat % (gY c).length:Nat):Int):=by
  rw[da (by omega) (by omega),Int.tmod_eq_emod_of_nonneg (by omega),Int.natCast_emod]
  rw[Int.toNat_of_nonneg ha.1]
 have hlt:at_.toNat % (gY c).length<(gY c).length:=Nat.mod_lt _ (by omega)
 simp only[decide_true,Bool.not_true,cF,z8 (show ¬ ((gY c).length:Int)<8 by omega),z8 (show ¬ ((gY c).length:Int)>400 by omega),Bool.not_false,Bool.or_true,Bool.true_or,cT,hcl,aA,hm,ol,z7 hlt,z9,
  show nzB ((gY c).length:Int)=true from sX.2 (by omega),show Nat.ble (at_.toNat % (gY c).length).succ (gY c).length=true by rw[Nat.ble_eq];omega]
 obtain ⟨x1,x2⟩:=L0 (xz (xW c) hlt) hy hz
 rw[Jk (DW (xW c) x1 _) (by rw[List.length_set];omega),aA,z8 (BE g4 hlt x1 x2)]
 rfl
end Go.Proofs.YtegbncajloeepaaGreat
