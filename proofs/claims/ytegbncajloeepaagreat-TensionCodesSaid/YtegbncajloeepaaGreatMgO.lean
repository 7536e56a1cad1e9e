/- Claims about tensions: bytes, numbers in bytes, and the checksum. Claims about tensions: Claim is right; it decides. Claims about tensions: what Encode and Decode of both programs answer, and that a claim is read from its bytes. -/
import Derived.Laws.BitsLemmas
import Derived.Test.YtegbncajloeepaaGreatMgN

namespace Go.Proofs.YtegbncajloeepaaGreat
open Tryz Dn Dn.Sh
theorem DN {f:Int->Int->Int} {s:Int} {l:List Int} {i:Nat} (h:i<l.length):(l.take (i+1)).foldl f s=f ((l.take i).foldl f s) (l.getD i 0):=by
 rw[List.take_succ_eq_append_getElem h,List.foldl_append,dW h]
 rfl
theorem rQ {R:Type} {l:List Int} (hl:l.length<=1000000) (f g:Int->Int->Int) (e:Int->Int) {F:(Int×Int×PUnit->Option R)->Int×Int×PUnit->Option R} {r:Option R} (s0:Int)
  (hg:∀i,i<l.length->g (e ((l.take i).foldl f s0)) (l.getD i 0)=e (f ((l.take i).foldl f s0) (l.getD i 0)))
  (hb:∀again (i:Nat) s,i<l.length->F again (s,(i:Int),PUnit.unit)=again (g s (l.getD i 0),((i+1:Nat):Int),PUnit.unit))
  (hf:∀again,F again (e (l.foldl f s0),(l.length:Int),PUnit.unit)=r):lpK (Int×Int×PUnit) R F (e s0,0,PUnit.unit)=r:=by
 refine qZ l.length (by omega) (fun i=>(e ((l.take i).foldl f s0),(i:Int),PUnit.unit)) r ?_ (fun again i hi=>?_) (fun again=>?_)
 ·rw[List.take_zero];rfl
 ·rw[hb again i _ hi,hg i hi,DN hi]
 ·rw[List.take_length]
  exact hf again
def byB (n:Int):Prop:=0<=n/\n<256
def byL (l:List Int):Prop:=∀n ∈ l,byB n
theorem yo {l:List Int} (h:byL l) {i:Nat} (hi:i<l.length):byB (l.getD i 0):=by
 rw[dW hi]
 exact h _ (List.getElem_mem _)
theorem tL {l m:List Int}:byL (l++m)↔byL l/\byL m :=
 ⟨fun h=>⟨fun n hn=>h n (List.mem_append_left _ hn),fun n hn=>h n (List.mem_append_right _ hn)⟩,fun h n hn=>(List.mem_append.1 hn).elim (h.1 n) (h.2 n)⟩
theorem uw {l:List Int} (h:byL l) (k:Nat):byL (l.take k):=fun n hn=>h n (List.mem_of_mem_take hn)
theorem uE {l:List Int} (h:byL l) (k:Nat):byL (l.drop k):=fun n hn=>h n (List.mem_of_mem_drop hn)
def qF (n x:Int):Int:=(31*n+x+1) % 4294967296
def qc (l:List Int):Int:=l.foldl qF 0
theorem uK {l:List Int}:∀{s:Int},0<=s/\s<4294967296->0<=l.foldl qF s/\l.foldl qF s<4294967296:=by
 induction l with
 | nil=>intro s h;exact h
 | cons x l ih =>
  intro s h
  exact ih (by unfold qF;omega)
theorem tN (l:List Int):0<=qc l/\qc l<4294967296:=uK (by omega)
theorem B8 {l:List Int} (hl:l.length<=1000000) (hb:byL l):bP l=some (qc l):=by
 unfold bP kX
 refine rQ hl qF (fun n x=>IntKind.wrap IntKind.u32 (IntKind.wrap IntKind.u32 (IntKind.wrap IntKind.u32 (31*n)+IntKind.wrap IntKind.u32 x)+1)) (fun n=>n) 0 (fun i hi=>?_) (fun again i s hi=>?_) (fun again=>?_)
 ·have h1:=yo hb hi
  unfold byB at h1
  simp only[IntKind.wrap_u32,qF]
  omega
 ·simp only[z7 (show (i:Int)<l.length by omega),cT,jz,z7 hi,z9,gB (show i<=1000000 by omega)]
 ·simp only[z8 (show ¬ (l.length:Int)<l.length by omega),cF]
  have:=tN l
  unfold qc at this ⊢
  rw[cS (by omega) (by omega)]
theorem CX {l:List Int} (hl:l.length<=1000000) (hb:byL l):eU l=some (qc l):=by
 unfold eU oq
 refine rQ hl qF (fun n x=>Int.tmod (IntKind.wrap .i64 (IntKind.wrap .i64 (IntKind.wrap .i64 (31*n)+IntKind.wrap .i64 x)+1)) 4294967296) (fun n=>n) 0 (fun i hi=>?_) (fun again i s hi=>?_) (fun again=>?_)
 ·have h1:=yo hb hi
  unfold byB at h1
  have h2:0<=(l.take i).foldl qF 0/\(l.take i).foldl qF 0<4294967296:=uK (by omega)
  show Int.tmod (IntKind.wrap .i64 (IntKind.wrap .i64 (IntKind.wrap .i64 (31*(l.take i).foldl qF 0)+IntKind.wrap .i64 (l.getD i 0))+1)) 4294967296=qF ((l.take i).foldl qF 0) (l.getD i 0)
  rw[cS (x:=31*(l.take i).foldl qF 0) (by omega) (by omega),cS (x:=l.getD i 0) (by omega) (by omega),cS (x:=31*(l.take i).foldl qF 0+l.getD i 0) (by omega) (by omega),cS (by omega) (by omega),Int.tmod_eq_emod_of_nonneg (by omega)]
  rfl
 ·simp only[z7 (show (i:Int)<l.length by omega),cT,jz,z7 hi,z9,gB (show i<=1000000 by omega)]
 ·simp only[z8 (show ¬ (l.length:Int)<l.length by omega),cF]
  rfl
def Ir (n x:Int):Int:=256*n+x
def tl (l:List Int):Int:=l.foldl Ir 0
abbrev w64 (n:Int):Int:=IntKind.wrap .i64 n
theorem FN {v x:Int} (h:byB x):IntKind.wrap .i64 ((Nat.lor (Int.toNat (IntKind.wrap .i64 (w64 v*2 ^ 8) % Int.ofNat 18446744073709551616)) (Int.toNat (IntKind.wrap .i64 x % Int.ofNat 18446744073709551616)):Nat):Int)=w64 (Ir v x):=by
 unfold byB at h
 have e1:(IntKind.wrap .i64 (w64 v*2 ^ 8) % Int.ofNat 18446744073709551616).toNat=(v % 72057594037927936).toNat*2 ^ 8:=by
  simp only[w64,IntKind.wrap_i64,show (Int.ofNat 18446744073709551616)=(18446744073709551616:Int) from rfl,show ((2:Int) ^ 8)=256 from rfl,show (2 ^ 8:Nat)=256 from rfl]
  omega
 have e2:(IntKind.wrap .i64 x % Int.ofNat 18446744073709551616).toNat=x.toNat:=by
  rw[cS (by omega) (by omega),show (Int.ofNat 18446744073709551616)=(18446744073709551616:Int) from rfl]
  omega
 have e3:Nat.lor ((v % 72057594037927936).toNat*2 ^ 8) x.toNat=(v % 72057594037927936).toNat*2 ^ 8+x.toNat:=by
  have:=Nat.shiftLeft_add_eq_or_of_lt (a:=(v % 72057594037927936).toNat) (b:=x.toNat) (i:=8) (by omega)
  rw[Nat.shiftLeft_eq] at this
  exact this.symm
 rw[e1,e2,e3]
 simp only[w64,IntKind.wrap_i64,Ir,show (2 ^ 8:Nat)=256 from rfl]
 omega
theorem ye {l:List Int} (hl:l.length<=1000000) (hb:byL l):dC l=some (w64 (tl l)):=by
 unfold dC lk
 refine rQ hl Ir (fun n x=>IntKind.wrap .i64 ((Nat.lor (Int.toNat (IntKind.wrap .i64 (n*2 ^ 8) % Int.ofNat 18446744073709551616)) (Int.toNat (IntKind.wrap .i64 x % Int.ofNat 18446744073709551616)):Nat):Int)) w64 0 (fun i hi=>FN (yo hb hi)) (fun again i s hi=>?_) (fun again=>?_)
 ·simp only[z7 (show (i:Int)<l.length by omega),cT,jz,z7 hi,z9,gB (show i<=1000000 by omega),show decide ((0:Int)<=8)=true from rfl]
 ·simp only[z8 (show ¬ (l.length:Int)<l.length by omega),cF]
  rfl
def byt (n:Int) (k:Nat):Int:=IntKind.wrap IntKind.u8 (Int.fdiv n (2 ^ min (8*k) 64))
def gy (n:Int) (size:Nat):List Int:=gX size fun i=>byt n (size - 1 - i)
theorem K2 (n:Int) (k:Nat):byB (byt n k):=by
 unfold byB byt
 rw[IntKind.wrap_u8]
 omega
theorem xy (n:Int) (k:Nat):byL (gy n k):=fun x hx=>by
 obtain ⟨i,_,rfl⟩:=ut.1 hx
 exact K2 _ _
theorem iX {n:Int} {k:Nat}:(gy n k).length=k:=jY
theorem lw {b:List Int} {n:Int} {size:Nat} (hb:1<=b.length/\b.length<=1000000) (hs:size<=8):bO b n size=some (b++gy n size):=by
 unfold bO lq
 refine qZ size (by omega) (fun i=>(b++gX i (fun j=>byt n (size - 1 - j)),(size:Int) - 1 - i,PUnit.unit)) _ ?_ (fun again i hi=>?_) (fun again=>?_)
 ·rw[cS (by omega) (by omega)]
  simp only[gX,List.range_zero,List.map_nil,List.append_nil]
  rw[show (size:Int) - 1 - ((0:Nat):Int)=(size:Int) - 1 by omega]
 ·simp only
  rw[cS (x:=8*((size:Int) - 1 - i)) (by omega) (by omega),cS (x:=(size:Int) - 1 - i - 1) (by omega) (by omega)]
  rw[z7 (show (size:Int) - 1 - i>=0 by omega),cT,z7 (show (0:Int)<=8*((size:Int) - 1 - i) by omega),cT,qy (by rw[List.length_append,jY];omega),cT]
  rw[<-uO,List.append_assoc,show (8*((size:Int) - 1 - i)).toNat=8*(size - 1 - i) by omega,show (size:Int) - 1 - i - 1=(size:Int) - 1 - ((i+1:Nat):Int) by omega]
  rfl
 ·simp only
  rw[z8 (show ¬ (size:Int) - 1 - size>=0 by omega),cF,show Nat.ble 1 (b++gX size fun j=>byt n (size - 1 - j)).length=true by rw[Nat.ble_eq,List.length_append];omega,cT]
  rfl
theorem zS (b:List Int) (n k:Int):dl b n k=bO b n k:=rfl
theorem Hq {n:Int} (h:0<=n/\n<4294967296):w64 (tl (gy n 4))=n:=by
 have e:tl (gy n 4)=256*(256*(256*(256*0+byt n 3)+byt n 2)+byt n 1)+byt n 0:=rfl
 have f0:byt n 0=n % 256:=by unfold byt;rw[IntKind.wrap_u8,Int.fdiv_eq_ediv_of_nonneg _ (by decide)];show n / 1 % 256=_;omega
 have f1:byt n 1=n / 256 % 256:=by unfold byt;rw[IntKind.wrap_u8,Int.fdiv_eq_ediv_of_nonneg _ (by decide)];rfl
 have f2:byt n 2=n / 65536 % 256:=by unfold byt;rw[IntKind.wrap_u8,Int.fdiv_eq_ediv_of_nonneg _ (by decide)];rfl
 have f3:byt n 3=n / 16777216 % 256:=by unfold byt;rw[IntKind.wrap_u8,Int.fdiv_eq_ediv_of_nonneg _ (by decide)];rfl
 rw[e,f0,f1,f2,f3]
 unfold w64
 rw[cS (by omega) (by omega)]
 omega
theorem zF {n:Int} (h: -9223372036854775808<=n/\n<=9223372036854775807):w64 (tl (gy n 8))=n:=by
 have e:tl (gy n 8)=256*(256*(256*(256*(256*(256*(256*(256*0+byt n 7)+byt n 6)+byt n 5)+byt n 4)+byt n 3)+byt n 2)+byt n 1)+byt n 0:=rfl
 have f0:byt n 0=n % 256:=by unfold byt;rw[IntKind.wrap_u8,Int.fdiv_eq_ediv_of_nonneg _ (by decide)];show n / 1 % 256=_;omega
 have f1:byt n 1=n / 256 % 256:=by unfold byt;rw[IntKind.wrap_u8,Int.fdiv_eq_ediv_of_nonneg _ (by decide)];rfl
 have f2:byt n 2=n / 65536 % 256:=by unfold byt;rw[IntKind.wrap_u8,Int.fdiv_eq_ediv_of_nonneg _ (by decide)];rfl
 have f3:byt n 3=n / 16777216 % 256:=by unfold byt;rw[IntKind.wrap_u8,Int.fdiv_eq_ediv_of_nonneg _ (by decide)];rfl
 have f4:byt n 4=n / 4294967296 % 256:=by unfold byt;rw[IntKind.wrap_u8,Int.fdiv_eq_ediv_of_nonneg _ (by decide)];rfl
 have f5:byt n 5=n / 1099511627776 % 256:=by unfold byt;rw[IntKind.wrap_u8,Int.fdiv_eq_ediv_of_nonneg _ (by decide)];rfl
 have f6:byt n 6=n / 281474976710656 % 256:=by unfold byt;rw[IntKind.wrap_u8,Int.fdiv_eq_ediv_of_nonneg _ (by decide)];rfl
 have f7:byt n 7=n / 72057594037927936 % 256:=by unfold byt;rw[IntKind.wrap_u8,Int.fdiv_eq_ediv_of_nonneg _ (by decide)];rfl
 have g:tl (gy n 8)=n % 18446744073709551616:=by
  rw[e,f0,f1,f2,f3,f4,f5,f6,f7]
  omega
 rw[g]
 unfold w64
 rw[IntKind.wrap_i64]
 omega
theorem zX (c d:Cl) (h1:c.1.length<=1000000) (h2:c.2.2.length<=1000000):aL c d=some (decide (c.2.1=d.2.1)&&(decide (c.1=d.1)&&decide (c.2.2=d.2.2))):=by
 simp only[aL,kp]
 cases hr:decide (c.2.1=d.2.1) with
 | false=>rfl
 | true =>
  simp only[Bool.not_true,Bool.or_true,Bool.and_self,cT]
  rw[Cr c.1 d.1 h1,au]
  cases decide (c.1=d.1) with
  | false=>rfl
  | true =>
   simp only[Bool.not_true,Bool.or_true,cT]
   rw[Cr c.2.2 d.2.2 h2,au]
   cases decide (c.2.2=d.2.2)<;>rfl
def noC:Cl:=([],false,[])
end Go.Proofs.YtegbncajloeepaaGreat

namespace Go.Proofs.YtegbncajloeepaaGreat
noncomputable section
open Tryz Dn Dn.Sh
def hdC (c:Cl):List Int:=[84,67,bif c.2.1 then 1 else 0,IntKind.wrap IntKind.u8 ((bh c).length:Int)]
def bod (l:List Fq):List Int:=l.flatMap fun a=>gy a.1 8++gy a.2 8
def mc (c:Cl):List Int:=hdC c++bod (bh c)
def jf (c:Cl):List Int:=mc c++gy (qc (mc c)) 4
theorem qA (a:Fq) (l:List Fq):bod (a ::l)=gy a.1 8++(gy a.2 8++bod l):=by
 unfold bod
 rw[List.flatMap_cons,List.append_assoc]
theorem Cu (l m:List Fq):bod (l++m)=bod l++bod m:=List.flatMap_append
theorem zo {l:List Fq} {i:Nat} (h:i<l.length):bod (l.take (i+1))=bod (l.take i)++gy (l.getD i (0,0)).1 8++gy (l.getD i (0,0)).2 8:=by
 rw[List.take_succ_eq_append_getElem h,Cu,qA,dW h,show bod []=[] from rfl,List.append_nil,List.append_assoc]
theorem oA (l:List Fq):(bod l).length=16*l.length:=by
 induction l with
 | nil=>rfl
 | cons a l ih=>rw[qA,List.length_append,List.length_append,ih,iX,iX,List.length_cons];omega
theorem LZ (l:List Fq):byL (bod l):=by
 induction l with
 | nil=>intro n hn;cases hn
 | cons a l ih=>rw[qA,tL,tL];exact ⟨xy _ _,xy _ _,ih⟩
theorem LC (c:Cl):byL (hdC c):=by
 intro n hn
 simp only[hdC,List.mem_cons,List.not_mem_nil,or_false] at hn
 unfold byB
 rcases hn with rfl | rfl | rfl | rfl
 ·decide
 ·decide
 ·cases c.2.1<;>decide
 ·rw[IntKind.wrap_u8];omega
theorem xI (c:Cl):byL (mc c):=tL.2 ⟨LC c,LZ _⟩
theorem JE (c:Cl):byL (jf c):=tL.2 ⟨xI c,xy _ _⟩
theorem lY (c:Cl):(mc c).length=4+16*(bh c).length:=by
 unfold mc
 rw[List.length_append,oA]
 rfl
theorem uB (c:Cl):(jf c).length=8+16*(bh c).length:=by
 unfold jf
 rw[List.length_append,lY,iX]
 omega
def vJ (c:Cl):List Int×Int×Unit:=bif !(okL c.1&&okL c.2.2) then ([],1,()) else bif decide (0<(gD c).length) then ([],19,()) else bif decide (20<(bh c).length) then ([],4,()) else (jf c,0,())
theorem IE {c:Cl} (h1:c.1.length<=1000) (h2:c.2.2.length<=1000):bc c=some (vJ c):=by
 unfold bc iH
 simp only[DW,DU h1 h2,au]
 unfold vJ
 cases okL c.1&&okL c.2.2 with
 | false=>rfl
 | true =>
  simp only[Bool.not_true,cF]
  by_cases h3:0<(gD c).length
  ·rw[z7 h3,z7 (show ((gD c).length:Int)>0 by omega)];rfl
  rw[z8 h3,z8 (show ¬ ((gD c).length:Int)>0 by omega)]
  simp only[cF]
  by_cases h4:20<(bh c).length
  ·rw[z7 h4,z7 (show ((bh c).length:Int)>20 by omega)];rfl
  rw[z8 h4,z8 (show ¬ ((bh c).length:Int)>20 by omega)]
  simp only[cF,jnT]
  have hl4:(hdC c).length=4:=rfl
  have hstep:∀i,i<(bh c).length->bO (hdC c++bod ((bh c).take i)) ((bh c).getD i (0,0)).1 8=some (hdC c++bod ((bh c).take i)++gy ((bh c).getD i (0,0)).1 8):=fun i hi=>by
   refine lw (size:=8) ?_ (by omega)
   rw[List.length_append,oA,List.length_take]
   omega
  have hstep2:∀i,i<(bh c).length->bO (hdC c++bod ((bh c).take i)++gy ((bh c).getD i (0,0)).1 8) ((bh c).getD i (0,0)).2 8=some (hdC c++bod ((bh c).take (i+1))):=fun i hi=>by
   rw[zo hi,<-List.append_assoc,<-List.append_assoc]
   refine lw (size:=8) ?_ (by omega)
   rw[List.length_append,List.length_append,oA,List.length_take,iX]
   omega
  have hput:bO (mc c) (qc (mc c)) 4=some (jf c):=lw (size:=4) (by rw[lY];omega) (by omega)
  have hsum:=B8 (l:=mc c) (by rw[lY];omega) (xI c)
  have hst:∀x,x=hdC c->(x,(0:Int),PUnit.unit)=(hdC c++bod ((bh c).take 0),((0:Nat):Int),PUnit.unit):=fun x hx=>by
   rw[hx,List.take_zero,show bod []=[] from rfl,List.append_nil];rfl
  cases hr:c.2.1 <;>
  ·simp only[cT,cF]
   refine qZ (bh c).length (by omega) (fun i=>(hdC c++bod ((bh c).take i),(i:Int),PUnit.unit)) _ (hst _ (by unfold hdC;rw[hr];rfl)) (fun again i hi=>?_) (fun again=>?_)
   ·simp only[z7 (show (i:Int)<(bh c).length by omega),cT,jz,z7 hi,z9,hstep i hi,hstep2 i hi,au,gB (show i<=1000000 by omega)]
   ·simp only[z8 (show ¬ ((bh c).length:Int)<(bh c).length by omega),cF,List.take_length]
    rw[show hdC c++bod (bh c)=mc c from rfl,hsum,au,hput,au]
theorem Ja {c:Cl} (h1:c.1.length<=1000) (h2:c.2.2.length<=1000):dM c=some (vJ c):=by
 unfold dM kj
 simp only[EB,Dp h1 h2,au]
 unfold vJ BP
 cases okL c.1&&okL c.2.2 with
 | false=>rfl
 | true =>
  simp only[Bool.not_true,cF,cT]
  by_cases h3:0<(gD c).length
  ·rw[z7 h3];rfl
  rw[z8 h3]
  simp only[cF,decide_true,Bool.not_true]
  by_cases h4:20<(bh c).length
  ·rw[z7 h4,z7 (show ((bh c).length:Int)>20 by omega)];rfl
  rw[z8 h4,z8 (show ¬ ((bh c).length:Int)>20 by omega)]
  simp only[cF,jnT]
  have hl4:(hdC c).length=4:=rfl
  have hstep:∀i,i<(bh c).length->bO (hdC c++bod ((bh c).take i)) ((bh c).getD i (0,0)).1 8=some (hdC c++bod ((bh c).take i)++gy ((bh c).getD i (0,0)).1 8):=fun i hi=>by
   refine lw (size:=8) ?_ (by omega)
   rw[List.length_append,oA,List.length_take]
   omega
  have hstep2:∀i,i<(bh c).length->bO (hdC c++bod ((bh c).take i)++gy ((bh c).getD i (0,0)).1 8) ((bh c).getD i (0,0)).2 8=some (hdC c++bod ((bh c).take (i+1))):=fun i hi=>by
   rw[zo hi,<-List.append_assoc,<-List.append_assoc]
   refine lw (size:=8) ?_ (by omega)
   rw[List.length_append,List.length_append,oA,List.length_take,iX]
   omega
  have hput:bO (mc c) (qc (mc c)) 4=some (jf c):=lw (size:=4) (by rw[lY];omega) (by omega)
  have hsum:=CX (l:=mc c) (by rw[lY];omega) (xI c)
  have hst:∀x,x=hdC c->(x,(0:Int),PUnit.unit)=(hdC c++bod ((bh c).take 0),((0:Nat):Int),PUnit.unit):=fun x hx=>by
   rw[hx,List.take_zero,show bod []=[] from rfl,List.append_nil];rfl
  cases hr:c.2.1 <;>
  ·simp only[cT,cF]
   refine qZ (bh c).length (by omega) (fun i=>(hdC c++bod ((bh c).take i),(i:Int),PUnit.unit)) _ (hst _ (by unfold hdC;rw[hr];rfl)) (fun again i hi=>?_) (fun again=>?_)
   ·simp only[z7 (show (i:Int)<(bh c).length by omega),cT,jz,z7 hi,z9,zS,hstep i hi,hstep2 i hi,au,gB (show i<=1000000 by omega)]
   ·simp only[z8 (show ¬ ((bh c).length:Int)<(bh c).length by omega),cF,List.take_length]
    rw[show hdC c++bod (bh c)=mc c from rfl,hsum,au,zS,hput,au]
theorem CU {c:Cl} (h:(vJ c).2.1=0):okL c.1=true/\okL c.2.2=true/\gD c=[]/\(bh c).length<=20/\vJ c=(jf c,0,()):=by
 unfold vJ at h ⊢
 cases h1:okL c.1&&okL c.2.2 with
 | false=>rw[h1] at h;cases h
 | true =>
  rw[h1] at h
  rw[z10] at h1
  by_cases h3:0<(gD c).length
  ·rw[z7 h3] at h;cases h
  by_cases h4:20<(bh c).length
  ·rw[z7 h4,z8 h3] at h;cases h
  refine ⟨h1.1,h1.2,List.length_eq_zero_iff.1 (by omega),by omega,?_⟩
  rw[z8 h3,z8 h4]
  rfl
def yp (b:List Int) (i:Nat):Fq:=(w64 (tl ((b.drop (4+16*i)).take 8)),w64 (tl ((b.drop (12+16*i)).take 8)))
def frs (b:List Int):List Fq:=gX (b.getD 3 0).toNat (yp b)
def hdB (b:List Int):Bool:=decide (b.getD 0 0=84)&&(decide (b.getD 1 0=67)&&(!decide (b.getD 2 0>1)&&(!decide (b.getD 3 0>20)&&decide ((b.length:Int)=8+16*b.getD 3 0))))
def Ka (b:List Int):Cl×Int×Unit:=bif decide (b.length>1048576) then (noC,4,()) else bif decide (b.length<8) then (noC,8,()) else bif !hdB b then (noC,7,()) else
 bif !decide (w64 (tl (b.drop (b.length - 4)))=qc (b.take (b.length - 4))) then (noC,18,()) else bif okL (frs b) then (bif decide (b.getD 2 0=1) then ([],true,frs b) else (frs b,false,[]),0,()) else (noC,1,())
theorem Iv {k:Nat} {f:Nat->Fq}:((List.range' 0 k).all fun i=>decide (okF (f i)))=okL (gX k f):=by
 rw[Bool.eq_iff_iff,Cb,List.all_eq_true]
 refine ⟨fun h a ha=>?_,fun h i hi=>?_⟩
 ·obtain ⟨i,hi,rfl⟩:=ut.1 ha
  exact z12 (h i (List.mem_range'.2 ⟨i,hi,by omega⟩))
 ·obtain ⟨j,hj,rfl⟩:=List.mem_range'.1 hi
  exact z7 (h _ (ut.2 ⟨_,by omega,rfl⟩))
theorem J5 {b:List Int} (hb:byL b) (hlen:b.length<=10000000):cg b=some (Ka b):=by
 unfold cg iA Ka
 by_cases h1:b.length>1048576
 ·simp only[z7 h1,z7 (show (b.length:Int)>1048576 by omega),cT]
  rfl
 by_cases h2:b.length<8
 ·simp only[z8 h1,z8 (show ¬ (b.length:Int)>1048576 by omega),z7 h2,z7 (show (b.length:Int)<8 by omega),cT,cF]
  rfl
 have h3:=yo hb (show 3<b.length by omega)
 unfold byB at h3
 simp only[z8 h1,z8 (show ¬ (b.length:Int)>1048576 by omega),z8 h2,z8 (show ¬ (b.length:Int)<8 by omega),cF,rS (show (0:Int)<=0 by omega) (show (0:Int)<b.length by omega),
  rS (show (0:Int)<=1 by omega) (show (1:Int)<b.length by omega),rS (show (0:Int)<=2 by omega) (show (2:Int)<b.length by omega),rS (show (0:Int)<=3 by omega) (show (3:Int)<b.length by omega),
  cS (x:=b.getD 3 0) (by omega) (by omega),cS (x:=16*b.getD 3 0) (by omega) (by omega),cS (x:=8+16*b.getD 3 0) (by omega) (by omega),cS (x:=(b.length:Int) - 4) (by omega) (by omega),cT,Bool.or_true,Bool.and_true]
 cases hh:hdB b with
 | false =>
  unfold hdB at hh
  revert hh
  generalize decide ((b.length:Int)=8+16*b.getD 3 0)=d4
  generalize decide (b.getD 3 0>20)=d3
  generalize decide (b.getD 2 0>1)=d2
  generalize decide (b.getD 1 0=67)=d1
  generalize decide (b.getD 0 0=84)=d0
  intro hh
  revert hh
  cases d0<;>cases d1<;>cases d2<;>cases d3<;>cases d4<;>intro hh<;>first | rfl | (exact absurd hh (by decide))
 | true =>
  have hh':=hh
  unfold hdB at hh'
  simp only[z10,decide_eq_true_eq,Bool.not_eq_true',decide_eq_false_iff_not] at hh'
  obtain ⟨e0,e1,e2,e3,e4⟩:=hh'
  obtain ⟨k,hk⟩:∃k:Nat,b.getD 3 0=k:=⟨(b.getD 3 0).toNat,by omega⟩
  have hn:b.length=8+16*k:=by omega
  have hsum:=B8 (l:=b.take (4+16*k)) (by rw[List.length_take];omega) (uw hb _)
  have hval:=ye (l:=b.drop (4+16*k)) (by rw[List.length_drop];omega) (uE hb _)
  simp only[z7 e0,z7 e1,z8 e2,z8 e3,z7 e4,Bool.not_true,Bool.not_false,cT,cF,Bool.or_true,Bool.true_or,Bool.and_self,tQ (show (0:Int)<=(b.length:Int) - 4 by omega) (show (b.length:Int) - 4<=b.length by omega) (show (b.length:Int)<=b.length by omega),
   tQ (show (0:Int)<=0 by omega) (show 0<=(b.length:Int) - 4 by omega) (show (b.length:Int) - 4<=b.length by omega),z9,List.take_length,show ((b.length:Int) - 4).toNat=4+16*k by omega,show b.length - 4=4+16*k by omega,List.drop_zero,hsum,hval,au]
  cases hs:decide (w64 (tl (b.drop (4+16*k)))=qc (b.take (4+16*k))) with
  | false=>rfl
  | true =>
   simp only[Bool.not_true,cF]
   refine (GR (α:=List Fq×Int×Cl×PUnit) (R:=Cl×Int×PUnit) k (by omega) (fun i=>(gX i (yp b),((4+16*i:Nat):Int),noC,PUnit.unit)) (fun i=>decide (okF (yp b i))) (bad:=some (noC,1,())) (good:=some (bif decide (b.getD 2 0=1) then ([],true,frs b) else (frs b,false,[]),0,())) rfl ?_ ?_).trans ?_
   rotate_right
   ·rw[Iv,show gX k (yp b)=frs b by unfold frs;rw[hk,z9]]
    cases okL (frs b)<;>rfl
   ·intro again i hi
    have g1:4+16*i+16<=b.length:=by omega
    have c1:=ye (l:=(b.drop (4+16*i)).take 8) (by rw[List.length_take];omega) (uw (uE hb _) _)
    have c2:=ye (l:=(b.drop (12+16*i)).take 8) (by rw[List.length_take];omega) (uw (uE hb _) _)
    have t1:(b.take (4+16*i+8)).drop (4+16*i)=(b.drop (4+16*i)).take 8:=by rw[List.drop_take,show 4+16*i+8 - (4+16*i)=8 by omega]
    have t2:(b.take (4+16*i+16)).drop (12+16*i)=(b.drop (12+16*i)).take 8:=by rw[List.drop_take,show 4+16*i+16 - (12+16*i)=8 by omega]
    simp only[cS (x:=((4+16*i:Nat):Int)+8) (by omega) (by omega),cS (x:=((4+16*i:Nat):Int)+16) (by omega) (by omega),z7 (show ((4+16*i:Nat):Int)<(b.length:Int) - 4 by omega),cT,
     tQ (show (0:Int)<=((4+16*i:Nat):Int) by omega) (show ((4+16*i:Nat):Int)<=((4+16*i:Nat):Int)+8 by omega) (show ((4+16*i:Nat):Int)+8<=b.length by omega),
     tQ (show (0:Int)<=((4+16*i:Nat):Int)+8 by omega) (show ((4+16*i:Nat):Int)+8<=((4+16*i:Nat):Int)+16 by omega) (show ((4+16*i:Nat):Int)+16<=b.length by omega),z9,
     show (((4+16*i:Nat):Int)+8).toNat=4+16*i+8 by omega,show (((4+16*i:Nat):Int)+16).toNat=4+16*i+16 by omega,t1,c1,au]
    rw[show 4+16*i+8=12+16*i by omega,t2,c2,au,zE,au,qy (by rw[jY];omega),<-uO,show ((4+16*i:Nat):Int)+16=((4+16*(i+1):Nat):Int) by omega]
    simp only[cT]
    rw[show (w64 (tl ((b.drop (4+16*i)).take 8)),w64 (tl ((b.drop (12+16*i)).take 8)))=yp b i from rfl]
    cases decide (okF (yp b i))<;>rfl
   ·intro again
    simp only[z8 (show ¬ ((4+16*k:Nat):Int)<(b.length:Int) - 4 by omega),cF]
    rw[show frs b=gX k (yp b) by unfold frs;rw[hk,z9]]
    cases decide (b.getD 2 0=1)<;>rfl
theorem GF {l:List Fq} {i:Nat} (hi:i<l.length) (X:List Int):(bod l++X).drop (16*i)=gy (l.getD i (0,0)).1 8++(gy (l.getD i (0,0)).2 8++(bod (l.drop (i+1))++X)):=by
 have e:bod l=bod (l.take i)++(gy (l.getD i (0,0)).1 8++(gy (l.getD i (0,0)).2 8++bod (l.drop (i+1)))):=by
  rw[<-qA,dW hi,<-List.drop_eq_getElem_cons hi,<-Cu,List.take_append_drop]
 rw[e,List.append_assoc,List.drop_left' (by rw[oA,List.length_take];omega),List.append_assoc,List.append_assoc]
theorem IV {c:Cl} (h1:okL c.1=true) (h2:okL c.2.2=true) (h3:gD c=[]) (h4:(bh c).length<=20):Ka (jf c)=(c,0,()):=by
 have hn:=uB c
 have hpn:=lY c
 have ht:(jf c).take (4+16*(bh c).length)=mc c:=by unfold jf;exact List.take_left' hpn
 have hd:(jf c).drop (4+16*(bh c).length)=gy (qc (mc c)) 4:=by unfold jf;exact List.drop_left' hpn
 have b0:(jf c).getD 0 0=84:=rfl
 have b1:(jf c).getD 1 0=67:=rfl
 have b2:(jf c).getD 2 0=bif c.2.1 then 1 else 0:=rfl
 have b3:(jf c).getD 3 0=(bh c).length:=by
  show IntKind.wrap IntKind.u8 ((bh c).length:Int)=_
  rw[IntKind.wrap_u8];omega
 have hl:okL (bh c)=true:=by unfold bh;cases c.2.1<;>assumption
 have hat:∀i,i<(bh c).length->yp (jf c) i=(bh c).getD i (0,0):=fun i hi=>by
  have ha:okF ((bh c).getD i (0,0)):=by rw[dW hi];exact Cb.1 hl _ (List.getElem_mem _)
  have e1:(jf c).drop (4+16*i)=gy ((bh c).getD i (0,0)).1 8++(gy ((bh c).getD i (0,0)).2 8++(bod ((bh c).drop (i+1))++gy (qc (mc c)) 4)):=by
   rw[<-GF hi,Nat.add_comm 4]
   unfold jf
   rw[show mc c++gy (qc (mc c)) 4=hdC c++(bod (bh c)++gy (qc (mc c)) 4) by rw[<-List.append_assoc];rfl]
   rfl
  have e2:(jf c).drop (12+16*i)=gy ((bh c).getD i (0,0)).2 8++(bod ((bh c).drop (i+1))++gy (qc (mc c)) 4):=by
   rw[show 12+16*i=4+16*i+8 by omega,<-List.drop_drop,e1,List.drop_left' iX]
  unfold yp
  rw[e1,e2,List.take_left' iX,List.take_left' iX]
  unfold okF at ha
  rw[zF (by omega),zF (by omega)]
 have hfr:frs (jf c)=bh c:=by
  unfold frs
  rw[b3,z9]
  refine List.ext_getElem jY fun i h1 h2=>?_
  rw[xK h1,hat i h2,dW h2]
 have hhd:hdB (jf c)=true:=by
  unfold hdB
  rw[b0,b1,b2,b3,z8 (show ¬ ((bh c).length:Int)>20 by omega),z7 (show ((jf c).length:Int)=8+16*(bh c).length by omega)]
  cases c.2.1<;>rfl
 unfold Ka
 rw[z8 (show ¬ (jf c).length>1048576 by omega),z8 (show ¬ (jf c).length<8 by omega),hhd,show (jf c).length - 4=4+16*(bh c).length by omega,ht,hd,Hq (tN _),z7 rfl,hfr,hl,b2]
 obtain ⟨x,r,y⟩:=c
 cases r with
 | false =>
  have:y=[]:=h3
  rw[this];rfl
 | true =>
  have:x=[]:=h3
  rw[this];rfl
theorem BQ (c d:Cl):eJ c d=aL c d:=rfl
theorem Jm (l:List Int) (h:l.length<=1000000):bW l l=some true:=by
 simp only[bW,hO,decide_true,Bool.not_true,cF]
 refine (An (0:Int) rfl h (fun again i hi=>?_) (fun again=>?_)).trans (by rw[z7 rfl])
 ·simp only[z7 (show (i:Int)<l.length by omega),cT,jz,z7 hi,z9,gB (show i<=1000000 by omega),decide_true,Bool.not_true,cF]
 ·simp only[z8 (show ¬ (l.length:Int)<l.length by omega),cF]
theorem Ii (c:Cl):(vJ c).1.length<=8+16*(bh c).length:=by
 unfold vJ
 have:=uB c
 cases okL c.1&&okL c.2.2 with
 | false=>exact Nat.zero_le _
 | true=>?_
 cases decide (0<(gD c).length) with
 | true=>exact Nat.zero_le _
 | false=>?_
 cases decide (20<(bh c).length) with
 | true=>exact Nat.zero_le _
 | false=>exact Nat.le_of_eq this
theorem DR {c:Cl} {n:Nat} (h1:c.1.length<=n) (h2:c.2.2.length<=n):(bh c).length<=n:=by
 unfold bh
 cases c.2.1<;>assumption
theorem BF (c d:Cl):gE c d=some true:=by
 simp only[gE,fV,DD,H6,au,Bool.not_true,cF]
 cases hc:vP c with
 | true=>rfl
 | false=>?_
 cases hd:vP d with
 | true=>rfl
 | false=>?_
 obtain ⟨c1,c2⟩:=CZ hc
 simp only[Bool.not_false,cT,cF,Bool.or_true,Bool.true_or,Bool.not_true,Bool.or_false,Bool.false_or,au,IE (show c.1.length<=1000 by omega) (show c.2.2.length<=1000 by omega),Ja (show c.1.length<=1000 by omega) (show c.2.2.length<=1000 by omega)]
 have hl:=Ii c
 have hll:=DR c1 c2
 rw[Jm _ (by omega)]
 simp only[decide_true,Bool.not_true,au,cT,cF,Bool.not_false,Bool.or_true,Bool.true_or,Bool.and_self,BQ,zX c d (by omega) (by omega)]
 by_cases he:(vJ c).2.1=0
 ·obtain ⟨g1,g2,g3,g4,g5⟩:=CU he
  rw[g5]
  simp only[decide_true,Bool.not_true,cF]
  have hbl:=uB c
  rw[J5 (JE c) (by omega),au,IV g1 g2 g3 g4]
  simp only[decide_true,Bool.not_true,Bool.or_true,Bool.and_self,cT,zX c c (by omega) (by omega),au]
 ·rw[z8 he]
  rfl
end
end Go.Proofs.YtegbncajloeepaaGreat
