/- Claims about tensions: bytes, numbers in bytes, and the checksum. Claims about tensions: Claim is right; it decides. Claims about tensions: what Encode and Decode of both programs answer, and that a claim is read from its bytes. Claims about tensions: Decode of any bytes. -/
import Derived.Laws.BitsLemmas
import Derived.Test.YtegbncajloeepaaGreatMgN

namespace Go.Proofs.YtegbncajloeepaaGreat
open Tryz Dn Dn.Sh
theorem CB {f:Int->Int->Int} {s:Int} {l:List Int} {i:Nat} (h:i<l.length):(l.take (i+1)).foldl f s=f ((l.take i).foldl f s) (l.getD i 0):=by
 rw[List.take_succ_eq_append_getElem h,List.foldl_append,gp h]
 rfl
theorem oG {R:Type} {l:List Int} (hl:l.length<=1000000) (f g:Int->Int->Int) (e:Int->Int) {F:(Int×Int×PUnit->Option R)->Int×Int×PUnit->Option R} {r:Option R} (s0:Int)
  (hg:∀i,i<l.length->g (e ((l.take i).foldl f s0)) (l.getD i 0)=e (f ((l.take i).foldl f s0) (l.getD i 0)))
  (hb:∀again (i:Nat) s,i<l.length->F again (s,(i:Int),PUnit.unit)=again (g s (l.getD i 0),((i+1:Nat):Int),PUnit.unit))
  (hf:∀again,F again (e (l.foldl f s0),(l.length:Int),PUnit.unit)=r):lpK (Int×Int×PUnit) R F (e s0,0,PUnit.unit)=r:=by
 refine yA l.length (by omega) (fun i=>(e ((l.take i).foldl f s0),(i:Int),PUnit.unit)) r ?_ (fun again i hi=>?_) (fun again=>?_)
 ·rw[List.take_zero];rfl
 ·rw[hb again i _ hi,hg i hi,CB hi]
 ·rw[List.take_length]
  exact hf again
def byB (n:Int):Prop:=0<=n/\n<256
def byL (l:List Int):Prop:=∀n ∈ l,byB n
theorem rc {l:List Int} (h:byL l) {i:Nat} (hi:i<l.length):byB (l.getD i 0):=by
 rw[gp hi]
 exact h _ (List.getElem_mem _)
theorem lc {l:List Int} (h:byL l) (k:Nat):byL (l.take k):=fun n hn=>h n (List.mem_of_mem_take hn)
theorem kW {l:List Int} (h:byL l) (k:Nat):byL (l.drop k):=fun n hn=>h n (List.mem_of_mem_drop hn)
def qf (n x:Int):Int:=(31*n+x+1) % 4294967296
def wB (l:List Int):Int:=l.foldl qf 0
theorem tN {l:List Int}:∀{s:Int},0<=s/\s<4294967296->0<=l.foldl qf s/\l.foldl qf s<4294967296:=by
 induction l with
 | nil=>intro s h;exact h
 | cons x l ih =>
  intro s h
  exact ih (by unfold qf;omega)
theorem AK (l:List Int):0<=wB l/\wB l<4294967296:=tN (by omega)
theorem H3 {l:List Int} (hl:l.length<=1000000) (hb:byL l):bL l=some (wB l):=by
 unfold bL kG
 refine oG hl qf (fun n x=>IntKind.wrap IntKind.u32 (IntKind.wrap IntKind.u32 (IntKind.wrap IntKind.u32 (31*n)+IntKind.wrap IntKind.u32 x)+1)) (fun n=>n) 0 (fun i hi=>?_) (fun again i s hi=>?_) (fun again=>?_)
 ·have h1:=rc hb hi
  unfold byB at h1
  simp only[IntKind.wrap_u32,qf]
  omega
 ·simp only[z7 (show (i:Int)<l.length by omega),cT,qJ,z7 hi,z9,iw (show i<=1000000 by omega)]
 ·simp only[z8 (show ¬ (l.length:Int)<l.length by omega),cF]
  have:=AK l
  unfold wB at this ⊢
  rw[cS (by omega) (by omega)]
theorem C5 {l:List Int} (hl:l.length<=1000000) (hb:byL l):eN l=some (wB l):=by
 unfold eN nJ
 refine oG hl qf (fun n x=>Int.tmod (IntKind.wrap .i64 (IntKind.wrap .i64 (IntKind.wrap .i64 (31*n)+IntKind.wrap .i64 x)+1)) 4294967296) (fun n=>n) 0 (fun i hi=>?_) (fun again i s hi=>?_) (fun again=>?_)
 ·have h1:=rc hb hi
  unfold byB at h1
  have h2:0<=(l.take i).foldl qf 0/\(l.take i).foldl qf 0<4294967296:=tN (by omega)
  show Int.tmod (IntKind.wrap .i64 (IntKind.wrap .i64 (IntKind.wrap .i64 (31*(l.take i).foldl qf 0)+IntKind.wrap .i64 (l.getD i 0))+1)) 4294967296=qf ((l.take i).foldl qf 0) (l.getD i 0)
  rw[cS (x:=31*(l.take i).foldl qf 0) (by omega) (by omega),cS (x:=l.getD i 0) (by omega) (by omega),cS (x:=31*(l.take i).foldl qf 0+l.getD i 0) (by omega) (by omega),cS (by omega) (by omega),Int.tmod_eq_emod_of_nonneg (by omega)]
  rfl
 ·simp only[z7 (show (i:Int)<l.length by omega),cT,qJ,z7 hi,z9,iw (show i<=1000000 by omega)]
 ·simp only[z8 (show ¬ (l.length:Int)<l.length by omega),cF]
  rfl
def Am (n x:Int):Int:=256*n+x
def vc (l:List Int):Int:=l.foldl Am 0
abbrev w64 (n:Int):Int:=IntKind.wrap .i64 n
theorem He {v x:Int} (h:byB x):IntKind.wrap .i64 ((Nat.lor (Int.toNat (IntKind.wrap .i64 (w64 v*2 ^ 8) % Int.ofNat 18446744073709551616)) (Int.toNat (IntKind.wrap .i64 x % Int.ofNat 18446744073709551616)):Nat):Int)=w64 (Am v x):=by
 unfold byB at h
 have e1:(IntKind.wrap .i64 (w64 v*2 ^ 8) % Int.ofNat 18446744073709551616).toNat=(v % 72057594037927936).toNat*2 ^ 8:=by
  simp only[w64,IntKind.wrap_i64,show (Int.ofNat 18446744073709551616)=(18446744073709551616:Int) from rfl,show ((2:Int) ^ 8)=256 from rfl,show (2 ^ 8:Nat)=256 from rfl]
  omega
 have e2:(IntKind.wrap .i64 x % Int.ofNat 18446744073709551616).toNat=x.toNat:=by
  rw[cS (by omega) (by omega),show (Int.ofNat 18446744073709551616)=(18446744073709551616:Int) from rfl]
  omega
 have e3:Nat.lor ((v % 72057594037927936).toNat*2 ^ 8) x.toNat=(v % 72057594037927936).toNat*2 ^ 8+x.toNat:=by
  have:=Nat.shiftLeft_add_eq_or_of_lt (a:=(v % 72057594037927936).toNat) (b:=x.toNat) (i:=8) (by omega)
  rw[Nat.shiftLeft_eq] at this
  exact this.symm
 rw[e1,e2,e3]
 simp only[w64,IntKind.wrap_i64,Am,show (2 ^ 8:Nat)=256 from rfl]
 omega
theorem CM {v x:Int} (h:byB x):IntKind.wrap .i64 (IntKind.wrap .i64 (w64 v*2 ^ 8)+IntKind.wrap .i64 x)=w64 (Am v x):=by
 unfold byB at h
 rw[cS (x:=x) (by omega) (by omega)]
 simp only[w64,IntKind.wrap_i64,Am,show ((2:Int) ^ 8)=256 from rfl]
 omega
theorem wT {l:List Int} (hl:l.length<=1000000) (hb:byL l):dq l=some (w64 (vc l)):=by
 unfold dq kM
 refine oG hl Am (fun n x=>IntKind.wrap .i64 ((Nat.lor (Int.toNat (IntKind.wrap .i64 (n*2 ^ 8) % Int.ofNat 18446744073709551616)) (Int.toNat (IntKind.wrap .i64 x % Int.ofNat 18446744073709551616)):Nat):Int)) w64 0 (fun i hi=>He (rc hb hi)) (fun again i s hi=>?_) (fun again=>?_)
 ·simp only[z7 (show (i:Int)<l.length by omega),cT,qJ,z7 hi,z9,iw (show i<=1000000 by omega),show decide ((0:Int)<=8)=true from rfl]
 ·simp only[z8 (show ¬ (l.length:Int)<l.length by omega),cF]
  rfl
theorem tB {l:List Int} (hl:l.length<=1000000) (hb:byL l):dZ l=some (w64 (vc l)):=by
 unfold dZ mj
 refine oG hl Am (fun n x=>IntKind.wrap .i64 (IntKind.wrap .i64 (n*2 ^ 8)+IntKind.wrap .i64 x)) w64 0 (fun i hi=>CM (rc hb hi)) (fun again i s hi=>?_) (fun again=>?_)
 ·simp only[z7 (show (i:Int)<l.length by omega),cT,qJ,z7 hi,z9,iw (show i<=1000000 by omega),show decide ((0:Int)<=8)=true from rfl]
 ·simp only[z8 (show ¬ (l.length:Int)<l.length by omega),cF]
  rfl
theorem Fl (c d:Cl) (h1:c.1.length<=1000000) (h2:c.2.2.length<=1000000):bm c d=some (decide (c.2.1=d.2.1)&&(decide (c.1=d.1)&&decide (c.2.2=d.2.2))):=by
 simp only[bm,jP]
 cases hr:decide (c.2.1=d.2.1) with
 | false=>rfl
 | true =>
  simp only[Bool.not_true,Bool.or_true,Bool.and_self,cT]
  rw[BG c.1 d.1 h1,aL]
  cases decide (c.1=d.1) with
  | false=>rfl
  | true =>
   simp only[Bool.not_true,Bool.or_true,cT]
   rw[BG c.2.2 d.2.2 h2,aL]
   cases decide (c.2.2=d.2.2)<;>rfl
def noC:Cl:=([],false,[])
end Go.Proofs.YtegbncajloeepaaGreat

namespace Go.Proofs.YtegbncajloeepaaGreat
noncomputable section
open Tryz Dn Dn.Sh
def sQ (b:List Int) (i:Nat):Fq:=(w64 (vc ((b.drop (4+16*i)).take 8)),w64 (vc ((b.drop (12+16*i)).take 8)))
def frs (b:List Int):List Fq:=gG (b.getD 3 0).toNat (sQ b)
def hdB (b:List Int):Bool:=decide (b.getD 0 0=84)&&(decide (b.getD 1 0=67)&&(!decide (b.getD 2 0>1)&&(!decide (b.getD 3 0>20)&&decide ((b.length:Int)=8+16*b.getD 3 0))))
def vm (b:List Int):Cl×Int×Unit:=bif decide (b.length>1048576) then (noC,4,()) else bif decide (b.length<8) then (noC,8,()) else bif !hdB b then (noC,7,()) else
 bif !decide (w64 (vc (b.drop (b.length - 4)))=wB (b.take (b.length - 4))) then (noC,18,()) else bif okL (frs b) then (bif decide (b.getD 2 0=1) then ([],true,frs b) else (frs b,false,[]),0,()) else (noC,1,())
theorem JD {k:Nat} {f:Nat->Fq}:((List.range' 0 k).all fun i=>decide (okF (f i)))=okL (gG k f):=by
 rw[Bool.eq_iff_iff,Jk,List.all_eq_true]
 refine ⟨fun h a ha=>?_,fun h i hi=>?_⟩
 ·obtain ⟨i,hi,rfl⟩:=zo.1 ha
  exact z12 (h i (List.mem_range'.2 ⟨i,hi,by omega⟩))
 ·obtain ⟨j,hj,rfl⟩:=List.mem_range'.1 hi
  exact z7 (h _ (zo.2 ⟨_,by omega,rfl⟩))
theorem H0 {b:List Int} (hb:byL b) (hlen:b.length<=10000000):cb b=some (vm b):=by
 unfold cb iE vm
 by_cases h1:b.length>1048576
 ·simp only[z7 h1,z7 (show (b.length:Int)>1048576 by omega),cT]
  rfl
 by_cases h2:b.length<8
 ·simp only[z8 h1,z8 (show ¬ (b.length:Int)>1048576 by omega),z7 h2,z7 (show (b.length:Int)<8 by omega),cT,cF]
  rfl
 have h3:=rc hb (show 3<b.length by omega)
 unfold byB at h3
 simp only[z8 h1,z8 (show ¬ (b.length:Int)>1048576 by omega),z8 h2,z8 (show ¬ (b.length:Int)<8 by omega),cF,mw (show (0:Int)<=0 by omega) (show (0:Int)<b.length by omega),
  mw (show (0:Int)<=1 by omega) (show (1:Int)<b.length by omega),mw (show (0:Int)<=2 by omega) (show (2:Int)<b.length by omega),mw (show (0:Int)<=3 by omega) (show (3:Int)<b.length by omega),
  cS (x:=b.getD 3 0) (by omega) (by omega),cS (x:=16*b.getD 3 0) (by omega) (by omega),cS (x:=8+16*b.getD 3 0) (by omega) (by omega),cS (x:=(b.length:Int) - 4) (by omega) (by omega),cT,Bool.or_true,Bool.and_true]
 cases hh:hdB b with
 | false =>
  unfold hdB at hh
  revert hh
  generalize decide ((b.length:Int)=8+16*b.getD 3 0)=d4
  generalize decide (b.getD 3 0>20)=d3
  generalize decide (b.getD 2 0>1)=d2
  generalize decide (b.getD 1 0=67)=d1
  generalize decide (b.getD 0 0=84)=d0
  intro hh
  revert hh
  cases d0<;>cases d1<;>cases d2<;>cases d3<;>cases d4<;>intro hh<;>first | rfl | (exact absurd hh (by decide))
 | true =>
  have hh':=hh
  unfold hdB at hh'
  simp only[z10,decide_eq_true_eq,Bool.not_eq_true',decide_eq_false_iff_not] at hh'
  obtain ⟨e0,e1,e2,e3,e4⟩:=hh'
  obtain ⟨k,hk⟩:∃k:Nat,b.getD 3 0=k:=⟨(b.getD 3 0).toNat,by omega⟩
  have hn:b.length=8+16*k:=by omega
  have hsum:=H3 (l:=b.take (4+16*k)) (by rw[List.length_take];omega) (lc hb _)
  have hval:=wT (l:=b.drop (4+16*k)) (by rw[List.length_drop];omega) (kW hb _)
  simp only[z7 e0,z7 e1,z8 e2,z8 e3,z7 e4,Bool.not_true,Bool.not_false,cT,cF,Bool.or_true,Bool.true_or,Bool.and_self,ng (show (0:Int)<=(b.length:Int) - 4 by omega) (show (b.length:Int) - 4<=b.length by omega) (show (b.length:Int)<=b.length by omega),
   ng (show (0:Int)<=0 by omega) (show 0<=(b.length:Int) - 4 by omega) (show (b.length:Int) - 4<=b.length by omega),z9,List.take_length,show ((b.length:Int) - 4).toNat=4+16*k by omega,show b.length - 4=4+16*k by omega,List.drop_zero,hsum,hval,aL]
  cases hs:decide (w64 (vc (b.drop (4+16*k)))=wB (b.take (4+16*k))) with
  | false=>rfl
  | true =>
   simp only[Bool.not_true,cF]
   refine (FV (α:=List Fq×Int×Cl×PUnit) (R:=Cl×Int×PUnit) k (by omega) (fun i=>(gG i (sQ b),((4+16*i:Nat):Int),noC,PUnit.unit)) (fun i=>decide (okF (sQ b i))) (bad:=some (noC,1,())) (good:=some (bif decide (b.getD 2 0=1) then ([],true,frs b) else (frs b,false,[]),0,())) rfl ?_ ?_).trans ?_
   rotate_right
   ·rw[JD,show gG k (sQ b)=frs b by unfold frs;rw[hk,z9]]
    cases okL (frs b)<;>rfl
   ·intro again i hi
    have g1:4+16*i+16<=b.length:=by omega
    have c1:=wT (l:=(b.drop (4+16*i)).take 8) (by rw[List.length_take];omega) (lc (kW hb _) _)
    have c2:=wT (l:=(b.drop (12+16*i)).take 8) (by rw[List.length_take];omega) (lc (kW hb _) _)
    have t1:(b.take (4+16*i+8)).drop (4+16*i)=(b.drop (4+16*i)).take 8:=by rw[List.drop_take,show 4+16*i+8 - (4+16*i)=8 by omega]
    have t2:(b.take (4+16*i+16)).drop (12+16*i)=(b.drop (12+16*i)).take 8:=by rw[List.drop_take,show 4+16*i+16 - (12+16*i)=8 by omega]
    simp only[cS (x:=((4+16*i:Nat):Int)+8) (by omega) (by omega),cS (x:=((4+16*i:Nat):Int)+16) (by omega) (by omega),z7 (show ((4+16*i:Nat):Int)<(b.length:Int) - 4 by omega),cT,
     ng (show (0:Int)<=((4+16*i:Nat):Int) by omega) (show ((4+16*i:Nat):Int)<=((4+16*i:Nat):Int)+8 by omega) (show ((4+16*i:Nat):Int)+8<=b.length by omega),
     ng (show (0:Int)<=((4+16*i:Nat):Int)+8 by omega) (show ((4+16*i:Nat):Int)+8<=((4+16*i:Nat):Int)+16 by omega) (show ((4+16*i:Nat):Int)+16<=b.length by omega),z9,
     show (((4+16*i:Nat):Int)+8).toNat=4+16*i+8 by omega,show (((4+16*i:Nat):Int)+16).toNat=4+16*i+16 by omega,t1,c1,aL]
    rw[show 4+16*i+8=12+16*i by omega,t2,c2,aL,EO,aL,BA (by rw[jQ];omega),<-uo,show ((4+16*i:Nat):Int)+16=((4+16*(i+1):Nat):Int) by omega]
    simp only[cT]
    rw[show (w64 (vc ((b.drop (4+16*i)).take 8)),w64 (vc ((b.drop (12+16*i)).take 8)))=sQ b i from rfl]
    cases decide (okF (sQ b i))<;>rfl
   ·intro again
    simp only[z8 (show ¬ ((4+16*k:Nat):Int)<(b.length:Int) - 4 by omega),cF]
    rw[show frs b=gG k (sQ b) by unfold frs;rw[hk,z9]]
    cases decide (b.getD 2 0=1)<;>rfl
theorem Dy (r:Bool) (l:List Fq):cW r l=some (bif r then ([],true,l) else (l,false,[])):=by
 simp only[cW,pV]
 cases r<;>rfl
theorem Ju {b:List Int} (hb:byL b) (hlen:b.length<=10000000):dH b=some (vm b):=by
 unfold dH jE vm
 by_cases h1:b.length>1048576
 ·simp only[z7 h1,z7 (show (b.length:Int)>1048576 by omega),cT]
  rfl
 by_cases h2:b.length<8
 ·simp only[z8 h1,z8 (show ¬ (b.length:Int)>1048576 by omega),z7 h2,z7 (show (b.length:Int)<8 by omega),cT,cF]
  rfl
 have h3:=rc hb (show 3<b.length by omega)
 unfold byB at h3
 simp only[z8 h1,z8 (show ¬ (b.length:Int)>1048576 by omega),z8 h2,z8 (show ¬ (b.length:Int)<8 by omega),cF,mw (show (0:Int)<=0 by omega) (show (0:Int)<b.length by omega),
  mw (show (0:Int)<=1 by omega) (show (1:Int)<b.length by omega),mw (show (0:Int)<=2 by omega) (show (2:Int)<b.length by omega),mw (show (0:Int)<=3 by omega) (show (3:Int)<b.length by omega),
  cS (x:=b.getD 3 0) (by omega) (by omega),cS (x:=16*b.getD 3 0) (by omega) (by omega),cS (x:=8+16*b.getD 3 0) (by omega) (by omega),cS (x:=(b.length:Int) - 4) (by omega) (by omega),cT,Bool.or_true,Bool.and_true]
 cases hh:hdB b with
 | false =>
  unfold hdB at hh
  revert hh
  generalize decide ((b.length:Int)=8+16*b.getD 3 0)=d4
  generalize decide (b.getD 3 0>20)=d3
  generalize decide (b.getD 2 0>1)=d2
  generalize decide (b.getD 1 0=67)=d1
  generalize decide (b.getD 0 0=84)=d0
  intro hh
  revert hh
  cases d0<;>cases d1<;>cases d2<;>cases d3<;>cases d4<;>intro hh<;>first | rfl | (exact absurd hh (by decide))
 | true =>
  have hh':=hh
  unfold hdB at hh'
  simp only[z10,decide_eq_true_eq,Bool.not_eq_true',decide_eq_false_iff_not] at hh'
  obtain ⟨e0,e1,e2,e3,e4⟩:=hh'
  obtain ⟨k,hk⟩:∃k:Nat,b.getD 3 0=k:=⟨(b.getD 3 0).toNat,by omega⟩
  have hn:b.length=8+16*k:=by omega
  have hsum:=C5 (l:=b.take (4+16*k)) (by rw[List.length_take];omega) (lc hb _)
  have hval:=tB (l:=b.drop (4+16*k)) (by rw[List.length_drop];omega) (kW hb _)
  simp only[z7 e0,z7 e1,z8 e2,z8 e3,z7 e4,Bool.not_true,Bool.not_false,cT,cF,Bool.or_true,Bool.true_or,Bool.and_self,ng (show (0:Int)<=(b.length:Int) - 4 by omega) (show (b.length:Int) - 4<=b.length by omega) (show (b.length:Int)<=b.length by omega),
   ng (show (0:Int)<=0 by omega) (show 0<=(b.length:Int) - 4 by omega) (show (b.length:Int) - 4<=b.length by omega),z9,List.take_length,show ((b.length:Int) - 4).toNat=4+16*k by omega,show b.length - 4=4+16*k by omega,List.drop_zero,hsum,hval,aL]
  cases hs:decide (w64 (vc (b.drop (4+16*k)))=wB (b.take (4+16*k))) with
  | false=>rfl
  | true =>
   simp only[Bool.not_true,cF]
   have hfr:frs b=gG k (sQ b):=by unfold frs;rw[hk,z9]
   refine yA (α:=List Fq×Int×PUnit) (R:=Cl×Int×PUnit) k (by omega) (fun i=>(gG i (sQ b),(i:Int),PUnit.unit)) _ rfl ?_ ?_
   ·intro again i hi
    have g1:4+16*i+16<=b.length:=by omega
    have c1:=tB (l:=(b.drop (4+16*i)).take 8) (by rw[List.length_take];omega) (lc (kW hb _) _)
    have c2:=tB (l:=(b.drop (12+16*i)).take 8) (by rw[List.length_take];omega) (lc (kW hb _) _)
    have t1:(b.take (4+16*i+8)).drop (4+16*i)=(b.drop (4+16*i)).take 8:=by rw[List.drop_take,show 4+16*i+8 - (4+16*i)=8 by omega]
    have t2:(b.take (4+16*i+16)).drop (12+16*i)=(b.drop (12+16*i)).take 8:=by rw[List.drop_take,show 4+16*i+16 - (12+16*i)=8 by omega]
    simp only[cS (x:=16*(i:Int)) (by omega) (by omega),cS (x:=4+16*(i:Int)) (by omega) (by omega),cS (x:=4+16*(i:Int)+8) (by omega) (by omega),cS (x:=4+16*(i:Int)+16) (by omega) (by omega),hk,z7 (show (i:Int)<k by omega),cT,
     ng (show (0:Int)<=4+16*(i:Int) by omega) (show 4+16*(i:Int)<=4+16*(i:Int)+8 by omega) (show 4+16*(i:Int)+8<=b.length by omega),
     ng (show (0:Int)<=4+16*(i:Int)+8 by omega) (show 4+16*(i:Int)+8<=4+16*(i:Int)+16 by omega) (show 4+16*(i:Int)+16<=b.length by omega),
     show (4+16*(i:Int)).toNat=4+16*i by omega,show (4+16*(i:Int)+8).toNat=4+16*i+8 by omega,show (4+16*(i:Int)+16).toNat=4+16*i+16 by omega,t1,c1,aL]
    rw[show 4+16*i+8=12+16*i by omega,t2,c2,aL,BA (by rw[jQ];omega),<-uo,iw (show i<=1000000 by omega)]
    rfl
   ·intro again
    simp only[hk,z8 (show ¬ (k:Int)<k by omega),cF]
    rw[IA (by rw[jQ];omega),aL,hfr,Dy,aL,show ((gG k (sQ b)).all fun a=>decide (okF a))=okL (gG k (sQ b)) from rfl]
    cases okL (gG k (sQ b))<;>rfl
theorem HR (b:List Int):(frs b).length=(b.getD 3 0).toNat:=jQ
theorem Eo (b:List Int):(vm b).1.1.length<=20/\(vm b).1.2.2.length<=20:=by
 unfold vm
 have h0:noC.1.length<=20/\noC.2.2.length<=20:=by decide
 cases decide (b.length>1048576) with
 | true=>exact h0
 | false=>?_
 cases decide (b.length<8) with
 | true=>exact h0
 | false=>?_
 cases hh:hdB b with
 | false=>exact h0
 | true=>?_
 cases decide (w64 (vc (b.drop (b.length - 4)))=wB (b.take (b.length - 4))) with
 | false=>exact h0
 | true=>?_
 cases okL (frs b) with
 | false=>exact h0
 | true=>?_
 unfold hdB at hh
 simp only[z10,decide_eq_true_eq,Bool.not_eq_true',decide_eq_false_iff_not] at hh
 have:=HR b
 cases decide (b.getD 2 0=1) with
 | true=>exact ⟨Nat.zero_le _,by show (frs b).length<=20;omega⟩
 | false=>exact ⟨by show (frs b).length<=20;omega,Nat.zero_le _⟩
theorem AF (c d:Cl):eD c d=bm c d:=rfl
end
end Go.Proofs.YtegbncajloeepaaGreat

namespace Go.Proofs.YtegbncajloeepaaGreat
open Tryz Dn Dn.Sh
theorem Mx {n:Int} (h:(Lit.int .u8 n).wf=true):byB n:=by
 unfold Lit.wf at h
 rw[z10,decide_eq_true_eq,decide_eq_true_eq,show IntKind.u8.min=0 by decide,show IntKind.u8.max=255 by decide] at h
 unfold byB
 omega
theorem KF {l:List Int} (h:Sh.wf (.sl (.int .u8)) l):byL l:=fun n hn=>Mx (h.2 n hn)
theorem xy (b:List Int) (h:Sh.wf (.sl (.int .u8)) b):fL b=some true:=by
 have hb:=KF h
 simp only[fL,fo,CP,aL,Bool.not_true,cF]
 by_cases h1:500<b.length/\b.length<=1048576\/b.length>1048586
 ·rcases h1 with h1 | h1
  ·simp only[z7 (show (b.length:Int)>500 by omega),z7 (show (b.length:Int)<=1048576 by omega)]
   rfl
  ·simp only[z7 (show (b.length:Int)>500 by omega),z8 (show ¬ (b.length:Int)<=1048576 by omega),z7 (show (b.length:Int)>1048586 by omega)]
   rfl
 have hX:∀x:Bool,(!x||x)=true:=fun x=>by cases x<;>rfl
 have hA:∀x:Bool,(x||!x)=true:=fun x=>by cases x<;>rfl
 have hB:(bif (bif decide ((b.length:Int)>500) then decide ((b.length:Int)<=1048576) else false) then true else decide ((b.length:Int)>1048586))=false:=by
  by_cases h2:b.length>500
  ·rw[z7 (show (b.length:Int)>500 by omega),z8 (show ¬ (b.length:Int)<=1048576 by omega),z8 (show ¬ (b.length:Int)>1048586 by omega)];rfl
  ·rw[z8 (show ¬ (b.length:Int)>500 by omega),z8 (show ¬ (b.length:Int)>1048586 by omega)];rfl
 obtain ⟨l1,l2⟩:=Eo b
 have hlong:Bz (vm b).1=false:=by
  unfold Bz
  rw[z8 (by omega),z8 (by omega)]
  rfl
 simp only[hX,hA,hB,cT,cF,H0 hb (by omega),Ju hb (by omega),aL,Fb,hlong,Bool.not_false,Bool.or_true,Bool.true_or,Bool.and_self,AF,Fl _ _ (show (vm b).1.1.length<=1000000 by omega) (show (vm b).1.2.2.length<=1000000 by omega),decide_true]
end Go.Proofs.YtegbncajloeepaaGreat
