/- Line sets: lines, and valid sets. Beams and loads: both programs know the same valid ones. Houses: small ones, the sets' names, valid ones. Houses: what the sets load. Beams over a depth: how many, which. Fractions: rational numbers, and the pairs of numbers that stand for them. Fractions: what 'Make', 'Valid', 'Mul', 'Floor', 'Ceil' of package ratio answer. Fractions: products of two words, 'Mul', 'Floor', 'Ceil' of package ratio. Fractions of the reference: numbers of two words, their greatest common divisors and quotients. Fractions of the reference: 'Div', 'Made', 'Make', 'Times', 'Floor', 'Ceil'. Numbers of 128 bits: sums, differences, comparisons; the length of a number. The quotient of a number of 128 bits by one of 64. Fractions: 'Add' of package ratio. Fractions: 'Add', 'Valid', 'All' of the reference. Fractions: 'Sub' and 'Cmp' of both. What beams bear: the program's walk. What beams bear: the program's walk comes to the sums. What beams bear: the program's answer. What beams bear: the reference's answer. Beams and loads: what is wrong with them; Loads, Over. Houses: 'HouseLoads'. Houses: the reference's Loads; the law 'HouseLoads'. Houses: the law 'HouseLoads'. Houses: equal ones. Houses: equal ones, the reference; the law 'HouseForms'. Houses: the law 'HouseForms'. Sums of integers, and determinants. Tables of the simplex method: integers with a common denominator, as determinants of columns. Steps of the simplex method by the rule of least indices: they never come back to a basis. Steps of the simplex method come to an end: a measure. Linear programs over the rationals: what points and multipliers prove; and what tables of the simplex method prove. How great the numbers of a program's tables may get: the product of the rows' factors. Tables of programs: how great the numbers of the artificial columns may get. Tables of numbers as lists of rows, and loops over them. Sorting by insertion: the order of the sets of a house, as a function of the place. Houses: a set is put into a list of sets. Houses: both programs put a set as the list law says. Houses: the order of the sets is the sorted one, as the program's insertion sort makes it. Houses: the gaps between sets, and the law that the order has each set once. Houses: what the beams bear does not depend on the order of the sets. Houses: gaps between sets in the opposite order. Houses: the law HouseMoved. -/
import Derived.Test.YtmoiiokmfanlgaaGreatMgN

namespace Go.Proofs.YtmoiiokmfanlgaaGreat
open Tryz Dn Dn.Sh
def lineB (l:List Int) (len:Int) (i:Nat):Bool:=btw (l.getD i 0) 0 len&&(decide (i=0)||decide (l.getD (i - 1) 0<l.getD i 0))
def linesB (l:List Int) (len:Int):Bool:=btw (l.length:Int) 2 10&&(List.range' 0 l.length).all (lineB l len)
theorem lines_eq {l:List Int} {len:Int} (h2:2≤l.length):(decide (0≤l.getD 0 0)&&(decide (l.getD (l.length - 1) 0≤len)&&(List.range' 0 (l.length - 1)).all fun i=>decide (l.getD i 0<l.getD (i+1) 0)))=(List.range' 0 l.length).all (lineB l len):=by
 rw[Bool.eq_iff_iff,Bool.and_eq_true,Bool.and_eq_true,List.all_eq_true,List.all_eq_true,decide_eq_true_iff,decide_eq_true_iff]
 constructor
 ·rintro ⟨h0,h1,h3⟩ i hi
  obtain ⟨k,hk,rfl⟩:=List.mem_range'.1 hi
  have step:∀i,i+1<l.length→l.getD i 0<l.getD (i+1) 0:=fun i hi=>of_decide_eq_true (h3 i (List.mem_range'.2 ⟨i,by omega,by omega⟩))
  have mono:∀d i,i+d<l.length→l.getD i 0≤l.getD (i+d) 0:=by
   intro d
   induction d with
   | zero=>intro i _;exact Int.le_refl _
   | succ d ih =>
    intro i hi
    have g1:=ih i (by omega)
    have g2:=step (i+d) (by omega)
    rw[show i+(d+1)=i+d+1 by omega]
    omega
  have g1:=mono (0+1*k) 0 (by omega)
  have g2:=mono (l.length - 1 - (0+1*k)) (0+1*k) (by omega)
  rw[Nat.zero_add] at g1
  rw[show 0+1*k+(l.length - 1 - (0+1*k))=l.length - 1 by omega] at g2
  unfold lineB btw
  rw[Bool.and_eq_true,Bool.and_eq_true,Bool.or_eq_true,decide_eq_true_iff,decide_eq_true_iff,decide_eq_true_iff,decide_eq_true_iff]
  refine ⟨⟨by omega,by omega⟩,?_⟩
  by_cases hz:0+1*k=0
  ·exact .inl hz
  ·right
   have:=step (0+1*k - 1) (by omega)
   rw[show 0+1*k - 1+1=0+1*k by omega] at this
   exact this
 ·intro h
  have at':∀i,i<l.length→(0≤l.getD i 0∧l.getD i 0≤len)∧(i=0∨l.getD (i - 1) 0<l.getD i 0):=fun i hi=>by
   have:=h i (List.mem_range'.2 ⟨i,hi,by omega⟩)
   unfold lineB btw at this
   rw[Bool.and_eq_true,Bool.and_eq_true,Bool.or_eq_true,decide_eq_true_iff,decide_eq_true_iff,decide_eq_true_iff,decide_eq_true_iff] at this
   exact this
  refine ⟨(at' 0 (by omega)).1.1,(at' (l.length - 1) (by omega)).1.2,fun i hi=>?_⟩
  obtain ⟨k,hk,rfl⟩:=List.mem_range'.1 hi
  have:=(at' (0+1*k+1) (by omega)).2
  rw[decide_eq_true_iff]
  rcases this with h | h
  ·omega
  ·rw[Nat.add_sub_cancel] at h
   exact h
theorem linesA_ok (l:List Int) (len:Int):batten_lines l len=some (linesB l len):=by
 simp only[batten_lines,batten_lines_b,btwA_ok,obind_some',linesB]
 cases hb:btw (l.length:Int) 2 10 with
 | false=>rfl
 | true =>
  have h2:2≤l.length∧l.length≤10:=by
   unfold btw at hb
   rw[Bool.and_eq_true,decide_eq_true_iff,decide_eq_true_iff] at hb
   omega
  have hw0:IntKind.wrap .i64 ((l.length:Int) - 1)=((l.length - 1:Nat):Int):=by rw[wrap_id (by omega) (by omega)];omega
  rw[←lines_eq h2.1]
  simp only[hw0,Int.toNat_natCast,inB_nat,inB_of (show (0:Int)≤0 by omega) (show (0:Int)<(l.length:Nat) by omega),decide_eq_true (show l.length - 1<l.length by omega),Bool.not_true,Bool.not_false,Bool.or_true,Bool.and_self,Bool.true_and,cT,cF,not_or_self',or_self_not]
  by_cases g0:l.getD 0 0<0
  ·rw[decide_eq_true g0,decide_eq_false (show ¬ 0≤l.getD 0 0 by omega)]
   rfl
  ·rw[decide_eq_false g0,decide_eq_true (show 0≤l.getD 0 0 by omega)]
   by_cases g1:l.getD (l.length - 1) 0>len
   ·rw[decide_eq_true g1,decide_eq_false (show ¬ l.getD (l.length - 1) 0≤len by omega)]
    rfl
   ·rw[decide_eq_false g1,decide_eq_true (show l.getD (l.length - 1) 0≤len by omega)]
    simp only[Bool.true_and,cF]
    refine (lpK_up (α:=Int×PUnit) (l.length - 1) (by omega) (fun i (_:Unit)=>(((i+1:Nat):Int),PUnit.unit)) (fun i s k=>bif decide (l.getD i 0<l.getD (i+1) 0) then k s else some false) (fun _=>some true) ?_ ?_ ()).trans ?_
    ·intro again i _ hi
     have hw:IntKind.wrap .i64 (((i+1:Nat):Int)+1)=((i+1+1:Nat):Int):=by rw[wrap_id (by omega) (by omega)];omega
     have hw1:IntKind.wrap .i64 (((i+1:Nat):Int) - 1)=((i:Nat):Int):=by rw[wrap_id (by omega) (by omega)];omega
     simp only[hw,hw1,inB_nat,decide_eq_true (show ((i+1:Nat):Int)<l.length by omega),decide_eq_true (show i+1<l.length by omega),decide_eq_true (show i<l.length by omega),cT,Int.toNat_natCast]
     by_cases hc:l.getD i 0<l.getD (i+1) 0
     ·rw[decide_eq_true hc,decide_eq_false (show ¬ l.getD (i+1) 0≤l.getD i 0 by omega)];rfl
     ·rw[decide_eq_false hc,decide_eq_true (show l.getD (i+1) 0≤l.getD i 0 by omega)];rfl
    ·intro again _
     simp only[decide_eq_false (show ¬ ((l.length - 1+1:Nat):Int)<l.length by omega),cF]
    ·rw[upF_all (l.length - 1) (fun i k _=>rfl) (l.length - 1) 0 (by omega)]
     cases (List.range' 0 (l.length - 1)).all fun i=>decide (l.getD i 0<l.getD (i+1) 0)<;>rfl
noncomputable def setB (s:HS):Bool:=nameB s.1&&(btw s.2.1 0 1048576&&(btw s.2.2.1 0 s.2.2.2.1&&(btw s.2.2.2.1 0 1048576&&(btw s.2.2.2.2.1 1000 1048576&&(decide (Int.tmod s.2.2.2.2.1 1000=0)&&(linesB s.2.2.2.2.2.1 s.2.2.2.2.1 &&
 (btw s.2.2.2.2.2.2.1 0 1048576&&(btw s.2.2.2.2.2.2.2.1 0 1048576&&(btw s.2.2.2.2.2.2.2.2.1 1 2&&(btw s.2.2.2.2.2.2.2.2.2.1 1 67108864&&(btw s.2.2.2.2.2.2.2.2.2.2.1 0 67108864&&(itemsB s.2.2.2.2.2.2.2.2.2.2.2.1 s.2.2.2.2.1&&bricksB s.2.2.2.2.2.2.2.2.2.2.2.2))))))))))))
theorem obind_bif {R:Type} {b x:Bool} {k:Bool→Option R}:(obind (bif b then some x else some false) k)=k (b&&x):=by cases b<;>rfl
theorem validA_ok (s:HS):batten_Valid s=some (setB s):=by
 obtain ⟨nm,dp,lo,hi,len,ls,pi,ar,pu,mo,br,l,bs⟩:=s
 simp only[batten_Valid,batten_Valid_b,isName_ok,btwA_ok,linesA_ok,itemsA_ok,bricksA_ok,obind_bif,obind_some',not_or_self',Bool.and_self,Bool.or_true,cT,bif_false',setB]
 have e:(decide (0≤lo)&&(decide (lo≤hi)&&decide (hi≤1048576)))=(btw lo 0 hi&&btw hi 0 1048576):=by
  unfold btw
  by_cases h1:0≤lo<;>by_cases h2:lo≤hi<;>by_cases h3:hi≤1048576
  all_goals first | (rw[decide_eq_true h1]) | (rw[decide_eq_false h1])
  all_goals first | (rw[decide_eq_true h2]) | (rw[decide_eq_false h2])
  all_goals first | (rw[decide_eq_true h3]) | (rw[decide_eq_false h3])
  all_goals simp
  omega
 have e2:∀R:Bool,(decide (0≤lo)&&(decide (lo≤hi)&&(decide (hi≤1048576)&&R)))=(btw lo 0 hi&&(btw hi 0 1048576&&R)):=fun R=>by
  have:=congrArg (·&&R) e
  simpa only[Bool.and_assoc] using this
 rw[←e2]
 congr 1
 generalize nameB nm=b1
 generalize btw dp 0 1048576=b2
 generalize decide (0≤lo)=b3
 generalize decide (lo≤hi)=b4
 generalize decide (hi≤1048576)=b5
 generalize btw len 1000 1048576=b6
 generalize decide (Int.tmod len 1000=0)=b7
 generalize linesB ls len=b8
 generalize btw pi 0 1048576=b9
 generalize btw ar 0 1048576=b10
 generalize btw pu 1 2=b11
 generalize btw mo 1 67108864=b12
 generalize btw br 0 67108864=b13
 generalize itemsB l len=b14
 generalize bricksB bs=b15
 cases b1;· rfl
 cases b2;· rfl
 cases b3;· rfl
 cases b4;· rfl
 cases b5;· rfl
 cases b6;· rfl
 cases b7;· rfl
 cases b8;· rfl
 cases b9;· rfl
 cases b10;· rfl
 cases b11;· rfl
 cases b12;· rfl
 cases b13;· rfl
 cases b14;· rfl
 cases b15<;>rfl
theorem validR_ok (s:HS) (hl:s.2.2.2.2.2.2.2.2.2.2.2.1.length≤1000000):ref21_Valid s=some (setB s):=by
 obtain ⟨nm,dp,lo,hi,len,ls,pi,ar,pu,mo,br,l,bs⟩:=s
 simp only at hl
 simp only[ref21_Valid,ref21_Valid_b,refIsName_ok,btwB_ok,itemsR_ok _ _ _ _ _ _ _ _ _ _ _ _ _ hl,bricksR_ok,obind_bif,obind_some',setB,linesB]
 generalize nameB nm=b1
 generalize btw dp 0 1048576=b2
 generalize btw lo 0 hi=b3
 generalize btw hi 0 1048576=b4
 generalize btw len 1000 1048576=b6
 generalize decide (Int.tmod len 1000=0)=b7
 generalize hb:btw (ls.length:Int) 2 10=b8
 generalize btw pi 0 1048576=b9
 generalize btw ar 0 1048576=b10
 generalize btw pu 1 2=b11
 generalize btw mo 1 67108864=b12
 generalize btw br 0 67108864=b13
 cases b1;· rfl
 cases b2;· rfl
 cases b3;· rfl
 cases b4;· rfl
 cases b6;· rfl
 cases b7;· rfl
 cases b8;· rfl
 have h2:2≤ls.length∧ls.length≤10:=by
  unfold btw at hb
  rw[Bool.and_eq_true,decide_eq_true_iff,decide_eq_true_iff] at hb
  omega
 cases b9;· (simp only[Bool.false_and,Bool.and_false];rfl)
 cases b10;· (simp only[Bool.false_and,Bool.and_false];rfl)
 cases b11;· (simp only[Bool.false_and,Bool.and_false];rfl)
 cases b12;· (simp only[Bool.false_and,Bool.and_false];rfl)
 cases b13;· (simp only[Bool.false_and,Bool.and_false];rfl)
 simp only[Bool.not_true,Bool.not_false,Bool.or_true,Bool.and_self,Bool.true_and,cT,cF,not_or_self',or_self_not]
 refine (lpK_up (α:=Int×PUnit) ls.length (by omega) (fun i (_:Unit)=>((i:Int),PUnit.unit)) (fun i s k=>bif lineB ls len i then k s else some false) (fun _=>some (itemsB l len&&bricksB bs)) ?_ ?_ ()).trans ?_
 ·intro again i _ hi
  have hw:IntKind.wrap .i64 ((i:Int)+1)=((i+1:Nat):Int):=by rw[wrap_id (by omega) (by omega)];rfl
  simp only[inB_nat,decide_eq_true hi,decide_eq_true (show (i:Int)<ls.length by omega),cT,Int.toNat_natCast,hw]
  unfold lineB
  by_cases hz:i=0
  ·rw[decide_eq_false (show ¬ (i:Int)>0 by omega),decide_eq_true hz]
   cases btw (ls.getD i 0) 0 len<;>rfl
  ·have hw1:IntKind.wrap .i64 ((i:Int) - 1)=((i - 1:Nat):Int):=by rw[wrap_id (by omega) (by omega)];omega
   rw[decide_eq_true (show (i:Int)>0 by omega),decide_eq_false hz]
   simp only[hw1,inB_nat,decide_eq_true (show i - 1<ls.length by omega),Int.toNat_natCast]
   by_cases hc:ls.getD (i - 1) 0<ls.getD i 0
   ·rw[decide_eq_true hc,decide_eq_false (show ¬ ls.getD i 0≤ls.getD (i - 1) 0 by omega)]
    cases btw (ls.getD i 0) 0 len<;>rfl
   ·rw[decide_eq_false hc,decide_eq_true (show ls.getD i 0≤ls.getD (i - 1) 0 by omega)]
    cases btw (ls.getD i 0) 0 len<;>rfl
 ·intro again _
  simp only[decide_eq_false (show ¬ (ls.length:Int)<ls.length by omega),cF]
  cases itemsB l len<;>cases bricksB bs<;>rfl
 ·rw[upF_all ls.length (fun i k _=>rfl) ls.length 0 (by omega)]
  cases (List.range' 0 ls.length).all (lineB ls len)<;>simp
end Go.Proofs.YtmoiiokmfanlgaaGreat

namespace Go.Proofs.YtmoiiokmfanlgaaGreat
open Tryz Dn Dn.Sh
abbrev Bm:=ByteArray×Int×Int×Int
abbrev Ld:=Int×Int
abbrev bm0:Bm:=({ data:={ toList:=[] } },(0:Int),(0:Int),(0:Int))
def bmAt (l:List Bm) (i:Nat):Bm:=l.getD i bm0
def inL (n:Int):Bool:=decide (0≤n∧n≤1048576)
def inW (n:Int):Bool:=decide (0≤n∧n≤67108864)
noncomputable def beamB (l:List Bm) (i:Nat):Bool:=nameB (bmAt l i).1&&(decide (0≤(bmAt l i).2.1∧(bmAt l i).2.1≤(bmAt l i).2.2.1∧(bmAt l i).2.2.1≤1048576)&&(inW (bmAt l i).2.2.2&&decide (idxI (fun a:Bm=>decide (a.1=(bmAt l i).1)) (l.take i) 0<0)))
noncomputable def validG (l:List Bm):Bool:=decide (l.length≤20)&&(List.range' 0 l.length).all (beamB l)
def loadB (x:Ld):Bool:=inL x.1&&inW x.2
def rightG (at_:List Ld):Bool:=decide (at_.length≤1000)&&at_.all loadB
theorem within_ok (n:Int):grid_within n=some (inL n):=by
 simp only[grid_within,grid_within_b,not_or_self',cT,bif_false',ge_iff_le,inL,Bool.decide_and]
theorem isNameG_ok (s:ByteArray):grid_isName s=some (nameB s):=by
 simp only[grid_isName,grid_isName_b,isName_ok,obind_some']
theorem between_ok (n a b:Int):ref19_between n a b=some (decide (a≤n∧n≤b)):=by
 simp only[ref19_between,ref19_between_b,not_or_self',Bool.and_self,cT,bif_false',ge_iff_le,Bool.decide_and]
theorem index85 {f:(Bm×Unit)→Option Bool} {p:Bm→Bool} {l:List Bm} (hl:l.length≤1000000) (h:∀a,a ∈ l→f (a,())=some (p a)):slices_IndexFunc_151 l f=some (idxI p l 0):=by
 unfold slices_IndexFunc_151 slices_IndexFunc_151_b
 exact index_loop (f:=f) (d:=bm0) hl h
theorem contains41' {f:(Bm×Unit)→Option Bool} {p:Bm→Bool} {l:List Bm} (hl:l.length≤1000000) (h:∀a,a ∈ l→f (a,())=some (p a)):slices_ContainsFunc_110 l f=some (!decide (idxI p l 0<0)):=by
 simp only[slices_ContainsFunc_110,slices_ContainsFunc_110_b,index85 hl h,obind_some']
 congr 1
 rw[Bool.eq_iff_iff]
 simp
theorem gValid_ok (l:List Bm):grid_Valid l=some (validG l):=by
 simp only[grid_Valid,grid_Valid_b,validG]
 by_cases h0:l.length≤20
 ·rw[decide_eq_false (show ¬ ((l.length:Nat):Int)>20 by omega),decide_eq_true h0]
  simp only[cF,Bool.true_and]
  refine (lpK_up (α:=Int×PUnit) l.length (by omega) (fun i (_:Unit)=>((i:Int),PUnit.unit)) (fun i s k=>bif beamB l i then k s else some false) (fun _=>some true) ?_ ?_ ()).trans ?_
  ·intro again i _ hi
   have hw:IntKind.wrap .i64 ((i:Int)+1)=((i+1:Nat):Int):=by rw[wrap_id (by omega) (by omega)];rfl
   have hs:slB (0:Int) (i:Int) l.length=true:=slB_of (by omega) (by omega) (by omega)
   have hc:slices_ContainsFunc_110 (List.drop 0 (List.take i l)) (fun x=>grid_Valid_1 x.1 (bmAt l i))=some (!decide (idxI (fun a:Bm=>decide (a.1=(bmAt l i).1)) (l.take i) 0<0)) :=
    contains41' (l:=List.drop 0 (List.take i l)) (p:=fun a:Bm=>decide (a.1=(bmAt l i).1)) (by rw[List.drop_zero,List.length_take];omega) fun a _=>by simp only[grid_Valid_1,grid_Valid_1_b,str_beq]
   simp only[inB_nat,decide_eq_true hi,decide_eq_true (show (i:Int)<l.length by omega),cT,Int.toNat_natCast,hw,show List.getD l i bm0=bmAt l i from rfl,isNameG_ok,within_ok,obind_some',hs]
   unfold beamB
   generalize bmAt l i=b at *
   obtain ⟨s,fr,to,mo⟩:=b
   simp only at hc ⊢
   rw[hc]
   generalize decide (idxI (fun a:Bm=>decide (a.1=s)) (l.take i) 0<0)=q
   cases nameB s with
   | false=>rfl
   | true =>
    by_cases g1:0≤fr∧fr≤1048576
    ·by_cases g2:0≤to∧to≤1048576
     ·by_cases g3:fr>to
      ·simp only[inL,decide_eq_true g1,decide_eq_true g2,decide_eq_true g3,decide_eq_false (show ¬ (0≤fr∧fr≤to∧to≤1048576) by omega)]
       simp[obind_some']
      ·by_cases g4:mo<0
       ·simp only[inL,inW,decide_eq_true g1,decide_eq_true g2,decide_eq_false g3,decide_eq_true g4,decide_eq_true (show (0≤fr∧fr≤to∧to≤1048576) by omega),decide_eq_false (show ¬ (0≤mo∧mo≤67108864) by omega)]
        simp[obind_some']
       ·by_cases g5:mo>67108864
        ·simp only[inL,inW,decide_eq_true g1,decide_eq_true g2,decide_eq_false g3,decide_eq_false g4,decide_eq_true g5,decide_eq_true (show (0≤fr∧fr≤to∧to≤1048576) by omega),decide_eq_false (show ¬ (0≤mo∧mo≤67108864) by omega)]
         simp[obind_some']
        ·simp only[inL,inW,decide_eq_true g1,decide_eq_true g2,decide_eq_false g3,decide_eq_false g4,decide_eq_false g5,decide_eq_true (show (0≤fr∧fr≤to∧to≤1048576) by omega),decide_eq_true (show (0≤mo∧mo≤67108864) by omega)]
         cases q<;>simp[obind_some']
     ·simp only[inL,decide_eq_true g1,decide_eq_false g2,decide_eq_false (show ¬ (0≤fr∧fr≤to∧to≤1048576) by omega)]
      simp[obind_some']
    ·simp only[inL,decide_eq_false g1]
     by_cases g6:0≤fr∧fr≤to∧to≤1048576
     ·omega
     ·simp only[decide_eq_false g6]
      simp[obind_some']
  ·intro again _
   simp
  ·exact upF_all l.length (fun i k _=>rfl) l.length 0 (by omega) |>.trans (by cases (List.range' 0 l.length).all (beamB l)<;>rfl)
 ·rw[decide_eq_true (show ((l.length:Nat):Int)>20 by omega),decide_eq_false h0]
  rfl
theorem earlier_loop {p:Bm→Bool} {l:List Bm} {i:Nat} (hl:l.length≤1000000) (hi:i≤l.length) {R:Type} {yes no:Option R} :
  lpK (Int×PUnit) R (fun (again_1:Int×PUnit→Option R) (x_1:Int×PUnit)=>bif decide (x_1.1<(i:Int)) then bif inB x_1.1 (List.length l) then bif p (List.getD l (Int.toNat x_1.1) bm0) then yes else
   again_1 (IntKind.wrap .i64 (x_1.1+(1:Int)),PUnit.unit) else none else no) ((0:Int),PUnit.unit)=bif decide (idxI p (l.take i) 0<0) then no else yes:=by
 refine (lpK_up (α:=Int×PUnit) i (by omega) (fun j (_:Unit)=>((j:Int),PUnit.unit)) (fun j s k=>bif !p (l.getD j bm0) then k s else yes) (fun _=>no) ?_ ?_ ()).trans ?_
 ·intro again j _ hj
  have hw:IntKind.wrap .i64 ((j:Int)+1)=((j+1:Nat):Int):=by rw[wrap_id (by omega) (by omega)];rfl
  simp only[inB_nat,decide_eq_true (show j<l.length by omega),decide_eq_true (show (j:Int)<i by omega),cT,Int.toNat_natCast,hw]
  cases p (l.getD j bm0)<;>rfl
 ·intro again _
  simp only[decide_eq_false (show ¬ (i:Int)<i by omega),cF]
 ·refine (upF_all (p:=fun j=>!p (l.getD j bm0)) (r:=yes) i (fun _ _ _=>rfl) i 0 (by omega)).trans ?_
  congr 1
  have h:=idxI_neg (p:=p) (l:=l.take i) (i:=0) (by omega)
  rw[Bool.eq_iff_iff,decide_eq_true_iff,h,List.all_eq_true]
  constructor
  ·intro h1 a ha
   obtain ⟨j,hj,rfl⟩:=List.getElem_of_mem ha
   rw[List.length_take] at hj
   have:=h1 j (List.mem_range'.2 ⟨j,by omega,by omega⟩)
   rw[getD_nat (show j<l.length by omega)] at this
   rw[List.getElem_take]
   simpa using this
  ·intro h1 j hj
   obtain ⟨k,hk,rfl⟩:=List.mem_range'.1 hj
   have:l.getD (0+1*k) bm0 ∈ l.take i:=by
    rw[getD_nat (by omega)]
    exact List.mem_take_iff_getElem.2 ⟨0+1*k,by omega,rfl⟩
   rw[h1 _ this]
   rfl
theorem gRefValid_ok (l:List Bm):ref19_Valid l=some (validG l):=by
 simp only[ref19_Valid,ref19_Valid_b,validG]
 by_cases h0:l.length≤20
 ·rw[decide_eq_false (show ¬ ((l.length:Nat):Int)>20 by omega),decide_eq_true h0]
  simp only[cF,Bool.true_and]
  refine (lpK_up (α:=Int×PUnit) l.length (by omega) (fun i (_:Unit)=>((i:Int),PUnit.unit)) (fun i s k=>bif beamB l i then k s else some false) (fun _=>some true) ?_ ?_ ()).trans ?_
  ·intro again i _ hi
   have hw:IntKind.wrap .i64 ((i:Int)+1)=((i+1:Nat):Int):=by rw[wrap_id (by omega) (by omega)];rfl
   have he:=fun (no:Option Bool)=>earlier_loop (p:=fun a:Bm=>decide (a.1=(bmAt l i).1)) (l:=l) (i:=i) (by omega) (by omega) (yes:=some false) (no:=no)
   simp only[inB_nat,decide_eq_true hi,decide_eq_true (show (i:Int)<l.length by omega),cT,Int.toNat_natCast,hw,show List.getD l i bm0=bmAt l i from rfl,refIsName_ok,between_ok,obind_some',str_beq]
   rw[he]
   unfold beamB inW
   generalize bmAt l i=b at *
   obtain ⟨s,fr,to,mo⟩:=b
   simp only
   generalize decide (idxI (fun a:Bm=>decide (a.1=s)) (l.take i) 0<0)=q
   cases nameB s with
   | false=>rfl
   | true =>
    by_cases g1:0≤fr∧fr≤to
    ·by_cases g2:0≤to∧to≤1048576
     ·simp only[decide_eq_true g1,decide_eq_true g2,decide_eq_true (show (0≤fr∧fr≤to∧to≤1048576) by omega)]
      cases decide (0≤mo∧mo≤67108864)<;>cases q<;>simp[obind_some']
     ·simp only[decide_eq_true g1,decide_eq_false g2,decide_eq_false (show ¬ (0≤fr∧fr≤to∧to≤1048576) by omega)]
      simp[obind_some']
    ·simp only[decide_eq_false g1,decide_eq_false (show ¬ (0≤fr∧fr≤to∧to≤1048576) by omega)]
     simp[obind_some']
  ·intro again _
   simp
  ·exact upF_all l.length (fun i k _=>rfl) l.length 0 (by omega) |>.trans (by cases (List.range' 0 l.length).all (beamB l)<;>rfl)
 ·rw[decide_eq_true (show ((l.length:Nat):Int)>20 by omega),decide_eq_false h0]
  rfl
end Go.Proofs.YtmoiiokmfanlgaaGreat

namespace Go.Proofs.YtmoiiokmfanlgaaGreat
open Tryz Dn Dn.Sh
abbrev HH:=ByteArray×Int×List HS×List Bm
abbrev set0:HS:=({ data:={ toList:=[] } },(0:Int),(0:Int),(0:Int),(0:Int),[],(0:Int),(0:Int),(0:Int),(0:Int),(0:Int),[],[])
def shortB (s:ByteArray):Bool:=!decide ((s.size:Int)>60)
def small21B (s:HS):Bool:=shortB s.1&&(!decide ((s.2.2.2.2.2.1.length:Int)>12)&&(!(decide ((s.2.2.2.2.2.2.2.2.2.2.2.1.length:Int)>8)&&decide ((s.2.2.2.2.2.2.2.2.2.2.2.1.length:Int)≤40))&&(!decide ((s.2.2.2.2.2.2.2.2.2.2.2.1.length:Int)>45) &&
 (!decide ((s.2.2.2.2.2.2.2.2.2.2.2.2.length:Int)>10)&&(s.2.2.2.2.2.2.2.2.2.2.2.1.all (fun x=>shortB x.1)&&s.2.2.2.2.2.2.2.2.2.2.2.2.all (fun x=>shortB x.1))))))
theorem chk_loop {α R:Type} {p:α→Bool} {d:α} {l:List α} {yes no:Option R} {F:(Int×PUnit→Option R)→Int×PUnit→Option R} (hl:l.length≤1000000)
  (hb:∀again (i:Nat),i<l.length→F again ((i:Int),PUnit.unit)=bif p (l.getD i d) then again (((i+1:Nat):Int),PUnit.unit) else no) (hf:∀again,F again ((l.length:Int),PUnit.unit)=yes) :
  lpK (Int×PUnit) R F ((0:Int),PUnit.unit)=bif l.all p then yes else no:=by
 refine (lpK_up (α:=Int×PUnit) l.length (by omega) (fun i (_:Unit)=>((i:Int),PUnit.unit)) (fun i s k=>bif p (l.getD i d) then k s else no) (fun _=>yes) ?_ ?_ ()).trans ?_
 ·intro again i _ hi
  exact hb again i hi
 ·intro again _
  exact hf again
 ·rw[upF_all l.length (fun i k _=>rfl) l.length 0 (by omega),all_range]
theorem small21_ok (s:HS):ref21_Small s 8=some (small21B s):=by
 obtain ⟨nm,dp,lo,hi,len,ls,pi,ar,pu,mo,br,l,bs⟩:=s
 simp only[ref21_Small,ref21_Small_b,small21B]
 have h1:shortB nm=!decide ((nm.size:Int)>60):=rfl
 rw[h1]
 generalize decide ((nm.size:Int)>60)=b1
 generalize decide ((ls.length:Int)>12)=b2
 generalize decide ((l.length:Int)>8)=b3
 generalize decide ((l.length:Int)≤40)=b4
 generalize hb5:decide ((l.length:Int)>45)=b5
 generalize hb6:decide ((bs.length:Int)>10)=b6
 cases b1;case true=>rfl
 cases b2;case true=>rfl
 have key:∀b:Bool,b5=false→b6=false→lpK (Int×PUnit) Bool (fun (again:Int×PUnit→Option Bool) (x:Int×PUnit)=>bif decide (x.1<(↑(List.length l):Int)) then bif inB x.1 (List.length l) then bif decide ((↑(ByteArray.size (List.getD l (Int.toNat x.1) itm0).1):Int)>(60:Int)) then some false else again (IntKind.wrap .i64 (x.1+(1:Int)),PUnit.unit) else none else
   lpK (Int×PUnit) Bool (fun (again:Int×PUnit→Option Bool) (x:Int×PUnit)=>bif decide (x.1<(↑(List.length bs):Int)) then bif inB x.1 (List.length bs) then bif decide ((↑(ByteArray.size (List.getD bs (Int.toNat x.1) brk0).1):Int)>(60:Int)) then some false else again (IntKind.wrap .i64 (x.1+(1:Int)),PUnit.unit) else none else some true) ((0:Int),PUnit.unit)) ((0:Int),PUnit.unit)
   = some (l.all (fun x=>shortB x.1)&&bs.all (fun x=>shortB x.1)):=fun _ h5 h6=>by
  subst h5;subst h6
  have g5:¬ (l.length:Int)>45:=of_decide_eq_false hb5
  have g6:¬ (bs.length:Int)>10:=of_decide_eq_false hb6
  refine (chk_loop (p:=fun x:Itm=>shortB x.1) (d:=itm0) (l:=l) (no:=some false) (yes:=some (bs.all fun x=>shortB x.1)) (by omega) ?_ ?_).trans ?_
  ·intro again i hi
   have hw:IntKind.wrap .i64 ((i:Int)+1)=((i+1:Nat):Int):=by rw[wrap_id (by omega) (by omega)];rfl
   simp only[inB_nat,decide_eq_true hi,decide_eq_true (show (i:Int)<l.length by omega),cT,Int.toNat_natCast,hw]
   unfold shortB
   cases decide ((((l.getD i itm0).1.size:Nat):Int)>60)<;>rfl
  ·intro again
   simp only[decide_eq_false (show ¬ (l.length:Int)<l.length by omega),cF]
   refine (chk_loop (p:=fun x:Brk=>shortB x.1) (d:=brk0) (l:=bs) (no:=some false) (yes:=some true) (by omega) ?_ ?_).trans ?_
   ·intro again i hi
    have hw:IntKind.wrap .i64 ((i:Int)+1)=((i+1:Nat):Int):=by rw[wrap_id (by omega) (by omega)];rfl
    simp only[inB_nat,decide_eq_true hi,decide_eq_true (show (i:Int)<bs.length by omega),cT,Int.toNat_natCast,hw]
    unfold shortB
    cases decide ((((bs.getD i brk0).1.size:Nat):Int)>60)<;>rfl
   ·intro again
    simp only[decide_eq_false (show ¬ (bs.length:Int)<bs.length by omega),cF]
   ·cases bs.all (fun x=>shortB x.1)<;>rfl
  ·cases l.all (fun x=>shortB x.1)<;>rfl
 cases b3 with
 | false =>
  cases b5;case true=>rfl
  cases b6;case true=>rfl
  simp only[Bool.not_true,Bool.not_false,Bool.or_true,Bool.or_false,Bool.and_self,Bool.true_and,Bool.false_and,Bool.and_false,cT,cF]
  exact key true rfl rfl
 | true =>
  cases b4;case true=>rfl
  cases b5;case true=>rfl
  cases b6;case true=>rfl
  simp only[Bool.not_true,Bool.not_false,Bool.or_true,Bool.and_self,Bool.true_and,Bool.and_false,cT,cF]
  exact key true rfl rfl
def smallHB (h:HH):Bool:=!decide ((h.2.2.1.length:Int)>6)&&(!decide ((h.2.2.2.length:Int)>16)&&(shortB h.1&&(h.2.2.1.all small21B&&h.2.2.2.all (fun x=>shortB x.1))))
theorem smallH_ok (h:HH):law30_small h=some (smallHB h):=by
 obtain ⟨nm,ht,ss,rs⟩:=h
 simp only[law30_small,law30_small_b,ref30_Small,ref30_Small_b,smallHB,small21_ok,obind_some']
 have h1:shortB nm=!decide ((nm.size:Int)>60):=rfl
 rw[h1,show IntKind.wrap .i64 (6+10)=16 by kernel_rfl]
 generalize decide ((nm.size:Int)>60)=b1
 generalize hb2:decide ((ss.length:Int)>6)=b2
 generalize hb3:decide ((rs.length:Int)>16)=b3
 cases b2;case true=>rfl
 cases b3;case true=>rfl
 cases b1;case true=>rfl
 have g2:¬ (ss.length:Int)>6:=of_decide_eq_false hb2
 have g3:¬ (rs.length:Int)>16:=of_decide_eq_false hb3
 simp only[Bool.not_true,Bool.not_false,Bool.or_true,Bool.and_self,Bool.true_and,cT,cF]
 refine Eq.trans (congrArg (fun m:Option Bool=>obind m fun t=>some t) (chk_loop (p:=small21B) (d:=set0) (l:=ss) (no:=some false) (yes:=some (rs.all fun x=>shortB x.1)) (by omega) ?_ ?_)) ?_
 ·intro again i hi
  have hw:IntKind.wrap .i64 ((i:Int)+1)=((i+1:Nat):Int):=by rw[wrap_id (by omega) (by omega)];rfl
  simp only[inB_nat,decide_eq_true hi,decide_eq_true (show (i:Int)<ss.length by omega),cT,Int.toNat_natCast,hw]
  cases small21B (ss.getD i set0)<;>rfl
 ·intro again
  simp only[decide_eq_false (show ¬ (ss.length:Int)<ss.length by omega),cF]
  refine (chk_loop (p:=fun x:Bm=>shortB x.1) (d:=bm0) (l:=rs) (no:=some false) (yes:=some true) (by omega) ?_ ?_).trans ?_
  ·intro again i hi
   have hw:IntKind.wrap .i64 ((i:Int)+1)=((i+1:Nat):Int):=by rw[wrap_id (by omega) (by omega)];rfl
   simp only[inB_nat,decide_eq_true hi,decide_eq_true (show (i:Int)<rs.length by omega),cT,Int.toNat_natCast,hw]
   unfold shortB
   cases decide ((((rs.getD i bm0).1.size:Nat):Int)>60)<;>rfl
  ·intro again
   simp only[decide_eq_false (show ¬ (rs.length:Int)<rs.length by omega),cF]
  ·cases rs.all (fun x=>shortB x.1)<;>rfl
 ·cases ss.all small21B<;>cases rs.all (fun x=>shortB x.1)<;>rfl
theorem small_len {h:HH} (hs:smallHB h=true):h.2.2.1.length≤6∧h.2.2.2.length≤16∧∀s ∈ h.2.2.1,s.2.2.2.2.2.1.length≤12∧s.2.2.2.2.2.2.2.2.2.2.2.1.length≤45∧s.2.2.2.2.2.2.2.2.2.2.2.2.length≤10:=by
 simp only[smallHB,Bool.and_eq_true,Bool.not_eq_true',decide_eq_false_iff_not,List.all_eq_true] at hs
 obtain ⟨h1,h2,_,h4,_⟩:=hs
 refine ⟨by omega,by omega,fun s hm=>?_⟩
 have:=h4 s hm
 simp only[small21B,Bool.and_eq_true,Bool.not_eq_true',decide_eq_false_iff_not] at this
 obtain ⟨_,g1,_,g2,g3,_⟩:=this
 omega
def findI (h:HH) (n:ByteArray):Int:=idxI (fun s:HS=>decide (s.1=n)) h.2.2.1 0
theorem find_ok (h:HH) (n:ByteArray) (hl:h.2.2.1.length≤1000000):house_find h n=some (findI h n):=by
 simp only[house_find,house_find_b,house_find_1,house_find_1_b,str_beq]
 unfold slices_IndexFunc_50 slices_IndexFunc_50_b
 exact congrArg (fun m:Option Int=>obind m fun t=>some t) (index_loop (f:=fun x:HS×Unit=>some (decide (x.1.1=n))) (p:=fun s:HS=>decide (s.1=n)) (d:=set0) hl (fun a _=>rfl))
theorem findSet_ok (h:HH) (n:ByteArray) (hl:h.2.2.1.length≤1000000):ref30_FindSet h n=some (findI h n):=by
 simp only[ref30_FindSet,ref30_FindSet_b,str_beq]
 exact find_loop (p:=fun s:HS=>decide (s.1=n)) (d:=set0) hl
noncomputable def validHB (h:HH):Bool:=nameB h.1&&(!decide (h.2.1<1)&&(!decide (h.2.1>1048576)&&(!decide ((h.2.2.1.length:Int)>60)&&(validG h.2.2.2&&(List.range' 0 h.2.2.1.length).all fun i=>setB (h.2.2.1.getD i set0)&&(!decide ((h.2.2.1.getD i set0).2.2.2.1>h.2.1)&&decide (findI h (h.2.2.1.getD i set0).1=(i:Int)))))))
theorem hValid_ok (h:HH):house_Valid h=some (validHB h):=by
 obtain ⟨nm,ht,ss,rs⟩:=h
 simp only[house_Valid,house_Valid_b,isName_ok,gValid_ok,validA_ok,obind_bif,obind_some',validHB]
 generalize nameB nm=b1
 generalize decide (ht<1)=b2
 generalize decide (ht>1048576)=b3
 generalize hb4:decide ((ss.length:Int)>60)=b4
 generalize validG rs=b5
 cases b1;· rfl
 cases b2;case true=>rfl
 cases b3;case true=>rfl
 cases b4;case true=>rfl
 cases b5;· rfl
 have g4:¬ (ss.length:Int)>60:=of_decide_eq_false hb4
 have hfind:=fun n=>find_ok (nm,ht,ss,rs) n (by simp only;omega)
 simp only[Bool.not_true,Bool.not_false,Bool.or_true,Bool.and_self,Bool.true_and,cT,cF]
 refine (lpK_up (α:=Int×PUnit) ss.length (by omega) (fun i (_:Unit)=>((i:Int),PUnit.unit)) (fun i s k=>bif setB (ss.getD i set0)&&(!decide ((ss.getD i set0).2.2.2.1>ht)&&decide (findI (nm,ht,ss,rs) (ss.getD i set0).1=(i:Int))) then k s else some false) (fun _=>some true) ?_ ?_ ()).trans ?_
 ·intro again i _ hi
  have hw:IntKind.wrap .i64 ((i:Int)+1)=((i+1:Nat):Int):=by rw[wrap_id (by omega) (by omega)];rfl
  simp only[inB_nat,decide_eq_true hi,decide_eq_true (show (i:Int)<ss.length by omega),cT,Int.toNat_natCast,hw,hfind,show List.getD ss i ({ data:={ toList:=[] } },(0:Int),(0:Int),(0:Int),(0:Int),[],(0:Int),(0:Int),(0:Int),(0:Int),(0:Int),[],[])=ss.getD i set0 from rfl]
  generalize hf:decide (findI (nm,ht,ss,rs) (ss.getD i set0).1=(i:Int))=b6
  cases setB (ss.getD i set0) with
  | false=>rfl
  | true =>
   cases decide ((ss.getD i set0).2.2.2.1>ht) with
   | true=>rfl
   | false =>
    simp only[Bool.not_true,Bool.not_false,Bool.or_true,Bool.true_and,cT,cF,obind_some',hf]
    cases b6<;>rfl
 ·intro again _
  simp only[decide_eq_false (show ¬ (ss.length:Int)<ss.length by omega),cF]
 ·rw[upF_all ss.length (fun i k _=>rfl) ss.length 0 (by omega)]
  cases (List.range' 0 ss.length).all fun i=>setB (ss.getD i set0)&&(!decide ((ss.getD i set0).2.2.2.1>ht)&&decide (findI (nm,ht,ss,rs) (ss.getD i set0).1=(i:Int)))<;>rfl
theorem hRefValid_ok (h:HH) (hL:∀s ∈ h.2.2.1,s.2.2.2.2.2.2.2.2.2.2.2.1.length≤1000000):ref30_Valid h=some (validHB h):=by
 obtain ⟨nm,ht,ss,rs⟩:=h
 simp only at hL
 simp only[ref30_Valid,ref30_Valid_b,refIsName_ok,gRefValid_ok,obind_bif,obind_some',validHB]
 generalize nameB nm=b1
 generalize decide (ht<1)=b2
 generalize decide (ht>1048576)=b3
 generalize hb4:decide ((ss.length:Int)>60)=b4
 generalize validG rs=b5
 cases b1;· rfl
 cases b2;case true=>rfl
 cases b3;case true=>rfl
 cases b4;case true=>rfl
 cases b5;· rfl
 have g4:¬ (ss.length:Int)>60:=of_decide_eq_false hb4
 have hfind:=fun n=>findSet_ok (nm,ht,ss,rs) n (by simp only;omega)
 simp only[Bool.not_true,Bool.not_false,Bool.or_true,Bool.and_self,Bool.true_and,cT,cF]
 refine (lpK_up (α:=Int×PUnit) ss.length (by omega) (fun i (_:Unit)=>((i:Int),PUnit.unit)) (fun i s k=>bif setB (ss.getD i set0)&&(!decide ((ss.getD i set0).2.2.2.1>ht)&&decide (findI (nm,ht,ss,rs) (ss.getD i set0).1=(i:Int))) then k s else some false) (fun _=>some true) ?_ ?_ ()).trans ?_
 ·intro again i _ hi
  have hw:IntKind.wrap .i64 ((i:Int)+1)=((i+1:Nat):Int):=by rw[wrap_id (by omega) (by omega)];rfl
  have hv:ref21_Valid (ss.getD i set0)=some (setB (ss.getD i set0)):=validR_ok _ (hL _ (by rw[getD_nat hi];exact List.getElem_mem _))
  simp only[inB_nat,decide_eq_true hi,decide_eq_true (show (i:Int)<ss.length by omega),cT,Int.toNat_natCast,hw,hfind,show List.getD ss i ({ data:={ toList:=[] } },(0:Int),(0:Int),(0:Int),(0:Int),[],(0:Int),(0:Int),(0:Int),(0:Int),(0:Int),[],[])=ss.getD i set0 from rfl,hv,obind_some']
  generalize hf:decide (findI (nm,ht,ss,rs) (ss.getD i set0).1=(i:Int))=b6
  cases setB (ss.getD i set0) with
  | false=>rfl
  | true =>
   cases decide ((ss.getD i set0).2.2.2.1>ht) with
   | true=>rfl
   | false =>
    simp only[Bool.not_true,Bool.not_false,Bool.or_true,Bool.and_self,Bool.true_and,cT,cF,obind_some',hf]
    cases b6<;>rfl
 ·intro again _
  simp only[decide_eq_false (show ¬ (ss.length:Int)<ss.length by omega),cF]
 ·rw[upF_all ss.length (fun i k _=>rfl) ss.length 0 (by omega)]
  cases (List.range' 0 ss.length).all fun i=>setB (ss.getD i set0)&&(!decide ((ss.getD i set0).2.2.2.1>ht)&&decide (findI (nm,ht,ss,rs) (ss.getD i set0).1=(i:Int)))<;>rfl
end Go.Proofs.YtmoiiokmfanlgaaGreat

namespace Go.Proofs.YtmoiiokmfanlgaaGreat
open Tryz Dn Dn.Sh
theorem upF_app {α R:Type} {f:List α→Option R} {g:Nat→α} {c:Nat→Bool} {r:Option R} {n w:Nat} (hn:n≤1000000) (hw:w≤1000) {b:Nat→List α→(List α→Option R)→Option R}
  (hb:∀i s k,i<n→b i s k=bif c i then r else bif fitB (s.length+1) w then k (s++[g i]) else none):∀(k i:Nat) (s:List α),i+k≤n→s.length≤i→upF b f k i s=bif (List.range' i k).any c then r else f (s++(List.range' i k).map g)
 | 0,i,s,_,_=>by simp[upF]
 | k+1,i,s,h,hs=>by
  simp only[upF,hb i s _ (by omega),List.range'_succ,List.any_cons,List.map_cons]
  cases hc:c i with
  | true=>rfl
  | false =>
   have:(s.length+1)*w≤1000001*1000:=Nat.mul_le_mul (by omega) hw
   rw[fitB_of (by omega),cT,cF,upF_app hn hw hb k (i+1) (s++[g i]) (by omega) (by rw[List.length_append,List.length_singleton];omega),Bool.false_or,List.append_assoc]
   rfl
theorem upF_foldl {α σ R:Type} {d:α} {l:List α} {f:σ→Option R} {g:σ→α→σ} {b:Nat→σ→(σ→Option R)→Option R} (hb:∀i s k,i<l.length→b i s k=k (g s (l.getD i d))) (s:σ):upF b f l.length 0 s=f (l.foldl g s):=by
 rw[upF_chk (q:=fun _=>true) (g:=fun i s=>g s (l.getD i d)) (r:=none) l.length (fun i s k h=>hb i s k h) l.length 0 s (by omega),range_fold (g:=g) (d:=d) l.length 0 s (by omega),List.drop_zero]
 rw[show (List.range' 0 l.length).all (fun _=>true)=true from List.all_eq_true.2 fun _ _=>rfl,cT]
def wPipe (s:HS):Int:=IntKind.wrap .i64 (s.2.2.2.2.2.2.1*IntKind.wrap .i64 (Int.tdiv s.2.2.2.2.1 1000))
def addI (a:Int) (x:Itm):Int:=IntKind.wrap .i64 (a+x.2.2.2.1)
def weightI (s:HS):Int:=s.2.2.2.2.2.2.2.2.2.2.2.1.foldl addI (wPipe s)
theorem pipeA_ok (s:HS):batten_pipe s=some (wPipe s):=by simp only[batten_pipe,batten_pipe_b,wPipe]
theorem weightA_ok (s:HS) (hl:s.2.2.2.2.2.2.2.2.2.2.2.1.length≤1000000):batten_weight s=some (weightI s):=by
 obtain ⟨nm,dp,lo,hi,len,ls,pi,ar,pu,mo,br,l,bs⟩:=s
 simp only at hl
 simp only[batten_weight,batten_weight_b,pipeA_ok,obind_some',weightI]
 generalize wPipe (nm,dp,lo,hi,len,ls,pi,ar,pu,mo,br,l,bs)=a0
 refine (lpK_up (α:=Int×Int×PUnit) l.length (by omega) (fun i (s:Int)=>(s,(i:Int),PUnit.unit)) (fun i s k=>k (addI s (l.getD i itm0))) (fun s=>some s) ?_ ?_ _).trans ?_
 ·intro again i s hi
  have hw:IntKind.wrap .i64 ((i:Int)+1)=((i+1:Nat):Int):=by rw[wrap_id (by omega) (by omega)];rfl
  simp only[inB_nat,decide_eq_true hi,decide_eq_true (show (i:Int)<l.length by omega),cT,Int.toNat_natCast,hw]
  rfl
 ·intro again s
  simp only[decide_eq_false (show ¬ (l.length:Int)<l.length by omega),cF]
 ·exact upF_foldl (g:=addI) (d:=itm0) (fun _ _ _ _=>rfl) _
def addBk (a:Int) (b:Brk):Int:=IntKind.wrap .i64 (a+IntKind.wrap .i64 (b.2.1*b.2.2))
def sumI (l:List Brk):Int:=l.foldl addBk 0
def cntsB (l:List Brk):List Int:=l.map fun b=>b.2.2
theorem cnts_at (l:List Brk) (i:Nat) (h:i<l.length):(cntsB l).getD i 0=(l.getD i brk0).2.2:=by
 rw[getD_nat (by unfold cntsB;rw[List.length_map];exact h),getD_nat h]
 unfold cntsB
 rw[List.getElem_map]
theorem range_map {α β:Type} {d:α} {g:α→β} {l:List α}:(List.range' 0 l.length).map (fun i=>g (l.getD i d))=l.map g:=by
 apply List.ext_getElem
 ·simp
 ·intro i h1 h2
  simp only[List.length_map,List.length_range'] at h1
  rw[List.getElem_map,List.getElem_map,List.getElem_range',Nat.one_mul,Nat.zero_add,getD_nat h1]
theorem arborValid_ok (l:List Brk):arbor_Valid l=some (bricksB l):=by
 simp only[arbor_Valid,arbor_Valid_b,bricksB]
 by_cases h0:l.length≤8
 ·rw[decide_eq_false (show ¬ ((l.length:Nat):Int)>8 by omega),decide_eq_true h0]
  simp only[cF,Bool.true_and]
  refine (lpK_up (α:=Int×Int×PUnit) l.length (by omega) (fun i (s:Int)=>(s,(i:Int),PUnit.unit)) (fun i s k=>bif brickB (l.getD i brk0)&&earlyN (fun a b=>decide (a.1=b.1)) brk0 l i then k (addW s (l.getD i brk0)) else some false) (fun s=>some (decide (s≤60))) ?_ ?_ 0).trans ?_
  ·intro again i s hi
   have hw:IntKind.wrap .i64 ((i:Int)+1)=((i+1:Nat):Int):=by rw[wrap_id (by omega) (by omega)];rfl
   have hs:slB (0:Int) (i:Int) l.length=true:=slB_of (by omega) (by omega) (by omega)
   have hc:slices_ContainsFunc_104 (List.drop 0 (List.take i l)) (fun x=>arbor_Valid_1 x.1 (l.getD i brk0))=some ((l.take i).any fun a=>decide (a.1=(l.getD i brk0).1)) :=
    containsB (l:=List.drop 0 (List.take i l)) (by rw[List.drop_zero,List.length_take];omega) fun a _=>by
     simp only[arbor_Valid_1,arbor_Valid_1_b,str_beq]
   simp only[inB_nat,decide_eq_true hi,decide_eq_true (show (i:Int)<l.length by omega),cT,Int.toNat_natCast,hw,show List.getD l i ({ data:={ toList:=[] } },(0:Int),(0:Int))=l.getD i brk0 from rfl,isName_ok,obind_some',hs,hc]
   unfold earlyN brickB btw addW
   generalize (l.take i).any (fun a=>decide (a.1=(l.getD i brk0).1))=q
   generalize l.getD i brk0=b
   cases nameB b.1 with
   | false=>rfl
   | true =>
    by_cases g1:b.2.1<1
    ·rw[decide_eq_true g1,decide_eq_false (show ¬ 1≤b.2.1 by omega)];rfl
    ·rw[decide_eq_false g1,decide_eq_true (show 1≤b.2.1 by omega)]
     by_cases g2:b.2.1>1048576
     ·rw[decide_eq_true g2,decide_eq_false (show ¬ b.2.1≤1048576 by omega)];rfl
     ·rw[decide_eq_false g2,decide_eq_true (show b.2.1≤1048576 by omega)]
      by_cases g3:b.2.2<0
      ·rw[decide_eq_true g3,decide_eq_false (show ¬ 0≤b.2.2 by omega)];rfl
      ·rw[decide_eq_false g3,decide_eq_true (show 0≤b.2.2 by omega)]
       by_cases g4:b.2.2>60
       ·rw[decide_eq_true g4,decide_eq_false (show ¬ b.2.2≤60 by omega)];rfl
       ·rw[decide_eq_false g4,decide_eq_true (show b.2.2≤60 by omega)]
        cases q<;>rfl
  ·intro again s
   simp only[decide_eq_false (show ¬ (l.length:Int)<l.length by omega),cF]
  ·rw[upF_chk (q:=fun i=>brickB (l.getD i brk0)&&earlyN (fun a b=>decide (a.1=b.1)) brk0 l i) (g:=fun i s=>addW s (l.getD i brk0)) (r:=some false) l.length (fun i s k _=>rfl) l.length 0 0 (by omega),all_and,all_range,early_nodup (f:=fun x:Brk=>x.1),range_fold (g:=addW) (d:=brk0) l.length 0 0 (by omega),List.drop_zero]
   cases l.all brickB<;>cases nodupB (l.map fun x=>x.1)<;>rfl
 ·rw[decide_eq_true (show ((l.length:Nat):Int)>8 by omega),decide_eq_false h0]
  rfl
theorem bricks_all {l:List Brk} (h:bricksB l=true):l.length≤8∧∀b ∈ l,1≤b.2.1∧b.2.1≤1048576∧0≤b.2.2∧b.2.2≤60:=by
 unfold bricksB at h
 rw[Bool.and_eq_true,Bool.and_eq_true,decide_eq_true_iff,List.all_eq_true] at h
 refine ⟨h.1,fun b hb=>?_⟩
 have:=h.2.1 b hb
 unfold brickB btw at this
 simp only[Bool.and_eq_true,decide_eq_true_iff] at this
 omega
theorem arborWeight_ok {l:List Brk} (h:bricksB l=true):arbor_Weight l (cntsB l)=some (sumI l,0,()):=by
 have hc:(cntsB l).length=l.length:=by unfold cntsB;rw[List.length_map]
 obtain ⟨h1,h2⟩:=bricks_all h
 simp only[arbor_Weight,arbor_Weight_b,arborValid_ok,h,obind_some',hc,decide_true,Bool.not_true,cF]
 refine (lpK_up (α:=Int×Int×PUnit) l.length (by omega) (fun i (s:Int)=>(s,(i:Int),PUnit.unit)) (fun i s k=>k (addBk s (l.getD i brk0))) (fun s=>some (s,0,())) ?_ ?_ 0).trans ?_
 ·intro again i s hi
  have hw:IntKind.wrap .i64 ((i:Int)+1)=((i+1:Nat):Int):=by rw[wrap_id (by omega) (by omega)];rfl
  have hm:=h2 (l.getD i brk0) (by rw[getD_nat hi];exact List.getElem_mem _)
  simp only[inB_nat,decide_eq_true hi,decide_eq_true (show (i:Int)<l.length by omega),cT,Int.toNat_natCast,hw,cnts_at l i hi,show List.getD l i ({ data:={ toList:=[] } },(0:Int),(0:Int))=l.getD i brk0 from rfl,decide_eq_false (show ¬ (l.getD i brk0).2.2<0 by omega),decide_eq_false (show ¬ (l.getD i brk0).2.2>(l.getD i brk0).2.2 by omega)]
  simp only[Bool.not_true,Bool.not_false,Bool.or_true,Bool.and_self,cT,cF]
  unfold addBk
  rw[Int.mul_comm]
 ·intro again s
  simp only[decide_eq_false (show ¬ (l.length:Int)<l.length by omega),cF]
 ·exact upF_foldl (g:=addBk) (d:=brk0) (fun _ _ _ _=>rfl) _
end Go.Proofs.YtmoiiokmfanlgaaGreat

namespace Go.Proofs.YtmoiiokmfanlgaaGreat
open Tryz Dn Dn.Sh
def isB (d:Int) (b:Bm):Bool:=decide (b.2.1≤d)&&decide (d≤b.2.2.1)
def cntB (l:List Bm) (d:Int):Nat:=(l.filter (isB d)).length
theorem overG_cons' (d:Int) (b:Bm) (r:List Bm) (i:Int):overG d (b ::r) i=bif isB d b then (i,()) ::overG d r (i+1) else overG d r (i+1):=rfl
theorem overG_len (d:Int):∀(r:List Bm) (i:Int),(overG d r i).length=cntB r d
 | [],_=>rfl
 | b ::r,i=>by
  rw[overG_cons']
  unfold cntB
  rw[List.filter_cons]
  cases isB d b with
  | true=>simp only[cond_true,List.length_cons,if_true];rw[overG_len d r (i+1)];rfl
  | false=>simp only[cond_false,Bool.false_eq_true,if_false];rw[overG_len d r (i+1)];rfl
theorem overL_len (l:List Bm) (d:Int):(overL l d).length=cntB l d:=overG_len d l 0
theorem cntB_le (l:List Bm) (d:Int):cntB l d≤l.length:=List.length_filter_le _ _
theorem overG_walk {σ R:Type} {d:Int} {l:List Bm} {b:Int×Unit→σ→(σ→Option R)→Option R} {c:Nat→Bm→σ→(σ→Option R)→Option R} {f:σ→Option R} (h:∀i s k,i<l.length→b ((i:Int),()) s k=c i (bmAt l i) s k) :
  ∀(n k:Nat) (s:σ),k+n=l.length→listF b f (overG d (l.drop k) k) s=upF (fun i s k=>bif isB d (bmAt l i) then c i (bmAt l i) s k else k s) f n k s
 | 0,k,s,hk=>by
  rw[List.drop_of_length_le (by omega)]
  rfl
 | n+1,k,s,hk=>by
  have hk':k<l.length:=by omega
  rw[List.drop_eq_getElem_cons hk',overG_cons']
  have e:l[k]=bmAt l k:=(getD_nat hk').symm
  rw[e]
  simp only[upF]
  have ih:=fun s'=>overG_walk (d:=d) (f:=f) h n (k+1) s' (by omega)
  cases isB d (bmAt l k) with
  | false=>rw[cond_false,cond_false];exact ih s
  | true =>
   rw[cond_true,cond_true]
   simp only[listF]
   rw[h k s _ hk']
   congr 1
   funext s'
   exact ih s'
theorem overP_of {l:List Bm} (h:l.length≤1000000):overP l=true:=ble_of (by omega)
theorem count_ok {l:List Bm} (h:l.length≤1000000) (d:Int):grid_beams_count l d=some (cntB l d:Int):=by
 simp only[grid_beams_count,grid_beams_count_b]
 rw[overP_of h,cT]
 have hle:=cntB_le l d
 refine (lpK_nat (overL l d) ((0:Int),()) (by rw[overL_len];omega) (fun (_:Int×Unit) (s:Int×PUnit) k=>k (IntKind.wrap .i64 (s.1+1),PUnit.unit)) (fun s=>some s.1) ?_ ?_ ((0:Int),PUnit.unit)).trans ?_
 ·intro again i s hi
  rw[show Nat.ble (Nat.succ i) (overL l d).length=true from ble_of (by omega),cT]
 ·intro again s
  rw[show Nat.ble (Nat.succ (overL l d).length) (overL l d).length=false by rw[Bool.eq_false_iff];intro e;have:=Nat.le_of_ble_eq_true e;omega,cF]
 ·have key:∀(L:List (Int×Unit)) (n:Nat),n+L.length≤1000000→listF (fun (_:Int×Unit) (s:Int×PUnit) (k:Int×PUnit→Option Int)=>k (IntKind.wrap .i64 (s.1+1),PUnit.unit)) (fun s=>some s.1) L ((n:Int),PUnit.unit)=some ((n+L.length:Nat):Int):=by
   intro L
   induction L with
   | nil=>intro n _;rfl
   | cons a L ih =>
    intro n hn
    simp only[List.length_cons] at hn
    simp only[listF]
    rw[wrap_id (by omega) (by omega)]
    have:=ih (n+1) (by omega)
    rw[show ((n+1:Nat):Int)=(n:Int)+1 by omega] at this
    rw[this]
    congr 1
    simp only[List.length_cons]
    omega
  rw[←overL_len]
  have:=key (overL l d) 0 (by rw[overL_len];omega)
  rw[Nat.zero_add] at this
  exact this
end Go.Proofs.YtmoiiokmfanlgaaGreat

namespace Go.Proofs.YtmoiiokmfanlgaaGreat
namespace Dn
abbrev Fq:=Int×Int
def okF (a:Fq):Prop:=(1≤a.2∧a.2≤1152921504606846976)∧(-1152921504606846976≤a.1∧a.1≤1152921504606846976)∧Nat.gcd a.1.natAbs a.2.natAbs=1
instance (a:Fq):Decidable (okF a):=by unfold okF;infer_instance
def qv (a:Fq):Rat:=mkRat a.1 a.2.toNat
def fitsQ (q:Rat):Prop:=q.num.natAbs≤1152921504606846976∧q.den≤1152921504606846976
instance (q:Rat):Decidable (fitsQ q):=by unfold fitsQ;infer_instance
def prQ (q:Rat):Fq:=(q.num,(q.den:Int))
def fitQ (q:Rat):Fq×Int×Unit:=if fitsQ q then (prQ q,0,()) else ((0,0),5,())
theorem okF_num {a:Fq} (h:okF a):(qv a).num=a.1:=by
 obtain ⟨⟨h1,h2⟩,_,h3⟩:=h
 have h0:a.2.toNat≠0:=by omega
 have h4:Nat.gcd a.2.toNat a.1.natAbs=1:=by rw[Nat.gcd_comm,show a.2.toNat=a.2.natAbs by omega];exact h3
 rw[qv,Rat.num_mkRat,if_neg h0,h4]
 simp
theorem okF_den {a:Fq} (h:okF a):((qv a).den:Int)=a.2:=by
 obtain ⟨⟨h1,h2⟩,_,h3⟩:=h
 have h0:a.2.toNat≠0:=by omega
 have h4:Nat.gcd a.2.toNat a.1.natAbs=1:=by rw[Nat.gcd_comm,show a.2.toNat=a.2.natAbs by omega];exact h3
 rw[qv,Rat.den_mkRat,if_neg h0,h4]
 simp;omega
theorem prQ_qv {a:Fq} (h:okF a):prQ (qv a)=a:=by
 unfold prQ
 rw[okF_num h,okF_den h]
theorem qv_prQ (q:Rat):qv (prQ q)=q:=by
 unfold qv prQ
 simp only[Int.toNat_natCast]
 exact Rat.mkRat_self q
theorem okF_prQ {q:Rat} (h:fitsQ q):okF (prQ q):=by
 obtain ⟨h1,h2⟩:=h
 have:=q.den_pos
 refine ⟨⟨?_,?_⟩,⟨?_,?_⟩,?_⟩
 ·simp only[prQ];omega
 ·simp only[prQ];omega
 ·simp only[prQ];omega
 ·simp only[prQ];omega
 ·simp only[prQ]
  rw[Int.natAbs_natCast]
  exact q.reduced
theorem fitsQ_qv {a:Fq} (h:okF a):fitsQ (qv a):=by
 unfold fitsQ
 have h1:=okF_num h
 have h2:=okF_den h
 obtain ⟨⟨_,_⟩,⟨_,_⟩,_⟩:=h
 rw[h1]
 omega
theorem fitQ_qv {a:Fq} (h:okF a):fitQ (qv a)=(a,0,()):=by
 unfold fitQ
 rw[if_pos (fitsQ_qv h),prQ_qv h]
theorem fitQ_cases (q:Rat):(fitsQ q∧fitQ q=(prQ q,0,()))∨(¬ fitsQ q∧fitQ q=((0,0),5,())):=by
 unfold fitQ
 by_cases h:fitsQ q
 ·exact .inl ⟨h,by rw[if_pos h]⟩
 ·exact .inr ⟨h,by rw[if_neg h]⟩
def sgn (s:Bool) (n:Nat):Int:=if s then -(n:Int) else n
theorem mkQ_low {s:Bool} {n d:Nat} (hd:0<d) (hc:Nat.gcd n d=1):(mkRat (sgn s n) d).num=sgn s n∧(mkRat (sgn s n) d).den=d:=by
 have h0:d≠0:=by omega
 have ha:(sgn s n).natAbs=n:=by unfold sgn;split<;>simp
 have hg:Nat.gcd d (sgn s n).natAbs=1:=by rw[ha,Nat.gcd_comm];exact hc
 rw[Rat.num_mkRat,Rat.den_mkRat,if_neg h0,if_neg h0,hg]
 simp
theorem mkQ_div {s:Bool} {n d:Nat} (hd:0<d):mkRat (sgn s n) d=mkRat (sgn s (n / Nat.gcd n d)) (d / Nat.gcd n d)∧0<d / Nat.gcd n d∧Nat.gcd (n / Nat.gcd n d) (d / Nat.gcd n d)=1:=by
 have hg:0<Nat.gcd n d:=Nat.gcd_pos_of_pos_right _ hd
 have h1:n / Nat.gcd n d*Nat.gcd n d=n:=Nat.div_mul_cancel (Nat.gcd_dvd_left n d)
 have h2:d / Nat.gcd n d*Nat.gcd n d=d:=Nat.div_mul_cancel (Nat.gcd_dvd_right n d)
 refine ⟨?_,Nat.div_pos (Nat.le_of_dvd hd (Nat.gcd_dvd_right n d)) hg,Nat.gcd_div_gcd_div_gcd_of_pos_right hd⟩
 have h3:sgn s n=sgn s (n / Nat.gcd n d)*(Nat.gcd n d:Int):=by
  unfold sgn
  split
  ·rw[Int.neg_mul,←Int.natCast_mul,h1]
  ·rw[←Int.natCast_mul,h1]
 have h4:mkRat (sgn s n) d=mkRat (sgn s (n / Nat.gcd n d)*(Nat.gcd n d:Int)) (d / Nat.gcd n d*Nat.gcd n d):=by rw[←h3,h2]
 rw[h4]
 exact Rat.mkRat_mul_right (by omega)
theorem mkQ_congr {s:Bool} {n d m e:Nat} (hd:0<d) (he:0<e) (h:n*e=m*d):mkRat (sgn s n) d=mkRat (sgn s m) e:=by
 rw[Rat.mkRat_eq_iff (by omega) (by omega)]
 unfold sgn
 split
 ·rw[Int.neg_mul,Int.neg_mul,←Int.natCast_mul,←Int.natCast_mul,h]
 ·rw[←Int.natCast_mul,←Int.natCast_mul,h]
theorem fit_low {s:Bool} {n d:Nat} (hd:0<d) (hc:Nat.gcd n d=1):fitQ (mkRat (sgn s n) d)=if n≤1152921504606846976∧d≤1152921504606846976 then ((sgn s n,(d:Int)),0,()) else ((0,0),5,()):=by
 obtain ⟨h1,h2⟩:=mkQ_low (s:=s) hd hc
 have ha:(sgn s n).natAbs=n:=by unfold sgn;split<;>simp
 unfold fitQ
 have e:fitsQ (mkRat (sgn s n) d)↔n≤1152921504606846976∧d≤1152921504606846976:=by unfold fitsQ;rw[h1,h2,ha]
 have e2:prQ (mkRat (sgn s n) d)=(sgn s n,(d:Int)):=by unfold prQ;rw[h1,h2]
 rw[e2]
 by_cases h:n≤1152921504606846976∧d≤1152921504606846976
 ·rw[if_pos h,if_pos (e.2 h)]
 ·rw[if_neg h,if_neg (fun hh=>h (e.1 hh))]
theorem size_sgn (n:Int):n=sgn (decide (n<0)) n.natAbs:=by
 unfold sgn
 by_cases h:n<0
 ·simp[h];omega
 ·simp[h];omega
theorem sgn_zero (s t:Bool):sgn s 0=sgn t 0:=by unfold sgn;cases s<;>cases t<;>rfl
end Dn
end Go.Proofs.YtmoiiokmfanlgaaGreat

namespace Go.Proofs.YtmoiiokmfanlgaaGreat
open Tryz Dn Dn.Sh
theorem u_wrap {x:Int} (h1:0≤x) (h2:x<18446744073709551616):IntKind.wrap .u64 x=x:=by
 rw[IntKind.wrap_u64];omega
theorem size_ok {x:Int} (h1: -9223372036854775808≤x) (h2:x<9223372036854775808):ratio_size x=some (x.natAbs:Int):=by
 simp only[ratio_size,ratio_size_b]
 by_cases h:x<0
 ·simp only[h,decide_true,cond_true]
  rw[IntKind.wrap_u64,IntKind.wrap_u64]
  congr 1;omega
 ·simp only[h,decide_false,cond_false]
  rw[u_wrap (by omega) (by omega)]
  congr 1;omega
theorem gcd_ok (m n:Nat) (hn:n<18446744073709551616):ratio_gcd (m:Int) (n:Int)=some ((Nat.gcd m n:Nat):Int):=by
 simp only[ratio_gcd,ratio_gcd_b]
 refine lpK_loop (g:=fun x=>some ((Nat.gcd x.1.toNat x.2.1.toNat:Nat):Int)) (I:=fun (x:Int×Int×PUnit)=>0≤x.1∧0≤x.2.1) (μ:=fun (x:Int×Int×PUnit)=>x.2.1.toNat) (x:=((m:Int),(n:Int),PUnit.unit)) ?_ ⟨Int.natCast_nonneg _,Int.natCast_nonneg _⟩ (by simp only;omega)
 rintro ⟨a,b,_⟩ rec ⟨h1,h2⟩ hrec
 simp only at h1 h2 ⊢
 by_cases hb:b=0
 ·subst hb
  simp only[decide_true,Bool.not_true,cond_false,Int.toNat_zero,Nat.gcd_zero_right]
  congr 1;omega
 ·rw[decide_eq_false hb,nzB_of hb,Int.tmod_eq_emod_of_nonneg h1]
  simp only[Bool.not_false,cT]
  have h3:0≤a % b:=Int.emod_nonneg _ hb
  have h4:a % b<b:=Int.emod_lt_of_pos _ (by omega)
  rw[hrec _ ⟨by simp only;omega,by simp only;omega⟩ (by simp only;omega)]
  simp only
  congr 2
  rw[Int.toNat_emod h1 h2,Nat.gcd_comm a.toNat,Nat.gcd_rec b.toNat a.toNat,Nat.gcd_comm]
theorem signed_ok (s:Bool) (n d:Nat) (h1:n<18446744073709551616) (h2:d<18446744073709551616) :
  ratio_signed s (n:Int) (d:Int)=some (if n≤1152921504606846976∧d≤1152921504606846976 then ((sgn s n,(d:Int)),0,()) else ((0,0),5,())):=by
 simp only[ratio_signed,ratio_signed_b,not_or_self',or_self_not,cond_true]
 by_cases hn:n≤1152921504606846976
 ·by_cases hd:d≤1152921504606846976
  ·have e1:decide ((n:Int)>1152921504606846976)=false:=decide_eq_false (by omega)
   have e2:decide ((d:Int)>1152921504606846976)=false:=decide_eq_false (by omega)
   rw[wrap_id (x:=(n:Int)) (by omega) (by omega),wrap_id (x:=(d:Int)) (by omega) (by omega),wrap_id (x:=0 - (n:Int)) (by omega) (by omega)]
   simp only[e1,e2,cond_false,hn,hd,and_self,if_true]
   cases s<;>simp[sgn]
  ·have e2:decide ((d:Int)>1152921504606846976)=true:=decide_eq_true (by omega)
   simp only[e2,bif_true',Bool.or_true,cond_true,hd,and_false,if_false]
 ·have e1:decide ((n:Int)>1152921504606846976)=true:=decide_eq_true (by omega)
  simp only[e1,cond_true,hn,false_and,if_false]
def divQ (n d:Int):Rat:=mkRat (sgn (decide (n<0) !=decide (d<0)) n.natAbs) d.natAbs
theorem tdiv_nat (m n:Nat):Int.tdiv (m:Int) (n:Int)=((m / n:Nat):Int):=by
 rw[Int.tdiv_eq_ediv_of_nonneg (by omega)]
 rfl
theorem Make_ok {n d:Int} (h1: -9223372036854775808≤n) (h2:n<9223372036854775808) (h3: -9223372036854775808≤d) (h4:d<9223372036854775808) :
  ratio_Make n d=some (if d=0 then ((0,0),16,()) else fitQ (divQ n d)):=by
 simp only[ratio_Make,ratio_Make_b,not_or_self',Bool.and_self,cond_true]
 by_cases hd:d=0
 ·simp only[hd,decide_true,cond_true,if_true]
 ·simp only[hd,decide_false,cond_false,if_false]
  rw[size_ok h1 h2,obind_some',size_ok h3 h4,obind_some',gcd_ok _ _ (by omega),obind_some']
  have hg:0<Nat.gcd n.natAbs d.natAbs:=Nat.gcd_pos_of_pos_right _ (by omega)
  have a1:n.natAbs / Nat.gcd n.natAbs d.natAbs≤n.natAbs:=Nat.div_le_self _ _
  have a2:d.natAbs / Nat.gcd n.natAbs d.natAbs≤d.natAbs:=Nat.div_le_self _ _
  have hz:nzB ((Nat.gcd n.natAbs d.natAbs:Nat):Int)=true:=nzB_of (by omega)
  obtain ⟨m1,m2,m3⟩:=mkQ_div (s:=decide (n<0) !=decide (d<0)) (n:=n.natAbs) (d:=d.natAbs) (by omega)
  have hs:n=0→n.natAbs / Nat.gcd n.natAbs d.natAbs=0:=fun h=>by subst h;simp
  rw[hz,cond_true,cond_true,tdiv_nat,tdiv_nat]
  unfold divQ
  rw[m1]
  generalize n.natAbs / Nat.gcd n.natAbs d.natAbs=p at *
  generalize d.natAbs / Nat.gcd n.natAbs d.natAbs=q at *
  rw[u_wrap (by omega) (by omega),u_wrap (by omega) (by omega),signed_ok _ _ _ (by omega) (by omega),obind_some',fit_low m2 m3]
  have hs:sgn (bif !decide (n=0) then !decide (decide (n<0)=decide (d<0)) else false) p=sgn (decide (n<0) !=decide (d<0)) p:=by
   by_cases h0:n=0
   ·rw[hs h0]
    exact sgn_zero _ _
   ·simp only[h0,decide_false,Bool.not_false,cond_true]
    cases decide (n<0)<;>cases decide (d<0)<;>rfl
  rw[hs]
theorem Valid_ok {a:Fq}:ratio_Valid a=some (decide (okF a)):=by
 simp only[ratio_Valid,ratio_Valid_b,not_or_self',Bool.and_self,cond_true,bif_false']
 unfold okF
 by_cases h1:1≤a.2
 ·by_cases h2:a.2≤1152921504606846976
  ·by_cases h3: -1152921504606846976≤a.1
   ·by_cases h4:a.1≤1152921504606846976
    ·have e:IntKind.wrap .u64 a.2=((a.2.natAbs:Nat):Int):=by rw[u_wrap (by omega) (by omega)];omega
     simp only[ge_iff_le,h1,h2,h3,h4,decide_true,Bool.and_self,cond_true]
     rw[size_ok (by omega) (by omega),obind_some',e,gcd_ok _ _ (by omega),obind_some']
     congr 1
     rw[Bool.eq_iff_iff]
     simp only[Bool.true_and,decide_eq_true_eq,true_and]
     generalize Nat.gcd a.1.natAbs a.2.natAbs=g
     omega
    ·simp[obind_some',h4]
   ·simp[obind_some',h3]
  ·simp[obind_some',h2]
 ·simp[obind_some',h1]
end Go.Proofs.YtmoiiokmfanlgaaGreat

namespace Go.Proofs.YtmoiiokmfanlgaaGreat
open Tryz Dn Dn.Sh
theorem land32 {x:Int} (h1:0≤x) (h2:x<18446744073709551616):((Nat.land (Int.toNat (x % Int.ofNat 18446744073709551616)) (Int.toNat ((4294967295:Int) % Int.ofNat 18446744073709551616)):Nat):Int)=x % 4294967296:=by
 have e1:x % Int.ofNat 18446744073709551616=x:=Int.emod_eq_of_lt h1 h2
 have e2:Int.toNat ((4294967295:Int) % Int.ofNat 18446744073709551616)=2 ^ 32 - 1:=by decide
 rw[e1,e2]
 have:Nat.land x.toNat (2 ^ 32 - 1)=x.toNat % 2 ^ 32:=Nat.and_two_pow_sub_one_eq_mod x.toNat 32
 rw[this]
 omega
def hl (n:Nat):Int×Int:=(((n / 18446744073709551616:Nat):Int),((n % 18446744073709551616:Nat):Int))
theorem mulW {x y:Int} (x0:0≤x) (x1:x<18446744073709551616) (y0:0≤y) (y1:y<18446744073709551616):bits_Mul64 x y=some (x*y / 18446744073709551616,x*y % 18446744073709551616,()):=by
 have p32:(2:Int) ^ (32:Nat)=4294967296:=by decide
 simp only[bits_Mul64,bits_Mul64_b,p32,show decide ((0:Int)≤32)=true from rfl,cond_true]
 obtain ⟨a,b,ha,hb,hx⟩:∃a b,a=x / 4294967296∧b=x % 4294967296∧x=a*4294967296+b:=⟨_,_,rfl,rfl,by omega⟩
 obtain ⟨c,d,hc,hd,hy⟩:∃c d,c=y / 4294967296∧d=y % 4294967296∧y=c*4294967296+d:=⟨_,_,rfl,rfl,by omega⟩
 have fd:∀n:Int,Int.fdiv n 4294967296=n / 4294967296:=fun n=>Int.fdiv_eq_ediv_of_nonneg n (by omega)
 rw[land32 x0 x1,land32 y0 y1,←hb,←hd]
 simp only[fd,←ha,←hc]
 have a0:0≤a∧a≤4294967295:=by omega
 have b0:0≤b∧b≤4294967295:=by omega
 have c0:0≤c∧c≤4294967295:=by omega
 have d0:0≤d∧d≤4294967295:=by omega
 have mb:∀{m n:Int},0≤m∧m≤4294967295→0≤n∧n≤4294967295→0≤m*n∧m*n≤18446744065119617025:=fun {m n} hm hn=>⟨Int.mul_nonneg hm.1 hn.1,Int.le_trans (Int.mul_le_mul hm.2 hn.2 hn.1 (by omega)) (by decide)⟩
 have e1:=mb a0 c0
 have e2:=mb a0 d0
 have e3:=mb b0 c0
 have e4:=mb b0 d0
 have hxy:x*y=a*c*18446744073709551616+(a*d+b*c)*4294967296+b*d:=by rw[hx,hy];grind
 rw[IntKind.wrap_u64 (x*y)]
 rw[hxy]
 rw[u_wrap (x:=b) (by omega) (by omega),u_wrap (x:=d) (by omega) (by omega)]
 rw[u_wrap (x:=b*d) (by omega) (by omega),u_wrap (x:=a*d) (by omega) (by omega),u_wrap (x:=b*c) (by omega) (by omega),u_wrap (x:=a*c) (by omega) (by omega)]
 generalize b*d=bd at *
 generalize a*d=ad at *
 generalize b*c=bc at *
 generalize a*c=ac at *
 rw[u_wrap (x:=ad+bd / 4294967296) (by omega) (by omega)]
 generalize ht:ad+bd / 4294967296=t
 rw[land32 (by omega) (by omega)]
 rw[u_wrap (x:=t % 4294967296) (by omega) (by omega)]
 rw[u_wrap (x:=t % 4294967296+bc) (by omega) (by omega),u_wrap (x:=ac+t / 4294967296) (by omega) (by omega)]
 rw[u_wrap (x:=ac+t / 4294967296+(t % 4294967296+bc) / 4294967296) (by omega) (by omega)]
 congr 1
 ext
 ·simp only;omega
 ·rfl
theorem product_ok {m n:Nat} (hm:m<18446744073709551616) (hn:n<18446744073709551616):ratio_product (m:Int) (n:Int)=some (hl (m*n)):=by
 simp only[ratio_product,ratio_product_b]
 rw[mulW (by omega) (by omega) (by omega) (by omega),obind_some',←Int.natCast_mul]
 rfl
theorem hl_small {n:Nat} (h:n<18446744073709551616):hl n=(0,(n:Int)):=by
 unfold hl
 rw[Nat.div_eq_of_lt h,Nat.mod_eq_of_lt h]
 rfl
theorem hl_big {n:Nat} (h:¬ n<18446744073709551616):(hl n).1>0:=by
 unfold hl
 simp only
 omega
end Go.Proofs.YtmoiiokmfanlgaaGreat

namespace Go.Proofs.YtmoiiokmfanlgaaGreat
open Tryz Dn Dn.Sh
theorem fdiv_of {n d:Int} (h:0≤d):Int.fdiv n d=n / d:=Int.fdiv_eq_ediv_of_nonneg n h
theorem zero_hl {n:Nat} (_:n<340282366920938463463374607431768211456):(decide ((hl n).1=0)&&(decide ((hl n).2=0)&&true))=decide (n=0):=by
 rw[Bool.and_true,Bool.eq_iff_iff,Bool.and_eq_true,decide_eq_true_iff,decide_eq_true_iff,decide_eq_true_iff]
 simp only[hl]
 omega
end Go.Proofs.YtmoiiokmfanlgaaGreat

namespace Go.Proofs.YtmoiiokmfanlgaaGreat
open Tryz Dn Dn.Sh
theorem divMod_of {t b q r:Nat} (hr:r<b) (h:t=q*b+r):t / b=q∧t % b=r:=by
 subst h
 constructor
 ·rw[Nat.mul_comm,Nat.mul_add_div (by omega),Nat.div_eq_of_lt hr,Nat.add_zero]
 ·rw[Nat.mul_comm,Nat.mul_add_mod,Nat.mod_eq_of_lt hr]
end Go.Proofs.YtmoiiokmfanlgaaGreat

namespace Go.Proofs.YtmoiiokmfanlgaaGreat
open Tryz Dn Dn.Sh
theorem rLess_ok {a b:Nat}:ratio_less (hl a) (hl b)=some (decide (a<b)):=by
 simp only[ratio_less,ratio_less_b]
 have e:decide (a<b)=(bif decide ((hl a).1<(hl b).1) then true else bif decide ((hl a).1=(hl b).1) then decide ((hl a).2<(hl b).2) else false):=by
  by_cases c1:(hl a).1<(hl b).1
  ·simp only[c1,decide_true,cond_true]
   simp only[hl] at c1
   exact decide_eq_true (by omega)
  ·by_cases c2:(hl a).1=(hl b).1
   ·rw[decide_eq_false c1,decide_eq_true c2,cond_true,cond_false]
    have e2:a<b↔(hl a).2<(hl b).2:=by
     simp only[hl] at c1 c2 ⊢
     omega
    rw[Bool.eq_iff_iff,decide_eq_true_iff,decide_eq_true_iff]
    exact e2
   ·simp only[c1,c2,decide_false,cond_false]
    simp only[hl] at c1 c2
    exact decide_eq_false (by omega)
 rw[e]
 cases decide ((hl a).1<(hl b).1)<;>cases decide ((hl a).1=(hl b).1)<;>rfl
theorem addC_hl {m n:Nat}:addC (hl m).2 (hl n).2 0=(((m % 18446744073709551616+n % 18446744073709551616) / 18446744073709551616:Nat):Int):=by
 simp only[addC,hl,Int.toNat_natCast,Int.toNat_zero,Nat.add_zero]
 rfl
theorem subC_hl {m n:Nat}:subC (hl m).2 (hl n).2 0=(((if m % 18446744073709551616<n % 18446744073709551616 then 1 else 0:Nat):Nat):Int):=by
 simp only[subC,hl,Int.toNat_natCast,Int.toNat_zero,Nat.add_zero]
 cases h:Nat.blt (m % 18446744073709551616) (n % 18446744073709551616) with
 | true =>
  have h':m % 18446744073709551616<n % 18446744073709551616:=by simpa [Nat.blt_eq] using h
  rw[if_pos h'];rfl
 | false =>
  have h':¬ m % 18446744073709551616<n % 18446744073709551616:=by
   intro h2
   have:Nat.blt (m % 18446744073709551616) (n % 18446744073709551616)=true:=by simpa [Nat.blt_eq] using h2
   rw[this] at h;cases h
  rw[if_neg h'];rfl
theorem rPlus_ok {m n:Nat} (h:m+n<340282366920938463463374607431768211456):ratio_plus (hl m) (hl n)=some (hl (m+n)):=by
 simp only[ratio_plus,ratio_plus_b,addC_hl]
 have c1:decide ((0:Int)≤(0:Int))=true:=rfl
 have c2:decide ((0:Int)≤(1:Int))=true:=rfl
 rw[c1,c2,decide_eq_true (show (0:Int)≤(((m % 18446744073709551616+n % 18446744073709551616) / 18446744073709551616:Nat):Int) by omega),decide_eq_true (show (((m % 18446744073709551616+n % 18446744073709551616) / 18446744073709551616:Nat):Int)≤1 by omega)]
 simp only[Bool.and_self,cT,Option.some.injEq,addO,hl,Int.toNat_natCast,Int.toNat_zero,Nat.add_zero,Prod.mk.injEq]
 constructor
 ·show ((_:Nat):Int)=((_:Nat):Int)
  omega
 ·show ((_:Nat):Int)=((_:Nat):Int)
  omega
theorem rMinus_ok {m n:Nat} (h:n≤m) (hm:m<340282366920938463463374607431768211456):ratio_minus (hl m) (hl n)=some (hl (m - n)):=by
 simp only[ratio_minus,ratio_minus_b,subC_hl]
 have c1:decide ((0:Int)≤(0:Int))=true:=rfl
 have c2:decide ((0:Int)≤(1:Int))=true:=rfl
 have hb:(if m % 18446744073709551616<n % 18446744073709551616 then 1 else 0:Nat)≤1:=by split<;>omega
 have hc:(if m % 18446744073709551616<n % 18446744073709551616 then 1 else 0:Nat)=1∧m % 18446744073709551616<n % 18446744073709551616∨(if m % 18446744073709551616<n % 18446744073709551616 then 1 else 0:Nat)=0∧¬ m % 18446744073709551616<n % 18446744073709551616:=by split<;>simp_all
 generalize (if m % 18446744073709551616<n % 18446744073709551616 then 1 else 0:Nat)=c at *
 rw[c1,c2,decide_eq_true (show (0:Int)≤(c:Int) by omega),decide_eq_true (show (c:Int)≤1 by omega)]
 simp only[Bool.and_self,cT,Option.some.injEq,subO,hl,Int.toNat_natCast,Int.toNat_zero,Nat.sub_zero,Prod.mk.injEq]
 constructor
 ·show ((_:Nat):Int)=((_:Nat):Int)
  omega
 ·show ((_:Nat):Int)=((_:Nat):Int)
  omega
noncomputable def lenT (T:ByteArray) (a b:Int):Option Int :=
 bif decide (a≥(256:Int)) then bif decide ((0:Int)≤(8:Int)) then bif inB (IntKind.wrap .u8 (Int.fdiv a ((2:Int) ^ (8:Nat)))) (256:Nat) then
  some (IntKind.wrap .i64 (IntKind.wrap .i64 (b+(8:Int))+IntKind.wrap .i64 (byteAt T (Int.toNat (IntKind.wrap .u8 (Int.fdiv a ((2:Int) ^ (8:Nat)))))))) else none else none
 else bif inB (IntKind.wrap .u8 a) (256:Nat) then some (IntKind.wrap .i64 (b+IntKind.wrap .i64 (byteAt T (Int.toNat (IntKind.wrap .u8 a))))) else none
noncomputable def lenU (T:ByteArray) (a b:Int):Option Int:=bif decide (a≥(65536:Int)) then bif decide ((0:Int)≤(16:Int)) then lenT T (Int.fdiv a ((2:Int) ^ (16:Nat))) (IntKind.wrap .i64 (b+(16:Int))) else none else lenT T a b
theorem len_table:∃T:ByteArray,(∀i,i<256→0≤byteAt T i∧byteAt T i≤8∧(0<i→i<2 ^ (byteAt T i).toNat∧2 ^ (byteAt T i).toNat≤2*i)) ∧
  ∀x,bits_Len64 x=bif decide (x≥(4294967296:Int)) then bif decide ((0:Int)≤(32:Int)) then lenU T (Int.fdiv x ((2:Int) ^ (32:Nat))) 32 else none else lenU T x 0 :=
 ⟨_,by decide +kernel,fun _=>rfl⟩
def isLen (n L:Nat):Prop:=n<2 ^ L∧2 ^ L≤2*n
theorem isLen_shift {n k L:Nat} (h:isLen (n / 2 ^ k) L):isLen n (L+k):=by
 obtain ⟨h1,h2⟩:=h
 have hk:0<2 ^ k:=Nat.two_pow_pos k
 unfold isLen
 rw[Nat.pow_add]
 constructor
 ·exact (Nat.div_lt_iff_lt_mul hk).1 h1
 ·have h3:n / 2 ^ k*2 ^ k≤n:=Nat.div_mul_le_self n _
  have h4:=Nat.mul_le_mul_right (2 ^ k) h2
  rw[Nat.mul_assoc] at h4
  omega
theorem u8_wrap {x:Int} (h1:0≤x) (h2:x<256):IntKind.wrap .u8 x=x:=by
 rw[IntKind.wrap_u8];omega
theorem Len64_ok {n:Nat} (h0:0<n) (h1:n<18446744073709551616):∃L:Nat,bits_Len64 (n:Int)=some (L:Int)∧isLen n L∧L≤64:=by
 obtain ⟨T,hT,hx⟩:=len_table
 have tab:∀i:Nat,0<i→i<256→∃L:Nat,byteAt T i=L∧L≤8∧isLen i L:=fun i h2 h3=>by
  obtain ⟨a1,a2,a3⟩:=hT i h3
  exact ⟨(byteAt T i).toNat,by omega,by omega,a3 h2⟩
 have p8:(2:Int) ^ (8:Nat)=256:=by decide
 have p16:(2:Int) ^ (16:Nat)=65536:=by decide
 have p32:(2:Int) ^ (32:Nat)=4294967296:=by decide
 have stepT:∀a b:Nat,0<a→a<65536→b≤48→∃L:Nat,lenT T (a:Int) (b:Int)=some ((L+b:Nat):Int)∧isLen a L∧L≤16:=fun a b ha hb hb2=>by
  unfold lenT
  by_cases h:a<256
  ·obtain ⟨L,e1,e2,e3⟩:=tab a ha h
   rw[decide_eq_false (show ¬ (a:Int)≥256 by omega),cond_false,u8_wrap (by omega) (by omega),inB_of (by omega) (by omega),cond_true,Int.toNat_natCast,e1,wrap_id (x:=(L:Int)) (by omega) (by omega),wrap_id (by omega) (by omega)]
   exact ⟨L,by congr 1;omega,e3,by omega⟩
  ·obtain ⟨L,e1,e2,e3⟩:=tab (a / 256) (by omega) (by omega)
   rw[decide_eq_true (show (a:Int)≥256 by omega),cond_true,show decide ((0:Int)≤8)=true from rfl,cond_true,p8,fdiv_of (by omega),u8_wrap (by omega) (by omega),inB_of (by omega) (by omega),cond_true,show ((a:Int) / 256).toNat=a / 256 by omega,e1,wrap_id (x:=(L:Int)) (by omega) (by omega),wrap_id (x:=(b:Int)+8) (by omega) (by omega),wrap_id (by omega) (by omega)]
   exact ⟨L+8,by congr 1;omega,isLen_shift (k:=8) e3,by omega⟩
 have stepU:∀a b:Nat,0<a→a<4294967296→b≤32→∃L:Nat,lenU T (a:Int) (b:Int)=some ((L+b:Nat):Int)∧isLen a L∧L≤32:=fun a b ha hb hb2=>by
  unfold lenU
  by_cases h:a<65536
  ·obtain ⟨L,e1,e2,e3⟩:=stepT a b ha h (by omega)
   rw[decide_eq_false (show ¬ (a:Int)≥65536 by omega),cond_false,e1]
   exact ⟨L,rfl,e2,by omega⟩
  ·obtain ⟨L,e1,e2,e3⟩:=stepT (a / 65536) (b+16) (by omega) (by omega) (by omega)
   rw[decide_eq_true (show (a:Int)≥65536 by omega),cond_true,show decide ((0:Int)≤16)=true from rfl,cond_true,p16,fdiv_of (by omega),wrap_id (by omega) (by omega),show (a:Int) / 65536=((a / 65536:Nat):Int) by omega,show (b:Int)+16=((b+16:Nat):Int) by omega,e1]
   exact ⟨L+16,by congr 1;omega,isLen_shift (k:=16) e2,by omega⟩
 rw[hx]
 by_cases h:n<4294967296
 ·obtain ⟨L,e1,e2,e3⟩:=stepU n 0 h0 h (by omega)
  rw[decide_eq_false (show ¬ (n:Int)≥4294967296 by omega),cond_false]
  exact ⟨L,e1,e2,by omega⟩
 ·obtain ⟨L,e1,e2,e3⟩:=stepU (n / 4294967296) 32 (by omega) (by omega) (by omega)
  rw[decide_eq_true (show (n:Int)≥4294967296 by omega),cond_true,show decide ((0:Int)≤32)=true from rfl,cond_true,p32,fdiv_of (by omega),show (n:Int) / 4294967296=((n / 4294967296:Nat):Int) by omega]
  exact ⟨L+32,e1,isLen_shift (k:=32) e2,by omega⟩
end Go.Proofs.YtmoiiokmfanlgaaGreat

namespace Go.Proofs.YtmoiiokmfanlgaaGreat
open Tryz Dn Dn.Sh
theorem digit_stop {q r U u y1 y0:Int} (hq:q*y1+r=U) (_:0≤u) (hy:0<y1*4294967296+y0) (hge:(U*4294967296+u) / (y1*4294967296+y0)≤q) (ht:q*y0≤4294967296*r+u):q=(U*4294967296+u) / (y1*4294967296+y0):=by
 refine Int.le_antisymm (Int.le_ediv_of_mul_le hy ?_) hge
 rw[Int.mul_add,←Int.mul_assoc]
 omega
theorem digit_less {q r U u y1 y0:Int} (hq:q*y1+r=U) (hy:0<y1*4294967296+y0) (hU:U*4294967296+u<(y1*4294967296+y0)*4294967296) (ht:q≥4294967296∨q*y0>4294967296*r+u):(U*4294967296+u) / (y1*4294967296+y0)≤q - 1:=by
 have:(U*4294967296+u) / (y1*4294967296+y0)<q:=by
  refine Int.ediv_lt_of_lt_mul hy ?_
  rcases ht with ht | ht
  ·exact Int.lt_of_lt_of_le hU (by rw[Int.mul_comm q];exact Int.mul_le_mul_of_nonneg_left ht (by omega))
  ·rw[Int.mul_add,←Int.mul_assoc]
   omega
 omega
theorem digit_end {q r U u y1 y0:Int} (hq:q*y1+r=U) (hu:0≤u) (hy:0<y1*4294967296+y0) (h0:0≤y0∧y0<4294967296) (hge:(U*4294967296+u) / (y1*4294967296+y0)≤q - 1) (hr:r+y1≥4294967296) (hq2:1≤q∧q≤4294967297):q - 1=(U*4294967296+u) / (y1*4294967296+y0):=by
 refine Int.le_antisymm (Int.le_ediv_of_mul_le hy ?_) hge
 have e1:(q - 1)*y0≤4294967296*4294967295:=Int.mul_le_mul (by omega) (by omega) h0.1 (by omega)
 rw[Int.mul_add,←Int.mul_assoc,Int.sub_mul q 1 y1,Int.one_mul]
 omega
theorem lor_add {s:Nat} {a b:Nat} (h:b<2 ^ s):Nat.lor (a*2 ^ s) b=a*2 ^ s+b:=by
 have:=Nat.two_pow_add_eq_or_of_lt h a
 rw[Nat.mul_comm a]
 exact this.symm
theorem digit_loop {α R:Type} {F:(α→Option R)→α→Option R} {J:Int→Option R} {U u y1 y0:Int} (enc:Int→Int→α) (dec:α→Int) (hdec:∀q r,dec (enc q r)=q)
  (hu:0≤u) (h0:0≤y0∧y0<4294967296) (h1:2147483648≤y1∧y1<4294967296) (hU0:0≤U) (hU:U*4294967296+u<(y1*4294967296+y0)*4294967296)
  (hF1:∀again q r,1≤q→q≤4294967297→0≤r→r<4294967296→(q≥4294967296∨q*y0>4294967296*r+u)→F again (enc q r)=bif decide (r+y1≥4294967296) then J (q - 1) else again (enc (q - 1) (r+y1)))
  (hF2:∀again q r,0≤q→q<4294967296→0≤r→r<4294967296→¬ q*y0>4294967296*r+u→F again (enc q r)=J q)
  {q r:Int} (hq:q*y1+r=U) (hq0:0≤q) (hq2:q≤4294967297) (hr0:0≤r) (hr1:r<4294967296) (hge:(U*4294967296+u) / (y1*4294967296+y0)≤q) :
  lpK α R F (enc q r)=J ((U*4294967296+u) / (y1*4294967296+y0)):=by
 have hD:0≤(U*4294967296+u) / (y1*4294967296+y0):=Int.ediv_nonneg (by omega) (by omega)
 refine lpK_loop (g:=fun _=>J ((U*4294967296+u) / (y1*4294967296+y0))) (I:=fun x=>∃q r,x=enc q r∧q*y1+r=U∧0≤q∧q≤4294967297∧0≤r∧r<4294967296∧(U*4294967296+u) / (y1*4294967296+y0)≤q) (μ:=fun x=>(dec x).toNat) ?_ ⟨q,r,rfl,hq,hq0,hq2,hr0,hr1,hge⟩ (by rw[hdec];omega)
 rintro _ rec ⟨q,r,rfl,hq,hq0,hq2,hr0,hr1,hge⟩ hrec
 have hy:0<y1*4294967296+y0:=by omega
 by_cases ht:q≥4294967296∨q*y0>4294967296*r+u
 ·have hl:=digit_less hq hy hU ht
  rw[hF1 _ _ _ (by omega) hq2 hr0 hr1 ht]
  by_cases hr:r+y1≥4294967296
  ·rw[decide_eq_true hr,cond_true,digit_end hq hu hy h0 hl hr ⟨by omega,hq2⟩]
  ·rw[decide_eq_false hr,cond_false]
   refine hrec _ ⟨q - 1,r+y1,rfl,?_,by omega,by omega,by omega,by omega,hl⟩ (by rw[hdec,hdec];omega)
   rw[Int.sub_mul,Int.one_mul];omega
 ·rw[not_or] at ht
  rw[hF2 _ _ _ hq0 (by omega) hr0 hr1 ht.2,←digit_stop hq hu hy hge (by omega)]
theorem digit_init {U u y1 y0:Int} (hu:0≤u∧u<4294967296) (h0:0≤y0∧y0<4294967296) (h1:2147483648≤y1∧y1<4294967296) (hU0:0≤U) (hU:U<y1*4294967296+y0) :
  (U / y1)*y1+(U - U / y1*y1)=U∧0≤U / y1∧U / y1≤4294967297∧0≤U - U / y1*y1∧U - U / y1*y1<4294967296∧(U*4294967296+u) / (y1*4294967296+y0)≤U / y1:=by
 have e1:=Int.mul_ediv_add_emod U y1
 have e2:=Int.emod_nonneg U (show y1≠0 by omega)
 have e3:=Int.emod_lt_of_pos U (show 0<y1 by omega)
 rw[Int.mul_comm] at e1
 refine ⟨by omega,Int.ediv_nonneg hU0 (by omega),?_,by omega,by omega,?_⟩
 ·have:U / y1<4294967298:=Int.ediv_lt_of_lt_mul (by omega) (by omega)
  omega
 ·have:(U*4294967296+u) / (y1*4294967296+y0)<U / y1+1:=by
   refine Int.ediv_lt_of_lt_mul (by omega) ?_
   have hq:0≤U / y1:=Int.ediv_nonneg hU0 (by omega)
   have e4:0≤(U / y1+1)*y0:=Int.mul_nonneg (by omega) h0.1
   rw[Int.mul_add,←Int.mul_assoc,Int.add_mul (U / y1) 1 y1,Int.one_mul]
   omega
  omega
noncomputable def dv2E (_ _ Y u0 P q1 un:Int) (q:Int):Option (Int×Int×Unit):=some (IntKind.wrap .u64 (IntKind.wrap .u64 (q1*4294967296)+q),Int.fdiv (IntKind.wrap .u64 (IntKind.wrap .u64 (IntKind.wrap .u64 (un*4294967296)+u0) - IntKind.wrap .u64 (q*Y))) P,())
noncomputable def dv2 (y1 y0 Y u0 P q1 un:Int):Option (Int×Int×Unit):=lpK (Int×Int×PUnit) (Int×Int×PUnit) (fun again x=>bif (bif decide (x.2.1≥4294967296) then true else decide (IntKind.wrap .u64 (x.2.1*y0)>IntKind.wrap .u64 (IntKind.wrap .u64 (4294967296*x.1)+u0))) then
 (bif decide (IntKind.wrap .u64 (x.1+y1)≥4294967296) then dv2E y1 y0 Y u0 P q1 un (IntKind.wrap .u64 (x.2.1 - 1)) else again (IntKind.wrap .u64 (x.1+y1),IntKind.wrap .u64 (x.2.1 - 1),PUnit.unit)) else dv2E y1 y0 Y u0 P q1 un x.2.1)
 (IntKind.wrap .u64 (un - IntKind.wrap .u64 (IntKind.wrap .u64 (Int.tdiv un y1)*y1)),IntKind.wrap .u64 (Int.tdiv un y1),PUnit.unit)
theorem dv2_ok {y1 y0 u0 P q1 un:Int} (hu:0≤u0∧u0<4294967296) (h0:0≤y0∧y0<4294967296) (h1:2147483648≤y1∧y1<4294967296) (hU0:0≤un) (hU:un<y1*4294967296+y0) :
  dv2 y1 y0 (y1*4294967296+y0) u0 P q1 un=dv2E y1 y0 (y1*4294967296+y0) u0 P q1 un ((un*4294967296+u0) / (y1*4294967296+y0)):=by
 obtain ⟨i1,i2,i3,i4,i5,i6⟩:=digit_init (U:=un) hu h0 h1 hU0 hU
 unfold dv2
 rw[Int.tdiv_eq_ediv_of_nonneg hU0]
 have hm:un / y1*y1≤un:=by omega
 have hm0:0≤un / y1*y1:=Int.mul_nonneg i2 (by omega)
 rw[u_wrap (x:=un / y1) i2 (by omega),u_wrap (x:=un / y1*y1) hm0 (by omega),u_wrap (x:=un - un / y1*y1) (by omega) (by omega)]
 refine digit_loop (α:=Int×Int×PUnit) (enc:=fun q r=>(r,q,PUnit.unit)) (dec:=fun x=>x.2.1) (fun _ _=>rfl) hu.1 h0 h1 hU0 (by omega) ?_ ?_ i1 i2 i3 i4 i5 i6
 ·intro again q r g1 g2 g3 g4 g5
  have e1:0≤q*y0:=Int.mul_nonneg (by omega) h0.1
  have e2:q*y0≤4294967297*4294967295:=Int.mul_le_mul g2 (by omega) h0.1 (by omega)
  simp only
  rw[u_wrap (x:=q*y0) e1 (by omega),u_wrap (x:=4294967296*r) (by omega) (by omega),u_wrap (x:=4294967296*r+u0) (by omega) (by omega),u_wrap (x:=r+y1) (by omega) (by omega),u_wrap (x:=q - 1) (by omega) (by omega)]
  have e:(bif decide (q≥4294967296) then true else decide (q*y0>4294967296*r+u0))=true:=by
   rcases g5 with ht | ht
   ·rw[decide_eq_true ht];rfl
   ·rw[decide_eq_true ht];cases decide (q≥4294967296)<;>rfl
  rw[e,cT]
 ·intro again q r g1 g2 g3 g4 g5
  have e1:0≤q*y0:=Int.mul_nonneg (by omega) h0.1
  have e2:q*y0≤4294967297*4294967295:=Int.mul_le_mul (by omega) (by omega) h0.1 (by omega)
  simp only
  rw[u_wrap (x:=q*y0) e1 (by omega),u_wrap (x:=4294967296*r) (by omega) (by omega),u_wrap (x:=4294967296*r+u0) (by omega) (by omega)]
  rw[decide_eq_false (show ¬ q≥4294967296 by omega),decide_eq_false g5,cF,cF]
noncomputable def dv1E (y1 y0 Y u1 u0 P U:Int) (q1:Int):Option (Int×Int×Unit):=dv2 y1 y0 Y u0 P q1 (IntKind.wrap .u64 (IntKind.wrap .u64 (IntKind.wrap .u64 (U*4294967296)+u1) - IntKind.wrap .u64 (q1*Y)))
noncomputable def dv1 (y1 y0 Y u1 u0 P U:Int):Option (Int×Int×Unit):=lpK (Int×Int×PUnit) (Int×Int×PUnit) (fun again x=>bif (bif decide (x.1≥4294967296) then true else decide (IntKind.wrap .u64 (x.1*y0)>IntKind.wrap .u64 (IntKind.wrap .u64 (4294967296*x.2.1)+u1))) then
 (bif decide (IntKind.wrap .u64 (x.2.1+y1)≥4294967296) then dv1E y1 y0 Y u1 u0 P U (IntKind.wrap .u64 (x.1 - 1)) else again (IntKind.wrap .u64 (x.1 - 1),IntKind.wrap .u64 (x.2.1+y1),PUnit.unit)) else dv1E y1 y0 Y u1 u0 P U x.1)
 (IntKind.wrap .u64 (Int.tdiv U y1),IntKind.wrap .u64 (U - IntKind.wrap .u64 (IntKind.wrap .u64 (Int.tdiv U y1)*y1)),PUnit.unit)
theorem dv1_ok {y1 y0 u1 u0 P U:Int} (hu:0≤u1∧u1<4294967296) (h0:0≤y0∧y0<4294967296) (h1:2147483648≤y1∧y1<4294967296) (hU0:0≤U) (hU:U<y1*4294967296+y0) :
  dv1 y1 y0 (y1*4294967296+y0) u1 u0 P U=dv1E y1 y0 (y1*4294967296+y0) u1 u0 P U ((U*4294967296+u1) / (y1*4294967296+y0)):=by
 obtain ⟨i1,i2,i3,i4,i5,i6⟩:=digit_init (U:=U) hu h0 h1 hU0 hU
 unfold dv1
 rw[Int.tdiv_eq_ediv_of_nonneg hU0]
 have hm:U / y1*y1≤U:=by omega
 have hm0:0≤U / y1*y1:=Int.mul_nonneg i2 (by omega)
 rw[u_wrap (x:=U / y1) i2 (by omega),u_wrap (x:=U / y1*y1) hm0 (by omega),u_wrap (x:=U - U / y1*y1) (by omega) (by omega)]
 refine digit_loop (α:=Int×Int×PUnit) (enc:=fun q r=>(q,r,PUnit.unit)) (dec:=fun x=>x.1) (fun _ _=>rfl) hu.1 h0 h1 hU0 (by omega) ?_ ?_ i1 i2 i3 i4 i5 i6
 ·intro again q r g1 g2 g3 g4 g5
  have e1:0≤q*y0:=Int.mul_nonneg (by omega) h0.1
  have e2:q*y0≤4294967297*4294967295:=Int.mul_le_mul g2 (by omega) h0.1 (by omega)
  simp only
  rw[u_wrap (x:=q*y0) e1 (by omega),u_wrap (x:=4294967296*r) (by omega) (by omega),u_wrap (x:=4294967296*r+u1) (by omega) (by omega),u_wrap (x:=r+y1) (by omega) (by omega),u_wrap (x:=q - 1) (by omega) (by omega)]
  have e:(bif decide (q≥4294967296) then true else decide (q*y0>4294967296*r+u1))=true:=by
   rcases g5 with ht | ht
   ·rw[decide_eq_true ht];rfl
   ·rw[decide_eq_true ht];cases decide (q≥4294967296)<;>rfl
  rw[e,cT]
 ·intro again q r g1 g2 g3 g4 g5
  have e1:0≤q*y0:=Int.mul_nonneg (by omega) h0.1
  have e2:q*y0≤4294967297*4294967295:=Int.mul_le_mul (by omega) (by omega) h0.1 (by omega)
  simp only
  rw[u_wrap (x:=q*y0) e1 (by omega),u_wrap (x:=4294967296*r) (by omega) (by omega),u_wrap (x:=4294967296*r+u1) (by omega) (by omega)]
  rw[decide_eq_false (show ¬ q≥4294967296 by omega),decide_eq_false g5,cF,cF]
theorem dv_ok {U W Y P:Nat} (hY:9223372036854775808≤Y) (hY2:Y<18446744073709551616) (hW:W<18446744073709551616) (hU:U<Y) :
  dv1 ((Y:Int) / 4294967296) ((Y:Int) % 4294967296) (Y:Int) ((W:Int) / 4294967296) ((W:Int) % 4294967296) (P:Int) (U:Int)=some ((((U*18446744073709551616+W) / Y:Nat):Int),(((U*18446744073709551616+W) % Y / P:Nat):Int),()):=by
 have eY:(Y:Int) / 4294967296*4294967296+(Y:Int) % 4294967296=Y:=by omega
 have h1:=dv1_ok (y1:=(Y:Int) / 4294967296) (y0:=(Y:Int) % 4294967296) (u1:=(W:Int) / 4294967296) (u0:=(W:Int) % 4294967296) (P:=(P:Int)) (U:=(U:Int)) (by omega) (by omega) (by omega) (by omega) (by omega)
 rw[eY] at h1
 rw[h1]
 unfold dv1E
 obtain ⟨A,hA⟩:∃A:Nat,A=U*4294967296+W / 4294967296:=⟨_,rfl⟩
 have hAi:(U:Int)*4294967296+(W:Int) / 4294967296=(A:Int):=by omega
 rw[hAi]
 have hq1:A / Y<4294967296:=(Nat.div_lt_iff_lt_mul (by omega)).2 (by omega)
 have d1:=Nat.div_add_mod A Y
 have d2:=Nat.mod_lt A (show Y>0 by omega)
 rw[show (A:Int) / (Y:Int)=((A / Y:Nat):Int) from rfl]
 have hun:IntKind.wrap .u64 (IntKind.wrap .u64 (IntKind.wrap .u64 ((U:Int)*4294967296)+(W:Int) / 4294967296) - IntKind.wrap .u64 (((A / Y:Nat):Int)*(Y:Int)))=((A % Y:Nat):Int):=by
  rw[←Int.natCast_mul,Nat.mul_comm (A / Y)]
  generalize A / Y=q1 at *
  generalize Y*q1=m at *
  rw[IntKind.wrap_u64,IntKind.wrap_u64,IntKind.wrap_u64,IntKind.wrap_u64]
  omega
 rw[hun]
 have h2:=dv2_ok (y1:=(Y:Int) / 4294967296) (y0:=(Y:Int) % 4294967296) (u0:=(W:Int) % 4294967296) (P:=(P:Int)) (q1:=((A / Y:Nat):Int)) (un:=((A % Y:Nat):Int)) (by omega) (by omega) (by omega) (by omega) (by omega)
 rw[eY] at h2
 rw[h2]
 unfold dv2E
 obtain ⟨B,hB⟩:∃B:Nat,B=A % Y*4294967296+W % 4294967296:=⟨_,rfl⟩
 have hBi:((A % Y:Nat):Int)*4294967296+(W:Int) % 4294967296=(B:Int):=by omega
 rw[hBi,show (B:Int) / (Y:Int)=((B / Y:Nat):Int) from rfl]
 have hq0:B / Y<4294967296:=(Nat.div_lt_iff_lt_mul (by omega)).2 (by omega)
 have d3:=Nat.div_add_mod B Y
 have d4:=Nat.mod_lt B (show Y>0 by omega)
 have hN:U*18446744073709551616+W=(A / Y*4294967296+B / Y)*Y+B % Y:=by
  rw[Nat.add_mul,Nat.mul_right_comm,Nat.mul_comm (A / Y),Nat.mul_comm (B / Y)]
  omega
 obtain ⟨n1,n2⟩:=divMod_of d4 hN
 rw[n1,n2]
 have hrest:IntKind.wrap .u64 (IntKind.wrap .u64 (IntKind.wrap .u64 (((A % Y:Nat):Int)*4294967296)+(W:Int) % 4294967296) - IntKind.wrap .u64 (((B / Y:Nat):Int)*(Y:Int)))=((B % Y:Nat):Int):=by
  rw[←Int.natCast_mul,Nat.mul_comm (B / Y)]
  generalize B / Y=q0 at *
  generalize Y*q0=m at *
  generalize A % Y=r1 at *
  rw[IntKind.wrap_u64,IntKind.wrap_u64,IntKind.wrap_u64,IntKind.wrap_u64]
  omega
 rw[hrest,fdiv_of (by omega)]
 generalize A / Y=q1 at *
 generalize B / Y=q0 at *
 rw[u_wrap (x:=(q1:Int)*4294967296) (by omega) (by omega),u_wrap (by omega) (by omega)]
 rfl
theorem tmod_nat (m n:Nat):Int.tmod (m:Int) (n:Int)=((m % n:Nat):Int):=by
 rw[Int.tmod_eq_emod_of_nonneg (by omega)]
 rfl
theorem jnT {α R:Type} (j:α→Option R) (f:(α→Option R)→Option R):jnK α R j f=f j:=Eq.trans rfl rfl
theorem Div64_ok {h l y:Nat} (hy:h<y) (hy2:y<18446744073709551616) (hl0:l<18446744073709551616):bits_Div64 (h:Int) (l:Int) (y:Int)=some ((((h*18446744073709551616+l) / y:Nat):Int),(((h*18446744073709551616+l) % y:Nat):Int),()):=by
 simp only[bits_Div64,bits_Div64_b,jnT]
 rw[decide_eq_false (show ¬ (y:Int)=0 by omega),cF,decide_eq_false (show ¬ (y:Int)≤(h:Int) by omega),cF]
 have hz:nzB (y:Int)=true:=nzB_of (by omega)
 by_cases h0:h=0
 ·subst h0
  rw[decide_eq_true (show ((0:Nat):Int)=0 from rfl),cT,hz,cT,cT,tdiv_nat,tmod_nat,Nat.zero_mul,Nat.zero_add]
  have:=Nat.div_le_self l y
  generalize l / y=d at *
  rw[u_wrap (by omega) (by omega)]
 ·rw[decide_eq_false (show ¬ (h:Int)=0 by omega),cF]
  obtain ⟨L,e1,⟨e2,e3⟩,e4⟩:=Len64_ok (n:=y) (by omega) hy2
  simp only[bits_LeadingZeros64,bits_LeadingZeros64_b,e1,obind_some']
  rw[wrap_id (x:=64 - (L:Int)) (by omega) (by omega)]
  obtain ⟨s,hs⟩:∃s:Nat,L+s=64:=⟨64 - L,by omega⟩
  have w1:IntKind.wrap .u64 (64 - (L:Int))=(s:Int):=by rw[u_wrap (by omega) (by omega)];omega
  have w2:IntKind.wrap .u64 (64 - (s:Int))=(L:Int):=by rw[u_wrap (by omega) (by omega)];omega
  have p2:∀k:Nat,(2:Int) ^ k=((2 ^ k:Nat):Int):=fun k=>by rw[Int.natCast_pow];rfl
  have p32:(2:Int) ^ (32:Nat)=4294967296:=by decide
  simp only[w1,w2,Int.toNat_natCast,Nat.min_eq_left (show s≤64 by omega),Nat.min_eq_left (show L≤64 by omega),p32]
  simp only[p2]
  have hPQ:2 ^ s*2 ^ L=18446744073709551616:=by rw[←Nat.pow_add,show s+L=64 by omega]
  have hP:0<2 ^ s:=Nat.two_pow_pos s
  have hQ:0<2 ^ L:=Nat.two_pow_pos L
  have hYlt:y*2 ^ s<18446744073709551616:=by rw[←hPQ,Nat.mul_comm (2 ^ s)];exact Nat.mul_lt_mul_of_pos_right e2 hP
  have hYge:9223372036854775808≤y*2 ^ s:=by
   have:=Nat.mul_le_mul_right (2 ^ s) e3
   rw[Nat.mul_comm (2 ^ L),hPQ,Nat.mul_assoc] at this
   omega
  have hhP:h*2 ^ s+2 ^ s≤y*2 ^ s:=by rw[←Nat.succ_mul];exact Nat.mul_le_mul_right _ hy
  have hlQ:l / 2 ^ L<2 ^ s:=by rw[Nat.div_lt_iff_lt_mul hQ,hPQ];exact hl0
  have hlor:IntKind.wrap .u64 ((Nat.lor (Int.toNat (IntKind.wrap .u64 ((h:Int)*((2 ^ s:Nat):Int)) % Int.ofNat 18446744073709551616)) (Int.toNat (Int.fdiv (l:Int) ((2 ^ L:Nat):Int) % Int.ofNat 18446744073709551616)):Nat):Int)=((h*2 ^ s+l / 2 ^ L:Nat):Int):=by
   have a1:IntKind.wrap .u64 ((h:Int)*((2 ^ s:Nat):Int))=((h*2 ^ s:Nat):Int):=by rw[←Int.natCast_mul,u_wrap (by omega) (by omega)]
   have a2:Int.fdiv (l:Int) ((2 ^ L:Nat):Int)=((l / 2 ^ L:Nat):Int):=by rw[fdiv_of (by omega)];rfl
   have a3:∀n:Nat,n<18446744073709551616→Int.toNat ((n:Int) % Int.ofNat 18446744073709551616)=n:=fun n hn=>by
    rw[show Int.ofNat 18446744073709551616=(18446744073709551616:Int) from rfl];omega
   rw[a1,a2,a3 (h*2 ^ s) (by omega),a3 (l / 2 ^ L) (by omega),lor_add hlQ]
   exact u_wrap (Int.natCast_nonneg _) (by
    have h5:h*2 ^ s+l / 2 ^ L<18446744073709551616:=by omega
    exact Int.ofNat_lt.2 h5)
  have hlo:IntKind.wrap .u64 ((l:Int)*((2 ^ s:Nat):Int))=((l % 2 ^ L*2 ^ s:Nat):Int):=by
   rw[←Int.natCast_mul,IntKind.wrap_u64]
   have a1:l*2 ^ s=(l / 2 ^ L)*18446744073709551616+l % 2 ^ L*2 ^ s:=by
    rw[←hPQ,Nat.mul_comm (2 ^ s),←Nat.mul_assoc,←Nat.add_mul,Nat.mul_comm (l / 2 ^ L),Nat.div_add_mod]
   have a2:l % 2 ^ L*2 ^ s<18446744073709551616:=by rw[←hPQ,Nat.mul_comm (2 ^ s)];exact Nat.mul_lt_mul_of_pos_right (Nat.mod_lt _ hQ) hP
   rw[a1]
   generalize l / 2 ^ L=A at *
   generalize l % 2 ^ L*2 ^ s=B at *
   omega
  have hlolt:l % 2 ^ L*2 ^ s<18446744073709551616:=by rw[←hPQ,Nat.mul_comm (2 ^ s)];exact Nat.mul_lt_mul_of_pos_right (Nat.mod_lt _ hQ) hP
  have hN:(h*18446744073709551616+l)*2 ^ s=(h*2 ^ s+l / 2 ^ L)*18446744073709551616+l % 2 ^ L*2 ^ s:=by
   have a1:l*2 ^ s=(l / 2 ^ L)*18446744073709551616+l % 2 ^ L*2 ^ s:=by
    rw[←hPQ,Nat.mul_comm (2 ^ s),←Nat.mul_assoc,←Nat.add_mul,Nat.mul_comm (l / 2 ^ L),Nat.div_add_mod]
   rw[Nat.add_mul,a1,Nat.add_mul,Nat.mul_right_comm]
   omega
  have hY:IntKind.wrap .u64 ((y:Int)*((2 ^ s:Nat):Int))=((y*2 ^ s:Nat):Int):=by rw[←Int.natCast_mul,u_wrap (by omega) (by omega)]
  have hdiv:(h*18446744073709551616+l) / y=((h*2 ^ s+l / 2 ^ L)*18446744073709551616+l % 2 ^ L*2 ^ s) / (y*2 ^ s):=by rw[←hN,Nat.mul_div_mul_right _ _ hP]
  have hmod:((h*18446744073709551616+l) % y)*2 ^ s=((h*2 ^ s+l / 2 ^ L)*18446744073709551616+l % 2 ^ L*2 ^ s) % (y*2 ^ s):=by rw[←hN,Nat.mul_mod_mul_right]
  rw[hlor,hlo,hY]
  have hU:h*2 ^ s+l / 2 ^ L<y*2 ^ s:=by omega
  have hm:(h*18446744073709551616+l) % y=((h*2 ^ s+l / 2 ^ L)*18446744073709551616+l % 2 ^ L*2 ^ s) % (y*2 ^ s) / 2 ^ s:=by rw[←hmod,Nat.mul_div_cancel _ hP]
  rw[hdiv,hm]
  generalize h*2 ^ s+l / 2 ^ L=U at *
  generalize l % 2 ^ L*2 ^ s=W at *
  generalize y*2 ^ s=Y at *
  generalize 2 ^ s=P at *
  clear e2 e3 e1 hlor hlo hN hdiv hmod hm hlQ hPQ hhP hY
  have hdv:=dv_ok (P:=P) hYge hYlt hlolt hU
  rw[←hdv]
  have c1:decide ((0:Int)≤(s:Int))=true:=decide_eq_true (by omega)
  have c2:decide ((0:Int)≤(L:Int))=true:=decide_eq_true (by omega)
  have c3:decide ((0:Int)≤(32:Int))=true:=rfl
  have c4:nzB ((Y:Int) / 4294967296)=true:=nzB_of (by omega)
  have m1:∀n:Nat,n<18446744073709551616→IntKind.wrap .u64 ((Nat.land (Int.toNat ((n:Int) % Int.ofNat 18446744073709551616)) (Int.toNat ((4294967295:Int) % Int.ofNat 18446744073709551616)):Nat):Int)=(n:Int) % 4294967296:=fun n hn=>by
   rw[land32 (by omega) (by omega),u_wrap (by omega) (by omega)]
  simp only[fdiv_of (show (0:Int)≤4294967296 by omega),c1,c2,c3,c4,m1 Y hYlt,m1 W hlolt,or_self_not,Bool.not_not,Bool.and_self,cT]
  rfl
end Go.Proofs.YtmoiiokmfanlgaaGreat

namespace Go.Proofs.YtmoiiokmfanlgaaGreat
open Tryz Dn Dn.Sh
theorem over_ok {n b:Nat} (hb0:0<b) (hb:b<18446744073709551616) (hn:n<340282366920938463463374607431768211456):ratio_over (hl n) (b:Int)=some (hl (n / b),((n % b:Nat):Int),()):=by
 have hz:nzB (b:Int)=true:=nzB_of (by omega)
 obtain ⟨h,l,hh,hl',hnn⟩:∃h l:Nat,h=n / 18446744073709551616∧l=n % 18446744073709551616∧n=h*18446744073709551616+l:=⟨_,_,rfl,rfl,by omega⟩
 have e:hl n=((h:Int),(l:Int)):=by unfold hl;rw[hh,hl']
 rw[e]
 simp only[ratio_over,ratio_over_b]
 rw[hz,tmod_nat,Div64_ok (Nat.mod_lt h hb0) hb (by omega),obind_some']
 have d1:=Nat.div_add_mod h b
 have d2:=Nat.mod_lt h hb0
 obtain ⟨A,hA⟩:∃A,A=h % b*18446744073709551616+l:=⟨_,rfl⟩
 rw[←hA]
 have d3:=Nat.div_add_mod A b
 have d4:=Nat.mod_lt A hb0
 have d5:A / b<18446744073709551616:=(Nat.div_lt_iff_lt_mul hb0).2 (by
  have:(h % b+1)*18446744073709551616≤b*18446744073709551616:=Nat.mul_le_mul_right _ d2
  rw[Nat.mul_comm 18446744073709551616 b]
  omega)
 have hN:n=(h / b*18446744073709551616+A / b)*b+A % b:=by
  have e1:(h / b*18446744073709551616+A / b)*b=b*(h / b)*18446744073709551616+b*(A / b):=by grind
  rw[e1,hnn]
  generalize b*(h / b)=x at *
  generalize b*(A / b)=y at *
  generalize A % b=r at *
  generalize h % b=r1 at *
  clear e hz hb0 hb hn hh hl' hnn d5 e1
  omega
 obtain ⟨n1,n2⟩:=divMod_of d4 hN
 rw[n1,n2,tdiv_nat]
 have d6:h / b<18446744073709551616:=Nat.lt_of_le_of_lt (Nat.div_le_self h b) (by omega)
 generalize h / b=x at *
 generalize A / b=y at *
 rw[u_wrap (x:=(x:Int)) (by omega) (by omega)]
 unfold hl
 rw[show (x*18446744073709551616+y) / 18446744073709551616=x by omega,show (x*18446744073709551616+y) % 18446744073709551616=y by omega]
 rfl
theorem sum_cop {na nb:Int} {da A B:Nat} (ha:Nat.gcd na.natAbs da=1) (hA:A∣da) (hAB:Nat.gcd A B=1):Nat.gcd (na*B+nb*A).natAbs A=1:=by
 have d1:=Nat.gcd_dvd_left (na*B+nb*A).natAbs A
 have d2:=Nat.gcd_dvd_right (na*B+nb*A).natAbs A
 generalize Nat.gcd (na*B+nb*A).natAbs A=d at *
 have e1:(d:Int)∣na*B+nb*A:=Int.ofNat_dvd_left.2 d1
 have e2:(d:Int)∣nb*A:=Int.dvd_mul_of_dvd_right (Int.ofNat_dvd.2 d2)
 have e3:(d:Int)∣na*B:=(Int.dvd_iff_dvd_of_dvd_add e1).2 e2
 have e4:d∣na.natAbs*B:=by
  have:=Int.ofNat_dvd_left.1 e3
  rwa [Int.natAbs_mul,Int.natAbs_natCast] at this
 have e5:Nat.Coprime d na.natAbs:=(Nat.Coprime.coprime_dvd_right (Nat.dvd_trans d2 hA) ha).symm
 have e6:d∣B:=Nat.Coprime.dvd_of_dvd_mul_left e5 e4
 have e7:=Nat.dvd_gcd d2 e6
 rw[hAB] at e7
 exact Nat.dvd_one.1 e7
theorem sum_plain {na nb:Int} {da db g A B:Nat} (ha:Nat.gcd na.natAbs da=1) (hb:Nat.gcd nb.natAbs db=1) (h1:da=A*g) (h2:db=B*g) (hAB:Nat.gcd A B=1) (hg:0<g) (hA:0<A) (hB:0<B) {c:Nat} (hc:c=Nat.gcd g (na*B+nb*A).natAbs) :
  mkRat na da+mkRat nb db=mkRat (na*B+nb*A) (A*db)∧Nat.gcd ((na*B+nb*A).natAbs / c) (A*(db / c))=1∧0<c∧c∣(na*B+nb*A).natAbs∧c∣db:=by
 have hc0:0<c:=by rw[hc];exact Nat.gcd_pos_of_pos_left _ hg
 have k1:Nat.gcd (na*B+nb*A).natAbs A=1:=sum_cop ha ⟨g,h1⟩ hAB
 have k2:Nat.gcd (na*B+nb*A).natAbs B=1:=by
  rw[Int.add_comm]
  exact sum_cop hb ⟨g,h2⟩ (by rw[Nat.gcd_comm];exact hAB)
 have c1:c∣(na*B+nb*A).natAbs:=by rw[hc];exact Nat.gcd_dvd_right _ _
 have c2:c∣g:=by rw[hc];exact Nat.gcd_dvd_left _ _
 refine ⟨?_,?_,hc0,c1,by rw[h2];exact Nat.dvd_trans c2 (Nat.dvd_mul_left g B)⟩
 ·have p1:0<A*g:=Nat.mul_pos hA hg
  have p2:0<B*g:=Nat.mul_pos hB hg
  have p3:0<A*(B*g):=Nat.mul_pos hA p2
  rw[Rat.mkRat_add_mkRat _ _ (by omega) (by omega),h1,h2,Rat.mkRat_eq_iff (Nat.ne_of_gt (Nat.mul_pos p1 p2)) (by omega)]
  simp only[Int.natCast_mul]
  grind
 ·have c3:Nat.gcd ((na*B+nb*A).natAbs / c) (g / c)=1:=by
   rw[hc,Nat.gcd_comm]
   exact Nat.gcd_div_gcd_div_gcd_of_pos_left hg
  have hdb:db / c=B*(g / c):=by rw[h2,Nat.mul_div_assoc _ c2]
  have dv:(na*B+nb*A).natAbs / c∣(na*B+nb*A).natAbs:=Nat.div_dvd_of_dvd c1
  rw[hdb]
  exact Nat.Coprime.mul_right (Nat.Coprime.coprime_dvd_left dv k1) (Nat.Coprime.mul_right (Nat.Coprime.coprime_dvd_left dv k2) c3)
theorem Add_ok {a b:Fq} (ha:okF a) (hb:okF b):ratio_Add a b=some (fitQ (qv a+qv b)):=by
 obtain ⟨na,da'⟩:=a
 obtain ⟨nb,db'⟩:=b
 have ha':=ha
 have hb':=hb
 unfold okF at ha' hb'
 simp only at ha' hb'
 obtain ⟨⟨a1,a2⟩,⟨a3,a4⟩,a5⟩:=ha'
 obtain ⟨⟨b1,b2⟩,⟨b3,b4⟩,b5⟩:=hb'
 obtain ⟨da,rfl⟩:∃da:Nat,da'=da:=⟨da'.toNat,by omega⟩
 obtain ⟨db,rfl⟩:∃db:Nat,db'=db:=⟨db'.toNat,by omega⟩
 rw[Int.natAbs_natCast] at a5 b5
 simp only[ratio_Add,ratio_Add_b,Valid_ok,decide_eq_true ha,decide_eq_true hb,obind_some',Bool.not_true,Bool.not_false,Bool.or_true,cT,cF,jnT]
 rw[u_wrap (x:=(da:Int)) (by omega) (by omega),u_wrap (x:=(db:Int)) (by omega) (by omega),gcd_ok _ _ (by omega),obind_some',size_ok (by omega) (by omega),obind_some',size_ok (by omega) (by omega)]
 have hg:0<Nat.gcd da db:=Nat.gcd_pos_of_pos_left _ (by omega)
 have hgl:Nat.gcd da db≤da:=Nat.gcd_le_left _ (by omega)
 obtain ⟨A,hA⟩:∃A,A=da / Nat.gcd da db:=⟨_,rfl⟩
 obtain ⟨B,hB⟩:∃B,B=db / Nat.gcd da db:=⟨_,rfl⟩
 have hAg:da=A*Nat.gcd da db:=by rw[hA,Nat.div_mul_cancel (Nat.gcd_dvd_left _ _)]
 have hBg:db=B*Nat.gcd da db:=by rw[hB,Nat.div_mul_cancel (Nat.gcd_dvd_right _ _)]
 have hAB:Nat.gcd A B=1:=by rw[hA,hB];exact Nat.gcd_div_gcd_div_gcd_of_pos_left (by omega)
 have hA0:0<A:=by rw[hA];exact Nat.div_pos (Nat.gcd_le_left _ (by omega)) hg
 have hB0:0<B:=by rw[hB];exact Nat.div_pos (Nat.gcd_le_right _ (by omega)) hg
 have hAl:A≤da:=by rw[hA];exact Nat.div_le_self _ _
 have hBl:B≤db:=by rw[hB];exact Nat.div_le_self _ _
 have hz:nzB ((Nat.gcd da db:Nat):Int)=true:=nzB_of (by omega)
 rw[hz,cT,tdiv_nat,tdiv_nat,←hA,←hB,u_wrap (x:=(A:Int)) (by omega) (by omega),u_wrap (x:=(B:Int)) (by omega) (by omega)]
 have x1:na.natAbs*B≤1152921504606846976*1152921504606846976:=Nat.mul_le_mul (by omega) (by omega)
 have y1:nb.natAbs*A≤1152921504606846976*1152921504606846976:=Nat.mul_le_mul (by omega) (by omega)
 rw[product_ok (by omega) (by omega),obind_some',obind_some',cT,product_ok (by omega) (by omega),obind_some']
 have hsum:=sum_plain (na:=na) (nb:=nb) a5 b5 hAg hBg hAB hg hA0 hB0 rfl
 generalize Nat.gcd da db=g at *
 have hv:qv (na,(da:Int))+qv (nb,(db:Int))=mkRat na da+mkRat nb db:=rfl
 rw[hv,hsum.1]
 simp only[or_self_not,Bool.not_not,cT]
 have tail:∀(s:Bool) (N:Nat),N≤2658455991569831745807614120560689152→sgn s N=na*B+nb*A→(bif decide ((hl N).1=0)&&(decide ((hl N).2=0)&&true) then some (((0:Int),(1:Int)),(0:Int),PUnit.unit) else
   obind (ratio_over (hl N) (g:Int)) fun t_5=>obind (ratio_gcd (g:Int) t_5.2.1) fun t_1=>obind (ratio_over (hl N) t_1) fun t_6=>bif nzB t_1 then obind (ratio_product (A:Int) (IntKind.wrap .u64 (Int.tdiv (db:Int) t_1))) fun t =>
    bif bif decide (t_6.1.1>0) then true else decide (t.1>0) then some (((0:Int),(0:Int)),(5:Int),PUnit.unit) else obind (ratio_signed s t_6.1.2 t.2) fun t=>some (t.1,t.2.1,PUnit.unit) else none)=some (fitQ (mkRat (na*B+nb*A) (A*db))):=by
  intro s N hN hs
  have hNT:(na*B+nb*A).natAbs=N:=by rw[←hs];unfold sgn;split<;>simp
  rw[hNT] at hsum
  rw[zero_hl (by omega)]
  by_cases h0:N=0
  ·rw[decide_eq_true h0,cT,←hs,h0,show sgn s 0=0 by unfold sgn;cases s<;>rfl,Rat.zero_mkRat]
   rfl
  ·obtain ⟨c,hc⟩:∃c,c=Nat.gcd g N:=⟨_,rfl⟩
   rw[←hc] at hsum
   obtain ⟨_,s2,s3,s4,s5⟩:=hsum
   have hcg:c≤g:=by rw[hc];exact Nat.gcd_le_left _ hg
   rw[decide_eq_false h0,cF,over_ok hg (by omega) (by omega),obind_some',gcd_ok _ _ (by have:=Nat.mod_lt N hg;generalize N % g=w at *;omega),obind_some',Nat.gcd_comm,←Nat.gcd_rec,←hc,over_ok s3 (by omega) (by omega),obind_some',nzB_of (by omega),cT,tdiv_nat]
   have hdc:db / c≤db:=Nat.div_le_self _ _
   have hdc0:0<db / c:=Nat.div_pos (Nat.le_of_dvd (by omega) s5) s3
   rw[u_wrap (by omega) (by generalize db / c=w at *;omega),product_ok (by omega) (by generalize db / c=w at *;omega),obind_some']
   have hNc:N / c≤N:=Nat.div_le_self _ _
   have hval:mkRat (na*B+nb*A) (A*db)=mkRat (sgn s (N / c)) (A*(db / c)):=by
    rw[←hs]
    refine mkQ_congr (Nat.mul_pos hA0 (by omega)) (Nat.mul_pos hA0 hdc0) ?_
    obtain ⟨x,rfl⟩:=s4
    obtain ⟨y,rfl⟩:=s5
    rw[Nat.mul_div_cancel_left _ s3,Nat.mul_div_cancel_left _ s3]
    grind
   rw[hval,fit_low (Nat.mul_pos hA0 hdc0) s2]
   have hden:A*(db / c)≤1152921504606846976*1152921504606846976:=Nat.mul_le_mul (by omega) (by omega)
   generalize N / c=n at *
   generalize A*(db / c)=d at *
   by_cases hn:n<18446744073709551616
   ·by_cases hd:d<18446744073709551616
    ·rw[hl_small hn,hl_small hd]
     simp only
     rw[show decide ((0:Int)>0)=false from rfl,cF,cF,signed_ok _ _ _ hn hd,obind_some']
    ·rw[hl_small hn]
     simp only
     rw[show decide ((0:Int)>0)=false from rfl,decide_eq_true (hl_big hd),cF,cT,if_neg (by omega)]
   ·rw[decide_eq_true (hl_big hn),cT,cT,if_neg (by omega)]
 have sx:∀{n:Int} {s:Bool},s=decide (n<0)→n=sgn s n.natAbs:=fun {n s} h=>by rw[h];exact size_sgn n
 by_cases hsg:decide (na<0)=decide (nb<0)
 ·rw[decide_eq_true hsg,cT,rPlus_ok (by omega),obind_some']
  refine tail _ _ (by omega) ?_
  have e1:na=sgn (decide (na<0)) na.natAbs:=size_sgn na
  have e2:nb=sgn (decide (na<0)) nb.natAbs:=by rw[hsg];exact size_sgn nb
  generalize na.natAbs=m at *
  generalize nb.natAbs=n at *
  generalize decide (na<0)=s at *
  rw[e1,e2]
  unfold sgn
  cases s
  ·simp only[Bool.false_eq_true,if_false]
   rw[Int.natCast_add,Int.natCast_mul,Int.natCast_mul]
  ·simp only[if_true]
   rw[Int.natCast_add,Int.natCast_mul,Int.natCast_mul]
   grind
 ·have e1:na=sgn (decide (na<0)) na.natAbs:=size_sgn na
  have e2:nb=sgn (!decide (na<0)) nb.natAbs:=by
   have:(!decide (na<0))=decide (nb<0):=by
    clear tail sx hsum hv ha hb
    revert hsg
    cases decide (na<0)<;>cases decide (nb<0)<;>simp
   rw[this];exact size_sgn nb
  rw[decide_eq_false hsg,cF,rLess_ok,obind_some']
  by_cases hlt:na.natAbs*B<nb.natAbs*A
  ·rw[decide_eq_true hlt,cT,rMinus_ok (by omega) (by omega),obind_some']
   refine tail _ _ (by omega) ?_
   generalize na.natAbs=m at *
   generalize nb.natAbs=n at *
   generalize decide (na<0)=s at *
   rw[e1,e2]
   have e3:(((n*A - m*B:Nat)):Int)=(n:Int)*A - (m:Int)*B:=by rw[Int.ofNat_sub (Nat.le_of_lt hlt),Int.natCast_mul,Int.natCast_mul]
   unfold sgn
   cases s
   ·simp only[Bool.false_eq_true,if_false,Bool.not_false,if_true]
    grind
   ·simp only[if_true,Bool.not_true,Bool.false_eq_true,if_false]
    grind
  ·rw[decide_eq_false hlt,cF,rMinus_ok (by omega) (by omega),obind_some']
   refine tail _ _ (by omega) ?_
   generalize na.natAbs=m at *
   generalize nb.natAbs=n at *
   generalize decide (na<0)=s at *
   rw[e1,e2]
   have e3:(((m*B - n*A:Nat)):Int)=(m:Int)*B - (n:Int)*A:=by rw[Int.ofNat_sub (Nat.not_lt.1 hlt),Int.natCast_mul,Int.natCast_mul]
   unfold sgn
   cases s
   ·simp only[Bool.false_eq_true,if_false,Bool.not_false,if_true]
    grind
   ·simp only[if_true,Bool.not_true,Bool.false_eq_true,if_false]
    grind
end Go.Proofs.YtmoiiokmfanlgaaGreat

namespace Go.Proofs.YtmoiiokmfanlgaaGreat
open Tryz Dn Dn.Sh
end Go.Proofs.YtmoiiokmfanlgaaGreat

namespace Go.Proofs.YtmoiiokmfanlgaaGreat
open Tryz Dn Dn.Sh
end Go.Proofs.YtmoiiokmfanlgaaGreat

namespace Go.Proofs.YtmoiiokmfanlgaaGreat
open Tryz Dn Dn.Sh
theorem repeat_one (z:Fq) {n:Nat} (hn:n≤1000000):slices_Repeat_119 [z] (n:Int)=some (List.replicate n z):=by
 have hm:bits_Mul (IntKind.wrap .u64 ((List.length [z]:Nat):Int)) (IntKind.wrap .u64 (n:Int))=some (0,(n:Int),()):=by
  simp only[bits_Mul,bits_Mul_b]
  rw[u_wrap (by simp) (by simp),u_wrap (by omega) (by omega),mulW (by simp) (by simp) (by omega) (by omega),obind_some']
  simp only[List.length_singleton]
  congr 1
  refine Prod.ext ?_ (Prod.ext ?_ rfl)
  ·show ((1:Nat):Int)*n / 18446744073709551616=0
   omega
  ·show ((1:Nat):Int)*n % 18446744073709551616=n
   omega
 have hw:IntKind.wrap .i64 (n:Int)=(n:Int):=wrap_id (by omega) (by omega)
 simp only[slices_Repeat_119,slices_Repeat_119_b,jnT]
 rw[decide_eq_false (show ¬ (n:Int)<0 by omega),cF,hm,obind_some']
 have h63:decide ((n:Int)>9223372036854775807)=false:=decide_eq_false (by omega)
 have hz0:decide ((0:Int)>0)=false:=rfl
 have hz1:decide ((0:Int)≤(n:Int))=true:=decide_eq_true (by omega)
 have hfb:fitB n 16=true:=fitB_of (by omega)
 simp only[hw,hz0,h63,hz1,Int.toNat_natCast,hfb,Bool.not_false,Bool.not_true,Bool.or_true,Bool.and_self,cT,cF,List.drop_zero,List.take_zero,List.nil_append]
 refine lpK_loop (g:=fun _=>some (List.replicate n z)) (I:=fun (x:Int×List Fq×PUnit)=>∃c:Nat,x.1=c∧c≤n∧(0<n→0<c)∧x.2.1.length=n∧x.2.1.take c=List.replicate c z) (μ:=fun (x:Int×List Fq×PUnit)=>n - x.1.toNat) ?_ ?_ (by simp only;omega)
 ·rintro ⟨i,row,_⟩ rec ⟨c,h1,h2,h3,h4,h5⟩ hrec
  simp only at h1 h4 h5 hrec ⊢
  subst h1
  simp only[Int.toNat_natCast,h4]
  by_cases hc:c<n
  ·have hl:(List.take (n - c) (List.take c row)).length=min (n - c) c:=by rw[List.length_take,List.length_take,h4];omega
   rw[decide_eq_true (show (c:Int)<n by omega),cT,slB_of (by omega) (by omega) (by omega),slB_of (by omega) (by omega) (by omega),ble_of (by omega),ble_of (Nat.le_refl n)]
   simp only[Bool.and_self,cT]
   rw[wrap_id (by omega) (by omega)]
   refine hrec _ ⟨c+min (n - c) c,?_,by omega,by omega,?_,?_⟩ ?_
   ·simp only;rw[hl];omega
   ·simp only[List.length_append,List.length_drop,hl,h4,List.length_take];omega
   ·simp only
    rw[List.take_append_of_le_length (by rw[List.length_append,hl,List.length_take,h4];omega),h5,List.take_replicate,List.replicate_append_replicate,List.take_replicate]
    congr 1
    omega
   ·simp only;rw[hl];omega
  ·have:c=n:=by omega
   subst this
   rw[decide_eq_false (show ¬ (c:Int)<c by omega),cF]
   rw[←h5,List.take_of_length_le (by omega)]
 ·refine ⟨(List.take n [z]).length,rfl,by rw[List.length_take];omega,fun h=>by rw[List.length_take];simp;omega,?_,?_⟩
  ·simp only[List.length_append,List.length_drop,List.length_replicate,List.length_take,List.length_singleton];omega
  ·simp only
   rcases Nat.eq_zero_or_pos n with h | h
   ·subst h;rfl
   ·obtain ⟨m,rfl⟩:∃m,n=m+1:=⟨n - 1,by omega⟩
    simp
def shareQ (l:List Bm) (x:Ld):Rat:=mkRat x.2 (cntB l x.1)
def stepQ (l:List Bm) (x:Ld) (S:Nat→Rat):Nat→Rat:=fun i=>if isB x.1 (bmAt l i) then S i+shareQ l x else S i
def allFit (n:Nat) (S:Nat→Rat):Bool:=(List.range' 0 n).all fun i=>decide (fitsQ (S i))
def runQ (l:List Bm):List Ld→(Nat→Rat)→Option (Nat→Rat)
 | [],S=>some S
 | x ::r,S=>if allFit l.length (stepQ l x S) then runQ l r (stepQ l x S) else none
def outQ (n:Nat) (S:Nat→Rat):List Fq:=(List.range' 0 n).map fun i=>prQ (S i)
theorem outQ_len (n:Nat) (S:Nat→Rat):(outQ n S).length=n:=by simp[outQ]
theorem outQ_get {n i:Nat} (h:i<n) (S:Nat→Rat) {d:Fq}:(outQ n S).getD i d=prQ (S i):=by
 rw[getD_nat (by rw[outQ_len];exact h)]
 simp[outQ]
theorem allFit_iff {n:Nat} {S:Nat→Rat}:allFit n S=true↔∀i,i<n→fitsQ (S i):=by
 unfold allFit
 rw[List.all_eq_true]
 constructor
 ·intro h i hi
  exact of_decide_eq_true (h i (List.mem_range'.2 ⟨i,hi,by omega⟩))
 ·intro h i hi
  obtain ⟨k,hk,rfl⟩:=List.mem_range'.1 hi
  exact decide_eq_true (h _ (by omega))
end Go.Proofs.YtmoiiokmfanlgaaGreat

namespace Go.Proofs.YtmoiiokmfanlgaaGreat
open Tryz Dn Dn.Sh
abbrev Sg:=List Fq×Int×Int×List Fq×PUnit
abbrev Rg:=List Fq×Int×PUnit
noncomputable def addB (share:Fq) (a:Int×Unit) (s:Sg) (k:Sg→Option Rg):Option Rg :=
 bif inB a.1 (List.length s.2.2.2.1) then bif Nat.ble (Nat.succ (Int.toNat a.1)) (List.length s.2.2.2.1) then obind (ratio_Add (List.getD s.2.2.2.1 (Int.toNat a.1) ((0:Int),(0:Int))) share) fun (t:(Int×Int)×Int×PUnit) =>
  bif inB a.1 (List.length s.2.2.2.1) then bif Nat.ble (Nat.succ (Int.toNat a.1)) (List.length s.2.2.2.1) then bif !decide (t.2.1=(0:Int)) then some ([],t.2.1,PUnit.unit) else
   k (s.1,s.2.1,t.2.1,List.set s.2.2.2.1 (Int.toNat a.1) t.1,PUnit.unit) else none else none else none else none
def updQ (S:Nat→Rat) (i:Nat) (v:Rat):Nat→Rat:=fun j=>if j=i then v else S j
theorem outQ_set {n i:Nat} (S:Nat→Rat) (v:Rat):(outQ n S).set i (prQ v)=outQ n (updQ S i v):=by
 apply List.ext_getElem
 ·rw[List.length_set,outQ_len,outQ_len]
 ·intro j h1 h2
  rw[List.getElem_set]
  simp only[outQ,List.getElem_map,List.getElem_range',updQ]
  by_cases e:i=j
  ·subst e;simp
  ·rw[if_neg e,if_neg (by omega)]
theorem add_step {n i:Nat} {S:Nat→Rat} {q:Rat} (hi:i<n) (hS:∀j,j<n→fitsQ (S j)) (hq:fitsQ q) {d1:List Fq} {d2 e:Int} {k:Sg→Option Rg} :
  addB (prQ q) ((i:Int),()) (d1,d2,e,outQ n S,()) k=if fitsQ (S i+q) then k (d1,d2,0,outQ n (updQ S i (S i+q)),()) else some ([],5,()):=by
 unfold addB
 simp only[outQ_len,Int.toNat_natCast]
 rw[inB_of (by omega) (by omega),ble_of (by omega)]
 simp only[cT,outQ_get hi]
 rw[Add_ok (okF_prQ (hS i hi)) (okF_prQ hq),obind_some',qv_prQ,qv_prQ]
 rcases fitQ_cases (S i+q) with ⟨h1,h2⟩ | ⟨h1,h2⟩
 ·rw[h2,if_pos h1,outQ_set]
  rfl
 ·rw[h2,if_neg h1]
  rfl
def mixQ (l:List Bm) (x:Ld) (S:Nat→Rat) (k:Nat):Nat→Rat:=fun j=>if j<k then stepQ l x S j else S j
theorem inner_ok {l:List Bm} {x:Ld} {S:Nat→Rat} (hS:∀j,j<l.length→fitsQ (S j)) (hq:fitsQ (shareQ l x)) {d1:List Fq} {d2:Int} {f:Sg→Option Rg} :
  ∀(m k:Nat),k+m=l.length→(∀j,j<k→fitsQ (stepQ l x S j))→upF (fun i s kk=>bif isB x.1 (bmAt l i) then addB (prQ (shareQ l x)) ((i:Int),()) s kk else kk s) f m k (d1,d2,0,outQ l.length (mixQ l x S k),()) =
   if allFit l.length (stepQ l x S) then f (d1,d2,0,outQ l.length (stepQ l x S),()) else some ([],5,())
 | 0,k,hk,hf=>by
  have hk:k=l.length:=by omega
  subst hk
  rw[if_pos (allFit_iff.2 hf)]
  simp only[upF]
  congr 3
  show (0,outQ _ _,())=(0,outQ _ _,())
  congr 2
  unfold outQ
  apply List.map_congr_left
  intro i hi
  obtain ⟨j,hj,rfl⟩:=List.mem_range'.1 hi
  unfold mixQ
  rw[if_pos (by omega)]
 | m+1,k,hk,hf=>by
  have hk':k<l.length:=by omega
  simp only[upF]
  have hmix:∀j,j<l.length→fitsQ (mixQ l x S k j):=fun j hj=>by
   unfold mixQ
   split
   ·exact hf j (by assumption)
   ·exact hS j hj
  have hmk:mixQ l x S k k=S k:=by unfold mixQ;rw[if_neg (by omega)]
  cases hb:isB x.1 (bmAt l k) with
  | false =>
   rw[cond_false]
   have hst:stepQ l x S k=S k:=by unfold stepQ;rw[hb];rfl
   have e:mixQ l x S k=mixQ l x S (k+1):=by
    funext j
    unfold mixQ
    by_cases h1:j<k
    ·rw[if_pos h1,if_pos (by omega)]
    ·by_cases h2:j=k
     ·subst h2;rw[if_neg (by omega),if_pos (by omega),hst]
     ·rw[if_neg h1,if_neg (by omega)]
   rw[e]
   exact inner_ok hS hq m (k+1) (by omega) fun j hj=>by
    by_cases h2:j=k
    ·subst h2;rw[hst];exact hS j hk'
    ·exact hf j (by omega)
  | true =>
   rw[cond_true,add_step hk' hmix hq,hmk]
   have hst:stepQ l x S k=S k+shareQ l x:=by unfold stepQ;rw[hb];rfl
   by_cases h1:fitsQ (S k+shareQ l x)
   ·rw[if_pos h1]
    have e:updQ (mixQ l x S k) k (S k+shareQ l x)=mixQ l x S (k+1):=by
     funext j
     unfold mixQ updQ
     by_cases h2:j=k
     ·subst h2;rw[if_pos rfl,if_pos (by omega),hst]
     ·rw[if_neg h2]
      dsimp only
      by_cases h3:j<k
      ·rw[if_pos h3,if_pos (by omega)]
      ·rw[if_neg h3,if_neg (by omega)]
    rw[e]
    exact inner_ok hS hq m (k+1) (by omega) fun j hj=>by
     by_cases h2:j=k
     ·subst h2;rw[hst];exact h1
     ·exact hf j (by omega)
   ·rw[if_neg h1,if_neg]
    intro h2
    exact h1 (hst ▸ allFit_iff.1 h2 k hk')
theorem share_fits {l:List Bm} {x:Ld} (hl:l.length≤1000000) (hx:inW x.2=true) (hc:cntB l x.1≠0):fitsQ (shareQ l x):=by
 have:=cntB_le l x.1
 simp only[inW,decide_eq_true_eq] at hx
 unfold shareQ fitsQ
 rw[Rat.num_mkRat,Rat.den_mkRat]
 rw[if_neg hc,if_neg hc]
 constructor
 ·rw[Int.natAbs_ediv_of_dvd]
  ·exact Nat.le_trans (Nat.div_le_self _ _) (by omega)
  ·exact Int.ofNat_dvd_left.2 (Nat.gcd_dvd_right _ _)
 ·exact Nat.le_trans (Nat.div_le_self _ _) (by omega)
end Go.Proofs.YtmoiiokmfanlgaaGreat

namespace Go.Proofs.YtmoiiokmfanlgaaGreat
open Tryz Dn Dn.Sh
theorem listF_all {α σ R:Type} {b:α→σ→(σ→Option R)→Option R} {f:σ→Option R} {p:α→Bool} {r:Option R}:∀{L:List α} {s:σ},(∀a ∈ L,∀s k,b a s k=bif p a then k s else r)→listF b f L s=bif L.all p then f s else r
 | [],_,_=>rfl
 | a ::L,s,h=>by
  simp only[listF,List.all_cons]
  rw[h a (by simp)]
  cases p a with
  | true=>exact listF_all fun a' ha=>h a' (by simp[ha])
  | false=>rfl
def noneB (l:List Bm) (at_:List Ld):Bool:=at_.any fun x=>decide (cntB l x.1=0)
def borneQ (l:List Bm) (at_:List Ld):Rg:=if noneB l at_ then ([],12,()) else match runQ l at_ (fun _=>0) with
 | some S=>(outQ l.length S,0,())
 | none=>([],5,())
theorem outQ_zero (n:Nat):outQ n (fun _=>0)=List.replicate n ((0:Int),(1:Int)):=by
 apply List.ext_getElem
 ·rw[outQ_len,List.length_replicate]
 ·intro i h1 h2
  simp only[outQ,List.getElem_map,List.getElem_replicate]
  rfl
theorem make_share {l:List Bm} {x:Ld} (hl:l.length≤1000000) (hx:inW x.2=true) (hc:cntB l x.1≠0):(if ((cntB l x.1:Nat):Int)=0 then (((0:Int),(0:Int)),(16:Int),()) else fitQ (divQ x.2 (cntB l x.1:Nat)))=(prQ (shareQ l x),0,()):=by
 have hle:=cntB_le l x.1
 rw[if_neg (by omega)]
 have e:divQ x.2 (cntB l x.1:Nat)=shareQ l x:=by
  unfold divQ shareQ sgn
  simp only[inW,decide_eq_true_eq] at hx
  rw[show (decide (x.2<0) !=decide (((cntB l x.1:Nat):Int)<0))=false by rw[decide_eq_false (by omega),decide_eq_false (by omega)];rfl]
  simp only[Bool.false_eq_true,if_false,Int.natAbs_natCast]
  congr 1
  omega
 rw[e,←fitQ_qv (okF_prQ (share_fits hl hx hc)),qv_prQ]
theorem borne_ok {l:List Bm} {at_:List Ld} (hl:l.length≤1000000) (ha:at_.length≤1000000) (hw:∀x ∈ at_,inW x.2=true):grid_borne l at_=some (borneQ l at_):=by
 simp only[grid_borne,grid_borne_b,grid_of,grid_of_b,obind_some']
 rw[repeat_one _ hl,obind_some',←outQ_zero]
 refine' (lpK_int at_ ((0:Int),(0:Int)) (by omega) (fun i (s:List Fq×Int)=>(((i:Nat):Int),s.1,s.2,PUnit.unit)) (fun x s k=>bif decide (((cntB l x.1:Nat):Int)=0) then some ([],12,()) else k s) _ ?_ ?_ (([]:List Fq),(0:Int))).trans ?_
 rotate_left
 ·intro again i s hi
  have hwr:IntKind.wrap .i64 ((i:Int)+1)=((i+1:Nat):Int):=by rw[wrap_id (by omega) (by omega)];rfl
  simp only[inB_nat,decide_eq_true hi,decide_eq_true (show (i:Int)<at_.length by omega),cT,Int.toNat_natCast,hwr,count_ok hl,obind_some']
 ·intro again s
  simp only[decide_eq_false (show ¬ (at_.length:Int)<at_.length by omega),cF]
  rfl
 ·rw[listF_all (p:=fun x=>!decide (((cntB l x.1:Nat):Int)=0)) (r:=some ([],12,())) (fun x _ s k=>by cases decide (((cntB l x.1:Nat):Int)=0)<;>rfl)]
  unfold borneQ
  have hall:(at_.all fun x=>!decide (((cntB l x.1:Nat):Int)=0))=!noneB l at_:=by
   unfold noneB
   rw[List.not_any_eq_all_not]
   congr 1
   funext x
   congr 1
   rw[Bool.eq_iff_iff,decide_eq_true_iff,decide_eq_true_iff]
   omega
  rw[hall]
  cases hn:noneB l at_ with
  | true=>rfl
  | false =>
   simp only[Bool.not_false,cT,Bool.false_eq_true,if_false]
   have hc:∀x ∈ at_,cntB l x.1≠0:=fun x hx e=>by
    unfold noneB at hn
    have:=List.any_eq_false.1 hn x hx
    simp[e] at this
   refine (lpK_int at_ ((0:Int),(0:Int)) (by omega) (fun i (s:List Fq×Int×List Fq)=>(((i:Nat):Int),s.1,s.2.1,s.2.2,PUnit.unit))
    (fun x s k=>bif decide (cntB l x.1=0) then none else upF (fun i s kk=>bif isB x.1 (bmAt l i) then addB (prQ (shareQ l x)) ((i:Int),()) s kk else kk s) (fun s=>k (s.1,s.2.1,s.2.2.2.1)) l.length 0 (s.1,s.2.1,0,s.2.2,()))
    (fun s=>some (s.2.2,0,())) ?_ (fun again s=>?_) (([]:List Fq),(0:Int),outQ l.length (fun _=>0))).trans ?_
   ·intro again i s hi
    have hwr:IntKind.wrap .i64 ((i:Int)+1)=((i+1:Nat):Int):=by rw[wrap_id (by omega) (by omega)];rfl
    have hmem:at_.getD i ((0:Int),(0:Int)) ∈ at_:=by rw[getD_nat hi];exact List.getElem_mem hi
    have hc':=hc _ hmem
    have hw':=hw _ hmem
    simp only[inB_nat,decide_eq_true hi,decide_eq_true (show (i:Int)<at_.length by omega),cT,Int.toNat_natCast,hwr,count_ok hl,obind_some']
    generalize at_.getD i ((0:Int),(0:Int))=x at *
    have hle:=cntB_le l x.1
    have hx:=hw'
    simp only[inW,decide_eq_true_eq] at hx
    rw[decide_eq_false hc',cF,Make_ok (by omega) (by omega) (by omega) (by omega),obind_some',make_share hl hw' hc']
    simp only[decide_true,Bool.not_true,cF,overP_of hl,cT]
    refine (lpK_nat (overL l x.1) ((0:Int),()) (by rw[overL_len];omega) (addB (prQ (shareQ l x))) (fun (s:Sg)=>again (((i+1:Nat):Int),s.1,s.2.1,s.2.2.2.1,PUnit.unit)) ?_ (fun again' s'=>?_) (s.1,s.2.1,(0:Int),s.2.2,PUnit.unit)).trans ?_
    ·intro again' j s' hj
     rw[show Nat.ble (Nat.succ j) (overL l x.1).length=true from ble_of (by omega),cT]
     rfl
    ·rw[show Nat.ble (Nat.succ (overL l x.1).length) (overL l x.1).length=false by rw[Bool.eq_false_iff];intro e;have:=Nat.le_of_ble_eq_true e;omega,cF]
    ·exact overG_walk (l:=l) (c:=fun i _ s k=>addB (prQ (shareQ l x)) ((i:Int),()) s k) (fun _ _ _ _=>rfl) l.length 0 _ (by omega)
   ·simp only[decide_eq_false (show ¬ (at_.length:Int)<at_.length by omega),cF]
   ·have key:∀(L:List Ld) (S:Nat→Rat),(∀x ∈ L,inW x.2=true)→(∀x ∈ L,cntB l x.1≠0)→(∀j,j<l.length→fitsQ (S j)) →
      listF (fun x (s:List Fq×Int×List Fq) (k:List Fq×Int×List Fq→Option Rg)=>bif decide (cntB l x.1=0) then none else upF (fun i s kk=>bif isB x.1 (bmAt l i) then addB (prQ (shareQ l x)) ((i:Int),()) s kk else kk s) (fun s=>k (s.1,s.2.1,s.2.2.2.1)) l.length 0 (s.1,s.2.1,0,s.2.2,()))
       (fun s=>some (s.2.2,0,())) L (([]:List Fq),(0:Int),outQ l.length S)=some (match runQ l L S with | some S=>(outQ l.length S,0,()) | none=>([],5,())):=by
     intro L
     induction L with
     | nil=>intro S _ _ _;rfl
     | cons x L ih =>
      intro S h1 h2 h3
      simp only[listF]
      have hx:=h1 x (by simp)
      have hcx:=h2 x (by simp)
      have:=inner_ok (f:=fun s=>listF (fun x (s:List Fq×Int×List Fq) (k:List Fq×Int×List Fq→Option Rg)=>bif decide (cntB l x.1=0) then none else upF (fun i s kk=>bif isB x.1 (bmAt l i) then addB (prQ (shareQ l x)) ((i:Int),()) s kk else kk s) (fun s=>k (s.1,s.2.1,s.2.2.2.1)) l.length 0 (s.1,s.2.1,0,s.2.2,()))
       (fun s=>some (s.2.2,0,())) L (s.1,s.2.1,s.2.2.2.1)) (d1:=([]:List Fq)) (d2:=(0:Int)) h3 (share_fits hl hx hcx) l.length 0 (by omega) (fun j hj=>by omega)
      rw[decide_eq_false hcx,cF]
      have e0:mixQ l x S 0=S:=by funext j;unfold mixQ;rw[if_neg (by omega)]
      rw[e0] at this
      rw[this]
      unfold runQ
      cases hf:allFit l.length (stepQ l x S) with
      | false=>rfl
      | true =>
       simp only[if_true]
       exact ih (stepQ l x S) (fun y hy=>h1 y (by simp[hy])) (fun y hy=>h2 y (by simp[hy])) (allFit_iff.1 hf)
    exact key at_ (fun _=>0) hw hc (fun j _=>by show fitsQ 0;decide)
end Go.Proofs.YtmoiiokmfanlgaaGreat

namespace Go.Proofs.YtmoiiokmfanlgaaGreat
open Tryz Dn Dn.Sh
end Go.Proofs.YtmoiiokmfanlgaaGreat

namespace Go.Proofs.YtmoiiokmfanlgaaGreat
open Tryz Dn Dn.Sh
theorem contains_of_idx {α:Type} {p:α→Bool} {l:List α}:decide (idxI p l 0≥0)=l.any p:=by
 have:=idxI_neg (p:=p) (l:=l) (i:=0) (by omega)
 rw[Bool.eq_iff_iff,decide_eq_true_iff,List.any_eq_true]
 constructor
 ·intro h1
  by_cases h2:∃a ∈ l,p a=true
  ·exact h2
  ·have:idxI p l 0<0:=this.2 fun a ha=>by
    cases e:p a with
    | false=>rfl
    | true=>exact (h2 ⟨a,ha,e⟩).elim
   omega
 ·rintro ⟨a,ha,h3⟩
  by_cases h2:idxI p l 0<0
  ·rw[this.1 h2 a ha] at h3;cases h3
  ·omega
theorem contains31 {f:(Ld×Unit)→Option Bool} {p:Ld→Bool} {l:List Ld} (hl:l.length≤1000000) (h:∀a,a ∈ l→f (a,())=some (p a)):slices_ContainsFunc_117 l f=some (l.any p):=by
 simp only[slices_ContainsFunc_117,slices_ContainsFunc_117_b]
 unfold slices_IndexFunc_152 slices_IndexFunc_152_b
 rw[index_loop (f:=f) (d:=((0:Int),(0:Int))) hl h,obind_some',contains_of_idx]
theorem given1_ok (x:Ld):grid_given_1 x=some (!loadB x):=by
 obtain ⟨a,w⟩:=x
 simp only[grid_given_1,grid_given_1_b,within_ok,obind_some',loadB]
 cases inL a with
 | false=>rfl
 | true =>
  unfold inW
  by_cases h1:w<0
  ·rw[decide_eq_true h1,decide_eq_false (show ¬ (0≤w∧w≤67108864) by omega)];rfl
  ·by_cases h2:w>67108864
   ·rw[decide_eq_false h1,decide_eq_true h2,decide_eq_false (show ¬ (0≤w∧w≤67108864) by omega)];rfl
   ·rw[decide_eq_false h1,decide_eq_false h2,decide_eq_true (show (0≤w∧w≤67108864) by omega)];rfl
theorem given_ok (l:List Bm) (at_:List Ld):grid_given l at_=some (bif validG l&&rightG at_ then 0 else 1):=by
 simp only[grid_given,grid_given_b,gValid_ok,obind_some']
 cases validG l with
 | false=>cases decide (((at_.length:Nat):Int)>1000)<;>rfl
 | true =>
  by_cases h0:at_.length≤1000
  ·have hr:rightG at_=at_.all loadB:=by unfold rightG;rw[decide_eq_true h0,Bool.true_and]
   rw[decide_eq_false (show ¬ ((at_.length:Nat):Int)>1000 by omega),hr]
   have hc:slices_ContainsFunc_117 at_ (fun x=>grid_given_1 x.1)=some (at_.any fun x=>!loadB x):=contains31 (p:=fun x=>!loadB x) (by omega) fun a _=>given1_ok a
   have e:(at_.any fun x=>!loadB x)=!at_.all loadB:=by rw[List.not_all_eq_any_not]
   simp only[Bool.not_true,Bool.not_false,cT,cF,Bool.or_false,Bool.false_or,Bool.or_true,Bool.true_or,hc,e,obind_some']
   cases at_.all loadB<;>rfl
  ·have hr:rightG at_=false:=by unfold rightG;rw[decide_eq_false h0,Bool.false_and]
   rw[decide_eq_true (show ((at_.length:Nat):Int)>1000 by omega),hr]
   rfl
theorem validG_len {l:List Bm} (h:validG l=true):l.length≤20:=by
 simp only[validG,Bool.and_eq_true,decide_eq_true_eq] at h
 exact h.1
theorem rightG_len {at_:List Ld} (h:rightG at_=true):at_.length≤1000∧∀x ∈ at_,inW x.2=true:=by
 simp only[rightG,Bool.and_eq_true,decide_eq_true_eq,List.all_eq_true] at h
 exact ⟨h.1,fun x hx=>by have:=h.2 x hx;simp only[loadB,Bool.and_eq_true] at this;exact this.2⟩
noncomputable def loadsQ (l:List Bm) (at_:List Ld):Rg:=bif validG l&&rightG at_ then borneQ l at_ else ([],1,())
theorem loads_ok (l:List Bm) (at_:List Ld):grid_Loads l at_=some (loadsQ l at_):=by
 simp only[grid_Loads,grid_Loads_b,given_ok,obind_some',loadsQ]
 cases h:validG l&&rightG at_ with
 | false=>rfl
 | true =>
  rw[Bool.and_eq_true] at h
  have h1:=validG_len h.1
  have h2:=rightG_len h.2
  simp only[cT,decide_true,Bool.not_true,cF]
  rw[borne_ok (by omega) (by omega) h2.2,obind_some']
end Go.Proofs.YtmoiiokmfanlgaaGreat

namespace Go.Proofs.YtmoiiokmfanlgaaGreat
open Tryz Dn Dn.Sh
def loadI (s:HS):Int:=IntKind.wrap .i64 (IntKind.wrap .i64 (weightI s+s.2.2.2.2.2.2.2.1)+sumI s.2.2.2.2.2.2.2.2.2.2.2.2)
def heavyB (s:HS):Bool:=decide (loadI s>67108864)
def ptsH (l:List HS):List Ld:=l.map fun s=>(s.2.1,loadI s)
theorem set_facts {s:HS} (h:setB s=true):(0≤s.2.1∧s.2.1≤1048576)∧(1000≤s.2.2.2.2.1∧s.2.2.2.2.1≤1048576)∧(0≤s.2.2.2.2.2.2.1∧s.2.2.2.2.2.2.1≤1048576)∧(0≤s.2.2.2.2.2.2.2.1∧s.2.2.2.2.2.2.2.1≤1048576)∧itemsB s.2.2.2.2.2.2.2.2.2.2.2.1 s.2.2.2.2.1=true∧bricksB s.2.2.2.2.2.2.2.2.2.2.2.2=true:=by
 unfold setB btw at h
 simp only[Bool.and_eq_true,decide_eq_true_eq] at h
 obtain ⟨_,h1,_,_,h2,_,_,h3,h4,_,_,_,h5,h6⟩:=h
 exact ⟨h1,h2,h3,h4,h5,h6⟩
theorem items_facts {l:List Itm} {len:Int} (h:itemsB l len=true):l.length≤40∧∀x ∈ l,0≤x.2.2.2.1∧x.2.2.2.1≤1048576:=by
 unfold itemsB at h
 rw[Bool.and_eq_true,Bool.and_eq_true,decide_eq_true_iff,List.all_eq_true] at h
 refine ⟨h.1,fun x hx=>?_⟩
 have:=h.2.1 x hx
 unfold itemB btw at this
 simp only[Bool.and_eq_true,decide_eq_true_eq] at this
 omega
theorem valid_sets {h:HH} (hv:validHB h=true):h.2.2.1.length≤60∧validG h.2.2.2=true∧∀i,i<h.2.2.1.length→setB (h.2.2.1.getD i set0)=true:=by
 simp only[validHB,Bool.and_eq_true,Bool.not_eq_true',decide_eq_false_iff_not,List.all_eq_true] at hv
 obtain ⟨_,_,_,h1,h2,h3⟩:=hv
 exact ⟨by omega,h2,fun i hi=>(h3 i (List.mem_range'.2 ⟨i,hi,by omega⟩)).1⟩
theorem obS0 {T R:Type} {c:Option T} {t:T} (h:c=some t) (k:T→Option R):obind c k=k t:=by subst h;rfl
theorem obS {T R:Type} (t:T) (k:T→Option R):obind (some t) k=k t:=obS0 (Eq.trans rfl rfl) k
theorem counts_loop {R:Type} {l:List Brk} (hl:l.length≤1000000) {fin:List Int→Option R} {F:(List Int×Int×PUnit→Option R)→List Int×Int×PUnit→Option R}
  (hb:∀again (i:Nat) s,i<l.length→F again (s,(i:Int),PUnit.unit)=bif fitB (s.length+1) 8 then again (s++[(l.getD i brk0).2.2],((i+1:Nat):Int),PUnit.unit) else none)
  (hf:∀again s,F again (s,(l.length:Int),PUnit.unit)=fin s):lpK (List Int×Int×PUnit) R F ([],(0:Int),PUnit.unit)=fin (cntsB l):=by
 refine (lpK_up (α:=List Int×Int×PUnit) l.length (by omega) (fun i (s:List Int)=>(s,(i:Int),PUnit.unit)) (fun i s k=>bif false then none else bif fitB (s.length+1) 8 then k (s++[(l.getD i brk0).2.2]) else none) fin ?_ ?_ []).trans ?_
 ·intro again i s hi
  rw[hb again i s hi,cF]
 ·intro again s
  exact hf again s
 ·rw[upF_app (c:=fun _=>false) (g:=fun i=>(l.getD i brk0).2.2) (r:=none) (w:=8) hl (by omega) (fun i s k _=>rfl) l.length 0 [] (by omega) (by simp),range_map (g:=fun b:Brk=>b.2.2)]
  rw[show (List.range' 0 l.length).any (fun _=>false)=false from List.any_eq_false.2 fun _ _ h=>by cases h]
  rfl
theorem any_range {α:Type} {p:α→Bool} {d:α} {l:List α}:(List.range' 0 l.length).any (fun i=>p (l.getD i d))=l.any p:=by
 have:=all_range (p:=fun x=>!p x) (d:=d) (l:=l)
 rw[List.any_eq_not_all_not,List.any_eq_not_all_not,this]
noncomputable def loadsHQ (h:HH):Rg:=bif validHB h then (bif h.2.2.1.any heavyB then ([],5,()) else loadsQ h.2.2.2 (ptsH h.2.2.1)) else ([],1,())
theorem hLoads_ok (h:HH):house_Loads h=some (loadsHQ h):=by
 simp only[house_Loads,house_Loads_b,hValid_ok,obS,loadsHQ]
 cases hv:validHB h with
 | false=>rfl
 | true =>
  obtain ⟨h1,h2,h3⟩:=valid_sets hv
  obtain ⟨nm,ht,ss,rs⟩:=h
  simp only at h1 h2 h3 ⊢
  simp only[Bool.not_true,cT,cF]
  refine (lpK_up (α:=List Ld×Int×PUnit) ss.length (by omega) (fun i (s:List Ld)=>(s,(i:Int),PUnit.unit)) (fun i s k=>bif heavyB (ss.getD i set0) then some ([],5,()) else bif fitB (s.length+1) 16 then k (s++[((ss.getD i set0).2.1,loadI (ss.getD i set0))]) else none) (fun s=>some (loadsQ rs s)) ?_ ?_ []).trans ?_
  ·intro again i s hi
   have hw:IntKind.wrap .i64 ((i:Int)+1)=((i+1:Nat):Int):=by rw[wrap_id (by omega) (by omega)];rfl
   have hs:=h3 i hi
   obtain ⟨_,_,_,_,h5,h6⟩:=set_facts hs
   have hW:batten_Weight (ss.getD i set0)=some (weightI (ss.getD i set0),0,()):=by
    simp only[batten_Weight,batten_Weight_b,validA_ok,hs,obS,Bool.not_true,cF]
    rw[weightA_ok _ (by have:=(items_facts h5).1;omega),obS]
   simp only[inB_nat,decide_eq_true hi,decide_eq_true (show (i:Int)<ss.length by omega),cT,Int.toNat_natCast,hw,show List.getD ss i ({ data:={ toList:=[] } },(0:Int),(0:Int),(0:Int),(0:Int),[],(0:Int),(0:Int),(0:Int),(0:Int),(0:Int),[],[])=ss.getD i set0 from rfl,hW,obS,decide_true,Bool.not_true,cF]
   refine (counts_loop (l:=(ss.getD i set0).2.2.2.2.2.2.2.2.2.2.2.2) (by have:=(bricks_all h6).1;omega) (fin:=fun c=>obind (arbor_Weight (ss.getD i set0).2.2.2.2.2.2.2.2.2.2.2.2 c) fun t=>bif !decide (t.2.1=0) then some ([],t.2.1,PUnit.unit) else bif decide (IntKind.wrap .i64 (IntKind.wrap .i64 (weightI (ss.getD i set0)+(ss.getD i set0).2.2.2.2.2.2.2.1)+t.1)>67108864) then some ([],5,PUnit.unit) else bif fitB (s.length+1) 16 then again (s++[((ss.getD i set0).2.1,IntKind.wrap .i64 (IntKind.wrap .i64 (weightI (ss.getD i set0)+(ss.getD i set0).2.2.2.2.2.2.2.1)+t.1))],((i+1:Nat):Int),PUnit.unit) else none) ?_ ?_).trans ?_
   ·intro again_1 j c hj
    have hw2:IntKind.wrap .i64 ((j:Int)+1)=((j+1:Nat):Int):=by rw[wrap_id (by have:=(bricks_all h6).1;omega) (by have:=(bricks_all h6).1;omega)];rfl
    simp only[inB_nat,decide_eq_true hj,decide_eq_true (show (j:Int)<((ss.getD i set0).2.2.2.2.2.2.2.2.2.2.2.2.length:Nat) by omega),cT,Int.toNat_natCast,hw2]
   ·intro again_1 c
    simp only[decide_eq_false (show ¬ ((ss.getD i set0).2.2.2.2.2.2.2.2.2.2.2.2.length:Int)<((ss.getD i set0).2.2.2.2.2.2.2.2.2.2.2.2.length:Nat) by omega),cF]
   ·simp only[arborWeight_ok h6,obS,decide_true,Bool.not_true,cF,heavyB,loadI]
    rfl
  ·intro again s
   simp only[decide_eq_false (show ¬ (ss.length:Int)<ss.length by omega),cF,loads_ok,obS]
  ·rw[upF_app (c:=fun i=>heavyB (ss.getD i set0)) (g:=fun i=>((ss.getD i set0).2.1,loadI (ss.getD i set0))) (r:=some ([],5,())) (w:=16) (n:=ss.length) (by omega) (by omega) (fun i s k _=>rfl) ss.length 0 [] (by omega) (by simp),range_map (g:=fun s:HS=>(s.2.1,loadI s)),any_range]
   unfold ptsH
   cases ss.any heavyB<;>rfl
end Go.Proofs.YtmoiiokmfanlgaaGreat

namespace Go.Proofs.YtmoiiokmfanlgaaGreat
open Tryz Dn Dn.Sh
theorem equal14 (l:List Fq) (h:l.length≤1000000):slices_Equal_14 l l=some true:=by
 simp only[slices_Equal_14,slices_Equal_14_b,decide_true,Bool.not_true,cF,Bool.and_self]
 refine (lpK_int l ((0:Int),(0:Int)) (by omega) (fun i (_:Unit)=>(((i:Nat):Int),PUnit.unit)) (fun _ s k=>k s) (fun _=>some true) ?_ (fun again s=>?_) ()).trans ?_
 ·intro again i _ hi
  have hw:IntKind.wrap .i64 ((i:Int)+1)=((i+1:Nat):Int):=by rw[wrap_id (by omega) (by omega)];rfl
  simp only[inB_nat,decide_eq_true hi,decide_eq_true (show (i:Int)<l.length by omega),cT,hw]
 ·simp only[decide_eq_false (show ¬ (l.length:Int)<l.length by omega),cF]
 ·exact listF_fold (fun _ _=>()) (fun _ _ _ _=>rfl)
end Go.Proofs.YtmoiiokmfanlgaaGreat

namespace Go.Proofs.YtmoiiokmfanlgaaGreat
open Tryz Dn Dn.Sh
theorem awakeH_ok:law30_awake=some true:=by kernel_rfl
theorem loadsHQ_len (h:HH):(loadsHQ h).1.length≤1000000:=by
 unfold loadsHQ
 cases hv:validHB h with
 | false=>simp
 | true =>
  rw[cT]
  cases h.2.2.1.any heavyB with
  | true=>simp
  | false =>
   rw[cF]
   unfold loadsQ
   cases hr:validG h.2.2.2&&rightG (ptsH h.2.2.1) with
   | false=>simp
   | true =>
    rw[Bool.and_eq_true] at hr
    have:=validG_len hr.1
    rw[cT]
    unfold borneQ
    split
    ·simp
    ·split
     ·simp only[outQ_len];omega
     ·simp
end Go.Proofs.YtmoiiokmfanlgaaGreat

namespace Go.Proofs.YtmoiiokmfanlgaaGreat
open Tryz Dn Dn.Sh
end Go.Proofs.YtmoiiokmfanlgaaGreat

namespace Go.Proofs.YtmoiiokmfanlgaaGreat
open Tryz Dn Dn.Sh
def fewP (h:HH):Prop:=h.2.2.1.length≤1000000∧h.2.2.2.length≤1000000∧∀s ∈ h.2.2.1,s.2.2.2.2.2.1.length≤1000000∧s.2.2.2.2.2.2.2.2.2.2.2.1.length≤1000000∧s.2.2.2.2.2.2.2.2.2.2.2.2.length≤1000000
theorem small_few {h:HH} (hs:smallHB h=true):fewP h:=by
 obtain ⟨h1,h2,h3⟩:=small_len hs
 exact ⟨by omega,by omega,fun s hm=>by have:=h3 s hm;omega⟩
end Go.Proofs.YtmoiiokmfanlgaaGreat

namespace Go.Proofs.YtmoiiokmfanlgaaGreat
open Tryz Dn Dn.Sh
end Go.Proofs.YtmoiiokmfanlgaaGreat

namespace Go.Proofs.YtmoiiokmfanlgaaGreat
namespace Dn
def ab (x:Int):Int:=(x.natAbs:Int)
theorem ab_nonneg (x:Int):0≤ab x:=by unfold ab;omega
theorem ab_mul (x y:Int):ab (x*y)=ab x*ab y:=by
 unfold ab
 rw[Int.natAbs_mul]
 rfl
def sz:Nat→(Nat→Int)→Int
 | 0,_=>0
 | n+1,f=>sz n f+f n
theorem sz_congr:∀{n:Nat} {f g:Nat→Int},(∀i,i<n→f i=g i)→sz n f=sz n g
 | 0,_,_,_=>rfl
 | n+1,f,g,h=>by
  simp only[sz]
  rw[sz_congr (n:=n) fun i hi=>h i (by omega),h n (by omega)]
theorem sz_add:∀{n:Nat} {f g:Nat→Int},sz n (fun i=>f i+g i)=sz n f+sz n g
 | 0,_,_=>rfl
 | n+1,f,g=>by
  simp only[sz]
  rw[sz_add]
  omega
theorem sz_mul:∀{n:Nat} {c:Int} {f:Nat→Int},sz n (fun i=>c*f i)=c*sz n f
 | 0,c,_=>by simp[sz]
 | n+1,c,f=>by
  simp only[sz]
  rw[sz_mul,Int.mul_add]
theorem sz_mulr {n:Nat} {c:Int} {f:Nat→Int}:sz n (fun i=>f i*c)=sz n f*c:=by
 rw[Int.mul_comm,←sz_mul]
 exact sz_congr fun i _=>Int.mul_comm _ _
theorem sz_zero:∀{n:Nat} {f:Nat→Int},(∀i,i<n→f i=0)→sz n f=0
 | 0,_,_=>rfl
 | n+1,f,h=>by
  simp only[sz]
  rw[sz_zero fun i hi=>h i (by omega),h n (by omega)]
  rfl
theorem sz_neg {n:Nat} {f:Nat→Int}:sz n (fun i=> - f i)= - sz n f:=by
 have:sz n (fun i=> - f i)=sz n (fun i=>(-1)*f i):=sz_congr fun i _=>by omega
 rw[this,sz_mul]
 omega
theorem sz_sub {n:Nat} {f g:Nat→Int}:sz n (fun i=>f i - g i)=sz n f - sz n g:=by
 have:sz n (fun i=>f i - g i)=sz n (fun i=>f i+ - g i):=sz_congr fun i _=>by omega
 rw[this,sz_add,sz_neg]
 omega
theorem sz_one:∀{n:Nat} {f:Nat→Int} {k:Nat},k<n→(∀i,i<n→i≠k→f i=0)→sz n f=f k
 | n+1,f,k,hk,h=>by
  simp only[sz]
  by_cases e:k=n
  ·subst e
   rw[sz_zero fun i hi=>h i (by omega) (by omega)]
   omega
  ·rw[sz_one (k:=k) (by omega) fun i hi hne=>h i (by omega) hne,h n (by omega) (fun e'=>e e'.symm)]
   omega
theorem sz_two {n:Nat} {f:Nat→Int} {k l:Nat} (hk:k<n) (hl:l<n) (hkl:k≠l) (h:∀i,i<n→i≠k→i≠l→f i=0):sz n f=f k+f l:=by
 have e:sz n f=sz n (fun i=>(if i=k then f k else 0)+(if i=l then f l else 0)):=sz_congr fun i hi=>by
  by_cases h1:i=k
  ·subst h1;rw[if_pos rfl,if_neg hkl];omega
  ·by_cases h2:i=l
   ·subst h2;rw[if_neg h1,if_pos rfl];omega
   ·rw[if_neg h1,if_neg h2,h i hi h1 h2];rfl
 rw[e,sz_add,sz_one hk (f:=fun i=>if i=k then f k else 0) (fun i _ hne=>if_neg hne),sz_one hl (f:=fun i=>if i=l then f l else 0) (fun i _ hne=>if_neg hne)]
 simp
theorem sz_swap:∀{m n:Nat} {f:Nat→Nat→Int},sz m (fun i=>sz n (fun j=>f i j))=sz n (fun j=>sz m (fun i=>f i j))
 | 0,n,f=>by
  simp only[sz]
  exact (sz_zero fun _ _=>rfl).symm
 | m+1,n,f=>by
  simp only[sz]
  rw[sz_swap,sz_add]
theorem sz_le:∀{n:Nat} {f g:Nat→Int},(∀i,i<n→f i≤g i)→sz n f≤sz n g
 | 0,_,_,_=>Int.le_refl _
 | n+1,f,g,h=>by
  simp only[sz]
  have:=sz_le (n:=n) fun i hi=>h i (by omega)
  have:=h n (by omega)
  omega
def skip (k j:Nat):Nat:=if j<k then j else j+1
def sgd (k:Nat):Int:=if k % 2=0 then 1 else -1
theorem sgd_succ (k:Nat):sgd (k+1)= - sgd k:=by
 unfold sgd
 split<;>split<;>omega
def minor (A:Nat→Nat→Int) (k:Nat):Nat→Nat→Int:=fun i j=>A (i+1) (skip k j)
def det:Nat→(Nat→Nat→Int)→Int
 | 0,_=>1
 | n+1,A=>sz (n+1) fun k=>sgd k*A 0 k*det n (minor A k)
def setC (A:Nat→Nat→Int) (c:Nat) (v:Nat→Int):Nat→Nat→Int:=fun i j=>if j=c then v i else A i j
theorem det_congr:∀{n:Nat} {A B:Nat→Nat→Int},(∀i j,i<n→j<n→A i j=B i j)→det n A=det n B
 | 0,_,_,_=>rfl
 | n+1,A,B,h=>by
  simp only[det]
  refine sz_congr fun k hk=>?_
  rw[h 0 k (by omega) hk,det_congr (A:=minor A k) (B:=minor B k) fun i j hi hj=>h (i+1) (skip k j) (by omega) (by unfold skip;split<;>omega)]
theorem minor_setC_same {A:Nat→Nat→Int} {k:Nat} {v:Nat→Int}:minor (setC A k v) k=minor A k:=by
 funext i j
 unfold minor setC
 rw[if_neg]
 unfold skip
 split<;>omega
def pos' (k c:Nat):Nat:=if c<k then c else c - 1
theorem minor_setC {A:Nat→Nat→Int} {k c:Nat} {v:Nat→Int} (h:k≠c):minor (setC A c v) k=setC (minor A k) (pos' k c) (fun i=>v (i+1)):=by
 funext i j
 unfold minor setC skip pos'
 by_cases h1:j<k<;>by_cases h2:c<k
 ·simp only[h1,h2,if_true]
 ·simp only[h1,h2,if_true,if_false]
  rw[if_neg (by omega),if_neg (by omega)]
 ·simp only[h1,h2,if_true,if_false]
  rw[if_neg (by omega),if_neg (by omega)]
 ·simp only[h1,h2,if_false]
  by_cases h3:j+1=c
  ·rw[if_pos h3,if_pos (by omega)]
  ·rw[if_neg h3,if_neg (by omega)]
theorem det_add:∀{n:Nat} {A:Nat→Nat→Int} {c:Nat} {u v:Nat→Int},c<n→det n (setC A c fun i=>u i+v i)=det n (setC A c u)+det n (setC A c v)
 | n+1,A,c,u,v,hc=>by
  simp only[det]
  rw[←sz_add]
  refine sz_congr fun k hk=>?_
  by_cases h:k=c
  ·subst h
   simp only[minor_setC_same]
   have e:∀v:Nat→Int,setC A k v 0 k=v 0:=fun v=>by simp[setC]
   rw[e,e,e,Int.mul_add,Int.add_mul]
  ·have e:∀v:Nat→Int,setC A c v 0 k=A 0 k:=fun v=>by simp[setC,h]
   rw[minor_setC h,minor_setC h,minor_setC h,e,e,e,det_add (u:=fun i=>u (i+1)) (v:=fun i=>v (i+1)) (by unfold pos';split<;>omega),Int.mul_add]
theorem det_smul:∀{n:Nat} {A:Nat→Nat→Int} {c:Nat} {x:Int} {u:Nat→Int},c<n→det n (setC A c fun i=>x*u i)=x*det n (setC A c u)
 | n+1,A,c,x,u,hc=>by
  simp only[det]
  rw[←sz_mul]
  refine sz_congr fun k hk=>?_
  by_cases h:k=c
  ·subst h
   simp only[minor_setC_same]
   have e:∀v:Nat→Int,setC A k v 0 k=v 0:=fun v=>by simp[setC]
   rw[e,e]
   simp only[Int.mul_assoc,Int.mul_left_comm]
  ·have e:∀v:Nat→Int,setC A c v 0 k=A 0 k:=fun v=>by simp[setC,h]
   rw[minor_setC h,minor_setC h,e,e,det_smul (u:=fun i=>u (i+1)) (by unfold pos';split<;>omega)]
   simp only[Int.mul_assoc,Int.mul_left_comm]
theorem det_zero {n:Nat} {A:Nat→Nat→Int} {c:Nat} (hc:c<n):det n (setC A c fun _=>0)=0:=by
 have:=det_smul (n:=n) (A:=A) (x:=0) (u:=fun _=>0) hc
 simpa using this
theorem det_sum {n:Nat} {A:Nat→Nat→Int} {c:Nat} (hc:c<n):∀{m:Nat} {x:Nat→Int} {u:Nat→Nat→Int},det n (setC A c fun i=>sz m fun l=>x l*u l i)=sz m fun l=>x l*det n (setC A c (u l))
 | 0,x,u=>by simp only[sz];exact det_zero hc
 | m+1,x,u=>by
  simp only[sz]
  rw[det_add hc,det_smul hc,det_sum hc]
theorem det_adj:∀{n:Nat} {A:Nat→Nat→Int} {c:Nat},c+1<n→(∀i,i<n→A i c=A i (c+1))→det n A=0
 | n+1,A,c,hc,h=>by
  simp only[det]
  rw[sz_two (k:=c) (l:=c+1) (by omega) hc (by omega) fun k hk h1 h2=>?_]
  ·have e:det n (minor A c)=det n (minor A (c+1)):=by
    refine det_congr fun i j hi hj=>?_
    unfold minor skip
    by_cases h1:j<c
    ·rw[if_pos h1,if_pos (by omega)]
    ·by_cases h2:j=c
     ·subst h2
      rw[if_neg h1,if_pos (by omega)]
      exact (h (i+1) (by omega)).symm
     ·rw[if_neg h1,if_neg (by omega)]
   rw[e,sgd_succ,h 0 (by omega)]
   simp only[Int.neg_mul]
   omega
  ·have e:det n (minor A k)=0:=by
    refine det_adj (c:=pos' k c) ?_ fun i hi=>?_
    ·unfold pos';split<;>omega
    ·unfold minor skip pos'
     by_cases h3:c<k
     ·simp only[h3,if_true]
      rw[if_pos (by omega)]
      exact h (i+1) (by omega)
     ·simp only[h3,if_false]
      rw[if_neg (by omega),if_neg (by omega),show c - 1+1=c by omega]
      exact h (i+1) (by omega)
   rw[e,Int.mul_zero]
theorem setC_self (A:Nat→Nat→Int) (c:Nat):setC A c (fun i=>A i c)=A:=by
 funext i j
 unfold setC
 split
 ·rename_i h;rw[h]
 ·rfl
theorem setC_comm {A:Nat→Nat→Int} {c e:Nat} {u v:Nat→Int} (h:c≠e):setC (setC A c u) e v=setC (setC A e v) c u:=by
 funext i j
 unfold setC
 by_cases h1:j=c<;>by_cases h2:j=e
 ·omega
 ·simp[h1,h]
 ·simp[h2,Ne.symm h]
 ·simp[h1,h2]
theorem det_swap_adj {n:Nat} {A:Nat→Nat→Int} {c:Nat} {u v:Nat→Int} (hc:c+1<n):det n (setC (setC A c u) (c+1) v)= - det n (setC (setC A c v) (c+1) u):=by
 have h0:∀w:Nat→Int,det n (setC (setC A c w) (c+1) w)=0:=fun w=>det_adj hc fun i _=>by simp[setC]
 have h1:=h0 fun i=>u i+v i
 rw[det_add hc,setC_comm (by omega),setC_comm (u:=fun i=>u i+v i) (by omega),det_add (by omega),det_add (by omega),setC_comm (c:=c+1) (by omega),setC_comm (c:=c+1) (v:=v) (by omega),setC_comm (c:=c+1) (u:=v) (v:=u) (by omega),setC_comm (c:=c+1) (u:=v) (v:=v) (by omega),h0,h0] at h1
 omega
theorem det_eq:∀{k:Nat} {n:Nat} {A:Nat→Nat→Int} {c:Nat},c+k+1<n→(∀i,i<n→A i c=A i (c+k+1))→det n A=0
 | 0,n,A,c,hc,h=>det_adj hc h
 | k+1,n,A,c,hc,h=>by
  have e:A=setC (setC A (c+k+1) fun i=>A i (c+k+1)) (c+k+1+1) fun i=>A i (c+k+1+1):=by
   rw[setC_self,setC_self]
  rw[e,det_swap_adj (by omega)]
  have:det n (setC (setC A (c+k+1) fun i=>A i (c+k+1+1)) (c+k+1+1) fun i=>A i (c+k+1))=0:=by
   refine det_eq (k:=k) (c:=c) (by omega) fun i hi=>?_
   simp only[setC]
   rw[if_neg (by omega),if_neg (by omega),if_neg (by omega)]
   simp only[if_true]
   exact h i hi
  rw[this]
  rfl
theorem det_alt {n:Nat} {A:Nat→Nat→Int} {a b:Nat} (ha:a<n) (hb:b<n) (hab:a≠b) (h:∀i,i<n→A i a=A i b):det n A=0:=by
 by_cases hlt:a<b
 ·obtain ⟨k,rfl⟩:∃k,b=a+k+1:=⟨b - a - 1,by omega⟩
  exact det_eq hb h
 ·obtain ⟨k,rfl⟩:∃k,a=b+k+1:=⟨a - b - 1,by omega⟩
  exact det_eq ha fun i hi=>(h i hi).symm
theorem det_swap {n:Nat} {A:Nat→Nat→Int} {a b:Nat} {u v:Nat→Int} (ha:a<n) (hb:b<n) (hab:a≠b):det n (setC (setC A a u) b v)= - det n (setC (setC A a v) b u):=by
 have h0:∀w:Nat→Int,det n (setC (setC A a w) b w)=0:=fun w=>det_alt ha hb hab fun i _=>by simp[setC]
 have h1:=h0 fun i=>u i+v i
 rw[det_add hb,setC_comm hab,setC_comm (u:=fun i=>u i+v i) hab,det_add ha,det_add ha,setC_comm (c:=b) (Ne.symm hab),setC_comm (c:=b) (v:=v) (Ne.symm hab),setC_comm (c:=b) (u:=v) (v:=u) (Ne.symm hab),setC_comm (c:=b) (u:=v) (v:=v) (Ne.symm hab),h0,h0] at h1
 omega
def pz:Nat→(Nat→Int)→Int
 | 0,_=>1
 | n+1,f=>f 0*pz n fun i=>f (i+1)
end Dn
end Go.Proofs.YtmoiiokmfanlgaaGreat

namespace Go.Proofs.YtmoiiokmfanlgaaGreat
namespace Dn
def upd (β:Nat→Nat) (r c:Nat):Nat→Nat:=fun k=>if k=r then c else β k
def colsOf (M:Nat→Nat→Int) (γ:Nat→Nat):Nat→Nat→Int:=fun i k=>M i (γ k)
def dc (m:Nat) (M:Nat→Nat→Int) (γ:Nat→Nat):Int:=det m (colsOf M γ)
theorem colsOf_upd (M:Nat→Nat→Int) (β:Nat→Nat) (r c:Nat):colsOf M (upd β r c)=setC (colsOf M β) r (fun i=>M i c):=by
 funext i k
 unfold colsOf upd setC
 split<;>rfl
theorem upd_upd (β:Nat→Nat) (r c e:Nat):upd (upd β r c) r e=upd β r e:=by
 funext k
 unfold upd
 split<;>rfl
theorem upd_self (β:Nat→Nat) (r:Nat):upd β r (β r)=β:=by
 funext k
 unfold upd
 split
 ·rename_i h;rw[h]
 ·rfl
structure Tb (m w:Nat) (M T:Nat→Nat→Int) (d:Int) (β:Nat→Nat):Prop where
 dpos:0<d
 lt:∀i,i<m→β i<w
 co:∀k,k<m→∀j,j<w→d*M k j=sz m fun i=>T i j*M k (β i)
 cr:∃σ:Int,σ*σ=1∧d=σ*dc m M β∧∀i,i<m→∀j,j<w→T i j=σ*dc m M (upd β i j)
section
variable {m w:Nat} {M T:Nat→Nat→Int} {d:Int} {β:Nat→Nat}
theorem dc_upd_other {i k:Nat} (hi:i<m) (hk:k<m) (h:i≠k):dc m M (upd β i (β k))=0:=by
 refine det_alt hi hk h fun l _=>?_
 unfold colsOf upd
 rw[if_pos rfl,if_neg (Ne.symm h)]
theorem Tb.basis (h:Tb m w M T d β) {i:Nat} (hi:i<m):T i (β i)=d:=by
 obtain ⟨σ,_,h2,h3⟩:=h.cr
 rw[h3 i hi _ (h.lt i hi),upd_self,←h2]
theorem Tb.other (h:Tb m w M T d β) {i k:Nat} (hi:i<m) (hk:k<m) (hik:i≠k):T i (β k)=0:=by
 obtain ⟨σ,_,h2,h3⟩:=h.cr
 rw[h3 i hi _ (h.lt k hk),dc_upd_other hi hk hik,Int.mul_zero]
theorem Tb.inj (h:Tb m w M T d β) {i k:Nat} (hi:i<m) (hk:k<m) (hb:β i=β k):i=k:=by
 by_cases e:i=k
 ·exact e
 ·have h1:=h.other hi hk e
  rw[←hb,h.basis hi] at h1
  have:=h.dpos
  omega
theorem dc_two (h:Tb m w M T d β) {r i c j:Nat} (hr:r<m) (hi:i<m) (hri:r≠i) (hc:c<w) (hj:j<w) :
  d*d*dc m M (upd (upd β r c) i j)=(T r c*T i j - T i c*T r j)*dc m M β:=by
 obtain ⟨B,hB⟩:∃B,B=colsOf M β:=⟨_,rfl⟩
 have e1:d*d*dc m M (upd (upd β r c) i j)=det m (setC (setC B r fun q=>d*M q c) i fun q=>d*M q j):=by
  have a1:=det_smul (n:=m) (A:=setC B r fun q=>d*M q c) (c:=i) (x:=d) (u:=fun q=>M q j) hi
  have a2:=det_smul (n:=m) (A:=setC B i fun q=>M q j) (c:=r) (x:=d) (u:=fun q=>M q c) hr
  unfold dc
  rw[colsOf_upd,colsOf_upd,←hB,a1,setC_comm (u:=fun q=>d*M q c) hri,a2,setC_comm (u:=fun q=>M q c) hri,Int.mul_assoc]
 have e2:det m (setC (setC B r fun q=>d*M q c) i fun q=>d*M q j)=det m (setC (setC B r fun q=>sz m fun k=>T k c*B q k) i fun q=>sz m fun l=>T l j*B q l):=by
  refine det_congr fun p q hp hq=>?_
  unfold setC
  rw[hB]
  split
  ·exact h.co p hp j hj
  ·split
   ·exact h.co p hp c hc
   ·rfl
 rw[e1,e2,det_sum hi (x:=fun l=>T l j) (u:=fun l q=>B q l)]
 have e3:∀l,det m (setC (setC B r fun q=>sz m fun k=>T k c*B q k) i fun q=>B q l)=sz m fun k=>T k c*det m (setC (setC B i fun q=>B q l) r fun q=>B q k):=fun l=>by
  rw[setC_comm hri,det_sum hr (x:=fun k=>T k c) (u:=fun k q=>B q k)]
 have z1:∀k l,k<m→k≠r→k≠i→det m (setC (setC B i fun q=>B q l) r fun q=>B q k)=0:=fun k l hk h1 h2 =>
  det_alt hr hk h1.symm fun q _=>by simp[setC,h1,h2]
 have z2:∀k l,l<m→l≠r→l≠i→det m (setC (setC B i fun q=>B q l) r fun q=>B q k)=0:=fun k l hl h1 h2 =>
  det_alt hi hl h2.symm fun q _=>by simp[setC,h1,h2,hri.symm]
 have z3:det m (setC (setC B i fun q=>B q r) r fun q=>B q r)=0:=det_alt hi hr hri.symm fun q _=>by simp[setC,hri.symm]
 have z4:det m (setC (setC B i fun q=>B q i) r fun q=>B q i)=0:=det_alt hi hr hri.symm fun q _=>by simp[setC,hri.symm]
 have z5:det m (setC (setC B i fun q=>B q i) r fun q=>B q r)=det m B:=by
  rw[setC_self,setC_self]
 have z6:det m (setC (setC B i fun q=>B q r) r fun q=>B q i)= - det m B:=by
  rw[det_swap hi hr hri.symm,z5]
 have e4:∀l,l<m→(sz m fun k=>T k c*det m (setC (setC B i fun q=>B q l) r fun q=>B q k))=T r c*det m (setC (setC B i fun q=>B q l) r fun q=>B q r)+T i c*det m (setC (setC B i fun q=>B q l) r fun q=>B q i):=fun l _ =>
  sz_two hr hi hri fun k hk h1 h2=>by rw[z1 k l hk h1 h2,Int.mul_zero]
 rw[sz_congr (g:=fun l=>T l j*(T r c*det m (setC (setC B i fun q=>B q l) r fun q=>B q r)+T i c*det m (setC (setC B i fun q=>B q l) r fun q=>B q i))) fun l hl=>by rw[e3 l,e4 l hl]]
 rw[sz_two hr hi hri fun l hl h1 h2=>by rw[z2 r l hl h1 h2,z2 i l hl h1 h2];simp]
 rw[z3,z4,z5,z6]
 have:dc m M β=det m B:=by rw[hB];rfl
 rw[this]
 grind
def piv (T:Nat→Nat→Int) (d:Int) (r c i j:Nat):Int:=(T r c*T i j - T i c*T r j) / d
theorem piv_exact (h:Tb m w M T d β) {r i c j:Nat} (hr:r<m) (hi:i<m) (hri:r≠i) (hc:c<w) (hj:j<w):d*piv T d r c i j=T r c*T i j - T i c*T r j:=by
 obtain ⟨σ,h1,h2,_⟩:=h.cr
 have h3:=dc_two h hr hi hri hc hj
 have hd:=h.dpos
 have h4:dc m M β=σ*d:=by rw[h2,←Int.mul_assoc,h1,Int.one_mul]
 rw[h4] at h3
 have h5:d*(d*dc m M (upd (upd β r c) i j))=d*((T r c*T i j - T i c*T r j)*σ):=by
  rw[←Int.mul_assoc,h3]
  grind
 have h6:=Int.eq_of_mul_eq_mul_left (by omega) h5
 have h7:T r c*T i j - T i c*T r j=d*(σ*dc m M (upd (upd β r c) i j)):=by
  have:(T r c*T i j - T i c*T r j)*σ*σ=d*dc m M (upd (upd β r c) i j)*σ:=by rw[h6]
  rw[Int.mul_assoc,h1,Int.mul_one] at this
  rw[this]
  grind
 unfold piv
 rw[h7,Int.mul_ediv_cancel_left _ (by omega)]
theorem piv_eq (h:Tb m w M T d β) {σ:Int} (h1:σ*σ=1) (h2:d=σ*dc m M β) {r i c j:Nat} (hr:r<m) (hi:i<m) (hri:r≠i) (hc:c<w) (hj:j<w):piv T d r c i j=σ*dc m M (upd (upd β r c) i j):=by
 have h3:=dc_two h hr hi hri hc hj
 have hd:=h.dpos
 have h4:dc m M β=σ*d:=by rw[h2,←Int.mul_assoc,h1,Int.one_mul]
 have h5:=piv_exact h hr hi hri hc hj
 rw[h4,←h5] at h3
 have h6:(d*d)*dc m M (upd (upd β r c) i j)=(d*d)*(piv T d r c i j*σ):=by rw[h3];grind
 have h7:=Int.eq_of_mul_eq_mul_left (Int.ne_of_gt (Int.mul_pos hd hd)) h6
 rw[h7]
 grind
def sg (x:Int):Int:=if x<0 then -1 else 1
theorem sg_mul (x:Int):sg x*sg x=1:=by unfold sg;split<;>rfl
theorem sg_pos {x:Int} (h:x≠0):0<sg x*x:=by unfold sg;split<;>omega
def pivT (T:Nat→Nat→Int) (d:Int) (r c:Nat):Nat→Nat→Int:=fun i j=>sg (T r c)*(if i=r then T r j else piv T d r c i j)
theorem Tb.step (h:Tb m w M T d β) {r c:Nat} (hr:r<m) (hc:c<w) (he:T r c≠0):Tb m w M (pivT T d r c) (sg (T r c)*T r c) (upd β r c):=by
 have hd:=h.dpos
 refine ⟨sg_pos he,fun i hi=>?_,fun k hk j hj=>?_,?_⟩
 ·unfold upd
  split
  ·exact hc
  ·exact h.lt i hi
 ·have h1:∀i,i<m→d*((if i=r then T r j else piv T d r c i j)*M k (upd β r c i))=(T r c*(T i j*M k (β i)) - T r j*(T i c*M k (β i)))+(if i=r then d*(T r j*M k c) else 0):=fun i hi=>by
   unfold upd
   by_cases e:i=r
   ·subst e
    simp only[if_true]
    grind
   ·simp only[e,if_false,Int.add_zero]
    rw[←Int.mul_assoc,piv_exact h hr hi (Ne.symm e) hc hj]
    grind
  have h2:d*(sz m fun i=>(if i=r then T r j else piv T d r c i j)*M k (upd β r c i))=d*(T r c*M k j):=by
   rw[←sz_mul,sz_congr h1,sz_add,sz_sub,sz_mul,sz_mul,←h.co k hk j hj,←h.co k hk c hc,sz_one hr fun i _ hne=>if_neg hne,if_pos rfl]
   grind
  have h3:=Int.eq_of_mul_eq_mul_left (by omega) h2
  have h4:(sz m fun i=>pivT T d r c i j*M k (upd β r c i))=sg (T r c)*sz m fun i=>(if i=r then T r j else piv T d r c i j)*M k (upd β r c i):=by
   rw[←sz_mul]
   exact sz_congr fun i _=>by unfold pivT;rw[Int.mul_assoc]
  rw[h4,h3,Int.mul_assoc]
 ·obtain ⟨σ,h1,h2,h3⟩:=h.cr
  refine ⟨sg (T r c)*σ,?_,?_,fun i hi j hj=>?_⟩
  ·have:=sg_mul (T r c)
   grind
  ·rw[h3 r hr c hc]
   grind
  ·unfold pivT
   by_cases e:i=r
   ·subst e
    rw[if_pos rfl,h3 i hi j hj,upd_upd]
    grind
   ·rw[if_neg e,piv_eq h h1 h2 hr hi (Ne.symm e) hc hj]
    grind
theorem det_one:∀n:Nat,det n (fun i k=>if i=k then 1 else 0)=1
 | 0=>rfl
 | n+1=>by
  simp only[det]
  rw[sz_one (k:=0) (by omega) fun k _ hk=>by rw[if_neg (Ne.symm hk)];simp]
  have:det n (minor (fun i k=>if i=k then 1 else 0) 0)=det n (fun i k=>if i=k then 1 else 0):=det_congr fun i j _ _=>by
   unfold minor skip
   simp
  rw[this,det_one n]
  simp[sgd]
theorem Tb.first {a:Nat→Nat} (ha:∀i,i<m→a i<w) (hM:∀k,k<m→∀i,i<m→M k (a i)=if k=i then 1 else 0):Tb m w M M 1 a:=by
 have h1:dc m M a=1:=by
  unfold dc
  rw[←det_one m]
  exact det_congr fun i j hi hj=>hM i hi j hj
 refine ⟨by omega,ha,fun k hk j hj=>?_,1,by omega,by rw[h1];rfl,fun i hi j hj=>?_⟩
 ·rw[sz_one hk fun i hi hne=>by rw[hM k hk i hi,if_neg (Ne.symm hne),Int.mul_zero],hM k hk k hk,if_pos rfl]
  omega
 ·unfold dc
  rw[colsOf_upd]
  have e:det m (setC (colsOf M a) i fun q=>M q j)=det m (setC (colsOf M a) i fun q=>sz m fun k=>M k j*colsOf M a q k):=by
   refine det_congr fun p q hp hq=>?_
   unfold setC
   split
   ·show M p j=sz m fun k=>M k j*colsOf M a p k
    rw[sz_one hp fun k hk hne=>by unfold colsOf;rw[hM p hp k hk,if_neg (Ne.symm hne),Int.mul_zero]]
    unfold colsOf
    rw[hM p hp p hp,if_pos rfl]
    omega
   ·rfl
  rw[e,det_sum hi (x:=fun k=>M k j) (u:=fun k q=>colsOf M a q k),sz_one hi fun k hk hne=>by
   rw[det_alt hi hk (Ne.symm hne) fun q _=>by simp[setC,hne],Int.mul_zero],setC_self]
  have:det m (colsOf M a)=1:=h1
  rw[this]
  omega
theorem Tb.rows (h:Tb m w M T d β) {a:Nat→Nat} (ha:∀i,i<m→a i<w) (hM:∀k,k<m→∀i,i<m→M k (a i)=if k=i then 1 else 0) {i j:Nat} (hi:i<m) (hj:j<w):T i j=sz m fun k=>T i (a k)*M k j:=by
 obtain ⟨σ,h1,h2,h3⟩:=h.cr
 rw[h3 i hi j hj]
 have e:dc m M (upd β i j)=sz m fun k=>M k j*dc m M (upd β i (a k)):=by
  unfold dc
  rw[colsOf_upd]
  have e:det m (setC (colsOf M β) i fun q=>M q j)=det m (setC (colsOf M β) i fun q=>sz m fun k=>M k j*M q (a k)):=by
   refine det_congr fun p q hp hq=>?_
   unfold setC
   split
   ·show M p j=sz m fun k=>M k j*M p (a k)
    rw[sz_one hp fun k hk hne=>by rw[hM p hp k hk,if_neg (Ne.symm hne),Int.mul_zero],hM p hp p hp,if_pos rfl]
    omega
   ·rfl
  rw[e,det_sum hi (x:=fun k=>M k j) (u:=fun k q=>M q (a k))]
  exact sz_congr fun k _=>by rw[colsOf_upd]
 rw[e,←sz_mul]
 exact sz_congr fun k hk=>by rw[h3 i hi _ (ha k hk)];grind
theorem Tb.bound (h:Tb m w M T d β) {i j:Nat} (hi:i<m) (hj:j<w):ab (T i j)=ab (dc m M (upd β i j)):=by
 obtain ⟨σ,h1,_,h3⟩:=h.cr
 rw[h3 i hi j hj,ab_mul]
 have h4:ab σ*ab σ=1:=by rw[←ab_mul,h1];rfl
 have h5:ab σ=1:=by
  have h6:=ab_nonneg σ
  by_cases h7:ab σ≤1
  ·have:ab σ≠0:=fun e=>by rw[e] at h4;simp at h4
   omega
  ·exfalso
   have:2*2≤ab σ*ab σ:=Int.mul_le_mul (by omega) (by omega) (by omega) h6
   omega
 rw[h5,Int.one_mul]
end
end Dn
end Go.Proofs.YtmoiiokmfanlgaaGreat

namespace Go.Proofs.YtmoiiokmfanlgaaGreat
namespace Dn
structure Sx where
 T:Nat→Nat→Int
 d:Int
 β:Nat→Nat
def zr (m:Nat) (wc:Nat→Int) (S:Sx) (j:Nat):Int:=wc j*S.d - sz m fun i=>wc (S.β i)*S.T i j
structure Leaves (m R:Nat) (S:Sx) (c r:Nat):Prop where
 lt:r<m
 pos:0<S.T r c
 le:∀i,i<m→0<S.T i c→S.T r R*S.T i c≤S.T i R*S.T r c
 tie:∀i,i<m→0<S.T i c→S.T r R*S.T i c=S.T i R*S.T r c→S.β r≤S.β i
structure Enters (m N:Nat) (wc:Nat→Int) (S:Sx) (c:Nat):Prop where
 lt:c<N
 neg:zr m wc S c<0
 least:∀j,j<c→0≤zr m wc S j
structure StepAt (m w:Nat) (S S':Sx) (r c:Nat):Prop where
 T:∀i j,i<m→j<w→S'.T i j=if i=r then S.T r j else piv S.T S.d r c i j
 d:S'.d=S.T r c
 β:∀i,i<m→S'.β i=upd S.β r c i
structure Step (m w N R:Nat) (wc:Nat→Int) (S S':Sx) (r c:Nat):Prop where
 enters:Enters m N wc S c
 leaves:Leaves m R S c r
 at':StepAt m w S S' r c
structure Val (m w N R:Nat) (M:Nat→Nat→Int) (S:Sx):Prop where
 tb:Tb m w M S.T S.d S.β
 feas:∀i,i<m→0≤S.T i R
 ne:∀i,i<m→S.β i≠R
section
variable {m w N R:Nat} {M:Nat→Nat→Int} {wc:Nat→Int}
theorem dc_congr {β β':Nat→Nat} (h:∀i,i<m→β' i=β i):dc m M β'=dc m M β:=det_congr fun i j _ hj=>by unfold colsOf;rw[h j hj]
theorem Tb.congr {T T':Nat→Nat→Int} {d:Int} {β β':Nat→Nat} (h:Tb m w M T d β) (hT:∀i j,i<m→j<w→T' i j=T i j) (hβ:∀i,i<m→β' i=β i):Tb m w M T' d β':=by
 refine ⟨h.dpos,fun i hi=>by rw[hβ i hi];exact h.lt i hi,fun k hk j hj=>?_,?_⟩
 ·rw[h.co k hk j hj]
  exact sz_congr fun i hi=>by rw[hT i j hi hj,hβ i hi]
 ·obtain ⟨σ,h1,h2,h3⟩:=h.cr
  refine ⟨σ,h1,by rw[dc_congr hβ];exact h2,fun i hi j hj=>?_⟩
  rw[hT i j hi hj,h3 i hi j hj]
  congr 1
  exact (dc_congr fun k hk=>by unfold upd;rw[hβ k hk]).symm
theorem Val.stepAt {S S':Sx} (h:Val m w N R M S) (hR:R<w) {r c:Nat} (hc:c<w) (hcR:c≠R) (hl:Leaves m R S c r) (hs:StepAt m w S S' r c):Val m w N R M S':=by
 have hr:=hl.lt
 have e1:sg (S.T r c)=1:=by unfold sg;rw[if_neg (by have:=hl.pos;omega)]
 have h1:=h.tb.step hr hc (by have:=hl.pos;omega)
 have h2:=h1.congr (T':=S'.T) (β':=S'.β) (fun i j hi hj=>by rw[hs.T i j hi hj];unfold pivT;rw[e1,Int.one_mul]) hs.β
 rw[e1,Int.one_mul,←hs.d] at h2
 refine ⟨h2,fun i hi=>?_,fun i hi=>?_⟩
 ·rw[hs.T i R hi hR]
  split
  ·exact h.feas r hr
  ·rename_i hne
   have h3:=piv_exact h.tb hr hi (Ne.symm hne) hc hR
   have h4:=h.tb.dpos
   have h5:=hl.pos
   have h6:0≤S.T r c*S.T i R - S.T i c*S.T r R:=by
    by_cases h7:0<S.T i c
    ·have:=hl.le i hi h7
     have e1:=Int.mul_comm (S.T r R) (S.T i c)
     have e2:=Int.mul_comm (S.T i R) (S.T r c)
     omega
    ·have h8:0≤S.T r c*S.T i R:=Int.mul_nonneg (by omega) (h.feas i hi)
     have h9:0≤ -S.T i c*S.T r R:=Int.mul_nonneg (by omega) (h.feas r hr)
     rw[Int.neg_mul] at h9
     omega
   rw[←h3] at h6
   exact Int.nonneg_of_mul_nonneg_right h6 h4
 ·rw[hs.β i hi]
  unfold upd
  split
  ·exact hcR
  ·exact h.ne i hi
theorem zr_basis {S:Sx} (h:Tb m w M S.T S.d S.β) {i:Nat} (hi:i<m):zr m wc S (S.β i)=0:=by
 unfold zr
 rw[sz_one hi fun k hk hne=>by rw[h.other hk hi hne,Int.mul_zero],h.basis hi]
 omega
theorem zr_rows {S:Sx} (h:Tb m w M S.T S.d S.β) {a:Nat→Nat} (ha:∀i,i<m→a i<w) (hM:∀k,k<m→∀i,i<m→M k (a i)=if k=i then 1 else 0) {j:Nat} (hj:j<w) :
  zr m wc S j=wc j*S.d - sz m fun k=>(sz m fun i=>wc (S.β i)*S.T i (a k))*M k j:=by
 unfold zr
 congr 1
 rw[sz_congr (g:=fun i=>sz m fun k=>wc (S.β i)*S.T i (a k)*M k j) fun i hi=>by
  rw[h.rows ha hM hi hj,←sz_mul]
  exact sz_congr fun k _=>by rw[Int.mul_assoc]]
 rw[sz_swap]
 exact sz_congr fun k _=>sz_mulr
theorem zr_step {S S':Sx} (h:Tb m w M S.T S.d S.β) {r c j:Nat} (hr:r<m) (hc:c<w) (hj:j<w) (hs:StepAt m w S S' r c):S.d*zr m wc S' j=S.T r c*zr m wc S j - zr m wc S c*S.T r j:=by
 have h1:∀i,i<m→S.d*(wc (S'.β i)*S'.T i j)=(S.T r c*(wc (S.β i)*S.T i j) - S.T r j*(wc (S.β i)*S.T i c))+(if i=r then S.d*(wc c*S.T r j) else 0):=fun i hi=>by
  rw[hs.β i hi,hs.T i j hi hj]
  unfold upd
  by_cases e:i=r
  ·subst e
   simp only[if_true]
   grind
  ·simp only[e,if_false,Int.add_zero]
   have:=piv_exact h hr hi (Ne.symm e) hc hj
   grind
 have h2:S.d*(sz m fun i=>wc (S'.β i)*S'.T i j)=S.T r c*(sz m fun i=>wc (S.β i)*S.T i j) - S.T r j*(sz m fun i=>wc (S.β i)*S.T i c)+S.d*(wc c*S.T r j):=by
  rw[←sz_mul,sz_congr h1,sz_add,sz_sub,sz_mul,sz_mul,sz_one hr fun i _ hne=>if_neg hne,if_pos rfl]
 unfold zr
 rw[Int.mul_sub,h2,hs.d]
 grind
theorem zr_two {S S':Sx} (h:Tb m w M S.T S.d S.β) (h':Tb m w M S'.T S'.d S'.β) {a:Nat→Nat} (ha:∀i,i<m→a i<w) (hM:∀k,k<m→∀i,i<m→M k (a i)=if k=i then 1 else 0) {s:Nat} (hs:s<w) :
  S.d*zr m wc S' s=S'.d*zr m wc S s+sz m fun i=>S.T i s*zr m wc S' (S.β i):=by
 have e1:=zr_rows (wc:=wc) h' ha hM hs
 have e2:∀i,i<m→S.T i s*zr m wc S' (S.β i)=S'.d*(wc (S.β i)*S.T i s) - sz m fun k=>(sz m fun i=>wc (S'.β i)*S'.T i (a k))*(S.T i s*M k (S.β i)):=fun i hi=>by
  rw[zr_rows (wc:=wc) h' ha hM (h.lt i hi),Int.mul_sub,←sz_mul]
  congr 1
  ·grind
  ·exact sz_congr fun k _=>by grind
 rw[sz_congr e2,sz_sub,sz_mul,sz_swap]
 have e3:(sz m fun k=>sz m fun i=>(sz m fun i=>wc (S'.β i)*S'.T i (a k))*(S.T i s*M k (S.β i)))=S.d*sz m fun k=>(sz m fun i=>wc (S'.β i)*S'.T i (a k))*M k s:=by
  rw[←sz_mul]
  refine sz_congr fun k hk=>?_
  rw[sz_mul,←h.co k hk s hs]
  grind
 rw[e3,e1]
 unfold zr
 grind
theorem left_between {β:Nat→Nat→Nat} {q:Nat}:∀{k i:Nat},(∃p,p<m∧β i p=q)→(¬ ∃p,p<m∧β (i+k) p=q)→∃n,i≤n∧n<i+k∧(∃p,p<m∧β n p=q)∧¬ ∃p,p<m∧β (n+1) p=q
 | 0,i,h1,h2=>(h2 h1).elim
 | k+1,i,h1,h2=>by
  by_cases h:∃p,p<m∧β (i+k) p=q
  ·exact ⟨i+k,by omega,by omega,h,h2⟩
  ·obtain ⟨n,h3,h4,h5,h6⟩:=left_between h1 h
   exact ⟨n,h3,by omega,h5,h6⟩
theorem come_between {β:Nat→Nat→Nat} {q:Nat}:∀{k i:Nat},(¬ ∃p,p<m∧β i p=q)→(∃p,p<m∧β (i+k) p=q)→∃n,i≤n∧n<i+k∧(¬ ∃p,p<m∧β n p=q)∧∃p,p<m∧β (n+1) p=q
 | 0,i,h1,h2=>(h1 h2).elim
 | k+1,i,h1,h2=>by
  by_cases h:∃p,p<m∧β (i+k) p=q
  ·obtain ⟨n,h3,h4,h5,h6⟩:=come_between h1 h
   exact ⟨n,h3,by omega,h5,h6⟩
  ·exact ⟨i+k,by omega,by omega,h,h2⟩
theorem max_of {k:Nat} {f:Nat→Nat}:0<k→∃n,n<k∧∀i,i<k→f i≤f n:=by
 induction k with
 | zero=>intro h;omega
 | succ k ih =>
  intro _
  by_cases hk:k=0
  ·subst hk
   exact ⟨0,by omega,fun i hi=>by rw[show i=0 by omega];exact Nat.le_refl _⟩
  ·obtain ⟨n,h1,h2⟩:=ih (by omega)
   by_cases h3:f k≤f n
   ·refine ⟨n,by omega,fun i hi=>?_⟩
    by_cases h4:i=k
    ·rw[h4];exact h3
    ·exact h2 i (by omega)
   ·refine ⟨k,by omega,fun i hi=>?_⟩
    by_cases h4:i=k
    ·rw[h4];exact Nat.le_refl _
    ·have:=h2 i (by omega);omega
theorem le_cancel {e x y:Int} (he:0<e) (h:e*x≤e*y):x≤y:=Int.le_of_mul_le_mul_left h he
structure Run (m w N R:Nat) (M:Nat→Nat→Int) (wc:Nat→Int) (k:Nat) (S:Nat→Sx) (r c:Nat→Nat):Prop where
 val:∀n,n≤k→Val m w N R M (S n)
 step:∀n,n<k→Step m w N R wc (S n) (S (n+1)) (r n) (c n)
theorem Run.of {k:Nat} {S:Nat→Sx} {r c:Nat→Nat} (hN:N≤R) (hR:R<w) (h0:Val m w N R M (S 0)) (hs:∀n,n<k→Step m w N R wc (S n) (S (n+1)) (r n) (c n)):Run m w N R M wc k S r c:=by
 refine ⟨fun n=>?_,hs⟩
 induction n with
 | zero=>intro _;exact h0
 | succ n ih =>
  intro hn
  have h1:=hs n (by omega)
  have:=h1.enters.lt
  exact (ih (by omega)).stepAt hR (by omega) (by omega) h1.leaves h1.at'
theorem Run.nocycle {k:Nat} {S:Nat→Sx} {r c:Nat→Nat} {a:Nat→Nat} (ha:∀i,i<m→a i<w) (hM:∀k,k<m→∀i,i<m→M k (a i)=if k=i then 1 else 0) (hN:N≤R) (hR:R<w)
  (h:Run m w N R M wc k S r c) (hk:0<k):¬ ∀i,i<m→(S k).β i=(S 0).β i:=by
 intro hcyc
 have cw:∀n,n<k→c n<w:=fun n hn=>by have:=(h.step n hn).enters.lt;omega
 have dp:∀n,n≤k→0<(S n).d:=fun n hn=>(h.val n hn).tb.dpos
 have vstep:∀n,n<k→zr m wc (S n) R*(S (n+1)).d≤zr m wc (S (n+1)) R*(S n).d∧((S n).T (r n) R≠0→zr m wc (S n) R*(S (n+1)).d<zr m wc (S (n+1)) R*(S n).d):=fun n hn=>by
  have hs:=h.step n hn
  have h1:=zr_step (wc:=wc) (h.val n (by omega)).tb hs.leaves.lt (cw n hn) hR hs.at'
  have h2:=hs.enters.neg
  have h3:=(h.val n (by omega)).feas (r n) hs.leaves.lt
  have h4:0≤ -zr m wc (S n) (c n)*(S n).T (r n) R:=Int.mul_nonneg (by omega) h3
  rw[Int.neg_mul] at h4
  rw[hs.at'.d,Int.mul_comm (zr m wc (S (n+1)) R),h1,Int.mul_comm (zr m wc (S n) R)]
  refine ⟨by omega,fun hne=>?_⟩
  have h5:0< -zr m wc (S n) (c n)*(S n).T (r n) R:=Int.mul_pos (by omega) (by omega)
  rw[Int.neg_mul] at h5
  omega
 have vle:∀i j,i+j≤k→zr m wc (S i) R*(S (i+j)).d≤zr m wc (S (i+j)) R*(S i).d:=by
  intro i j
  induction j with
  | zero=>intro _;exact Int.le_refl _
  | succ j ih =>
   intro hj
   have h1:=ih (by omega)
   have h2:=(vstep (i+j) (by omega)).1
   have d1:=dp i (by omega)
   have d2:=dp (i+j) (by omega)
   have d3:=dp (i+j+1) (by omega)
   refine le_cancel d2 ?_
   have h3:=Int.mul_le_mul_of_nonneg_right h1 (Int.le_of_lt d3)
   have h4:=Int.mul_le_mul_of_nonneg_right h2 (Int.le_of_lt d1)
   rw[show i+(j+1)=i+j+1 by omega]
   calc (S (i+j)).d*(zr m wc (S i) R*(S (i+j+1)).d)=zr m wc (S i) R*(S (i+j)).d*(S (i+j+1)).d:=by grind
    _≤zr m wc (S (i+j)) R*(S i).d*(S (i+j+1)).d:=h3
    _=zr m wc (S (i+j)) R*(S (i+j+1)).d*(S i).d:=by grind
    _≤zr m wc (S (i+j+1)) R*(S (i+j)).d*(S i).d:=h4
    _=(S (i+j)).d*(zr m wc (S (i+j+1)) R*(S i).d):=by grind
 have same:(S k).d=(S 0).d∧∀i j,i<m→j<w→(S k).T i j=(S 0).T i j:=by
  obtain ⟨σ,s1,s2,s3⟩:=(h.val k (Nat.le_refl _)).tb.cr
  obtain ⟨τ,t1,t2,t3⟩:=(h.val 0 (by omega)).tb.cr
  rw[dc_congr hcyc] at s2
  have p1:=dp k (Nat.le_refl _)
  have p2:=dp 0 (by omega)
  have e:σ=τ:=by
   have h1:σ*(S k).d=dc m M (S 0).β:=by rw[s2,←Int.mul_assoc,s1,Int.one_mul]
   have h2:τ*(S 0).d=dc m M (S 0).β:=by rw[t2,←Int.mul_assoc,t1,Int.one_mul]
   have pm:∀x:Int,x*x=1→x=1∨x= -1:=fun x hx=>by
    have h4:x.natAbs*x.natAbs=1:=by
     have:=congrArg Int.natAbs hx
     rwa [Int.natAbs_mul] at this
    have h5:x.natAbs=1:=Nat.eq_one_of_mul_eq_one_left h4
    omega
   rcases pm σ s1 with rfl | rfl<;>rcases pm τ t1 with rfl | rfl<;>omega
  refine ⟨by rw[s2,e];exact t2.symm,fun i j hi hj=>?_⟩
  rw[s3 i hi j hj,t3 i hi j hj,e]
  congr 1
  exact dc_congr fun l hl=>by unfold upd;rw[hcyc l hl]
 have vend:zr m wc (S k) R=zr m wc (S 0) R:=by
  unfold zr
  rw[same.1]
  congr 1
  exact sz_congr fun i hi=>by rw[hcyc i hi,same.2 i R hi hR]
 have flat:∀n,n<k→(S n).T (r n) R=0:=fun n hn=>by
  by_cases e:(S n).T (r n) R=0
  ·exact e
  ·exfalso
   have h1:=(vstep n hn).2 e
   have h2:=vle 0 n (by omega)
   have h3:=vle (n+1) (k - (n+1)) (by omega)
   rw[Nat.zero_add] at h2
   rw[show n+1+(k - (n+1))=k by omega,vend,same.1] at h3
   have d0:=dp 0 (by omega)
   have d1:=dp n (by omega)
   have d2:=dp (n+1) (by omega)
   have h4:=Int.mul_lt_mul_of_pos_right h1 d0
   have h5:=Int.mul_le_mul_of_nonneg_right h2 (Int.le_of_lt d2)
   have h6:=Int.mul_le_mul_of_nonneg_right h3 (Int.le_of_lt d1)
   have:zr m wc (S 0) R*(S n).d*(S (n+1)).d<zr m wc (S 0) R*(S n).d*(S (n+1)).d:=by
    calc zr m wc (S 0) R*(S n).d*(S (n+1)).d≤zr m wc (S n) R*(S 0).d*(S (n+1)).d:=h5
     _=zr m wc (S n) R*(S (n+1)).d*(S 0).d:=by grind
     _<zr m wc (S (n+1)) R*(S n).d*(S 0).d:=h4
     _=zr m wc (S (n+1)) R*(S 0).d*(S n).d:=by grind
     _≤zr m wc (S 0) R*(S (n+1)).d*(S n).d:=h6
     _=zr m wc (S 0) R*(S n).d*(S (n+1)).d:=by grind
   omega
 have zeroStep:∀n q,n<k→((∀i,i<m→(S n).β i=q→(S n).T i R=0)↔(∀i,i<m→(S (n+1)).β i=q→(S (n+1)).T i R=0)):=fun n q hn=>by
  have hs:=h.step n hn
  have hf:=flat n hn
  have htb:=(h.val n (by omega)).tb
  have key:∀i,i<m→i≠r n→((S (n+1)).T i R=0↔(S n).T i R=0):=fun i hi hne=>by
   rw[hs.at'.T i R hi hR,if_neg hne]
   have h1:=piv_exact htb hs.leaves.lt hi (Ne.symm hne) (cw n hn) hR
   rw[hf,Int.mul_zero,Int.sub_zero] at h1
   have h2:=hs.leaves.pos
   have h3:=dp n (by omega)
   constructor
   ·intro e
    rw[e,Int.mul_zero] at h1
    rcases Int.mul_eq_zero.1 h1.symm with h4 | h4
    ·omega
    ·exact h4
   ·intro e
    rw[e,Int.mul_zero] at h1
    rcases Int.mul_eq_zero.1 h1 with h4 | h4
    ·omega
    ·exact h4
  constructor
  ·intro hz i hi hb
   by_cases e:i=r n
   ·rw[e,hs.at'.T _ R hs.leaves.lt hR,if_pos rfl];exact hf
   ·rw[hs.at'.β i hi] at hb
    unfold upd at hb
    rw[if_neg e] at hb
    exact (key i hi e).2 (hz i hi hb)
  ·intro hz i hi hb
   by_cases e:i=r n
   ·rw[e];exact hf
   ·refine (key i hi e).1 (hz i hi ?_)
    rw[hs.at'.β i hi]
    unfold upd
    rw[if_neg e]
    exact hb
 have zeroAll:∀q n,n≤k→((∀i,i<m→(S 0).β i=q→(S 0).T i R=0)↔(∀i,i<m→(S n).β i=q→(S n).T i R=0)):=fun q n=>by
  induction n with
  | zero=>intro _;exact Iff.rfl
  | succ n ih=>intro hn;exact (ih (by omega)).trans (zeroStep n q (by omega))
 have comes:∀n q,n<k→(¬ ∃p,p<m∧(S n).β p=q)→(∃p,p<m∧(S (n+1)).β p=q)→q=c n:=fun n q hn h1 ⟨p,hp,hq⟩=>by
  have hs:=h.step n hn
  rw[hs.at'.β p hp] at hq
  unfold upd at hq
  split at hq
  ·exact hq.symm
  ·exact (h1 ⟨p,hp,hq⟩).elim
 have goes:∀n q,n<k→(∃p,p<m∧(S n).β p=q)→(¬ ∃p,p<m∧(S (n+1)).β p=q)→q=(S n).β (r n):=fun n q hn ⟨p,hp,hq⟩ h1=>by
  have hs:=h.step n hn
  by_cases e:p=r n
  ·rw[←e];exact hq.symm
  ·refine (h1 ⟨p,hp,?_⟩).elim
   rw[hs.at'.β p hp]
   unfold upd
   rw[if_neg e]
   exact hq
 have notIn:∀n,n<k→¬ ∃p,p<m∧(S n).β p=c n:=fun n hn ⟨p,hp,hq⟩=>by
  have hs:=h.step n hn
  have h1:=hs.enters.neg
  rw[←hq,zr_basis (h.val n (by omega)).tb hp] at h1
  omega
 have isIn:∀n,n<k→∃p,p<m∧(S (n+1)).β p=c n:=fun n hn=>by
  have hs:=h.step n hn
  refine ⟨r n,hs.leaves.lt,?_⟩
  rw[hs.at'.β _ hs.leaves.lt]
  unfold upd
  rw[if_pos rfl]
 have ends:∀q,(∃p,p<m∧(S k).β p=q)↔∃p,p<m∧(S 0).β p=q:=fun q=>by
  constructor
  ·rintro ⟨p,hp,hq⟩;exact ⟨p,hp,by rw[←hcyc p hp];exact hq⟩
  ·rintro ⟨p,hp,hq⟩;exact ⟨p,hp,by rw[hcyc p hp];exact hq⟩
 obtain ⟨ns,hns,hmax⟩:=max_of (f:=c) hk
 have leaves:∃n,n<k∧(S n).β (r n)=c ns:=by
  by_cases h0:∃p,p<m∧(S 0).β p=c ns
  ·obtain ⟨n,h1,h2,h3,h4⟩:=left_between (β:=fun n=>(S n).β) (k:=ns) (i:=0) h0 (by rw[Nat.zero_add];exact notIn ns hns)
   exact ⟨n,by omega,(goes n _ (by omega) h3 h4).symm⟩
  ·have h1:¬ ∃p,p<m∧(S k).β p=c ns:=fun e=>h0 ((ends _).1 e)
   obtain ⟨n,h2,h3,h4,h5⟩:=left_between (β:=fun n=>(S n).β) (k:=k - (ns+1)) (i:=ns+1) (isIn ns hns) (by rw[show ns+1+(k - (ns+1))=k by omega];exact h1)
   exact ⟨n,by omega,(goes n _ (by omega) h4 h5).symm⟩
 obtain ⟨n,hn,hleave⟩:=leaves
 have hs:=h.step n hn
 have hst:=h.step ns hns
 have vn:=h.val n (by omega)
 have vs:=h.val ns (by omega)
 have hcn:=hmax n hn
 have hne:c n≠c ns:=fun e=>notIn n hn ⟨r n,hs.leaves.lt,by rw[hleave];exact e.symm⟩
 have id:=zr_two (wc:=wc) vn.tb vs.tb ha hM (cw n hn)
 have z1:0≤zr m wc (S ns) (c n):=hst.enters.least (c n) (by omega)
 have z2:=hs.enters.neg
 have d1:=dp n (by omega)
 have d2:=dp ns (by omega)
 have hsum:0<sz m fun i=>(S n).T i (c n)*zr m wc (S ns) ((S n).β i):=by
  have h1:0≤(S n).d*zr m wc (S ns) (c n):=Int.mul_nonneg (by omega) z1
  have h2:0<(S ns).d* -zr m wc (S n) (c n):=Int.mul_pos d2 (by omega)
  rw[Int.mul_neg] at h2
  omega
 have hex:∃i,i<m∧0<(S n).T i (c n)*zr m wc (S ns) ((S n).β i):=by
  by_cases e:∃i,i<m∧0<(S n).T i (c n)*zr m wc (S ns) ((S n).β i)
  ·exact e
  ·exfalso
   have:=sz_le (n:=m) (f:=fun i=>(S n).T i (c n)*zr m wc (S ns) ((S n).β i)) (g:=fun _=>0) fun i hi=>Int.not_lt.1 fun h'=>e ⟨i,hi,h'⟩
   rw[sz_zero (f:=fun _=>0) fun _ _=>rfl] at this
   omega
 obtain ⟨i,hi,hpos⟩:=hex
 have hq0:zr m wc (S ns) ((S n).β i)≠0:=fun e=>by rw[e,Int.mul_zero] at hpos;omega
 have hq1:¬ ∃p,p<m∧(S ns).β p=(S n).β i:=fun ⟨p,hp,hq⟩=>hq0 (by rw[←hq];exact zr_basis vs.tb hp)
 have hq2:∃p,p<m∧(S n).β p=(S n).β i:=⟨i,hi,rfl⟩
 have hq3:∃n',n'<k∧(S n).β i=c n':=by
  by_cases hlt:ns<n
  ·obtain ⟨n',h1,h2,h3,h4⟩:=come_between (β:=fun n=>(S n).β) (k:=n - ns) (i:=ns) hq1 (by rw[show ns+(n - ns)=n by omega];exact hq2)
   exact ⟨n',by omega,comes n' _ (by omega) h3 h4⟩
  ·by_cases h0:∃p,p<m∧(S 0).β p=(S n).β i
   ·obtain ⟨n',h1,h2,h3,h4⟩:=come_between (β:=fun n=>(S n).β) (k:=k - ns) (i:=ns) hq1 (by rw[show ns+(k - ns)=k by omega];exact (ends _).2 h0)
    exact ⟨n',by omega,comes n' _ (by omega) h3 h4⟩
   ·obtain ⟨n',h1,h2,h3,h4⟩:=come_between (β:=fun n=>(S n).β) (k:=n) (i:=0) h0 (by rw[Nat.zero_add];exact hq2)
    exact ⟨n',by omega,comes n' _ (by omega) h3 h4⟩
 obtain ⟨n',hn',hq4⟩:=hq3
 have hq5:(S n).β i≤c ns:=by rw[hq4];exact hmax n' hn'
 by_cases hqt:(S n).β i=c ns
 ·have:i=r n:=vn.tb.inj hi hs.leaves.lt (by rw[hqt,hleave])
  rw[this,hleave] at hpos
  have h1:=hs.leaves.pos
  have h2:=hst.enters.neg
  have h3:0<(S n).T (r n) (c n)* -zr m wc (S ns) (c ns):=Int.mul_pos h1 (by omega)
  rw[Int.mul_neg] at h3
  omega
 ·have z3:0≤zr m wc (S ns) ((S n).β i):=hst.enters.least _ (by omega)
  have hTi:0<(S n).T i (c n):=by
   by_cases e:0<(S n).T i (c n)
   ·exact e
   ·exfalso
    have:0≤ -(S n).T i (c n)*zr m wc (S ns) ((S n).β i):=Int.mul_nonneg (by omega) z3
    rw[Int.neg_mul] at this
    omega
  have hiR:(S n).T i R=0:=((zeroAll _ n (by omega)).1 ((zeroAll _ ns (by omega)).2 fun p hp hq=>(hq1 ⟨p,hp,hq⟩).elim)) i hi rfl
  have:=hs.leaves.tie i hi hTi (by rw[flat n hn,hiR,Int.zero_mul,Int.zero_mul])
  rw[hleave] at this
  omega
end
end Dn
end Go.Proofs.YtmoiiokmfanlgaaGreat

namespace Go.Proofs.YtmoiiokmfanlgaaGreat
namespace Dn
theorem pigeon:∀(K:Nat) (f:Nat→Nat),(∀i,i≤K→f i<K)→∃i j,i<j∧j≤K∧f i=f j
 | 0,f,h=>by have:=h 0 (by omega);omega
 | K+1,f,h=>by
  by_cases e:∃i,i≤K∧f i=f (K+1)
  ·obtain ⟨i,h1,h2⟩:=e
   exact ⟨i,K+1,by omega,by omega,h2⟩
  ·
   obtain ⟨i,j,h1,h2,h3⟩:=pigeon K (fun i=>if f i<f (K+1) then f i else f i - 1) fun i hi=>by
    have h4:=h i (by omega)
    have h5:=h (K+1) (by omega)
    have h6:f i≠f (K+1):=fun e'=>e ⟨i,hi,e'⟩
    show (if f i<f (K+1) then f i else f i - 1)<K
    split<;>omega
   refine ⟨i,j,h1,by omega,?_⟩
   have h6:f i≠f (K+1):=fun e'=>e ⟨i,by omega,e'⟩
   have h7:f j≠f (K+1):=fun e'=>e ⟨j,by omega,e'⟩
   have h3:(if f i<f (K+1) then f i else f i - 1)=(if f j<f (K+1) then f j else f j - 1):=h3
   split at h3<;>split at h3<;>omega
def code (w:Nat) (β:Nat→Nat):Nat→Nat
 | 0=>0
 | m+1=>code w β m*w+β m
theorem code_lt {w:Nat} {β:Nat→Nat}:∀{m:Nat},(∀i,i<m→β i<w)→code w β m<w ^ m
 | 0,_=>by simp[code]
 | m+1,h=>by
  simp only[code]
  have h1:=code_lt (m:=m) fun i hi=>h i (by omega)
  have h2:=h m (by omega)
  have h3:(code w β m+1)*w≤w ^ m*w:=Nat.mul_le_mul_right _ h1
  rw[Nat.pow_succ]
  rw[Nat.add_mul,Nat.one_mul] at h3
  omega
theorem code_inj {w:Nat} {β γ:Nat→Nat}:∀{m:Nat},(∀i,i<m→β i<w)→(∀i,i<m→γ i<w)→code w β m=code w γ m→∀i,i<m→β i=γ i
 | 0,_,_,_,i,hi=>by omega
 | m+1,hβ,hγ,h,i,hi=>by
  simp only[code] at h
  have h1:=hβ m (by omega)
  have h2:=hγ m (by omega)
  have e1:(code w β m*w+β m) % w=β m:=by rw[Nat.mul_comm,Nat.mul_add_mod,Nat.mod_eq_of_lt h1]
  have e2:(code w γ m*w+γ m) % w=γ m:=by rw[Nat.mul_comm,Nat.mul_add_mod,Nat.mod_eq_of_lt h2]
  have e3:β m=γ m:=by rw[←e1,←e2,h]
  have e4:code w β m=code w γ m:=by
   have:code w β m*w=code w γ m*w:=by omega
   exact Nat.eq_of_mul_eq_mul_right (by omega) this
  by_cases e:i=m
  ·rw[e];exact e3
  ·exact code_inj (fun i hi=>hβ i (by omega)) (fun i hi=>hγ i (by omega)) e4 i (by omega)
open Classical in
noncomputable def greatest (p:Nat→Prop):Nat→Nat
 | 0=>0
 | k+1=>if p k then k else greatest p k
section
variable {m w N R:Nat} {M:Nat→Nat→Int} {wc:Nat→Int}
theorem Run.short {k:Nat} {S:Nat→Sx} {r c:Nat→Nat} {a:Nat→Nat} (ha:∀i,i<m→a i<w) (hM:∀k,k<m→∀i,i<m→M k (a i)=if k=i then 1 else 0) (hN:N≤R) (hR:R<w)
  (h:Run m w N R M wc k S r c):k<w ^ m:=by
 by_cases hk:k<w ^ m
 ·exact hk
 ·exfalso
  obtain ⟨i,j,h1,h2,h3⟩:=pigeon (w ^ m) (fun n=>code w (S n).β m) fun n hn=>code_lt (h.val n (by omega)).tb.lt
  have h4:=code_inj (h.val i (by omega)).tb.lt (h.val j (by omega)).tb.lt h3
  have h5:Run m w N R M wc (j - i) (fun n=>S (i+n)) (fun n=>r (i+n)) (fun n=>c (i+n)):=⟨fun n hn=>h.val (i+n) (by omega),fun n hn=>h.step (i+n) (by omega)⟩
  refine h5.nocycle ha hM hN hR (by omega) fun p hp=>?_
  show (S (i+(j - i))).β p=(S (i+0)).β p
  rw[show i+(j - i)=j by omega,Nat.add_zero]
  exact (h4 p hp).symm
noncomputable def left (m w N R:Nat) (M:Nat→Nat→Int) (wc:Nat→Int) (s:Sx):Nat:=greatest (fun k=>∃S r c,S 0=s∧Run m w N R M wc k S r c) (w ^ m)
end
end Dn
end Go.Proofs.YtmoiiokmfanlgaaGreat

namespace Go.Proofs.YtmoiiokmfanlgaaGreat
namespace Dn
def sq:Nat→(Nat→Rat)→Rat
 | 0,_=>0
 | n+1,f=>sq n f+f n
theorem sq_congr:∀{n:Nat} {f g:Nat→Rat},(∀i,i<n→f i=g i)→sq n f=sq n g
 | 0,_,_,_=>rfl
 | n+1,f,g,h=>by
  simp only[sq]
  rw[sq_congr (n:=n) fun i hi=>h i (by omega),h n (by omega)]
theorem sq_add:∀{n:Nat} {f g:Nat→Rat},sq n (fun i=>f i+g i)=sq n f+sq n g
 | 0,_,_=>by simp only[sq];grind
 | n+1,f,g=>by
  simp only[sq]
  rw[sq_add]
  grind
theorem sq_mul:∀{n:Nat} {c:Rat} {f:Nat→Rat},sq n (fun i=>c*f i)=c*sq n f
 | 0,c,_=>by simp[sq]
 | n+1,c,f=>by
  simp only[sq]
  rw[sq_mul]
  grind
theorem sq_zero:∀{n:Nat} {f:Nat→Rat},(∀i,i<n→f i=0)→sq n f=0
 | 0,_,_=>rfl
 | n+1,f,h=>by
  simp only[sq]
  rw[sq_zero fun i hi=>h i (by omega),h n (by omega)]
  grind
theorem sq_le:∀{n:Nat} {f g:Nat→Rat},(∀i,i<n→f i≤g i)→sq n f≤sq n g
 | 0,_,_,_=>Rat.le_refl
 | n+1,f,g,h=>by
  simp only[sq]
  have:=sq_le (n:=n) fun i hi=>h i (by omega)
  have:=h n (by omega)
  grind
theorem sq_swap:∀{m n:Nat} {f:Nat→Nat→Rat},sq m (fun i=>sq n (fun j=>f i j))=sq n (fun j=>sq m (fun i=>f i j))
 | 0,n,f=>by
  simp only[sq]
  exact (sq_zero fun _ _=>rfl).symm
 | m+1,n,f=>by
  simp only[sq]
  rw[sq_swap,sq_add]
structure Lin where
 n:Nat
 m:Nat
 A:Nat→Nat→Int
 b:Nat→Int
 c:Nat→Int
 kd:Nat→Int
def Lin.row (L:Lin) (x:Nat→Rat) (k:Nat):Rat:=sq L.n fun j=>(L.A k j:Rat)*x j
def Lin.col (L:Lin) (y:Nat→Rat) (j:Nat):Rat:=sq L.m fun k=>(L.A k j:Rat)*y k
def Lin.val (L:Lin) (x:Nat→Rat):Rat:=sq L.n fun j=>(L.c j:Rat)*x j
def Lin.rhs (L:Lin) (y:Nat→Rat):Rat:=sq L.m fun k=>(L.b k:Rat)*y k
structure Lin.Feas (L:Lin) (x:Nat→Rat):Prop where
 pos:∀j,j<L.n→0≤x j
 most:∀k,k<L.m→L.kd k≠2→L.row x k≤L.b k
 least:∀k,k<L.m→L.kd k≠1→(L.b k:Rat)≤L.row x k
structure Lin.Sgn (L:Lin) (y:Nat→Rat):Prop where
 most:∀k,k<L.m→L.kd k=1→y k≤0
 least:∀k,k<L.m→L.kd k=2→0≤y k
structure Lin.Dual (L:Lin) (y:Nat→Rat):Prop extends L.Sgn y where
 col:∀j,j<L.n→L.col y j≤L.c j
structure Lin.Ref (L:Lin) (y:Nat→Rat):Prop extends L.Sgn y where
 col:∀j,j<L.n→L.col y j≤0
 rhs:0<L.rhs y
structure Lin.Ray (L:Lin) (r:Nat→Rat):Prop where
 pos:∀j,j<L.n→0≤r j
 most:∀k,k<L.m→L.kd k≠2→L.row r k≤0
 least:∀k,k<L.m→L.kd k≠1→0≤L.row r k
 val:L.val r<0
section
variable {L:Lin}
theorem Lin.swap (x y:Nat→Rat):sq L.n (fun j=>L.col y j*x j)=sq L.m (fun k=>y k*L.row x k):=by
 have e1:sq L.n (fun j=>L.col y j*x j)=sq L.n (fun j=>sq L.m fun k=>(L.A k j:Rat)*y k*x j):=sq_congr fun j _=>by
  unfold Lin.col
  rw[←sq_mul (c:=x j) |>fun h=>(by rw[h];grind:(sq L.m fun k=>x j*((L.A k j:Rat)*y k))=sq L.m (fun k=>(L.A k j:Rat)*y k)*x j)]
  exact sq_congr fun k _=>by grind
 rw[e1,sq_swap]
 refine sq_congr fun k _=>?_
 unfold Lin.row
 rw[←sq_mul]
 exact sq_congr fun j _=>by grind
theorem rowle {y r b:Rat} (h:(y≤0∧r≤b)∨(0≤y∧b≤r)∨r=b):b*y≤y*r:=by
 rcases h with ⟨h1,h2⟩ | ⟨h1,h2⟩ | h
 ·have:0≤(-y)*(b - r):=Rat.mul_nonneg (by grind) (by grind)
  grind
 ·have:0≤y*(r - b):=Rat.mul_nonneg h1 (by grind)
  grind
 ·subst h;grind
theorem Lin.Sgn.rows {x y:Nat→Rat} (h:L.Sgn y) {b:Nat→Rat} (h1:∀k,k<L.m→L.kd k≠2→L.row x k≤b k) (h2:∀k,k<L.m→L.kd k≠1→b k≤L.row x k):sq L.m (fun k=>b k*y k)≤sq L.m (fun k=>y k*L.row x k):=sq_le fun k hk=>by
 apply rowle
 by_cases e1:L.kd k=1
 ·exact .inl ⟨h.most k hk e1,h1 k hk (by omega)⟩
 ·by_cases e2:L.kd k=2
  ·exact .inr (.inl ⟨h.least k hk e2,h2 k hk e1⟩)
  ·have a1:=h1 k hk e2
   have a2:=h2 k hk e1
   exact .inr (.inr (Rat.le_antisymm a1 a2))
theorem Lin.Ref.none {x y:Nat→Rat} (hy:L.Ref y) (hx:L.Feas x):False:=by
 have h1:=hy.rows (x:=x) (b:=fun k=>(L.b k:Rat)) hx.most hx.least
 rw[←L.swap x y] at h1
 have h2:sq L.n (fun j=>L.col y j*x j)≤sq L.n (fun _=>0):=sq_le fun j hj=>by
  have:0≤(-L.col y j)*x j:=Rat.mul_nonneg (by have:=hy.col j hj;grind) (hx.pos j hj)
  grind
 rw[sq_zero (f:=fun _=>0) fun _ _=>rfl] at h2
 have h3:=hy.rhs
 unfold Lin.rhs at h3
 grind
theorem Lin.Ray.none {r y:Nat→Rat} (hr:L.Ray r) (hy:L.Dual y):False:=by
 have h1:=hy.rows (x:=r) (b:=fun _=>0) hr.most hr.least
 rw[←L.swap r y,sq_zero (f:=fun k=>0*y k) fun k _=>by grind] at h1
 have h2:sq L.n (fun j=>L.col y j*r j)≤L.val r:=sq_le fun j hj=>Rat.mul_le_mul_of_nonneg_right (hy.col j hj) (hr.pos j hj)
 have h3:=hr.val
 grind
end
structure Lay where
 N:Nat
 sl:Nat→Nat
 σ:Nat→Int
def Lay.M (Y:Lay) (L:Lin) (k j:Nat):Int :=
 if j<L.n then Y.σ k*L.A k j else if j<Y.N then (if L.kd k≠3∧j=Y.sl k then Y.σ k*(if L.kd k=1 then 1 else -1) else 0) else if j<Y.N+L.m then (if j=Y.N+k then 1 else 0) else Y.σ k*L.b k
structure Lay.ok (Y:Lay) (L:Lin):Prop where
 n:L.n≤Y.N
 kd:∀k,k<L.m→L.kd k=1∨L.kd k=2∨L.kd k=3
 sl:∀k,k<L.m→L.kd k≠3→L.n≤Y.sl k∧Y.sl k<Y.N
 inj:∀k l,k<L.m→l<L.m→L.kd k≠3→L.kd l≠3→Y.sl k=Y.sl l→k=l
 sg:∀k,k<L.m→Y.σ k=1∨Y.σ k= -1
 b:∀k,k<L.m→0≤Y.σ k*L.b k
abbrev Lay.R (Y:Lay) (L:Lin):Nat:=Y.N+L.m
abbrev Lay.w (Y:Lay) (L:Lin):Nat:=Y.N+L.m+1
section
variable {L:Lin} {Y:Lay}
theorem Lay.M_a (h:Y.ok L) {k i:Nat} (hi:i<L.m):Y.M L k (Y.N+i)=if k=i then 1 else 0:=by
 have:=h.n
 unfold Lay.M
 rw[if_neg (by omega),if_neg (by omega),if_pos (by omega)]
 by_cases e:k=i
 ·rw[if_pos e,if_pos (by omega)]
 ·rw[if_neg e,if_neg (by omega)]
theorem Lay.M_R (h:Y.ok L) {k:Nat}:Y.M L k (Y.R L)=Y.σ k*L.b k:=by
 have:=h.n
 unfold Lay.M Lay.R
 rw[if_neg (by omega),if_neg (by omega),if_neg (by omega)]
theorem Lay.ss (h:Y.ok L) {k:Nat} (hk:k<L.m):Y.σ k*Y.σ k=1:=by
 rcases h.sg k hk with e | e<;>rw[e]<;>rfl
abbrev Lay.Val (Y:Lay) (L:Lin) (S:Sx):Prop:=Dn.Val L.m (Y.w L) Y.N (Y.R L) (Y.M L) S
theorem Lay.art (h:Y.ok L):(∀i,i<L.m→Y.N+i<Y.w L)∧∀k,k<L.m→∀i,i<L.m→Y.M L k (Y.N+i)=if k=i then 1 else 0 :=
 ⟨fun i hi=>by unfold Lay.w;omega,fun k _ i hi=>Lay.M_a h hi⟩
theorem Lay.first (h:Y.ok L):Y.Val L ⟨Y.M L,1,fun i=>Y.N+i⟩:=by
 refine ⟨Tb.first (Lay.art h).1 (Lay.art h).2,fun i hi=>?_,fun i hi=>?_⟩
 ·show 0≤Y.M L i (Y.R L)
  rw[Lay.M_R h]
  exact h.b i hi
 ·show Y.N+i≠Y.N+L.m
  omega
def costs (L:Lin) (j:Nat):Int:=if j<L.n then L.c j else 0
end
end Dn
end Go.Proofs.YtmoiiokmfanlgaaGreat

namespace Go.Proofs.YtmoiiokmfanlgaaGreat
namespace Dn
def Lin.F (L:Lin) (k:Nat):Int:=1+ab (L.b k)+sz L.n fun j=>ab (L.A k j)
def Lin.P (L:Lin):Int:=pz L.m L.F
section
variable {L:Lin} {Y:Lay}
end
end Dn
end Go.Proofs.YtmoiiokmfanlgaaGreat

namespace Go.Proofs.YtmoiiokmfanlgaaGreat
namespace Dn
section
variable {L:Lin} {Y:Lay}
end
end Dn
end Go.Proofs.YtmoiiokmfanlgaaGreat

namespace Go.Proofs.YtmoiiokmfanlgaaGreat
namespace Dn
section
variable {α R:Type} {F:(α→Option R)→α→Option R}
theorem loopF_seq (n:Nat) (st:Nat→α) (r:Option R) (hb:∀again i,i<n→F again (st i)=again (st (i+1))) (hf:∀again,F again (st n)=r):∀(k i m:Nat),i+k=n→k<m→loopF F m (st i)=r
 | 0,i,m,h1,h2=>by
  obtain ⟨m,rfl⟩:∃m',m=m'+1:=⟨m - 1,by omega⟩
  rw[loopF_succ,show i=n by omega,hf]
 | k+1,i,m,h1,h2=>by
  obtain ⟨m,rfl⟩:∃m',m=m'+1:=⟨m - 1,by omega⟩
  rw[loopF_succ,hb _ _ (by omega)]
  exact loopF_seq n st r hb hf k (i+1) m (by omega) (by omega)
theorem lpK_seq (n:Nat) (hn:n≤1180591620717411303423) (st:Nat→α) (r:Option R) (hb:∀again i,i<n→F again (st i)=again (st (i+1))) (hf:∀again,F again (st n)=r):lpK α R F (st 0)=r :=
 loopF_seq n st r hb hf n 0 K0 (by omega) (by unfold K0;omega)
theorem lpK_seqX {x:α} (n:Nat) (hn:n≤1180591620717411303423) (st:Nat→α) (r:Option R) (hx:x=st 0) (hb:∀again i,i<n→F again (st i)=again (st (i+1))) (hf:∀again,F again (st n)=r):lpK α R F x=r:=by
 rw[hx]
 exact lpK_seq n hn st r hb hf
theorem loopF_exR {γ:Type} (I:γ→α→Prop) (Q:Option R→Prop) (μ:γ→Nat) (h:∀rec s x,I s x→Q (F rec x)∨∃s' y,I s' y∧μ s'<μ s∧F rec x=rec y):∀(m:Nat) (s:γ) (x:α),I s x→μ s<m→Q (loopF F m x)
 | 0,_,_,_,hm=>by omega
 | m+1,s,x,hx,hm=>by
  rw[loopF_succ]
  rcases h (loopF F m) s x hx with h1 | ⟨s',y,h1,h2,h3⟩
  ·exact h1
  ·rw[h3]
   exact loopF_exR I Q μ h m s' y h1 (by omega)
theorem lpK_exR {γ:Type} (I:γ→α→Prop) (Q:Option R→Prop) (μ:γ→Nat) (h:∀rec s x,I s x→Q (F rec x)∨∃s' y,I s' y∧μ s'<μ s∧F rec x=rec y) {s:γ} {x:α} (hx:I s x) (hn:μ s<1180591620717411303424):Q (lpK α R F x) :=
 loopF_exR I Q μ h K0 s x hx hn
end
def rowL {α:Type} (w:Nat) (f:Nat→α):List α:=(List.range w).map f
section
variable {α:Type} {m w:Nat} {T T':Nat→Nat→Int}
theorem rowL_len {f:Nat→α}:(rowL w f).length=w:=by unfold rowL;rw[List.length_map,List.length_range]
theorem rowL_get {f:Nat→α} {d:α} {j:Nat} (h:j<w):(rowL w f).getD j d=f j:=by
 unfold rowL
 rw[getD_nat (by rw[List.length_map,List.length_range];exact h),List.getElem_map,List.getElem_range]
theorem rowL_at {f:Nat→α} {j:Nat} (h:j<(rowL w f).length):(rowL w f)[j]=f j :=
 (List.getElem_map f (l:=List.range w) (h:=h)).trans (congrArg f (List.getElem_range _))
theorem rowL_congr {f g:Nat→α} (h:∀j,j<w→f j=g j):rowL w f=rowL w g:=by
 unfold rowL
 exact List.map_congr_left fun j hj=>h j (List.mem_range.1 hj)
theorem rowL_set {f:Nat→α} {j:Nat} {x:α} (hj:j<w):(rowL w f).set j x=rowL w fun k=>if k=j then x else f k:=by
 refine List.ext_getElem (by rw[List.length_set,rowL_len,rowL_len]) fun i h1 h2=>?_
 have h3:i<w:=by rw[rowL_len] at h2;exact h2
 rw[List.getElem_set,rowL_at,rowL_at]
 by_cases e:j=i
 ·rw[if_pos e,if_pos e.symm]
 ·rw[if_neg e,if_neg (Ne.symm e)]
end
end Dn
end Go.Proofs.YtmoiiokmfanlgaaGreat

namespace Go.Proofs.YtmoiiokmfanlgaaGreat
open Dn Dn.Sh
def kk (d:Int→Int) (f:Nat→Int) (x:Int):Nat→Nat
 | 0=>0
 | n+1=>if d x<d (f n) then kk d f x n else n+1
theorem kk_le {d:Int→Int} {f:Nat→Int} {x:Int}:∀{n:Nat},kk d f x n≤n
 | 0=>Nat.le_refl _
 | n+1=>by
  unfold kk
  split
  ·exact Nat.le_succ_of_le kk_le
  ·exact Nat.le_refl _
theorem kk_hi {d:Int→Int} {f:Nat→Int} {x:Int}:∀{n p:Nat},kk d f x n≤p→p<n→d x<d (f p)
 | 0,p,_,h=>by omega
 | n+1,p,h,hp=>by
  unfold kk at h
  split at h
  ·rename_i c
   by_cases e:p=n
   ·rw[e];exact c
   ·exact kk_hi h (by omega)
  ·omega
theorem kk_stop {d:Int→Int} {f:Nat→Int} {x:Int}:∀{n:Nat},0<kk d f x n→¬ d x<d (f (kk d f x n - 1))
 | 0,h=>by simp[kk] at h
 | n+1,h=>by
  by_cases c:d x<d (f n)
  ·have e:kk d f x (n+1)=kk d f x n:=by rw[kk,if_pos c]
   rw[e] at h ⊢
   exact kk_stop h
  ·have e:kk d f x (n+1)=n+1:=by rw[kk,if_neg c]
   rw[e,Nat.add_sub_cancel]
   exact c
def insF (f:Nat→Int) (x:Int) (k i:Nat) (p:Nat):Int:=if p<k then f p else if p=k then x else if p≤i then f (p - 1) else p
def pf (d:Int→Int):Nat→Nat→Int
 | 0=>fun p=>p
 | i+1=>insF (pf d i) i (kk d (pf d i) i i) i
section
variable {d:Int→Int}
theorem pf_above:∀{i p:Nat},i≤p→pf d i p=p
 | 0,_,_=>rfl
 | i+1,p,h=>by
  have:=kk_le (d:=d) (f:=pf d i) (x:=i) (n:=i)
  simp only[pf,insF]
  rw[if_neg (by omega),if_neg (by omega),if_neg (by omega)]
theorem pf_range:∀{i p:Nat},p<i→0≤pf d i p∧pf d i p<i
 | 0,_,h=>by omega
 | i+1,p,h=>by
  have hk:=kk_le (d:=d) (f:=pf d i) (x:=i) (n:=i)
  simp only[pf,insF]
  by_cases c1:p<kk d (pf d i) i i
  ·rw[if_pos c1]
   have:=pf_range (i:=i) (p:=p) (by omega)
   omega
  ·rw[if_neg c1]
   by_cases c2:p=kk d (pf d i) i i
   ·rw[if_pos c2];omega
   ·rw[if_neg c2,if_pos (by omega)]
    have:=pf_range (i:=i) (p:=p - 1) (by omega)
    omega
theorem pf_onto:∀{i j:Nat},j<i→∃p,p<i∧pf d i p=j
 | 0,_,h=>by omega
 | i+1,j,h=>by
  have hk:=kk_le (d:=d) (f:=pf d i) (x:=i) (n:=i)
  by_cases e:j=i
  ·refine ⟨kk d (pf d i) i i,by omega,?_⟩
   show insF _ _ _ _ _=_
   unfold insF
   rw[if_neg (by omega),if_pos rfl,e]
  ·obtain ⟨p,h1,h2⟩:=pf_onto (i:=i) (j:=j) (by omega)
   by_cases c1:p<kk d (pf d i) i i
   ·refine ⟨p,by omega,?_⟩
    simp only[pf,insF]
    rw[if_pos c1,h2]
   ·refine ⟨p+1,by omega,?_⟩
    simp only[pf,insF]
    rw[if_neg (by omega),if_neg (by omega),if_pos (by omega),Nat.add_sub_cancel,h2]
def Lex (d:Int→Int) (a b:Int):Prop:=d a<d b∨d a=d b∧a<b
theorem pf_sorted:∀{i p q:Nat},p<q→q<i→Lex d (pf d i p) (pf d i q)
 | 0,_,_,_,h=>by omega
 | i+1,p,q,hpq,hq=>by
  have hk:=kk_le (d:=d) (f:=pf d i) (x:=i) (n:=i)
  have hlow:∀p,p<kk d (pf d i) i i→Lex d (pf d i p) i:=fun p hp=>by
   have h1:=kk_stop (d:=d) (f:=pf d i) (x:=i) (n:=i) (by omega)
   have h2:=(pf_range (d:=d) (i:=i) (p:=p) (by omega)).2
   have h3:d (pf d i p)≤d (pf d i (kk d (pf d i) i i - 1)):=by
    by_cases e:p=kk d (pf d i) i i - 1
    ·rw[e];exact Int.le_refl _
    ·rcases pf_sorted (i:=i) (p:=p) (q:=kk d (pf d i) i i - 1) (by omega) (by omega) with h | h<;>omega
   by_cases e:d (pf d i p)<d i
   ·exact .inl e
   ·exact .inr ⟨by omega,h2⟩
  have hhi:∀p,kk d (pf d i) i i≤p→p<i→Lex d i (pf d i p):=fun p h1 h2=>.inl (kk_hi h1 h2)
  simp only[pf,insF]
  by_cases c1:p<kk d (pf d i) i i
  ·rw[if_pos c1]
   by_cases c2:q<kk d (pf d i) i i
   ·rw[if_pos c2]
    exact pf_sorted hpq (by omega)
   ·rw[if_neg c2]
    by_cases c3:q=kk d (pf d i) i i
    ·rw[if_pos c3];exact hlow p c1
    ·rw[if_neg c3,if_pos (by omega)]
     exact pf_sorted (by omega) (by omega)
  ·rw[if_neg c1,if_neg (show ¬ q<kk d (pf d i) i i by omega),if_neg (show ¬ q=kk d (pf d i) i i by omega),if_pos (show q≤i by omega)]
   by_cases c3:p=kk d (pf d i) i i
   ·rw[if_pos c3];exact hhi (q - 1) (by omega) (by omega)
   ·rw[if_neg c3,if_pos (by omega)]
    exact pf_sorted (by omega) (by omega)
theorem Lex.irr {a:Int} (h:Lex d a a):False:=by rcases h with h | h<;>omega
theorem Lex.asymm {a b:Int} (h:Lex d a b) (g:Lex d b a):False:=by rcases h with h | h<;>rcases g with g | g<;>omega
theorem pf_inj {i p q:Nat} (hp:p<i) (hq:q<i) (h:pf d i p=pf d i q):p=q:=by
 by_cases c:p=q
 ·exact c
 ·by_cases c':p<q
  ·have:=pf_sorted (d:=d) c' hq
   rw[h] at this
   exact this.irr.elim
  ·have:=pf_sorted (d:=d) (show q<p by omega) hp
   rw[h] at this
   exact this.irr.elim
theorem pf_lt {i p q:Nat} (hp:p<i) (hq:q<i):p<q↔Lex d (pf d i p) (pf d i q):=by
 constructor
 ·exact fun h=>pf_sorted h hq
 ·intro h
  by_cases c:p<q
  ·exact c
  ·by_cases e:p=q
   ·rw[e] at h;exact h.irr.elim
   ·exact (h.asymm (pf_sorted (show q<p by omega) hp)).elim
end
def ordL (d:Int→Int) (n:Nat):List Int:=rowL n (pf d n)
end Go.Proofs.YtmoiiokmfanlgaaGreat

namespace Go.Proofs.YtmoiiokmfanlgaaGreat
open Tryz Dn Dn.Sh
theorem succ_wrap {i:Nat} (h:i≤1000000):IntKind.wrap .i64 ((i:Int)+1)=((i+1:Nat):Int):=by rw[wrap_id (by omega) (by omega)];rfl
theorem obN {T R:Type} {t:T} {k:T→Option R}:obind (some t) k=k t:=id rfl
theorem idxI_first {α:Type} {p:α→Bool} {d:α}:∀{l:List α} {k:Nat} {i:Int},k<l.length→p (l.getD k d)=true→(∀j,j<k→p (l.getD j d)=false)→idxI p l i=i+k
 | [],k,i,hk,_,_=>by simp at hk
 | a ::l,0,i,_,hp,_=>by
  unfold idxI
  rw[show p a=true from hp]
  simp
 | a ::l,k+1,i,hk,hp,hj=>by
  unfold idxI
  rw[show p a=false from hj 0 (by omega),cond_false,idxI_first (k:=k) (i:=i+1) (by simpa using hk) hp (fun j h=>hj (j+1) (by omega))]
  omega
def fI (ss:List HS) (n:ByteArray):Int:=idxI (fun s:HS=>decide (s.1=n)) ss 0
def Uq (ss:List HS):Prop:=∀i,i<ss.length→fI ss (ss.getD i set0).1=(i:Int)
theorem uq_iff {ss:List HS}:Uq ss↔∀i j,i<ss.length→j<ss.length→(ss.getD i set0).1=(ss.getD j set0).1→i=j:=by
 constructor
 ·intro h i j hi hj e
  have h1:=h i hi
  have h2:=h j hj
  rw[e,h2] at h1
  omega
 ·intro h i hi
  unfold fI
  rw[idxI_first (d:=set0) (k:=i) hi (decide_eq_true rfl) fun j hj=>decide_eq_false fun e=>by have:=h j i (by omega) hi e;omega]
  omega
theorem validHB_iff {nm:ByteArray} {ht:Int} {ss:List HS} {rs:List Bm}:validHB (nm,ht,ss,rs)=true↔nameB nm=true∧1≤ht∧ht≤1048576∧ss.length≤60∧validG rs=true∧(∀s ∈ ss,setB s=true∧s.2.2.2.1≤ht)∧Uq ss:=by
 unfold validHB
 simp only[Bool.and_eq_true,Bool.not_eq_true',decide_eq_false_iff_not,List.all_eq_true,List.mem_range',decide_eq_true_eq,Nat.one_mul,Nat.zero_add]
 constructor
 ·rintro ⟨h1,h2,h3,h4,h5,h6⟩
  refine ⟨h1,by omega,by omega,by omega,h5,fun s hs=>?_,fun i hi=>?_⟩
  ·obtain ⟨i,hi,rfl⟩:=List.getElem_of_mem hs
   obtain ⟨g1,g2,_⟩:=h6 i ⟨i,hi,rfl⟩
   rw[getD_nat hi] at g1 g2
   exact ⟨g1,by omega⟩
  ·exact (h6 i ⟨i,hi,rfl⟩).2.2
 ·rintro ⟨h1,h2,h3,h4,h5,h6,h7⟩
  refine ⟨h1,by omega,by omega,by omega,h5,fun i hi=>?_⟩
  obtain ⟨_,hi,rfl⟩:=hi
  have:=h6 (ss.getD _ set0) (by rw[getD_nat hi];exact List.getElem_mem _)
  exact ⟨this.1,by omega,h7 _ hi⟩
end Go.Proofs.YtmoiiokmfanlgaaGreat

namespace Go.Proofs.YtmoiiokmfanlgaaGreat
open Tryz Dn Dn.Sh
abbrev fewS (s:HS):Prop:=s.2.2.2.2.2.1.length≤1000000∧s.2.2.2.2.2.2.2.2.2.2.2.1.length≤1000000∧s.2.2.2.2.2.2.2.2.2.2.2.2.length≤1000000
abbrev h0:HH:=({ data:=#[] },(0:Int),[],[])
theorem copy21_ok {s:HS} (h:fewS s):ref21_Copy s=some s:=by
 obtain ⟨nm,dp,lo,hi,len,ls,pi,ar,pu,mo,br,l,bs⟩:=s
 obtain ⟨h1,h2,h3⟩:=h
 simp only at h1 h2 h3
 simp only[ref21_Copy,ref21_Copy_b,fitB_of (show (0+ls.length)*8≤140737488355328 by omega),fitB_of (show (0+l.length)*64≤140737488355328 by omega),fitB_of (show (0+bs.length)*32≤140737488355328 by omega),cT]
theorem take_next {ss:List HS} {i:Nat} (h:i<ss.length):ss.take i++[ss.getD i set0]=ss.take (i+1):=by
 rw[getD_nat h,List.take_append_getElem]
section
variable {nm:ByteArray} {ht:Int} {ss:List HS} {rs:List Bm} {s:HS}
end
end Go.Proofs.YtmoiiokmfanlgaaGreat

namespace Go.Proofs.YtmoiiokmfanlgaaGreat
open Tryz Dn Dn.Sh
theorem readyO_ok (h:HH):law30_ready h=some (smallHB h&&validHB h):=by
 simp only[law30_ready,law30_ready_b,smallH_ok,obN]
 cases hs:smallHB h with
 | false=>rfl
 | true =>
  have hv:=hRefValid_ok h (fun s hm=>by have:=(small_len hs).2.2 s hm;omega)
  simp only[hv,obN,Bool.not_true,Bool.or_true,cT,Bool.true_and]
def dk (ss:List HS) (k:Int):Int:=(ss.getD k.toNat set0).2.1
theorem set_depth {s:HS} (h:setB s=true):0≤s.2.1∧s.2.1≤1048576:=by
 unfold setB btw at h
 simp only[Bool.and_eq_true,decide_eq_true_eq] at h
 exact h.2.1
theorem set_items {s:HS} (h:setB s=true):∀x ∈ s.2.2.2.2.2.2.2.2.2.2.2.1,0≤x.2.2.2.2.2.1∧x.2.2.2.2.2.1≤1048576∧0≤x.2.2.2.2.2.2∧x.2.2.2.2.2.2≤1048576:=by
 intro x hx
 have h1:itemsB s.2.2.2.2.2.2.2.2.2.2.2.1 s.2.2.2.2.1=true:=by
  unfold setB at h
  simp only[Bool.and_eq_true] at h
  exact h.2.2.2.2.2.2.2.2.2.2.2.2.1
 unfold itemsB at h1
 simp only[Bool.and_eq_true,List.all_eq_true] at h1
 have h2:=h1.2.1 x hx
 unfold itemB btw at h2
 simp only[Bool.and_eq_true,decide_eq_true_eq] at h2
 obtain ⟨_,_,_,_,_,h3,h4⟩:=h2
 exact ⟨h3.1,h3.2,h4.1,h4.2⟩
theorem rowL_snoc {α:Type} {n:Nat} {f:Nat→α}:rowL (n+1) f=rowL n f++[f n]:=by
 unfold rowL
 rw[List.range_succ,List.map_append]
 rfl
theorem pred_wrap {i:Nat} (h0:1≤i) (h:i≤1000000):IntKind.wrap .i64 ((i:Int) - 1)=((i - 1:Nat):Int):=by rw[wrap_id (by omega) (by omega)];omega
section
variable {nm:ByteArray} {ht:Int} {ss:List HS} {rs:List Bm}
theorem order1_ok (hD:∀k,k<ss.length→0≤(ss.getD k set0).2.1∧(ss.getD k set0).2.1≤1048576) {a b:Int} (ha:0≤a∧a<ss.length) (hb:0≤b∧b<ss.length):house_Order_1 a b (nm,ht,ss,rs)=some (dk ss a - dk ss b):=by
 have d1:=hD a.toNat (by omega)
 have d2:=hD b.toNat (by omega)
 have e1:a<ss.length:=ha.2
 simp only[house_Order_1,house_Order_1_b,inB_of ha.1 ha.2,inB_of hb.1 hb.2,cT]
 show some (IntKind.wrap .i64 (dk ss a - dk ss b))=_
 unfold dk
 rw[wrap_id (by omega) (by omega)]
theorem insF_step {f:Nat→Int} {x:Int} {n i j:Nat} (hj:1≤j) (hi:j≤i) (hn:i<n):((rowL n (insF f x j i)).set j (f (j - 1))).set (j - 1) x=rowL n (insF f x (j - 1) i):=by
 rw[rowL_set (show j<n by omega),rowL_set (show j - 1<n by omega)]
 refine rowL_congr fun p hp=>?_
 unfold insF
 by_cases c1:p=j - 1
 ·rw[if_pos c1,if_neg (by omega),if_pos c1]
 ·rw[if_neg c1]
  by_cases c2:p=j
  ·rw[if_pos c2,if_neg (by omega),if_neg (by omega),if_pos (by omega),c2]
  ·rw[if_neg c2]
   by_cases c3:p<j
   ·rw[if_pos c3,if_pos (by omega)]
   ·rw[if_neg c3,if_neg c2,if_neg (show ¬ p<j - 1 by omega),if_neg c1]
theorem order_ok (hv:validHB (nm,ht,ss,rs)=true) (hl:ss.length≤19):house_Order (nm,ht,ss,rs)=some (ordL (dk ss) ss.length,(0:Int),PUnit.unit):=by
 obtain ⟨_,_,_,_,_,h6,_⟩:=validHB_iff.1 hv
 have hD:∀k,k<ss.length→0≤(ss.getD k set0).2.1∧(ss.getD k set0).2.1≤1048576:=fun k hk=>set_depth (h6 _ (by rw[getD_nat hk];exact List.getElem_mem _)).1
 have hcmp:=fun {a b:Int}=>order1_ok (nm:=nm) (ht:=ht) (rs:=rs) hD (a:=a) (b:=b)
 simp only[house_Order,house_Order_b,hValid_ok,hv,obN,Bool.not_true,cF]
 refine lpK_seqX ss.length (by omega) (fun i=>(rowL i (fun p=>(p:Int)),(i:Int),PUnit.unit)) _ rfl (fun again i hi=>?_) (fun again=>?_)
 ·simp only[decide_eq_true (show (i:Int)<ss.length by omega),cT,rowL_len,fitB_of (show (i+1)*8≤140737488355328 by omega),succ_wrap (show i≤1000000 by omega),rowL_snoc]
 ·simp only[decide_eq_false (show ¬ (ss.length:Int)<ss.length by omega),cF,rowL_len]
  refine lpK_seqX 0 (by omega) (fun _=>((0:Int),(20:Int),rowL ss.length (fun p=>(p:Int)),PUnit.unit)) _ rfl (fun _ i hi=>by omega) (fun again2=>?_)
  simp only[decide_eq_false (show ¬ (20:Int)≤ss.length by omega),cF]
  refine lpK_seqX (ss.length - 1) (by omega) (fun i=>(((i+1:Nat):Int),rowL ss.length (pf (dk ss) (i+1)),PUnit.unit)) _ ?_ (fun again3 i hi=>?_) (fun again3=>?_)
  ·have e:rowL ss.length (fun p=>(p:Int))=rowL ss.length (pf (dk ss) (0+1)):=rowL_congr fun p hp=>by
    show (p:Int)=insF _ _ _ _ _
    unfold insF
    rw[show kk (dk ss) (pf (dk ss) 0) ((0:Nat):Int) 0=0 from rfl]
    by_cases c:p=0
    ·rw[if_neg (by omega),if_pos c,c]
    ·rw[if_neg (show ¬ p<0 by omega),if_neg c,if_neg (show ¬ p≤0 by omega)]
   rw[e]
   rfl
  ·simp only[decide_eq_true (show ((i+1:Nat):Int)<ss.length by omega),cT]
   generalize hf:pf (dk ss) (i+1)=f
   have hkl:=kk_le (d:=dk ss) (f:=f) (x:=((i+1:Nat):Int)) (n:=i+1)
   have hrange:∀p,p<i+1→0≤f p∧f p<ss.length:=fun p hp=>by
    rw[←hf]
    have:=pf_range (d:=dk ss) (i:=i+1) (p:=p) hp
    omega
   have habove:∀p,i+1≤p→f p=p:=fun p hp=>by rw[←hf];exact pf_above hp
   refine lpK_seqX (i+1 - kk (dk ss) f ((i+1:Nat):Int) (i+1)) (by omega) (fun t=>(((i+1 - t:Nat):Int),rowL ss.length (insF f ((i+1:Nat):Int) (i+1 - t) (i+1)),PUnit.unit)) _ ?_ (fun again4 t ht=>?_) (fun again4=>?_)
   ·have e:rowL ss.length f=rowL ss.length (insF f ((i+1:Nat):Int) (i+1 - 0) (i+1)):=rowL_congr fun p hp=>by
     unfold insF
     by_cases c1:p<i+1
     ·rw[if_pos (by omega)]
     ·rw[if_neg (by omega),habove p (by omega)]
      by_cases c2:p=i+1
      ·rw[if_pos (by omega),c2]
      ·rw[if_neg (by omega),if_neg (by omega)]
    rw[e]
    rfl
   ·obtain ⟨j,hj⟩:∃j,i+1 - t=j:=⟨_,rfl⟩
    have hj1:1≤j:=by omega
    have hj2:j≤i+1:=by omega
    have hjk:kk (dk ss) f ((i+1:Nat):Int) (i+1)≤j - 1:=by omega
    rw[show i+1 - (t+1)=j - 1 by omega,hj]
    have g1:(rowL ss.length (insF f ((i+1:Nat):Int) j (i+1))).getD j 0=((i+1:Nat):Int):=by
     rw[rowL_get (by omega)];unfold insF;rw[if_neg (by omega),if_pos rfl]
    have g2:(rowL ss.length (insF f ((i+1:Nat):Int) j (i+1))).getD (j - 1) 0=f (j - 1):=by
     rw[rowL_get (by omega)];unfold insF;rw[if_pos (by omega)]
    have hlt:=kk_hi (d:=dk ss) (f:=f) (x:=((i+1:Nat):Int)) hjk (show j - 1<i+1 by omega)
    simp only[pred_wrap hj1 (show j≤1000000 by omega),Int.toNat_natCast,inB_nat,rowL_len,decide_eq_true (show j<ss.length by omega),decide_eq_true (show j - 1<ss.length by omega),decide_eq_true (show (j:Int)>0 by omega),ble_of (show Nat.succ j≤ss.length by omega),ble_of (show Nat.succ (j - 1)≤ss.length by omega),g1,g2,hcmp (a:=((i+1:Nat):Int)) (b:=f (j - 1)) (by omega) (hrange (j - 1) (by omega)),obN,decide_eq_true (show dk ss ((i+1:Nat):Int) - dk ss (f (j - 1))<0 by omega),Bool.not_true,Bool.or_true,Bool.and_self,cT,insF_step hj1 hj2 (show i+1<ss.length by omega)]
   ·obtain ⟨j,hj⟩:∃j,kk (dk ss) f ((i+1:Nat):Int) (i+1)=j:=⟨_,rfl⟩
    rw[show i+1 - (i+1 - kk (dk ss) f ((i+1:Nat):Int) (i+1))=j by omega]
    have e2:rowL ss.length (pf (dk ss) (i+1+1))=rowL ss.length (insF f ((i+1:Nat):Int) j (i+1)):=by
     rw[←hj,←hf]
     rfl
    rw[e2]
    by_cases c0:j=0
    ·subst c0
     simp only[decide_eq_false (show ¬ ((0:Nat):Int)>0 by omega),Bool.not_false,Bool.true_or,Bool.and_self,cT,cF,obN,succ_wrap (show i+1≤1000000 by omega)]
    ·have hj1:1≤j:=by omega
     have hst:=kk_stop (d:=dk ss) (f:=f) (x:=((i+1:Nat):Int)) (n:=i+1) (by omega)
     rw[hj] at hst
     have g1:(rowL ss.length (insF f ((i+1:Nat):Int) j (i+1))).getD j 0=((i+1:Nat):Int):=by
      rw[rowL_get (by omega)];unfold insF;rw[if_neg (by omega),if_pos rfl]
     have g2:(rowL ss.length (insF f ((i+1:Nat):Int) j (i+1))).getD (j - 1) 0=f (j - 1):=by
      rw[rowL_get (by omega)];unfold insF;rw[if_pos (by omega)]
     simp only[pred_wrap hj1 (show j≤1000000 by omega),Int.toNat_natCast,inB_nat,rowL_len,decide_eq_true (show j<ss.length by omega),decide_eq_true (show j - 1<ss.length by omega),decide_eq_true (show (j:Int)>0 by omega),ble_of (show Nat.succ j≤ss.length by omega),ble_of (show Nat.succ (j - 1)≤ss.length by omega),g1,g2,hcmp (a:=((i+1:Nat):Int)) (b:=f (j - 1)) (by omega) (hrange (j - 1) (by omega)),obN,decide_eq_false (show ¬ dk ss ((i+1:Nat):Int) - dk ss (f (j - 1))<0 by omega),Bool.not_true,Bool.or_true,Bool.and_self,cT,cF,succ_wrap (show i+1≤1000000 by omega)]
  ·simp only[decide_eq_false (show ¬ ((ss.length - 1+1:Nat):Int)<ss.length by omega),cF]
   refine lpK_seqX 0 (by omega) (fun _=>((20:Int),PUnit.unit)) _ rfl (fun _ i hi=>by omega) (fun again5=>?_)
   simp only[decide_eq_false (show ¬ (20:Int)<ss.length by omega),cF]
   by_cases c:ss.length=0
   ·rw[c];rfl
   ·rw[show ss.length - 1+1=ss.length by omega]
    rfl
end
end Go.Proofs.YtmoiiokmfanlgaaGreat

namespace Go.Proofs.YtmoiiokmfanlgaaGreat
open Tryz Dn Dn.Sh
def mxF (f:Itm→Int) (l:List Itm) (a:Int):Int:=l.foldl (fun n x=>if f x>n then f x else n) a
theorem mxF_ge {f:Itm→Int}:∀{l:List Itm} {a:Int},a≤mxF f l a∧∀x ∈ l,f x≤mxF f l a
 | [],a=>⟨Int.le_refl _,fun x hx=>by cases hx⟩
 | y ::l,a=>by
  obtain ⟨h1,h2⟩:=mxF_ge (f:=f) (l:=l) (a:=if f y>a then f y else a)
  have e:mxF f (y ::l) a=mxF f l (if f y>a then f y else a):=rfl
  have h3:a≤(if f y>a then f y else a)∧f y≤(if f y>a then f y else a):=by split<;>omega
  rw[e]
  refine ⟨Int.le_trans h3.1 h1,fun x hx=>?_⟩
  rcases List.mem_cons.1 hx with rfl | hx
  ·exact Int.le_trans h3.2 h1
  ·exact h2 x hx
theorem mxF_le {f:Itm→Int} {B:Int}:∀{l:List Itm} {a:Int},a≤B→(∀x ∈ l,f x≤B)→mxF f l a≤B
 | [],a,h,_=>h
 | y ::l,a,h,hl=>by
  have e:mxF f (y ::l) a=mxF f l (if f y>a then f y else a):=rfl
  rw[e]
  refine mxF_le ?_ fun x hx=>hl x (List.mem_cons_of_mem _ hx)
  have:=hl y (List.mem_cons_self ..)
  split<;>omega
theorem mxF_next {f:Itm→Int} {l:List Itm} {i:Nat} (h:i<l.length):mxF f (l.take (i+1)) 0=if f (l.getD i itm0)>mxF f (l.take i) 0 then f (l.getD i itm0) else mxF f (l.take i) 0:=by
 unfold mxF
 rw[←List.take_append_getElem h,List.foldl_append,getD_nat h]
 rfl
def frontI (s:HS):Int:=s.2.1+mxF (fun x=>x.2.2.2.2.2.1) s.2.2.2.2.2.2.2.2.2.2.2.1 0
def backI (s:HS):Int:=s.2.1 - mxF (fun x=>x.2.2.2.2.2.2) s.2.2.2.2.2.2.2.2.2.2.2.1 0
theorem front_bound {s:HS} (h:setB s=true):s.2.1≤frontI s∧frontI s≤2097152∧backI s≤s.2.1∧ -1048576≤backI s:=by
 have h1:=set_depth h
 have h2:=set_items h
 have g1:=(mxF_ge (f:=fun x=>x.2.2.2.2.2.1) (l:=s.2.2.2.2.2.2.2.2.2.2.2.1) (a:=0)).1
 have g2:=(mxF_ge (f:=fun x=>x.2.2.2.2.2.2) (l:=s.2.2.2.2.2.2.2.2.2.2.2.1) (a:=0)).1
 have g3:=mxF_le (f:=fun x=>x.2.2.2.2.2.1) (l:=s.2.2.2.2.2.2.2.2.2.2.2.1) (a:=0) (B:=1048576) (by omega) fun x hx=>(h2 x hx).2.1
 have g4:=mxF_le (f:=fun x=>x.2.2.2.2.2.2) (l:=s.2.2.2.2.2.2.2.2.2.2.2.1) (a:=0) (B:=1048576) (by omega) fun x hx=>(h2 x hx).2.2.2
 unfold frontI backI
 omega
theorem front_ok {s:HS} (h:setB s=true) (hl:s.2.2.2.2.2.2.2.2.2.2.2.1.length≤1000000):house_front s=some (frontI s):=by
 have hb:=front_bound h
 have hd:=set_depth h
 simp only[house_front,house_front_b]
 refine lpK_seqX s.2.2.2.2.2.2.2.2.2.2.2.1.length (by omega) (fun i=>(mxF (fun x=>x.2.2.2.2.2.1) (s.2.2.2.2.2.2.2.2.2.2.2.1.take i) 0,(i:Int),PUnit.unit)) _ rfl (fun again i hi=>?_) (fun again=>?_)
 ·simp only[decide_eq_true (show (i:Int)<s.2.2.2.2.2.2.2.2.2.2.2.1.length by omega),inB_nat,decide_eq_true hi,cT,Int.toNat_natCast,succ_wrap (show i≤1000000 by omega),mxF_next hi]
 ·simp only[decide_eq_false (show ¬ (s.2.2.2.2.2.2.2.2.2.2.2.1.length:Int)<s.2.2.2.2.2.2.2.2.2.2.2.1.length by omega),cF,List.take_length]
  show some (IntKind.wrap .i64 (frontI s))=_
  rw[wrap_id (by omega) (by omega)]
theorem back_ok {s:HS} (h:setB s=true) (hl:s.2.2.2.2.2.2.2.2.2.2.2.1.length≤1000000):house_back s=some (backI s):=by
 have hb:=front_bound h
 have hd:=set_depth h
 simp only[house_back,house_back_b]
 refine lpK_seqX s.2.2.2.2.2.2.2.2.2.2.2.1.length (by omega) (fun i=>(mxF (fun x=>x.2.2.2.2.2.2) (s.2.2.2.2.2.2.2.2.2.2.2.1.take i) 0,(i:Int),PUnit.unit)) _ rfl (fun again i hi=>?_) (fun again=>?_)
 ·simp only[decide_eq_true (show (i:Int)<s.2.2.2.2.2.2.2.2.2.2.2.1.length by omega),inB_nat,decide_eq_true hi,cT,Int.toNat_natCast,succ_wrap (show i≤1000000 by omega),mxF_next hi]
 ·simp only[decide_eq_false (show ¬ (s.2.2.2.2.2.2.2.2.2.2.2.1.length:Int)<s.2.2.2.2.2.2.2.2.2.2.2.1.length by omega),cF,List.take_length]
  show some (IntKind.wrap .i64 (backI s))=_
  rw[wrap_id (by omega) (by omega)]
theorem index46_ok {l:List Int} {x:Int} (hl:l.length≤1000000):slices_Index_46 l x=some (idxI (fun y=>decide (x=y)) l 0):=by
 simp only[slices_Index_46,slices_Index_46_b]
 exact find_loop (p:=fun y:Int=>decide (x=y)) (d:=(0:Int)) hl
theorem ord_len {d:Int→Int} {n:Nat}:(ordL d n).length=n:=rowL_len
theorem ord_get {d:Int→Int} {n p:Nat} (h:p<n):(ordL d n).getD p 0=pf d n p:=rowL_get h
theorem ord_idx {d:Int→Int} {n p:Nat} (h:p<n):idxI (fun y=>decide (pf d n p=y)) (ordL d n) 0=(p:Int):=by
 rw[idxI_first (d:=(0:Int)) (k:=p) (by rw[ord_len];exact h) (by rw[ord_get h];exact decide_eq_true rfl) fun j hj=>by
  rw[ord_get (by omega)]
  exact decide_eq_false fun e=>by have:=pf_inj h (show j<n by omega) e;omega]
 omega
section
variable {nm:ByteArray} {ht:Int} {ss:List HS} {rs:List Bm}
theorem gap_ok (hv:validHB (nm,ht,ss,rs)=true) (hl:ss.length≤19) (hit:∀s ∈ ss,s.2.2.2.2.2.2.2.2.2.2.2.1.length≤1000000) {i k:Nat} (hi:i<ss.length) (hk:k<ss.length) (hlex:Lex (dk ss) i k) :
  house_Gap (nm,ht,ss,rs) (ss.getD i set0).1 (ss.getD k set0).1=some (backI (ss.getD k set0) - frontI (ss.getD i set0),(0:Int),PUnit.unit) ∧
  house_Gap (nm,ht,ss,rs) (ss.getD k set0).1 (ss.getD i set0).1=some (backI (ss.getD k set0) - frontI (ss.getD i set0),(0:Int),PUnit.unit):=by
 obtain ⟨_,_,_,_,_,h6,hu⟩:=validHB_iff.1 hv
 have hfind:∀j,j<ss.length→house_find (nm,ht,ss,rs) (ss.getD j set0).1=some (j:Int):=fun j hj=>by
  rw[find_ok _ _ (show ss.length≤1000000 by omega)]
  exact congrArg some (hu j hj)
 have hmem:∀j,j<ss.length→ss.getD j set0 ∈ ss:=fun j hj=>by rw[getD_nat hj];exact List.getElem_mem _
 obtain ⟨p,hp,ep⟩:=pf_onto (d:=dk ss) hi
 obtain ⟨q,hq,eq⟩:=pf_onto (d:=dk ss) hk
 have hpq:p<q:=(pf_lt hp hq).2 (by rw[ep,eq];exact hlex)
 have hidx:∀{j p:Nat},p<ss.length→pf (dk ss) ss.length p=(j:Int)→slices_Index_46 (ordL (dk ss) ss.length) (j:Int)=some (p:Int):=fun {j p} h e=>by
  rw[index46_ok (by rw[ord_len];omega),←e,ord_idx h]
 have hne:i≠k:=fun e=>by rw[e] at hlex;exact hlex.irr
 have b1:=front_bound (h6 _ (hmem i hi)).1
 have b2:=front_bound (h6 _ (hmem k hk)).1
 have d1:=set_depth (h6 _ (hmem i hi)).1
 have d2:=set_depth (h6 _ (hmem k hk)).1
 have hw:IntKind.wrap .i64 (backI (ss.getD k set0) - frontI (ss.getD i set0))=backI (ss.getD k set0) - frontI (ss.getD i set0):=by rw[wrap_id (by omega) (by omega)]
 have e1:∀e0:Bool,(!e0||e0)=true:=fun e0=>by cases e0<;>rfl
 have e2:∀e0:Bool,(e0||!e0)=true:=fun e0=>by cases e0<;>rfl
 constructor
 ·simp only[house_Gap,house_Gap_b,order_ok hv hl,obN,decide_true,Bool.not_true,cF,hfind i hi,hfind k hk,e1,e2,cT,decide_eq_false (show ¬ (i:Int)<0 by omega),decide_eq_false (show ¬ (k:Int)<0 by omega),decide_eq_false (show ¬ (i:Int)=k by omega),inB_nat,decide_eq_true hi,decide_eq_true hk,hidx hp ep,hidx hq eq,decide_eq_false (show ¬ (p:Int)>q by omega),Int.toNat_natCast,back_ok (h6 _ (hmem k hk)).1 (hit _ (hmem k hk)),front_ok (h6 _ (hmem i hi)).1 (hit _ (hmem i hi)),hw]
 ·simp only[house_Gap,house_Gap_b,order_ok hv hl,obN,decide_true,Bool.not_true,cF,hfind i hi,hfind k hk,e1,e2,cT,decide_eq_false (show ¬ (i:Int)<0 by omega),decide_eq_false (show ¬ (k:Int)<0 by omega),decide_eq_false (show ¬ (k:Int)=i by omega),inB_nat,decide_eq_true hi,decide_eq_true hk,hidx hp ep,hidx hq eq,decide_eq_true (show (q:Int)>p by omega),Int.toNat_natCast,back_ok (h6 _ (hmem k hk)).1 (hit _ (hmem k hk)),front_ok (h6 _ (hmem i hi)).1 (hit _ (hmem i hi)),hw]
end
end Go.Proofs.YtmoiiokmfanlgaaGreat

namespace Go.Proofs.YtmoiiokmfanlgaaGreat
open Tryz Dn Dn.Sh
def totQ (l:List Bm) (i:Nat):List Ld→Rat
 | []=>0
 | x ::r=>(if isB x.1 (bmAt l i) then shareQ l x else 0)+totQ l i r
theorem tot_append {l:List Bm} {i:Nat}:∀{a b:List Ld},totQ l i (a++b)=totQ l i a+totQ l i b
 | [],b=>by
  show totQ l i b=0+totQ l i b
  grind
 | x ::a,b=>by
  show (if isB x.1 (bmAt l i) then shareQ l x else 0)+totQ l i (a++b)=(if isB x.1 (bmAt l i) then shareQ l x else 0)+totQ l i a+totQ l i b
  rw[tot_append (a:=a)]
  grind
theorem tot_rev {l:List Bm} {i:Nat}:∀{a:List Ld},totQ l i a.reverse=totQ l i a
 | []=>rfl
 | x ::a=>by
  rw[List.reverse_cons,tot_append,tot_rev (a:=a)]
  show totQ l i a+((if isB x.1 (bmAt l i) then shareQ l x else 0)+0)=(if isB x.1 (bmAt l i) then shareQ l x else 0)+totQ l i a
  grind
theorem run_tot {l:List Bm}:∀{L:List Ld} {S S':Nat→Rat},runQ l L S=some S'→∀i,S' i=S i+totQ l i L
 | [],S,S',h,i=>by
  injection h with h
  subst h
  show S i=S i+0
  grind
 | x ::r,S,S',h,i=>by
  unfold runQ at h
  split at h
  ·have:=run_tot h i
   rw[this]
   unfold stepQ
   show _=S i+((if isB x.1 (bmAt l i) then shareQ l x else 0)+totQ l i r)
   split<;>grind
  ·cases h
theorem run_rev {l:List Bm} {L:List Ld} {S S1 S2:Nat→Rat} (h1:runQ l L S=some S1) (h2:runQ l L.reverse S=some S2) (i:Nat):S1 i=S2 i:=by
 rw[run_tot h1,run_tot h2,tot_rev]
theorem pts_rev {ss:List HS}:ptsH ss.reverse=(ptsH ss).reverse:=List.map_reverse
theorem borne_rev {l:List Bm} {L:List Ld}:(borneQ l L).2.1=5∨(borneQ l L.reverse).2.1=5∨borneQ l L=borneQ l L.reverse:=by
 unfold borneQ
 have hn:noneB l L.reverse=noneB l L:=by unfold noneB;rw[List.any_reverse]
 rw[hn]
 by_cases c:noneB l L=true
 ·rw[if_pos c,if_pos c]
  exact .inr (.inr rfl)
 ·rw[if_neg c,if_neg c]
  cases h1:runQ l L fun _=>0 with
  | none=>exact .inl rfl
  | some S1 =>
   cases h2:runQ l L.reverse fun _=>0 with
   | none=>exact .inr (.inl rfl)
   | some S2 =>
    refine .inr (.inr ?_)
    have e:outQ l.length S1=outQ l.length S2:=by
     unfold outQ
     exact List.map_congr_left fun i _=>by rw[run_rev h1 h2]
    simp only[e]
theorem right_rev {L:List Ld}:rightG L.reverse=rightG L:=by
 unfold rightG
 simp only[List.length_reverse,List.all_reverse,List.any_reverse]
theorem uq_rev {ss:List HS} (h:Uq ss):Uq ss.reverse:=by
 rw[uq_iff] at h ⊢
 intro i j hi hj e
 rw[List.length_reverse] at hi hj
 have g:∀k,k<ss.length→ss.reverse.getD k set0=ss.getD (ss.length - 1 - k) set0:=fun k hk=>by
  rw[getD_nat (by rw[List.length_reverse];exact hk),getD_nat (by omega),List.getElem_reverse]
 rw[g i hi,g j hj] at e
 have:=h _ _ (by omega) (by omega) e
 omega
theorem valid_rev {nm:ByteArray} {ht:Int} {ss:List HS} {rs:List Bm} (h:validHB (nm,ht,ss,rs)=true):validHB (nm,ht,ss.reverse,rs)=true:=by
 obtain ⟨h1,h2,h3,h4,h5,h6,h7⟩:=validHB_iff.1 h
 exact validHB_iff.2 ⟨h1,h2,h3,by rw[List.length_reverse];exact h4,h5,fun s hs=>h6 s (List.mem_reverse.1 hs),uq_rev h7⟩
theorem loadsH_rev {nm:ByteArray} {ht:Int} {ss:List HS} {rs:List Bm} (h:validHB (nm,ht,ss,rs)=true) :
  (loadsHQ (nm,ht,ss,rs)).2.1=5∨(loadsHQ (nm,ht,ss.reverse,rs)).2.1=5∨loadsHQ (nm,ht,ss,rs)=loadsHQ (nm,ht,ss.reverse,rs):=by
 unfold loadsHQ
 rw[h,valid_rev h,cT,cT]
 simp only[List.any_reverse]
 cases ss.any heavyB with
 | true=>exact .inl rfl
 | false =>
  simp only[cF]
  unfold loadsQ
  rw[pts_rev,right_rev]
  cases validG rs&&rightG (ptsH ss) with
  | false=>exact .inr (.inr rfl)
  | true=>exact borne_rev
end Go.Proofs.YtmoiiokmfanlgaaGreat

namespace Go.Proofs.YtmoiiokmfanlgaaGreat
open Tryz Dn Dn.Sh
def Ud (ss:List HS):Prop:=∀i j,i<ss.length→j<ss.length→(ss.getD i set0).2.1=(ss.getD j set0).2.1→i=j
theorem rev_get {ss:List HS} {k:Nat} (hk:k<ss.length):ss.reverse.getD (ss.length - 1 - k) set0=ss.getD k set0:=by
 rw[getD_nat (by rw[List.length_reverse];omega),getD_nat hk,List.getElem_reverse]
 congr 1
 omega
theorem dk_nat {ss:List HS} {k:Nat}:dk ss (k:Int)=(ss.getD k set0).2.1:=by unfold dk;rw[Int.toNat_natCast]
theorem gap_rev {nm:ByteArray} {ht:Int} {ss:List HS} {rs:List Bm} (hv:validHB (nm,ht,ss,rs)=true) (hl:ss.length≤19) (hit:∀s ∈ ss,s.2.2.2.2.2.2.2.2.2.2.2.1.length≤1000000) (hd:Ud ss) {i k:Nat} (hi:i<ss.length) (hk:k<ss.length) (hne:i≠k) :
  ∃v,house_Gap (nm,ht,ss,rs) (ss.getD i set0).1 (ss.getD k set0).1=some (v,(0:Int),PUnit.unit)∧house_Gap (nm,ht,ss.reverse,rs) (ss.getD i set0).1 (ss.getD k set0).1=some (v,(0:Int),PUnit.unit):=by
 have hvr:=valid_rev hv
 have hlr:ss.reverse.length≤19:=by rw[List.length_reverse];exact hl
 have hitr:∀s ∈ ss.reverse,s.2.2.2.2.2.2.2.2.2.2.2.1.length≤1000000:=fun s hs=>hit s (List.mem_reverse.1 hs)
 have key:∀{i k:Nat},i<ss.length→k<ss.length→(ss.getD i set0).2.1<(ss.getD k set0).2.1→∃v,house_Gap (nm,ht,ss,rs) (ss.getD i set0).1 (ss.getD k set0).1=some (v,(0:Int),PUnit.unit)∧house_Gap (nm,ht,ss.reverse,rs) (ss.getD i set0).1 (ss.getD k set0).1=some (v,(0:Int),PUnit.unit) ∧
   house_Gap (nm,ht,ss,rs) (ss.getD k set0).1 (ss.getD i set0).1=some (v,(0:Int),PUnit.unit)∧house_Gap (nm,ht,ss.reverse,rs) (ss.getD k set0).1 (ss.getD i set0).1=some (v,(0:Int),PUnit.unit):=by
  intro i k hi hk hlt
  obtain ⟨a1,a2⟩:=gap_ok hv hl hit hi hk (.inl (by rw[dk_nat,dk_nat];exact hlt))
  obtain ⟨b1,b2⟩:=gap_ok (i:=ss.length - 1 - i) (k:=ss.length - 1 - k) hvr hlr hitr (by rw[List.length_reverse];omega) (by rw[List.length_reverse];omega) (.inl (by rw[dk_nat,dk_nat,rev_get hi,rev_get hk];exact hlt))
  rw[rev_get hi,rev_get hk] at b1 b2
  exact ⟨_,a1,b1,a2,b2⟩
 by_cases c:(ss.getD i set0).2.1<(ss.getD k set0).2.1
 ·obtain ⟨v,h1,h2,_⟩:=key hi hk c
  exact ⟨v,h1,h2⟩
 ·have c':(ss.getD k set0).2.1<(ss.getD i set0).2.1:=by
   have:(ss.getD i set0).2.1≠(ss.getD k set0).2.1:=fun e=>hne (hd i k hi hk e)
   omega
  obtain ⟨v,_,_,h1,h2⟩:=key hk hi c'
  exact ⟨v,h1,h2⟩
end Go.Proofs.YtmoiiokmfanlgaaGreat

namespace Go.Proofs.YtmoiiokmfanlgaaGreat
open Tryz Dn Dn.Sh
theorem row_selfG {α:Type} {d:α} (l:List α):l=rowL l.length fun k=>l.getD k d:=by
 refine List.ext_getElem (by rw[rowL_len]) fun i h1 h2=>?_
 rw[rowL_at,getD_nat h1]
theorem row_revG {α:Type} {d:α} (l:List α):(rowL l.length fun k=>l.getD (l.length - 1 - k) d)=l.reverse:=by
 refine List.ext_getElem (by rw[rowL_len,List.length_reverse]) fun i h1 h2=>?_
 rw[rowL_len] at h1
 rw[rowL_at,getD_nat (by omega),List.getElem_reverse]
theorem rev_loopG {α:Type} {d:α} {l:List α} (hl:l.length≤1000) {R:Type} {F:(Int×Int×List α×PUnit→Option R)→Int×Int×List α×PUnit→Option R} {res:Option R}
  (hF:∀again (i j:Nat) (l':List α),l'.length=l.length→i<j→j<l.length→F again ((i:Int),(j:Int),l',PUnit.unit)=again (((i+1:Nat):Int),(j:Int) - 1,(l'.set i (l'.getD j d)).set j (l'.getD i d),PUnit.unit))
  (hend:∀again (i j:Int) (l':List α),¬ i<j→l'=l.reverse→F again (i,j,l',PUnit.unit)=res):lpK (Int×Int×List α×PUnit) R F ((0:Int),(l.length:Int) - 1,l,PUnit.unit)=res:=by
 refine lpK_seqX (l.length / 2) (by omega) (fun i=>((i:Int),(l.length:Int) - 1 - i,rowL l.length (fun k=>if k<i∨l.length - i≤k then l.getD (l.length - 1 - k) d else l.getD k d),PUnit.unit)) _ ?_ (fun again i hi=>?_) (fun again=>?_)
 ·rw[rowL_congr (f:=fun k=>if k<0∨l.length - 0≤k then l.getD (l.length - 1 - k) d else l.getD k d) (g:=fun k=>l.getD k d) fun k hk=>if_neg (by omega),←row_selfG]
  simp
 ·have e:(l.length:Int) - 1 - i=((l.length - 1 - i:Nat):Int):=by omega
  simp only[e]
  rw[hF again i (l.length - 1 - i) _ rowL_len (by omega) (by omega),rowL_get (show l.length - 1 - i<l.length by omega),rowL_get (show i<l.length by omega),rowL_set (show i<l.length by omega),rowL_set (show l.length - 1 - i<l.length by omega)]
  rw[if_neg (by omega),if_neg (by omega)]
  have e2:((l.length - 1 - i:Nat):Int) - 1=(l.length:Int) - 1 - (i+1:Nat):=by omega
  rw[e2]
  congr 4
  refine rowL_congr fun k hk=>?_
  by_cases c1:k=l.length - 1 - i
  ·rw[if_pos c1,if_pos (by omega),c1]
   congr 1
   omega
  ·rw[if_neg c1]
   by_cases c2:k=i
   ·rw[if_pos c2,if_pos (by omega),c2]
   ·rw[if_neg c2]
    by_cases c3:k<i∨l.length - i≤k
    ·rw[if_pos c3,if_pos (by omega)]
    ·rw[if_neg c3,if_neg (by omega)]
 ·refine hend again _ _ _ (by omega) ?_
  rw[←row_revG (d:=d) l]
  refine rowL_congr fun k hk=>?_
  by_cases c:k<l.length / 2∨l.length - l.length / 2≤k
  ·rw[if_pos c]
  ·rw[if_neg c]
   congr 1
   omega
set_option maxRecDepth 10000 in
set_option maxHeartbeats 2000000 in
theorem lawMoved (h:HH):law30_HouseMoved h=some true:=by
 have e1:∀e0:Bool,(!e0||e0)=true:=fun e0=>by cases e0<;>rfl
 have e2:∀e0:Bool,(e0||!e0)=true:=fun e0=>by cases e0<;>rfl
 obtain ⟨nm,ht,ss,rs⟩:=h
 simp only[law30_HouseMoved,law30_HouseMoved_b,awakeH_ok,readyO_ok,obN,Bool.not_true,cF]
 cases hsm:smallHB (nm,ht,ss,rs) with
 | false=>simp only[Bool.false_and,Bool.not_false,cT]
 | true =>
  cases hv:validHB (nm,ht,ss,rs) with
  | false=>simp only[Bool.true_and,Bool.not_false,cT]
  | true =>
   have hf:=small_few hsm
   obtain ⟨l1,l2,l3⟩:=small_len hsm
   simp only at l1 l2 l3
   have hss:∀x ∈ ss,fewS x:=hf.2.2
   have hit:∀s ∈ ss,s.2.2.2.2.2.2.2.2.2.2.2.1.length≤1000000:=fun s hs=>by have:=l3 s hs;omega
   simp only[Bool.and_self,Bool.not_true,cF]
   refine lpK_exR (γ:=Nat) (fun i x=>i≤ss.length∧x=((i:Int),PUnit.unit)∧∀a b,a<i→b<i→(ss.getD a set0).2.1=(ss.getD b set0).2.1→a=b) (fun r=>r=some true) (fun i=>ss.length - i) (fun rec i x hI=>?_) (s:=0) ⟨by omega,rfl,fun a b ha=>by omega⟩ (by omega)
   obtain ⟨h1,rfl,h3⟩:=hI
   by_cases hi:i<ss.length
   ·have hcon:slices_ContainsFunc_19 (List.drop (0:Nat) (List.take i ss)) (fun x_1=>law30_HouseMoved_1 x_1.1 (ss.getD i set0))=some (decide (idxI (fun t:HS=>decide (t.2.1=(ss.getD i set0).2.1)) (List.drop 0 (List.take i ss)) 0≥0)):=by
     simp only[slices_ContainsFunc_19,slices_ContainsFunc_19_b]
     have hx:slices_IndexFunc_50 (List.drop (0:Nat) (List.take i ss)) (fun x_1=>law30_HouseMoved_1 x_1.1 (ss.getD i set0))=some (idxI (fun t:HS=>decide (t.2.1=(ss.getD i set0).2.1)) (List.drop 0 (List.take i ss)) 0):=by
      unfold slices_IndexFunc_50 slices_IndexFunc_50_b
      exact index_loop (f:=fun x_1:HS×Unit=>law30_HouseMoved_1 x_1.1 (ss.getD i set0)) (p:=fun t:HS=>decide (t.2.1=(ss.getD i set0).2.1)) (d:=set0) (by rw[List.drop_zero,List.length_take];omega) (fun a _=>rfl)
     rw[hx,obN]
    have hsl:slB (0:Int) (i:Int) ss.length=true:=slB_of (by omega) (by omega) (by omega)
    by_cases hc:idxI (fun t:HS=>decide (t.2.1=(ss.getD i set0).2.1)) (List.drop 0 (List.take i ss)) 0≥0
    ·left
     simp only[decide_eq_true (show (i:Int)<ss.length by omega),inB_nat,decide_eq_true hi,hsl,Int.toNat_natCast,hcon,decide_eq_true hc,obN,cT]
    ·right
     refine ⟨i+1,_,⟨by omega,rfl,?_⟩,by omega,?_⟩
     ·have hno:∀b,b<i→(ss.getD b set0).2.1≠(ss.getD i set0).2.1:=fun b hb e=>by
       have:=(idxI_neg (p:=fun t:HS=>decide (t.2.1=(ss.getD i set0).2.1)) (l:=List.drop 0 (List.take i ss)) (i:=0) (by omega)).1 (by omega) (ss.getD b set0) (by
        rw[List.drop_zero,List.mem_take_iff_getElem]
        exact ⟨b,by omega,by rw[getD_nat (by omega)]⟩)
       exact of_decide_eq_false this e
      intro a b ha hb e
      by_cases ca:a<i
      ·by_cases cb:b<i
       ·exact h3 a b ca cb e
       ·have:b=i:=by omega
        rw[this] at e
        exact (hno a ca e).elim
      ·have ea:a=i:=by omega
       by_cases cb:b<i
       ·rw[ea] at e
        exact (hno b cb e.symm).elim
       ·omega
     ·simp only[decide_eq_true (show (i:Int)<ss.length by omega),inB_nat,decide_eq_true hi,hsl,Int.toNat_natCast,hcon,decide_eq_false hc,obN,cT,cF,succ_wrap (show i≤1000000 by omega)]
   ·left
    have hd:Ud ss:=fun a b ha hb=>h3 a b (by omega) (by omega)
    simp only[decide_eq_false (show ¬ (i:Int)<ss.length by omega),cF,fitB_of (show (0+rs.length)*40≤140737488355328 by omega),cT]
    refine lpK_seqX ss.length (by omega) (fun i=>((i:Int),nm,ht,ss.take i,rs,PUnit.unit)) _ rfl (fun again i hi=>?_) (fun again=>?_)
    ·simp only[decide_eq_true (show (i:Int)<ss.length by omega),inB_nat,decide_eq_true hi,Int.toNat_natCast,copy21_ok (hss (ss.getD i set0) (by rw[getD_nat hi];exact List.getElem_mem _)),obN,List.length_take,fitB_of (show (min i ss.length+1)*160≤140737488355328 by omega),cT,take_next hi,succ_wrap (show i≤1000000 by omega)]
    ·simp only[decide_eq_false (show ¬ (ss.length:Int)<ss.length by omega),cF,List.take_length,show IntKind.wrap .i64 ((ss.length:Int) - 1)=(ss.length:Int) - 1 by rw[wrap_id (by omega) (by omega)]]
     refine rev_loopG (d:=set0) (by omega) (fun again2 i j l' hll hij hjl=>?_) (fun again2 i j l' hij hl'=>?_)
     ·simp only[decide_eq_true (show (i:Int)<j by omega),inB_nat,Int.toNat_natCast,hll,decide_eq_true (show i<ss.length by omega),decide_eq_true hjl,ble_of (show Nat.succ i≤ss.length by omega),ble_of (show Nat.succ j≤ss.length by omega),cT,succ_wrap (show i≤1000000 by omega),show IntKind.wrap .i64 ((j:Int) - 1)=(j:Int) - 1 by rw[wrap_id (by omega) (by omega)]]
     ·simp only[decide_eq_false hij,cF,hl',hLoads_ok,obN,e1,cT,Bool.and_self]
      have hrev:=loadsH_rev hv
      have hlen:=loadsHQ_len (nm,ht,ss,rs)
      generalize loadsHQ (nm,ht,ss,rs)=A at *
      generalize loadsHQ (nm,ht,ss.reverse,rs)=B at *
      by_cases cA:A.2.1=5
      ·simp only[decide_eq_true cA,obN,e1,e2,Bool.not_true,Bool.not_false,Bool.and_self,Bool.true_and,Bool.false_and,Bool.and_true,Bool.and_false,Bool.or_true,Bool.true_or,Bool.or_false,Bool.false_or,Bool.or_self,cT,cF]
       refine lpK_seqX (ss.length - 1) (by omega) (fun j=>(((j+1:Nat):Int),PUnit.unit)) _ rfl (fun again3 j hj=>?_) (fun again3=>?_)
       ·obtain ⟨v,g1,g2⟩:=gap_rev hv (show ss.length≤19 by omega) hit hd (i:=0) (k:=j+1) (by omega) (by omega) (by omega)
        simp only[decide_eq_true (show ((j+1:Nat):Int)<ss.length by omega),inB_of (show (0:Int)≤0 by omega) (show (0:Int)<ss.length by omega),inB_nat,decide_eq_true (show j+1<ss.length by omega),Int.toNat_natCast,g1,g2,obN,decide_true,Bool.not_true,Bool.not_false,Bool.and_self,Bool.true_and,Bool.false_and,Bool.and_true,Bool.and_false,Bool.or_true,Bool.true_or,Bool.or_false,Bool.false_or,Bool.or_self,cT,cF,succ_wrap (show j+1≤1000000 by omega)]
       ·simp only[decide_eq_false (show ¬ ((ss.length - 1+1:Nat):Int)<ss.length by omega),cF]
      by_cases cB:B.2.1=5
      ·simp only[decide_eq_false cA,decide_eq_true cB,obN,e1,e2,Bool.not_true,Bool.not_false,Bool.and_self,Bool.true_and,Bool.false_and,Bool.and_true,Bool.and_false,Bool.or_true,Bool.true_or,Bool.or_false,Bool.false_or,Bool.or_self,cT,cF]
       refine lpK_seqX (ss.length - 1) (by omega) (fun j=>(((j+1:Nat):Int),PUnit.unit)) _ rfl (fun again3 j hj=>?_) (fun again3=>?_)
       ·obtain ⟨v,g1,g2⟩:=gap_rev hv (show ss.length≤19 by omega) hit hd (i:=0) (k:=j+1) (by omega) (by omega) (by omega)
        simp only[decide_eq_true (show ((j+1:Nat):Int)<ss.length by omega),inB_of (show (0:Int)≤0 by omega) (show (0:Int)<ss.length by omega),inB_nat,decide_eq_true (show j+1<ss.length by omega),Int.toNat_natCast,g1,g2,obN,decide_true,Bool.not_true,Bool.not_false,Bool.and_self,Bool.true_and,Bool.false_and,Bool.and_true,Bool.and_false,Bool.or_true,Bool.true_or,Bool.or_false,Bool.false_or,Bool.or_self,cT,cF,succ_wrap (show j+1≤1000000 by omega)]
       ·simp only[decide_eq_false (show ¬ ((ss.length - 1+1:Nat):Int)<ss.length by omega),cF]
      ·have eAB:A=B:=by
        rcases hrev with h | h | h
        ·exact (cA h).elim
        ·exact (cB h).elim
        ·exact h
       subst eAB
       simp only[decide_eq_false cA,decide_true,equal14 _ hlen,obN,e1,e2,Bool.not_true,Bool.not_false,Bool.and_self,Bool.true_and,Bool.false_and,Bool.and_true,Bool.and_false,Bool.or_true,Bool.true_or,Bool.or_false,Bool.false_or,Bool.or_self,cT,cF]
       refine lpK_seqX (ss.length - 1) (by omega) (fun j=>(((j+1:Nat):Int),PUnit.unit)) _ rfl (fun again3 j hj=>?_) (fun again3=>?_)
       ·obtain ⟨v,g1,g2⟩:=gap_rev hv (show ss.length≤19 by omega) hit hd (i:=0) (k:=j+1) (by omega) (by omega) (by omega)
        simp only[decide_eq_true (show ((j+1:Nat):Int)<ss.length by omega),inB_of (show (0:Int)≤0 by omega) (show (0:Int)<ss.length by omega),inB_nat,decide_eq_true (show j+1<ss.length by omega),Int.toNat_natCast,g1,g2,obN,decide_true,Bool.not_true,Bool.not_false,Bool.and_self,Bool.true_and,Bool.false_and,Bool.and_true,Bool.and_false,Bool.or_true,Bool.true_or,Bool.or_false,Bool.false_or,Bool.or_self,cT,cF,succ_wrap (show j+1≤1000000 by omega)]
       ·simp only[decide_eq_false (show ¬ ((ss.length - 1+1:Nat):Int)<ss.length by omega),cF]
end Go.Proofs.YtmoiiokmfanlgaaGreat
