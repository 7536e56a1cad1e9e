/- Line sets: lines, and valid sets. Beams and loads: both programs know the same valid ones. Houses: small ones, the sets' names, valid ones. Houses: what the sets load. Beams over a depth: how many, which. Fractions: rational numbers, and the pairs of numbers that stand for them. Fractions: what 'Make', 'Valid', 'Mul', 'Floor', 'Ceil' of package ratio answer. Fractions: products of two words, 'Mul', 'Floor', 'Ceil' of package ratio. Fractions of the reference: numbers of two words, their greatest common divisors and quotients. Fractions of the reference: 'Div', 'Made', 'Make', 'Times', 'Floor', 'Ceil'. Numbers of 128 bits: sums, differences, comparisons; the length of a number. The quotient of a number of 128 bits by one of 64. Fractions: 'Add' of package ratio. Fractions: 'Add', 'Valid', 'All' of the reference. Fractions: 'Sub' and 'Cmp' of both. What beams bear: the program's walk. What beams bear: the program's walk comes to the sums. What beams bear: the program's answer. What beams bear: the reference's answer. Beams and loads: what is wrong with them; Loads, Over. Houses: 'HouseLoads'. Houses: the reference's Loads; the law 'HouseLoads'. Houses: the law 'HouseLoads'. Houses: equal ones. Houses: equal ones, the reference; the law 'HouseForms'. Houses: the law 'HouseForms'. Sums of integers, and determinants. Tables of the simplex method: integers with a common denominator, as determinants of columns. Steps of the simplex method by the rule of least indices: they never come back to a basis. Steps of the simplex method come to an end: a measure. Linear programs over the rationals: what points and multipliers prove; and what tables of the simplex method prove. How great the numbers of a program's tables may get: the product of the rows' factors. Tables of programs: how great the numbers of the artificial columns may get. Tables of numbers as lists of rows, and loops over them. Sorting by insertion: the order of the sets of a house, as a function of the place. Houses: a set is put into a list of sets. Houses: both programs put a set as the list law says. -/
import Derived.Test.YtmoiiokmfanlgaaGreatMgM

namespace Go.Proofs.YtmoiiokmfanlgaaGreat
open Tryz Dn Dn.Sh
def lineB (l:List Int) (len:Int) (i:Nat):Bool:=btw (l.getD i 0) 0 len&&(decide (i=0)||decide (l.getD (i - 1) 0<l.getD i 0))
def linesB (l:List Int) (len:Int):Bool:=btw (l.length:Int) 2 10&&(List.range' 0 l.length).all (lineB l len)
theorem lines_eq {l:List Int} {len:Int} (h2:2≤l.length):(decide (0≤l.getD 0 0)&&(decide (l.getD (l.length - 1) 0≤len)&&(List.range' 0 (l.length - 1)).all fun i=>decide (l.getD i 0<l.getD (i+1) 0)))=(List.range' 0 l.length).all (lineB l len):=by
 rw[Bool.eq_iff_iff,Bool.and_eq_true,Bool.and_eq_true,List.all_eq_true,List.all_eq_true,decide_eq_true_iff,decide_eq_true_iff]
 constructor
 ·rintro ⟨h0,h1,h3⟩ i hi
  obtain ⟨k,hk,rfl⟩:=List.mem_range'.1 hi
  have step:∀i,i+1<l.length→l.getD i 0<l.getD (i+1) 0:=fun i hi=>of_decide_eq_true (h3 i (List.mem_range'.2 ⟨i,by omega,by omega⟩))
  have mono:∀d i,i+d<l.length→l.getD i 0≤l.getD (i+d) 0:=by
   intro d
   induction d with
   | zero=>intro i _;exact Int.le_refl _
   | succ d ih =>
    intro i hi
    have g1:=ih i (by omega)
    have g2:=step (i+d) (by omega)
    rw[show i+(d+1)=i+d+1 by omega]
    omega
  have g1:=mono (0+1*k) 0 (by omega)
  have g2:=mono (l.length - 1 - (0+1*k)) (0+1*k) (by omega)
  rw[Nat.zero_add] at g1
  rw[show 0+1*k+(l.length - 1 - (0+1*k))=l.length - 1 by omega] at g2
  unfold lineB btw
  rw[Bool.and_eq_true,Bool.and_eq_true,Bool.or_eq_true,decide_eq_true_iff,decide_eq_true_iff,decide_eq_true_iff,decide_eq_true_iff]
  refine ⟨⟨by omega,by omega⟩,?_⟩
  by_cases hz:0+1*k=0
  ·exact .inl hz
  ·right
   have:=step (0+1*k - 1) (by omega)
   rw[show 0+1*k - 1+1=0+1*k by omega] at this
   exact this
 ·intro h
  have at':∀i,i<l.length→(0≤l.getD i 0∧l.getD i 0≤len)∧(i=0∨l.getD (i - 1) 0<l.getD i 0):=fun i hi=>by
   have:=h i (List.mem_range'.2 ⟨i,hi,by omega⟩)
   unfold lineB btw at this
   rw[Bool.and_eq_true,Bool.and_eq_true,Bool.or_eq_true,decide_eq_true_iff,decide_eq_true_iff,decide_eq_true_iff,decide_eq_true_iff] at this
   exact this
  refine ⟨(at' 0 (by omega)).1.1,(at' (l.length - 1) (by omega)).1.2,fun i hi=>?_⟩
  obtain ⟨k,hk,rfl⟩:=List.mem_range'.1 hi
  have:=(at' (0+1*k+1) (by omega)).2
  rw[decide_eq_true_iff]
  rcases this with h | h
  ·omega
  ·rw[Nat.add_sub_cancel] at h
   exact h
theorem linesA_ok (l:List Int) (len:Int):batten_lines l len=some (linesB l len):=by
 simp only[batten_lines,batten_lines_b,btwA_ok,obind_some',linesB]
 cases hb:btw (l.length:Int) 2 10 with
 | false=>rfl
 | true =>
  have h2:2≤l.length∧l.length≤10:=by
   unfold btw at hb
   rw[Bool.and_eq_true,decide_eq_true_iff,decide_eq_true_iff] at hb
   omega
  have hw0:IntKind.wrap .i64 ((l.length:Int) - 1)=((l.length - 1:Nat):Int):=by rw[wrap_id (by omega) (by omega)];omega
  rw[←lines_eq h2.1]
  simp only[hw0,Int.toNat_natCast,inB_nat,inB_of (show (0:Int)≤0 by omega) (show (0:Int)<(l.length:Nat) by omega),decide_eq_true (show l.length - 1<l.length by omega),Bool.not_true,Bool.not_false,Bool.or_true,Bool.and_self,Bool.true_and,cT,cF,not_or_self',or_self_not]
  by_cases g0:l.getD 0 0<0
  ·rw[decide_eq_true g0,decide_eq_false (show ¬ 0≤l.getD 0 0 by omega)]
   rfl
  ·rw[decide_eq_false g0,decide_eq_true (show 0≤l.getD 0 0 by omega)]
   by_cases g1:l.getD (l.length - 1) 0>len
   ·rw[decide_eq_true g1,decide_eq_false (show ¬ l.getD (l.length - 1) 0≤len by omega)]
    rfl
   ·rw[decide_eq_false g1,decide_eq_true (show l.getD (l.length - 1) 0≤len by omega)]
    simp only[Bool.true_and,cF]
    refine (lpK_up (α:=Int×PUnit) (l.length - 1) (by omega) (fun i (_:Unit)=>(((i+1:Nat):Int),PUnit.unit)) (fun i s k=>bif decide (l.getD i 0<l.getD (i+1) 0) then k s else some false) (fun _=>some true) ?_ ?_ ()).trans ?_
    ·intro again i _ hi
     have hw:IntKind.wrap .i64 (((i+1:Nat):Int)+1)=((i+1+1:Nat):Int):=by rw[wrap_id (by omega) (by omega)];omega
     have hw1:IntKind.wrap .i64 (((i+1:Nat):Int) - 1)=((i:Nat):Int):=by rw[wrap_id (by omega) (by omega)];omega
     simp only[hw,hw1,inB_nat,decide_eq_true (show ((i+1:Nat):Int)<l.length by omega),decide_eq_true (show i+1<l.length by omega),decide_eq_true (show i<l.length by omega),cT,Int.toNat_natCast]
     by_cases hc:l.getD i 0<l.getD (i+1) 0
     ·rw[decide_eq_true hc,decide_eq_false (show ¬ l.getD (i+1) 0≤l.getD i 0 by omega)];rfl
     ·rw[decide_eq_false hc,decide_eq_true (show l.getD (i+1) 0≤l.getD i 0 by omega)];rfl
    ·intro again _
     simp only[decide_eq_false (show ¬ ((l.length - 1+1:Nat):Int)<l.length by omega),cF]
    ·rw[upF_all (l.length - 1) (fun i k _=>rfl) (l.length - 1) 0 (by omega)]
     cases (List.range' 0 (l.length - 1)).all fun i=>decide (l.getD i 0<l.getD (i+1) 0)<;>rfl
noncomputable def setB (s:HS):Bool:=nameB s.1&&(btw s.2.1 0 1048576&&(btw s.2.2.1 0 s.2.2.2.1&&(btw s.2.2.2.1 0 1048576&&(btw s.2.2.2.2.1 1000 1048576&&(decide (Int.tmod s.2.2.2.2.1 1000=0)&&(linesB s.2.2.2.2.2.1 s.2.2.2.2.1 &&
 (btw s.2.2.2.2.2.2.1 0 1048576&&(btw s.2.2.2.2.2.2.2.1 0 1048576&&(btw s.2.2.2.2.2.2.2.2.1 1 2&&(btw s.2.2.2.2.2.2.2.2.2.1 1 67108864&&(btw s.2.2.2.2.2.2.2.2.2.2.1 0 67108864&&(itemsB s.2.2.2.2.2.2.2.2.2.2.2.1 s.2.2.2.2.1&&bricksB s.2.2.2.2.2.2.2.2.2.2.2.2))))))))))))
theorem obind_bif {R:Type} {b x:Bool} {k:Bool→Option R}:(obind (bif b then some x else some false) k)=k (b&&x):=by cases b<;>rfl
theorem validA_ok (s:HS):batten_Valid s=some (setB s):=by
 obtain ⟨nm,dp,lo,hi,len,ls,pi,ar,pu,mo,br,l,bs⟩:=s
 simp only[batten_Valid,batten_Valid_b,isName_ok,btwA_ok,linesA_ok,itemsA_ok,bricksA_ok,obind_bif,obind_some',not_or_self',Bool.and_self,Bool.or_true,cT,bif_false',setB]
 have e:(decide (0≤lo)&&(decide (lo≤hi)&&decide (hi≤1048576)))=(btw lo 0 hi&&btw hi 0 1048576):=by
  unfold btw
  by_cases h1:0≤lo<;>by_cases h2:lo≤hi<;>by_cases h3:hi≤1048576
  all_goals first | (rw[decide_eq_true h1]) | (rw[decide_eq_false h1])
  all_goals first | (rw[decide_eq_true h2]) | (rw[decide_eq_false h2])
  all_goals first | (rw[decide_eq_true h3]) | (rw[decide_eq_false h3])
  all_goals simp
  omega
 have e2:∀R:Bool,(decide (0≤lo)&&(decide (lo≤hi)&&(decide (hi≤1048576)&&R)))=(btw lo 0 hi&&(btw hi 0 1048576&&R)):=fun R=>by
  have:=congrArg (·&&R) e
  simpa only[Bool.and_assoc] using this
 rw[←e2]
 congr 1
 generalize nameB nm=b1
 generalize btw dp 0 1048576=b2
 generalize decide (0≤lo)=b3
 generalize decide (lo≤hi)=b4
 generalize decide (hi≤1048576)=b5
 generalize btw len 1000 1048576=b6
 generalize decide (Int.tmod len 1000=0)=b7
 generalize linesB ls len=b8
 generalize btw pi 0 1048576=b9
 generalize btw ar 0 1048576=b10
 generalize btw pu 1 2=b11
 generalize btw mo 1 67108864=b12
 generalize btw br 0 67108864=b13
 generalize itemsB l len=b14
 generalize bricksB bs=b15
 cases b1;· rfl
 cases b2;· rfl
 cases b3;· rfl
 cases b4;· rfl
 cases b5;· rfl
 cases b6;· rfl
 cases b7;· rfl
 cases b8;· rfl
 cases b9;· rfl
 cases b10;· rfl
 cases b11;· rfl
 cases b12;· rfl
 cases b13;· rfl
 cases b14;· rfl
 cases b15<;>rfl
theorem validR_ok (s:HS) (hl:s.2.2.2.2.2.2.2.2.2.2.2.1.length≤1000000):ref21_Valid s=some (setB s):=by
 obtain ⟨nm,dp,lo,hi,len,ls,pi,ar,pu,mo,br,l,bs⟩:=s
 simp only at hl
 simp only[ref21_Valid,ref21_Valid_b,refIsName_ok,btwB_ok,itemsR_ok _ _ _ _ _ _ _ _ _ _ _ _ _ hl,bricksR_ok,obind_bif,obind_some',setB,linesB]
 generalize nameB nm=b1
 generalize btw dp 0 1048576=b2
 generalize btw lo 0 hi=b3
 generalize btw hi 0 1048576=b4
 generalize btw len 1000 1048576=b6
 generalize decide (Int.tmod len 1000=0)=b7
 generalize hb:btw (ls.length:Int) 2 10=b8
 generalize btw pi 0 1048576=b9
 generalize btw ar 0 1048576=b10
 generalize btw pu 1 2=b11
 generalize btw mo 1 67108864=b12
 generalize btw br 0 67108864=b13
 cases b1;· rfl
 cases b2;· rfl
 cases b3;· rfl
 cases b4;· rfl
 cases b6;· rfl
 cases b7;· rfl
 cases b8;· rfl
 have h2:2≤ls.length∧ls.length≤10:=by
  unfold btw at hb
  rw[Bool.and_eq_true,decide_eq_true_iff,decide_eq_true_iff] at hb
  omega
 cases b9;· (simp only[Bool.false_and,Bool.and_false];rfl)
 cases b10;· (simp only[Bool.false_and,Bool.and_false];rfl)
 cases b11;· (simp only[Bool.false_and,Bool.and_false];rfl)
 cases b12;· (simp only[Bool.false_and,Bool.and_false];rfl)
 cases b13;· (simp only[Bool.false_and,Bool.and_false];rfl)
 simp only[Bool.not_true,Bool.not_false,Bool.or_true,Bool.and_self,Bool.true_and,cT,cF,not_or_self',or_self_not]
 refine (lpK_up (α:=Int×PUnit) ls.length (by omega) (fun i (_:Unit)=>((i:Int),PUnit.unit)) (fun i s k=>bif lineB ls len i then k s else some false) (fun _=>some (itemsB l len&&bricksB bs)) ?_ ?_ ()).trans ?_
 ·intro again i _ hi
  have hw:IntKind.wrap .i64 ((i:Int)+1)=((i+1:Nat):Int):=by rw[wrap_id (by omega) (by omega)];rfl
  simp only[inB_nat,decide_eq_true hi,decide_eq_true (show (i:Int)<ls.length by omega),cT,Int.toNat_natCast,hw]
  unfold lineB
  by_cases hz:i=0
  ·rw[decide_eq_false (show ¬ (i:Int)>0 by omega),decide_eq_true hz]
   cases btw (ls.getD i 0) 0 len<;>rfl
  ·have hw1:IntKind.wrap .i64 ((i:Int) - 1)=((i - 1:Nat):Int):=by rw[wrap_id (by omega) (by omega)];omega
   rw[decide_eq_true (show (i:Int)>0 by omega),decide_eq_false hz]
   simp only[hw1,inB_nat,decide_eq_true (show i - 1<ls.length by omega),Int.toNat_natCast]
   by_cases hc:ls.getD (i - 1) 0<ls.getD i 0
   ·rw[decide_eq_true hc,decide_eq_false (show ¬ ls.getD i 0≤ls.getD (i - 1) 0 by omega)]
    cases btw (ls.getD i 0) 0 len<;>rfl
   ·rw[decide_eq_false hc,decide_eq_true (show ls.getD i 0≤ls.getD (i - 1) 0 by omega)]
    cases btw (ls.getD i 0) 0 len<;>rfl
 ·intro again _
  simp only[decide_eq_false (show ¬ (ls.length:Int)<ls.length by omega),cF]
  cases itemsB l len<;>cases bricksB bs<;>rfl
 ·rw[upF_all ls.length (fun i k _=>rfl) ls.length 0 (by omega)]
  cases (List.range' 0 ls.length).all (lineB ls len)<;>simp
end Go.Proofs.YtmoiiokmfanlgaaGreat

namespace Go.Proofs.YtmoiiokmfanlgaaGreat
open Tryz Dn Dn.Sh
abbrev Bm:=ByteArray×Int×Int×Int
abbrev bm0:Bm:=({ data:={ toList:=[] } },(0:Int),(0:Int),(0:Int))
def bmAt (l:List Bm) (i:Nat):Bm:=l.getD i bm0
def inL (n:Int):Bool:=decide (0≤n∧n≤1048576)
def inW (n:Int):Bool:=decide (0≤n∧n≤67108864)
noncomputable def beamB (l:List Bm) (i:Nat):Bool:=nameB (bmAt l i).1&&(decide (0≤(bmAt l i).2.1∧(bmAt l i).2.1≤(bmAt l i).2.2.1∧(bmAt l i).2.2.1≤1048576)&&(inW (bmAt l i).2.2.2&&decide (idxI (fun a:Bm=>decide (a.1=(bmAt l i).1)) (l.take i) 0<0)))
noncomputable def validG (l:List Bm):Bool:=decide (l.length≤20)&&(List.range' 0 l.length).all (beamB l)
theorem within_ok (n:Int):grid_within n=some (inL n):=by
 simp only[grid_within,grid_within_b,not_or_self',cT,bif_false',ge_iff_le,inL,Bool.decide_and]
theorem isNameG_ok (s:ByteArray):grid_isName s=some (nameB s):=by
 simp only[grid_isName,grid_isName_b,isName_ok,obind_some']
theorem between_ok (n a b:Int):ref19_between n a b=some (decide (a≤n∧n≤b)):=by
 simp only[ref19_between,ref19_between_b,not_or_self',Bool.and_self,cT,bif_false',ge_iff_le,Bool.decide_and]
theorem index85 {f:(Bm×Unit)→Option Bool} {p:Bm→Bool} {l:List Bm} (hl:l.length≤1000000) (h:∀a,a ∈ l→f (a,())=some (p a)):slices_IndexFunc_151 l f=some (idxI p l 0):=by
 unfold slices_IndexFunc_151 slices_IndexFunc_151_b
 exact index_loop (f:=f) (d:=bm0) hl h
theorem contains41' {f:(Bm×Unit)→Option Bool} {p:Bm→Bool} {l:List Bm} (hl:l.length≤1000000) (h:∀a,a ∈ l→f (a,())=some (p a)):slices_ContainsFunc_110 l f=some (!decide (idxI p l 0<0)):=by
 simp only[slices_ContainsFunc_110,slices_ContainsFunc_110_b,index85 hl h,obind_some']
 congr 1
 rw[Bool.eq_iff_iff]
 simp
theorem gValid_ok (l:List Bm):grid_Valid l=some (validG l):=by
 simp only[grid_Valid,grid_Valid_b,validG]
 by_cases h0:l.length≤20
 ·rw[decide_eq_false (show ¬ ((l.length:Nat):Int)>20 by omega),decide_eq_true h0]
  simp only[cF,Bool.true_and]
  refine (lpK_up (α:=Int×PUnit) l.length (by omega) (fun i (_:Unit)=>((i:Int),PUnit.unit)) (fun i s k=>bif beamB l i then k s else some false) (fun _=>some true) ?_ ?_ ()).trans ?_
  ·intro again i _ hi
   have hw:IntKind.wrap .i64 ((i:Int)+1)=((i+1:Nat):Int):=by rw[wrap_id (by omega) (by omega)];rfl
   have hs:slB (0:Int) (i:Int) l.length=true:=slB_of (by omega) (by omega) (by omega)
   have hc:slices_ContainsFunc_110 (List.drop 0 (List.take i l)) (fun x=>grid_Valid_1 x.1 (bmAt l i))=some (!decide (idxI (fun a:Bm=>decide (a.1=(bmAt l i).1)) (l.take i) 0<0)) :=
    contains41' (l:=List.drop 0 (List.take i l)) (p:=fun a:Bm=>decide (a.1=(bmAt l i).1)) (by rw[List.drop_zero,List.length_take];omega) fun a _=>by simp only[grid_Valid_1,grid_Valid_1_b,str_beq]
   simp only[inB_nat,decide_eq_true hi,decide_eq_true (show (i:Int)<l.length by omega),cT,Int.toNat_natCast,hw,show List.getD l i bm0=bmAt l i from rfl,isNameG_ok,within_ok,obind_some',hs]
   unfold beamB
   generalize bmAt l i=b at *
   obtain ⟨s,fr,to,mo⟩:=b
   simp only at hc ⊢
   rw[hc]
   generalize decide (idxI (fun a:Bm=>decide (a.1=s)) (l.take i) 0<0)=q
   cases nameB s with
   | false=>rfl
   | true =>
    by_cases g1:0≤fr∧fr≤1048576
    ·by_cases g2:0≤to∧to≤1048576
     ·by_cases g3:fr>to
      ·simp only[inL,decide_eq_true g1,decide_eq_true g2,decide_eq_true g3,decide_eq_false (show ¬ (0≤fr∧fr≤to∧to≤1048576) by omega)]
       simp[obind_some']
      ·by_cases g4:mo<0
       ·simp only[inL,inW,decide_eq_true g1,decide_eq_true g2,decide_eq_false g3,decide_eq_true g4,decide_eq_true (show (0≤fr∧fr≤to∧to≤1048576) by omega),decide_eq_false (show ¬ (0≤mo∧mo≤67108864) by omega)]
        simp[obind_some']
       ·by_cases g5:mo>67108864
        ·simp only[inL,inW,decide_eq_true g1,decide_eq_true g2,decide_eq_false g3,decide_eq_false g4,decide_eq_true g5,decide_eq_true (show (0≤fr∧fr≤to∧to≤1048576) by omega),decide_eq_false (show ¬ (0≤mo∧mo≤67108864) by omega)]
         simp[obind_some']
        ·simp only[inL,inW,decide_eq_true g1,decide_eq_true g2,decide_eq_false g3,decide_eq_false g4,decide_eq_false g5,decide_eq_true (show (0≤fr∧fr≤to∧to≤1048576) by omega),decide_eq_true (show (0≤mo∧mo≤67108864) by omega)]
         cases q<;>simp[obind_some']
     ·simp only[inL,decide_eq_true g1,decide_eq_false g2,decide_eq_false (show ¬ (0≤fr∧fr≤to∧to≤1048576) by omega)]
      simp[obind_some']
    ·simp only[inL,decide_eq_false g1]
     by_cases g6:0≤fr∧fr≤to∧to≤1048576
     ·omega
     ·simp only[decide_eq_false g6]
      simp[obind_some']
  ·intro again _
   simp
  ·exact upF_all l.length (fun i k _=>rfl) l.length 0 (by omega) |>.trans (by cases (List.range' 0 l.length).all (beamB l)<;>rfl)
 ·rw[decide_eq_true (show ((l.length:Nat):Int)>20 by omega),decide_eq_false h0]
  rfl
theorem earlier_loop {p:Bm→Bool} {l:List Bm} {i:Nat} (hl:l.length≤1000000) (hi:i≤l.length) {R:Type} {yes no:Option R} :
  lpK (Int×PUnit) R (fun (again_1:Int×PUnit→Option R) (x_1:Int×PUnit)=>bif decide (x_1.1<(i:Int)) then bif inB x_1.1 (List.length l) then bif p (List.getD l (Int.toNat x_1.1) bm0) then yes else
   again_1 (IntKind.wrap .i64 (x_1.1+(1:Int)),PUnit.unit) else none else no) ((0:Int),PUnit.unit)=bif decide (idxI p (l.take i) 0<0) then no else yes:=by
 refine (lpK_up (α:=Int×PUnit) i (by omega) (fun j (_:Unit)=>((j:Int),PUnit.unit)) (fun j s k=>bif !p (l.getD j bm0) then k s else yes) (fun _=>no) ?_ ?_ ()).trans ?_
 ·intro again j _ hj
  have hw:IntKind.wrap .i64 ((j:Int)+1)=((j+1:Nat):Int):=by rw[wrap_id (by omega) (by omega)];rfl
  simp only[inB_nat,decide_eq_true (show j<l.length by omega),decide_eq_true (show (j:Int)<i by omega),cT,Int.toNat_natCast,hw]
  cases p (l.getD j bm0)<;>rfl
 ·intro again _
  simp only[decide_eq_false (show ¬ (i:Int)<i by omega),cF]
 ·refine (upF_all (p:=fun j=>!p (l.getD j bm0)) (r:=yes) i (fun _ _ _=>rfl) i 0 (by omega)).trans ?_
  congr 1
  have h:=idxI_neg (p:=p) (l:=l.take i) (i:=0) (by omega)
  rw[Bool.eq_iff_iff,decide_eq_true_iff,h,List.all_eq_true]
  constructor
  ·intro h1 a ha
   obtain ⟨j,hj,rfl⟩:=List.getElem_of_mem ha
   rw[List.length_take] at hj
   have:=h1 j (List.mem_range'.2 ⟨j,by omega,by omega⟩)
   rw[getD_nat (show j<l.length by omega)] at this
   rw[List.getElem_take]
   simpa using this
  ·intro h1 j hj
   obtain ⟨k,hk,rfl⟩:=List.mem_range'.1 hj
   have:l.getD (0+1*k) bm0 ∈ l.take i:=by
    rw[getD_nat (by omega)]
    exact List.mem_take_iff_getElem.2 ⟨0+1*k,by omega,rfl⟩
   rw[h1 _ this]
   rfl
theorem gRefValid_ok (l:List Bm):ref19_Valid l=some (validG l):=by
 simp only[ref19_Valid,ref19_Valid_b,validG]
 by_cases h0:l.length≤20
 ·rw[decide_eq_false (show ¬ ((l.length:Nat):Int)>20 by omega),decide_eq_true h0]
  simp only[cF,Bool.true_and]
  refine (lpK_up (α:=Int×PUnit) l.length (by omega) (fun i (_:Unit)=>((i:Int),PUnit.unit)) (fun i s k=>bif beamB l i then k s else some false) (fun _=>some true) ?_ ?_ ()).trans ?_
  ·intro again i _ hi
   have hw:IntKind.wrap .i64 ((i:Int)+1)=((i+1:Nat):Int):=by rw[wrap_id (by omega) (by omega)];rfl
   have he:=fun (no:Option Bool)=>earlier_loop (p:=fun a:Bm=>decide (a.1=(bmAt l i).1)) (l:=l) (i:=i) (by omega) (by omega) (yes:=some false) (no:=no)
   simp only[inB_nat,decide_eq_true hi,decide_eq_true (show (i:Int)<l.length by omega),cT,Int.toNat_natCast,hw,show List.getD l i bm0=bmAt l i from rfl,refIsName_ok,between_ok,obind_some',str_beq]
   rw[he]
   unfold beamB inW
   generalize bmAt l i=b at *
   obtain ⟨s,fr,to,mo⟩:=b
   simp only
   generalize decide (idxI (fun a:Bm=>decide (a.1=s)) (l.take i) 0<0)=q
   cases nameB s with
   | false=>rfl
   | true =>
    by_cases g1:0≤fr∧fr≤to
    ·by_cases g2:0≤to∧to≤1048576
     ·simp only[decide_eq_true g1,decide_eq_true g2,decide_eq_true (show (0≤fr∧fr≤to∧to≤1048576) by omega)]
      cases decide (0≤mo∧mo≤67108864)<;>cases q<;>simp[obind_some']
     ·simp only[decide_eq_true g1,decide_eq_false g2,decide_eq_false (show ¬ (0≤fr∧fr≤to∧to≤1048576) by omega)]
      simp[obind_some']
    ·simp only[decide_eq_false g1,decide_eq_false (show ¬ (0≤fr∧fr≤to∧to≤1048576) by omega)]
     simp[obind_some']
  ·intro again _
   simp
  ·exact upF_all l.length (fun i k _=>rfl) l.length 0 (by omega) |>.trans (by cases (List.range' 0 l.length).all (beamB l)<;>rfl)
 ·rw[decide_eq_true (show ((l.length:Nat):Int)>20 by omega),decide_eq_false h0]
  rfl
end Go.Proofs.YtmoiiokmfanlgaaGreat

namespace Go.Proofs.YtmoiiokmfanlgaaGreat
open Tryz Dn Dn.Sh
abbrev HH:=ByteArray×Int×List HS×List Bm
abbrev set0:HS:=({ data:={ toList:=[] } },(0:Int),(0:Int),(0:Int),(0:Int),[],(0:Int),(0:Int),(0:Int),(0:Int),(0:Int),[],[])
def shortB (s:ByteArray):Bool:=!decide ((s.size:Int)>60)
def small21B (s:HS):Bool:=shortB s.1&&(!decide ((s.2.2.2.2.2.1.length:Int)>12)&&(!(decide ((s.2.2.2.2.2.2.2.2.2.2.2.1.length:Int)>8)&&decide ((s.2.2.2.2.2.2.2.2.2.2.2.1.length:Int)≤40))&&(!decide ((s.2.2.2.2.2.2.2.2.2.2.2.1.length:Int)>45) &&
 (!decide ((s.2.2.2.2.2.2.2.2.2.2.2.2.length:Int)>10)&&(s.2.2.2.2.2.2.2.2.2.2.2.1.all (fun x=>shortB x.1)&&s.2.2.2.2.2.2.2.2.2.2.2.2.all (fun x=>shortB x.1))))))
theorem chk_loop {α R:Type} {p:α→Bool} {d:α} {l:List α} {yes no:Option R} {F:(Int×PUnit→Option R)→Int×PUnit→Option R} (hl:l.length≤1000000)
  (hb:∀again (i:Nat),i<l.length→F again ((i:Int),PUnit.unit)=bif p (l.getD i d) then again (((i+1:Nat):Int),PUnit.unit) else no) (hf:∀again,F again ((l.length:Int),PUnit.unit)=yes) :
  lpK (Int×PUnit) R F ((0:Int),PUnit.unit)=bif l.all p then yes else no:=by
 refine (lpK_up (α:=Int×PUnit) l.length (by omega) (fun i (_:Unit)=>((i:Int),PUnit.unit)) (fun i s k=>bif p (l.getD i d) then k s else no) (fun _=>yes) ?_ ?_ ()).trans ?_
 ·intro again i _ hi
  exact hb again i hi
 ·intro again _
  exact hf again
 ·rw[upF_all l.length (fun i k _=>rfl) l.length 0 (by omega),all_range]
theorem small21_ok (s:HS):ref21_Small s 8=some (small21B s):=by
 obtain ⟨nm,dp,lo,hi,len,ls,pi,ar,pu,mo,br,l,bs⟩:=s
 simp only[ref21_Small,ref21_Small_b,small21B]
 have h1:shortB nm=!decide ((nm.size:Int)>60):=rfl
 rw[h1]
 generalize decide ((nm.size:Int)>60)=b1
 generalize decide ((ls.length:Int)>12)=b2
 generalize decide ((l.length:Int)>8)=b3
 generalize decide ((l.length:Int)≤40)=b4
 generalize hb5:decide ((l.length:Int)>45)=b5
 generalize hb6:decide ((bs.length:Int)>10)=b6
 cases b1;case true=>rfl
 cases b2;case true=>rfl
 have key:∀b:Bool,b5=false→b6=false→lpK (Int×PUnit) Bool (fun (again:Int×PUnit→Option Bool) (x:Int×PUnit)=>bif decide (x.1<(↑(List.length l):Int)) then bif inB x.1 (List.length l) then bif decide ((↑(ByteArray.size (List.getD l (Int.toNat x.1) itm0).1):Int)>(60:Int)) then some false else again (IntKind.wrap .i64 (x.1+(1:Int)),PUnit.unit) else none else
   lpK (Int×PUnit) Bool (fun (again:Int×PUnit→Option Bool) (x:Int×PUnit)=>bif decide (x.1<(↑(List.length bs):Int)) then bif inB x.1 (List.length bs) then bif decide ((↑(ByteArray.size (List.getD bs (Int.toNat x.1) brk0).1):Int)>(60:Int)) then some false else again (IntKind.wrap .i64 (x.1+(1:Int)),PUnit.unit) else none else some true) ((0:Int),PUnit.unit)) ((0:Int),PUnit.unit)
   = some (l.all (fun x=>shortB x.1)&&bs.all (fun x=>shortB x.1)):=fun _ h5 h6=>by
  subst h5;subst h6
  have g5:¬ (l.length:Int)>45:=of_decide_eq_false hb5
  have g6:¬ (bs.length:Int)>10:=of_decide_eq_false hb6
  refine (chk_loop (p:=fun x:Itm=>shortB x.1) (d:=itm0) (l:=l) (no:=some false) (yes:=some (bs.all fun x=>shortB x.1)) (by omega) ?_ ?_).trans ?_
  ·intro again i hi
   have hw:IntKind.wrap .i64 ((i:Int)+1)=((i+1:Nat):Int):=by rw[wrap_id (by omega) (by omega)];rfl
   simp only[inB_nat,decide_eq_true hi,decide_eq_true (show (i:Int)<l.length by omega),cT,Int.toNat_natCast,hw]
   unfold shortB
   cases decide ((((l.getD i itm0).1.size:Nat):Int)>60)<;>rfl
  ·intro again
   simp only[decide_eq_false (show ¬ (l.length:Int)<l.length by omega),cF]
   refine (chk_loop (p:=fun x:Brk=>shortB x.1) (d:=brk0) (l:=bs) (no:=some false) (yes:=some true) (by omega) ?_ ?_).trans ?_
   ·intro again i hi
    have hw:IntKind.wrap .i64 ((i:Int)+1)=((i+1:Nat):Int):=by rw[wrap_id (by omega) (by omega)];rfl
    simp only[inB_nat,decide_eq_true hi,decide_eq_true (show (i:Int)<bs.length by omega),cT,Int.toNat_natCast,hw]
    unfold shortB
    cases decide ((((bs.getD i brk0).1.size:Nat):Int)>60)<;>rfl
   ·intro again
    simp only[decide_eq_false (show ¬ (bs.length:Int)<bs.length by omega),cF]
   ·cases bs.all (fun x=>shortB x.1)<;>rfl
  ·cases l.all (fun x=>shortB x.1)<;>rfl
 cases b3 with
 | false =>
  cases b5;case true=>rfl
  cases b6;case true=>rfl
  simp only[Bool.not_true,Bool.not_false,Bool.or_true,Bool.or_false,Bool.and_self,Bool.true_and,Bool.false_and,Bool.and_false,cT,cF]
  exact key true rfl rfl
 | true =>
  cases b4;case true=>rfl
  cases b5;case true=>rfl
  cases b6;case true=>rfl
  simp only[Bool.not_true,Bool.not_false,Bool.or_true,Bool.and_self,Bool.true_and,Bool.and_false,cT,cF]
  exact key true rfl rfl
def smallHB (h:HH):Bool:=!decide ((h.2.2.1.length:Int)>6)&&(!decide ((h.2.2.2.length:Int)>16)&&(shortB h.1&&(h.2.2.1.all small21B&&h.2.2.2.all (fun x=>shortB x.1))))
theorem smallH_ok (h:HH):law30_small h=some (smallHB h):=by
 obtain ⟨nm,ht,ss,rs⟩:=h
 simp only[law30_small,law30_small_b,ref30_Small,ref30_Small_b,smallHB,small21_ok,obind_some']
 have h1:shortB nm=!decide ((nm.size:Int)>60):=rfl
 rw[h1,show IntKind.wrap .i64 (6+10)=16 by kernel_rfl]
 generalize decide ((nm.size:Int)>60)=b1
 generalize hb2:decide ((ss.length:Int)>6)=b2
 generalize hb3:decide ((rs.length:Int)>16)=b3
 cases b2;case true=>rfl
 cases b3;case true=>rfl
 cases b1;case true=>rfl
 have g2:¬ (ss.length:Int)>6:=of_decide_eq_false hb2
 have g3:¬ (rs.length:Int)>16:=of_decide_eq_false hb3
 simp only[Bool.not_true,Bool.not_false,Bool.or_true,Bool.and_self,Bool.true_and,cT,cF]
 refine Eq.trans (congrArg (fun m:Option Bool=>obind m fun t=>some t) (chk_loop (p:=small21B) (d:=set0) (l:=ss) (no:=some false) (yes:=some (rs.all fun x=>shortB x.1)) (by omega) ?_ ?_)) ?_
 ·intro again i hi
  have hw:IntKind.wrap .i64 ((i:Int)+1)=((i+1:Nat):Int):=by rw[wrap_id (by omega) (by omega)];rfl
  simp only[inB_nat,decide_eq_true hi,decide_eq_true (show (i:Int)<ss.length by omega),cT,Int.toNat_natCast,hw]
  cases small21B (ss.getD i set0)<;>rfl
 ·intro again
  simp only[decide_eq_false (show ¬ (ss.length:Int)<ss.length by omega),cF]
  refine (chk_loop (p:=fun x:Bm=>shortB x.1) (d:=bm0) (l:=rs) (no:=some false) (yes:=some true) (by omega) ?_ ?_).trans ?_
  ·intro again i hi
   have hw:IntKind.wrap .i64 ((i:Int)+1)=((i+1:Nat):Int):=by rw[wrap_id (by omega) (by omega)];rfl
   simp only[inB_nat,decide_eq_true hi,decide_eq_true (show (i:Int)<rs.length by omega),cT,Int.toNat_natCast,hw]
   unfold shortB
   cases decide ((((rs.getD i bm0).1.size:Nat):Int)>60)<;>rfl
  ·intro again
   simp only[decide_eq_false (show ¬ (rs.length:Int)<rs.length by omega),cF]
  ·cases rs.all (fun x=>shortB x.1)<;>rfl
 ·cases ss.all small21B<;>cases rs.all (fun x=>shortB x.1)<;>rfl
theorem small_len {h:HH} (hs:smallHB h=true):h.2.2.1.length≤6∧h.2.2.2.length≤16∧∀s ∈ h.2.2.1,s.2.2.2.2.2.1.length≤12∧s.2.2.2.2.2.2.2.2.2.2.2.1.length≤45∧s.2.2.2.2.2.2.2.2.2.2.2.2.length≤10:=by
 simp only[smallHB,Bool.and_eq_true,Bool.not_eq_true',decide_eq_false_iff_not,List.all_eq_true] at hs
 obtain ⟨h1,h2,_,h4,_⟩:=hs
 refine ⟨by omega,by omega,fun s hm=>?_⟩
 have:=h4 s hm
 simp only[small21B,Bool.and_eq_true,Bool.not_eq_true',decide_eq_false_iff_not] at this
 obtain ⟨_,g1,_,g2,g3,_⟩:=this
 omega
def findI (h:HH) (n:ByteArray):Int:=idxI (fun s:HS=>decide (s.1=n)) h.2.2.1 0
theorem find_ok (h:HH) (n:ByteArray) (hl:h.2.2.1.length≤1000000):house_find h n=some (findI h n):=by
 simp only[house_find,house_find_b,house_find_1,house_find_1_b,str_beq]
 unfold slices_IndexFunc_50 slices_IndexFunc_50_b
 exact congrArg (fun m:Option Int=>obind m fun t=>some t) (index_loop (f:=fun x:HS×Unit=>some (decide (x.1.1=n))) (p:=fun s:HS=>decide (s.1=n)) (d:=set0) hl (fun a _=>rfl))
theorem findSet_ok (h:HH) (n:ByteArray) (hl:h.2.2.1.length≤1000000):ref30_FindSet h n=some (findI h n):=by
 simp only[ref30_FindSet,ref30_FindSet_b,str_beq]
 exact find_loop (p:=fun s:HS=>decide (s.1=n)) (d:=set0) hl
noncomputable def validHB (h:HH):Bool:=nameB h.1&&(!decide (h.2.1<1)&&(!decide (h.2.1>1048576)&&(!decide ((h.2.2.1.length:Int)>60)&&(validG h.2.2.2&&(List.range' 0 h.2.2.1.length).all fun i=>setB (h.2.2.1.getD i set0)&&(!decide ((h.2.2.1.getD i set0).2.2.2.1>h.2.1)&&decide (findI h (h.2.2.1.getD i set0).1=(i:Int)))))))
theorem hValid_ok (h:HH):house_Valid h=some (validHB h):=by
 obtain ⟨nm,ht,ss,rs⟩:=h
 simp only[house_Valid,house_Valid_b,isName_ok,gValid_ok,validA_ok,obind_bif,obind_some',validHB]
 generalize nameB nm=b1
 generalize decide (ht<1)=b2
 generalize decide (ht>1048576)=b3
 generalize hb4:decide ((ss.length:Int)>60)=b4
 generalize validG rs=b5
 cases b1;· rfl
 cases b2;case true=>rfl
 cases b3;case true=>rfl
 cases b4;case true=>rfl
 cases b5;· rfl
 have g4:¬ (ss.length:Int)>60:=of_decide_eq_false hb4
 have hfind:=fun n=>find_ok (nm,ht,ss,rs) n (by simp only;omega)
 simp only[Bool.not_true,Bool.not_false,Bool.or_true,Bool.and_self,Bool.true_and,cT,cF]
 refine (lpK_up (α:=Int×PUnit) ss.length (by omega) (fun i (_:Unit)=>((i:Int),PUnit.unit)) (fun i s k=>bif setB (ss.getD i set0)&&(!decide ((ss.getD i set0).2.2.2.1>ht)&&decide (findI (nm,ht,ss,rs) (ss.getD i set0).1=(i:Int))) then k s else some false) (fun _=>some true) ?_ ?_ ()).trans ?_
 ·intro again i _ hi
  have hw:IntKind.wrap .i64 ((i:Int)+1)=((i+1:Nat):Int):=by rw[wrap_id (by omega) (by omega)];rfl
  simp only[inB_nat,decide_eq_true hi,decide_eq_true (show (i:Int)<ss.length by omega),cT,Int.toNat_natCast,hw,hfind,show List.getD ss i ({ data:={ toList:=[] } },(0:Int),(0:Int),(0:Int),(0:Int),[],(0:Int),(0:Int),(0:Int),(0:Int),(0:Int),[],[])=ss.getD i set0 from rfl]
  generalize hf:decide (findI (nm,ht,ss,rs) (ss.getD i set0).1=(i:Int))=b6
  cases setB (ss.getD i set0) with
  | false=>rfl
  | true =>
   cases decide ((ss.getD i set0).2.2.2.1>ht) with
   | true=>rfl
   | false =>
    simp only[Bool.not_true,Bool.not_false,Bool.or_true,Bool.true_and,cT,cF,obind_some',hf]
    cases b6<;>rfl
 ·intro again _
  simp only[decide_eq_false (show ¬ (ss.length:Int)<ss.length by omega),cF]
 ·rw[upF_all ss.length (fun i k _=>rfl) ss.length 0 (by omega)]
  cases (List.range' 0 ss.length).all fun i=>setB (ss.getD i set0)&&(!decide ((ss.getD i set0).2.2.2.1>ht)&&decide (findI (nm,ht,ss,rs) (ss.getD i set0).1=(i:Int)))<;>rfl
theorem hRefValid_ok (h:HH) (hL:∀s ∈ h.2.2.1,s.2.2.2.2.2.2.2.2.2.2.2.1.length≤1000000):ref30_Valid h=some (validHB h):=by
 obtain ⟨nm,ht,ss,rs⟩:=h
 simp only at hL
 simp only[ref30_Valid,ref30_Valid_b,refIsName_ok,gRefValid_ok,obind_bif,obind_some',validHB]
 generalize nameB nm=b1
 generalize decide (ht<1)=b2
 generalize decide (ht>1048576)=b3
 generalize hb4:decide ((ss.length:Int)>60)=b4
 generalize validG rs=b5
 cases b1;· rfl
 cases b2;case true=>rfl
 cases b3;case true=>rfl
 cases b4;case true=>rfl
 cases b5;· rfl
 have g4:¬ (ss.length:Int)>60:=of_decide_eq_false hb4
 have hfind:=fun n=>findSet_ok (nm,ht,ss,rs) n (by simp only;omega)
 simp only[Bool.not_true,Bool.not_false,Bool.or_true,Bool.and_self,Bool.true_and,cT,cF]
 refine (lpK_up (α:=Int×PUnit) ss.length (by omega) (fun i (_:Unit)=>((i:Int),PUnit.unit)) (fun i s k=>bif setB (ss.getD i set0)&&(!decide ((ss.getD i set0).2.2.2.1>ht)&&decide (findI (nm,ht,ss,rs) (ss.getD i set0).1=(i:Int))) then k s else some false) (fun _=>some true) ?_ ?_ ()).trans ?_
 ·intro again i _ hi
  have hw:IntKind.wrap .i64 ((i:Int)+1)=((i+1:Nat):Int):=by rw[wrap_id (by omega) (by omega)];rfl
  have hv:ref21_Valid (ss.getD i set0)=some (setB (ss.getD i set0)):=validR_ok _ (hL _ (by rw[getD_nat hi];exact List.getElem_mem _))
  simp only[inB_nat,decide_eq_true hi,decide_eq_true (show (i:Int)<ss.length by omega),cT,Int.toNat_natCast,hw,hfind,show List.getD ss i ({ data:={ toList:=[] } },(0:Int),(0:Int),(0:Int),(0:Int),[],(0:Int),(0:Int),(0:Int),(0:Int),(0:Int),[],[])=ss.getD i set0 from rfl,hv,obind_some']
  generalize hf:decide (findI (nm,ht,ss,rs) (ss.getD i set0).1=(i:Int))=b6
  cases setB (ss.getD i set0) with
  | false=>rfl
  | true =>
   cases decide ((ss.getD i set0).2.2.2.1>ht) with
   | true=>rfl
   | false =>
    simp only[Bool.not_true,Bool.not_false,Bool.or_true,Bool.and_self,Bool.true_and,cT,cF,obind_some',hf]
    cases b6<;>rfl
 ·intro again _
  simp only[decide_eq_false (show ¬ (ss.length:Int)<ss.length by omega),cF]
 ·rw[upF_all ss.length (fun i k _=>rfl) ss.length 0 (by omega)]
  cases (List.range' 0 ss.length).all fun i=>setB (ss.getD i set0)&&(!decide ((ss.getD i set0).2.2.2.1>ht)&&decide (findI (nm,ht,ss,rs) (ss.getD i set0).1=(i:Int)))<;>rfl
end Go.Proofs.YtmoiiokmfanlgaaGreat

namespace Go.Proofs.YtmoiiokmfanlgaaGreat
open Tryz Dn Dn.Sh
end Go.Proofs.YtmoiiokmfanlgaaGreat

namespace Go.Proofs.YtmoiiokmfanlgaaGreat
open Tryz Dn Dn.Sh
end Go.Proofs.YtmoiiokmfanlgaaGreat

namespace Go.Proofs.YtmoiiokmfanlgaaGreat
namespace Dn
abbrev Fq:=Int×Int
def okF (a:Fq):Prop:=(1≤a.2∧a.2≤1152921504606846976)∧(-1152921504606846976≤a.1∧a.1≤1152921504606846976)∧Nat.gcd a.1.natAbs a.2.natAbs=1
instance (a:Fq):Decidable (okF a):=by unfold okF;infer_instance
def fitsQ (q:Rat):Prop:=q.num.natAbs≤1152921504606846976∧q.den≤1152921504606846976
instance (q:Rat):Decidable (fitsQ q):=by unfold fitsQ;infer_instance
end Dn
end Go.Proofs.YtmoiiokmfanlgaaGreat

namespace Go.Proofs.YtmoiiokmfanlgaaGreat
open Tryz Dn Dn.Sh
end Go.Proofs.YtmoiiokmfanlgaaGreat

namespace Go.Proofs.YtmoiiokmfanlgaaGreat
open Tryz Dn Dn.Sh
def hl (n:Nat):Int×Int:=(((n / 18446744073709551616:Nat):Int),((n % 18446744073709551616:Nat):Int))
end Go.Proofs.YtmoiiokmfanlgaaGreat

namespace Go.Proofs.YtmoiiokmfanlgaaGreat
open Tryz Dn Dn.Sh
end Go.Proofs.YtmoiiokmfanlgaaGreat

namespace Go.Proofs.YtmoiiokmfanlgaaGreat
open Tryz Dn Dn.Sh
end Go.Proofs.YtmoiiokmfanlgaaGreat

namespace Go.Proofs.YtmoiiokmfanlgaaGreat
open Tryz Dn Dn.Sh
end Go.Proofs.YtmoiiokmfanlgaaGreat

namespace Go.Proofs.YtmoiiokmfanlgaaGreat
open Tryz Dn Dn.Sh
end Go.Proofs.YtmoiiokmfanlgaaGreat

namespace Go.Proofs.YtmoiiokmfanlgaaGreat
open Tryz Dn Dn.Sh
end Go.Proofs.YtmoiiokmfanlgaaGreat

namespace Go.Proofs.YtmoiiokmfanlgaaGreat
open Tryz Dn Dn.Sh
end Go.Proofs.YtmoiiokmfanlgaaGreat

namespace Go.Proofs.YtmoiiokmfanlgaaGreat
open Tryz Dn Dn.Sh
end Go.Proofs.YtmoiiokmfanlgaaGreat

namespace Go.Proofs.YtmoiiokmfanlgaaGreat
open Tryz Dn Dn.Sh
end Go.Proofs.YtmoiiokmfanlgaaGreat

namespace Go.Proofs.YtmoiiokmfanlgaaGreat
open Tryz Dn Dn.Sh
end Go.Proofs.YtmoiiokmfanlgaaGreat

namespace Go.Proofs.YtmoiiokmfanlgaaGreat
open Tryz Dn Dn.Sh
end Go.Proofs.YtmoiiokmfanlgaaGreat

namespace Go.Proofs.YtmoiiokmfanlgaaGreat
open Tryz Dn Dn.Sh
end Go.Proofs.YtmoiiokmfanlgaaGreat

namespace Go.Proofs.YtmoiiokmfanlgaaGreat
open Tryz Dn Dn.Sh
end Go.Proofs.YtmoiiokmfanlgaaGreat

namespace Go.Proofs.YtmoiiokmfanlgaaGreat
open Tryz Dn Dn.Sh
theorem obS0 {T R:Type} {c:Option T} {t:T} (h:c=some t) (k:T→Option R):obind c k=k t:=by subst h;rfl
theorem obS {T R:Type} (t:T) (k:T→Option R):obind (some t) k=k t:=obS0 (Eq.trans rfl rfl) k
end Go.Proofs.YtmoiiokmfanlgaaGreat

namespace Go.Proofs.YtmoiiokmfanlgaaGreat
open Tryz Dn Dn.Sh
end Go.Proofs.YtmoiiokmfanlgaaGreat

namespace Go.Proofs.YtmoiiokmfanlgaaGreat
open Tryz Dn Dn.Sh
theorem awakeH_ok:law30_awake=some true:=by kernel_rfl
end Go.Proofs.YtmoiiokmfanlgaaGreat

namespace Go.Proofs.YtmoiiokmfanlgaaGreat
open Tryz Dn Dn.Sh
def allE {α:Type} (p:α→α→Bool) (d:α) (a b:List α):Bool:=(List.range' 0 a.length).all fun i=>p (a.getD i d) (b.getD i d)
def lenE {α:Type} (a b:List α):Bool:=decide ((a.length:Int)=(b.length:Int))
def eqL {α:Type} (p:α→α→Bool) (d:α) (a b:List α):Bool:=lenE a b&&allE p d a b
theorem eq_loop {α R:Type} {p:α→α→Bool} {d:α} {a b:List α} {yes no:Option R} {F:(Int×PUnit→Option R)→Int×PUnit→Option R} (hl:a.length≤1000000)
  (hb:∀again (i:Nat),i<a.length→F again ((i:Int),PUnit.unit)=bif p (a.getD i d) (b.getD i d) then again (((i+1:Nat):Int),PUnit.unit) else no) (hf:∀again,F again ((a.length:Int),PUnit.unit)=yes) :
  lpK (Int×PUnit) R F ((0:Int),PUnit.unit)=bif allE p d a b then yes else no:=by
 refine (lpK_up (α:=Int×PUnit) a.length (by omega) (fun i (_:Unit)=>((i:Int),PUnit.unit)) (fun i s k=>bif p (a.getD i d) (b.getD i d) then k s else no) (fun _=>yes) ?_ ?_ ()).trans ?_
 ·intro again i _ hi
  exact hb again i hi
 ·intro again _
  exact hf again
 ·rw[upF_all a.length (fun i k _=>rfl) a.length 0 (by omega)]
  rfl
def intE (a b:Int):Bool:=decide (a=b)
def itmE (x y:Itm):Bool:=Array.isEqv x.1.data y.1.data (fun (a b:UInt8)=>decide (a=b))&&(decide (x.2.1=y.2.1)&&(decide (x.2.2.1=y.2.2.1)&&(decide (x.2.2.2.1=y.2.2.2.1)&&(decide (x.2.2.2.2.1=y.2.2.2.2.1)&&(decide (x.2.2.2.2.2.1=y.2.2.2.2.2.1)&&(decide (x.2.2.2.2.2.2=y.2.2.2.2.2.2)&&true))))))
def brkE (x y:Brk):Bool:=Array.isEqv x.1.data y.1.data (fun (a b:UInt8)=>decide (a=b))&&(decide (x.2.1=y.2.1)&&(decide (x.2.2=y.2.2)&&true))
def bmE (x y:Bm):Bool:=Array.isEqv x.1.data y.1.data (fun (a b:UInt8)=>decide (a=b))&&(decide (x.2.1=y.2.1)&&(decide (x.2.2.1=y.2.2.1)&&(decide (x.2.2.2=y.2.2.2)&&true)))
theorem lenE_nat {α:Type} {a b:List α} (h:lenE a b=true):a.length=b.length:=by
 have:(a.length:Int)=(b.length:Int):=of_decide_eq_true h
 omega
theorem equal26 {a b:List Int} (hl:a.length≤1000000):slices_Equal_26 a b=some (eqL intE 0 a b):=by
 simp only[slices_Equal_26,slices_Equal_26_b,show decide ((a.length:Int)=(b.length:Int))=lenE a b from rfl,eqL]
 cases h:lenE a b with
 | false=>rfl
 | true =>
  have hab:=lenE_nat h
  simp only[Bool.not_true,cF,Bool.true_and]
  refine (eq_loop (p:=intE) (d:=(0:Int)) (a:=a) (b:=b) (yes:=some true) (no:=some false) hl ?_ ?_).trans ?_
  ·intro again i hi
   have hw:IntKind.wrap .i64 ((i:Int)+1)=((i+1:Nat):Int):=by rw[wrap_id (by omega) (by omega)];rfl
   simp only[inB_nat,decide_eq_true hi,decide_eq_true (show i<b.length by omega),decide_eq_true (show (i:Int)<a.length by omega),cT,Int.toNat_natCast,hw,show decide (a.getD i 0=b.getD i 0)=intE (a.getD i 0) (b.getD i 0) from rfl]
   cases intE (a.getD i 0) (b.getD i 0)<;>rfl
  ·intro again
   simp only[decide_eq_false (show ¬ (a.length:Int)<a.length by omega),cF]
  ·cases allE intE 0 a b<;>rfl
theorem equal112 {a b:List Itm} (hl:a.length≤1000000):slices_Equal_112 a b=some (eqL itmE itm0 a b):=by
 simp only[slices_Equal_112,slices_Equal_112_b,show decide ((a.length:Int)=(b.length:Int))=lenE a b from rfl,eqL]
 cases h:lenE a b with
 | false=>rfl
 | true =>
  have hab:=lenE_nat h
  simp only[Bool.not_true,cF,Bool.true_and]
  refine (eq_loop (p:=itmE) (d:=itm0) (a:=a) (b:=b) (yes:=some true) (no:=some false) hl ?_ ?_).trans ?_
  ·intro again i hi
   have hw:IntKind.wrap .i64 ((i:Int)+1)=((i+1:Nat):Int):=by rw[wrap_id (by omega) (by omega)];rfl
   simp only[inB_nat,decide_eq_true hi,decide_eq_true (show i<b.length by omega),decide_eq_true (show (i:Int)<a.length by omega),cT,Int.toNat_natCast,hw]
   show (bif !itmE (a.getD i itm0) (b.getD i itm0) then _ else _)=_
   cases itmE (a.getD i itm0) (b.getD i itm0)<;>rfl
  ·intro again
   simp only[decide_eq_false (show ¬ (a.length:Int)<a.length by omega),cF]
  ·cases allE itmE itm0 a b<;>rfl
theorem equal113 {a b:List Brk} (hl:a.length≤1000000):slices_Equal_113 a b=some (eqL brkE brk0 a b):=by
 simp only[slices_Equal_113,slices_Equal_113_b,show decide ((a.length:Int)=(b.length:Int))=lenE a b from rfl,eqL]
 cases h:lenE a b with
 | false=>rfl
 | true =>
  have hab:=lenE_nat h
  simp only[Bool.not_true,cF,Bool.true_and]
  refine (eq_loop (p:=brkE) (d:=brk0) (a:=a) (b:=b) (yes:=some true) (no:=some false) hl ?_ ?_).trans ?_
  ·intro again i hi
   have hw:IntKind.wrap .i64 ((i:Int)+1)=((i+1:Nat):Int):=by rw[wrap_id (by omega) (by omega)];rfl
   simp only[inB_nat,decide_eq_true hi,decide_eq_true (show i<b.length by omega),decide_eq_true (show (i:Int)<a.length by omega),cT,Int.toNat_natCast,hw]
   show (bif !brkE (a.getD i brk0) (b.getD i brk0) then _ else _)=_
   cases brkE (a.getD i brk0) (b.getD i brk0)<;>rfl
  ·intro again
   simp only[decide_eq_false (show ¬ (a.length:Int)<a.length by omega),cF]
  ·cases allE brkE brk0 a b<;>rfl
theorem equal66 {a b:List Bm} (hl:a.length≤1000000):slices_Equal_66 a b=some (eqL bmE bm0 a b):=by
 simp only[slices_Equal_66,slices_Equal_66_b,show decide ((a.length:Int)=(b.length:Int))=lenE a b from rfl,eqL]
 cases h:lenE a b with
 | false=>rfl
 | true =>
  have hab:=lenE_nat h
  simp only[Bool.not_true,cF,Bool.true_and]
  refine (eq_loop (p:=bmE) (d:=bm0) (a:=a) (b:=b) (yes:=some true) (no:=some false) hl ?_ ?_).trans ?_
  ·intro again i hi
   have hw:IntKind.wrap .i64 ((i:Int)+1)=((i+1:Nat):Int):=by rw[wrap_id (by omega) (by omega)];rfl
   simp only[inB_nat,decide_eq_true hi,decide_eq_true (show i<b.length by omega),decide_eq_true (show (i:Int)<a.length by omega),cT,Int.toNat_natCast,hw]
   show (bif !bmE (a.getD i bm0) (b.getD i bm0) then _ else _)=_
   cases bmE (a.getD i bm0) (b.getD i bm0)<;>rfl
  ·intro again
   simp only[decide_eq_false (show ¬ (a.length:Int)<a.length by omega),cF]
  ·cases allE bmE bm0 a b<;>rfl
def sameB (s t:HS):Bool:=decide (s.1=t.1)&&(intE s.2.1 t.2.1&&(intE s.2.2.1 t.2.2.1&&(intE s.2.2.2.1 t.2.2.2.1&&(intE s.2.2.2.2.1 t.2.2.2.2.1&&(intE s.2.2.2.2.2.2.1 t.2.2.2.2.2.2.1&&(intE s.2.2.2.2.2.2.2.1 t.2.2.2.2.2.2.2.1&&(intE s.2.2.2.2.2.2.2.2.1 t.2.2.2.2.2.2.2.2.1 &&
 (intE s.2.2.2.2.2.2.2.2.2.1 t.2.2.2.2.2.2.2.2.2.1&&(intE s.2.2.2.2.2.2.2.2.2.2.1 t.2.2.2.2.2.2.2.2.2.2.1&&(eqL intE 0 s.2.2.2.2.2.1 t.2.2.2.2.2.1&&(eqL itmE itm0 s.2.2.2.2.2.2.2.2.2.2.2.1 t.2.2.2.2.2.2.2.2.2.2.2.1&&eqL brkE brk0 s.2.2.2.2.2.2.2.2.2.2.2.2 t.2.2.2.2.2.2.2.2.2.2.2.2)))))))))))
theorem sameA_ok (s t:HS) (h1:s.2.2.2.2.2.1.length≤1000000) (h2:s.2.2.2.2.2.2.2.2.2.2.2.1.length≤1000000) (h3:s.2.2.2.2.2.2.2.2.2.2.2.2.length≤1000000):house_sameSet s t=some (sameB s t):=by
 simp only[house_sameSet,house_sameSet_b,str_beq,equal26 h1,equal112 h2,equal113 h3,obind_bif,not_or_self',or_self_not,Bool.and_self,Bool.or_true,cT,bif_false',sameB]
 simp only[show ∀a b:Int,decide (a=b)=intE a b from fun _ _=>rfl,Bool.and_assoc]
 congr 1
 generalize decide (s.1=t.1)=b1
 generalize intE s.2.1 t.2.1=b2
 generalize intE s.2.2.1 t.2.2.1=b3
 generalize intE s.2.2.2.1 t.2.2.2.1=b4
 generalize intE s.2.2.2.2.1 t.2.2.2.2.1=b5
 generalize intE s.2.2.2.2.2.2.1 t.2.2.2.2.2.2.1=b6
 generalize intE s.2.2.2.2.2.2.2.1 t.2.2.2.2.2.2.2.1=b7
 generalize intE s.2.2.2.2.2.2.2.2.1 t.2.2.2.2.2.2.2.2.1=b8
 generalize intE s.2.2.2.2.2.2.2.2.2.1 t.2.2.2.2.2.2.2.2.2.1=b9
 generalize intE s.2.2.2.2.2.2.2.2.2.2.1 t.2.2.2.2.2.2.2.2.2.2.1=b10
 generalize eqL intE 0 s.2.2.2.2.2.1 t.2.2.2.2.2.1=b11
 generalize eqL itmE itm0 s.2.2.2.2.2.2.2.2.2.2.2.1 t.2.2.2.2.2.2.2.2.2.2.2.1=b12
 generalize eqL brkE brk0 s.2.2.2.2.2.2.2.2.2.2.2.2 t.2.2.2.2.2.2.2.2.2.2.2.2=b13
 cases b1;· rfl
 cases b2;· rfl
 cases b3;· rfl
 cases b4;· rfl
 cases b5;· rfl
 cases b6;· rfl
 cases b7;· rfl
 cases b8;· rfl
 cases b9;· rfl
 cases b10;· rfl
 cases b11;· rfl
 cases b12;· rfl
 cases b13<;>rfl
end Go.Proofs.YtmoiiokmfanlgaaGreat

namespace Go.Proofs.YtmoiiokmfanlgaaGreat
open Tryz Dn Dn.Sh
theorem sameR_ok (s t:HS) (h1:s.2.2.2.2.2.1.length≤1000000) (h2:s.2.2.2.2.2.2.2.2.2.2.2.1.length≤1000000) (h3:s.2.2.2.2.2.2.2.2.2.2.2.2.length≤1000000):ref21_Same s t=some (sameB s t):=by
 obtain ⟨nm,dp,lo,hi,len,ls,pi,ar,pu,mo,br,l,bs⟩:=s
 obtain ⟨nm',dp',lo',hi',len',ls',pi',ar',pu',mo',br',l',bs'⟩:=t
 simp only at h1 h2 h3
 simp only[ref21_Same,ref21_Same_b,str_beq,sameB,eqL]
 rw[show decide ((ls.length:Int)=(ls'.length:Int))=lenE ls ls' from rfl,show decide ((l.length:Int)=(l'.length:Int))=lenE l l' from rfl,show decide ((bs.length:Int)=(bs'.length:Int))=lenE bs bs' from rfl]
 rw[show decide (dp=dp')=intE dp dp' from rfl,show decide (lo=lo')=intE lo lo' from rfl,show decide (hi=hi')=intE hi hi' from rfl,show decide (len=len')=intE len len' from rfl,show decide (pi=pi')=intE pi pi' from rfl,
  show decide (ar=ar')=intE ar ar' from rfl,show decide (pu=pu')=intE pu pu' from rfl,show decide (mo=mo')=intE mo mo' from rfl,show decide (br=br')=intE br br' from rfl]
 generalize decide (nm=nm')=b1
 generalize intE dp dp'=b2
 generalize intE lo lo'=b3
 generalize intE hi hi'=b4
 generalize intE len len'=b5
 generalize intE pi pi'=b6
 generalize intE ar ar'=b7
 generalize intE pu pu'=b8
 generalize intE mo mo'=b9
 generalize intE br br'=b10
 cases b1;· rfl
 cases b2;· rfl
 cases b3;· rfl
 cases b4;· rfl
 cases b5;· rfl
 cases b6;· rfl
 cases b7;· rfl
 cases b8;· rfl
 cases b9;· rfl
 cases b10;· rfl
 cases g1:lenE ls ls';· rfl
 cases g2:lenE l l';· (simp only[Bool.false_and,Bool.and_false];rfl)
 cases g3:lenE bs bs';· (simp only[Bool.false_and,Bool.and_false];rfl)
 have e1:=lenE_nat g1
 have e2:=lenE_nat g2
 have e3:=lenE_nat g3
 simp only[Bool.not_true,Bool.not_false,Bool.or_true,Bool.true_or,Bool.or_false,Bool.false_or,Bool.and_self,Bool.true_and,cT,cF]
 refine (eq_loop (p:=intE) (d:=(0:Int)) (a:=ls) (b:=ls') (yes:=some (allE itmE itm0 l l'&&allE brkE brk0 bs bs')) (no:=some false) h1 ?_ ?_).trans ?_
 ·intro again i hi
  have hw:IntKind.wrap .i64 ((i:Int)+1)=((i+1:Nat):Int):=by rw[wrap_id (by omega) (by omega)];rfl
  simp only[inB_nat,decide_eq_true hi,decide_eq_true (show i<ls'.length by omega),decide_eq_true (show (i:Int)<ls.length by omega),cT,Int.toNat_natCast,hw]
  show (bif !intE (ls.getD i 0) (ls'.getD i 0) then _ else _)=_
  cases intE (ls.getD i 0) (ls'.getD i 0)<;>rfl
 ·intro again
  simp only[decide_eq_false (show ¬ (ls.length:Int)<ls.length by omega),cF]
  refine (eq_loop (p:=itmE) (d:=itm0) (a:=l) (b:=l') (yes:=some (allE brkE brk0 bs bs')) (no:=some false) h2 ?_ ?_).trans ?_
  ·intro again i hi
   have hw:IntKind.wrap .i64 ((i:Int)+1)=((i+1:Nat):Int):=by rw[wrap_id (by omega) (by omega)];rfl
   simp only[inB_nat,decide_eq_true hi,decide_eq_true (show i<l'.length by omega),decide_eq_true (show (i:Int)<l.length by omega),cT,Int.toNat_natCast,hw]
   show (bif !itmE (l.getD i itm0) (l'.getD i itm0) then _ else _)=_
   cases itmE (l.getD i itm0) (l'.getD i itm0)<;>rfl
  ·intro again
   simp only[decide_eq_false (show ¬ (l.length:Int)<l.length by omega),cF]
   refine (eq_loop (p:=brkE) (d:=brk0) (a:=bs) (b:=bs') (yes:=some true) (no:=some false) h3 ?_ ?_).trans ?_
   ·intro again i hi
    have hw:IntKind.wrap .i64 ((i:Int)+1)=((i+1:Nat):Int):=by rw[wrap_id (by omega) (by omega)];rfl
    simp only[inB_nat,decide_eq_true hi,decide_eq_true (show i<bs'.length by omega),decide_eq_true (show (i:Int)<bs.length by omega),cT,Int.toNat_natCast,hw]
    show (bif !brkE (bs.getD i brk0) (bs'.getD i brk0) then _ else _)=_
    cases brkE (bs.getD i brk0) (bs'.getD i brk0)<;>rfl
   ·intro again
    simp only[decide_eq_false (show ¬ (bs.length:Int)<bs.length by omega),cF]
   ·cases allE brkE brk0 bs bs'<;>rfl
  ·cases allE itmE itm0 l l'<;>cases allE brkE brk0 bs bs'<;>rfl
 ·cases allE intE 0 ls ls'<;>rfl
def sameHB (a b:HH):Bool:=decide (a.1=b.1)&&(intE a.2.1 b.2.1&&(eqL bmE bm0 a.2.2.2 b.2.2.2&&eqL sameB set0 a.2.2.1 b.2.2.1))
def fewP (h:HH):Prop:=h.2.2.1.length≤1000000∧h.2.2.2.length≤1000000∧∀s ∈ h.2.2.1,s.2.2.2.2.2.1.length≤1000000∧s.2.2.2.2.2.2.2.2.2.2.2.1.length≤1000000∧s.2.2.2.2.2.2.2.2.2.2.2.2.length≤1000000
theorem small_few {h:HH} (hs:smallHB h=true):fewP h:=by
 obtain ⟨h1,h2,h3⟩:=small_len hs
 exact ⟨by omega,by omega,fun s hm=>by have:=h3 s hm;omega⟩
theorem few_at {h:HH} (hf:fewP h) {i:Nat} (hi:i<h.2.2.1.length):(h.2.2.1.getD i set0).2.2.2.2.2.1.length≤1000000∧(h.2.2.1.getD i set0).2.2.2.2.2.2.2.2.2.2.2.1.length≤1000000∧(h.2.2.1.getD i set0).2.2.2.2.2.2.2.2.2.2.2.2.length≤1000000:=by
 rw[getD_nat hi]
 exact hf.2.2 _ (List.getElem_mem _)
theorem hSame_ok (a b:HH) (hf:fewP a):house_Same a b=some (sameHB a b):=by
 have hE:slices_EqualFunc_67 a.2.2.1 b.2.2.1 (fun x=>house_sameSet x.1 x.2.1)=some (eqL sameB set0 a.2.2.1 b.2.2.1):=by
  simp only[slices_EqualFunc_67,slices_EqualFunc_67_b,show decide ((a.2.2.1.length:Int)=(b.2.2.1.length:Int))=lenE a.2.2.1 b.2.2.1 from rfl,eqL]
  cases h:lenE a.2.2.1 b.2.2.1 with
  | false=>rfl
  | true =>
   have hab:=lenE_nat h
   have hl:=hf.1
   simp only[Bool.not_true,cF,Bool.true_and]
   refine (eq_loop (p:=sameB) (d:=set0) (a:=a.2.2.1) (b:=b.2.2.1) (yes:=some true) (no:=some false) hl ?_ ?_).trans ?_
   ·intro again i hi
    have hw:IntKind.wrap .i64 ((i:Int)+1)=((i+1:Nat):Int):=by rw[wrap_id (by omega) (by omega)];rfl
    obtain ⟨k1,k2,k3⟩:=few_at hf hi
    simp only[inB_nat,decide_eq_true hi,decide_eq_true (show i<b.2.2.1.length by omega),decide_eq_true (show (i:Int)<a.2.2.1.length by omega),cT,Int.toNat_natCast,hw,show List.getD a.2.2.1 i ({ data:={ toList:=[] } },(0:Int),(0:Int),(0:Int),(0:Int),[],(0:Int),(0:Int),(0:Int),(0:Int),(0:Int),[],[])=a.2.2.1.getD i set0 from rfl,sameA_ok _ _ k1 k2 k3,obS]
    cases sameB (a.2.2.1.getD i set0) (b.2.2.1.getD i set0)<;>rfl
   ·intro again
    simp only[decide_eq_false (show ¬ (a.2.2.1.length:Int)<a.2.2.1.length by omega),cF]
   ·cases allE sameB set0 a.2.2.1 b.2.2.1<;>rfl
 simp only[house_Same,house_Same_b,str_beq,equal66 hf.2.1,hE,obind_bif,not_or_self',or_self_not,Bool.and_self,Bool.or_true,cT,bif_false',sameHB]
 rw[show decide (a.2.1=b.2.1)=intE a.2.1 b.2.1 from rfl]
 cases decide (a.1=b.1)<;>cases intE a.2.1 b.2.1<;>cases eqL bmE bm0 a.2.2.2 b.2.2.2<;>cases eqL sameB set0 a.2.2.1 b.2.2.1<;>rfl
end Go.Proofs.YtmoiiokmfanlgaaGreat

namespace Go.Proofs.YtmoiiokmfanlgaaGreat
open Tryz Dn Dn.Sh
theorem hRefSame_ok (a b:HH) (hf:fewP a):ref30_Same a b=some (sameHB a b):=by
 obtain ⟨nm,ht,ss,rs⟩:=a
 obtain ⟨nm',ht',ss',rs'⟩:=b
 have h1:=hf.1
 have h2:=hf.2.1
 simp only at h1 h2
 simp only[ref30_Same,ref30_Same_b,str_beq,sameHB,eqL]
 rw[show decide ((ss.length:Int)=(ss'.length:Int))=lenE ss ss' from rfl,show decide ((rs.length:Int)=(rs'.length:Int))=lenE rs rs' from rfl,show decide (ht=ht')=intE ht ht' from rfl]
 generalize decide (nm=nm')=b1
 generalize intE ht ht'=b2
 cases b1;· rfl
 cases b2;· rfl
 cases g1:lenE ss ss';· (simp only[Bool.false_and,Bool.and_false];rfl)
 cases g2:lenE rs rs';· rfl
 have e1:=lenE_nat g1
 have e2:=lenE_nat g2
 simp only[Bool.not_true,Bool.not_false,Bool.or_true,Bool.true_or,Bool.or_false,Bool.false_or,Bool.and_self,Bool.true_and,cT,cF]
 refine (eq_loop (p:=sameB) (d:=set0) (a:=ss) (b:=ss') (yes:=some (allE bmE bm0 rs rs')) (no:=some false) h1 ?_ ?_).trans ?_
 ·intro again i hi
  have hw:IntKind.wrap .i64 ((i:Int)+1)=((i+1:Nat):Int):=by rw[wrap_id (by omega) (by omega)];rfl
  obtain ⟨k1,k2,k3⟩:=few_at hf hi
  simp only[inB_nat,decide_eq_true hi,decide_eq_true (show i<ss'.length by omega),decide_eq_true (show (i:Int)<ss.length by omega),cT,Int.toNat_natCast,hw,show List.getD ss i ({ data:={ toList:=[] } },(0:Int),(0:Int),(0:Int),(0:Int),[],(0:Int),(0:Int),(0:Int),(0:Int),(0:Int),[],[])=ss.getD i set0 from rfl,sameR_ok _ _ k1 k2 k3,obS]
  cases sameB (ss.getD i set0) (ss'.getD i set0)<;>rfl
 ·intro again
  simp only[decide_eq_false (show ¬ (ss.length:Int)<ss.length by omega),cF]
  refine (eq_loop (p:=bmE) (d:=bm0) (a:=rs) (b:=rs') (yes:=some true) (no:=some false) h2 ?_ ?_).trans ?_
  ·intro again i hi
   have hw:IntKind.wrap .i64 ((i:Int)+1)=((i+1:Nat):Int):=by rw[wrap_id (by omega) (by omega)];rfl
   simp only[inB_nat,decide_eq_true hi,decide_eq_true (show i<rs'.length by omega),decide_eq_true (show (i:Int)<rs.length by omega),cT,Int.toNat_natCast,hw]
   show (bif !bmE (rs.getD i bm0) (rs'.getD i bm0) then _ else _)=_
   cases bmE (rs.getD i bm0) (rs'.getD i bm0)<;>rfl
  ·intro again
   simp only[decide_eq_false (show ¬ (rs.length:Int)<rs.length by omega),cF]
  ·cases allE bmE bm0 rs rs'<;>rfl
 ·cases allE sameB set0 ss ss'<;>cases allE bmE bm0 rs rs'<;>rfl
theorem eqL_refl {α:Type} {p:α→α→Bool} {d:α} {a:List α} (h:∀x ∈ a,p x x=true):eqL p d a a=true:=by
 unfold eqL lenE allE
 rw[decide_eq_true rfl,Bool.true_and,List.all_eq_true]
 intro i hi
 obtain ⟨k,hk,rfl⟩:=List.mem_range'.1 hi
 rw[getD_nat (by omega)]
 exact h _ (List.getElem_mem _)
theorem intE_refl (a:Int):intE a a=true:=decide_eq_true rfl
theorem isEqv_refl (a:Array UInt8):Array.isEqv a a (fun (a b:UInt8)=>decide (a=b))=true:=Array.isEqv_self a
theorem sameB_refl (s:HS):sameB s s=true:=by
 unfold sameB
 simp only[decide_true,intE_refl,Bool.true_and]
 rw[eqL_refl fun x _=>intE_refl x,eqL_refl fun x _=>by simp[itmE,isEqv_refl],eqL_refl fun x _=>by simp[brkE,isEqv_refl]]
 rfl
theorem sameHB_refl (a:HH):sameHB a a=true:=by
 unfold sameHB
 rw[decide_eq_true rfl,intE_refl,eqL_refl fun x _=>by simp[bmE,isEqv_refl],eqL_refl fun x _=>sameB_refl x]
 rfl
end Go.Proofs.YtmoiiokmfanlgaaGreat

namespace Go.Proofs.YtmoiiokmfanlgaaGreat
namespace Dn
def ab (x:Int):Int:=(x.natAbs:Int)
theorem ab_nonneg (x:Int):0≤ab x:=by unfold ab;omega
theorem ab_mul (x y:Int):ab (x*y)=ab x*ab y:=by
 unfold ab
 rw[Int.natAbs_mul]
 rfl
def sz:Nat→(Nat→Int)→Int
 | 0,_=>0
 | n+1,f=>sz n f+f n
theorem sz_congr:∀{n:Nat} {f g:Nat→Int},(∀i,i<n→f i=g i)→sz n f=sz n g
 | 0,_,_,_=>rfl
 | n+1,f,g,h=>by
  simp only[sz]
  rw[sz_congr (n:=n) fun i hi=>h i (by omega),h n (by omega)]
theorem sz_add:∀{n:Nat} {f g:Nat→Int},sz n (fun i=>f i+g i)=sz n f+sz n g
 | 0,_,_=>rfl
 | n+1,f,g=>by
  simp only[sz]
  rw[sz_add]
  omega
theorem sz_mul:∀{n:Nat} {c:Int} {f:Nat→Int},sz n (fun i=>c*f i)=c*sz n f
 | 0,c,_=>by simp[sz]
 | n+1,c,f=>by
  simp only[sz]
  rw[sz_mul,Int.mul_add]
theorem sz_mulr {n:Nat} {c:Int} {f:Nat→Int}:sz n (fun i=>f i*c)=sz n f*c:=by
 rw[Int.mul_comm,←sz_mul]
 exact sz_congr fun i _=>Int.mul_comm _ _
theorem sz_zero:∀{n:Nat} {f:Nat→Int},(∀i,i<n→f i=0)→sz n f=0
 | 0,_,_=>rfl
 | n+1,f,h=>by
  simp only[sz]
  rw[sz_zero fun i hi=>h i (by omega),h n (by omega)]
  rfl
theorem sz_neg {n:Nat} {f:Nat→Int}:sz n (fun i=> - f i)= - sz n f:=by
 have:sz n (fun i=> - f i)=sz n (fun i=>(-1)*f i):=sz_congr fun i _=>by omega
 rw[this,sz_mul]
 omega
theorem sz_sub {n:Nat} {f g:Nat→Int}:sz n (fun i=>f i - g i)=sz n f - sz n g:=by
 have:sz n (fun i=>f i - g i)=sz n (fun i=>f i+ - g i):=sz_congr fun i _=>by omega
 rw[this,sz_add,sz_neg]
 omega
theorem sz_one:∀{n:Nat} {f:Nat→Int} {k:Nat},k<n→(∀i,i<n→i≠k→f i=0)→sz n f=f k
 | n+1,f,k,hk,h=>by
  simp only[sz]
  by_cases e:k=n
  ·subst e
   rw[sz_zero fun i hi=>h i (by omega) (by omega)]
   omega
  ·rw[sz_one (k:=k) (by omega) fun i hi hne=>h i (by omega) hne,h n (by omega) (fun e'=>e e'.symm)]
   omega
theorem sz_two {n:Nat} {f:Nat→Int} {k l:Nat} (hk:k<n) (hl:l<n) (hkl:k≠l) (h:∀i,i<n→i≠k→i≠l→f i=0):sz n f=f k+f l:=by
 have e:sz n f=sz n (fun i=>(if i=k then f k else 0)+(if i=l then f l else 0)):=sz_congr fun i hi=>by
  by_cases h1:i=k
  ·subst h1;rw[if_pos rfl,if_neg hkl];omega
  ·by_cases h2:i=l
   ·subst h2;rw[if_neg h1,if_pos rfl];omega
   ·rw[if_neg h1,if_neg h2,h i hi h1 h2];rfl
 rw[e,sz_add,sz_one hk (f:=fun i=>if i=k then f k else 0) (fun i _ hne=>if_neg hne),sz_one hl (f:=fun i=>if i=l then f l else 0) (fun i _ hne=>if_neg hne)]
 simp
theorem sz_swap:∀{m n:Nat} {f:Nat→Nat→Int},sz m (fun i=>sz n (fun j=>f i j))=sz n (fun j=>sz m (fun i=>f i j))
 | 0,n,f=>by
  simp only[sz]
  exact (sz_zero fun _ _=>rfl).symm
 | m+1,n,f=>by
  simp only[sz]
  rw[sz_swap,sz_add]
theorem sz_le:∀{n:Nat} {f g:Nat→Int},(∀i,i<n→f i≤g i)→sz n f≤sz n g
 | 0,_,_,_=>Int.le_refl _
 | n+1,f,g,h=>by
  simp only[sz]
  have:=sz_le (n:=n) fun i hi=>h i (by omega)
  have:=h n (by omega)
  omega
def skip (k j:Nat):Nat:=if j<k then j else j+1
def sgd (k:Nat):Int:=if k % 2=0 then 1 else -1
theorem sgd_succ (k:Nat):sgd (k+1)= - sgd k:=by
 unfold sgd
 split<;>split<;>omega
def minor (A:Nat→Nat→Int) (k:Nat):Nat→Nat→Int:=fun i j=>A (i+1) (skip k j)
def det:Nat→(Nat→Nat→Int)→Int
 | 0,_=>1
 | n+1,A=>sz (n+1) fun k=>sgd k*A 0 k*det n (minor A k)
def setC (A:Nat→Nat→Int) (c:Nat) (v:Nat→Int):Nat→Nat→Int:=fun i j=>if j=c then v i else A i j
theorem det_congr:∀{n:Nat} {A B:Nat→Nat→Int},(∀i j,i<n→j<n→A i j=B i j)→det n A=det n B
 | 0,_,_,_=>rfl
 | n+1,A,B,h=>by
  simp only[det]
  refine sz_congr fun k hk=>?_
  rw[h 0 k (by omega) hk,det_congr (A:=minor A k) (B:=minor B k) fun i j hi hj=>h (i+1) (skip k j) (by omega) (by unfold skip;split<;>omega)]
theorem minor_setC_same {A:Nat→Nat→Int} {k:Nat} {v:Nat→Int}:minor (setC A k v) k=minor A k:=by
 funext i j
 unfold minor setC
 rw[if_neg]
 unfold skip
 split<;>omega
def pos' (k c:Nat):Nat:=if c<k then c else c - 1
theorem minor_setC {A:Nat→Nat→Int} {k c:Nat} {v:Nat→Int} (h:k≠c):minor (setC A c v) k=setC (minor A k) (pos' k c) (fun i=>v (i+1)):=by
 funext i j
 unfold minor setC skip pos'
 by_cases h1:j<k<;>by_cases h2:c<k
 ·simp only[h1,h2,if_true]
 ·simp only[h1,h2,if_true,if_false]
  rw[if_neg (by omega),if_neg (by omega)]
 ·simp only[h1,h2,if_true,if_false]
  rw[if_neg (by omega),if_neg (by omega)]
 ·simp only[h1,h2,if_false]
  by_cases h3:j+1=c
  ·rw[if_pos h3,if_pos (by omega)]
  ·rw[if_neg h3,if_neg (by omega)]
theorem det_add:∀{n:Nat} {A:Nat→Nat→Int} {c:Nat} {u v:Nat→Int},c<n→det n (setC A c fun i=>u i+v i)=det n (setC A c u)+det n (setC A c v)
 | n+1,A,c,u,v,hc=>by
  simp only[det]
  rw[←sz_add]
  refine sz_congr fun k hk=>?_
  by_cases h:k=c
  ·subst h
   simp only[minor_setC_same]
   have e:∀v:Nat→Int,setC A k v 0 k=v 0:=fun v=>by simp[setC]
   rw[e,e,e,Int.mul_add,Int.add_mul]
  ·have e:∀v:Nat→Int,setC A c v 0 k=A 0 k:=fun v=>by simp[setC,h]
   rw[minor_setC h,minor_setC h,minor_setC h,e,e,e,det_add (u:=fun i=>u (i+1)) (v:=fun i=>v (i+1)) (by unfold pos';split<;>omega),Int.mul_add]
theorem det_smul:∀{n:Nat} {A:Nat→Nat→Int} {c:Nat} {x:Int} {u:Nat→Int},c<n→det n (setC A c fun i=>x*u i)=x*det n (setC A c u)
 | n+1,A,c,x,u,hc=>by
  simp only[det]
  rw[←sz_mul]
  refine sz_congr fun k hk=>?_
  by_cases h:k=c
  ·subst h
   simp only[minor_setC_same]
   have e:∀v:Nat→Int,setC A k v 0 k=v 0:=fun v=>by simp[setC]
   rw[e,e]
   simp only[Int.mul_assoc,Int.mul_left_comm]
  ·have e:∀v:Nat→Int,setC A c v 0 k=A 0 k:=fun v=>by simp[setC,h]
   rw[minor_setC h,minor_setC h,e,e,det_smul (u:=fun i=>u (i+1)) (by unfold pos';split<;>omega)]
   simp only[Int.mul_assoc,Int.mul_left_comm]
theorem det_zero {n:Nat} {A:Nat→Nat→Int} {c:Nat} (hc:c<n):det n (setC A c fun _=>0)=0:=by
 have:=det_smul (n:=n) (A:=A) (x:=0) (u:=fun _=>0) hc
 simpa using this
theorem det_sum {n:Nat} {A:Nat→Nat→Int} {c:Nat} (hc:c<n):∀{m:Nat} {x:Nat→Int} {u:Nat→Nat→Int},det n (setC A c fun i=>sz m fun l=>x l*u l i)=sz m fun l=>x l*det n (setC A c (u l))
 | 0,x,u=>by simp only[sz];exact det_zero hc
 | m+1,x,u=>by
  simp only[sz]
  rw[det_add hc,det_smul hc,det_sum hc]
theorem det_adj:∀{n:Nat} {A:Nat→Nat→Int} {c:Nat},c+1<n→(∀i,i<n→A i c=A i (c+1))→det n A=0
 | n+1,A,c,hc,h=>by
  simp only[det]
  rw[sz_two (k:=c) (l:=c+1) (by omega) hc (by omega) fun k hk h1 h2=>?_]
  ·have e:det n (minor A c)=det n (minor A (c+1)):=by
    refine det_congr fun i j hi hj=>?_
    unfold minor skip
    by_cases h1:j<c
    ·rw[if_pos h1,if_pos (by omega)]
    ·by_cases h2:j=c
     ·subst h2
      rw[if_neg h1,if_pos (by omega)]
      exact (h (i+1) (by omega)).symm
     ·rw[if_neg h1,if_neg (by omega)]
   rw[e,sgd_succ,h 0 (by omega)]
   simp only[Int.neg_mul]
   omega
  ·have e:det n (minor A k)=0:=by
    refine det_adj (c:=pos' k c) ?_ fun i hi=>?_
    ·unfold pos';split<;>omega
    ·unfold minor skip pos'
     by_cases h3:c<k
     ·simp only[h3,if_true]
      rw[if_pos (by omega)]
      exact h (i+1) (by omega)
     ·simp only[h3,if_false]
      rw[if_neg (by omega),if_neg (by omega),show c - 1+1=c by omega]
      exact h (i+1) (by omega)
   rw[e,Int.mul_zero]
theorem setC_self (A:Nat→Nat→Int) (c:Nat):setC A c (fun i=>A i c)=A:=by
 funext i j
 unfold setC
 split
 ·rename_i h;rw[h]
 ·rfl
theorem setC_comm {A:Nat→Nat→Int} {c e:Nat} {u v:Nat→Int} (h:c≠e):setC (setC A c u) e v=setC (setC A e v) c u:=by
 funext i j
 unfold setC
 by_cases h1:j=c<;>by_cases h2:j=e
 ·omega
 ·simp[h1,h]
 ·simp[h2,Ne.symm h]
 ·simp[h1,h2]
theorem det_swap_adj {n:Nat} {A:Nat→Nat→Int} {c:Nat} {u v:Nat→Int} (hc:c+1<n):det n (setC (setC A c u) (c+1) v)= - det n (setC (setC A c v) (c+1) u):=by
 have h0:∀w:Nat→Int,det n (setC (setC A c w) (c+1) w)=0:=fun w=>det_adj hc fun i _=>by simp[setC]
 have h1:=h0 fun i=>u i+v i
 rw[det_add hc,setC_comm (by omega),setC_comm (u:=fun i=>u i+v i) (by omega),det_add (by omega),det_add (by omega),setC_comm (c:=c+1) (by omega),setC_comm (c:=c+1) (v:=v) (by omega),setC_comm (c:=c+1) (u:=v) (v:=u) (by omega),setC_comm (c:=c+1) (u:=v) (v:=v) (by omega),h0,h0] at h1
 omega
theorem det_eq:∀{k:Nat} {n:Nat} {A:Nat→Nat→Int} {c:Nat},c+k+1<n→(∀i,i<n→A i c=A i (c+k+1))→det n A=0
 | 0,n,A,c,hc,h=>det_adj hc h
 | k+1,n,A,c,hc,h=>by
  have e:A=setC (setC A (c+k+1) fun i=>A i (c+k+1)) (c+k+1+1) fun i=>A i (c+k+1+1):=by
   rw[setC_self,setC_self]
  rw[e,det_swap_adj (by omega)]
  have:det n (setC (setC A (c+k+1) fun i=>A i (c+k+1+1)) (c+k+1+1) fun i=>A i (c+k+1))=0:=by
   refine det_eq (k:=k) (c:=c) (by omega) fun i hi=>?_
   simp only[setC]
   rw[if_neg (by omega),if_neg (by omega),if_neg (by omega)]
   simp only[if_true]
   exact h i hi
  rw[this]
  rfl
theorem det_alt {n:Nat} {A:Nat→Nat→Int} {a b:Nat} (ha:a<n) (hb:b<n) (hab:a≠b) (h:∀i,i<n→A i a=A i b):det n A=0:=by
 by_cases hlt:a<b
 ·obtain ⟨k,rfl⟩:∃k,b=a+k+1:=⟨b - a - 1,by omega⟩
  exact det_eq hb h
 ·obtain ⟨k,rfl⟩:∃k,a=b+k+1:=⟨a - b - 1,by omega⟩
  exact det_eq ha fun i hi=>(h i hi).symm
theorem det_swap {n:Nat} {A:Nat→Nat→Int} {a b:Nat} {u v:Nat→Int} (ha:a<n) (hb:b<n) (hab:a≠b):det n (setC (setC A a u) b v)= - det n (setC (setC A a v) b u):=by
 have h0:∀w:Nat→Int,det n (setC (setC A a w) b w)=0:=fun w=>det_alt ha hb hab fun i _=>by simp[setC]
 have h1:=h0 fun i=>u i+v i
 rw[det_add hb,setC_comm hab,setC_comm (u:=fun i=>u i+v i) hab,det_add ha,det_add ha,setC_comm (c:=b) (Ne.symm hab),setC_comm (c:=b) (v:=v) (Ne.symm hab),setC_comm (c:=b) (u:=v) (v:=u) (Ne.symm hab),setC_comm (c:=b) (u:=v) (v:=v) (Ne.symm hab),h0,h0] at h1
 omega
def pz:Nat→(Nat→Int)→Int
 | 0,_=>1
 | n+1,f=>f 0*pz n fun i=>f (i+1)
end Dn
end Go.Proofs.YtmoiiokmfanlgaaGreat

namespace Go.Proofs.YtmoiiokmfanlgaaGreat
namespace Dn
def upd (β:Nat→Nat) (r c:Nat):Nat→Nat:=fun k=>if k=r then c else β k
def colsOf (M:Nat→Nat→Int) (γ:Nat→Nat):Nat→Nat→Int:=fun i k=>M i (γ k)
def dc (m:Nat) (M:Nat→Nat→Int) (γ:Nat→Nat):Int:=det m (colsOf M γ)
theorem colsOf_upd (M:Nat→Nat→Int) (β:Nat→Nat) (r c:Nat):colsOf M (upd β r c)=setC (colsOf M β) r (fun i=>M i c):=by
 funext i k
 unfold colsOf upd setC
 split<;>rfl
theorem upd_upd (β:Nat→Nat) (r c e:Nat):upd (upd β r c) r e=upd β r e:=by
 funext k
 unfold upd
 split<;>rfl
theorem upd_self (β:Nat→Nat) (r:Nat):upd β r (β r)=β:=by
 funext k
 unfold upd
 split
 ·rename_i h;rw[h]
 ·rfl
structure Tb (m w:Nat) (M T:Nat→Nat→Int) (d:Int) (β:Nat→Nat):Prop where
 dpos:0<d
 lt:∀i,i<m→β i<w
 co:∀k,k<m→∀j,j<w→d*M k j=sz m fun i=>T i j*M k (β i)
 cr:∃σ:Int,σ*σ=1∧d=σ*dc m M β∧∀i,i<m→∀j,j<w→T i j=σ*dc m M (upd β i j)
section
variable {m w:Nat} {M T:Nat→Nat→Int} {d:Int} {β:Nat→Nat}
theorem dc_upd_other {i k:Nat} (hi:i<m) (hk:k<m) (h:i≠k):dc m M (upd β i (β k))=0:=by
 refine det_alt hi hk h fun l _=>?_
 unfold colsOf upd
 rw[if_pos rfl,if_neg (Ne.symm h)]
theorem Tb.basis (h:Tb m w M T d β) {i:Nat} (hi:i<m):T i (β i)=d:=by
 obtain ⟨σ,_,h2,h3⟩:=h.cr
 rw[h3 i hi _ (h.lt i hi),upd_self,←h2]
theorem Tb.other (h:Tb m w M T d β) {i k:Nat} (hi:i<m) (hk:k<m) (hik:i≠k):T i (β k)=0:=by
 obtain ⟨σ,_,h2,h3⟩:=h.cr
 rw[h3 i hi _ (h.lt k hk),dc_upd_other hi hk hik,Int.mul_zero]
theorem Tb.inj (h:Tb m w M T d β) {i k:Nat} (hi:i<m) (hk:k<m) (hb:β i=β k):i=k:=by
 by_cases e:i=k
 ·exact e
 ·have h1:=h.other hi hk e
  rw[←hb,h.basis hi] at h1
  have:=h.dpos
  omega
theorem dc_two (h:Tb m w M T d β) {r i c j:Nat} (hr:r<m) (hi:i<m) (hri:r≠i) (hc:c<w) (hj:j<w) :
  d*d*dc m M (upd (upd β r c) i j)=(T r c*T i j - T i c*T r j)*dc m M β:=by
 obtain ⟨B,hB⟩:∃B,B=colsOf M β:=⟨_,rfl⟩
 have e1:d*d*dc m M (upd (upd β r c) i j)=det m (setC (setC B r fun q=>d*M q c) i fun q=>d*M q j):=by
  have a1:=det_smul (n:=m) (A:=setC B r fun q=>d*M q c) (c:=i) (x:=d) (u:=fun q=>M q j) hi
  have a2:=det_smul (n:=m) (A:=setC B i fun q=>M q j) (c:=r) (x:=d) (u:=fun q=>M q c) hr
  unfold dc
  rw[colsOf_upd,colsOf_upd,←hB,a1,setC_comm (u:=fun q=>d*M q c) hri,a2,setC_comm (u:=fun q=>M q c) hri,Int.mul_assoc]
 have e2:det m (setC (setC B r fun q=>d*M q c) i fun q=>d*M q j)=det m (setC (setC B r fun q=>sz m fun k=>T k c*B q k) i fun q=>sz m fun l=>T l j*B q l):=by
  refine det_congr fun p q hp hq=>?_
  unfold setC
  rw[hB]
  split
  ·exact h.co p hp j hj
  ·split
   ·exact h.co p hp c hc
   ·rfl
 rw[e1,e2,det_sum hi (x:=fun l=>T l j) (u:=fun l q=>B q l)]
 have e3:∀l,det m (setC (setC B r fun q=>sz m fun k=>T k c*B q k) i fun q=>B q l)=sz m fun k=>T k c*det m (setC (setC B i fun q=>B q l) r fun q=>B q k):=fun l=>by
  rw[setC_comm hri,det_sum hr (x:=fun k=>T k c) (u:=fun k q=>B q k)]
 have z1:∀k l,k<m→k≠r→k≠i→det m (setC (setC B i fun q=>B q l) r fun q=>B q k)=0:=fun k l hk h1 h2 =>
  det_alt hr hk h1.symm fun q _=>by simp[setC,h1,h2]
 have z2:∀k l,l<m→l≠r→l≠i→det m (setC (setC B i fun q=>B q l) r fun q=>B q k)=0:=fun k l hl h1 h2 =>
  det_alt hi hl h2.symm fun q _=>by simp[setC,h1,h2,hri.symm]
 have z3:det m (setC (setC B i fun q=>B q r) r fun q=>B q r)=0:=det_alt hi hr hri.symm fun q _=>by simp[setC,hri.symm]
 have z4:det m (setC (setC B i fun q=>B q i) r fun q=>B q i)=0:=det_alt hi hr hri.symm fun q _=>by simp[setC,hri.symm]
 have z5:det m (setC (setC B i fun q=>B q i) r fun q=>B q r)=det m B:=by
  rw[setC_self,setC_self]
 have z6:det m (setC (setC B i fun q=>B q r) r fun q=>B q i)= - det m B:=by
  rw[det_swap hi hr hri.symm,z5]
 have e4:∀l,l<m→(sz m fun k=>T k c*det m (setC (setC B i fun q=>B q l) r fun q=>B q k))=T r c*det m (setC (setC B i fun q=>B q l) r fun q=>B q r)+T i c*det m (setC (setC B i fun q=>B q l) r fun q=>B q i):=fun l _ =>
  sz_two hr hi hri fun k hk h1 h2=>by rw[z1 k l hk h1 h2,Int.mul_zero]
 rw[sz_congr (g:=fun l=>T l j*(T r c*det m (setC (setC B i fun q=>B q l) r fun q=>B q r)+T i c*det m (setC (setC B i fun q=>B q l) r fun q=>B q i))) fun l hl=>by rw[e3 l,e4 l hl]]
 rw[sz_two hr hi hri fun l hl h1 h2=>by rw[z2 r l hl h1 h2,z2 i l hl h1 h2];simp]
 rw[z3,z4,z5,z6]
 have:dc m M β=det m B:=by rw[hB];rfl
 rw[this]
 grind
def piv (T:Nat→Nat→Int) (d:Int) (r c i j:Nat):Int:=(T r c*T i j - T i c*T r j) / d
theorem piv_exact (h:Tb m w M T d β) {r i c j:Nat} (hr:r<m) (hi:i<m) (hri:r≠i) (hc:c<w) (hj:j<w):d*piv T d r c i j=T r c*T i j - T i c*T r j:=by
 obtain ⟨σ,h1,h2,_⟩:=h.cr
 have h3:=dc_two h hr hi hri hc hj
 have hd:=h.dpos
 have h4:dc m M β=σ*d:=by rw[h2,←Int.mul_assoc,h1,Int.one_mul]
 rw[h4] at h3
 have h5:d*(d*dc m M (upd (upd β r c) i j))=d*((T r c*T i j - T i c*T r j)*σ):=by
  rw[←Int.mul_assoc,h3]
  grind
 have h6:=Int.eq_of_mul_eq_mul_left (by omega) h5
 have h7:T r c*T i j - T i c*T r j=d*(σ*dc m M (upd (upd β r c) i j)):=by
  have:(T r c*T i j - T i c*T r j)*σ*σ=d*dc m M (upd (upd β r c) i j)*σ:=by rw[h6]
  rw[Int.mul_assoc,h1,Int.mul_one] at this
  rw[this]
  grind
 unfold piv
 rw[h7,Int.mul_ediv_cancel_left _ (by omega)]
theorem piv_eq (h:Tb m w M T d β) {σ:Int} (h1:σ*σ=1) (h2:d=σ*dc m M β) {r i c j:Nat} (hr:r<m) (hi:i<m) (hri:r≠i) (hc:c<w) (hj:j<w):piv T d r c i j=σ*dc m M (upd (upd β r c) i j):=by
 have h3:=dc_two h hr hi hri hc hj
 have hd:=h.dpos
 have h4:dc m M β=σ*d:=by rw[h2,←Int.mul_assoc,h1,Int.one_mul]
 have h5:=piv_exact h hr hi hri hc hj
 rw[h4,←h5] at h3
 have h6:(d*d)*dc m M (upd (upd β r c) i j)=(d*d)*(piv T d r c i j*σ):=by rw[h3];grind
 have h7:=Int.eq_of_mul_eq_mul_left (Int.ne_of_gt (Int.mul_pos hd hd)) h6
 rw[h7]
 grind
def sg (x:Int):Int:=if x<0 then -1 else 1
theorem sg_mul (x:Int):sg x*sg x=1:=by unfold sg;split<;>rfl
theorem sg_pos {x:Int} (h:x≠0):0<sg x*x:=by unfold sg;split<;>omega
def pivT (T:Nat→Nat→Int) (d:Int) (r c:Nat):Nat→Nat→Int:=fun i j=>sg (T r c)*(if i=r then T r j else piv T d r c i j)
theorem Tb.step (h:Tb m w M T d β) {r c:Nat} (hr:r<m) (hc:c<w) (he:T r c≠0):Tb m w M (pivT T d r c) (sg (T r c)*T r c) (upd β r c):=by
 have hd:=h.dpos
 refine ⟨sg_pos he,fun i hi=>?_,fun k hk j hj=>?_,?_⟩
 ·unfold upd
  split
  ·exact hc
  ·exact h.lt i hi
 ·have h1:∀i,i<m→d*((if i=r then T r j else piv T d r c i j)*M k (upd β r c i))=(T r c*(T i j*M k (β i)) - T r j*(T i c*M k (β i)))+(if i=r then d*(T r j*M k c) else 0):=fun i hi=>by
   unfold upd
   by_cases e:i=r
   ·subst e
    simp only[if_true]
    grind
   ·simp only[e,if_false,Int.add_zero]
    rw[←Int.mul_assoc,piv_exact h hr hi (Ne.symm e) hc hj]
    grind
  have h2:d*(sz m fun i=>(if i=r then T r j else piv T d r c i j)*M k (upd β r c i))=d*(T r c*M k j):=by
   rw[←sz_mul,sz_congr h1,sz_add,sz_sub,sz_mul,sz_mul,←h.co k hk j hj,←h.co k hk c hc,sz_one hr fun i _ hne=>if_neg hne,if_pos rfl]
   grind
  have h3:=Int.eq_of_mul_eq_mul_left (by omega) h2
  have h4:(sz m fun i=>pivT T d r c i j*M k (upd β r c i))=sg (T r c)*sz m fun i=>(if i=r then T r j else piv T d r c i j)*M k (upd β r c i):=by
   rw[←sz_mul]
   exact sz_congr fun i _=>by unfold pivT;rw[Int.mul_assoc]
  rw[h4,h3,Int.mul_assoc]
 ·obtain ⟨σ,h1,h2,h3⟩:=h.cr
  refine ⟨sg (T r c)*σ,?_,?_,fun i hi j hj=>?_⟩
  ·have:=sg_mul (T r c)
   grind
  ·rw[h3 r hr c hc]
   grind
  ·unfold pivT
   by_cases e:i=r
   ·subst e
    rw[if_pos rfl,h3 i hi j hj,upd_upd]
    grind
   ·rw[if_neg e,piv_eq h h1 h2 hr hi (Ne.symm e) hc hj]
    grind
theorem det_one:∀n:Nat,det n (fun i k=>if i=k then 1 else 0)=1
 | 0=>rfl
 | n+1=>by
  simp only[det]
  rw[sz_one (k:=0) (by omega) fun k _ hk=>by rw[if_neg (Ne.symm hk)];simp]
  have:det n (minor (fun i k=>if i=k then 1 else 0) 0)=det n (fun i k=>if i=k then 1 else 0):=det_congr fun i j _ _=>by
   unfold minor skip
   simp
  rw[this,det_one n]
  simp[sgd]
theorem Tb.first {a:Nat→Nat} (ha:∀i,i<m→a i<w) (hM:∀k,k<m→∀i,i<m→M k (a i)=if k=i then 1 else 0):Tb m w M M 1 a:=by
 have h1:dc m M a=1:=by
  unfold dc
  rw[←det_one m]
  exact det_congr fun i j hi hj=>hM i hi j hj
 refine ⟨by omega,ha,fun k hk j hj=>?_,1,by omega,by rw[h1];rfl,fun i hi j hj=>?_⟩
 ·rw[sz_one hk fun i hi hne=>by rw[hM k hk i hi,if_neg (Ne.symm hne),Int.mul_zero],hM k hk k hk,if_pos rfl]
  omega
 ·unfold dc
  rw[colsOf_upd]
  have e:det m (setC (colsOf M a) i fun q=>M q j)=det m (setC (colsOf M a) i fun q=>sz m fun k=>M k j*colsOf M a q k):=by
   refine det_congr fun p q hp hq=>?_
   unfold setC
   split
   ·show M p j=sz m fun k=>M k j*colsOf M a p k
    rw[sz_one hp fun k hk hne=>by unfold colsOf;rw[hM p hp k hk,if_neg (Ne.symm hne),Int.mul_zero]]
    unfold colsOf
    rw[hM p hp p hp,if_pos rfl]
    omega
   ·rfl
  rw[e,det_sum hi (x:=fun k=>M k j) (u:=fun k q=>colsOf M a q k),sz_one hi fun k hk hne=>by
   rw[det_alt hi hk (Ne.symm hne) fun q _=>by simp[setC,hne],Int.mul_zero],setC_self]
  have:det m (colsOf M a)=1:=h1
  rw[this]
  omega
theorem Tb.rows (h:Tb m w M T d β) {a:Nat→Nat} (ha:∀i,i<m→a i<w) (hM:∀k,k<m→∀i,i<m→M k (a i)=if k=i then 1 else 0) {i j:Nat} (hi:i<m) (hj:j<w):T i j=sz m fun k=>T i (a k)*M k j:=by
 obtain ⟨σ,h1,h2,h3⟩:=h.cr
 rw[h3 i hi j hj]
 have e:dc m M (upd β i j)=sz m fun k=>M k j*dc m M (upd β i (a k)):=by
  unfold dc
  rw[colsOf_upd]
  have e:det m (setC (colsOf M β) i fun q=>M q j)=det m (setC (colsOf M β) i fun q=>sz m fun k=>M k j*M q (a k)):=by
   refine det_congr fun p q hp hq=>?_
   unfold setC
   split
   ·show M p j=sz m fun k=>M k j*M p (a k)
    rw[sz_one hp fun k hk hne=>by rw[hM p hp k hk,if_neg (Ne.symm hne),Int.mul_zero],hM p hp p hp,if_pos rfl]
    omega
   ·rfl
  rw[e,det_sum hi (x:=fun k=>M k j) (u:=fun k q=>M q (a k))]
  exact sz_congr fun k _=>by rw[colsOf_upd]
 rw[e,←sz_mul]
 exact sz_congr fun k hk=>by rw[h3 i hi _ (ha k hk)];grind
theorem Tb.bound (h:Tb m w M T d β) {i j:Nat} (hi:i<m) (hj:j<w):ab (T i j)=ab (dc m M (upd β i j)):=by
 obtain ⟨σ,h1,_,h3⟩:=h.cr
 rw[h3 i hi j hj,ab_mul]
 have h4:ab σ*ab σ=1:=by rw[←ab_mul,h1];rfl
 have h5:ab σ=1:=by
  have h6:=ab_nonneg σ
  by_cases h7:ab σ≤1
  ·have:ab σ≠0:=fun e=>by rw[e] at h4;simp at h4
   omega
  ·exfalso
   have:2*2≤ab σ*ab σ:=Int.mul_le_mul (by omega) (by omega) (by omega) h6
   omega
 rw[h5,Int.one_mul]
end
end Dn
end Go.Proofs.YtmoiiokmfanlgaaGreat

namespace Go.Proofs.YtmoiiokmfanlgaaGreat
namespace Dn
structure Sx where
 T:Nat→Nat→Int
 d:Int
 β:Nat→Nat
def zr (m:Nat) (wc:Nat→Int) (S:Sx) (j:Nat):Int:=wc j*S.d - sz m fun i=>wc (S.β i)*S.T i j
structure Leaves (m R:Nat) (S:Sx) (c r:Nat):Prop where
 lt:r<m
 pos:0<S.T r c
 le:∀i,i<m→0<S.T i c→S.T r R*S.T i c≤S.T i R*S.T r c
 tie:∀i,i<m→0<S.T i c→S.T r R*S.T i c=S.T i R*S.T r c→S.β r≤S.β i
structure Enters (m N:Nat) (wc:Nat→Int) (S:Sx) (c:Nat):Prop where
 lt:c<N
 neg:zr m wc S c<0
 least:∀j,j<c→0≤zr m wc S j
structure StepAt (m w:Nat) (S S':Sx) (r c:Nat):Prop where
 T:∀i j,i<m→j<w→S'.T i j=if i=r then S.T r j else piv S.T S.d r c i j
 d:S'.d=S.T r c
 β:∀i,i<m→S'.β i=upd S.β r c i
structure Step (m w N R:Nat) (wc:Nat→Int) (S S':Sx) (r c:Nat):Prop where
 enters:Enters m N wc S c
 leaves:Leaves m R S c r
 at':StepAt m w S S' r c
structure Val (m w N R:Nat) (M:Nat→Nat→Int) (S:Sx):Prop where
 tb:Tb m w M S.T S.d S.β
 feas:∀i,i<m→0≤S.T i R
 ne:∀i,i<m→S.β i≠R
section
variable {m w N R:Nat} {M:Nat→Nat→Int} {wc:Nat→Int}
theorem dc_congr {β β':Nat→Nat} (h:∀i,i<m→β' i=β i):dc m M β'=dc m M β:=det_congr fun i j _ hj=>by unfold colsOf;rw[h j hj]
theorem Tb.congr {T T':Nat→Nat→Int} {d:Int} {β β':Nat→Nat} (h:Tb m w M T d β) (hT:∀i j,i<m→j<w→T' i j=T i j) (hβ:∀i,i<m→β' i=β i):Tb m w M T' d β':=by
 refine ⟨h.dpos,fun i hi=>by rw[hβ i hi];exact h.lt i hi,fun k hk j hj=>?_,?_⟩
 ·rw[h.co k hk j hj]
  exact sz_congr fun i hi=>by rw[hT i j hi hj,hβ i hi]
 ·obtain ⟨σ,h1,h2,h3⟩:=h.cr
  refine ⟨σ,h1,by rw[dc_congr hβ];exact h2,fun i hi j hj=>?_⟩
  rw[hT i j hi hj,h3 i hi j hj]
  congr 1
  exact (dc_congr fun k hk=>by unfold upd;rw[hβ k hk]).symm
theorem Val.stepAt {S S':Sx} (h:Val m w N R M S) (hR:R<w) {r c:Nat} (hc:c<w) (hcR:c≠R) (hl:Leaves m R S c r) (hs:StepAt m w S S' r c):Val m w N R M S':=by
 have hr:=hl.lt
 have e1:sg (S.T r c)=1:=by unfold sg;rw[if_neg (by have:=hl.pos;omega)]
 have h1:=h.tb.step hr hc (by have:=hl.pos;omega)
 have h2:=h1.congr (T':=S'.T) (β':=S'.β) (fun i j hi hj=>by rw[hs.T i j hi hj];unfold pivT;rw[e1,Int.one_mul]) hs.β
 rw[e1,Int.one_mul,←hs.d] at h2
 refine ⟨h2,fun i hi=>?_,fun i hi=>?_⟩
 ·rw[hs.T i R hi hR]
  split
  ·exact h.feas r hr
  ·rename_i hne
   have h3:=piv_exact h.tb hr hi (Ne.symm hne) hc hR
   have h4:=h.tb.dpos
   have h5:=hl.pos
   have h6:0≤S.T r c*S.T i R - S.T i c*S.T r R:=by
    by_cases h7:0<S.T i c
    ·have:=hl.le i hi h7
     have e1:=Int.mul_comm (S.T r R) (S.T i c)
     have e2:=Int.mul_comm (S.T i R) (S.T r c)
     omega
    ·have h8:0≤S.T r c*S.T i R:=Int.mul_nonneg (by omega) (h.feas i hi)
     have h9:0≤ -S.T i c*S.T r R:=Int.mul_nonneg (by omega) (h.feas r hr)
     rw[Int.neg_mul] at h9
     omega
   rw[←h3] at h6
   exact Int.nonneg_of_mul_nonneg_right h6 h4
 ·rw[hs.β i hi]
  unfold upd
  split
  ·exact hcR
  ·exact h.ne i hi
theorem zr_basis {S:Sx} (h:Tb m w M S.T S.d S.β) {i:Nat} (hi:i<m):zr m wc S (S.β i)=0:=by
 unfold zr
 rw[sz_one hi fun k hk hne=>by rw[h.other hk hi hne,Int.mul_zero],h.basis hi]
 omega
theorem zr_rows {S:Sx} (h:Tb m w M S.T S.d S.β) {a:Nat→Nat} (ha:∀i,i<m→a i<w) (hM:∀k,k<m→∀i,i<m→M k (a i)=if k=i then 1 else 0) {j:Nat} (hj:j<w) :
  zr m wc S j=wc j*S.d - sz m fun k=>(sz m fun i=>wc (S.β i)*S.T i (a k))*M k j:=by
 unfold zr
 congr 1
 rw[sz_congr (g:=fun i=>sz m fun k=>wc (S.β i)*S.T i (a k)*M k j) fun i hi=>by
  rw[h.rows ha hM hi hj,←sz_mul]
  exact sz_congr fun k _=>by rw[Int.mul_assoc]]
 rw[sz_swap]
 exact sz_congr fun k _=>sz_mulr
theorem zr_step {S S':Sx} (h:Tb m w M S.T S.d S.β) {r c j:Nat} (hr:r<m) (hc:c<w) (hj:j<w) (hs:StepAt m w S S' r c):S.d*zr m wc S' j=S.T r c*zr m wc S j - zr m wc S c*S.T r j:=by
 have h1:∀i,i<m→S.d*(wc (S'.β i)*S'.T i j)=(S.T r c*(wc (S.β i)*S.T i j) - S.T r j*(wc (S.β i)*S.T i c))+(if i=r then S.d*(wc c*S.T r j) else 0):=fun i hi=>by
  rw[hs.β i hi,hs.T i j hi hj]
  unfold upd
  by_cases e:i=r
  ·subst e
   simp only[if_true]
   grind
  ·simp only[e,if_false,Int.add_zero]
   have:=piv_exact h hr hi (Ne.symm e) hc hj
   grind
 have h2:S.d*(sz m fun i=>wc (S'.β i)*S'.T i j)=S.T r c*(sz m fun i=>wc (S.β i)*S.T i j) - S.T r j*(sz m fun i=>wc (S.β i)*S.T i c)+S.d*(wc c*S.T r j):=by
  rw[←sz_mul,sz_congr h1,sz_add,sz_sub,sz_mul,sz_mul,sz_one hr fun i _ hne=>if_neg hne,if_pos rfl]
 unfold zr
 rw[Int.mul_sub,h2,hs.d]
 grind
theorem zr_two {S S':Sx} (h:Tb m w M S.T S.d S.β) (h':Tb m w M S'.T S'.d S'.β) {a:Nat→Nat} (ha:∀i,i<m→a i<w) (hM:∀k,k<m→∀i,i<m→M k (a i)=if k=i then 1 else 0) {s:Nat} (hs:s<w) :
  S.d*zr m wc S' s=S'.d*zr m wc S s+sz m fun i=>S.T i s*zr m wc S' (S.β i):=by
 have e1:=zr_rows (wc:=wc) h' ha hM hs
 have e2:∀i,i<m→S.T i s*zr m wc S' (S.β i)=S'.d*(wc (S.β i)*S.T i s) - sz m fun k=>(sz m fun i=>wc (S'.β i)*S'.T i (a k))*(S.T i s*M k (S.β i)):=fun i hi=>by
  rw[zr_rows (wc:=wc) h' ha hM (h.lt i hi),Int.mul_sub,←sz_mul]
  congr 1
  ·grind
  ·exact sz_congr fun k _=>by grind
 rw[sz_congr e2,sz_sub,sz_mul,sz_swap]
 have e3:(sz m fun k=>sz m fun i=>(sz m fun i=>wc (S'.β i)*S'.T i (a k))*(S.T i s*M k (S.β i)))=S.d*sz m fun k=>(sz m fun i=>wc (S'.β i)*S'.T i (a k))*M k s:=by
  rw[←sz_mul]
  refine sz_congr fun k hk=>?_
  rw[sz_mul,←h.co k hk s hs]
  grind
 rw[e3,e1]
 unfold zr
 grind
theorem left_between {β:Nat→Nat→Nat} {q:Nat}:∀{k i:Nat},(∃p,p<m∧β i p=q)→(¬ ∃p,p<m∧β (i+k) p=q)→∃n,i≤n∧n<i+k∧(∃p,p<m∧β n p=q)∧¬ ∃p,p<m∧β (n+1) p=q
 | 0,i,h1,h2=>(h2 h1).elim
 | k+1,i,h1,h2=>by
  by_cases h:∃p,p<m∧β (i+k) p=q
  ·exact ⟨i+k,by omega,by omega,h,h2⟩
  ·obtain ⟨n,h3,h4,h5,h6⟩:=left_between h1 h
   exact ⟨n,h3,by omega,h5,h6⟩
theorem come_between {β:Nat→Nat→Nat} {q:Nat}:∀{k i:Nat},(¬ ∃p,p<m∧β i p=q)→(∃p,p<m∧β (i+k) p=q)→∃n,i≤n∧n<i+k∧(¬ ∃p,p<m∧β n p=q)∧∃p,p<m∧β (n+1) p=q
 | 0,i,h1,h2=>(h1 h2).elim
 | k+1,i,h1,h2=>by
  by_cases h:∃p,p<m∧β (i+k) p=q
  ·obtain ⟨n,h3,h4,h5,h6⟩:=come_between h1 h
   exact ⟨n,h3,by omega,h5,h6⟩
  ·exact ⟨i+k,by omega,by omega,h,h2⟩
theorem max_of {k:Nat} {f:Nat→Nat}:0<k→∃n,n<k∧∀i,i<k→f i≤f n:=by
 induction k with
 | zero=>intro h;omega
 | succ k ih =>
  intro _
  by_cases hk:k=0
  ·subst hk
   exact ⟨0,by omega,fun i hi=>by rw[show i=0 by omega];exact Nat.le_refl _⟩
  ·obtain ⟨n,h1,h2⟩:=ih (by omega)
   by_cases h3:f k≤f n
   ·refine ⟨n,by omega,fun i hi=>?_⟩
    by_cases h4:i=k
    ·rw[h4];exact h3
    ·exact h2 i (by omega)
   ·refine ⟨k,by omega,fun i hi=>?_⟩
    by_cases h4:i=k
    ·rw[h4];exact Nat.le_refl _
    ·have:=h2 i (by omega);omega
theorem le_cancel {e x y:Int} (he:0<e) (h:e*x≤e*y):x≤y:=Int.le_of_mul_le_mul_left h he
structure Run (m w N R:Nat) (M:Nat→Nat→Int) (wc:Nat→Int) (k:Nat) (S:Nat→Sx) (r c:Nat→Nat):Prop where
 val:∀n,n≤k→Val m w N R M (S n)
 step:∀n,n<k→Step m w N R wc (S n) (S (n+1)) (r n) (c n)
theorem Run.of {k:Nat} {S:Nat→Sx} {r c:Nat→Nat} (hN:N≤R) (hR:R<w) (h0:Val m w N R M (S 0)) (hs:∀n,n<k→Step m w N R wc (S n) (S (n+1)) (r n) (c n)):Run m w N R M wc k S r c:=by
 refine ⟨fun n=>?_,hs⟩
 induction n with
 | zero=>intro _;exact h0
 | succ n ih =>
  intro hn
  have h1:=hs n (by omega)
  have:=h1.enters.lt
  exact (ih (by omega)).stepAt hR (by omega) (by omega) h1.leaves h1.at'
theorem Run.nocycle {k:Nat} {S:Nat→Sx} {r c:Nat→Nat} {a:Nat→Nat} (ha:∀i,i<m→a i<w) (hM:∀k,k<m→∀i,i<m→M k (a i)=if k=i then 1 else 0) (hN:N≤R) (hR:R<w)
  (h:Run m w N R M wc k S r c) (hk:0<k):¬ ∀i,i<m→(S k).β i=(S 0).β i:=by
 intro hcyc
 have cw:∀n,n<k→c n<w:=fun n hn=>by have:=(h.step n hn).enters.lt;omega
 have dp:∀n,n≤k→0<(S n).d:=fun n hn=>(h.val n hn).tb.dpos
 have vstep:∀n,n<k→zr m wc (S n) R*(S (n+1)).d≤zr m wc (S (n+1)) R*(S n).d∧((S n).T (r n) R≠0→zr m wc (S n) R*(S (n+1)).d<zr m wc (S (n+1)) R*(S n).d):=fun n hn=>by
  have hs:=h.step n hn
  have h1:=zr_step (wc:=wc) (h.val n (by omega)).tb hs.leaves.lt (cw n hn) hR hs.at'
  have h2:=hs.enters.neg
  have h3:=(h.val n (by omega)).feas (r n) hs.leaves.lt
  have h4:0≤ -zr m wc (S n) (c n)*(S n).T (r n) R:=Int.mul_nonneg (by omega) h3
  rw[Int.neg_mul] at h4
  rw[hs.at'.d,Int.mul_comm (zr m wc (S (n+1)) R),h1,Int.mul_comm (zr m wc (S n) R)]
  refine ⟨by omega,fun hne=>?_⟩
  have h5:0< -zr m wc (S n) (c n)*(S n).T (r n) R:=Int.mul_pos (by omega) (by omega)
  rw[Int.neg_mul] at h5
  omega
 have vle:∀i j,i+j≤k→zr m wc (S i) R*(S (i+j)).d≤zr m wc (S (i+j)) R*(S i).d:=by
  intro i j
  induction j with
  | zero=>intro _;exact Int.le_refl _
  | succ j ih =>
   intro hj
   have h1:=ih (by omega)
   have h2:=(vstep (i+j) (by omega)).1
   have d1:=dp i (by omega)
   have d2:=dp (i+j) (by omega)
   have d3:=dp (i+j+1) (by omega)
   refine le_cancel d2 ?_
   have h3:=Int.mul_le_mul_of_nonneg_right h1 (Int.le_of_lt d3)
   have h4:=Int.mul_le_mul_of_nonneg_right h2 (Int.le_of_lt d1)
   rw[show i+(j+1)=i+j+1 by omega]
   calc (S (i+j)).d*(zr m wc (S i) R*(S (i+j+1)).d)=zr m wc (S i) R*(S (i+j)).d*(S (i+j+1)).d:=by grind
    _≤zr m wc (S (i+j)) R*(S i).d*(S (i+j+1)).d:=h3
    _=zr m wc (S (i+j)) R*(S (i+j+1)).d*(S i).d:=by grind
    _≤zr m wc (S (i+j+1)) R*(S (i+j)).d*(S i).d:=h4
    _=(S (i+j)).d*(zr m wc (S (i+j+1)) R*(S i).d):=by grind
 have same:(S k).d=(S 0).d∧∀i j,i<m→j<w→(S k).T i j=(S 0).T i j:=by
  obtain ⟨σ,s1,s2,s3⟩:=(h.val k (Nat.le_refl _)).tb.cr
  obtain ⟨τ,t1,t2,t3⟩:=(h.val 0 (by omega)).tb.cr
  rw[dc_congr hcyc] at s2
  have p1:=dp k (Nat.le_refl _)
  have p2:=dp 0 (by omega)
  have e:σ=τ:=by
   have h1:σ*(S k).d=dc m M (S 0).β:=by rw[s2,←Int.mul_assoc,s1,Int.one_mul]
   have h2:τ*(S 0).d=dc m M (S 0).β:=by rw[t2,←Int.mul_assoc,t1,Int.one_mul]
   have pm:∀x:Int,x*x=1→x=1∨x= -1:=fun x hx=>by
    have h4:x.natAbs*x.natAbs=1:=by
     have:=congrArg Int.natAbs hx
     rwa [Int.natAbs_mul] at this
    have h5:x.natAbs=1:=Nat.eq_one_of_mul_eq_one_left h4
    omega
   rcases pm σ s1 with rfl | rfl<;>rcases pm τ t1 with rfl | rfl<;>omega
  refine ⟨by rw[s2,e];exact t2.symm,fun i j hi hj=>?_⟩
  rw[s3 i hi j hj,t3 i hi j hj,e]
  congr 1
  exact dc_congr fun l hl=>by unfold upd;rw[hcyc l hl]
 have vend:zr m wc (S k) R=zr m wc (S 0) R:=by
  unfold zr
  rw[same.1]
  congr 1
  exact sz_congr fun i hi=>by rw[hcyc i hi,same.2 i R hi hR]
 have flat:∀n,n<k→(S n).T (r n) R=0:=fun n hn=>by
  by_cases e:(S n).T (r n) R=0
  ·exact e
  ·exfalso
   have h1:=(vstep n hn).2 e
   have h2:=vle 0 n (by omega)
   have h3:=vle (n+1) (k - (n+1)) (by omega)
   rw[Nat.zero_add] at h2
   rw[show n+1+(k - (n+1))=k by omega,vend,same.1] at h3
   have d0:=dp 0 (by omega)
   have d1:=dp n (by omega)
   have d2:=dp (n+1) (by omega)
   have h4:=Int.mul_lt_mul_of_pos_right h1 d0
   have h5:=Int.mul_le_mul_of_nonneg_right h2 (Int.le_of_lt d2)
   have h6:=Int.mul_le_mul_of_nonneg_right h3 (Int.le_of_lt d1)
   have:zr m wc (S 0) R*(S n).d*(S (n+1)).d<zr m wc (S 0) R*(S n).d*(S (n+1)).d:=by
    calc zr m wc (S 0) R*(S n).d*(S (n+1)).d≤zr m wc (S n) R*(S 0).d*(S (n+1)).d:=h5
     _=zr m wc (S n) R*(S (n+1)).d*(S 0).d:=by grind
     _<zr m wc (S (n+1)) R*(S n).d*(S 0).d:=h4
     _=zr m wc (S (n+1)) R*(S 0).d*(S n).d:=by grind
     _≤zr m wc (S 0) R*(S (n+1)).d*(S n).d:=h6
     _=zr m wc (S 0) R*(S n).d*(S (n+1)).d:=by grind
   omega
 have zeroStep:∀n q,n<k→((∀i,i<m→(S n).β i=q→(S n).T i R=0)↔(∀i,i<m→(S (n+1)).β i=q→(S (n+1)).T i R=0)):=fun n q hn=>by
  have hs:=h.step n hn
  have hf:=flat n hn
  have htb:=(h.val n (by omega)).tb
  have key:∀i,i<m→i≠r n→((S (n+1)).T i R=0↔(S n).T i R=0):=fun i hi hne=>by
   rw[hs.at'.T i R hi hR,if_neg hne]
   have h1:=piv_exact htb hs.leaves.lt hi (Ne.symm hne) (cw n hn) hR
   rw[hf,Int.mul_zero,Int.sub_zero] at h1
   have h2:=hs.leaves.pos
   have h3:=dp n (by omega)
   constructor
   ·intro e
    rw[e,Int.mul_zero] at h1
    rcases Int.mul_eq_zero.1 h1.symm with h4 | h4
    ·omega
    ·exact h4
   ·intro e
    rw[e,Int.mul_zero] at h1
    rcases Int.mul_eq_zero.1 h1 with h4 | h4
    ·omega
    ·exact h4
  constructor
  ·intro hz i hi hb
   by_cases e:i=r n
   ·rw[e,hs.at'.T _ R hs.leaves.lt hR,if_pos rfl];exact hf
   ·rw[hs.at'.β i hi] at hb
    unfold upd at hb
    rw[if_neg e] at hb
    exact (key i hi e).2 (hz i hi hb)
  ·intro hz i hi hb
   by_cases e:i=r n
   ·rw[e];exact hf
   ·refine (key i hi e).1 (hz i hi ?_)
    rw[hs.at'.β i hi]
    unfold upd
    rw[if_neg e]
    exact hb
 have zeroAll:∀q n,n≤k→((∀i,i<m→(S 0).β i=q→(S 0).T i R=0)↔(∀i,i<m→(S n).β i=q→(S n).T i R=0)):=fun q n=>by
  induction n with
  | zero=>intro _;exact Iff.rfl
  | succ n ih=>intro hn;exact (ih (by omega)).trans (zeroStep n q (by omega))
 have comes:∀n q,n<k→(¬ ∃p,p<m∧(S n).β p=q)→(∃p,p<m∧(S (n+1)).β p=q)→q=c n:=fun n q hn h1 ⟨p,hp,hq⟩=>by
  have hs:=h.step n hn
  rw[hs.at'.β p hp] at hq
  unfold upd at hq
  split at hq
  ·exact hq.symm
  ·exact (h1 ⟨p,hp,hq⟩).elim
 have goes:∀n q,n<k→(∃p,p<m∧(S n).β p=q)→(¬ ∃p,p<m∧(S (n+1)).β p=q)→q=(S n).β (r n):=fun n q hn ⟨p,hp,hq⟩ h1=>by
  have hs:=h.step n hn
  by_cases e:p=r n
  ·rw[←e];exact hq.symm
  ·refine (h1 ⟨p,hp,?_⟩).elim
   rw[hs.at'.β p hp]
   unfold upd
   rw[if_neg e]
   exact hq
 have notIn:∀n,n<k→¬ ∃p,p<m∧(S n).β p=c n:=fun n hn ⟨p,hp,hq⟩=>by
  have hs:=h.step n hn
  have h1:=hs.enters.neg
  rw[←hq,zr_basis (h.val n (by omega)).tb hp] at h1
  omega
 have isIn:∀n,n<k→∃p,p<m∧(S (n+1)).β p=c n:=fun n hn=>by
  have hs:=h.step n hn
  refine ⟨r n,hs.leaves.lt,?_⟩
  rw[hs.at'.β _ hs.leaves.lt]
  unfold upd
  rw[if_pos rfl]
 have ends:∀q,(∃p,p<m∧(S k).β p=q)↔∃p,p<m∧(S 0).β p=q:=fun q=>by
  constructor
  ·rintro ⟨p,hp,hq⟩;exact ⟨p,hp,by rw[←hcyc p hp];exact hq⟩
  ·rintro ⟨p,hp,hq⟩;exact ⟨p,hp,by rw[hcyc p hp];exact hq⟩
 obtain ⟨ns,hns,hmax⟩:=max_of (f:=c) hk
 have leaves:∃n,n<k∧(S n).β (r n)=c ns:=by
  by_cases h0:∃p,p<m∧(S 0).β p=c ns
  ·obtain ⟨n,h1,h2,h3,h4⟩:=left_between (β:=fun n=>(S n).β) (k:=ns) (i:=0) h0 (by rw[Nat.zero_add];exact notIn ns hns)
   exact ⟨n,by omega,(goes n _ (by omega) h3 h4).symm⟩
  ·have h1:¬ ∃p,p<m∧(S k).β p=c ns:=fun e=>h0 ((ends _).1 e)
   obtain ⟨n,h2,h3,h4,h5⟩:=left_between (β:=fun n=>(S n).β) (k:=k - (ns+1)) (i:=ns+1) (isIn ns hns) (by rw[show ns+1+(k - (ns+1))=k by omega];exact h1)
   exact ⟨n,by omega,(goes n _ (by omega) h4 h5).symm⟩
 obtain ⟨n,hn,hleave⟩:=leaves
 have hs:=h.step n hn
 have hst:=h.step ns hns
 have vn:=h.val n (by omega)
 have vs:=h.val ns (by omega)
 have hcn:=hmax n hn
 have hne:c n≠c ns:=fun e=>notIn n hn ⟨r n,hs.leaves.lt,by rw[hleave];exact e.symm⟩
 have id:=zr_two (wc:=wc) vn.tb vs.tb ha hM (cw n hn)
 have z1:0≤zr m wc (S ns) (c n):=hst.enters.least (c n) (by omega)
 have z2:=hs.enters.neg
 have d1:=dp n (by omega)
 have d2:=dp ns (by omega)
 have hsum:0<sz m fun i=>(S n).T i (c n)*zr m wc (S ns) ((S n).β i):=by
  have h1:0≤(S n).d*zr m wc (S ns) (c n):=Int.mul_nonneg (by omega) z1
  have h2:0<(S ns).d* -zr m wc (S n) (c n):=Int.mul_pos d2 (by omega)
  rw[Int.mul_neg] at h2
  omega
 have hex:∃i,i<m∧0<(S n).T i (c n)*zr m wc (S ns) ((S n).β i):=by
  by_cases e:∃i,i<m∧0<(S n).T i (c n)*zr m wc (S ns) ((S n).β i)
  ·exact e
  ·exfalso
   have:=sz_le (n:=m) (f:=fun i=>(S n).T i (c n)*zr m wc (S ns) ((S n).β i)) (g:=fun _=>0) fun i hi=>Int.not_lt.1 fun h'=>e ⟨i,hi,h'⟩
   rw[sz_zero (f:=fun _=>0) fun _ _=>rfl] at this
   omega
 obtain ⟨i,hi,hpos⟩:=hex
 have hq0:zr m wc (S ns) ((S n).β i)≠0:=fun e=>by rw[e,Int.mul_zero] at hpos;omega
 have hq1:¬ ∃p,p<m∧(S ns).β p=(S n).β i:=fun ⟨p,hp,hq⟩=>hq0 (by rw[←hq];exact zr_basis vs.tb hp)
 have hq2:∃p,p<m∧(S n).β p=(S n).β i:=⟨i,hi,rfl⟩
 have hq3:∃n',n'<k∧(S n).β i=c n':=by
  by_cases hlt:ns<n
  ·obtain ⟨n',h1,h2,h3,h4⟩:=come_between (β:=fun n=>(S n).β) (k:=n - ns) (i:=ns) hq1 (by rw[show ns+(n - ns)=n by omega];exact hq2)
   exact ⟨n',by omega,comes n' _ (by omega) h3 h4⟩
  ·by_cases h0:∃p,p<m∧(S 0).β p=(S n).β i
   ·obtain ⟨n',h1,h2,h3,h4⟩:=come_between (β:=fun n=>(S n).β) (k:=k - ns) (i:=ns) hq1 (by rw[show ns+(k - ns)=k by omega];exact (ends _).2 h0)
    exact ⟨n',by omega,comes n' _ (by omega) h3 h4⟩
   ·obtain ⟨n',h1,h2,h3,h4⟩:=come_between (β:=fun n=>(S n).β) (k:=n) (i:=0) h0 (by rw[Nat.zero_add];exact hq2)
    exact ⟨n',by omega,comes n' _ (by omega) h3 h4⟩
 obtain ⟨n',hn',hq4⟩:=hq3
 have hq5:(S n).β i≤c ns:=by rw[hq4];exact hmax n' hn'
 by_cases hqt:(S n).β i=c ns
 ·have:i=r n:=vn.tb.inj hi hs.leaves.lt (by rw[hqt,hleave])
  rw[this,hleave] at hpos
  have h1:=hs.leaves.pos
  have h2:=hst.enters.neg
  have h3:0<(S n).T (r n) (c n)* -zr m wc (S ns) (c ns):=Int.mul_pos h1 (by omega)
  rw[Int.mul_neg] at h3
  omega
 ·have z3:0≤zr m wc (S ns) ((S n).β i):=hst.enters.least _ (by omega)
  have hTi:0<(S n).T i (c n):=by
   by_cases e:0<(S n).T i (c n)
   ·exact e
   ·exfalso
    have:0≤ -(S n).T i (c n)*zr m wc (S ns) ((S n).β i):=Int.mul_nonneg (by omega) z3
    rw[Int.neg_mul] at this
    omega
  have hiR:(S n).T i R=0:=((zeroAll _ n (by omega)).1 ((zeroAll _ ns (by omega)).2 fun p hp hq=>(hq1 ⟨p,hp,hq⟩).elim)) i hi rfl
  have:=hs.leaves.tie i hi hTi (by rw[flat n hn,hiR,Int.zero_mul,Int.zero_mul])
  rw[hleave] at this
  omega
end
end Dn
end Go.Proofs.YtmoiiokmfanlgaaGreat

namespace Go.Proofs.YtmoiiokmfanlgaaGreat
namespace Dn
theorem pigeon:∀(K:Nat) (f:Nat→Nat),(∀i,i≤K→f i<K)→∃i j,i<j∧j≤K∧f i=f j
 | 0,f,h=>by have:=h 0 (by omega);omega
 | K+1,f,h=>by
  by_cases e:∃i,i≤K∧f i=f (K+1)
  ·obtain ⟨i,h1,h2⟩:=e
   exact ⟨i,K+1,by omega,by omega,h2⟩
  ·
   obtain ⟨i,j,h1,h2,h3⟩:=pigeon K (fun i=>if f i<f (K+1) then f i else f i - 1) fun i hi=>by
    have h4:=h i (by omega)
    have h5:=h (K+1) (by omega)
    have h6:f i≠f (K+1):=fun e'=>e ⟨i,hi,e'⟩
    show (if f i<f (K+1) then f i else f i - 1)<K
    split<;>omega
   refine ⟨i,j,h1,by omega,?_⟩
   have h6:f i≠f (K+1):=fun e'=>e ⟨i,by omega,e'⟩
   have h7:f j≠f (K+1):=fun e'=>e ⟨j,by omega,e'⟩
   have h3:(if f i<f (K+1) then f i else f i - 1)=(if f j<f (K+1) then f j else f j - 1):=h3
   split at h3<;>split at h3<;>omega
def code (w:Nat) (β:Nat→Nat):Nat→Nat
 | 0=>0
 | m+1=>code w β m*w+β m
theorem code_lt {w:Nat} {β:Nat→Nat}:∀{m:Nat},(∀i,i<m→β i<w)→code w β m<w ^ m
 | 0,_=>by simp[code]
 | m+1,h=>by
  simp only[code]
  have h1:=code_lt (m:=m) fun i hi=>h i (by omega)
  have h2:=h m (by omega)
  have h3:(code w β m+1)*w≤w ^ m*w:=Nat.mul_le_mul_right _ h1
  rw[Nat.pow_succ]
  rw[Nat.add_mul,Nat.one_mul] at h3
  omega
theorem code_inj {w:Nat} {β γ:Nat→Nat}:∀{m:Nat},(∀i,i<m→β i<w)→(∀i,i<m→γ i<w)→code w β m=code w γ m→∀i,i<m→β i=γ i
 | 0,_,_,_,i,hi=>by omega
 | m+1,hβ,hγ,h,i,hi=>by
  simp only[code] at h
  have h1:=hβ m (by omega)
  have h2:=hγ m (by omega)
  have e1:(code w β m*w+β m) % w=β m:=by rw[Nat.mul_comm,Nat.mul_add_mod,Nat.mod_eq_of_lt h1]
  have e2:(code w γ m*w+γ m) % w=γ m:=by rw[Nat.mul_comm,Nat.mul_add_mod,Nat.mod_eq_of_lt h2]
  have e3:β m=γ m:=by rw[←e1,←e2,h]
  have e4:code w β m=code w γ m:=by
   have:code w β m*w=code w γ m*w:=by omega
   exact Nat.eq_of_mul_eq_mul_right (by omega) this
  by_cases e:i=m
  ·rw[e];exact e3
  ·exact code_inj (fun i hi=>hβ i (by omega)) (fun i hi=>hγ i (by omega)) e4 i (by omega)
open Classical in
noncomputable def greatest (p:Nat→Prop):Nat→Nat
 | 0=>0
 | k+1=>if p k then k else greatest p k
section
variable {m w N R:Nat} {M:Nat→Nat→Int} {wc:Nat→Int}
theorem Run.short {k:Nat} {S:Nat→Sx} {r c:Nat→Nat} {a:Nat→Nat} (ha:∀i,i<m→a i<w) (hM:∀k,k<m→∀i,i<m→M k (a i)=if k=i then 1 else 0) (hN:N≤R) (hR:R<w)
  (h:Run m w N R M wc k S r c):k<w ^ m:=by
 by_cases hk:k<w ^ m
 ·exact hk
 ·exfalso
  obtain ⟨i,j,h1,h2,h3⟩:=pigeon (w ^ m) (fun n=>code w (S n).β m) fun n hn=>code_lt (h.val n (by omega)).tb.lt
  have h4:=code_inj (h.val i (by omega)).tb.lt (h.val j (by omega)).tb.lt h3
  have h5:Run m w N R M wc (j - i) (fun n=>S (i+n)) (fun n=>r (i+n)) (fun n=>c (i+n)):=⟨fun n hn=>h.val (i+n) (by omega),fun n hn=>h.step (i+n) (by omega)⟩
  refine h5.nocycle ha hM hN hR (by omega) fun p hp=>?_
  show (S (i+(j - i))).β p=(S (i+0)).β p
  rw[show i+(j - i)=j by omega,Nat.add_zero]
  exact (h4 p hp).symm
noncomputable def left (m w N R:Nat) (M:Nat→Nat→Int) (wc:Nat→Int) (s:Sx):Nat:=greatest (fun k=>∃S r c,S 0=s∧Run m w N R M wc k S r c) (w ^ m)
end
end Dn
end Go.Proofs.YtmoiiokmfanlgaaGreat

namespace Go.Proofs.YtmoiiokmfanlgaaGreat
namespace Dn
def sq:Nat→(Nat→Rat)→Rat
 | 0,_=>0
 | n+1,f=>sq n f+f n
theorem sq_congr:∀{n:Nat} {f g:Nat→Rat},(∀i,i<n→f i=g i)→sq n f=sq n g
 | 0,_,_,_=>rfl
 | n+1,f,g,h=>by
  simp only[sq]
  rw[sq_congr (n:=n) fun i hi=>h i (by omega),h n (by omega)]
theorem sq_add:∀{n:Nat} {f g:Nat→Rat},sq n (fun i=>f i+g i)=sq n f+sq n g
 | 0,_,_=>by simp only[sq];grind
 | n+1,f,g=>by
  simp only[sq]
  rw[sq_add]
  grind
theorem sq_mul:∀{n:Nat} {c:Rat} {f:Nat→Rat},sq n (fun i=>c*f i)=c*sq n f
 | 0,c,_=>by simp[sq]
 | n+1,c,f=>by
  simp only[sq]
  rw[sq_mul]
  grind
theorem sq_zero:∀{n:Nat} {f:Nat→Rat},(∀i,i<n→f i=0)→sq n f=0
 | 0,_,_=>rfl
 | n+1,f,h=>by
  simp only[sq]
  rw[sq_zero fun i hi=>h i (by omega),h n (by omega)]
  grind
theorem sq_le:∀{n:Nat} {f g:Nat→Rat},(∀i,i<n→f i≤g i)→sq n f≤sq n g
 | 0,_,_,_=>Rat.le_refl
 | n+1,f,g,h=>by
  simp only[sq]
  have:=sq_le (n:=n) fun i hi=>h i (by omega)
  have:=h n (by omega)
  grind
theorem sq_swap:∀{m n:Nat} {f:Nat→Nat→Rat},sq m (fun i=>sq n (fun j=>f i j))=sq n (fun j=>sq m (fun i=>f i j))
 | 0,n,f=>by
  simp only[sq]
  exact (sq_zero fun _ _=>rfl).symm
 | m+1,n,f=>by
  simp only[sq]
  rw[sq_swap,sq_add]
structure Lin where
 n:Nat
 m:Nat
 A:Nat→Nat→Int
 b:Nat→Int
 c:Nat→Int
 kd:Nat→Int
def Lin.row (L:Lin) (x:Nat→Rat) (k:Nat):Rat:=sq L.n fun j=>(L.A k j:Rat)*x j
def Lin.col (L:Lin) (y:Nat→Rat) (j:Nat):Rat:=sq L.m fun k=>(L.A k j:Rat)*y k
def Lin.val (L:Lin) (x:Nat→Rat):Rat:=sq L.n fun j=>(L.c j:Rat)*x j
def Lin.rhs (L:Lin) (y:Nat→Rat):Rat:=sq L.m fun k=>(L.b k:Rat)*y k
structure Lin.Feas (L:Lin) (x:Nat→Rat):Prop where
 pos:∀j,j<L.n→0≤x j
 most:∀k,k<L.m→L.kd k≠2→L.row x k≤L.b k
 least:∀k,k<L.m→L.kd k≠1→(L.b k:Rat)≤L.row x k
structure Lin.Sgn (L:Lin) (y:Nat→Rat):Prop where
 most:∀k,k<L.m→L.kd k=1→y k≤0
 least:∀k,k<L.m→L.kd k=2→0≤y k
structure Lin.Dual (L:Lin) (y:Nat→Rat):Prop extends L.Sgn y where
 col:∀j,j<L.n→L.col y j≤L.c j
structure Lin.Ref (L:Lin) (y:Nat→Rat):Prop extends L.Sgn y where
 col:∀j,j<L.n→L.col y j≤0
 rhs:0<L.rhs y
structure Lin.Ray (L:Lin) (r:Nat→Rat):Prop where
 pos:∀j,j<L.n→0≤r j
 most:∀k,k<L.m→L.kd k≠2→L.row r k≤0
 least:∀k,k<L.m→L.kd k≠1→0≤L.row r k
 val:L.val r<0
section
variable {L:Lin}
theorem Lin.swap (x y:Nat→Rat):sq L.n (fun j=>L.col y j*x j)=sq L.m (fun k=>y k*L.row x k):=by
 have e1:sq L.n (fun j=>L.col y j*x j)=sq L.n (fun j=>sq L.m fun k=>(L.A k j:Rat)*y k*x j):=sq_congr fun j _=>by
  unfold Lin.col
  rw[←sq_mul (c:=x j) |>fun h=>(by rw[h];grind:(sq L.m fun k=>x j*((L.A k j:Rat)*y k))=sq L.m (fun k=>(L.A k j:Rat)*y k)*x j)]
  exact sq_congr fun k _=>by grind
 rw[e1,sq_swap]
 refine sq_congr fun k _=>?_
 unfold Lin.row
 rw[←sq_mul]
 exact sq_congr fun j _=>by grind
theorem rowle {y r b:Rat} (h:(y≤0∧r≤b)∨(0≤y∧b≤r)∨r=b):b*y≤y*r:=by
 rcases h with ⟨h1,h2⟩ | ⟨h1,h2⟩ | h
 ·have:0≤(-y)*(b - r):=Rat.mul_nonneg (by grind) (by grind)
  grind
 ·have:0≤y*(r - b):=Rat.mul_nonneg h1 (by grind)
  grind
 ·subst h;grind
theorem Lin.Sgn.rows {x y:Nat→Rat} (h:L.Sgn y) {b:Nat→Rat} (h1:∀k,k<L.m→L.kd k≠2→L.row x k≤b k) (h2:∀k,k<L.m→L.kd k≠1→b k≤L.row x k):sq L.m (fun k=>b k*y k)≤sq L.m (fun k=>y k*L.row x k):=sq_le fun k hk=>by
 apply rowle
 by_cases e1:L.kd k=1
 ·exact .inl ⟨h.most k hk e1,h1 k hk (by omega)⟩
 ·by_cases e2:L.kd k=2
  ·exact .inr (.inl ⟨h.least k hk e2,h2 k hk e1⟩)
  ·have a1:=h1 k hk e2
   have a2:=h2 k hk e1
   exact .inr (.inr (Rat.le_antisymm a1 a2))
theorem Lin.Ref.none {x y:Nat→Rat} (hy:L.Ref y) (hx:L.Feas x):False:=by
 have h1:=hy.rows (x:=x) (b:=fun k=>(L.b k:Rat)) hx.most hx.least
 rw[←L.swap x y] at h1
 have h2:sq L.n (fun j=>L.col y j*x j)≤sq L.n (fun _=>0):=sq_le fun j hj=>by
  have:0≤(-L.col y j)*x j:=Rat.mul_nonneg (by have:=hy.col j hj;grind) (hx.pos j hj)
  grind
 rw[sq_zero (f:=fun _=>0) fun _ _=>rfl] at h2
 have h3:=hy.rhs
 unfold Lin.rhs at h3
 grind
theorem Lin.Ray.none {r y:Nat→Rat} (hr:L.Ray r) (hy:L.Dual y):False:=by
 have h1:=hy.rows (x:=r) (b:=fun _=>0) hr.most hr.least
 rw[←L.swap r y,sq_zero (f:=fun k=>0*y k) fun k _=>by grind] at h1
 have h2:sq L.n (fun j=>L.col y j*r j)≤L.val r:=sq_le fun j hj=>Rat.mul_le_mul_of_nonneg_right (hy.col j hj) (hr.pos j hj)
 have h3:=hr.val
 grind
end
structure Lay where
 N:Nat
 sl:Nat→Nat
 σ:Nat→Int
def Lay.M (Y:Lay) (L:Lin) (k j:Nat):Int :=
 if j<L.n then Y.σ k*L.A k j else if j<Y.N then (if L.kd k≠3∧j=Y.sl k then Y.σ k*(if L.kd k=1 then 1 else -1) else 0) else if j<Y.N+L.m then (if j=Y.N+k then 1 else 0) else Y.σ k*L.b k
structure Lay.ok (Y:Lay) (L:Lin):Prop where
 n:L.n≤Y.N
 kd:∀k,k<L.m→L.kd k=1∨L.kd k=2∨L.kd k=3
 sl:∀k,k<L.m→L.kd k≠3→L.n≤Y.sl k∧Y.sl k<Y.N
 inj:∀k l,k<L.m→l<L.m→L.kd k≠3→L.kd l≠3→Y.sl k=Y.sl l→k=l
 sg:∀k,k<L.m→Y.σ k=1∨Y.σ k= -1
 b:∀k,k<L.m→0≤Y.σ k*L.b k
abbrev Lay.R (Y:Lay) (L:Lin):Nat:=Y.N+L.m
abbrev Lay.w (Y:Lay) (L:Lin):Nat:=Y.N+L.m+1
section
variable {L:Lin} {Y:Lay}
theorem Lay.M_a (h:Y.ok L) {k i:Nat} (hi:i<L.m):Y.M L k (Y.N+i)=if k=i then 1 else 0:=by
 have:=h.n
 unfold Lay.M
 rw[if_neg (by omega),if_neg (by omega),if_pos (by omega)]
 by_cases e:k=i
 ·rw[if_pos e,if_pos (by omega)]
 ·rw[if_neg e,if_neg (by omega)]
theorem Lay.M_R (h:Y.ok L) {k:Nat}:Y.M L k (Y.R L)=Y.σ k*L.b k:=by
 have:=h.n
 unfold Lay.M Lay.R
 rw[if_neg (by omega),if_neg (by omega),if_neg (by omega)]
theorem Lay.ss (h:Y.ok L) {k:Nat} (hk:k<L.m):Y.σ k*Y.σ k=1:=by
 rcases h.sg k hk with e | e<;>rw[e]<;>rfl
theorem Lay.ss' (h:Y.ok L) {k:Nat} (hk:k<L.m) (x:Int):Y.σ k*(Y.σ k*x)=x:=by rw[←Int.mul_assoc,Lay.ss h hk,Int.one_mul]
abbrev Lay.Val (Y:Lay) (L:Lin) (S:Sx):Prop:=Dn.Val L.m (Y.w L) Y.N (Y.R L) (Y.M L) S
theorem Lay.art (h:Y.ok L):(∀i,i<L.m→Y.N+i<Y.w L)∧∀k,k<L.m→∀i,i<L.m→Y.M L k (Y.N+i)=if k=i then 1 else 0 :=
 ⟨fun i hi=>by unfold Lay.w;omega,fun k _ i hi=>Lay.M_a h hi⟩
theorem Lay.first (h:Y.ok L):Y.Val L ⟨Y.M L,1,fun i=>Y.N+i⟩:=by
 refine ⟨Tb.first (Lay.art h).1 (Lay.art h).2,fun i hi=>?_,fun i hi=>?_⟩
 ·show 0≤Y.M L i (Y.R L)
  rw[Lay.M_R h]
  exact h.b i hi
 ·show Y.N+i≠Y.N+L.m
  omega
def costs (L:Lin) (j:Nat):Int:=if j<L.n then L.c j else 0
end
end Dn
end Go.Proofs.YtmoiiokmfanlgaaGreat

namespace Go.Proofs.YtmoiiokmfanlgaaGreat
namespace Dn
def Lin.F (L:Lin) (k:Nat):Int:=1+ab (L.b k)+sz L.n fun j=>ab (L.A k j)
def Lin.P (L:Lin):Int:=pz L.m L.F
section
variable {L:Lin} {Y:Lay}
end
end Dn
end Go.Proofs.YtmoiiokmfanlgaaGreat

namespace Go.Proofs.YtmoiiokmfanlgaaGreat
namespace Dn
section
variable {L:Lin} {Y:Lay}
end
end Dn
end Go.Proofs.YtmoiiokmfanlgaaGreat

namespace Go.Proofs.YtmoiiokmfanlgaaGreat
namespace Dn
section
variable {α R:Type} {F:(α→Option R)→α→Option R}
theorem loopF_seq (n:Nat) (st:Nat→α) (r:Option R) (hb:∀again i,i<n→F again (st i)=again (st (i+1))) (hf:∀again,F again (st n)=r):∀(k i m:Nat),i+k=n→k<m→loopF F m (st i)=r
 | 0,i,m,h1,h2=>by
  obtain ⟨m,rfl⟩:∃m',m=m'+1:=⟨m - 1,by omega⟩
  rw[loopF_succ,show i=n by omega,hf]
 | k+1,i,m,h1,h2=>by
  obtain ⟨m,rfl⟩:∃m',m=m'+1:=⟨m - 1,by omega⟩
  rw[loopF_succ,hb _ _ (by omega)]
  exact loopF_seq n st r hb hf k (i+1) m (by omega) (by omega)
theorem lpK_seq (n:Nat) (hn:n≤1180591620717411303423) (st:Nat→α) (r:Option R) (hb:∀again i,i<n→F again (st i)=again (st (i+1))) (hf:∀again,F again (st n)=r):lpK α R F (st 0)=r :=
 loopF_seq n st r hb hf n 0 K0 (by omega) (by unfold K0;omega)
theorem lpK_seqX {x:α} (n:Nat) (hn:n≤1180591620717411303423) (st:Nat→α) (r:Option R) (hx:x=st 0) (hb:∀again i,i<n→F again (st i)=again (st (i+1))) (hf:∀again,F again (st n)=r):lpK α R F x=r:=by
 rw[hx]
 exact lpK_seq n hn st r hb hf
end
section
variable {α:Type} {m w:Nat} {T T':Nat→Nat→Int}
end
end Dn
end Go.Proofs.YtmoiiokmfanlgaaGreat

namespace Go.Proofs.YtmoiiokmfanlgaaGreat
open Dn Dn.Sh
def kk (d:Int→Int) (f:Nat→Int) (x:Int):Nat→Nat
 | 0=>0
 | n+1=>if d x<d (f n) then kk d f x n else n+1
section
variable {d:Int→Int}
end
end Go.Proofs.YtmoiiokmfanlgaaGreat

namespace Go.Proofs.YtmoiiokmfanlgaaGreat
open Tryz Dn Dn.Sh
theorem succ_wrap {i:Nat} (h:i≤1000000):IntKind.wrap .i64 ((i:Int)+1)=((i+1:Nat):Int):=by rw[wrap_id (by omega) (by omega)];rfl
theorem obN {T R:Type} {t:T} {k:T→Option R}:obind (some t) k=k t:=id rfl
theorem idxI_first {α:Type} {p:α→Bool} {d:α}:∀{l:List α} {k:Nat} {i:Int},k<l.length→p (l.getD k d)=true→(∀j,j<k→p (l.getD j d)=false)→idxI p l i=i+k
 | [],k,i,hk,_,_=>by simp at hk
 | a ::l,0,i,_,hp,_=>by
  unfold idxI
  rw[show p a=true from hp]
  simp
 | a ::l,k+1,i,hk,hp,hj=>by
  unfold idxI
  rw[show p a=false from hj 0 (by omega),cond_false,idxI_first (k:=k) (i:=i+1) (by simpa using hk) hp (fun j h=>hj (j+1) (by omega))]
  omega
def fI (ss:List HS) (n:ByteArray):Int:=idxI (fun s:HS=>decide (s.1=n)) ss 0
def Uq (ss:List HS):Prop:=∀i,i<ss.length→fI ss (ss.getD i set0).1=(i:Int)
theorem fI_at {ss:List HS} {n:ByteArray} (h:0≤fI ss n):(fI ss n).toNat<ss.length∧(ss.getD (fI ss n).toNat set0).1=n:=by
 obtain ⟨h1,h2,h3⟩:=idxI_at (d:=set0) (i:=0) (by omega) h
 refine ⟨by unfold fI at h ⊢;omega,?_⟩
 have:=of_decide_eq_true h3
 rw[Int.sub_zero] at this
 exact this
theorem uq_iff {ss:List HS}:Uq ss↔∀i j,i<ss.length→j<ss.length→(ss.getD i set0).1=(ss.getD j set0).1→i=j:=by
 constructor
 ·intro h i j hi hj e
  have h1:=h i hi
  have h2:=h j hj
  rw[e,h2] at h1
  omega
 ·intro h i hi
  unfold fI
  rw[idxI_first (d:=set0) (k:=i) hi (decide_eq_true rfl) fun j hj=>decide_eq_false fun e=>by have:=h j i (by omega) hi e;omega]
  omega
noncomputable def putL (ss:List HS) (s:HS):List HS:=bif decide (fI ss s.1<0) then ss++[s] else ss.set (fI ss s.1).toNat s
theorem putL_new {ss:List HS} {s:HS} (h:fI ss s.1<0):putL ss s=ss++[s]:=by unfold putL;rw[decide_eq_true h,cond_true]
theorem putL_old {ss:List HS} {s:HS} (h:¬ fI ss s.1<0):putL ss s=ss.set (fI ss s.1).toNat s:=by unfold putL;rw[decide_eq_false h,cond_false]
theorem getD_new {α:Type} {l:List α} {a d:α} {i:Nat}:(l++[a]).getD i d=if i<l.length then l.getD i d else if i=l.length then a else d:=by
 simp only[List.getD_eq_getElem?_getD]
 by_cases h1:i<l.length
 ·rw[if_pos h1,List.getElem?_append_left h1]
 ·rw[if_neg h1,List.getElem?_append_right (by omega)]
  by_cases h2:i=l.length
  ·rw[if_pos h2,h2];simp
  ·rw[if_neg h2,List.getElem?_eq_none (by simp;omega)];rfl
theorem getD_old {α:Type} {l:List α} {a d:α} {i k:Nat} (hk:k<l.length):(l.set k a).getD i d=if i=k then a else l.getD i d:=by
 simp only[List.getD_eq_getElem?_getD,List.getElem?_set]
 by_cases h:k=i
 ·subst h;simp[hk]
 ·rw[if_neg h,if_neg fun e=>h e.symm]
theorem fI_none {ss:List HS} {n:ByteArray} (h:fI ss n<0) {i:Nat} (hi:i<ss.length):(ss.getD i set0).1≠n:=fun e=>by
 have h0:=(idxI_neg (p:=fun s:HS=>decide (s.1=n)) (l:=ss) (i:=0) (by omega)).1 h (ss.getD i set0) (by rw[getD_nat hi];exact List.getElem_mem _)
 exact of_decide_eq_false h0 e
theorem put_uq {ss:List HS} {s:HS} (h:Uq ss):Uq (putL ss s):=by
 rw[uq_iff] at h ⊢
 by_cases hn:fI ss s.1<0
 ·rw[putL_new hn]
  intro i j hi hj e
  rw[List.length_append,List.length_singleton] at hi hj
  rw[getD_new,getD_new] at e
  by_cases h1:i<ss.length
  ·rw[if_pos h1] at e
   by_cases h2:j<ss.length
   ·rw[if_pos h2] at e
    exact h i j h1 h2 e
   ·rw[if_neg h2,if_pos (by omega)] at e
    exact absurd e (fI_none hn h1)
  ·rw[if_neg h1,if_pos (by omega)] at e
   by_cases h2:j<ss.length
   ·rw[if_pos h2] at e
    exact absurd e.symm (fI_none hn h2)
   ·omega
 ·obtain ⟨k1,k2⟩:=fI_at (show 0≤fI ss s.1 by omega)
  rw[putL_old hn]
  have hg:∀i,((ss.set (fI ss s.1).toNat s).getD i set0).1=(ss.getD i set0).1:=fun i=>by
   rw[getD_old k1]
   by_cases c:i=(fI ss s.1).toNat
   ·rw[if_pos c,c,k2]
   ·rw[if_neg c]
  intro i j hi hj e
  rw[List.length_set] at hi hj
  rw[hg,hg] at e
  exact h i j hi hj e
theorem put_at {ss:List HS} {s:HS} (h:Uq ss):∃k:Nat,fI (putL ss s) s.1=(k:Int)∧k<(putL ss s).length∧(putL ss s).getD k set0=s:=by
 have hu:=put_uq (s:=s) h
 by_cases hn:fI ss s.1<0
 ·have e:(putL ss s).getD ss.length set0=s:=by rw[putL_new hn,getD_new,if_neg (by omega),if_pos rfl]
  have hl:ss.length<(putL ss s).length:=by rw[putL_new hn];simp
  have:=hu ss.length hl
  rw[e] at this
  exact ⟨_,this,hl,e⟩
 ·obtain ⟨k1,k2⟩:=fI_at (show 0≤fI ss s.1 by omega)
  have e:(putL ss s).getD (fI ss s.1).toNat set0=s:=by rw[putL_old hn,getD_old k1,if_pos rfl]
  have hl:(fI ss s.1).toNat<(putL ss s).length:=by rw[putL_old hn,List.length_set];exact k1
  have:=hu _ hl
  rw[e] at this
  exact ⟨_,this,hl,e⟩
theorem put_twice {ss:List HS} {s:HS} (h:Uq ss):putL (putL ss s) s=putL ss s:=by
 obtain ⟨k,h1,h2,h3⟩:=put_at (s:=s) h
 rw[putL_old (ss:=putL ss s) (by omega),h1,Int.toNat_natCast]
 refine List.ext_getElem (by simp) fun i g1 g2=>?_
 have:=getD_old (l:=putL ss s) (a:=s) (d:=set0) (i:=i) h2
 rw[getD_nat g1,getD_nat g2] at this
 rw[this]
 by_cases c:i=k
 ·rw[if_pos c]
  subst c
  rw[getD_nat h2] at h3
  exact h3.symm
 ·rw[if_neg c]
theorem put_len {ss:List HS} {s:HS}:(putL ss s).length=if fI ss s.1<0 then ss.length+1 else ss.length:=by
 by_cases hn:fI ss s.1<0
 ·rw[if_pos hn,putL_new hn];simp
 ·rw[if_neg hn,putL_old hn];simp
theorem put_mem {ss:List HS} {s:HS} {P:HS→Prop} (h:∀x ∈ ss,P x) (hs:P s):∀x ∈ putL ss s,P x:=by
 intro x hx
 by_cases hn:fI ss s.1<0
 ·rw[putL_new hn,List.mem_append,List.mem_singleton] at hx
  rcases hx with hx | rfl
  ·exact h x hx
  ·exact hs
 ·rw[putL_old hn] at hx
  rcases List.mem_or_eq_of_mem_set hx with hx | rfl
  ·exact h x hx
  ·exact hs
theorem validHB_iff {nm:ByteArray} {ht:Int} {ss:List HS} {rs:List Bm}:validHB (nm,ht,ss,rs)=true↔nameB nm=true∧1≤ht∧ht≤1048576∧ss.length≤60∧validG rs=true∧(∀s ∈ ss,setB s=true∧s.2.2.2.1≤ht)∧Uq ss:=by
 unfold validHB
 simp only[Bool.and_eq_true,Bool.not_eq_true',decide_eq_false_iff_not,List.all_eq_true,List.mem_range',decide_eq_true_eq,Nat.one_mul,Nat.zero_add]
 constructor
 ·rintro ⟨h1,h2,h3,h4,h5,h6⟩
  refine ⟨h1,by omega,by omega,by omega,h5,fun s hs=>?_,fun i hi=>?_⟩
  ·obtain ⟨i,hi,rfl⟩:=List.getElem_of_mem hs
   obtain ⟨g1,g2,_⟩:=h6 i ⟨i,hi,rfl⟩
   rw[getD_nat hi] at g1 g2
   exact ⟨g1,by omega⟩
  ·exact (h6 i ⟨i,hi,rfl⟩).2.2
 ·rintro ⟨h1,h2,h3,h4,h5,h6,h7⟩
  refine ⟨h1,by omega,by omega,by omega,h5,fun i hi=>?_⟩
  obtain ⟨_,hi,rfl⟩:=hi
  have:=h6 (ss.getD _ set0) (by rw[getD_nat hi];exact List.getElem_mem _)
  exact ⟨this.1,by omega,h7 _ hi⟩
theorem put_valid {nm:ByteArray} {ht:Int} {ss:List HS} {rs:List Bm} {s:HS} (h:validHB (nm,ht,ss,rs)=true) (hs:setB s=true) (h59:ss.length≤59):validHB (nm,ht,putL ss s,rs)=decide (s.2.2.2.1≤ht):=by
 obtain ⟨h1,h2,h3,h4,h5,h6,h7⟩:=validHB_iff.1 h
 by_cases hh:s.2.2.2.1≤ht
 ·rw[decide_eq_true hh]
  refine validHB_iff.2 ⟨h1,h2,h3,?_,h5,put_mem h6 ⟨hs,hh⟩,put_uq h7⟩
  rw[put_len]
  split<;>omega
 ·rw[decide_eq_false hh,←Bool.not_eq_true]
  intro hv
  obtain ⟨_,_,_,_,_,g6,_⟩:=validHB_iff.1 hv
  obtain ⟨k,_,k2,k3⟩:=put_at (s:=s) h7
  have hm:(putL ss s).getD k set0 ∈ putL ss s:=by rw[getD_nat k2];exact List.getElem_mem _
  rw[k3] at hm
  exact hh (g6 s hm).2
end Go.Proofs.YtmoiiokmfanlgaaGreat

namespace Go.Proofs.YtmoiiokmfanlgaaGreat
open Tryz Dn Dn.Sh
abbrev fewS (s:HS):Prop:=s.2.2.2.2.2.1.length≤1000000∧s.2.2.2.2.2.2.2.2.2.2.2.1.length≤1000000∧s.2.2.2.2.2.2.2.2.2.2.2.2.length≤1000000
abbrev h0:HH:=({ data:=#[] },(0:Int),[],[])
theorem copied_ok {s:HS} (h:fewS s):house_copied s=some s:=by
 obtain ⟨nm,dp,lo,hi,len,ls,pi,ar,pu,mo,br,l,bs⟩:=s
 obtain ⟨h1,h2,h3⟩:=h
 simp only at h1 h2 h3
 simp only[house_copied,house_copied_b,slices_Clone_114,slices_Clone_114_b,slices_Clone_115,slices_Clone_115_b,slices_Clone_116,slices_Clone_116_b,fitB_of (show (0+ls.length)*8≤140737488355328 by omega),fitB_of (show (0+l.length)*64≤140737488355328 by omega),fitB_of (show (0+bs.length)*32≤140737488355328 by omega),cT,obN]
theorem copy21_ok {s:HS} (h:fewS s):ref21_Copy s=some s:=by
 obtain ⟨nm,dp,lo,hi,len,ls,pi,ar,pu,mo,br,l,bs⟩:=s
 obtain ⟨h1,h2,h3⟩:=h
 simp only at h1 h2 h3
 simp only[ref21_Copy,ref21_Copy_b,fitB_of (show (0+ls.length)*8≤140737488355328 by omega),fitB_of (show (0+l.length)*64≤140737488355328 by omega),fitB_of (show (0+bs.length)*32≤140737488355328 by omega),cT]
theorem take_next {ss:List HS} {i:Nat} (h:i<ss.length):ss.take i++[ss.getD i set0]=ss.take (i+1):=by
 rw[getD_nat h,List.take_append_getElem]
section
variable {nm:ByteArray} {ht:Int} {ss:List HS} {rs:List Bm} {s:HS}
set_option maxRecDepth 10000 in
theorem put_ok (hl:ss.length≤1000) (hr:rs.length≤1000) (hss:∀x ∈ ss,fewS x) (hs:fewS s) :
  house_Put (nm,ht,ss,rs) s=some (bif validHB (nm,ht,ss,rs)&&(setB s&&!decide (s.2.2.2.1>ht)) then (bif decide (fI ss s.1<0)&&decide ((ss.length:Int)=60) then (h0,(4:Int),PUnit.unit) else ((nm,ht,putL ss s,rs),(0:Int),PUnit.unit)) else (h0,(1:Int),PUnit.unit)):=by
 have e1:∀e0:Bool,(!e0||e0)=true:=fun e0=>by cases e0<;>rfl
 have e2:∀e0:Bool,(e0||!e0)=true:=fun e0=>by cases e0<;>rfl
 have hfind:house_find (nm,ht,ss,rs) s.1=some (fI ss s.1):=find_ok _ _ (show ss.length≤1000000 by omega)
 simp only[house_Put,house_Put_b,hValid_ok,validA_ok,obN,obind_bif,e1,e2,Bool.and_self,cT,hfind,slices_Clone_69,slices_Clone_69_b,fitB_of (show (0+rs.length)*40≤140737488355328 by omega)]
 generalize validHB (nm,ht,ss,rs)=b1
 generalize setB s=b2
 cases b1;· simp only[Bool.not_true,Bool.not_false,Bool.false_and,cT,cF]
 cases b2;· simp only[Bool.not_true,Bool.not_false,Bool.false_and,Bool.and_false,cT,cF]
 simp only[Bool.not_true,Bool.not_false,Bool.and_self,Bool.true_and,cF]
 by_cases c:s.2.2.2.1>ht
 ·simp only[decide_eq_true c,Bool.not_true,cT,cF]
 ·simp only[decide_eq_false c,Bool.not_false,cT,cF]
  generalize hb3:decide ((ss.length:Int)=60)=b3
  by_cases hn:fI ss s.1<0
  ·simp only[decide_eq_true hn,Bool.true_and,cT]
   cases b3
   ·simp only[cF]
    refine lpK_seqX ss.length (by omega) (fun i=>((i:Int),nm,ht,ss.take i,rs,PUnit.unit)) _ rfl (fun again i hi=>?_) (fun again=>?_)
    ·simp only[decide_eq_true (show (i:Int)<ss.length by omega),inB_nat,decide_eq_true hi,Int.toNat_natCast,copied_ok (hss (ss.getD i set0) (by rw[getD_nat hi];exact List.getElem_mem _)),obN,List.length_take,fitB_of (show (min i ss.length+1)*160≤140737488355328 by omega),cT,take_next hi,succ_wrap (show i≤1000000 by omega)]
    ·simp only[decide_eq_false (show ¬ (ss.length:Int)<ss.length by omega),cF,copied_ok hs,obN,fitB_of (show (ss.length+1)*160≤140737488355328 by omega),cT,List.take_length,putL_new hn]
   ·simp only[cT]
  ·simp only[decide_eq_false hn,Bool.false_and,cF]
   obtain ⟨k1,k2⟩:=fI_at (show 0≤fI ss s.1 by omega)
   obtain ⟨k,hk⟩:∃k:Nat,fI ss s.1=(k:Int):=⟨(fI ss s.1).toNat,by omega⟩
   rw[hk,Int.toNat_natCast] at k1
   refine lpK_seqX ss.length (by omega) (fun i=>((i:Int),nm,ht,ss.take i,rs,PUnit.unit)) _ rfl (fun again i hi=>?_) (fun again=>?_)
   ·simp only[decide_eq_true (show (i:Int)<ss.length by omega),inB_nat,decide_eq_true hi,Int.toNat_natCast,copied_ok (hss (ss.getD i set0) (by rw[getD_nat hi];exact List.getElem_mem _)),obN,List.length_take,fitB_of (show (min i ss.length+1)*160≤140737488355328 by omega),cT,take_next hi,succ_wrap (show i≤1000000 by omega)]
   ·simp only[decide_eq_false (show ¬ (ss.length:Int)<ss.length by omega),cF,copied_ok hs,obN,List.take_length,hk,inB_nat,Int.toNat_natCast,decide_eq_true k1,ble_of (show Nat.succ k≤ss.length by omega),cT,putL_old hn]
set_option maxRecDepth 10000 in
theorem rput_ok (hl:ss.length≤1000) (hr:rs.length≤1000) (hss:∀x ∈ ss,fewS x) (hs:fewS s) :
  ref30_Put (nm,ht,ss,rs) s=some (bif validHB (nm,ht,ss,rs)&&setB s then (bif decide (fI ss s.1<0)&&decide ((ss.length:Int)=60) then (h0,(4:Int),PUnit.unit) else bif validHB (nm,ht,putL ss s,rs) then ((nm,ht,putL ss s,rs),(0:Int),PUnit.unit) else (h0,(1:Int),PUnit.unit)) else (h0,(1:Int),PUnit.unit)):=by
 have e1:∀e0:Bool,(!e0||e0)=true:=fun e0=>by cases e0<;>rfl
 have e2:∀e0:Bool,(e0||!e0)=true:=fun e0=>by cases e0<;>rfl
 have hfind:ref30_FindSet (nm,ht,ss,rs) s.1=some (fI ss s.1):=findSet_ok _ _ (show ss.length≤1000000 by omega)
 have hv:=hRefValid_ok (nm,ht,ss,rs) (fun x hx=>(hss x hx).2.1)
 have hv2:=hRefValid_ok (nm,ht,putL ss s,rs) (put_mem (P:=fun x:HS=>x.2.2.2.2.2.2.2.2.2.2.2.1.length≤1000000) (fun x hx=>(hss x hx).2.1) hs.2.1)
 simp only[ref30_Put,ref30_Put_b,hv,validR_ok s hs.2.1,obN,obind_bif,e1,e2,cT,hfind,fitB_of (show (0+rs.length)*40≤140737488355328 by omega)]
 generalize validHB (nm,ht,ss,rs)=b1
 generalize setB s=b2
 cases b1;· simp only[Bool.not_true,Bool.not_false,Bool.false_and,cT,cF]
 cases b2;· simp only[Bool.not_true,Bool.not_false,Bool.and_false,cT,cF]
 simp only[Bool.not_true,Bool.not_false,Bool.and_self,cT,cF]
 refine lpK_seqX ss.length (by omega) (fun i=>((i:Int),nm,ht,ss.take i,rs,PUnit.unit)) _ rfl (fun again i hi=>?_) (fun again=>?_)
 ·simp only[decide_eq_true (show (i:Int)<ss.length by omega),inB_nat,decide_eq_true hi,Int.toNat_natCast,copy21_ok (hss (ss.getD i set0) (by rw[getD_nat hi];exact List.getElem_mem _)),obN,List.length_take,fitB_of (show (min i ss.length+1)*160≤140737488355328 by omega),cT,take_next hi,succ_wrap (show i≤1000000 by omega)]
 ·simp only[decide_eq_false (show ¬ (ss.length:Int)<ss.length by omega),cF,copy21_ok hs,obN,List.take_length,fitB_of (show (ss.length+1)*160≤140737488355328 by omega),cT]
  by_cases hn:fI ss s.1<0
  ·rw[putL_new hn] at hv2 ⊢
   simp only[decide_eq_false (show ¬ fI ss s.1≥0 by omega),decide_eq_true hn,cF,Bool.true_and,hv2,obN]
   cases decide ((ss.length:Int)=60)<;>cases validHB (nm,ht,ss++[s],rs)<;>rfl
  ·obtain ⟨k1,k2⟩:=fI_at (show 0≤fI ss s.1 by omega)
   obtain ⟨k,hk⟩:∃k:Nat,fI ss s.1=(k:Int):=⟨(fI ss s.1).toNat,by omega⟩
   rw[putL_old hn,hk,Int.toNat_natCast] at hv2
   rw[putL_old hn]
   rw[hk,Int.toNat_natCast] at k1
   simp only[hk,decide_eq_true (show (k:Int)≥0 by omega),decide_eq_false (show ¬ (k:Int)<0 by omega),cT,cF,Bool.false_and,inB_nat,Int.toNat_natCast,decide_eq_true k1,ble_of (show Nat.succ k≤ss.length by omega),hv2,obN]
   cases validHB (nm,ht,ss.set k s,rs)<;>rfl
end
theorem hFind_ok {nm:ByteArray} {ht:Int} {ss:List HS} {rs:List Bm} {n:ByteArray} (hl:ss.length≤1000) (hv:validHB (nm,ht,ss,rs)=true) (h:0≤fI ss n):house_Find (nm,ht,ss,rs) n=some (fI ss n,(0:Int),PUnit.unit):=by
 have hfind:house_find (nm,ht,ss,rs) n=some (fI ss n):=find_ok _ _ (show ss.length≤1000000 by omega)
 simp only[house_Find,house_Find_b,hValid_ok,hv,hfind,obN,Bool.not_true,cF,decide_eq_false (show ¬ fI ss n<0 by omega)]
set_option maxRecDepth 10000 in
theorem lawPuts (h:HH) (s:HS):law30_HousePuts h s=some true:=by
 have e1:∀e0:Bool,(!e0||e0)=true:=fun e0=>by cases e0<;>rfl
 have e2:∀e0:Bool,(e0||!e0)=true:=fun e0=>by cases e0<;>rfl
 obtain ⟨nm,ht,ss,rs⟩:=h
 simp only[law30_HousePuts,law30_HousePuts_b,awakeH_ok,smallH_ok,small21_ok,obN,obind_bif,Bool.not_true,e1,e2,Bool.and_self,cT,cF]
 cases hsm:smallHB (nm,ht,ss,rs) with
 | false=>simp only[Bool.not_false,cT]
 | true =>
  simp only[Bool.not_true,Bool.not_false,Bool.true_and,cF]
  cases hs2:small21B s with
  | false=>simp only[Bool.not_false,cT]
  | true =>
   have hf:=small_few hsm
   obtain ⟨l1,l2,l3⟩:=small_len hsm
   simp only at l1 l2 l3
   have hss:∀x ∈ ss,fewS x:=hf.2.2
   have hs:fewS s:=by
    simp only[small21B,Bool.and_eq_true,Bool.not_eq_true',decide_eq_false_iff_not] at hs2
    obtain ⟨_,g1,g2,g3,_⟩:=hs2
    have g2':¬ (8<(s.2.2.2.2.2.2.2.2.2.2.2.1.length:Int)∧(s.2.2.2.2.2.2.2.2.2.2.2.1.length:Int)≤40)∨True:=.inr trivial
    refine ⟨?_,?_,?_⟩<;>simp_all<;>omega
   simp only[Bool.not_true,cF,put_ok (nm:=nm) (ht:=ht) (s:=s) (show ss.length≤1000 by omega) (show rs.length≤1000 by omega) hss hs,rput_ok (nm:=nm) (ht:=ht) (s:=s) (show ss.length≤1000 by omega) (show rs.length≤1000 by omega) hss hs,obN,decide_eq_false (show ¬ (ss.length:Int)=60 by omega),Bool.and_false,cF]
   cases hv:validHB (nm,ht,ss,rs) with
   | false =>
    simp only[Bool.false_and,cF,hRefSame_ok h0 h0 ⟨by decide,by decide,fun s hs=>by cases hs⟩,sameHB_refl,obN,decide_true,Bool.not_true,cF]
    rfl
   | true =>
    cases hb:setB s with
    | false =>
     simp only[Bool.false_and,Bool.and_false,cF,hRefSame_ok h0 h0 ⟨by decide,by decide,fun s hs=>by cases hs⟩,sameHB_refl,obN,decide_true,Bool.not_true,cF]
     rfl
    | true =>
     rw[put_valid hv hb (by omega)]
     obtain ⟨_,_,_,_,_,_,hu⟩:=validHB_iff.1 hv
     by_cases c:s.2.2.2.1≤ht
     ·have hv2:=put_valid hv hb (by omega)
      rw[decide_eq_true c] at hv2
      have c':¬ s.2.2.2.1>ht:=by omega
      have hss2:∀x ∈ putL ss s,fewS x:=put_mem hss hs
      have hl2:(putL ss s).length≤7:=by rw[put_len];split<;>omega
      have hfp:fewP (nm,ht,putL ss s,rs):=⟨show (putL ss s).length≤1000000 by omega,show rs.length≤1000000 by omega,hss2⟩
      obtain ⟨k,k1,k2,k3⟩:=put_at (s:=s) hu
      have hp2:=put_ok (nm:=nm) (ht:=ht) (ss:=putL ss s) (rs:=rs) (s:=s) (by omega) (by omega) hss2 hs
      rw[hv2,hb,decide_eq_false c',k1,decide_eq_false (show ¬ (k:Int)<0 by omega),put_twice hu] at hp2
      simp only[Bool.not_false,Bool.and_self,Bool.false_and,cT,cF] at hp2
      have hfd:=hFind_ok (nm:=nm) (ht:=ht) (ss:=putL ss s) (rs:=rs) (n:=s.1) (by omega) hv2 (by omega)
      rw[k1] at hfd
      simp only[decide_eq_true c,decide_eq_false c',Bool.not_true,Bool.not_false,Bool.and_self,cT,cF,hRefSame_ok _ _ hfp,sameHB_refl,obN,decide_true,hfd,hp2,inB_nat,Int.toNat_natCast,decide_eq_true (show (k:Int)≥0 by omega),decide_eq_true (show (k:Int)<(putL ss s).length by omega),decide_eq_true k2,k3,sameR_ok s s hs.1 hs.2.1 hs.2.2,sameB_refl,hSame_ok _ _ hfp,Bool.or_true]
     ·have c':s.2.2.2.1>ht:=by omega
      simp only[decide_eq_false c,decide_eq_true c',Bool.not_true,Bool.and_false,Bool.and_self,cT,cF,hRefSame_ok h0 h0 ⟨by decide,by decide,fun s hs=>by cases hs⟩,sameHB_refl,obN,decide_true]
      rfl
end Go.Proofs.YtmoiiokmfanlgaaGreat
