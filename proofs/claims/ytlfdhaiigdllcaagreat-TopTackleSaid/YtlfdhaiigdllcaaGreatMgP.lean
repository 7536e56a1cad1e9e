/- top: what its functions answer (printed by a program), and that they do; part 5. Plain lemmas for what functions answer: loops, machine numbers, lists. Names: both programs know the same ones. Fractions: rational numbers, and the pairs of numbers that stand for them. Fractions: what 'Make', 'Valid', 'Mul', 'Floor', 'Ceil' of package ratio answer. Fractions: products of two words, 'Mul', 'Floor', 'Ceil' of package ratio. Fractions of the reference: numbers of two words, their greatest common divisors and quotients. Fractions of the reference: 'Div', 'Made', 'Make', 'Times', 'Floor', 'Ceil'. Numbers of 128 bits: sums, differences, comparisons; the length of a number. The quotient of a number of 128 bits by one of 64. Fractions: 'Add' of package ratio. Loops over lists: searches and tests of all elements. Fractions: 'Add', 'Valid', 'All' of the reference. Fractions: 'Sub' and 'Cmp' of both. Loops over the elements of a list, as recursions over it. Programs: both programs know the same valid ones. Systems: both programs know the same valid ones. Sums of integers, and determinants. Tables of the simplex method: integers with a common denominator, as determinants of columns. Steps of the simplex method by the rule of least indices: they never come back to a basis. Steps of the simplex method come to an end: a measure. Linear programs over the rationals: what points and multipliers prove; and what tables of the simplex method prove. How great the numbers of a program's tables may get: the product of the rows' factors. Tables of programs: how great the numbers of the artificial columns may get. Tables of numbers as lists of rows, and loops over them. Systems: the matrix of both programs. Programs: sums of numbers times fractions. Programs: which points are feasible, as the program tells it. Programs: feasible points and values, in both programs. Programs: products of two numbers, their differences and quotients. Programs: a step of the table. Elimination: a step of two products and a quotient, and tables of rows that change places. -/
import Derived.Laws.StructEq
import Derived.KernelRfl
import Derived.Test.YtlfdhaiigdllcaaGreatMgO
open Bool renaming and_self→h_,not_false→e_,not_true→bt,or_true→p_
open ByteArray renaming toList→rO
open Go.IntKind renaming wrap→aQ
open Int renaming le_refl→pH,le_trans→nE,mul_assoc→ld,mul_le_mul_of_nonneg_left→iD,mul_nonneg→ph,mul_zero→lT,natCast_mul→iS,ofNat→mK,toNat→aS
open List renaming all_eq_true→mv,append_assoc→la,append_nil→gO,getD→aT,getD_eq_getElem?_getD→c_,getElem?_append_right→mT,getElem?_eq_none→m_,getElem_mem→eX,length→aq,length_append→cL,length_cons→j_,length_map→iN,length_range→pI,length_replicate→q_,length_set→oN,range'→rD,replicate→bx,set→iF,take_of_length_le→oK
open Nat renaming add_mul→lD,add_zero→lE,ble→cl,gcd→f_,le_refl→bY,mul_comm→rW,mul_le_mul_right→qR,succ→bT,zero_add→d_
open Option.some renaming injEq→a_
open PUnit renaming unit→aC
open Prod.mk renaming injEq→dO
open Rat renaming intCast_mul→oF

namespace Go.Proofs.YtlfdhaiigdllcaaGreat
noncomputable section
open Tryz Dn Dn.Sh
set_option maxRecDepth 100000
def ny (lp:Lp) (_:Jn) (aK:AN) (ff:XS) (x0:ty0) (x1:ByteArray):Option (((List (ByteArray×Int))×List (ByteArray×(List (ByteArray×Int×Int×Int))×Bool))×Int×Unit) :=
 ah (aK x0) fun t=>cond (!t) (some (([],[]),1,aC)) (ah (ff x0.1) fun t=>lp (Bool×Int×List
  (ByteArray×Int)×PUnit) ((List (ByteArray×Int)×List (ByteArray×List (ByteArray×Int×Int×Int)×Bool))×Int×PUnit) (fun again x =>
 let v8:=aQ .i64 (x.2.1+1);
 let v9:=cl (bT (aS x.2.1)) (aq x.2.2.1);
 let v10:List (ByteArray×Int):=iF x.2.2.1 (aS x.2.1) ((aT x.2.2.1 (aS x.2.1) ({ data:={ toList:=[] } },0)).1,(0 :
  Int));cond (decide (x.2.1<(↑(aq t):Int))) (cond (inB x.2.1 (aq x.2.2.1)) (cond v9 (cond v9 (cond (List.beq (rO (aT v10
  (aS x.2.1) ({ data:={ toList:=[] } },0)).1) (rO x1)) (cond v9 (again (true,v8,iF v10 (aS x.2.1) ((aT v10
  (aS x.2.1) ({ data:={ toList:=[] } },0)).1,1),aC)) none) (again (x.1,v8,v10,aC))) none) none) none) (cond (
  !x.1) (some (([],[]),9,aC)) (some ((x.2.2.1,x0.2),0,aC)))) (false,0,t,aC))
abbrev t65:=ty0->(ByteArray)->Option (((List (ByteArray×Int))×List (ByteArray×(List (ByteArray×Int×Int×Int))×Bool))×Int×Unit)
def fx:t65:=ny lpK jnK aK ff
def c65:Ctr:=⟨[T50,.str],[],[],.tup [T50,i64],fun x _ _=>fx x.1 x.2.1⟩
theorem e65 (lp:Lp) (jn:Jn) (aK:AN) (ff:XS):∀(x:TsS c65.as) (F:TsF c65.fs) (y:TsS c65.cs),ny lp jn aK ff x.1 x.2.1=wE lp jn (cx [(105,MQ aK)] [(140,ma),(128,⟨[(.sl T79)],79,T79,fun x=>ff x.1⟩),(113,lc),(137,kS),(241,jK),(240,jA),(109,jU)]) dI 4 65 f65 c65 x F y:=fun x F y=>by kernel_rfl
theorem afJ:c65.ok prog 65:=od (aa (aV) rfl Ht) func65 (e65 lpK jnK aK ff)
def mI (_:Lp) (_:Jn) (x0:Int):Option (Int×Int) :=
 some (x0,1)
abbrev Zr:=(Int)->Option (Int×Int)
def fM:Zr:=mI lpK jnK
def Z9:Ctr:=⟨[i64],[],[],.one T38,fun x _ _=>fM x.1⟩
theorem ahm (lp:Lp) (jn:Jn):∀x F y,mI lp jn x.1=rC lp jn [] 130 f130 Z9 x F y:=fun x F y=>by kernel_rfl
theorem ac0:Z9.ok prog 130:=od (aV) func130 (ahm lpK jnK)
def nF (_:Lp) (_:Jn) (bR:Df) (bP:t29) (fM:Zr) (x0:Int) (x1:ty0):Option ((Int×Int)×Int×Unit) :=
 ah (bP x1) fun (t:(Int×Int)×Int×PUnit)=>cond (!decide (t.2.1=0)) (some ((0,0),t.2.1,aC)) (ah (fM x0)
  fun t_1=>ah (bR t_1 t.1) fun (t:(Int×Int)×Int×PUnit)=>some (t.1,t.2.1,aC))
abbrev t66:=(Int)->ty0->Option ((Int×Int)×Int×Unit)
def gq:t66:=nF lpK jnK bR bP fM
def c66:Ctr:=⟨[i64,T50],[],[],.tup [T38,i64],fun x _ _=>gq x.1 x.2.1⟩
theorem e66 (lp:Lp) (jn:Jn) (bR:Df) (bP:t29) (fM:Zr):∀x F y,nF lp jn bR bP fM x.1 x.2.1=rC lp jn [(130,⟨[i64],[],[],.one T38,fun x _ _=>fM x.1⟩),(29,k29 bP),(129,RQ bR)] 66 f66 c66 x F y:=fun x F y=>by kernel_rfl
theorem ahb:c66.ok prog 66:=od (aa (aa (aa (aV) rfl K5) rfl Xi) rfl ac0) func66 (e66 lpK jnK bR bP fM)
def lS (_:Lp) (_:Jn) (fx:t65) (gq:t66) (x0:ty0) (x1:ByteArray):Option ((Int×Int)×Int×Unit) :=
 ah (fx x0 x1) fun (t:(List (ByteArray×Int)×List (ByteArray×List (ByteArray×Int×Int×Int)×Bool))×Int×PUnit)=>cond (!decide (t.2.1=0)) (some
  ((0,0),t.2.1,aC)) (ah (gq 1 t.1) fun (t:(Int×Int)×Int×PUnit)=>some (t.1,t.2.1,aC))
abbrev t23:=ty0->(ByteArray)->Option ((Int×Int)×Int×Unit)
def dC:t23:=lS lpK jnK fx gq
def k23 (dC:t23):Ctr:=⟨[T50,.str],[],[],.tup [T38,i64],fun x _ _=>dC x.1 x.2.1⟩
def c23:Ctr:=k23 dC
theorem e23 (lp:Lp) (jn:Jn) (fx:t65) (gq:t66):∀x F y,lS lp jn fx gq x.1 x.2.1=rC lp jn [(66,⟨[i64,T50],[],[],.tup [T38,i64],fun x _ _=>gq x.1 x.2.1⟩),(65,⟨[T50,.str],[],[],.tup [T50,i64],fun x _ _=>fx x.1 x.2.1⟩)] 23 f23 c23 x F y:=fun x F y=>by kernel_rfl
theorem aeR:c23.ok prog 23:=od (aa (aa (aV) rfl afJ) rfl ahb) func23 (e23 lpK jnK fx gq)
def jy (_:Lp) (_:Jn) (ap:t68) (x0:List (ByteArray×(List (ByteArray×Int×Int×Int))×Bool)) (f0:(((ByteArray×(List (ByteArray×Int×Int×Int))×Bool)×Unit)->Option Bool)):Option Bool :=
 ah (ap x0 f0) fun t=>some (decide (t>=0))
abbrev t25:=(List (ByteArray×(List (ByteArray×Int×Int×Int))×Bool))->((((ByteArray×(List (ByteArray×Int×Int×Int))×Bool)×Unit)->Option Bool))->Option (Bool)
def bI:t25:=jy lpK jnK ap
def k25 (bI:t25):Ctr:=⟨[(.sl T63)],[([T63],.bool)],[],.one .bool,fun x F _=>bI x.1 F.1⟩
def c25:Ctr:=k25 bI
theorem e25 (lp:Lp) (jn:Jn) (ap:t68):∀x F y,jy lp jn ap x.1 F.1=rC lp jn [(68,k68 ap)] 25 f25 c25 x F y:=fun x F y=>by kernel_rfl
theorem af9:c25.ok prog 25:=od (aa (aV) rfl V9) func25 (e25 lpK jnK ap)
def ku (lp:Lp) (_:Jn) (x0:ty4) (f0:(((ByteArray×Int×Int×Int)×Unit)->Option Bool)):Option Int :=
 lp (Int×PUnit) Int (fun again x=>cond (decide (x.1<(↑(aq x0):Int))) (cond (inB x.1 (aq x0)) (ah (f0
  (aT x0 (aS x.1) ({ data:={ toList:=[] } },0,0,0),aC)) fun t=>cond t (some x.1) (again (aQ
  IntKind.i64 (x.1+1),aC))) none) (some (-1))) (0,aC)
abbrev t69:=ty4->((((ByteArray×Int×Int×Int)×Unit)->Option Bool))->Option (Int)
def cJ:t69:=ku lpK jnK
def k69 (cJ:t69):Ctr:=⟨[(.sl T66)],[([T66],.bool)],[],.one i64,fun x F _=>cJ x.1 F.1⟩
def c69:Ctr:=k69 cJ
theorem e69 (lp:Lp) (jn:Jn):∀x F y,ku lp jn x.1 F.1=rC lp jn [] 69 f69 c69 x F y:=fun x F y=>by kernel_rfl
theorem agE:c69.ok prog 69:=od (aV) func69 (e69 lpK jnK)
def jz (_:Lp) (_:Jn) (cJ:t69) (x0:ty4) (f0:(((ByteArray×Int×Int×Int)×Unit)->Option Bool)):Option Bool :=
 ah (cJ x0 f0) fun t=>some (decide (t>=0))
abbrev t27:=ty4->((((ByteArray×Int×Int×Int)×Unit)->Option Bool))->Option (Bool)
def aP:t27:=jz lpK jnK cJ
def k27 (aP:t27):Ctr:=⟨[(.sl T66)],[([T66],.bool)],[],.one .bool,fun x F _=>aP x.1 F.1⟩
def c27:Ctr:=k27 aP
theorem e27 (lp:Lp) (jn:Jn) (cJ:t69):∀x F y,jz lp jn cJ x.1 F.1=rC lp jn [(69,k69 cJ)] 27 f27 c27 x F y:=fun x F y=>by kernel_rfl
theorem abn:c27.ok prog 27:=od (aa (aV) rfl agE) func27 (e27 lpK jnK cJ)
def lk (_:Lp) (_:Jn) (bL:t12) (x0:ByteArray×Int×Int×Int):Option Bool :=
 ah (bL 1) fun t=>some !(decide (x0.2.2.1=t.1)&&(decide (x0.2.2.2=t.2)&&true))
abbrev t28:=(ByteArray×Int×Int×Int)->Option (Bool)
def eO:t28:=lk lpK jnK bL
def c28:Ctr:=⟨[T66],[],[],.one .bool,fun x _ _=>eO x.1⟩
theorem e28 (lp:Lp) (jn:Jn) (bL:t12):∀x F y,lk lp jn bL x.1=rC lp jn [(12,k12 bL)] 28 f28 c28 x F y:=fun x F y=>by kernel_rfl
theorem agn:c28.ok prog 28:=od (aa (aV) rfl ab3) func28 (e28 lpK jnK bL)
def mL (_:Lp) (_:Jn) (aP:t27) (eO:t28) (x0:ty5):Option Bool :=
 ah (aP x0.2.1 fun x=>eO x.1) fun t=>some t
abbrev t26:=ty5->Option (Bool)
def fe:t26:=mL lpK jnK aP eO
def c26:Ctr:=⟨[T63],[],[],.one .bool,fun x _ _=>fe x.1⟩
theorem e26 (lp:Lp) (jn:Jn) (aP:t27) (eO:t28):∀x F y,mL lp jn aP eO x.1=rC lp jn [(28,⟨[T66],[],[],.one .bool,fun x _ _=>eO x.1⟩),(27,k27 aP)] 26 f26 c26 x F y:=fun x F y=>by kernel_rfl
theorem aeF:c26.ok prog 26:=od (aa (aa (aV) rfl abn) rfl agn) func26 (e26 lpK jnK aP eO)
def sR (_:Lp) (_:Jn) (x0:ty5):Option Bool :=
 some x0.2.2
abbrev Xe:=ty5->Option (Bool)
def gp:Xe:=sR lpK jnK
def abt:Ctr:=⟨[T63],[],[],.one .bool,fun x _ _=>gp x.1⟩
theorem aeD (lp:Lp) (jn:Jn):∀x F y,sR lp jn x.1=rC lp jn [] 234 f234 abt x F y:=fun x F y=>by kernel_rfl
theorem aap:abt.ok prog 234:=od (aV) func234 (aeD lpK jnK)
def gW (_:Lp) (_:Jn) (x0:Int):Option (Int×Int) :=
 some (x0,1)
abbrev yK:=(Int)->Option (Int×Int)
def ax:yK:=gW lpK jnK
def J7 (ax:yK):Ctr:=⟨[i64],[],[],.one T38,fun x _ _=>ax x.1⟩
def adG:Ctr:=J7 ax
theorem af8 (lp:Lp) (jn:Jn):∀x F y,gW lp jn x.1=rC lp jn [] 201 f201 adG x F y:=fun x F y=>by kernel_rfl
theorem Ec:adG.ok prog 201:=od (aV) func201 (af8 lpK jnK)
def nk (_:Lp) (_:Jn) (ax:yK) (x0:ByteArray×Int×Int×Int):Option Bool :=
 ah (ax 1) fun t=>some !(decide (x0.2.2.1=t.1)&&(decide (x0.2.2.2=t.2)&&true))
abbrev Ym:=(ByteArray×Int×Int×Int)->Option (Bool)
def fE:Ym:=nk lpK jnK ax
def aaK:Ctr:=⟨[T66],[],[],.one .bool,fun x _ _=>fE x.1⟩
theorem ae5 (lp:Lp) (jn:Jn) (ax:yK):∀x F y,nk lp jn ax x.1=rC lp jn [(201,J7 ax)] 235 f235 aaK x F y:=fun x F y=>by kernel_rfl
theorem adP:aaK.ok prog 235:=od (aa (aV) rfl Ec) func235 (ae5 lpK jnK ax)
def ql (lp:Lp) (_:Jn) (ap:t68) (aK:AN) (aP:t27) (gp:Xe) (fE:Ym) (x0:ty0):Option (Int×Int×Unit) :=
 ah (aK x0) fun t=>cond (!t) (some (0,1,aC)) (ah (ap x0.2 fun x=>gp x.1) fun t=>cond (decide (t<0)) (some (0,12,aC)) (lp (Int×PUnit) (Int×Int×PUnit) (fun
  again x =>
 let v7:=!decide (x.1=t);
 let v8:=!v7||v7;cond (decide (x.1<(↑(aq x0.2):Int))) (cond (inB x.1 (aq x0.2)) (cond v8 (cond v8 (ah (cond v7 (
  aP (aT x0.2 (aS x.1) ({ data:={ toList:=[] } },[],false)).2.1 fun x=>fE x.1) (some false)) fun t=>cond v8 (cond (cond v7 t false) (some (0,11,aC)) (again (aQ .i64 (x.1+1),
  aC))) none) none) none) none) (some (t,0,aC))) (0,aC)))
abbrev Yj:=ty0->Option (Int×Int×Unit)
def gU:Yj:=ql lpK jnK ap aK aP gp fE
def aev:Ctr:=⟨[T50],[],[],.tup [i64,i64],fun x _ _=>gU x.1⟩
theorem af7 (lp:Lp) (jn:Jn) (ap:t68) (aK:AN) (aP:t27) (gp:Xe) (fE:Ym):∀x F y,ql lp jn ap aK aP gp fE x.1=rC lp jn [(235,⟨[T66],[],[],.one .bool,fun x _ _=>fE x.1⟩),(234,⟨[T63],[],[],.one .bool,fun x _ _=>gp x.1⟩),(27,k27 aP),(105,MQ aK),(68,k68 ap)] 197 f197 aev x F y:=fun x F y=>by kernel_rfl
theorem aa3:aev.ok prog 197:=od (aa (aa (aa (aa (aa (aV) rfl V9) rfl Ht) rfl abn) rfl aap) rfl adP) func197 (af7 lpK jnK ap aK aP gp fE)
def vw (_:Lp) (_:Jn) (aE:t94) (x0:Int×Int):Option Bool :=
 ah (aE x0) fun t =>
 let v4:=!t||t;
 let v5:=cond t (decide (x0.1>=x0.2)) false;
 let v6:=!v5||v5;cond v4 (cond v4 (cond (v4&&v4) (cond v4 (cond v6 (cond v6 (cond v6 (some (cond v5 (decide (x0.1<=100)) false)) none) none) none) none) none) none) none
abbrev X0:=(Int×Int)->Option (Bool)
def iu:X0:=vw lpK jnK aE
def aal:Ctr:=⟨[T38],[],[],.one .bool,fun x _ _=>iu x.1⟩
theorem aeY (lp:Lp) (jn:Jn) (aE:t94):∀x F y,vw lp jn aE x.1=rC lp jn [(94,k94 aE)] 236 f236 aal x F y:=fun x F y=>by kernel_rfl
theorem aaE:aal.ok prog 236:=od (aa (aV) rfl Jf) func236 (aeY lpK jnK aE)
def pQ (lp:Lp) (jn:Jn) (aO:t47) (bR:Df) (ax:yK) (iu:X0) (x0:ty5) (x1:Bool):Option ((List (Int×Int))×Int×Unit) :=
 
 let v4:=aQ .i64 ((↑(aq x0.2.1):Int) - 1);
 let v5:=decide ((↑(aq x0.2.1):Int)<2);
 let v6:=!v5;cond (!v6||v6) (cond (v5||v6) (cond (cond v5 true (decide ((↑(aq x0.2.1):Int)>10))) (some ([],1,aC)) (
  ah (ax 1) fun t=>lp (List (Int×Int)×Int×PUnit) (List (Int×Int)×Int×PUnit) (fun again x =>
 let v10:=aQ .i64 (x.2.1 - 1);
 let v11:Int×PUnit:=(aQ .i64 (x.2.1+1),aC);
 let v12:=decide (x.2.1=0);
 let v13:=!v12;
 let v14:=inB v10 (aq x.1);
 let v15:=cl (bT (aS v10)) (aq x.1);
 let v16:=aT x.1 (aS v10) (0,0);
 let v17:=cond v12 true (decide (x.2.1=v4));
 let v18:=!v13||v13;
 let v19:=!v17||v17;cond (decide (x.2.1<(↑(aq x0.2.1):Int))) (cond (inB x.2.1 (aq x0.2.1)) (cond v18 (cond (v18&&v18) (cond (v12 ||
  v13) (cond v19 (ah (cond v17 (ax 1) (some (0,0))) fun t =>
 let v21:=cond v17 (!(decide ((aT x0.2.1 (aS x.2.1) ({ data:={ toList:=[] } },0,0,0)).2.2.1=t.1)&&(decide
  ((aT x0.2.1 (aS x.2.1) ({ data:={ toList:=[] } },0,0,0)).2.2.2=t.2)&&true))) false;
 let v22:=!v21;
 let v23:=!v22||v22;cond (v19&&v19) (cond v19 (cond v23 (cond v23 (ah (cond v22 (iu (aT x0.2.1 (aS x.2.1) ({ data:={ toList
  :=[] } },0,0,0)).2.2) (some false)) fun t=>cond v23 (cond (v21||v22) (cond (cond v21 true (!t)) (some ([],1,
  aC)) (cond v17 (again (x.1,v11)) (cond v14 (cond v15 (ah (aO v16 (aT x0.2.1 (aS x.2.1) ({ data:={ toList:=[] } },(0 :
  Int),0,0)).2.2) fun (t:(Int×Int)×Int×PUnit)=>jn (Int×(Int×Int)×PUnit) (List (Int×Int)×Int×PUnit) (fun x_1 =>
  cond (!decide (x_1.1=0)) (some ([],x_1.1,aC)) (cond (dS (aq x.1+1) 16) (again (x.1++[x_1.2.1],v11)) none)) fun j=>cond (!x1) (cond v14 (cond v15 (ah (bR v16 (aT x0.2.1 (aS x.2.1) ({ data
  :={ toList:=[] } },0,0,0)).2.2) fun (t:(Int×Int)×Int×PUnit)=>j (t.2.1,t.1,aC)) none) none) (j (t.2.1,t.1,
  aC))) none) none))) none) none) none) none) none) none) none) none) none) none) none) (some (x.1,0,aC)))
  ([t],0,aC))) none) none
abbrev TO:=ty5->(Bool)->Option ((List (Int×Int))×Int×Unit)
def fP:TO:=pQ lpK jnK aO bR ax iu
def ad9 (fP:TO):Ctr:=⟨[T63,.bool],[],[],.tup [(.sl T38),i64],fun x _ _=>fP x.1 x.2.1⟩
def acL:Ctr:=ad9 fP
theorem agM (lp:Lp) (jn:Jn) (aO:t47) (bR:Df) (ax:yK) (iu:X0):∀x F y,pQ lp jn aO bR ax iu x.1 x.2.1=rC lp jn [(236,⟨[T38],[],[],.one .bool,fun x _ _=>iu x.1⟩),(201,J7 ax),(129,RQ bR),(47,k47 aO)] 198 f198 acL x F y:=fun x F y=>by kernel_rfl
theorem abW:acL.ok prog 198:=od (aa (aa (aa (aa (aV) rfl Kc) rfl K5) rfl Ec) rfl aaE) func198 (agM lpK jnK aO bR ax iu)
def qk (lp:Lp) (jn:Jn) (aO:t47) (cQ:t95) (ax:yK) (x0:ty0) (x1:ty5) (x2:List (Int×Int)):Option ((List (Int×Int))×Int×Unit) :=
 
 let v5:=aQ .i64 ((↑(aq x2):Int) - 1);
 let v6:=aQ .i64 ((↑(aq x1.2.1):Int) - 1);lp (List (Int×Int)×Int×PUnit) (List (Int×Int)×Int×PUnit) (fun again x=>cond (decide (x.2.1<(↑(aq x0.1):Int))) (cond (inB x.2.1
  (aq x0.1)) (ah (ax 0) fun t=>lp (Int×(Int×Int)×PUnit) (List (Int×Int)×Int×PUnit) (fun again_1 x_1 =>
 let v12:=aQ .i64 (x_1.1+1);
 let v13:=aQ .i64 (x_1.1 - 1);
 let v14:=decide (x_1.1>0);
 let v15:Int:=if v5<x_1.1 then v5 else x_1.1;
 let v16:=!v14||v14;
 let v17:=aT x1.2.1 (aS x_1.1) ({ data:={ toList:=[] } },0,0,0);cond (decide (x_1.1<(↑(aq
  x1.2.1):Int))) (cond (inB x_1.1 (aq x1.2.1)) (cond (!List.beq (rO v17.1) (rO (aT x0.1 (aS x.2.1) ({ data:={
  toList:=[] } },0)).1)) (again_1 (v12,x_1.2.1,aC)) (cond (inB v15 (aq x2)) (cond v16 (cond v16 (cond v16 (cond (v16&&v16) (cond v16 (jn (Int×Int×(Int×Int)×PUnit) (List (Int×Int)×Int×PUnit) (fun x=>cond (!decide (x.2.1=0)) (some ([],x.2.1,
  aC)) (ah (ax x.1) fun t=>ah (aO t x.2.2.1) fun (t:(Int×Int)×Int×PUnit)=>cond (!decide (t.2.1=0)) (some
  ([],t.2.1,aC)) (ah (cQ x_1.2.1 t.1) fun (t:(Int×Int)×Int×PUnit)=>cond (!decide (t.2.1=0)) (some ([],t.2.1,aC)) (again_1 (v12,t.1,aC))))) fun j=>cond (cond v14 (decide (x_1.1<v6)) false) (cond (
  inB v13 (aq x2)) (cond (inB x_1.1 (aq x2)) (ah (cQ (aT x2 (aS v13) (0,0)) (aT x2 (aS x_1.1) (0,
  0))) fun (t:(Int×Int)×Int×PUnit)=>j (aQ .i64 (Int.tdiv v17.2.1 2),t.2.1,t.1,aC)) none) none) (j (v17.2.1,
  0,aT x2 (aS v15) (0,0),aC))) none) none) none) none) none) none)) none) (cond (dS (aq x.1+(1 :
  Nat)) 16) (again (x.1++[x_1.2.1],aQ .i64 (x.2.1+1),aC)) none)) (0,t,aC)) none) (some (x.1,(0 :
  Int),aC))) ([],0,aC)
abbrev TE:=ty0->ty5->(List (Int×Int))->Option ((List (Int×Int))×Int×Unit)
def fL:TE:=qk lpK jnK aO cQ ax
def ZI (fL:TE):Ctr:=⟨[T50,T63,(.sl T38)],[],[],.tup [(.sl T38),i64],fun x _ _=>fL x.1 x.2.1 x.2.2.1⟩
def abq:Ctr:=ZI fL
theorem afU (lp:Lp) (jn:Jn) (aO:t47) (cQ:t95) (ax:yK):∀x F y,qk lp jn aO cQ ax x.1 x.2.1 x.2.2.1=rC lp jn [(201,J7 ax),(95,k95 cQ),(47,k47 aO)] 199 f199 abq x F y:=fun x F y=>by kernel_rfl
theorem acR:abq.ok prog 199:=od (aa (aa (aa (aV) rfl Kc) rfl Zd) rfl Ec) func199 (afU lpK jnK aO cQ ax)
def lM (lp:Lp) (_:Jn) (x0:List Int) (x1:Int):Option Int :=
 lp (Int×PUnit) Int (fun again x=>cond (decide (x.1<(↑(aq x0):Int))) (cond (inB x.1 (aq x0)) (cond (decide (x1 =
  aT x0 (aS x.1) 0)) (some x.1) (again (aQ .i64 (x.1+1),aC))) none) (some (-1))) (0,aC)
abbrev W7:=(List Int)->(Int)->Option (Int)
def eG:W7:=lM lpK jnK
def aef:Ctr:=⟨[(.sl i64),i64],[],[],.one i64,fun x _ _=>eG x.1 x.2.1⟩
theorem afS (lp:Lp) (jn:Jn):∀x F y,lM lp jn x.1 x.2.1=rC lp jn [] 204 f204 aef x F y:=fun x F y=>by kernel_rfl
theorem aaR:aef.ok prog 204:=od (aV) func204 (afS lpK jnK)
def kz (_:Lp) (_:Jn) (eG:W7) (x0:List Int) (x1:Int):Option Bool :=
 ah (eG x0 x1) fun t=>some (decide (t>=0))
abbrev Vk:=(List Int)->(Int)->Option (Bool)
def cI:Vk:=kz lpK jnK eG
def adi (cI:Vk):Ctr:=⟨[(.sl i64),i64],[],[],.one .bool,fun x _ _=>cI x.1 x.2.1⟩
def aa1:Ctr:=adi cI
theorem af1 (lp:Lp) (jn:Jn) (eG:W7):∀x F y,kz lp jn eG x.1 x.2.1=rC lp jn [(204,⟨[(.sl i64),i64],[],[],.one i64,fun x _ _=>eG x.1 x.2.1⟩)] 136 f136 aa1 x F y:=fun x F y=>by kernel_rfl
theorem abE:aa1.ok prog 136:=od (aa (aV) rfl aaR) func136 (af1 lpK jnK eG)
def rE (lp:Lp) (_:Jn) (bQ:Hg) (be:HY) (cR:Gs) (cI:Vk) (bB:Md) (x0:List (List Int)):Option ((List (List (Int×Int)))×Int×Unit) :=
 ah (bQ x0) fun t=>cond (!t) (some ([],1,aC)) (cond (inB 0 (aq x0)) (ah (be x0 (↑(aq (aT x0
  0 [])):Int)) fun t=>lp (List (List (Int×Int))×Int×PUnit) (List (List (Int×Int))×Int×PUnit) (fun again x =>
 let v7:Int×PUnit:=(aQ .i64 (x.2.1+1),aC);cond (decide (x.2.1<(↑(aq (aT x0 0 [])):Int))) (ah
  (cI t.2.2.1 x.2.1) fun t_1=>cond t_1 (again (x.1,v7)) (ah (bB [(0,1)] (↑(aq (aT x0 (0 :
  Nat) [])):Int)) fun t_2=>cond (inB x.2.1 (aq t_2)) (cond (cl (bT (aS x.2.1)) (aq t_2)) (lp (Int×List (Int×Int)
  × PUnit) (List (List (Int×Int))×Int×PUnit) (fun again_1 x_1 =>
 let v12:=aT t.1 (aS x_1.1) [];
 let v13:=aT t.2.2.1 (aS x_1.1) 0;cond (decide (x_1.1<(↑(aq t.2.2.1):Int))) (cond (inB x_1.1 (aq t.2.2.1)) (
  cond (inB x_1.1 (aq t.1)) (cond (inB x.2.1 (aq v12)) (ah (cR (aQ .i64 (0 - aT v12 (aS x.2.1) (0 :
  Int))) t.2.1) fun (t:(Int×Int)×Int×PUnit)=>cond (!decide (t.2.1=0)) (some ([],t.2.1,aC)) (cond (inB v13 (aq x_1.2.1)) (cond (
  cl (bT (aS v13)) (aq x_1.2.1)) (again_1 (aQ .i64 (x_1.1+1),iF x_1.2.1 (aS v13) t.1,aC)) none) none)) none) none) none) (cond (dS (aq x.1+1) 24) (again (x.1++[x_1.2.1],v7)) none)) (0,iF t_2
  (aS x.2.1) (1,1),aC)) none) none)) (some (x.1,0,aC))) ([],0,aC)) none)
abbrev t73:=(List (List Int))->Option ((List (List (Int×Int)))×Int×Unit)
def bJ:t73:=rE lpK jnK bQ be cR cI bB
def k73 (bJ:t73):Ctr:=⟨[(.sl (.sl i64))],[],[],.tup [(.sl (.sl T38)),i64],fun x _ _=>bJ x.1⟩
def c73:Ctr:=k73 bJ
theorem e73 (lp:Lp) (jn:Jn) (bQ:Hg) (be:HY) (cR:Gs) (cI:Vk) (bB:Md):∀(x:TsS c73.as) (F:TsF c73.fs) (y:TsS c73.cs),rE lp jn bQ be cR cI bB x.1=wE lp jn (cx [(136,adi cI),(111,U0 cR),(110,UH be),(107,Uf bQ)] [(140,ma),(128,lu),(113,lc),(137,XL bB),(241,jK),(240,jA),(109,jU)]) dI 4 73 f73 c73 x F y:=fun x F y=>by kernel_rfl
theorem Zw:c73.ok prog 73:=od (aa (aa (aa (aa (aV) rfl RV) rfl Pj) rfl Pw) rfl abE) func73 (e73 lpK jnK bQ be cR cI bB)
def nz (lp:Lp) (_:Jn) (aB:t57) (ax:yK) (bJ:t73) (bB:Md) (x0:ty0) (x1:Int):Option ((List (List (Int×Int)))×Int×Unit) :=
 cond (decide ((↑(aq x0.2):Int)=1)) (lp (List (List (Int×Int))×Int×PUnit) (List (List (Int×Int))×Int×PUnit) (fun again x=>cond (decide (x.2.1<(↑(aq x0.1):Int))) (ah (ax (0
  : Int)) fun t=>ah (bB [t] (↑(aq x0.1):Int)) fun t=>ah (ax 1) fun t_1=>cond (inB
  x.2.1 (aq t)) (cond (cl (bT (aS x.2.1)) (aq t)) (cond (dS (aq x.1+1) 24) (again (x.1++[iF t
  (aS x.2.1) t_1],aQ .i64 (x.2.1+1),aC)) none) none) none) (some (x.1,0,aC))) ([],0,
  aC)) (ah (aB x0) fun (t:List (List Int)×Int×PUnit)=>cond (!decide (t.2.1=0)) (some ([],t.2.1,aC)) (lp ((List Nat×List
  (Option (List Int)))×Int×PUnit) (List (List (Int×Int))×Int×PUnit) (fun again x =>
 let v7:Int×PUnit:=(aQ .i64 (x.2.1+1),aC);cond (decide (x.2.1<(↑(aq x0.2):Int))) (cond (decide (x.2.1=x1)) (again
  (x.1,v7)) (lp (List Int×Int×PUnit) (List (List (Int×Int))×Int×PUnit) (fun again_1 x_1 =>
 let v10:=aT t.1 (aS x_1.2.1) [];cond (decide (x_1.2.1<(↑(aq x0.1):Int))) (cond (inB x_1.2.1 (aq t.1)) (cond (inB
  x.2.1 (aq v10)) (cond (dS (aq x_1.1+1) 8) (again_1 (x_1.1++[aT v10 (aS x.2.1) 0],aQ .i64
  (x_1.2.1+1),aC)) none) none) none) (cond (dS (aq x.1.1+1) 24) (again ((x.1.1++[aq x.1.2+(0 :
  Nat)],x.1.2++[some x_1.1]),v7)) none)) ([],0,aC))) (ah (cond (List.all x.1.1 fun x_1=>fK x.1.2 x_1) (bJ (List.map (fun
  x_1=>bD x.1.2 x_1) x.1.1)) none) fun (t:List (List (Int×Int))×Int×PUnit)=>some (t.1,t.2.1,aC))) (([],[]),0,aC)))
abbrev VT:=ty0->(Int)->Option ((List (List (Int×Int)))×Int×Unit)
def dV:VT:=nz lpK jnK aB ax bJ bB
def ac3 (dV:VT):Ctr:=⟨[T50,i64],[],[],.tup [(.sl (.sl T38)),i64],fun x _ _=>dV x.1 x.2.1⟩
def QF:Ctr:=ac3 dV
theorem aeK (lp:Lp) (jn:Jn) (aB:t57) (ax:yK) (bJ:t73) (bB:Md):∀(x:TsS QF.as) (F:TsF QF.fs) (y:TsS QF.cs),nz lp jn aB ax bJ bB x.1 x.2.1=wE lp jn (cx [(73,k73 bJ),(201,J7 ax),(57,k57 aB)] [(140,ma),(128,lu),(113,lc),(137,XL bB),(241,jK),(240,jA),(109,jU)]) dI 4 200 f200 QF x F y:=fun x F y=>by kernel_rfl
theorem ab6:QF.ok prog 200:=od (aa (aa (aa (aV) rfl Od) rfl Ec) rfl Zw) func200 (aeK lpK jnK aB ax bJ bB)
def ue (lp:Lp) (_:Jn) (aO:t47) (cQ:t95) (ax:yK) (x0:List (Int×Int)) (x1:List (Int×Int)):Option ((Int×Int)×Int×Unit) :=
 ah (ax 0) fun t=>lp (Int×(Int×Int)×(Int×Int)×PUnit) ((Int×Int)×Int×PUnit) (fun again x=>cond (decide (x.1<(↑(aq x0):Int))) (cond (inB x.1 (aq x0)) (cond (inB x.1
  (aq x1)) (ah (aO (aT x0 (aS x.1) (0,0)) (aT x1 (aS x.1) (0,0))) fun (t:(Int×Int)×Int ×
  PUnit)=>cond (!decide (t.2.1=0)) (some ((0,0),t.2.1,aC)) (ah (cQ x.2.2.1 t.1) fun (t:(Int×Int)×Int×PUnit) =>
  cond (!decide (t.2.1=0)) (some ((0,0),t.2.1,aC)) (again (aQ .i64 (x.1+1),x.2.1,t.1,aC)))) none) none) (some (x.2.2.1,0,aC))) (0,(0,0),t,aC)
abbrev Uw:=(List (Int×Int))->(List (Int×Int))->Option ((Int×Int)×Int×Unit)
def ef:Uw:=ue lpK jnK aO cQ ax
def adq (ef:Uw):Ctr:=⟨[(.sl T38),(.sl T38)],[],[],.tup [T38,i64],fun x _ _=>ef x.1 x.2.1⟩
def ack:Ctr:=adq ef
theorem aga (lp:Lp) (jn:Jn) (aO:t47) (cQ:t95) (ax:yK):∀x F y,ue lp jn aO cQ ax x.1 x.2.1=rC lp jn [(201,J7 ax),(95,k95 cQ),(47,k47 aO)] 202 f202 ack x F y:=fun x F y=>by kernel_rfl
theorem aar:ack.ok prog 202:=od (aa (aa (aa (aV) rfl Kc) rfl Zd) rfl Ec) func202 (aga lpK jnK aO cQ ax)
def kM (_:Lp) (_:Jn) (x0:Int×Int):Option Bool :=
 some !decide (x0.1=0)
abbrev YY:=(Int×Int)->Option (Bool)
def dE:YY:=kM lpK jnK
def Z5:Ctr:=⟨[T38],[],[],.one .bool,fun x _ _=>dE x.1⟩
theorem afh (lp:Lp) (jn:Jn):∀x F y,kM lp jn x.1=rC lp jn [] 238 f238 Z5 x F y:=fun x F y=>by kernel_rfl
theorem aaL:Z5.ok prog 238:=od (aV) func238 (afh lpK jnK)
def lO (_:Lp) (_:Jn) (aU:t62) (dE:YY) (x0:List (Int×Int)):Option Int :=
 ah (aU x0 fun x=>dE x.1) fun t=>some t
abbrev Yf:=(List (Int×Int))->Option (Int)
def dZ:Yf:=lO lpK jnK aU dE
def aaV:Ctr:=⟨[(.sl T38)],[],[],.one i64,fun x _ _=>dZ x.1⟩
theorem afF (lp:Lp) (jn:Jn) (aU:t62) (dE:YY):∀x F y,lO lp jn aU dE x.1=rC lp jn [(238,⟨[T38],[],[],.one .bool,fun x _ _=>dE x.1⟩),(62,k62 aU)] 237 f237 aaV x F y:=fun x F y=>by kernel_rfl
theorem acY:aaV.ok prog 237:=od (aa (aa (aV) rfl aad) rfl aaL) func237 (afF lpK jnK aU dE)
def nJ (lp:Lp) (_:Jn) (aO:t47) (bR:Df) (dZ:Yf) (x0:List (Int×Int)) (x1:List (Int×Int)):Option ((Int×Int)×Int×Unit) :=
 ah (dZ x1) fun t=>cond (decide (t<0)) (ah (dZ x0) fun t=>cond (decide (t<0)) (some ((0,0),(21 :
  Int),aC)) (some ((0,0),22,aC))) (cond (inB t (aq x0)) (cond (inB t (aq x1)) (ah (bR (aT x0
  (aS t) (0,0)) (aT x1 (aS t) (0,0))) fun (t:(Int×Int)×Int×PUnit)=>cond (!decide (t.2.1=0)) (some (((0 :
  Int),0),t.2.1,aC)) (lp (Bool×Int×(Int×Int)×PUnit) ((Int×Int)×Int×PUnit) (fun again x =>
 let v8:=!x.1;
 let v9:Bool:=v8||x.1;
 let v10:=aT x0 (aS x.2.1) (0,0);cond (decide (x.2.1<(↑(aq x1):Int))) (cond (inB x.2.1 (aq x1)) (ah
  (aO (aT x1 (aS x.2.1) (0,0)) t.1) fun (t:(Int×Int)×Int×PUnit)=>cond (!decide (t.2.1=0)) (some ((0,(0 :
  Int)),t.2.1,aC)) (cond (v9&&(v9&&(v8||inB x.2.1 (aq x0)))) (cond v9 (cond (v9&&v9) (cond v9 (again (cond x.1 (decide (t.1.1 =
  v10.1)&&(decide (t.1.2=v10.2)&&true)) false,aQ .i64 (x.2.1+1),x.2.2.1,aC)) none) none) none) none)) none) (cond v8 (some ((0,0),22,aC)) (cond (decide (t.1.1<0)) (some ((0,0),13,aC)) (some
  (t.1,0,aC))))) (true,0,(0,0),aC))) none) none)
abbrev UK:=(List (Int×Int))->(List (Int×Int))->Option ((Int×Int)×Int×Unit)
def dW:UK:=nJ lpK jnK aO bR dZ
def aec (dW:UK):Ctr:=⟨[(.sl T38),(.sl T38)],[],[],.tup [T38,i64],fun x _ _=>dW x.1 x.2.1⟩
def ab5:Ctr:=aec dW
theorem ahC (lp:Lp) (jn:Jn) (aO:t47) (bR:Df) (dZ:Yf):∀x F y,nJ lp jn aO bR dZ x.1 x.2.1=rC lp jn [(237,⟨[(.sl T38)],[],[],.one i64,fun x _ _=>dZ x.1⟩),(129,RQ bR),(47,k47 aO)] 203 f203 ab5 x F y:=fun x F y=>by kernel_rfl
theorem adn:ab5.ok prog 203:=od (aa (aa (aa (aV) rfl Kc) rfl K5) rfl acY) func203 (ahC lpK jnK aO bR dZ)
def qg (lp:Lp) (_:Jn) (ax:yK) (gU:Yj) (fP:TO) (fL:TE) (dV:VT) (ef:Uw) (dW:UK) (x0:ty0) (x1:Bool):Option ((Int×Int)×(List (Int×Int))×Int×Unit) :=
 ah (gU x0) fun (t:Int×Int×PUnit) =>
 let v5:=aT x0.2 (aS t.1) ({ data:={ toList:=[] } },[],false);cond (!decide (t.2.1=0)) (
  some ((0,0),[],t.2.1,aC)) (cond (inB t.1 (aq x0.2)) (ah (fP v5 x1) fun (t_1:List (Int×Int)×Int×PUnit)=>cond (
  !decide (t_1.2.1=0)) (some ((0,0),[],t_1.2.1,aC)) (ah (fL x0 v5 t_1.1) fun (t_2:List (Int×Int)×Int×PUnit) =>
  cond (!decide (t_2.2.1=0)) (some ((0,0),[],t_2.2.1,aC)) (ah (dV x0 t.1) fun (t:List (List (Int×Int))×Int ×
  PUnit)=>cond (!decide (t.2.1=0)) (some ((0,0),[],t.2.1,aC)) (lp (List (Int×Int)×Int×PUnit) ((Int×Int)×List (Int×Int) ×
  Int×PUnit) (fun again x=>cond (decide (x.2.1 <
  (↑(aq x0.1):Int))) (cond (inB x.2.1 (aq x0.1)) (ah (ax (aT x0.1 (aS x.2.1) ({ data:={ toList:=[] } },(0 :
  Int))).2) fun t=>cond (dS (aq x.1+1) 16) (again (x.1++[t],aQ .i64 (x.2.1+1),aC)) none) none) (lp (List (Int×Int)×List (Int×Int)×Int×(Int×Int)×PUnit) ((Int×Int)×List (Int×Int)×Int×PUnit) (fun again x_1 =>
 let v13:=aT t.1 (aS x_1.2.2.1) [];cond (decide (x_1.2.2.1<(↑(aq t.1):Int))) (cond (inB x_1.2.2.1 (aq t.1)) (ah (ef v13 x.1) fun (t:(Int×Int)×Int×PUnit)=>cond (!decide (t.2.1=0)) (some ((0,0),[],t.2.1,aC)) (ah
  (ef v13 t_2.1) fun (t_3:(Int×Int)×Int×PUnit)=>cond (!decide (t_3.2.1=0)) (some ((0,0),[],t_3.2.1,aC)) (cond (dS
  (aq x_1.1+1) 16) (cond (dS (aq x_1.2.1+1) 16) (again (x_1.1++[t.1],x_1.2.1++[t_3.1],aQ
  IntKind.i64 (x_1.2.2.1+1),x_1.2.2.2.1,aC)) none) none))) none) (ah (dW x_1.1 x_1.2.1) fun (t:(Int×Int)×Int ×
  PUnit)=>some (t.1,t_1.1,t.2.1,aC))) ([],[],0,(0,0),aC))) ([],0,aC))))) none)
abbrev Vm:=ty0->(Bool)->Option ((Int×Int)×(List (Int×Int))×Int×Unit)
def fQ:Vm:=qg lpK jnK ax gU fP fL dV ef dW
def abU (fQ:Vm):Ctr:=⟨[T50,.bool],[],[],.tup [T38,(.sl T38),i64],fun x _ _=>fQ x.1 x.2.1⟩
def aaf:Ctr:=abU fQ
theorem agR (lp:Lp) (jn:Jn) (ax:yK) (gU:Yj) (fP:TO) (fL:TE) (dV:VT) (ef:Uw) (dW:UK):∀x F y,qg lp jn ax gU fP fL dV ef dW x.1 x.2.1=rC lp jn [(203,aec dW),(202,adq ef),(200,ac3 dV),(199,ZI fL),(198,ad9 fP),(197,⟨[T50],[],[],.tup [i64,i64],fun x _ _=>gU x.1⟩),(201,J7 ax)] 135 f135 aaf x F y:=fun x F y=>by kernel_rfl
theorem aat:aaf.ok prog 135:=od (aa (aa (aa (aa (aa (aa (aa (aV) rfl Ec) rfl aa3) rfl abW) rfl acR) rfl ab6) rfl aar) rfl adn) func135 (agR lpK jnK ax gU fP fL dV ef dW)
def pV (_:Lp) (_:Jn) (aO:t47) (fQ:Vm) (x0:ty0) (x1:Bool):Option ((Int×Int)×Int×Unit) :=
 ah (fQ x0 x1) fun (t:(Int×Int)×List (Int×Int)×Int×PUnit) =>
 let v5:=aQ .i64 ((↑(aq t.2.1):Int) - 1);cond (!decide (t.2.2.1=0)) (some ((0,0),t.2.2.1,
  aC)) (cond (inB v5 (aq t.2.1)) (ah (aO t.1 (aT t.2.1 (aS v5) (0,0))) fun (t:(Int×Int)×Int×PUnit)=>some
  (t.1,t.2.1,aC)) none)
abbrev t71:=ty0->(Bool)->Option ((Int×Int)×Int×Unit)
def dt:t71:=pV lpK jnK aO fQ
def k71 (dt:t71):Ctr:=⟨[T50,.bool],[],[],.tup [T38,i64],fun x _ _=>dt x.1 x.2.1⟩
def c71:Ctr:=k71 dt
theorem e71 (lp:Lp) (jn:Jn) (aO:t47) (fQ:Vm):∀x F y,pV lp jn aO fQ x.1 x.2.1=rC lp jn [(135,abU fQ),(47,k47 aO)] 71 f71 c71 x F y:=fun x F y=>by kernel_rfl
theorem acp:c71.ok prog 71:=od (aa (aa (aV) rfl Kc) rfl aat) func71 (e71 lpK jnK aO fQ)
def qp (_:Lp) (_:Jn) (dt:t71) (x0:ty0):Option ((Int×Int)×Int×Unit) :=
 ah (dt x0 true) fun (t:(Int×Int)×Int×PUnit)=>some (t.1,t.2.1,aC)
abbrev t30:=ty0->Option ((Int×Int)×Int×Unit)
def gP:t30:=qp lpK jnK dt
def c30:Ctr:=⟨[T50],[],[],.tup [T38,i64],fun x _ _=>gP x.1⟩
theorem e30 (lp:Lp) (jn:Jn) (dt:t71):∀x F y,qp lp jn dt x.1=rC lp jn [(71,k71 dt)] 30 f30 c30 x F y:=fun x F y=>by kernel_rfl
theorem aht:c30.ok prog 30:=od (aa (aV) rfl acp) func30 (e30 lpK jnK dt)
def pO (_:Lp) (_:Jn) (dt:t71) (x0:ty0):Option ((Int×Int)×Int×Unit) :=
 ah (dt x0 false) fun (t:(Int×Int)×Int×PUnit)=>some (t.1,t.2.1,aC)
abbrev t31:=ty0->Option ((Int×Int)×Int×Unit)
def gS:t31:=pO lpK jnK dt
def c31:Ctr:=⟨[T50],[],[],.tup [T38,i64],fun x _ _=>gS x.1⟩
theorem e31 (lp:Lp) (jn:Jn) (dt:t71):∀x F y,pO lp jn dt x.1=rC lp jn [(71,k71 dt)] 31 f31 c31 x F y:=fun x F y=>by kernel_rfl
theorem afN:c31.ok prog 31:=od (aa (aV) rfl acp) func31 (e31 lpK jnK dt)
def qW (_:Lp) (_:Jn) (x0:ty5):Option Bool :=
 some x0.2.2
abbrev t32:=ty5->Option (Bool)
def gE:t32:=qW lpK jnK
def c32:Ctr:=⟨[T63],[],[],.one .bool,fun x _ _=>gE x.1⟩
theorem e32 (lp:Lp) (jn:Jn):∀x F y,qW lp jn x.1=rC lp jn [] 32 f32 c32 x F y:=fun x F y=>by kernel_rfl
theorem afY:c32.ok prog 32:=od (aV) func32 (e32 lpK jnK)
def nR (_:Lp) (_:Jn) (dL:t72) (bJ:t73) (x0:ty0):Option ((List (List (Int×Int)))×Int×Unit) :=
 ah (dL x0) fun (t:List (List Int)×Int×PUnit)=>cond (!decide (t.2.1=0)) (some ([],t.2.1,aC)) (ah (bJ t.1) fun (t:List
  (List (Int×Int))×Int×PUnit)=>some (t.1,t.2.1,aC))
abbrev t33:=ty0->Option ((List (List (Int×Int)))×Int×Unit)
def gD:t33:=nR lpK jnK dL bJ
def c33:Ctr:=⟨[T50],[],[],.tup [(.sl (.sl T38)),i64],fun x _ _=>gD x.1⟩
theorem e33 (lp:Lp) (jn:Jn) (dL:t72) (bJ:t73):∀x F y,nR lp jn dL bJ x.1=rC lp jn [(73,k73 bJ),(72,k72 dL)] 33 f33 c33 x F y:=fun x F y=>by kernel_rfl
theorem ag2:c33.ok prog 33:=od (aa (aa (aV) rfl aah) rfl Zw) func33 (e33 lpK jnK dL bJ)
def rZ (lp:Lp) (_:Jn) (aB:t57) (x0:ty0):Option (((List Int)×List (List Int))×Int×Unit) :=
 ah (aB x0) fun (t:List (List Int)×Int×PUnit)=>cond (!decide (t.2.1=0)) (some (([],[]),t.2.1,aC)) (lp (Int×List Int×(List Nat ×
  List (Option (List Int)))×PUnit) ((List Int×List (List Int))×Int×PUnit) (fun again x =>
 let v6:=aQ .i64 (x.1+1);cond (decide (x.1<(↑(aq x0.2):Int))) (cond (inB x.1 (aq x0.2)) (cond ((aT x0.2
  (aS x.1) ({ data:={ toList:=[] } },[],false)).2.2) (again (v6,x.2.1,x.2.2.1,aC)) (lp (List Int×Int×PUnit) ((List Int×List (List Int))
  × Int×PUnit) (fun again_1 x_1 =>
 let v9:=aT t.1 (aS x_1.2.1) [];cond (decide (x_1.2.1<(↑(aq t.1):Int))) (cond (inB x_1.2.1 (aq t.1)) (cond (inB x.1
  (aq v9)) (cond (dS (aq x_1.1+1) 8) (again_1 (x_1.1++[aT v9 (aS x.1) 0],aQ .i64 (x_1.2.1 +
  1),aC)) none) none) none) (cond (dS (aq x.2.1+1) 8) (cond (dS (aq x.2.2.1.1+1) 24) (again (v6,x.2.1++[x.1],(x.2.2.1.1++[aq x.2.2.1.2+0],x.2.2.1.2++[some x_1.1]),aC)) none) none)) ([],(0 :
  Int),aC))) none) (cond (List.all x.2.2.1.1 fun x_1=>fK x.2.2.1.2 x_1) (some ((x.2.1,List.map (fun x_1=>bD x.2.2.1.2
  x_1) x.2.2.1.1),0,aC)) none)) (0,[],([],[]),aC))
abbrev t74:=ty0->Option (((List Int)×List (List Int))×Int×Unit)
def dP:t74:=rZ lpK jnK aB
def k74 (dP:t74):Ctr:=⟨[T50],[],[],.tup [ZE,i64],fun x _ _=>dP x.1⟩
def c74:Ctr:=k74 dP
theorem e74 (lp:Lp) (jn:Jn) (aB:t57):∀x F y,rZ lp jn aB x.1=rC lp jn [(57,k57 aB)] 74 f74 c74 x F y:=fun x F y=>by kernel_rfl
theorem abr:c74.ok prog 74:=od (aa (aV) rfl Od) func74 (e74 lpK jnK aB)
def nh (lp:Lp) (jn:Jn) (bJ:t73) (dP:t74) (x0:ty0):Option ((List (List (Int×Int)))×Int×Unit) :=
 ah (dP x0) fun (t:(List Int×List (List Int))×Int×PUnit)=>cond (!decide (t.2.1=0)) (some ([],t.2.1,aC)) (cond (decide ((↑(aq
  t.1.2):Int)>0)) (ah (bJ t.1.2) fun (t:List (List (Int×Int))×Int×PUnit)=>some (t.1,t.2.1,aC)) (cond (decide (0 <=
  (↑(aq x0.1):Int))&&dS (aS (↑(aq x0.1):Int)) 24) (lp (Int×List (List (Int×Int))×PUnit) (List (List (Int×Int))×Int×PUnit) (fun
  again x=>cond (decide (x.1<(↑(aS
  (↑(aq x0.1):Int)):Int))) (lp (Int×List (List (Int×Int))×PUnit) (List (List (Int×Int))×Int×PUnit) (fun again_1 x_1=>cond (decide (x_1.1<(↑(aq x0.1):Int))) (jn ((Int×Int)×PUnit) (List
  (List (Int×Int))×Int×PUnit) (fun x_2=>cond (inB x.1 (aq x_1.2.1)) (cond (cl (bT (aS x.1)) (aq x_1.2.1)) none none) none) fun j=>cond (decide (x_1.1=x.1)) (j ((1,1),aC)) (j ((0,1),aC))) (again (aQ .i64 (x.1+1),x_1.2.1,aC))) (0,x.2.1,aC)) (some (x.2.1,
  0,aC))) (0,bx (aS (↑(aq x0.1):Int)) [],aC)) none))
abbrev t34:=ty0->Option ((List (List (Int×Int)))×Int×Unit)
def fH:t34:=nh lpK jnK bJ dP
def c34:Ctr:=⟨[T50],[],[],.tup [(.sl (.sl T38)),i64],fun x _ _=>fH x.1⟩
theorem e34 (lp:Lp) (jn:Jn) (bJ:t73) (dP:t74):∀x F y,nh lp jn bJ dP x.1=rC lp jn [(74,k74 dP),(73,k73 bJ)] 34 f34 c34 x F y:=fun x F y=>by kernel_rfl
theorem afn:c34.ok prog 34:=od (aa (aa (aV) rfl Zw) rfl abr) func34 (e34 lpK jnK bJ dP)
def rH (_:Lp) (_:Jn) (bQ:Hg) (be:HY) (x0:List (List Int)):Option (Int×Int×Unit) :=
 ah (bQ x0) fun t=>cond (!t) (some (0,1,aC)) (cond (inB 0 (aq x0)) (ah (be x0 (↑(aq
  (aT x0 0 [])):Int)) fun t=>some ((↑(aq t.2.2.1):Int),0,aC)) none)
abbrev X8:=(List (List Int))->Option (Int×Int×Unit)
def jl:X8:=rH lpK jnK bQ be
def aau:Ctr:=⟨[(.sl (.sl i64))],[],[],.tup [i64,i64],fun x _ _=>jl x.1⟩
theorem agZ (lp:Lp) (jn:Jn) (bQ:Hg) (be:HY):∀x F y,rH lp jn bQ be x.1=rC lp jn [(110,UH be),(107,Uf bQ)] 138 f138 aau x F y:=fun x F y=>by kernel_rfl
theorem adW:aau.ok prog 138:=od (aa (aa (aV) rfl RV) rfl Pj) func138 (agZ lpK jnK bQ be)
def oy (_:Lp) (_:Jn) (jl:X8) (x0:List (List Int)):Option Int :=
 cond (decide ((↑(aq x0):Int)=0)) (some 0) (ah (jl x0) fun (t:Int×Int×PUnit)=>some t.1)
abbrev t75:=(List (List Int))->Option (Int)
def eq:t75:=oy lpK jnK jl
def c75:Ctr:=⟨[(.sl (.sl i64))],[],[],.one i64,fun x _ _=>eq x.1⟩
theorem e75 (lp:Lp) (jn:Jn) (jl:X8):∀x F y,oy lp jn jl x.1=rC lp jn [(138,⟨[(.sl (.sl i64))],[],[],.tup [i64,i64],fun x _ _=>jl x.1⟩)] 75 f75 c75 x F y:=fun x F y=>by kernel_rfl
theorem afp:c75.ok prog 75:=od (aa (aV) rfl adW) func75 (e75 lpK jnK jl)
def jB (_:Lp) (_:Jn) (fk:YL) (dJ:(List (List Int))->(Int)->(Int)->Option (List (List Int))) (x0:(List Int)×List (List Int)) (x1:Int):Option (List (List Int)) :=
 ah (fk x0.2) fun t=>ah (dJ t x1 (aQ .i64 (x1+1))) fun t=>some t
abbrev t76:=((List Int)×List (List Int))->(Int)->Option (List (List Int))
def bV:t76:=jB lpK jnK fk dJ
def k76 (bV:t76):Ctr:=⟨[ZE,i64],[],[],.one (.sl (.sl i64)),fun x _ _=>bV x.1 x.2.1⟩
def c76:Ctr:=k76 bV
theorem e76 (lp:Lp) (jn:Jn) (fk:YL) (dJ:(List (List Int))->(Int)->(Int)->Option (List (List Int))):∀(x:TsS c76.as) (F:TsF c76.fs) (y:TsS c76.cs),jB lp jn fk dJ x.1 x.2.1=wE lp jn (Dk FJ Fg (aay [(139,⟨[i64,i64],29,(.sl i64),fun l x=>dJ l x.1 x.2.1⟩)] (ko prog shs tp its [] [(140,⟨[(.sl (.sl i64))],29,(.sl i64),fun x=>fk x.1⟩),(128,lu),(113,lc),(137,kS),(241,jK),(240,jA),(109,jU)]))) dI 4 76 f76 c76 x F y:=fun x F y=>by kernel_rfl
theorem agr:c76.ok prog 76:=Ctr.of_den (fq (UU (aV) (Nh (by kernel_rfl) adV (SD)))) eK (hl:=dI) (d:=4) func76 rfl (by decide) (e76 lpK jnK fk dJ)
def kP (lp:Lp) (_:Jn) (dP:t74) (eq:t75) (bV:t76) (x0:ty0):Option ((List ByteArray)×Int×Unit) :=
 ah (dP x0) fun (t:(List Int×List (List Int))×Int×PUnit)=>cond (!decide (t.2.1=0)) (some ([],t.2.1,aC)) (lp (List ByteArray×Int ×
  PUnit) (List ByteArray×Int×PUnit) (fun again x =>
 let v6:Int×PUnit:=(aQ .i64 (x.2.1+1),aC);
 let v7:=aT t.1.1 (aS x.2.1) 0;cond (decide (x.2.1<(↑(aq t.1.1):Int))) (cond (inB x.2.1 (aq t.1.1)) (ah
  (bV t.1 x.2.1) fun t_1=>ah (eq t_1) fun t_2=>ah (eq t.1.2) fun t=>cond (decide (t_2 =
  t)) (cond (inB v7 (aq x0.2)) (cond (dS (aq x.1+1) 16) (again (x.1++[(aT x0.2 (aS v7) ({ data:={ toList:=[] } },
  [],false)).1],v6)) none) none) (again (x.1,v6))) none) (some (x.1,0,aC))) ([],0,aC))
abbrev t35:=ty0->Option ((List ByteArray)×Int×Unit)
def dQ:t35:=kP lpK jnK dP eq bV
def c35:Ctr:=⟨[T50],[],[],.tup [(.sl .str),i64],fun x _ _=>dQ x.1⟩
theorem e35 (lp:Lp) (jn:Jn) (dP:t74) (eq:t75) (bV:t76):∀x F y,kP lp jn dP eq bV x.1=rC lp jn [(76,k76 bV),(75,⟨[(.sl (.sl i64))],[],[],.one i64,fun x _ _=>eq x.1⟩),(74,k74 dP)] 35 f35 c35 x F y:=fun x F y=>by kernel_rfl
theorem ag6:c35.ok prog 35:=od (aa (aa (aa (aV) rfl abr) rfl afp) rfl agr) func35 (e35 lpK jnK dP eq bV)
def kB (lp:Lp) (_:Jn) (x0:List (List (Int×Int))) (x1:List (List (Int×Int))) (f0:(((List (Int×Int))×(List (Int×Int))×Unit)->Option Bool)):Option Bool :=
 cond (!decide ((↑(aq x0):Int)=(↑(aq x1):Int))) (some false) (lp (Int×PUnit) Bool (fun again x=>cond (decide
  (x.1<(↑(aq x0):Int))) (cond (inB x.1 (aq x0)) (cond (inB x.1 (aq x1)) (ah (f0 (aT x0 (aS x.1) [],aT x1 (aS
  x.1) [],aC)) fun t=>cond (!t) (some false) (again (aQ .i64 (x.1+1),aC))) none) none) (some true)) (0,
  aC))
abbrev t36:=(List (List (Int×Int)))->(List (List (Int×Int)))->((((List (Int×Int))×(List (Int×Int))×Unit)->Option Bool))->Option (Bool)
def cK:t36:=kB lpK jnK
def k36 (cK:t36):Ctr:=⟨[(.sl (.sl T38)),(.sl (.sl T38))],[([(.sl T38),(.sl T38)],.bool)],[],.one .bool,fun x F _=>cK x.1 x.2.1 F.1⟩
def c36:Ctr:=k36 cK
theorem e36 (lp:Lp) (jn:Jn):∀x F y,kB lp jn x.1 x.2.1 F.1=rC lp jn [] 36 f36 c36 x F y:=fun x F y=>by kernel_rfl
theorem ahn:c36.ok prog 36:=od (aV) func36 (e36 lpK jnK)
def oD (_:Lp) (jn:Jn) (bz:t20) (bw:t24) (bh:t16) (bP:t29) (au:t18) (eV:t5) (iH:t15) (gH:t17) (eE:t19) (gu:t21) (fj:t22) (dC:t23) (bI:t25) (fe:t26) (gP:t30) (gS:t31) (gE:t32) (gD:t33) (fH:t34) (dQ:t35) (cK:t36) (x0:ty0) (x1:ByteArray):Option Bool :=
 ah eV fun t=>cond (!t) (some false) (ah (iH x0) fun t =>
 let v6:=!t;
 let v7:=!v6;
 let v8:=!v7||v7;cond v8 (cond v8 (cond (v6||v7) (cond (cond v6 true (decide ((↑(ByteArray.size x1):Int)>60))) (some true) (ah
  (bh x0) fun (t:List (Int×Int)×Int×PUnit) =>
 let v10:=decide (t.2.1=1);
 let v11:=decide (t.2.1=0);
 let v12:=decide (t.2.1=21);
 let v13:=decide (t.2.1=22);
 let v14:=!v10;
 let v15:=!v11;
 let v16:=!v12;
 let v17:=!v16;
 let v18:Bool:=v15||v11;
 let v19:=!v13||v13;
 let v20:Bool:=v17||v16;
 let v21:Bool:=v16&&!v15;
 let v22:=!v21||v21;ah (gH x0) fun (t_1:List (Int×Int)×Int×PUnit) =>
 let v24:=decide (t_1.2.1=0);
 let v25:=decide (t_1.2.1=22);
 let v26:=cond v11 v24 false;
 let v27:=cond v11 v25 false;
 let v28:=!v26;
 let v29:Bool:=v28||v26;
 let v30:=!v27||v27;ah (au t.1 fun x=>eE x.1) fun t_2 =>
 let v32:=!t_2;
 let v33:Bool:=v26&&v32;
 let v34:=cond v27 v32 false;
 let v35:=!v33||v33;cond (!v14||v14) (cond (v10||v14) (cond (cond v10 true (decide (t_1.2.1=1))) (some (decide (t.2.1=t_1.2.1))) (cond v18 (cond v18 (cond v29 (cond (v35&&v35) (ah (cond v33 (bz t.1 t_1.1) (some false)) fun t =>
 let v37:=cond v26 (cond t_2 true (!t)) false;cond v35 (cond ((v28||v29)&&(v28||(t_2||(v28||v33)))) (cond v29 (jn (Bool×PUnit) Bool (fun x=>cond x.1 (some false) (jn PUnit Bool (fun (_:PUnit)=>ah (dC x0 x1) fun (t:(Int×Int)×Int×PUnit) =>
 let v41:=decide (t.2.1=0);
 let v42:=!v41||v41;ah (bw x0 x1) fun (t_3:(Int×Int)×Int×PUnit) =>
 let v44:=cond v41 (decide (t_3.2.1=0)) false;
 let v45:=!v44||v44;cond v42 (cond v42 (cond (v45&&v45) (cond v45 (cond (cond v44 (!(decide (t.1.1=t_3.1.1)&&(decide (t.1.2=t_3.1.2) &&
  true))) false) (some false) (ah (bI x0.2 fun x=>fe x.1) fun t=>jn PUnit Bool (fun (_:PUnit)=>ah (bI x0.2 fun x=>gE x.1) fun
  t=>cond t (some true) (ah (gD x0) fun (t:List (List (Int×Int))×Int×PUnit) =>
 let v50:=!decide (t.2.1=0);
 let v51:=!v50;ah (fH x0) fun (t_4:List (List (Int×Int))×Int×PUnit) =>
 let v53:=cond v50 true (!decide (t_4.2.1=0));
 let v54:=!v53;ah (dQ x0) fun (t_5:List ByteArray×Int×PUnit) =>
 let v56:=cond v53 true (!decide (t_5.2.1=0));
 let v57:=!v56;
 let v58:=cond v16 (cond v15 true (decide ((↑(aq t_5.1):Int)=0))) false;
 let v59:=!v58;
 let v60:=!v59;
 let v61:Bool:=v59&&v12;
 let v62:=!v57||v57;
 let v63:Bool:=v60||v59;
 let v64:=!v61||v61;cond (!v51||v51) (cond (v50||v51) (cond (!v54||v54) (cond (v53||v54) (cond (v62&&v62) (ah (cond v57 (cK t.1 t_4.1
  fun x=>bz x.1 x.2.1) (some false)) fun t=>cond v62 (cond (v56||v57) (cond (cond v56 true (
  !t)) (some false) (cond v20 (cond v20 (cond v22 (cond v22 (cond ((v17||v20)&&(v17||(v15||(v17||v21)))) (cond v20 (cond v63 (cond v63 (cond v64 (
  cond v64 (cond ((v60||v63)&&(v60||(v16||(v60||v61)))) (cond (v58||v59) (some (cond v58 true (cond v12 (decide ((↑(aq t_5.1):Int)>0)) false))) none) none) none) none) none) none) none) none) none) none) none) none)) none) none) none) none) none) none) none)) fun j=>cond (!t) (ah (bP x0) fun (t:(Int×Int)×Int×PUnit) =>
 let v49:=decide (t.2.1=0);
 let v50:=!v49;
 let v51:Bool:=v50||v49;ah (gP x0) fun (t_4:(Int×Int)×Int×PUnit) =>
 let v53:=cond v49 (decide (t_4.2.1=0)) false;
 let v54:=!v53||v53;
 let v55:=cond v53 (!(decide (t.1.1=t_4.1.1)&&(decide (t.1.2=t_4.1.2)&&true))) false;
 let v56:=!v55;
 let v57:=!v56;
 let v58:Bool:=v56&&v49;
 let v59:Bool:=v57||v56;
 let v60:Bool:=v57||v59;ah (gS x0) fun (t_5:(Int×Int)×Int×PUnit) =>
 let v62:=cond v49 (decide (t_5.2.1=0)) false;
 let v63:Bool:=v56&&v62;
 let v64:=!v63||v63;cond v51 (cond v51 (cond (v54&&v54) (cond v54 (cond v59 (cond v59 (cond (!v58||v58) (cond (v60&&(v57||(v50||(v57||v58)))) (cond v59 (cond (v64&&v64) (cond (v60&&(v57||(!v62||(v57||v63)))) (cond (v55||v56) (cond (cond v55 true (cond v62 (!(decide (t.1.1=t_5.1.1)&&(decide
  (t.1.2=t_5.1.2)&&true))) false)) (some false) (j aC)) none) none) none) none) none) none) none) none) none) none) none) none) (j aC))) none) none) none) none) fun j=>cond v25 (ah (gu x0) fun (t:List (Int×Int)×Int×PUnit)=>cond (!decide (t.2.1=0)) (some false) (ah (fj x0 t.1) fun (t:Bool×Int×PUnit) =>
 let v42:=decide (t.2.1=0);
 let v43:=!v42||v42;cond v43 (cond v43 (cond (cond v42 (!t.1) false) (some false) (j aC)) none) none)) (j aC))) fun j=>cond v37 (j (v37,aC)) (cond v18 (cond v18 (cond v30 (cond v30 (jn (Bool×PUnit) Bool (fun x=>j (x.1,aC)) fun
  j=>cond v34 (j (v34,aC)) (cond v19 (cond v19 (j (cond v13 v24 false,aC)) none) none)) none) none) none) none)) none) none) none) none) none) none) none)) none) none)) none) none) none)
def rJ (x0:(List (ByteArray×Int))×List (ByteArray×(List (ByteArray×Int×Int×Int))×Bool)) (x1:ByteArray):Option Bool:=oD lpK jnK bz bw bh bP au eV iH gH eE gu fj dC bI fe gP gS gE gD fH dQ cK x0 x1
def c4:Ctr:=⟨[T50,.str],[],[],.one .bool,fun x _ _=>rJ x.1 x.2.1⟩
theorem e4 (lp:Lp) (jn:Jn) (bz:t20) (bw:t24) (bh:t16) (bP:t29) (au:t18) (eV:t5) (iH:t15) (gH:t17) (eE:t19) (gu:t21) (fj:t22) (dC:t23) (bI:t25) (fe:t26) (gP:t30) (gS:t31) (gE:t32) (gD:t33) (fH:t34) (dQ:t35) (cK:t36):∀x F y,oD lp jn bz bw bh bP au eV iH gH eE gu fj dC bI fe gP gS gE gD fH dQ cK x.1 x.2.1=rC lp jn [(36,k36 cK),(35,⟨[T50],[],[],.tup [(.sl .str),i64],fun x _ _=>dQ x.1⟩),(34,⟨[T50],[],[],.tup [(.sl (.sl T38)),i64],fun x _ _=>fH x.1⟩),(33,⟨[T50],[],[],.tup [(.sl (.sl T38)),i64],fun x _ _=>gD x.1⟩),(32,⟨[T63],[],[],.one .bool,fun x _ _=>gE x.1⟩),(31,⟨[T50],[],[],.tup [T38,i64],fun x _ _=>gS x.1⟩),(30,⟨[T50],[],[],.tup [T38,i64],fun x _ _=>gP x.1⟩),(26,⟨[T63],[],[],.one .bool,fun x _ _=>fe x.1⟩),(25,k25 bI),(23,k23 dC),(22,k22 fj),(21,⟨[T50],[],[],.tup [(.sl T38),i64],fun x _ _=>gu x.1⟩),(19,⟨[T38],[],[],.one .bool,fun x _ _=>eE x.1⟩),(17,⟨[T50],[],[],.tup [(.sl T38),i64],fun x _ _=>gH x.1⟩),(15,⟨[T50],[],[],.one .bool,fun x _ _=>iH x.1⟩),(5,k5 eV),(18,k18 au),(29,k29 bP),(16,k16 bh),(24,k24 bw),(20,k20 bz)] 4 f4 c4 x F y:=fun x F y=>by kernel_rfl
theorem ok4:c4.ok prog 4:=od (aa (aa (aa (aa (aa (aa (aa (aa (aa (aa (aa (aa (aa (aa (aa (aa (aa (aa (aa (aa (aa (aV) rfl aak) rfl adO) rfl adL) rfl Xi) rfl Ya) rfl ok5) rfl afC) rfl afv) rfl ahz) rfl aeW) rfl ahA) rfl aeR) rfl af9) rfl aeF) rfl aht) rfl afN) rfl afY) rfl ag2) rfl afn) rfl ag6) rfl ahn) func4 (e4 lpK jnK bz bw bh bP au eV iH gH eE gu fj dC bI fe gP gS gE gD fH dQ cK)
end
end Go.Proofs.YtlfdhaiigdllcaaGreat

namespace Go.Proofs.YtlfdhaiigdllcaaGreat
namespace Dn
section
variable {T R α σ:Type}
theorem af {t:T} {k:T->Option R}:ah (some t) k=k t:=rfl
theorem Gw {F:(α->Option R)->α->Option R} {g:α->Option R} (I:α->Prop) (μ:α->Nat)
  (h:∀x rec,I x->(∀y,I y->μ y<μ x->rec y=g y)->F rec x=g x):∀{n:Nat} {x:α},I x->μ x<n->lY F n x=g x
 | 0,x,_,hn=>by omega
 | n+1,x,hx,hn=>by
  rw[kg]
  exact h x _ hx fun y hy hlt=>Gw I μ h hy (by omega)
theorem vF {F:(α->Option R)->α->Option R} {g:α->Option R} (I:α->Prop) (μ:α->Nat)
  (h:∀x rec,I x->(∀y,I y->μ y<μ x->rec y=g y)->F rec x=g x) {x:α} (hx:I x) (hn:μ x<1180591620717411303424):lpK α R F x=g x:=Gw I μ h hx hn
theorem wn {j:α->Option R} {f:(α->Option R)->Option R}:jnK α R j f=f j:=rfl
theorem aZ {x:Int} (h1: -9223372036854775808<=x) (h2:x<9223372036854775808):aQ .i64 x=x:=by
 rw[IntKind.wrap_i64];omega
def upF (b:Nat->σ->(σ->Option R)->Option R) (f:σ->Option R):Nat->Nat->σ->Option R
 | 0,_,s=>f s
 | k+1,i,s=>b i s (upF b f k (i+1))
theorem TC {F:(α->Option R)->α->Option R} (n:Nat) (hn:n<=1180591620717411303423) (enc:Nat->σ->α) (b:Nat->σ->(σ->Option R)->Option R) (f:σ->Option R)
  (hb:∀again (i:Nat) s,i<n->F again (enc i s)=b i s (fun s'=>again (enc (i+1) s'))) (hf:∀again s,F again (enc n s)=f s) (s:σ) :
  lY F K0 (enc 0 s)=upF b f n 0 s:=by
 have key:∀(k:Nat) (i:Nat) (m:Nat) (s:σ),i+k=n->k<m->lY F m (enc i s)=upF b f k i s:=by
  intro k
  induction k with
  | zero =>
   intro i m s h1 h2
   obtain ⟨m,rfl⟩:∃m',m=m'+1:=⟨m - 1,by omega⟩
   have:i=n:=by omega
   subst this
   simp only[kg,hf,upF]
  | succ k ih =>
   intro i m s h1 h2
   obtain ⟨m,rfl⟩:∃m',m=m'+1:=⟨m - 1,by omega⟩
   simp only[kg,upF]
   rw[hb _ _ _ (by omega)]
   congr 1
   funext s'
   exact ih (i+1) m s' (by omega) (by omega)
 exact key n 0 K0 s (by omega) (by unfold K0;omega)
theorem aH {i n:Nat}:inB (i:Int) n=decide (i<n):=by
 rw[Bool.eq_iff_iff,mA,decide_eq_true_iff];omega
theorem zC {i:Int} {n:Nat} (h1:0<=i) (h2:i<n):inB i n=true:=mA.2 ⟨h1,h2⟩
theorem pZ {n:Int} (h:n≠0):nzB n=true:=FP.2 h
theorem Bo {lo hi:Int} {n:Nat} (h1:0<=lo) (h2:lo<=hi) (h3:hi<=n):slB lo hi n=true:=wb.2 ⟨h1,h2,h3⟩
theorem cZ {n k:Nat} (h:n*k<=140737488355328):dS n k=true:=oc.2 h
theorem cE {n m:Nat} (h:n<=m):cl n m=true:=by rw[Nat.ble_eq];exact h
theorem cT0 {α:Sort _} {c:Bool} (h:c=true) (a b:α):cond c a b=a:=by subst h;rfl
theorem cT {α:Sort _} (a b:α):cond true a b=a:=cT0 (Eq.trans rfl rfl) a b
theorem cF0 {α:Sort _} {c:Bool} (h:c=false) (a b:α):cond c a b=b:=by subst h;rfl
theorem cF {α:Sort _} (a b:α):cond false a b=b:=cF0 (Eq.trans rfl rfl) a b
theorem jp {b:Bool}:(b||!b)=true:=by cases b<;>rfl
theorem bC {b:Bool}:(!b||b)=true:=by cases b<;>rfl
theorem nH {b:Bool} {c:Bool}:(bif b then c else false)=(b&&c):=by cases b<;>rfl
theorem Mj {b:Bool} {c:Bool}:(bif b then true else c)=(b||c):=by cases b<;>rfl
theorem Ve {a b:Int}:(if b>a then b else a)=max a b:=by omega
theorem aI {l:List α} {d:α} {i:Nat} (h:i<l.length):l.getD i d=l[i]:=by simp[aT,h]
end
end Dn
end Go.Proofs.YtlfdhaiigdllcaaGreat

namespace Go.Proofs.YtlfdhaiigdllcaaGreat
noncomputable section
open Tryz Dn Dn.Sh
theorem tn (a b:ByteArray):List.beq (rO a) (rO b)=decide (a=b):=by
 show (a.toList ==b.toList)=_
 rw[ByteArray.toList_eq,ByteArray.toList_eq,Bool.eq_iff_iff,decide_eq_true_iff,beq_iff_eq]
 exact ⟨fun h=>ByteArray.ext (Array.toList_inj.mp h),fun h=>by rw[h]⟩
theorem SY {α R:Type} {F:(α->Option R)->α->Option R} (I:α->Prop) (μ:α->Nat) (h:∀x rec,I x->(∀y,I y->μ y<μ x->(rec y).isSome=true)->(F rec x).isSome=true) {x:α} (hx:I x) (hn:μ x<1180591620717411303424):(lpK α R F x).isSome=true:=by
 have key:∀n x,I x->μ x<n->(lY F n x).isSome=true:=by
  intro n
  induction n with
  | zero=>intro x _ h;omega
  | succ n ih =>
   intro x hx hn
   rw[kg]
   exact h x _ hx fun y hy hlt=>ih y hy (by omega)
 exact key _ x hx hn
theorem Ak (c:Int):∃b,cd c=some b:=by
 simp only[cd,nG,bC,jp,cond_true]
 cases decide (c>=97)<;>cases decide (c<=122)<;>cases decide (c>=65)<;>exact ⟨_,rfl⟩
theorem Ki (c:Int):∃b,gj c=some b:=by
 simp only[gj,oC,bC,cond_true]
 exact ⟨_,rfl⟩
theorem Ng {s:ByteArray} (h:s.size<=1000000):∃n,gw s=some n:=by
 rw[<-Option.isSome_iff_exists]
 simp only[gw,qd]
 refine SY (I:=fun (x:Int×PUnit)=>0<=x.1/\x.1<=s.size) (μ:=fun (x:Int×PUnit)=>((s.size:Int) - x.1).toNat) (x:=((0:Int),aC)) ?_ ⟨pH _,by simp only;omega⟩ (by simp only;omega)
 rintro ⟨i,_⟩ rec ⟨h0,h1⟩ hrec
 simp only at h0 h1 ⊢
 by_cases hi:i<s.size
 ·rw[zC h0 hi,z7 hi]
  obtain ⟨b,hb⟩:=Ak (iZ s i.toNat)
  obtain ⟨c,hc⟩:=Ki (iZ s i.toNat)
  have hw:aQ .i64 (i+1)=i+1:=aZ (by omega) (by omega)
  have hr:=hrec (i+1,aC) ⟨by simp only;omega,by simp only;omega⟩ (by simp only;omega)
  simp only[hb,hc,hw]
  cases b<;>cases c<;>cases decide (iZ s i.toNat=95)<;>simp[af,hr]
 ·rw[z8 hi]
  simp[af]
def EH (s:ByteArray):Bool:=decide (0<s.size)&&(decide (s.size<=20)&&((cd (iZ s 0)).getD false&&decide ((gw s).getD 0=(s.size:Int))))
theorem D4 (s:ByteArray):s={ data:=#[] }↔s.size=0:=by
 constructor
 ·intro h;rw[h];rfl
 ·intro h
  apply ByteArray.ext
  exact Array.eq_empty_of_size_eq_zero h
theorem Nl (s:ByteArray):aF s=some (EH s):=by
 simp only[aF,nM,tn,bC,h_,cond_true]
 unfold EH
 by_cases h0:s.size=0
 ·have e:decide (s={ data:=#[] })=true:=z7 ((D4 s).2 h0)
  simp[e,h0,af]
 ·have e:decide (s={ data:=#[] })=false:=z8 fun h=>h0 ((D4 s).1 h)
  by_cases h1:s.size<=20
  ·obtain ⟨b,hb⟩:=Ak (iZ s 0)
   obtain ⟨n,hn⟩:=Ng (s:=s) (by omega)
   have h2:decide ((s.size:Int)<=20)=true:=z7 (by omega)
   rw[zC (show (0:Int)<=0 by omega) (show (0:Int)<s.size by omega)]
   simp only[e,h2,hb,hn]
   cases b<;>simp[af,h1,show 0<s.size by omega]
  ·have h2:decide ((s.size:Int)<=20)=false:=z8 (by omega)
   simp[e,h2,h1,af]
end
end Go.Proofs.YtlfdhaiigdllcaaGreat

namespace Go.Proofs.YtlfdhaiigdllcaaGreat
namespace Dn
abbrev Fq:=Int×Int
def okF (a:Fq):Prop:=(1<=a.2/\a.2<=1152921504606846976)/\(-1152921504606846976<=a.1/\a.1<=1152921504606846976)/\f_ a.1.natAbs a.2.natAbs=1
instance (a:Fq):Decidable (okF a):=by unfold okF;infer_instance
def qv (a:Fq):Rat:=mkRat a.1 a.2.toNat
def gF (q:Rat):Prop:=q.num.natAbs<=1152921504606846976/\q.den<=1152921504606846976
instance (q:Rat):Decidable (gF q):=by unfold gF;infer_instance
def prQ (q:Rat):Fq:=(q.num,(q.den:Int))
def vj (q:Rat):Fq×Int×Unit:=if gF q then (prQ q,0,()) else ((0,0),5,())
theorem qU {a:Fq} (h:okF a):(qv a).num=a.1:=by
 obtain ⟨⟨h1,h2⟩,_,h3⟩:=h
 have h0:a.2.toNat≠0:=by omega
 have h4:f_ a.2.toNat a.1.natAbs=1:=by rw[Nat.gcd_comm,show a.2.toNat=a.2.natAbs by omega];exact h3
 rw[qv,Rat.num_mkRat,if_neg h0,h4]
 simp
theorem vZ {a:Fq} (h:okF a):((qv a).den:Int)=a.2:=by
 obtain ⟨⟨h1,h2⟩,_,h3⟩:=h
 have h0:a.2.toNat≠0:=by omega
 have h4:f_ a.2.toNat a.1.natAbs=1:=by rw[Nat.gcd_comm,show a.2.toNat=a.2.natAbs by omega];exact h3
 rw[qv,Rat.den_mkRat,if_neg h0,h4]
 simp;omega
theorem JI {a:Fq} (h:okF a):prQ (qv a)=a:=by
 unfold prQ
 rw[qU h,vZ h]
theorem pY (q:Rat):qv (prQ q)=q:=by
 unfold qv prQ
 simp only[z9]
 exact Rat.mkRat_self q
theorem lI {q:Rat} (h:gF q):okF (prQ q):=by
 obtain ⟨h1,h2⟩:=h
 have:=q.den_pos
 refine ⟨⟨?_,?_⟩,⟨?_,?_⟩,?_⟩
 ·simp only[prQ];omega
 ·simp only[prQ];omega
 ·simp only[prQ];omega
 ·simp only[prQ];omega
 ·simp only[prQ]
  rw[Int.natAbs_natCast]
  exact q.reduced
theorem O3 {a:Fq} (h:okF a):gF (qv a):=by
 unfold gF
 have h1:=qU h
 have h2:=vZ h
 obtain ⟨⟨_,_⟩,⟨_,_⟩,_⟩:=h
 rw[h1]
 omega
theorem EU {a:Fq} (h:okF a):vj (qv a)=(a,0,()):=by
 unfold vj
 rw[if_pos (O3 h),JI h]
theorem Kj {a b:Fq} (ha:okF a) (hb:okF b) (h:qv a=qv b):a=b:=by
 rw[<-JI ha,<-JI hb,h]
theorem jY (q:Rat):(gF q/\vj q=(prQ q,0,()))\/(¬ gF q/\vj q=((0,0),5,())):=by
 unfold vj
 by_cases h:gF q
 ·exact .inl ⟨h,by rw[if_pos h]⟩
 ·exact .inr ⟨h,by rw[if_neg h]⟩
theorem rS (n:Int):qv (n,1)=(n:Rat):=by
 show mkRat n 1=(n:Rat)
 rw[Rat.mkRat_eq_div]
 show (n:Rat) / ((1:Nat):Rat)=n
 rw[show ((1:Nat):Rat)=1 from rfl]
 grind
theorem Ba {n:Int} (h1: -1152921504606846976<=n) (h2:n<=1152921504606846976):okF (n,1):=⟨⟨by simp,by simp⟩,⟨h1,h2⟩,by simp⟩
theorem pR {a:Fq} (h:okF a):0<=qv a↔0<=a.1:=by rw[<-Rat.num_nonneg,qU h]
theorem BJ {a:Fq} (h:okF a):qv a=0↔a.1=0:=by rw[<-Rat.num_eq_zero,qU h]
theorem Ux {a:Fq} (h:okF a):qv a<0↔a.1<0:=by
 rw[<-Rat.not_le,pR h];omega
theorem SI {a b:Fq} (ha:okF a) (hb:okF b):qv a<=qv b↔a.1*b.2<=b.1*a.2:=by
 rw[Rat.le_iff,qU ha,qU hb,vZ ha,vZ hb]
theorem Zh {a b:Fq} (ha:okF a) (hb:okF b):qv a<qv b↔a.1*b.2<b.1*a.2:=by
 rw[Rat.lt_iff,qU ha,qU hb,vZ ha,vZ hb]
def sgn (s:Bool) (n:Nat):Int:=if s then -(n:Int) else n
theorem E9 {s:Bool} {n d:Nat} (hd:0<d) (hc:f_ n d=1):(mkRat (sgn s n) d).num=sgn s n/\(mkRat (sgn s n) d).den=d:=by
 have h0:d≠0:=by omega
 have ha:(sgn s n).natAbs=n:=by unfold sgn;split<;>simp
 have hg:f_ d (sgn s n).natAbs=1:=by rw[ha,Nat.gcd_comm];exact hc
 rw[Rat.num_mkRat,Rat.den_mkRat,if_neg h0,if_neg h0,hg]
 simp
theorem Fj {s:Bool} {n d:Nat} (hd:0<d):mkRat (sgn s n) d=mkRat (sgn s (n / f_ n d)) (d / f_ n d)/\0<d / f_ n d/\f_ (n / f_ n d) (d / f_ n d)=1:=by
 have hg:0<f_ n d:=Nat.gcd_pos_of_pos_right _ hd
 have h1:n / f_ n d*f_ n d=n:=Nat.div_mul_cancel (Nat.gcd_dvd_left n d)
 have h2:d / f_ n d*f_ n d=d:=Nat.div_mul_cancel (Nat.gcd_dvd_right n d)
 refine ⟨?_,Nat.div_pos (Nat.le_of_dvd hd (Nat.gcd_dvd_right n d)) hg,Nat.gcd_div_gcd_div_gcd_of_pos_right hd⟩
 have h3:sgn s n=sgn s (n / f_ n d)*(f_ n d:Int):=by
  unfold sgn
  split
  ·rw[Int.neg_mul,<-iS,h1]
  ·rw[<-iS,h1]
 have h4:mkRat (sgn s n) d=mkRat (sgn s (n / f_ n d)*(f_ n d:Int)) (d / f_ n d*f_ n d):=by rw[<-h3,h2]
 rw[h4]
 exact Rat.mkRat_mul_right (by omega)
theorem D8 {s:Bool} {n d m e:Nat} (hd:0<d) (he:0<e) (h:n*e=m*d):mkRat (sgn s n) d=mkRat (sgn s m) e:=by
 rw[Rat.mkRat_eq_iff (by omega) (by omega)]
 unfold sgn
 split
 ·rw[Int.neg_mul,Int.neg_mul,<-iS,<-iS,h]
 ·rw[<-iS,<-iS,h]
theorem Ge {s:Bool} {n d:Nat} (hd:0<d) (hc:f_ n d=1):vj (mkRat (sgn s n) d)=if n<=1152921504606846976/\d<=1152921504606846976 then ((sgn s n,(d:Int)),0,()) else ((0,0),5,()):=by
 obtain ⟨h1,h2⟩:=E9 (s:=s) hd hc
 have ha:(sgn s n).natAbs=n:=by unfold sgn;split<;>simp
 unfold vj
 have e:gF (mkRat (sgn s n) d)↔n<=1152921504606846976/\d<=1152921504606846976:=by unfold gF;rw[h1,h2,ha]
 have e2:prQ (mkRat (sgn s n) d)=(sgn s n,(d:Int)):=by unfold prQ;rw[h1,h2]
 rw[e2]
 by_cases h:n<=1152921504606846976/\d<=1152921504606846976
 ·rw[if_pos h,if_pos (e.2 h)]
 ·rw[if_neg h,if_neg (fun hh=>h (e.1 hh))]
theorem td (n:Int):n=sgn (decide (n<0)) n.natAbs:=by
 unfold sgn
 by_cases h:n<0
 ·simp[h];omega
 ·simp[h];omega
theorem Li (a:Fq):qv a=mkRat (sgn (decide (a.1<0)) a.1.natAbs) a.2.toNat:=by
 unfold qv
 rw[<-td]
theorem UY {s t:Bool} {m n:Nat}:sgn s m*sgn t n=sgn (s !=t) (m*n):=by
 unfold sgn
 cases s<;>cases t<;>simp[Int.neg_mul,Int.mul_neg]
theorem Vi {s t:Bool} {m n d e:Nat}:mkRat (sgn s m) d*mkRat (sgn t n) e=mkRat (sgn (s !=t) (m*n)) (d*e):=by
 rw[Rat.mkRat_mul_mkRat,UY]
theorem GH (s t:Bool):sgn s 0=sgn t 0:=by unfold sgn;cases s<;>cases t<;>rfl
end Dn
end Go.Proofs.YtlfdhaiigdllcaaGreat

namespace Go.Proofs.YtlfdhaiigdllcaaGreat
open Tryz Dn Dn.Sh
theorem bU {x:Int} (h1:0<=x) (h2:x<18446744073709551616):aQ .u64 x=x:=by
 rw[IntKind.wrap_u64];omega
theorem nQ {x:Int} (h1: -9223372036854775808<=x) (h2:x<9223372036854775808):bf x=some (x.natAbs:Int):=by
 simp only[bf,tK]
 by_cases h:x<0
 ·simp only[h,decide_true,cond_true]
  rw[IntKind.wrap_u64,IntKind.wrap_u64]
  congr 1;omega
 ·simp only[h,decide_false,cond_false]
  rw[bU (by omega) (by omega)]
  congr 1;omega
theorem zP (m n:Nat) (hn:n<18446744073709551616):bZ (m:Int) (n:Int)=some ((f_ m n:Nat):Int):=by
 simp only[bZ,uY]
 refine vF (g:=fun x=>some ((f_ x.1.toNat x.2.1.toNat:Nat):Int)) (I:=fun (x:Int×Int×PUnit)=>0<=x.1/\0<=x.2.1) (μ:=fun (x:Int×Int×PUnit)=>x.2.1.toNat) (x:=((m:Int),(n:Int),aC)) ?_ ⟨Int.natCast_nonneg _,Int.natCast_nonneg _⟩ (by simp only;omega)
 rintro ⟨a,b,_⟩ rec ⟨h1,h2⟩ hrec
 simp only at h1 h2 ⊢
 by_cases hb:b=0
 ·subst hb
  simp only[decide_true,bt,cond_false,Int.toNat_zero,Nat.gcd_zero_right]
  congr 1;omega
 ·rw[z8 hb,pZ hb,Int.tmod_eq_emod_of_nonneg h1]
  simp only[e_,cT]
  have h3:0<=a % b:=Int.emod_nonneg _ hb
  have h4:a % b<b:=Int.emod_lt_of_pos _ (by omega)
  rw[hrec _ ⟨by simp only;omega,by simp only;omega⟩ (by simp only;omega)]
  simp only
  congr 2
  rw[Int.toNat_emod h1 h2,Nat.gcd_comm a.toNat,Nat.gcd_rec b.toNat a.toNat,Nat.gcd_comm]
theorem zS (s:Bool) (n d:Nat) (h1:n<18446744073709551616) (h2:d<18446744073709551616) :
  bH s (n:Int) (d:Int)=some (if n<=1152921504606846976/\d<=1152921504606846976 then ((sgn s n,(d:Int)),0,()) else ((0,0),5,())):=by
 simp only[bH,pX,bC,jp,cond_true]
 by_cases hn:n<=1152921504606846976
 ·by_cases hd:d<=1152921504606846976
  ·have e1:decide ((n:Int)>1152921504606846976)=false:=z8 (by omega)
   have e2:decide ((d:Int)>1152921504606846976)=false:=z8 (by omega)
   rw[aZ (x:=(n:Int)) (by omega) (by omega),aZ (x:=(d:Int)) (by omega) (by omega),aZ (x:=0 - (n:Int)) (by omega) (by omega)]
   simp only[e1,e2,cond_false,hn,hd,and_self,if_true]
   cases s<;>simp[sgn]
  ·have e2:decide ((d:Int)>1152921504606846976)=true:=z7 (by omega)
   simp only[e2,Mj,p_,cond_true,hd,and_false,if_false]
 ·have e1:decide ((n:Int)>1152921504606846976)=true:=z7 (by omega)
  simp only[e1,cond_true,hn,false_and,if_false]
def C7 (n d:Int):Rat:=mkRat (sgn (decide (n<0) !=decide (d<0)) n.natAbs) d.natAbs
theorem vY {n d:Int} (hd:d≠0):C7 n d=(n:Rat) / d:=by
 unfold C7
 rw[<-Rat.divInt_eq_div,show mkRat (sgn (decide (n<0) !=decide (d<0)) n.natAbs) d.natAbs=Rat.divInt (sgn (decide (n<0) !=decide (d<0)) n.natAbs) (d.natAbs:Int) from (Rat.divInt_ofNat _ _).symm]
 rw[Rat.divInt_eq_divInt_iff (by omega) hd]
 unfold sgn
 by_cases h1:n<0<;>by_cases h2:d<0
 ·rw[show ((n.natAbs:Nat):Int)= -n by omega,show ((d.natAbs:Nat):Int)= -d by omega]
  simp[h1,h2,Int.neg_mul,Int.mul_neg]
 ·rw[show ((n.natAbs:Nat):Int)= -n by omega,show ((d.natAbs:Nat):Int)=d by omega]
  simp[h1,h2]
 ·rw[show ((n.natAbs:Nat):Int)=n by omega,show ((d.natAbs:Nat):Int)= -d by omega]
  simp[h1,h2,Int.neg_mul,Int.mul_neg]
 ·rw[show ((n.natAbs:Nat):Int)=n by omega,show ((d.natAbs:Nat):Int)=d by omega]
  simp[h1,h2]
theorem ol (m n:Nat):Int.tdiv (m:Int) (n:Int)=((m / n:Nat):Int):=by
 rw[Int.tdiv_eq_ediv_of_nonneg (by omega)]
 rfl
theorem FV {n d:Int} (h1: -9223372036854775808<=n) (h2:n<9223372036854775808) (h3: -9223372036854775808<=d) (h4:d<9223372036854775808) :
  cR n d=some (if d=0 then ((0,0),16,()) else vj (C7 n d)):=by
 simp only[cR,uc,bC,h_,cond_true]
 by_cases hd:d=0
 ·simp only[hd,decide_true,cond_true,if_true]
 ·simp only[hd,decide_false,cond_false,if_false]
  rw[nQ h1 h2,af,nQ h3 h4,af,zP _ _ (by omega),af]
  have hg:0<f_ n.natAbs d.natAbs:=Nat.gcd_pos_of_pos_right _ (by omega)
  have a1:n.natAbs / f_ n.natAbs d.natAbs<=n.natAbs:=Nat.div_le_self _ _
  have a2:d.natAbs / f_ n.natAbs d.natAbs<=d.natAbs:=Nat.div_le_self _ _
  have hz:nzB ((f_ n.natAbs d.natAbs:Nat):Int)=true:=pZ (by omega)
  obtain ⟨m1,m2,m3⟩:=Fj (s:=decide (n<0) !=decide (d<0)) (n:=n.natAbs) (d:=d.natAbs) (by omega)
  have hs:n=0->n.natAbs / f_ n.natAbs d.natAbs=0:=fun h=>by subst h;simp
  rw[hz,cond_true,cond_true,ol,ol]
  unfold C7
  rw[m1]
  generalize n.natAbs / f_ n.natAbs d.natAbs=p at *
  generalize d.natAbs / f_ n.natAbs d.natAbs=q at *
  rw[bU (by omega) (by omega),bU (by omega) (by omega),zS _ _ _ (by omega) (by omega),af,Ge m2 m3]
  have hs:sgn (bif !decide (n=0) then !decide (decide (n<0)=decide (d<0)) else false) p=sgn (decide (n<0) !=decide (d<0)) p:=by
   by_cases h0:n=0
   ·rw[hs h0]
    exact GH _ _
   ·simp only[h0,decide_false,e_,cond_true]
    cases decide (n<0)<;>cases decide (d<0)<;>rfl
  rw[hs]
theorem tj {a:Fq}:aE a=some (decide (okF a)):=by
 simp only[aE,rX,bC,h_,cond_true,nH]
 unfold okF
 by_cases h1:1<=a.2
 ·by_cases h2:a.2<=1152921504606846976
  ·by_cases h3: -1152921504606846976<=a.1
   ·by_cases h4:a.1<=1152921504606846976
    ·have e:aQ .u64 a.2=((a.2.natAbs:Nat):Int):=by rw[bU (by omega) (by omega)];omega
     simp only[ge_iff_le,h1,h2,h3,h4,decide_true,h_,cond_true]
     rw[nQ (by omega) (by omega),af,e,zP _ _ (by omega),af]
     congr 1
     rw[Bool.eq_iff_iff]
     simp only[Bool.true_and,decide_eq_true_eq,true_and]
     generalize f_ a.1.natAbs a.2.natAbs=g
     omega
    ·simp[af,h4]
   ·simp[af,h3]
  ·simp[af,h2]
 ·simp[af,h1]
theorem Fv {x:Int} (h1:0<=x) (h2:x<18446744073709551616):((Nat.land (aS (x % mK 18446744073709551616)) (aS ((4294967295:Int) % mK 18446744073709551616)):Nat):Int)=x % 4294967296:=by
 have e1:x % mK 18446744073709551616=x:=Int.emod_eq_of_lt h1 h2
 have e2:aS ((4294967295:Int) % mK 18446744073709551616)=2 ^ 32 - 1:=by decide
 rw[e1,e2]
 have:Nat.land x.toNat (2 ^ 32 - 1)=x.toNat % 2 ^ 32:=Nat.and_two_pow_sub_one_eq_mod x.toNat 32
 rw[this]
 omega
def hl (n:Nat):Int×Int:=(((n / 18446744073709551616:Nat):Int),((n % 18446744073709551616:Nat):Int))
theorem RH {x y:Int} (x0:0<=x) (x1:x<18446744073709551616) (y0:0<=y) (y1:y<18446744073709551616):bF x y=some (x*y / 18446744073709551616,x*y % 18446744073709551616,()):=by
 have p32:(2:Int) ^ (32:Nat)=4294967296:=by decide
 simp only[bF,tC,p32,show decide ((0:Int)<=32)=true from rfl,cond_true]
 obtain ⟨a,b,ha,hb,hx⟩:∃a b,a=x / 4294967296/\b=x % 4294967296/\x=a*4294967296+b:=⟨_,_,rfl,rfl,by omega⟩
 obtain ⟨c,d,hc,hd,hy⟩:∃c d,c=y / 4294967296/\d=y % 4294967296/\y=c*4294967296+d:=⟨_,_,rfl,rfl,by omega⟩
 have fd:∀n:Int,Int.fdiv n 4294967296=n / 4294967296:=fun n=>Int.fdiv_eq_ediv_of_nonneg n (by omega)
 rw[Fv x0 x1,Fv y0 y1,<-hb,<-hd]
 simp only[fd,<-ha,<-hc]
 have a0:0<=a/\a<=4294967295:=by omega
 have b0:0<=b/\b<=4294967295:=by omega
 have c0:0<=c/\c<=4294967295:=by omega
 have d0:0<=d/\d<=4294967295:=by omega
 have mb:∀{m n:Int},0<=m/\m<=4294967295->0<=n/\n<=4294967295->0<=m*n/\m*n<=18446744065119617025:=fun {m n} hm hn=>⟨ph hm.1 hn.1,nE (Int.mul_le_mul hm.2 hn.2 hn.1 (by omega)) (by decide)⟩
 have e1:=mb a0 c0
 have e2:=mb a0 d0
 have e3:=mb b0 c0
 have e4:=mb b0 d0
 have hxy:x*y=a*c*18446744073709551616+(a*d+b*c)*4294967296+b*d:=by rw[hx,hy];grind
 rw[IntKind.wrap_u64 (x*y)]
 rw[hxy]
 rw[bU (x:=b) (by omega) (by omega),bU (x:=d) (by omega) (by omega)]
 rw[bU (x:=b*d) (by omega) (by omega),bU (x:=a*d) (by omega) (by omega),bU (x:=b*c) (by omega) (by omega),bU (x:=a*c) (by omega) (by omega)]
 generalize b*d=bd at *
 generalize a*d=ad at *
 generalize b*c=bc at *
 generalize a*c=ac at *
 rw[bU (x:=ad+bd / 4294967296) (by omega) (by omega)]
 generalize ht:ad+bd / 4294967296=t
 rw[Fv (by omega) (by omega)]
 rw[bU (x:=t % 4294967296) (by omega) (by omega)]
 rw[bU (x:=t % 4294967296+bc) (by omega) (by omega),bU (x:=ac+t / 4294967296) (by omega) (by omega)]
 rw[bU (x:=ac+t / 4294967296+(t % 4294967296+bc) / 4294967296) (by omega) (by omega)]
 congr 1
 ext
 ·simp only;omega
 ·rfl
theorem lQ {m n:Nat} (hm:m<18446744073709551616) (hn:n<18446744073709551616):bn (m:Int) (n:Int)=some (hl (m*n)):=by
 simp only[bn,oo]
 rw[RH (by omega) (by omega) (by omega) (by omega),af,<-iS]
 rfl
theorem vB {n:Nat} (h:n<18446744073709551616):hl n=(0,(n:Int)):=by
 unfold hl
 rw[Nat.div_eq_of_lt h,Nat.mod_eq_of_lt h]
 rfl
theorem E6 {n:Nat} (h:¬ n<18446744073709551616):(hl n).1>0:=by
 unfold hl
 simp only
 omega
theorem xH {a b:Fq} (ha:okF a) (hb:okF b):aO a b=some (vj (qv a*qv b)):=by
 simp only[aO,uC,tj,ha,hb,decide_true,af,bt,e_,h_,cond_true,cond_false,bC,jp]
 have ha':=ha
 have hb':=hb
 obtain ⟨⟨a1,a2⟩,⟨a3,a4⟩,a5⟩:=ha'
 obtain ⟨⟨b1,b2⟩,⟨b3,b4⟩,b5⟩:=hb'
 rw[Li a,Li b,Vi]
 obtain ⟨d,hd⟩:∃d:Nat,a.2=(d:Int):=⟨a.2.toNat,by omega⟩
 obtain ⟨e,he⟩:∃e:Nat,b.2=(e:Int):=⟨b.2.toNat,by omega⟩
 rw[nQ (by omega) (by omega),nQ (by omega) (by omega)]
 simp only[af,hd,he,z9] at *
 rw[bU (x:=(d:Int)) (by omega) (by omega),bU (x:=(e:Int)) (by omega) (by omega),zP _ _ (by omega),af,zP _ _ (by omega),af]
 have sa:a.1.natAbs<=1152921504606846976:=by omega
 have sb:b.1.natAbs<=1152921504606846976:=by omega
 have za:a.1=0↔a.1.natAbs=0:=by omega
 have zb:b.1=0↔b.1.natAbs=0:=by omega
 have hlt:decide (a.1<0)=true->a.1.natAbs≠0:=fun h=>by have:=z12 h;omega
 rw[Int.natAbs_natCast] at a5 b5
 generalize a.1.natAbs=m at *
 generalize b.1.natAbs=n at *
 generalize decide (a.1<0)=s at *
 generalize decide (b.1<0)=t at *
 have hd0:0<d:=by omega
 have he0:0<e:=by omega
 have hg:0<f_ m e:=Nat.gcd_pos_of_pos_right _ he0
 have hh:0<f_ n d:=Nat.gcd_pos_of_pos_right _ hd0
 rw[pZ (show ((f_ m e:Nat):Int)≠0 by omega),pZ (show ((f_ n d:Nat):Int)≠0 by omega)]
 simp only[cond_true,ol]
 have m1:m / f_ m e*f_ m e=m:=Nat.div_mul_cancel (Nat.gcd_dvd_left m e)
 have e1:e / f_ m e*f_ m e=e:=Nat.div_mul_cancel (Nat.gcd_dvd_right m e)
 have n1:n / f_ n d*f_ n d=n:=Nat.div_mul_cancel (Nat.gcd_dvd_left n d)
 have d1:d / f_ n d*f_ n d=d:=Nat.div_mul_cancel (Nat.gcd_dvd_right n d)
 have c1:Nat.Coprime (m / f_ m e) (e / f_ m e):=Nat.coprime_div_gcd_div_gcd hg
 have c2:Nat.Coprime (n / f_ n d) (d / f_ n d):=Nat.coprime_div_gcd_div_gcd hh
 have q1:m / f_ m e<=m:=Nat.div_le_self _ _
 have q2:e / f_ m e<=e:=Nat.div_le_self _ _
 have q3:n / f_ n d<=n:=Nat.div_le_self _ _
 have q4:d / f_ n d<=d:=Nat.div_le_self _ _
 have p2:0<e / f_ m e:=Nat.div_pos (Nat.le_of_dvd he0 (Nat.gcd_dvd_right m e)) hg
 have p4:0<d / f_ n d:=Nat.div_pos (Nat.le_of_dvd hd0 (Nat.gcd_dvd_right n d)) hh
 have x1:m / f_ m e∣m:=Nat.div_dvd_of_dvd (Nat.gcd_dvd_left m e)
 have x2:e / f_ m e∣e:=Nat.div_dvd_of_dvd (Nat.gcd_dvd_right m e)
 have x3:n / f_ n d∣n:=Nat.div_dvd_of_dvd (Nat.gcd_dvd_left n d)
 have x4:d / f_ n d∣d:=Nat.div_dvd_of_dvd (Nat.gcd_dvd_right n d)
 generalize f_ m e=g at *
 generalize f_ n d=h at *
 generalize m / g=m' at *
 generalize e / g=e' at *
 generalize n / h=n' at *
 generalize d / h=d' at *
 have cop:f_ (m'*n') (d'*e')=1:=by
  refine Nat.Coprime.mul_left (Nat.Coprime.mul_right ?_ c1) (Nat.Coprime.mul_right c2 ?_)
  ·exact Nat.Coprime.coprime_dvd_left x1 (Nat.Coprime.coprime_dvd_right x4 a5)
  ·exact Nat.Coprime.coprime_dvd_left x3 (Nat.Coprime.coprime_dvd_right x2 b5)
 have hq:mkRat (sgn (s !=t) (m*n)) (d*e)=mkRat (sgn (s !=t) (m'*n')) (d'*e'):=by
  refine D8 (Nat.mul_pos hd0 he0) (Nat.mul_pos p4 p2) ?_
  rw[<-m1,<-n1,<-d1,<-e1]
  grind
 rw[hq,Ge (Nat.mul_pos p4 p2) cop]
 rw[bU (by omega) (by omega),bU (by omega) (by omega),lQ (by omega) (by omega),af,bU (by omega) (by omega),bU (by omega) (by omega),lQ (by omega) (by omega),af]
 by_cases hN:m'*n'<18446744073709551616
 ·rw[vB hN]
  by_cases hD:d'*e'<18446744073709551616
  ·rw[vB hD]
   simp only[show decide ((0:Int)>0)=false from rfl,cond_false]
   rw[zS _ _ _ hN hD,af]
   have hs:sgn (bif decide (((m'*n':Nat):Int)>0) then !decide (s=t) else false) (m'*n')=sgn (s !=t) (m'*n'):=by
    by_cases h0:m'*n'=0
    ·rw[h0];exact GH _ _
    ·rw[z7 (show ((m'*n':Nat):Int)>0 by omega)]
     cases s<;>cases t<;>rfl
   rw[hs]
  ·have:=E6 hD
   simp only[show decide ((0:Int)>0)=false from rfl,cond_false,z7 this,cond_true]
   rw[if_neg (by omega)]
 ·have:=E6 hN
  simp only[z7 this,cond_true]
  rw[if_neg (by omega)]
theorem vU {n d:Int} (h:0<=d):Int.fdiv n d=n / d:=Int.fdiv_eq_ediv_of_nonneg n h
theorem U5 {n:Nat} (_:n<340282366920938463463374607431768211456):(decide ((hl n).1=0)&&(decide ((hl n).2=0)&&true))=decide (n=0):=by
 rw[Bool.and_true,Bool.eq_iff_iff,z10,decide_eq_true_iff,decide_eq_true_iff,decide_eq_true_iff]
 simp only[hl]
 omega
theorem Ei {t b q r:Nat} (hr:r<b) (h:t=q*b+r):t / b=q/\t % b=r:=by
 subst h
 constructor
 ·rw[rW,Nat.mul_add_div (by omega),Nat.div_eq_of_lt hr,lE]
 ·rw[rW,Nat.mul_add_mod,Nat.mod_eq_of_lt hr]
theorem IR {a b:Prop} [Decidable a] [Decidable b]:(!decide (decide a=decide b))=(decide a !=decide b):=by
 cases decide a<;>cases decide b<;>rfl
end Go.Proofs.YtlfdhaiigdllcaaGreat

namespace Go.Proofs.YtlfdhaiigdllcaaGreat
noncomputable section
open Tryz Dn Dn.Sh
theorem CR {a b:Nat}:dX (hl a) (hl b)=some (decide (a<b)):=by
 simp only[dX,tJ]
 have e:decide (a<b)=(bif decide ((hl a).1<(hl b).1) then true else bif decide ((hl a).1=(hl b).1) then decide ((hl a).2<(hl b).2) else false):=by
  by_cases c1:(hl a).1<(hl b).1
  ·simp only[c1,decide_true,cond_true]
   simp only[hl] at c1
   exact z7 (by omega)
  ·by_cases c2:(hl a).1=(hl b).1
   ·rw[z8 c1,z7 c2,cond_true,cond_false]
    have e2:a<b↔(hl a).2<(hl b).2:=by
     simp only[hl] at c1 c2 ⊢
     omega
    rw[Bool.eq_iff_iff,decide_eq_true_iff,decide_eq_true_iff]
    exact e2
   ·simp only[c1,c2,decide_false,cond_false]
    simp only[hl] at c1 c2
    exact z8 (by omega)
 rw[e]
 cases decide ((hl a).1<(hl b).1)<;>cases decide ((hl a).1=(hl b).1)<;>rfl
theorem zg {m n:Nat}:rU (hl m).2 (hl n).2 0=(((m % 18446744073709551616+n % 18446744073709551616) / 18446744073709551616:Nat):Int):=by
 simp only[rU,hl,z9,Int.toNat_zero,lE]
 rfl
theorem yk {m n:Nat}:qt (hl m).2 (hl n).2 0=(((if m % 18446744073709551616<n % 18446744073709551616 then 1 else 0:Nat):Nat):Int):=by
 simp only[qt,hl,z9,Int.toNat_zero,lE]
 cases h:Nat.blt (m % 18446744073709551616) (n % 18446744073709551616) with
 | true =>
  have h':m % 18446744073709551616<n % 18446744073709551616:=by simpa [Nat.blt_eq] using h
  rw[if_pos h'];rfl
 | false =>
  have h':¬ m % 18446744073709551616<n % 18446744073709551616:=by
   intro h2
   have:Nat.blt (m % 18446744073709551616) (n % 18446744073709551616)=true:=by simpa [Nat.blt_eq] using h2
   rw[this] at h;cases h
  rw[if_neg h'];rfl
theorem Ho {m n:Nat} (h:m+n<340282366920938463463374607431768211456):iP (hl m) (hl n)=some (hl (m+n)):=by
 simp only[iP,oZ,zg]
 have c1:decide ((0:Int)<=(0:Int))=true:=rfl
 have c2:decide ((0:Int)<=(1:Int))=true:=rfl
 rw[c1,c2,z7 (show (0:Int)<=(((m % 18446744073709551616+n % 18446744073709551616) / 18446744073709551616:Nat):Int) by omega),z7 (show (((m % 18446744073709551616+n % 18446744073709551616) / 18446744073709551616:Nat):Int)<=1 by omega)]
 simp only[h_,cT,a_,AP,hl,z9,Int.toNat_zero,lE,dO]
 constructor
 ·show ((_:Nat):Int)=((_:Nat):Int)
  omega
 ·show ((_:Nat):Int)=((_:Nat):Int)
  omega
theorem zy {m n:Nat} (h:n<=m) (hm:m<340282366920938463463374607431768211456):gB (hl m) (hl n)=some (hl (m - n)):=by
 simp only[gB,nO,yk]
 have c1:decide ((0:Int)<=(0:Int))=true:=rfl
 have c2:decide ((0:Int)<=(1:Int))=true:=rfl
 have hb:(if m % 18446744073709551616<n % 18446744073709551616 then 1 else 0:Nat)<=1:=by split<;>omega
 have hc:(if m % 18446744073709551616<n % 18446744073709551616 then 1 else 0:Nat)=1/\m % 18446744073709551616<n % 18446744073709551616\/(if m % 18446744073709551616<n % 18446744073709551616 then 1 else 0:Nat)=0/\¬ m % 18446744073709551616<n % 18446744073709551616:=by split<;>simp_all
 generalize (if m % 18446744073709551616<n % 18446744073709551616 then 1 else 0:Nat)=c at *
 rw[c1,c2,z7 (show (0:Int)<=(c:Int) by omega),z7 (show (c:Int)<=1 by omega)]
 simp only[h_,cT,a_,xA,hl,z9,Int.toNat_zero,Nat.sub_zero,dO]
 constructor
 ·show ((_:Nat):Int)=((_:Nat):Int)
  omega
 ·show ((_:Nat):Int)=((_:Nat):Int)
  omega
def UV (T:ByteArray) (a b:Int):Option Int :=
 bif decide (a>=(256:Int)) then bif decide ((0:Int)<=(8:Int)) then bif inB (aQ .u8 (Int.fdiv a ((2:Int) ^ (8:Nat)))) (256:Nat) then
  some (aQ .i64 (aQ .i64 (b+(8:Int))+aQ .i64 (iZ T (aS (aQ .u8 (Int.fdiv a ((2:Int) ^ (8:Nat)))))))) else none else none
 else bif inB (aQ .u8 a) (256:Nat) then some (aQ .i64 (b+aQ .i64 (iZ T (aS (aQ .u8 a))))) else none
def Ud (T:ByteArray) (a b:Int):Option Int:=bif decide (a>=(65536:Int)) then bif decide ((0:Int)<=(16:Int)) then UV T (Int.fdiv a ((2:Int) ^ (16:Nat))) (aQ .i64 (b+(16:Int))) else none else UV T a b
theorem N1:∃T:ByteArray,(∀i,i<256->0<=iZ T i/\iZ T i<=8/\(0<i->i<2 ^ (iZ T i).toNat/\2 ^ (iZ T i).toNat<=2*i)) /\
  ∀x,jt x=bif decide (x>=(4294967296:Int)) then bif decide ((0:Int)<=(32:Int)) then Ud T (Int.fdiv x ((2:Int) ^ (32:Nat))) 32 else none else Ud T x 0 :=
 ⟨_,by decide +kernel,fun _=>rfl⟩
def BE (n L:Nat):Prop:=n<2 ^ L/\2 ^ L<=2*n
theorem uD {n k L:Nat} (h:BE (n / 2 ^ k) L):BE n (L+k):=by
 obtain ⟨h1,h2⟩:=h
 have hk:0<2 ^ k:=Nat.two_pow_pos k
 unfold BE
 rw[Nat.pow_add]
 constructor
 ·exact (Nat.div_lt_iff_lt_mul hk).1 h1
 ·have h3:n / 2 ^ k*2 ^ k<=n:=Nat.div_mul_le_self n _
  have h4:=qR (2 ^ k) h2
  rw[Nat.mul_assoc] at h4
  omega
theorem LR {x:Int} (h1:0<=x) (h2:x<256):aQ .u8 x=x:=by
 rw[IntKind.wrap_u8];omega
theorem OT {n:Nat} (h0:0<n) (h1:n<18446744073709551616):∃L:Nat,jt (n:Int)=some (L:Int)/\BE n L/\L<=64:=by
 obtain ⟨T,hT,hx⟩:=N1
 have tab:∀i:Nat,0<i->i<256->∃L:Nat,iZ T i=L/\L<=8/\BE i L:=fun i h2 h3=>by
  obtain ⟨a1,a2,a3⟩:=hT i h3
  exact ⟨(iZ T i).toNat,by omega,by omega,a3 h2⟩
 have p8:(2:Int) ^ (8:Nat)=256:=by decide
 have p16:(2:Int) ^ (16:Nat)=65536:=by decide
 have p32:(2:Int) ^ (32:Nat)=4294967296:=by decide
 have stepT:∀a b:Nat,0<a->a<65536->b<=48->∃L:Nat,UV T (a:Int) (b:Int)=some ((L+b:Nat):Int)/\BE a L/\L<=16:=fun a b ha hb hb2=>by
  unfold UV
  by_cases h:a<256
  ·obtain ⟨L,e1,e2,e3⟩:=tab a ha h
   rw[z8 (show ¬ (a:Int)>=256 by omega),cond_false,LR (by omega) (by omega),zC (by omega) (by omega),cond_true,z9,e1,aZ (x:=(L:Int)) (by omega) (by omega),aZ (by omega) (by omega)]
   exact ⟨L,by congr 1;omega,e3,by omega⟩
  ·obtain ⟨L,e1,e2,e3⟩:=tab (a / 256) (by omega) (by omega)
   rw[z7 (show (a:Int)>=256 by omega),cond_true,show decide ((0:Int)<=8)=true from rfl,cond_true,p8,vU (by omega),LR (by omega) (by omega),zC (by omega) (by omega),cond_true,show ((a:Int) / 256).toNat=a / 256 by omega,e1,aZ (x:=(L:Int)) (by omega) (by omega),aZ (x:=(b:Int)+8) (by omega) (by omega),aZ (by omega) (by omega)]
   exact ⟨L+8,by congr 1;omega,uD (k:=8) e3,by omega⟩
 have stepU:∀a b:Nat,0<a->a<4294967296->b<=32->∃L:Nat,Ud T (a:Int) (b:Int)=some ((L+b:Nat):Int)/\BE a L/\L<=32:=fun a b ha hb hb2=>by
  unfold Ud
  by_cases h:a<65536
  ·obtain ⟨L,e1,e2,e3⟩:=stepT a b ha h (by omega)
   rw[z8 (show ¬ (a:Int)>=65536 by omega),cond_false,e1]
   exact ⟨L,rfl,e2,by omega⟩
  ·obtain ⟨L,e1,e2,e3⟩:=stepT (a / 65536) (b+16) (by omega) (by omega) (by omega)
   rw[z7 (show (a:Int)>=65536 by omega),cond_true,show decide ((0:Int)<=16)=true from rfl,cond_true,p16,vU (by omega),aZ (by omega) (by omega),show (a:Int) / 65536=((a / 65536:Nat):Int) by omega,show (b:Int)+16=((b+16:Nat):Int) by omega,e1]
   exact ⟨L+16,by congr 1;omega,uD (k:=16) e2,by omega⟩
 rw[hx]
 by_cases h:n<4294967296
 ·obtain ⟨L,e1,e2,e3⟩:=stepU n 0 h0 h (by omega)
  rw[z8 (show ¬ (n:Int)>=4294967296 by omega),cond_false]
  exact ⟨L,e1,e2,by omega⟩
 ·obtain ⟨L,e1,e2,e3⟩:=stepU (n / 4294967296) 32 (by omega) (by omega) (by omega)
  rw[z7 (show (n:Int)>=4294967296 by omega),cond_true,show decide ((0:Int)<=32)=true from rfl,cond_true,p32,vU (by omega),show (n:Int) / 4294967296=((n / 4294967296:Nat):Int) by omega]
  exact ⟨L+32,e1,uD (k:=32) e2,by omega⟩
theorem J5 {q r U u y1 y0:Int} (hq:q*y1+r=U) (_:0<=u) (hy:0<y1*4294967296+y0) (hge:(U*4294967296+u) / (y1*4294967296+y0)<=q) (ht:q*y0<=4294967296*r+u):q=(U*4294967296+u) / (y1*4294967296+y0):=by
 refine Int.le_antisymm (Int.le_ediv_of_mul_le hy ?_) hge
 rw[Int.mul_add,<-ld]
 omega
theorem Jp {q r U u y1 y0:Int} (hq:q*y1+r=U) (hy:0<y1*4294967296+y0) (hU:U*4294967296+u<(y1*4294967296+y0)*4294967296) (ht:q>=4294967296\/q*y0>4294967296*r+u):(U*4294967296+u) / (y1*4294967296+y0)<=q - 1:=by
 have:(U*4294967296+u) / (y1*4294967296+y0)<q:=by
  refine Int.ediv_lt_of_lt_mul hy ?_
  rcases ht with ht | ht
  ·exact Int.lt_of_lt_of_le hU (by rw[Int.mul_comm q];exact iD ht (by omega))
  ·rw[Int.mul_add,<-ld]
   omega
 omega
theorem Nq {q r U u y1 y0:Int} (hq:q*y1+r=U) (hu:0<=u) (hy:0<y1*4294967296+y0) (h0:0<=y0/\y0<4294967296) (hge:(U*4294967296+u) / (y1*4294967296+y0)<=q - 1) (hr:r+y1>=4294967296) (hq2:1<=q/\q<=4294967297):q - 1=(U*4294967296+u) / (y1*4294967296+y0):=by
 refine Int.le_antisymm (Int.le_ediv_of_mul_le hy ?_) hge
 have e1:(q - 1)*y0<=4294967296*4294967295:=Int.mul_le_mul (by omega) (by omega) h0.1 (by omega)
 rw[Int.mul_add,<-ld,Int.sub_mul q 1 y1,Int.one_mul]
 omega
theorem VB {s:Nat} {a b:Nat} (h:b<2 ^ s):Nat.lor (a*2 ^ s) b=a*2 ^ s+b:=by
 have:=Nat.two_pow_add_eq_or_of_lt h a
 rw[rW a]
 exact this.symm
theorem Ce {α R:Type} {F:(α->Option R)->α->Option R} {J:Int->Option R} {U u y1 y0:Int} (enc:Int->Int->α) (dec:α->Int) (hdec:∀q r,dec (enc q r)=q)
  (hu:0<=u) (h0:0<=y0/\y0<4294967296) (h1:2147483648<=y1/\y1<4294967296) (hU0:0<=U) (hU:U*4294967296+u<(y1*4294967296+y0)*4294967296)
  (hF1:∀again q r,1<=q->q<=4294967297->0<=r->r<4294967296->(q>=4294967296\/q*y0>4294967296*r+u)->F again (enc q r)=bif decide (r+y1>=4294967296) then J (q - 1) else again (enc (q - 1) (r+y1)))
  (hF2:∀again q r,0<=q->q<4294967296->0<=r->r<4294967296->¬ q*y0>4294967296*r+u->F again (enc q r)=J q)
  {q r:Int} (hq:q*y1+r=U) (hq0:0<=q) (hq2:q<=4294967297) (hr0:0<=r) (hr1:r<4294967296) (hge:(U*4294967296+u) / (y1*4294967296+y0)<=q) :
  lpK α R F (enc q r)=J ((U*4294967296+u) / (y1*4294967296+y0)):=by
 have hD:0<=(U*4294967296+u) / (y1*4294967296+y0):=Int.ediv_nonneg (by omega) (by omega)
 refine vF (g:=fun _=>J ((U*4294967296+u) / (y1*4294967296+y0))) (I:=fun x=>∃q r,x=enc q r/\q*y1+r=U/\0<=q/\q<=4294967297/\0<=r/\r<4294967296/\(U*4294967296+u) / (y1*4294967296+y0)<=q) (μ:=fun x=>(dec x).toNat) ?_ ⟨q,r,rfl,hq,hq0,hq2,hr0,hr1,hge⟩ (by rw[hdec];omega)
 rintro _ rec ⟨q,r,rfl,hq,hq0,hq2,hr0,hr1,hge⟩ hrec
 have hy:0<y1*4294967296+y0:=by omega
 by_cases ht:q>=4294967296\/q*y0>4294967296*r+u
 ·have hl:=Jp hq hy hU ht
  rw[hF1 _ _ _ (by omega) hq2 hr0 hr1 ht]
  by_cases hr:r+y1>=4294967296
  ·rw[z7 hr,cond_true,Nq hq hu hy h0 hl hr ⟨by omega,hq2⟩]
  ·rw[z8 hr,cond_false]
   refine hrec _ ⟨q - 1,r+y1,rfl,?_,by omega,by omega,by omega,by omega,hl⟩ (by rw[hdec,hdec];omega)
   rw[Int.sub_mul,Int.one_mul];omega
 ·rw[not_or] at ht
  rw[hF2 _ _ _ hq0 (by omega) hr0 hr1 ht.2,<-J5 hq hu hy hge (by omega)]
theorem Bw {U u y1 y0:Int} (hu:0<=u/\u<4294967296) (h0:0<=y0/\y0<4294967296) (h1:2147483648<=y1/\y1<4294967296) (hU0:0<=U) (hU:U<y1*4294967296+y0) :
  (U / y1)*y1+(U - U / y1*y1)=U/\0<=U / y1/\U / y1<=4294967297/\0<=U - U / y1*y1/\U - U / y1*y1<4294967296/\(U*4294967296+u) / (y1*4294967296+y0)<=U / y1:=by
 have e1:=Int.mul_ediv_add_emod U y1
 have e2:=Int.emod_nonneg U (show y1≠0 by omega)
 have e3:=Int.emod_lt_of_pos U (show 0<y1 by omega)
 rw[Int.mul_comm] at e1
 refine ⟨by omega,Int.ediv_nonneg hU0 (by omega),?_,by omega,by omega,?_⟩
 ·have:U / y1<4294967298:=Int.ediv_lt_of_lt_mul (by omega) (by omega)
  omega
 ·have:(U*4294967296+u) / (y1*4294967296+y0)<U / y1+1:=by
   refine Int.ediv_lt_of_lt_mul (by omega) ?_
   have hq:0<=U / y1:=Int.ediv_nonneg hU0 (by omega)
   have e4:0<=(U / y1+1)*y0:=ph (by omega) h0.1
   rw[Int.mul_add,<-ld,Int.add_mul (U / y1) 1 y1,Int.one_mul]
   omega
  omega
def UW (_ _ Y u0 P q1 un:Int) (q:Int):Option (Int×Int×Unit):=some (aQ .u64 (aQ .u64 (q1*4294967296)+q),Int.fdiv (aQ .u64 (aQ .u64 (aQ .u64 (un*4294967296)+u0) - aQ .u64 (q*Y))) P,())
def dv2 (y1 y0 Y u0 P q1 un:Int):Option (Int×Int×Unit):=lpK (Int×Int×PUnit) (Int×Int×PUnit) (fun again x=>bif (bif decide (x.2.1>=4294967296) then true else decide (aQ .u64 (x.2.1*y0)>aQ .u64 (aQ .u64 (4294967296*x.1)+u0))) then
 (bif decide (aQ .u64 (x.1+y1)>=4294967296) then UW y1 y0 Y u0 P q1 un (aQ .u64 (x.2.1 - 1)) else again (aQ .u64 (x.1+y1),aQ .u64 (x.2.1 - 1),aC)) else UW y1 y0 Y u0 P q1 un x.2.1)
 (aQ .u64 (un - aQ .u64 (aQ .u64 (Int.tdiv un y1)*y1)),aQ .u64 (Int.tdiv un y1),aC)
theorem YH {y1 y0 u0 P q1 un:Int} (hu:0<=u0/\u0<4294967296) (h0:0<=y0/\y0<4294967296) (h1:2147483648<=y1/\y1<4294967296) (hU0:0<=un) (hU:un<y1*4294967296+y0) :
  dv2 y1 y0 (y1*4294967296+y0) u0 P q1 un=UW y1 y0 (y1*4294967296+y0) u0 P q1 un ((un*4294967296+u0) / (y1*4294967296+y0)):=by
 obtain ⟨i1,i2,i3,i4,i5,i6⟩:=Bw (U:=un) hu h0 h1 hU0 hU
 unfold dv2
 rw[Int.tdiv_eq_ediv_of_nonneg hU0]
 have hm:un / y1*y1<=un:=by omega
 have hm0:0<=un / y1*y1:=ph i2 (by omega)
 rw[bU (x:=un / y1) i2 (by omega),bU (x:=un / y1*y1) hm0 (by omega),bU (x:=un - un / y1*y1) (by omega) (by omega)]
 refine Ce (α:=Int×Int×PUnit) (enc:=fun q r=>(r,q,aC)) (dec:=fun x=>x.2.1) (fun _ _=>rfl) hu.1 h0 h1 hU0 (by omega) ?_ ?_ i1 i2 i3 i4 i5 i6
 ·intro again q r g1 g2 g3 g4 g5
  have e1:0<=q*y0:=ph (by omega) h0.1
  have e2:q*y0<=4294967297*4294967295:=Int.mul_le_mul g2 (by omega) h0.1 (by omega)
  simp only
  rw[bU (x:=q*y0) e1 (by omega),bU (x:=4294967296*r) (by omega) (by omega),bU (x:=4294967296*r+u0) (by omega) (by omega),bU (x:=r+y1) (by omega) (by omega),bU (x:=q - 1) (by omega) (by omega)]
  have e:(bif decide (q>=4294967296) then true else decide (q*y0>4294967296*r+u0))=true:=by
   rcases g5 with ht | ht
   ·rw[z7 ht];rfl
   ·rw[z7 ht];cases decide (q>=4294967296)<;>rfl
  rw[e,cT]
 ·intro again q r g1 g2 g3 g4 g5
  have e1:0<=q*y0:=ph (by omega) h0.1
  have e2:q*y0<=4294967297*4294967295:=Int.mul_le_mul (by omega) (by omega) h0.1 (by omega)
  simp only
  rw[bU (x:=q*y0) e1 (by omega),bU (x:=4294967296*r) (by omega) (by omega),bU (x:=4294967296*r+u0) (by omega) (by omega)]
  rw[z8 (show ¬ q>=4294967296 by omega),z8 g5,cF,cF]
def U9 (y1 y0 Y u1 u0 P U:Int) (q1:Int):Option (Int×Int×Unit):=dv2 y1 y0 Y u0 P q1 (aQ .u64 (aQ .u64 (aQ .u64 (U*4294967296)+u1) - aQ .u64 (q1*Y)))
def dv1 (y1 y0 Y u1 u0 P U:Int):Option (Int×Int×Unit):=lpK (Int×Int×PUnit) (Int×Int×PUnit) (fun again x=>bif (bif decide (x.1>=4294967296) then true else decide (aQ .u64 (x.1*y0)>aQ .u64 (aQ .u64 (4294967296*x.2.1)+u1))) then
 (bif decide (aQ .u64 (x.2.1+y1)>=4294967296) then U9 y1 y0 Y u1 u0 P U (aQ .u64 (x.1 - 1)) else again (aQ .u64 (x.1 - 1),aQ .u64 (x.2.1+y1),aC)) else U9 y1 y0 Y u1 u0 P U x.1)
 (aQ .u64 (Int.tdiv U y1),aQ .u64 (U - aQ .u64 (aQ .u64 (Int.tdiv U y1)*y1)),aC)
theorem Zu {y1 y0 u1 u0 P U:Int} (hu:0<=u1/\u1<4294967296) (h0:0<=y0/\y0<4294967296) (h1:2147483648<=y1/\y1<4294967296) (hU0:0<=U) (hU:U<y1*4294967296+y0) :
  dv1 y1 y0 (y1*4294967296+y0) u1 u0 P U=U9 y1 y0 (y1*4294967296+y0) u1 u0 P U ((U*4294967296+u1) / (y1*4294967296+y0)):=by
 obtain ⟨i1,i2,i3,i4,i5,i6⟩:=Bw (U:=U) hu h0 h1 hU0 hU
 unfold dv1
 rw[Int.tdiv_eq_ediv_of_nonneg hU0]
 have hm:U / y1*y1<=U:=by omega
 have hm0:0<=U / y1*y1:=ph i2 (by omega)
 rw[bU (x:=U / y1) i2 (by omega),bU (x:=U / y1*y1) hm0 (by omega),bU (x:=U - U / y1*y1) (by omega) (by omega)]
 refine Ce (α:=Int×Int×PUnit) (enc:=fun q r=>(q,r,aC)) (dec:=fun x=>x.1) (fun _ _=>rfl) hu.1 h0 h1 hU0 (by omega) ?_ ?_ i1 i2 i3 i4 i5 i6
 ·intro again q r g1 g2 g3 g4 g5
  have e1:0<=q*y0:=ph (by omega) h0.1
  have e2:q*y0<=4294967297*4294967295:=Int.mul_le_mul g2 (by omega) h0.1 (by omega)
  simp only
  rw[bU (x:=q*y0) e1 (by omega),bU (x:=4294967296*r) (by omega) (by omega),bU (x:=4294967296*r+u1) (by omega) (by omega),bU (x:=r+y1) (by omega) (by omega),bU (x:=q - 1) (by omega) (by omega)]
  have e:(bif decide (q>=4294967296) then true else decide (q*y0>4294967296*r+u1))=true:=by
   rcases g5 with ht | ht
   ·rw[z7 ht];rfl
   ·rw[z7 ht];cases decide (q>=4294967296)<;>rfl
  rw[e,cT]
 ·intro again q r g1 g2 g3 g4 g5
  have e1:0<=q*y0:=ph (by omega) h0.1
  have e2:q*y0<=4294967297*4294967295:=Int.mul_le_mul (by omega) (by omega) h0.1 (by omega)
  simp only
  rw[bU (x:=q*y0) e1 (by omega),bU (x:=4294967296*r) (by omega) (by omega),bU (x:=4294967296*r+u1) (by omega) (by omega)]
  rw[z8 (show ¬ q>=4294967296 by omega),z8 g5,cF,cF]
theorem aeh {U W Y P:Nat} (hY:9223372036854775808<=Y) (hY2:Y<18446744073709551616) (hW:W<18446744073709551616) (hU:U<Y) :
  dv1 ((Y:Int) / 4294967296) ((Y:Int) % 4294967296) (Y:Int) ((W:Int) / 4294967296) ((W:Int) % 4294967296) (P:Int) (U:Int)=some ((((U*18446744073709551616+W) / Y:Nat):Int),(((U*18446744073709551616+W) % Y / P:Nat):Int),()):=by
 have eY:(Y:Int) / 4294967296*4294967296+(Y:Int) % 4294967296=Y:=by omega
 have h1:=Zu (y1:=(Y:Int) / 4294967296) (y0:=(Y:Int) % 4294967296) (u1:=(W:Int) / 4294967296) (u0:=(W:Int) % 4294967296) (P:=(P:Int)) (U:=(U:Int)) (by omega) (by omega) (by omega) (by omega) (by omega)
 rw[eY] at h1
 rw[h1]
 unfold U9
 obtain ⟨A,hA⟩:∃A:Nat,A=U*4294967296+W / 4294967296:=⟨_,rfl⟩
 have hAi:(U:Int)*4294967296+(W:Int) / 4294967296=(A:Int):=by omega
 rw[hAi]
 have hq1:A / Y<4294967296:=(Nat.div_lt_iff_lt_mul (by omega)).2 (by omega)
 have d1:=Nat.div_add_mod A Y
 have d2:=Nat.mod_lt A (show Y>0 by omega)
 rw[show (A:Int) / (Y:Int)=((A / Y:Nat):Int) from rfl]
 have hun:aQ .u64 (aQ .u64 (aQ .u64 ((U:Int)*4294967296)+(W:Int) / 4294967296) - aQ .u64 (((A / Y:Nat):Int)*(Y:Int)))=((A % Y:Nat):Int):=by
  rw[<-iS,rW (A / Y)]
  generalize A / Y=q1 at *
  generalize Y*q1=m at *
  rw[IntKind.wrap_u64,IntKind.wrap_u64,IntKind.wrap_u64,IntKind.wrap_u64]
  omega
 rw[hun]
 have h2:=YH (y1:=(Y:Int) / 4294967296) (y0:=(Y:Int) % 4294967296) (u0:=(W:Int) % 4294967296) (P:=(P:Int)) (q1:=((A / Y:Nat):Int)) (un:=((A % Y:Nat):Int)) (by omega) (by omega) (by omega) (by omega) (by omega)
 rw[eY] at h2
 rw[h2]
 unfold UW
 obtain ⟨B,hB⟩:∃B:Nat,B=A % Y*4294967296+W % 4294967296:=⟨_,rfl⟩
 have hBi:((A % Y:Nat):Int)*4294967296+(W:Int) % 4294967296=(B:Int):=by omega
 rw[hBi,show (B:Int) / (Y:Int)=((B / Y:Nat):Int) from rfl]
 have hq0:B / Y<4294967296:=(Nat.div_lt_iff_lt_mul (by omega)).2 (by omega)
 have d3:=Nat.div_add_mod B Y
 have d4:=Nat.mod_lt B (show Y>0 by omega)
 have hN:U*18446744073709551616+W=(A / Y*4294967296+B / Y)*Y+B % Y:=by
  rw[lD,Nat.mul_right_comm,rW (A / Y),rW (B / Y)]
  omega
 obtain ⟨n1,n2⟩:=Ei d4 hN
 rw[n1,n2]
 have hrest:aQ .u64 (aQ .u64 (aQ .u64 (((A % Y:Nat):Int)*4294967296)+(W:Int) % 4294967296) - aQ .u64 (((B / Y:Nat):Int)*(Y:Int)))=((B % Y:Nat):Int):=by
  rw[<-iS,rW (B / Y)]
  generalize B / Y=q0 at *
  generalize Y*q0=m at *
  generalize A % Y=r1 at *
  rw[IntKind.wrap_u64,IntKind.wrap_u64,IntKind.wrap_u64,IntKind.wrap_u64]
  omega
 rw[hrest,vU (by omega)]
 generalize A / Y=q1 at *
 generalize B / Y=q0 at *
 rw[bU (x:=(q1:Int)*4294967296) (by omega) (by omega),bU (by omega) (by omega)]
 rfl
theorem Gq (m n:Nat):Int.tmod (m:Int) (n:Int)=((m % n:Nat):Int):=by
 rw[Int.tmod_eq_emod_of_nonneg (by omega)]
 rfl
theorem jnT {α R:Type} (j:α->Option R) (f:(α->Option R)->Option R):jnK α R j f=f j:=Eq.trans rfl rfl
theorem BS {h l y:Nat} (hy:h<y) (hy2:y<18446744073709551616) (hl0:l<18446744073709551616):cH (h:Int) (l:Int) (y:Int)=some ((((h*18446744073709551616+l) / y:Nat):Int),(((h*18446744073709551616+l) % y:Nat):Int),()):=by
 simp only[cH,tR,jnT]
 rw[z8 (show ¬ (y:Int)=0 by omega),cF,z8 (show ¬ (y:Int)<=(h:Int) by omega),cF]
 have hz:nzB (y:Int)=true:=pZ (by omega)
 by_cases h0:h=0
 ·subst h0
  rw[z7 (show ((0:Nat):Int)=0 from rfl),cT,hz,cT,cT,ol,Gq,Nat.zero_mul,d_]
  have:=Nat.div_le_self l y
  generalize l / y=d at *
  rw[bU (by omega) (by omega)]
 ·rw[z8 (show ¬ (h:Int)=0 by omega),cF]
  obtain ⟨L,e1,⟨e2,e3⟩,e4⟩:=OT (n:=y) (by omega) hy2
  simp only[dU,kw,e1,af]
  rw[aZ (x:=64 - (L:Int)) (by omega) (by omega)]
  obtain ⟨s,hs⟩:∃s:Nat,L+s=64:=⟨64 - L,by omega⟩
  have w1:aQ .u64 (64 - (L:Int))=(s:Int):=by rw[bU (by omega) (by omega)];omega
  have w2:aQ .u64 (64 - (s:Int))=(L:Int):=by rw[bU (by omega) (by omega)];omega
  have p2:∀k:Nat,(2:Int) ^ k=((2 ^ k:Nat):Int):=fun k=>by rw[Int.natCast_pow];rfl
  have p32:(2:Int) ^ (32:Nat)=4294967296:=by decide
  simp only[w1,w2,z9,Nat.min_eq_left (show s<=64 by omega),Nat.min_eq_left (show L<=64 by omega),p32]
  simp only[p2]
  have hPQ:2 ^ s*2 ^ L=18446744073709551616:=by rw[<-Nat.pow_add,show s+L=64 by omega]
  have hP:0<2 ^ s:=Nat.two_pow_pos s
  have hQ:0<2 ^ L:=Nat.two_pow_pos L
  have hYlt:y*2 ^ s<18446744073709551616:=by rw[<-hPQ,rW (2 ^ s)];exact Nat.mul_lt_mul_of_pos_right e2 hP
  have hYge:9223372036854775808<=y*2 ^ s:=by
   have:=qR (2 ^ s) e3
   rw[rW (2 ^ L),hPQ,Nat.mul_assoc] at this
   omega
  have hhP:h*2 ^ s+2 ^ s<=y*2 ^ s:=by rw[<-Nat.succ_mul];exact qR _ hy
  have hlQ:l / 2 ^ L<2 ^ s:=by rw[Nat.div_lt_iff_lt_mul hQ,hPQ];exact hl0
  have hlor:aQ .u64 ((Nat.lor (aS (aQ .u64 ((h:Int)*((2 ^ s:Nat):Int)) % mK 18446744073709551616)) (aS (Int.fdiv (l:Int) ((2 ^ L:Nat):Int) % mK 18446744073709551616)):Nat):Int)=((h*2 ^ s+l / 2 ^ L:Nat):Int):=by
   have a1:aQ .u64 ((h:Int)*((2 ^ s:Nat):Int))=((h*2 ^ s:Nat):Int):=by rw[<-iS,bU (by omega) (by omega)]
   have a2:Int.fdiv (l:Int) ((2 ^ L:Nat):Int)=((l / 2 ^ L:Nat):Int):=by rw[vU (by omega)];rfl
   have a3:∀n:Nat,n<18446744073709551616->aS ((n:Int) % mK 18446744073709551616)=n:=fun n hn=>by
    rw[show mK 18446744073709551616=(18446744073709551616:Int) from rfl];omega
   rw[a1,a2,a3 (h*2 ^ s) (by omega),a3 (l / 2 ^ L) (by omega),VB hlQ]
   exact bU (Int.natCast_nonneg _) (by
    have h5:h*2 ^ s+l / 2 ^ L<18446744073709551616:=by omega
    exact Int.ofNat_lt.2 h5)
  have hlo:aQ .u64 ((l:Int)*((2 ^ s:Nat):Int))=((l % 2 ^ L*2 ^ s:Nat):Int):=by
   rw[<-iS,IntKind.wrap_u64]
   have a1:l*2 ^ s=(l / 2 ^ L)*18446744073709551616+l % 2 ^ L*2 ^ s:=by
    rw[<-hPQ,rW (2 ^ s),<-Nat.mul_assoc,<-lD,rW (l / 2 ^ L),Nat.div_add_mod]
   have a2:l % 2 ^ L*2 ^ s<18446744073709551616:=by rw[<-hPQ,rW (2 ^ s)];exact Nat.mul_lt_mul_of_pos_right (Nat.mod_lt _ hQ) hP
   rw[a1]
   generalize l / 2 ^ L=A at *
   generalize l % 2 ^ L*2 ^ s=B at *
   omega
  have hlolt:l % 2 ^ L*2 ^ s<18446744073709551616:=by rw[<-hPQ,rW (2 ^ s)];exact Nat.mul_lt_mul_of_pos_right (Nat.mod_lt _ hQ) hP
  have hN:(h*18446744073709551616+l)*2 ^ s=(h*2 ^ s+l / 2 ^ L)*18446744073709551616+l % 2 ^ L*2 ^ s:=by
   have a1:l*2 ^ s=(l / 2 ^ L)*18446744073709551616+l % 2 ^ L*2 ^ s:=by
    rw[<-hPQ,rW (2 ^ s),<-Nat.mul_assoc,<-lD,rW (l / 2 ^ L),Nat.div_add_mod]
   rw[lD,a1,lD,Nat.mul_right_comm]
   omega
  have hY:aQ .u64 ((y:Int)*((2 ^ s:Nat):Int))=((y*2 ^ s:Nat):Int):=by rw[<-iS,bU (by omega) (by omega)]
  have hdiv:(h*18446744073709551616+l) / y=((h*2 ^ s+l / 2 ^ L)*18446744073709551616+l % 2 ^ L*2 ^ s) / (y*2 ^ s):=by rw[<-hN,Nat.mul_div_mul_right _ _ hP]
  have hmod:((h*18446744073709551616+l) % y)*2 ^ s=((h*2 ^ s+l / 2 ^ L)*18446744073709551616+l % 2 ^ L*2 ^ s) % (y*2 ^ s):=by rw[<-hN,Nat.mul_mod_mul_right]
  rw[hlor,hlo,hY]
  have hU:h*2 ^ s+l / 2 ^ L<y*2 ^ s:=by omega
  have hm:(h*18446744073709551616+l) % y=((h*2 ^ s+l / 2 ^ L)*18446744073709551616+l % 2 ^ L*2 ^ s) % (y*2 ^ s) / 2 ^ s:=by rw[<-hmod,Nat.mul_div_cancel _ hP]
  rw[hdiv,hm]
  generalize h*2 ^ s+l / 2 ^ L=U at *
  generalize l % 2 ^ L*2 ^ s=W at *
  generalize y*2 ^ s=Y at *
  generalize 2 ^ s=P at *
  clear e2 e3 e1 hlor hlo hN hdiv hmod hm hlQ hPQ hhP hY
  have hdv:=aeh (P:=P) hYge hYlt hlolt hU
  rw[<-hdv]
  have c1:decide ((0:Int)<=(s:Int))=true:=z7 (by omega)
  have c2:decide ((0:Int)<=(L:Int))=true:=z7 (by omega)
  have c3:decide ((0:Int)<=(32:Int))=true:=rfl
  have c4:nzB ((Y:Int) / 4294967296)=true:=pZ (by omega)
  have m1:∀n:Nat,n<18446744073709551616->aQ .u64 ((Nat.land (aS ((n:Int) % mK 18446744073709551616)) (aS ((4294967295:Int) % mK 18446744073709551616)):Nat):Int)=(n:Int) % 4294967296:=fun n hn=>by
   rw[Fv (by omega) (by omega),bU (by omega) (by omega)]
  simp only[vU (show (0:Int)<=4294967296 by omega),c1,c2,c3,c4,m1 Y hYlt,m1 W hlolt,jp,Bool.not_not,h_,cT]
  rfl
end
end Go.Proofs.YtlfdhaiigdllcaaGreat

namespace Go.Proofs.YtlfdhaiigdllcaaGreat
open Tryz Dn Dn.Sh
theorem Lv {n b:Nat} (hb0:0<b) (hb:b<18446744073709551616) (hn:n<340282366920938463463374607431768211456):fT (hl n) (b:Int)=some (hl (n / b),((n % b:Nat):Int),()):=by
 have hz:nzB (b:Int)=true:=pZ (by omega)
 obtain ⟨h,l,hh,hl',hnn⟩:∃h l:Nat,h=n / 18446744073709551616/\l=n % 18446744073709551616/\n=h*18446744073709551616+l:=⟨_,_,rfl,rfl,by omega⟩
 have e:hl n=((h:Int),(l:Int)):=by unfold hl;rw[hh,hl']
 rw[e]
 simp only[fT,tT]
 rw[hz,Gq,BS (Nat.mod_lt h hb0) hb (by omega),af]
 have d1:=Nat.div_add_mod h b
 have d2:=Nat.mod_lt h hb0
 obtain ⟨A,hA⟩:∃A,A=h % b*18446744073709551616+l:=⟨_,rfl⟩
 rw[<-hA]
 have d3:=Nat.div_add_mod A b
 have d4:=Nat.mod_lt A hb0
 have d5:A / b<18446744073709551616:=(Nat.div_lt_iff_lt_mul hb0).2 (by
  have:(h % b+1)*18446744073709551616<=b*18446744073709551616:=qR _ d2
  rw[rW 18446744073709551616 b]
  omega)
 have hN:n=(h / b*18446744073709551616+A / b)*b+A % b:=by
  have e1:(h / b*18446744073709551616+A / b)*b=b*(h / b)*18446744073709551616+b*(A / b):=by grind
  rw[e1,hnn]
  generalize b*(h / b)=x at *
  generalize b*(A / b)=y at *
  generalize A % b=r at *
  generalize h % b=r1 at *
  clear e hz hb0 hb hn hh hl' hnn d5 e1
  omega
 obtain ⟨n1,n2⟩:=Ei d4 hN
 rw[n1,n2,ol]
 have d6:h / b<18446744073709551616:=Nat.lt_of_le_of_lt (Nat.div_le_self h b) (by omega)
 generalize h / b=x at *
 generalize A / b=y at *
 rw[bU (x:=(x:Int)) (by omega) (by omega)]
 unfold hl
 rw[show (x*18446744073709551616+y) / 18446744073709551616=x by omega,show (x*18446744073709551616+y) % 18446744073709551616=y by omega]
 rfl
theorem KI {na nb:Int} {da A B:Nat} (ha:f_ na.natAbs da=1) (hA:A∣da) (hAB:f_ A B=1):f_ (na*B+nb*A).natAbs A=1:=by
 have d1:=Nat.gcd_dvd_left (na*B+nb*A).natAbs A
 have d2:=Nat.gcd_dvd_right (na*B+nb*A).natAbs A
 generalize f_ (na*B+nb*A).natAbs A=d at *
 have e1:(d:Int)∣na*B+nb*A:=Int.ofNat_dvd_left.2 d1
 have e2:(d:Int)∣nb*A:=Int.dvd_mul_of_dvd_right (Int.ofNat_dvd.2 d2)
 have e3:(d:Int)∣na*B:=(Int.dvd_iff_dvd_of_dvd_add e1).2 e2
 have e4:d∣na.natAbs*B:=by
  have:=Int.ofNat_dvd_left.1 e3
  rwa [Int.natAbs_mul,Int.natAbs_natCast] at this
 have e5:Nat.Coprime d na.natAbs:=(Nat.Coprime.coprime_dvd_right (Nat.dvd_trans d2 hA) ha).symm
 have e6:d∣B:=Nat.Coprime.dvd_of_dvd_mul_left e5 e4
 have e7:=Nat.dvd_gcd d2 e6
 rw[hAB] at e7
 exact Nat.dvd_one.1 e7
theorem MM {na nb:Int} {da db g A B:Nat} (ha:f_ na.natAbs da=1) (hb:f_ nb.natAbs db=1) (h1:da=A*g) (h2:db=B*g) (hAB:f_ A B=1) (hg:0<g) (hA:0<A) (hB:0<B) {c:Nat} (hc:c=f_ g (na*B+nb*A).natAbs) :
  mkRat na da+mkRat nb db=mkRat (na*B+nb*A) (A*db)/\f_ ((na*B+nb*A).natAbs / c) (A*(db / c))=1/\0<c/\c∣(na*B+nb*A).natAbs/\c∣db:=by
 have hc0:0<c:=by rw[hc];exact Nat.gcd_pos_of_pos_left _ hg
 have k1:f_ (na*B+nb*A).natAbs A=1:=KI ha ⟨g,h1⟩ hAB
 have k2:f_ (na*B+nb*A).natAbs B=1:=by
  rw[Int.add_comm]
  exact KI hb ⟨g,h2⟩ (by rw[Nat.gcd_comm];exact hAB)
 have c1:c∣(na*B+nb*A).natAbs:=by rw[hc];exact Nat.gcd_dvd_right _ _
 have c2:c∣g:=by rw[hc];exact Nat.gcd_dvd_left _ _
 refine ⟨?_,?_,hc0,c1,by rw[h2];exact Nat.dvd_trans c2 (Nat.dvd_mul_left g B)⟩
 ·have p1:0<A*g:=Nat.mul_pos hA hg
  have p2:0<B*g:=Nat.mul_pos hB hg
  have p3:0<A*(B*g):=Nat.mul_pos hA p2
  rw[Rat.mkRat_add_mkRat _ _ (by omega) (by omega),h1,h2,Rat.mkRat_eq_iff (Nat.ne_of_gt (Nat.mul_pos p1 p2)) (by omega)]
  simp only[iS]
  grind
 ·have c3:f_ ((na*B+nb*A).natAbs / c) (g / c)=1:=by
   rw[hc,Nat.gcd_comm]
   exact Nat.gcd_div_gcd_div_gcd_of_pos_left hg
  have hdb:db / c=B*(g / c):=by rw[h2,Nat.mul_div_assoc _ c2]
  have dv:(na*B+nb*A).natAbs / c∣(na*B+nb*A).natAbs:=Nat.div_dvd_of_dvd c1
  rw[hdb]
  exact Nat.Coprime.mul_right (Nat.Coprime.coprime_dvd_left dv k1) (Nat.Coprime.mul_right (Nat.Coprime.coprime_dvd_left dv k2) c3)
theorem I3 {a b:Fq} (ha:okF a) (hb:okF b):cQ a b=some (vj (qv a+qv b)):=by
 obtain ⟨na,da'⟩:=a
 obtain ⟨nb,db'⟩:=b
 have ha':=ha
 have hb':=hb
 unfold okF at ha' hb'
 simp only at ha' hb'
 obtain ⟨⟨a1,a2⟩,⟨a3,a4⟩,a5⟩:=ha'
 obtain ⟨⟨b1,b2⟩,⟨b3,b4⟩,b5⟩:=hb'
 obtain ⟨da,rfl⟩:∃da:Nat,da'=da:=⟨da'.toNat,by omega⟩
 obtain ⟨db,rfl⟩:∃db:Nat,db'=db:=⟨db'.toNat,by omega⟩
 rw[Int.natAbs_natCast] at a5 b5
 simp only[cQ,vr,tj,z7 ha,z7 hb,af,bt,e_,p_,cT,cF,jnT]
 rw[bU (x:=(da:Int)) (by omega) (by omega),bU (x:=(db:Int)) (by omega) (by omega),zP _ _ (by omega),af,nQ (by omega) (by omega),af,nQ (by omega) (by omega)]
 have hg:0<f_ da db:=Nat.gcd_pos_of_pos_left _ (by omega)
 have hgl:f_ da db<=da:=Nat.gcd_le_left _ (by omega)
 obtain ⟨A,hA⟩:∃A,A=da / f_ da db:=⟨_,rfl⟩
 obtain ⟨B,hB⟩:∃B,B=db / f_ da db:=⟨_,rfl⟩
 have hAg:da=A*f_ da db:=by rw[hA,Nat.div_mul_cancel (Nat.gcd_dvd_left _ _)]
 have hBg:db=B*f_ da db:=by rw[hB,Nat.div_mul_cancel (Nat.gcd_dvd_right _ _)]
 have hAB:f_ A B=1:=by rw[hA,hB];exact Nat.gcd_div_gcd_div_gcd_of_pos_left (by omega)
 have hA0:0<A:=by rw[hA];exact Nat.div_pos (Nat.gcd_le_left _ (by omega)) hg
 have hB0:0<B:=by rw[hB];exact Nat.div_pos (Nat.gcd_le_right _ (by omega)) hg
 have hAl:A<=da:=by rw[hA];exact Nat.div_le_self _ _
 have hBl:B<=db:=by rw[hB];exact Nat.div_le_self _ _
 have hz:nzB ((f_ da db:Nat):Int)=true:=pZ (by omega)
 rw[hz,cT,ol,ol,<-hA,<-hB,bU (x:=(A:Int)) (by omega) (by omega),bU (x:=(B:Int)) (by omega) (by omega)]
 have x1:na.natAbs*B<=1152921504606846976*1152921504606846976:=Nat.mul_le_mul (by omega) (by omega)
 have y1:nb.natAbs*A<=1152921504606846976*1152921504606846976:=Nat.mul_le_mul (by omega) (by omega)
 rw[lQ (by omega) (by omega),af,af,cT,lQ (by omega) (by omega),af]
 have hsum:=MM (na:=na) (nb:=nb) a5 b5 hAg hBg hAB hg hA0 hB0 rfl
 generalize f_ da db=g at *
 have hv:qv (na,(da:Int))+qv (nb,(db:Int))=mkRat na da+mkRat nb db:=rfl
 rw[hv,hsum.1]
 simp only[jp,Bool.not_not,cT]
 have tail:∀(s:Bool) (N:Nat),N<=2658455991569831745807614120560689152->sgn s N=na*B+nb*A->(bif decide ((hl N).1=0)&&(decide ((hl N).2=0)&&true) then some (((0:Int),(1:Int)),(0:Int),aC) else
   ah (fT (hl N) (g:Int)) fun t_5=>ah (bZ (g:Int) t_5.2.1) fun t_1=>ah (fT (hl N) t_1) fun t_6=>bif nzB t_1 then ah (bn (A:Int) (aQ .u64 (Int.tdiv (db:Int) t_1))) fun t =>
    bif bif decide (t_6.1.1>0) then true else decide (t.1>0) then some (((0:Int),(0:Int)),(5:Int),aC) else ah (bH s t_6.1.2 t.2) fun t=>some (t.1,t.2.1,aC) else none)=some (vj (mkRat (na*B+nb*A) (A*db))):=by
  intro s N hN hs
  have hNT:(na*B+nb*A).natAbs=N:=by rw[<-hs];unfold sgn;split<;>simp
  rw[hNT] at hsum
  rw[U5 (by omega)]
  by_cases h0:N=0
  ·rw[z7 h0,cT,<-hs,h0,show sgn s 0=0 by unfold sgn;cases s<;>rfl,Rat.zero_mkRat]
   rfl
  ·obtain ⟨c,hc⟩:∃c,c=f_ g N:=⟨_,rfl⟩
   rw[<-hc] at hsum
   obtain ⟨_,s2,s3,s4,s5⟩:=hsum
   have hcg:c<=g:=by rw[hc];exact Nat.gcd_le_left _ hg
   rw[z8 h0,cF,Lv hg (by omega) (by omega),af,zP _ _ (by have:=Nat.mod_lt N hg;generalize N % g=w at *;omega),af,Nat.gcd_comm,<-Nat.gcd_rec,<-hc,Lv s3 (by omega) (by omega),af,pZ (by omega),cT,ol]
   have hdc:db / c<=db:=Nat.div_le_self _ _
   have hdc0:0<db / c:=Nat.div_pos (Nat.le_of_dvd (by omega) s5) s3
   rw[bU (by omega) (by generalize db / c=w at *;omega),lQ (by omega) (by generalize db / c=w at *;omega),af]
   have hNc:N / c<=N:=Nat.div_le_self _ _
   have hval:mkRat (na*B+nb*A) (A*db)=mkRat (sgn s (N / c)) (A*(db / c)):=by
    rw[<-hs]
    refine D8 (Nat.mul_pos hA0 (by omega)) (Nat.mul_pos hA0 hdc0) ?_
    obtain ⟨x,rfl⟩:=s4
    obtain ⟨y,rfl⟩:=s5
    rw[Nat.mul_div_cancel_left _ s3,Nat.mul_div_cancel_left _ s3]
    grind
   rw[hval,Ge (Nat.mul_pos hA0 hdc0) s2]
   have hden:A*(db / c)<=1152921504606846976*1152921504606846976:=Nat.mul_le_mul (by omega) (by omega)
   generalize N / c=n at *
   generalize A*(db / c)=d at *
   by_cases hn:n<18446744073709551616
   ·by_cases hd:d<18446744073709551616
    ·rw[vB hn,vB hd]
     simp only
     rw[show decide ((0:Int)>0)=false from rfl,cF,cF,zS _ _ _ hn hd,af]
    ·rw[vB hn]
     simp only
     rw[show decide ((0:Int)>0)=false from rfl,z7 (E6 hd),cF,cT,if_neg (by omega)]
   ·rw[z7 (E6 hn),cT,cT,if_neg (by omega)]
 have sx:∀{n:Int} {s:Bool},s=decide (n<0)->n=sgn s n.natAbs:=fun {n s} h=>by rw[h];exact td n
 by_cases hsg:decide (na<0)=decide (nb<0)
 ·rw[z7 hsg,cT,Ho (by omega),af]
  refine tail _ _ (by omega) ?_
  have e1:na=sgn (decide (na<0)) na.natAbs:=td na
  have e2:nb=sgn (decide (na<0)) nb.natAbs:=by rw[hsg];exact td nb
  generalize na.natAbs=m at *
  generalize nb.natAbs=n at *
  generalize decide (na<0)=s at *
  rw[e1,e2]
  unfold sgn
  cases s
  ·simp only[Bool.false_eq_true,if_false]
   rw[Int.natCast_add,iS,iS]
  ·simp only[if_true]
   rw[Int.natCast_add,iS,iS]
   grind
 ·have e1:na=sgn (decide (na<0)) na.natAbs:=td na
  have e2:nb=sgn (!decide (na<0)) nb.natAbs:=by
   have:(!decide (na<0))=decide (nb<0):=by
    clear tail sx hsum hv ha hb
    revert hsg
    cases decide (na<0)<;>cases decide (nb<0)<;>simp
   rw[this];exact td nb
  rw[z8 hsg,cF,CR,af]
  by_cases hlt:na.natAbs*B<nb.natAbs*A
  ·rw[z7 hlt,cT,zy (by omega) (by omega),af]
   refine tail _ _ (by omega) ?_
   generalize na.natAbs=m at *
   generalize nb.natAbs=n at *
   generalize decide (na<0)=s at *
   rw[e1,e2]
   have e3:(((n*A - m*B:Nat)):Int)=(n:Int)*A - (m:Int)*B:=by rw[Int.ofNat_sub (Nat.le_of_lt hlt),iS,iS]
   unfold sgn
   cases s
   ·simp only[Bool.false_eq_true,if_false,e_,if_true]
    grind
   ·simp only[if_true,bt,Bool.false_eq_true,if_false]
    grind
  ·rw[z8 hlt,cF,zy (by omega) (by omega),af]
   refine tail _ _ (by omega) ?_
   generalize na.natAbs=m at *
   generalize nb.natAbs=n at *
   generalize decide (na<0)=s at *
   rw[e1,e2]
   have e3:(((m*B - n*A:Nat)):Int)=(m:Int)*B - (n:Int)*A:=by rw[Int.ofNat_sub (Nat.not_lt.1 hlt),iS,iS]
   unfold sgn
   cases s
   ·simp only[Bool.false_eq_true,if_false,e_,if_true]
    grind
   ·simp only[if_true,bt,Bool.false_eq_true,if_false]
    grind
end Go.Proofs.YtlfdhaiigdllcaaGreat

namespace Go.Proofs.YtlfdhaiigdllcaaGreat
namespace Dn
theorem rY {σ α R:Type} {F:(α->Option R)->α->Option R} (n:Nat) (hn:n<=1180591620717411303423) (enc:Nat->σ->α) (b:Nat->σ->(σ->Option R)->Option R) (f:σ->Option R)
  (hb:∀again (i:Nat) s,i<n->F again (enc i s)=b i s (fun s'=>again (enc (i+1) s'))) (hf:∀again s,F again (enc n s)=f s) (s:σ) :
  lpK α R F (enc 0 s)=upF b f n 0 s:=TC n hn enc b f hb hf s
def jS {α:Type} (p:α->Bool):List α->Int->Int
 | [],_=> -1
 | a ::l,i=>bif p a then i else jS p l (i+1)
theorem qe {α:Type} {p:α->Bool}:∀{l:List α} {i:Int},0<=i->(jS p l i<0↔∀a ∈ l,p a=false)
 | [],i,h=>by simp[jS]
 | a ::l,i,h=>by
  unfold jS
  cases hp:p a with
  | true=>simp only[cond_true,List.mem_cons,forall_eq_or_imp,hp];simp;omega
  | false=>simp only[cond_false,List.mem_cons,forall_eq_or_imp,hp,true_and];exact qe (by omega)
theorem NV {α:Type} {p:α->Bool} {l:List α} {d:α} {i:Nat} (h:i<l.length):jS p (l.drop i) i=bif p (l.getD i d) then (i:Int) else jS p (l.drop (i+1)) ((i:Int)+1):=by
 rw[List.drop_eq_getElem_cons h,aI h]
 rfl
theorem LL {α:Type} {p:α->Bool} {d:α}:∀{l:List α} {i:Int},0<=i->0<=jS p l i->i<=jS p l i/\jS p l i<i+l.length/\p (l.getD (jS p l i - i).toNat d)=true
 | [],i,_,h=>by simp[jS] at h
 | a ::l,i,hi,h=>by
  unfold jS at h ⊢
  cases hp:p a with
  | true=>simp[hp];omega
  | false =>
   rw[hp,cond_false] at h
   obtain ⟨h1,h2,h3⟩:=LL (d:=d) (show 0<=i+1 by omega) h
   rw[cond_false]
   refine ⟨by omega,by simp only[j_];omega,?_⟩
   have e:(jS p l (i+1) - i).toNat=(jS p l (i+1) - (i+1)).toNat+1:=by omega
   rw[e,List.getD_cons_succ]
   exact h3
theorem jx {α:Type} {f:(α×Unit)->Option Bool} {d:α} {p:α->Bool} {l:List α} (hl:l.length<=1000000) (h:∀a,a ∈ l->f (a,())=some (p a)) :
  lpK (Int×PUnit) Int (fun (again:Int×PUnit->Option Int) (x:Int×PUnit)=>bif decide (x.1<(↑(aq l):Int)) then bif inB x.1 (aq l) then ah (f
   (aT l (aS x.1) d,aC)) fun (t:Bool)=>bif t then some x.1 else again
   (aQ .i64 (x.1+(1:Int)),aC) else none else some (-1:Int)) ((0:Int),aC)=some (jS p l 0):=by
 refine vF (g:=fun _=>some (jS p l 0)) (I:=fun (x:Int×PUnit)=>0<=x.1/\x.1<=l.length/\jS p (l.drop x.1.toNat) x.1=jS p l 0) (μ:=fun (x:Int×PUnit)=>((l.length:Int) - x.1).toNat) ?_ ⟨by simp,by simp only;omega,rfl⟩ (by simp only;omega)
 rintro ⟨i,_⟩ rec ⟨h0,h1,h2⟩ hrec
 simp only at h0 h1 h2 ⊢
 by_cases hi:i<l.length
 ·obtain ⟨n,rfl⟩:∃n:Nat,i=n:=⟨i.toNat,by omega⟩
  rw[z7 hi,cond_true,zC h0 hi,cond_true,z9,h _ (by rw[aI (by omega)];exact eX (by omega)),af,aZ (by omega) (by omega)]
  rw[z9,NV (d:=d) (by omega)] at h2
  cases hp:p (l.getD n d) with
  | true=>rw[hp,cond_true] at h2;rw[cond_true,h2]
  | false=>rw[hp,cond_false] at h2;rw[cond_false];exact hrec _ ⟨by simp only;omega,by simp only;omega,h2⟩ (by simp only;omega)
 ·rw[z8 hi,cond_false]
  have e:i.toNat=l.length:=by omega
  rw[e,List.drop_length] at h2
  rw[<-h2]
  rfl
theorem rm {R σ:Type} {b:Nat->σ->(σ->Option R)->Option R} {f:σ->Option R} {p:Nat->Bool} {r:Option R} {s:σ} (n:Nat) (hb:∀i (k:σ->Option R),i<n->b i s k=bif p i then k s else r) :
  ∀(k i:Nat),i+k<=n->upF b f k i s=bif (rD i k).all p then f s else r
 | 0,i,_=>rfl
 | k+1,i,h=>by
  simp only[upF,hb i _ (by omega),List.range'_succ,List.all_cons]
  cases hp:p i with
  | true=>exact rm n hb k (i+1) (by omega)
  | false=>rfl
end Dn
end Go.Proofs.YtlfdhaiigdllcaaGreat

namespace Go.Proofs.YtlfdhaiigdllcaaGreat
open Tryz Dn Dn.Sh
def BA (p q:Rat):Int:=if p<q then -1 else if p=q then 0 else 1
theorem MW {a b:Fq} (ha:okF a) (hb:okF b) {M N:Nat} (hM:M=a.1.natAbs*b.2.natAbs) (hN:N=b.1.natAbs*a.2.natAbs) :
  BA (qv a) (qv b)=if a.1<0 then (if b.1<0 then (if N<M then -1 else if M=N then 0 else 1) else -1) else (if b.1<0 then 1 else (if M<N then -1 else if M=N then 0 else 1)):=by
 have e1:=Zh ha hb
 have e2:qv a=qv b↔a.1*b.2=b.1*a.2:=by
  have h1:=SI ha hb
  have h2:=SI hb ha
  constructor
  ·intro h
   have h3:=h1.1 (by rw[h];exact Rat.le_refl)
   have h4:=h2.1 (by rw[h];exact Rat.le_refl)
   omega
  ·intro h
   exact Rat.le_antisymm (h1.2 (by omega)) (h2.2 (by omega))
 obtain ⟨⟨a1,_⟩,_,_⟩:=ha
 obtain ⟨⟨b1,_⟩,_,_⟩:=hb
 have eM:(M:Int)=(a.1.natAbs:Int)*b.2:=by rw[hM,iS,show ((b.2.natAbs:Nat):Int)=b.2 by omega]
 have eN:(N:Int)=(b.1.natAbs:Int)*a.2:=by rw[hN,iS,show ((a.2.natAbs:Nat):Int)=a.2 by omega]
 have sa:a.1*b.2=if a.1<0 then -(M:Int) else M:=by
  split
  ·rw[eM,<-Int.neg_mul];congr 1;omega
  ·rw[eM];congr 1;omega
 have sb:b.1*a.2=if b.1<0 then -(N:Int) else N:=by
  split
  ·rw[eN,<-Int.neg_mul];congr 1;omega
  ·rw[eN];congr 1;omega
 have p1:a.1<0->0<M:=fun h=>by rw[hM];exact Nat.mul_pos (by omega) (by omega)
 have p2:b.1<0->0<N:=fun h=>by rw[hN];exact Nat.mul_pos (by omega) (by omega)
 unfold BA
 simp only[e1,e2,sa,sb]
 clear e1 e2 sa sb eM eN hM hN
 by_cases c1:a.1<0
 ·by_cases c2:b.1<0
  ·simp only[c1,c2,if_true]
   repeat' split
   all_goals first | rfl | omega
  ·have:=p1 c1
   simp only[c1,c2,if_true,if_false]
   repeat' split
   all_goals first | rfl | omega
 ·by_cases c2:b.1<0
  ·have:=p2 c2
   simp only[c1,c2,if_true,if_false]
   repeat' split
   all_goals first | rfl | omega
  ·simp only[c1,c2,if_false]
   repeat' split
   all_goals first | rfl | omega
theorem YP {a b:Fq} (ha:okF a) (hb:okF b):fg a b=some (BA (qv a) (qv b),0,()):=by
 have hs:=MW ha hb rfl rfl
 have ha':=ha
 have hb':=hb
 obtain ⟨⟨a1,a2⟩,⟨a3,a4⟩,_⟩:=ha'
 obtain ⟨⟨b1,b2⟩,⟨b3,b4⟩,_⟩:=hb'
 simp only[fg,vg,tj,z7 ha,z7 hb,af,bt,e_,p_,cT,cF,jnT]
 rw[nQ (by omega) (by omega),af,bU (by omega) (by omega),bU (by omega) (by omega),show b.2=((b.2.natAbs:Nat):Int) by omega,lQ (by omega) (by omega),af,nQ (by omega) (by omega),af,show a.2=((a.2.natAbs:Nat):Int) by omega,lQ (by omega) (by omega),af]
 simp only[IR]
 rw[hs]
 clear hs
 generalize a.1.natAbs*b.2.natAbs=M
 generalize b.1.natAbs*a.2.natAbs=N
 by_cases c1:a.1<0
 ·by_cases c2:b.1<0
  ·rw[if_pos c1,if_pos c2]
   simp only[z7 c1,z7 c2,bne_self_eq_false,cT,cF,CR,af]
   by_cases e:N<M
   ·simp only[z7 e,cT];rw[if_pos e]
   ·simp only[z8 e,cF];rw[if_neg e]
    by_cases e2:M<N
    ·simp only[z7 e2,cT];rw[if_neg (by omega)]
    ·simp only[z8 e2,cF];rw[if_pos (by omega)]
  ·rw[if_pos c1,if_neg c2]
   simp only[z7 c1,z8 c2,Bool.true_bne,e_,cT]
 ·by_cases c2:b.1<0
  ·rw[if_neg c1,if_pos c2]
   simp only[z8 c1,z7 c2,Bool.false_bne,cT,cF]
  ·rw[if_neg c1,if_neg c2]
   simp only[z8 c1,z8 c2,bne_self_eq_false,cF,CR,af]
   by_cases e:M<N
   ·simp only[z7 e,cT];rw[if_pos e]
   ·simp only[z8 e,cF];rw[if_neg e]
    by_cases e2:N<M
    ·simp only[z7 e2,cT];rw[if_neg (by omega)]
    ·simp only[z8 e2,cF];rw[if_pos (by omega)]
end Go.Proofs.YtlfdhaiigdllcaaGreat

namespace Go.Proofs.YtlfdhaiigdllcaaGreat
namespace Dn
end Dn
end Go.Proofs.YtlfdhaiigdllcaaGreat

namespace Go.Proofs.YtlfdhaiigdllcaaGreat
open Tryz Dn Dn.Sh
abbrev Rw:=List Int×Int×Int
abbrev Pg:=List Int×List Rw
abbrev rw0:Rw:=([],(0:Int),(0:Int))
def inC (n:Int):Bool:=decide (-1048576<=n/\n<=1048576)
def inR (n:Int):Bool:=decide (-1073741824<=n/\n<=1073741824)
def Ap (n:Nat) (r:Rw):Bool:=decide (r.1.length=n)&&(decide (1<=r.2.1/\r.2.1<=3)&&(inR r.2.2&&r.1.all inC))
def QO (p:Pg):Bool:=decide (1<=p.1.length/\p.1.length<=12/\p.2.length<=6)
def tB (p:Pg):Bool:=QO p&&(p.1.all inC&&p.2.all (Ap p.1.length))
theorem A9 {α:Type} {p:α->Bool} {l:List α}:decide (jS p l 0>=0)=l.any p:=by
 have:=qe (p:=p) (l:=l) (i:=0) (by omega)
 rw[Bool.eq_iff_iff,decide_eq_true_iff,List.any_eq_true]
 constructor
 ·intro h1
  by_cases h2:∃a ∈ l,p a=true
  ·exact h2
  ·have:jS p l 0<0:=this.2 fun a ha=>by
    cases e:p a with
    | false=>rfl
    | true=>exact (h2 ⟨a,ha,e⟩).elim
   omega
 ·rintro ⟨a,ha,h3⟩
  by_cases h2:jS p l 0<0
  ·rw[this.1 h2 a ha] at h3;cases h3
  ·omega
theorem KU {α:Type} {p:α->Bool} {l:List α}:(l.any fun a=>!p a)=!l.all p:=by
 induction l with
 | nil=>rfl
 | cons a l ih=>simp[ih,Bool.not_and]
theorem zE {α:Type} {p:α->Bool} {l:List α} (d:α):(rD 0 l.length).all (fun i=>p (l.getD i d))=l.all p:=by
 rw[Bool.eq_iff_iff,mv,mv]
 constructor
 ·intro h a ha
  obtain ⟨i,hi,rfl⟩:=List.getElem_of_mem ha
  have:=h i (List.mem_range'.2 ⟨i,hi,by omega⟩)
  rwa [aI hi] at this
 ·intro h i hi
  obtain ⟨k,hk,rfl⟩:=List.mem_range'.1 hi
  rw[aI (by omega)]
  exact h _ (eX _)
theorem Cc {f:(Int×Unit)->Option Bool} {p:Int->Bool} {l:List Int} (hl:l.length<=1000000) (h:∀a,a ∈ l->f (a,())=some (p a)):aL l f=some (l.any p):=by
 have h1:cu l f=some (jS p l 0):=by
  unfold cu kj
  exact jx (f:=f) (d:=(0:Int)) hl h
 simp only[aL,iY,h1,af,A9]
theorem Ni {f:((Int×Int)×Unit)->Option Bool} {p:(Int×Int)->Bool} {l:List (Int×Int)} (hl:l.length<=1000000) (h:∀a,a ∈ l->f (a,())=some (p a)):au l f=some (l.any p):=by
 have h1:aU l f=some (jS p l 0):=by
  unfold aU gG
  exact jx (f:=f) (d:=((0:Int),(0:Int))) hl h
 simp only[au,gQ,h1,af,A9]
theorem Tg (n m:Int) (h0:0<=m) (h1:m<=1099511627776):cX n m=some (!decide (-m<=n/\n<=m)):=by
 have hw:aQ .i64 (0 - m)= -m:=by rw[aZ (by omega) (by omega)];omega
 simp only[cX,ln,hw,bC,jp,h_,cT]
 by_cases g1:n< -m
 ·rw[z7 g1,z8 (show ¬ (-m<=n/\n<=m) by omega)];rfl
 ·rw[z8 g1]
  by_cases g2:n>m
  ·rw[z7 g2,z8 (show ¬ (-m<=n/\n<=m) by omega)];rfl
  ·rw[z8 g2,z7 (show (-m<=n/\n<=m) by omega)];rfl
theorem afW (n:Int):cX n 1048576=some (!inC n):=Tg n _ (by omega) (by omega)
theorem afd (n:Int):cX n 1073741824=some (!inR n):=Tg n _ (by omega) (by omega)
theorem pC (p:Pg):bE p=some (tB p):=by
 obtain ⟨c,rs⟩:=p
 simp only[bE,ov,eD,mD,bC,jp,h_,cT,tB,QO]
 by_cases g1:(c.length:Int)<1
 ·rw[z7 g1,z8 (show ¬ (1<=c.length/\c.length<=12/\rs.length<=6) by omega)]
  rfl
 ·rw[z8 g1]
  by_cases g2:(c.length:Int)>12
  ·rw[z7 g2,z8 (show ¬ (1<=c.length/\c.length<=12/\rs.length<=6) by omega)]
   rfl
  ·rw[z8 g2]
   by_cases g3:(rs.length:Int)>6
   ·rw[z7 g3,z8 (show ¬ (1<=c.length/\c.length<=12/\rs.length<=6) by omega)]
    rfl
   ·rw[z8 g3,z7 (show (1<=c.length/\c.length<=12/\rs.length<=6) by omega)]
    have hc:∀l:List Int,l.length<=1000000->aL l (fun x=>cX x.1 1048576)=some (!l.all inC):=fun l hl=>by
     rw[<-KU]
     exact Cc hl fun a _=>afW a
    simp only[cF,cT,e_,af,hc c (by omega),Bool.true_and]
    cases hcc:c.all inC with
    | false=>rfl
    | true =>
     simp only[bt,cF,Bool.true_and]
     refine (rY (α:=Int×PUnit) rs.length (by omega) (fun i (_:Unit)=>((i:Int),aC)) (fun i s k=>bif Ap c.length (rs.getD i rw0) then k s else some false) (fun _=>some true) ?_ ?_ ()).trans ?_
     ·intro again i _ hi
      have hw:aQ .i64 ((i:Int)+1)=((i+1:Nat):Int):=by rw[aZ (by omega) (by omega)];rfl
      simp only[aH,z7 hi,z7 (show (i:Int)<rs.length by omega),cT,z9,hw]
      obtain ⟨a,k,b,e⟩:∃a k b,aT rs i rw0=(a,k,b):=⟨_,_,_,rfl⟩
      simp only[e,Ap,afd,z7 (show (i:Int)>=0 by omega)]
      by_cases q1:a.length=c.length
      ·have hca:=hc a (by omega)
       simp only[z7 (show (a.length:Int)=c.length by omega),z7 q1,bt,e_,cT,cF,af,hca,Bool.true_and]
       by_cases q2:k<1
       ·simp only[z7 q2,z8 (show ¬ (1<=k/\k<=3) by omega)]
        cases a.all inC<;>simp[af]
       ·by_cases q3:k>3
        ·simp only[z8 q2,z7 q3,z8 (show ¬ (1<=k/\k<=3) by omega)]
         cases a.all inC<;>simp[af]
        ·simp only[z8 q2,z8 q3,z7 (show (1<=k/\k<=3) by omega)]
         cases h1:a.all inC<;>cases h2:inR b<;>simp[af,h2]
      ·simp only[z8 (show ¬ (a.length:Int)=c.length by omega),z8 q1]
       simp[af]
     ·intro again _
      simp
     ·refine (rm (p:=fun i=>Ap c.length (rs.getD i rw0)) (r:=some false) rs.length (fun _ _ _=>rfl) rs.length 0 (by omega)).trans ?_
      rw[zE (p:=Ap c.length) (l:=rs) rw0]
      cases rs.all (Ap c.length)<;>rfl
end Go.Proofs.YtlfdhaiigdllcaaGreat

namespace Go.Proofs.YtlfdhaiigdllcaaGreat
noncomputable section
open Tryz Dn Dn.Sh
abbrev Bk:=ByteArray×Int
abbrev Hd:=ByteArray×Int×Int×Int
abbrev Rp:=ByteArray×List Hd×Bool
abbrev Sy:=List Bk×List Rp
abbrev bk0:Bk:=({ data:={ toList:=[] } },(0:Int))
abbrev hd0:Hd:=({ data:={ toList:=[] } },(0:Int),(0:Int),(0:Int))
abbrev rp0:Rp:=({ data:={ toList:=[] } },[],false)
theorem LK {σ R:Type} {b:Nat->σ->(σ->Option R)->Option R} {f:σ->Option R} {q:Nat->Bool} {g:Nat->σ->σ} {r:Option R} (n:Nat) (hb:∀i s (k:σ->Option R),i<n->b i s k=bif q i then k (g i s) else r) :
  ∀(k i:Nat) (s:σ),i+k<=n->upF b f k i s=bif (rD i k).all q then f ((rD i k).foldl (fun s i=>g i s) s) else r
 | 0,i,s,_=>rfl
 | k+1,i,s,h=>by
  simp only[upF,hb i s _ (by omega),List.range'_succ,List.all_cons,List.foldl_cons]
  cases hp:q i with
  | true=>exact LK n hb k (i+1) _ (by omega)
  | false=>rfl
theorem zG {α R:Type} {p:α->Bool} {d:α} {l:List α} {yes no:Option R} {F:(Int×PUnit->Option R)->Int×PUnit->Option R} (hl:l.length<=1000000)
  (hb:∀again (i:Nat),i<l.length->F again ((i:Int),aC)=bif p (l.getD i d) then again (((i+1:Nat):Int),aC) else no) (hf:∀again,F again ((l.length:Int),aC)=yes) :
  lpK (Int×PUnit) R F ((0:Int),aC)=bif l.all p then yes else no:=by
 refine (rY (α:=Int×PUnit) l.length (by omega) (fun i (_:Unit)=>((i:Int),aC)) (fun i s k=>bif p (l.getD i d) then k s else no) (fun _=>yes) ?_ ?_ ()).trans ?_
 ·intro again i _ hi
  exact hb again i hi
 ·intro again _
  exact hf again
 ·rw[rm l.length (fun i k _=>rfl) l.length 0 (by omega),zE]
theorem EA (x y:ByteArray):∀m:List (ByteArray×Bool),lf str Sh.bool x false (uA str Sh.bool y true m)=(decide (x=y)||lf str Sh.bool x false m)
 | []=>by
  simp only[uA,lf,oI]
  cases decide (x=y)<;>rfl
 | z ::m=>by
  cases h1:decide (y=z.1) with
  | true =>
   have e:=z12 h1
   simp only[uA,oI,h1,cT,lf]
   rw[e]
   cases decide (x=z.1)<;>rfl
  | false =>
   simp only[uA,oI,h1,cF,lf,EA x y m]
   cases h2:decide (x=z.1) with
   | false=>rfl
   | true =>
    have h3:decide (x=y)=false:=z8 fun e=>of_decide_eq_false h1 (by rw[<-e];exact z12 h2)
    rw[h3]
    rfl
def Di (x:ByteArray) (l:List ByteArray):Bool:=l.any fun y=>decide (x=y)
theorem Pb {x:ByteArray} {l:List ByteArray}:Di x l=true↔x ∈ l:=by
 unfold Di
 rw[List.any_eq_true]
 constructor
 ·rintro ⟨y,h1,h2⟩;rw[z12 h2];exact h1
 ·intro h;exact ⟨x,h,z7 rfl⟩
theorem Iv {x:ByteArray} {l:List ByteArray}:Di x l=false↔x ∉ l:=by rw[<-Pb,Bool.not_eq_true]
def CQ (l:List ByteArray):List (ByteArray×Bool):=l.foldl (fun m x=>uA str Sh.bool x true m) []
theorem BW (x:ByteArray):∀(l:List ByteArray) (m:List (ByteArray×Bool)),lf str Sh.bool x false (l.foldl (fun m x=>uA str Sh.bool x true m) m)=(Di x l||lf str Sh.bool x false m)
 | [],m=>rfl
 | y ::l,m=>by
  rw[List.foldl_cons,BW x l,EA,<-Bool.or_assoc]
  congr 1
  unfold Di
  rw[List.any_cons,Bool.or_comm]
theorem EC (x:ByteArray) (l:List ByteArray):lf str Sh.bool x false (CQ l)=Di x l:=by
 unfold CQ
 rw[BW]
 exact Bool.or_false _
theorem BQ (x:ByteArray) (l:List ByteArray):uA str Sh.bool x true (CQ l)=CQ (l++[x]):=by
 unfold CQ
 rw[List.foldl_append]
 rfl
theorem Ev {α:Type} {l:List α} {i:Nat} (d:α) (h:i<l.length):l.take i++[l.getD i d]=l.take (i+1):=by
 rw[aI h,List.take_succ_eq_append_getElem h]
theorem wu {α β:Type} {f:α->β} {l:List α} {d:α} {i:Nat} (h:i<l.length) (e:β):(l.map f).getD i e=f (l.getD i d):=by
 rw[aI (by rw[iN];exact h),aI h,List.getElem_map]
def fbI (s:Sy) (n:ByteArray):Int:=jS (fun b:Bk=>decide (b.1=n)) s.1 0
theorem HS (s:Sy) (n:ByteArray) (hl:s.1.length<=1000000):cW s n=some (fbI s n):=by
 simp only[cW,qa,gv,mY,tn]
 unfold ba iq
 exact congrArg (fun m:Option Int=>ah m fun t=>some t) (jx (f:=fun x:Bk×Unit=>some (decide (x.1.1=n))) (p:=fun b:Bk=>decide (b.1=n)) (d:=bk0) hl (fun a _=>rfl))
def vd (n a b:Int):Bool:=decide (n>=a)&&decide (n<=b)
theorem CO (n a b:Int):bS n a b=some (vd n a b):=by
 simp only[bS,nD,bC,h_,cT,nH,vd]
def FA (f:Int×Int):Bool:=decide (okF f)&&(decide (f.1>=f.2)&&decide (f.1<=100))
theorem R9 (f:Int×Int):gi f=some (FA f):=by
 simp only[gi,oB,tj,af,bC,h_,cT,nH,FA,Bool.and_assoc]
def xV (s:ByteArray):Bool:=decide (s={ data:=#[] })
def vH (s:Sy) (h:Hd) (e:Bool):Bool:=(bif e then decide (h.2.2.1=1)&&decide (h.2.2.2=1) else FA h.2.2) &&
 (bif xV h.1 then decide (h.2.1=0) else !decide (fbI s h.1<0)&&(bif e then decide (h.2.1=1)||decide (h.2.1= -1) else decide (h.2.1=2)||(decide (h.2.1=0)||decide (h.2.1= -2))))
theorem Oi (s:Sy) (h:Hd) (e:Bool) (hl:s.1.length<=1000000):fS s h e=some (vH s h e):=by
 obtain ⟨b,p,n,d⟩:=h
 simp only[fS,pN,R9,HS s _ hl,tn,vH,xV,af]
 generalize decide (fbI s b<0)=g1
 generalize decide (b={ data:=#[] })=g2
 generalize FA (n,d)=g3
 generalize decide (p=0)=p0
 generalize decide (p=1)=p1
 generalize decide (p= -1)=p2
 generalize decide (p=2)=p3
 generalize decide (p= -2)=p4
 generalize decide (n=1)=g4
 generalize decide (d=1)=g5
 cases e with
 | false =>
  cases g3;· rfl
  cases g2;case true=>rfl
  cases g1;case true=>rfl
  cases p3<;>cases p0<;>cases p4<;>rfl
 | true =>
  cases g4;· rfl
  cases g5;· rfl
  cases g2;case true=>rfl
  cases g1;case true=>rfl
  cases p1<;>cases p2<;>rfl
def xb (s:Sy) (r:Rp):Bool:=decide (2<=r.2.1.length/\r.2.1.length<=10)&&((rD 0 r.2.1.length).all (fun i=>vH s (r.2.1.getD i hd0) (decide (i=0)||decide (i=r.2.1.length - 1))) &&
 (!r.2.2||xV (r.2.1.getD (r.2.1.length - 1) hd0).1))
theorem QK (s:Sy) (r:Rp) (hl:s.1.length<=1000000):gN s r=some (xb s r):=by
 obtain ⟨nm,hs,ha⟩:=r
 have hh:=fun h e=>Oi s h e hl
 simp only[gN,pK,CO,hh,af,xb,tn]
 by_cases h2:2<=hs.length/\hs.length<=10
 ·have e:vd (hs.length:Int) 2 10=true:=by
   unfold vd
   rw[z7 (show (hs.length:Int)>=2 by omega),z7 (show (hs.length:Int)<=10 by omega)];rfl
  have hw0:aQ .i64 ((hs.length:Int) - 1)=((hs.length - 1:Nat):Int):=by rw[aZ (by omega) (by omega)];omega
  rw[e,z7 h2]
  simp only[bt,cF,Bool.true_and,hw0]
  refine (rY (α:=Int×PUnit) hs.length (by omega) (fun i (_:Unit)=>((i:Int),aC)) (fun i t k=>bif vH s (hs.getD i hd0) (decide (i=0)||decide (i=hs.length - 1)) then k t else some false) (fun _=>some (!ha||xV (hs.getD (hs.length - 1) hd0).1)) ?_ ?_ ()).trans ?_
  ·intro again i _ hi
   have hw:aQ .i64 ((i:Int)+1)=((i+1:Nat):Int):=by rw[aZ (by omega) (by omega)];rfl
   have e0:decide ((i:Int)=0)=decide (i=0):=decide_eq_decide.2 (by omega)
   have e1:decide ((i:Int)=((hs.length - 1:Nat):Int))=decide (i=hs.length - 1):=decide_eq_decide.2 (by omega)
   simp only[aH,z7 hi,z7 (show (i:Int)<hs.length by omega),cT,z9,hw,e0,e1,bC,jp,h_]
   have e3:(bif decide (i=0) then true else decide (i=hs.length - 1))=(decide (i=0)||decide (i=hs.length - 1)):=by cases decide (i=0)<;>rfl
   rw[e3]
   cases vH s (hs.getD i hd0) (decide (i=0)||decide (i=hs.length - 1))<;>rfl
  ·intro again _
   simp only[z8 (show ¬ (hs.length:Int)<hs.length by omega),cF,aH,z7 (show hs.length - 1<hs.length by omega),z9,xV]
   generalize decide ((aT hs (hs.length - 1) hd0).1={ data:=#[] })=g
   cases ha<;>rfl
  ·rw[rm hs.length (fun i k _=>rfl) hs.length 0 (by omega)]
   cases (rD 0 hs.length).all fun i=>vH s (hs.getD i hd0) (decide (i=0)||decide (i=hs.length - 1))<;>rfl
 ·have e:vd (hs.length:Int) 2 10=false:=by
   unfold vd
   by_cases g:(hs.length:Int)>=2
   ·rw[z7 g,z8 (show ¬ (hs.length:Int)<=10 by omega)];rfl
   ·rw[z8 g];rfl
  rw[e,z8 h2]
  rfl
def CJ (s:Sy) (i:Nat):Bool:=EH (s.1.getD i bk0).1&&(!Di (s.1.getD i bk0).1 ((s.1.map (·.fst)).take i)&&vd (s.1.getD i bk0).2 0 16777216)
def qS (s:Sy) (i:Nat):Bool:=EH (s.2.getD i rp0).1&&(!Di (s.2.getD i rp0).1 (s.1.map (·.fst)++(s.2.map (·.fst)).take i)&&xb s (s.2.getD i rp0))
def Fy (rs:List Rp):Int:=(rD 0 rs.length).foldl (fun h i=>bif (rs.getD i rp0).2.2 then aQ .i64 (h+1) else h) 0
def dz (s:Sy):Bool:=decide (1<=s.1.length/\s.1.length<=6/\1<=s.2.length/\s.2.length<=6)&&((rD 0 s.1.length).all (CJ s)&&((rD 0 s.2.length).all (qS s)&&decide (Fy s.2<=1)))
theorem ww (s:Sy):aK s=some (dz s):=by
 obtain ⟨bs,rs⟩:=s
 simp only[aK,ot,CO,Nl,af,dz]
 by_cases h1:1<=bs.length/\bs.length<=6
 ·have e1:vd (bs.length:Int) 1 6=true:=by
   unfold vd
   rw[z7 (show (bs.length:Int)>=1 by omega),z7 (show (bs.length:Int)<=6 by omega)];rfl
  by_cases h2:1<=rs.length/\rs.length<=6
  ·have e2:vd (rs.length:Int) 1 6=true:=by
    unfold vd
    rw[z7 (show (rs.length:Int)>=1 by omega),z7 (show (rs.length:Int)<=6 by omega)];rfl
   have hr:=fun r=>QK (bs,rs) r (show bs.length<=1000000 by omega)
   simp only[e1,e2,hr,af,bt,e_,p_,cT,cF,z7 (show 1<=bs.length/\bs.length<=6/\1<=rs.length/\rs.length<=6 by omega),Bool.true_and]
   refine (rY (α:=Int×List (ByteArray×Bool)×PUnit) bs.length (by omega) (fun i (_:Unit)=>((i:Int),CQ ((bs.map (·.fst)).take i),aC)) (fun i t k=>bif CJ (bs,rs) i then k t else some false)
    (fun _=>some ((rD 0 rs.length).all (qS (bs,rs))&&decide (Fy rs<=1))) ?_ ?_ ()).trans ?_
   ·intro again i _ hi
    have hw:aQ .i64 ((i:Int)+1)=((i+1:Nat):Int):=by rw[aZ (by omega) (by omega)];rfl
    have hn:(bs.map (·.fst)).take (i+1)=(bs.map (·.fst)).take i++[(bs.getD i bk0).1]:=by
     rw[<-Ev (d:=bk0.1) (by rw[iN];exact hi),wu (d:=bk0) hi]
    simp only[aH,z7 hi,z7 (show (i:Int)<bs.length by omega),cT,z9,hw,EC,BQ,<-hn,CJ,bC,h_]
    generalize Di (aT bs i bk0).1 ((bs.map (·.fst)).take i)=g1
    generalize vd (aT bs i bk0).2 0 16777216=g2
    cases EH (aT bs i bk0).1<;>cases g1<;>cases g2<;>rfl
   ·intro again _
    simp only[z8 (show ¬ (bs.length:Int)<bs.length by omega),cF]
    refine (rY (α:=Int×Int×List (ByteArray×Bool)×PUnit) rs.length (by omega) (fun i (h:Int)=>(h,(i:Int),CQ (bs.map (·.fst)++(rs.map (·.fst)).take i),aC)) (fun i t k=>bif qS (bs,rs) i then k (bif (rs.getD i rp0).2.2 then aQ .i64 (t+1) else t) else some false)
     (fun h=>some (decide (h<=1))) ?_ ?_ 0 |>Eq.trans (by rw[List.take_zero,gO,oK (by rw[iN];omega)];rfl)).trans ?_
    ·intro again i t hi
     have hw:aQ .i64 ((i:Int)+1)=((i+1:Nat):Int):=by rw[aZ (by omega) (by omega)];rfl
     have hn:bs.map (·.fst)++(rs.map (·.fst)).take (i+1)=bs.map (·.fst)++(rs.map (·.fst)).take i++[(rs.getD i rp0).1]:=by
      rw[<-Ev (d:=rp0.1) (by rw[iN];exact hi),wu (d:=rp0) hi,la]
     simp only[aH,z7 hi,z7 (show (i:Int)<rs.length by omega),cT,z9,hw,EC,BQ,<-hn,qS,bC,h_]
     generalize Di (aT rs i rp0).1 (bs.map (·.fst)++(rs.map (·.fst)).take i)=g1
     generalize xb (bs,rs) (aT rs i rp0)=g2
     cases EH (aT rs i rp0).1<;>cases g1<;>cases g2<;>cases (aT rs i rp0).2.2<;>rfl
    ·intro again t
     simp only[z8 (show ¬ (rs.length:Int)<rs.length by omega),cF]
    ·rw[LK (q:=qS (bs,rs)) (g:=fun i t=>bif (rs.getD i rp0).2.2 then aQ .i64 (t+1) else t) rs.length (fun i s k _=>rfl) rs.length 0 _ (by omega)]
     unfold Fy
     cases (rD 0 rs.length).all (qS (bs,rs))<;>rfl
   ·rw[rm bs.length (fun i k _=>rfl) bs.length 0 (by omega)]
    cases (rD 0 bs.length).all (CJ (bs,rs))<;>rfl
  ·have e2:vd (rs.length:Int) 1 6=false:=by
    unfold vd
    by_cases g:(rs.length:Int)>=1
    ·rw[z7 g,z8 (show ¬ (rs.length:Int)<=6 by omega)];rfl
    ·rw[z8 g];rfl
   rw[e1,e2,z8 (show ¬ (1<=bs.length/\bs.length<=6/\1<=rs.length/\rs.length<=6) by omega)]
   rfl
 ·have e1:vd (bs.length:Int) 1 6=false:=by
   unfold vd
   by_cases g:(bs.length:Int)>=1
   ·rw[z7 g,z8 (show ¬ (bs.length:Int)<=6 by omega)];rfl
   ·rw[z8 g];rfl
  rw[e1,z8 (show ¬ (1<=bs.length/\bs.length<=6/\1<=rs.length/\rs.length<=6) by omega)]
  rfl
end
end Go.Proofs.YtlfdhaiigdllcaaGreat

namespace Go.Proofs.YtlfdhaiigdllcaaGreat
namespace Dn
def ab (x:Int):Int:=(x.natAbs:Int)
theorem cn (x:Int):0<=ab x:=by unfold ab;omega
theorem XA (x y:Int):ab (x+y)<=ab x+ab y:=by unfold ab;omega
theorem sJ {x b:Int}:ab x<=b↔ -b<=x/\x<=b:=by unfold ab;omega
theorem qw (x y:Int):ab (x*y)=ab x*ab y:=by
 unfold ab
 rw[Int.natAbs_mul]
 rfl
def sz:Nat->(Nat->Int)->Int
 | 0,_=>0
 | n+1,f=>sz n f+f n
theorem bO:∀{n:Nat} {f g:Nat->Int},(∀i,i<n->f i=g i)->sz n f=sz n g
 | 0,_,_,_=>rfl
 | n+1,f,g,h=>by
  simp only[sz]
  rw[bO (n:=n) fun i hi=>h i (by omega),h n (by omega)]
theorem rN:∀{n:Nat} {f g:Nat->Int},sz n (fun i=>f i+g i)=sz n f+sz n g
 | 0,_,_=>rfl
 | n+1,f,g=>by
  simp only[sz]
  rw[rN]
  omega
theorem jd:∀{n:Nat} {c:Int} {f:Nat->Int},sz n (fun i=>c*f i)=c*sz n f
 | 0,c,_=>by simp[sz]
 | n+1,c,f=>by
  simp only[sz]
  rw[jd,Int.mul_add]
theorem F4 {n:Nat} {c:Int} {f:Nat->Int}:sz n (fun i=>f i*c)=sz n f*c:=by
 rw[Int.mul_comm,<-jd]
 exact bO fun i _=>Int.mul_comm _ _
theorem jJ:∀{n:Nat} {f:Nat->Int},(∀i,i<n->f i=0)->sz n f=0
 | 0,_,_=>rfl
 | n+1,f,h=>by
  simp only[sz]
  rw[jJ fun i hi=>h i (by omega),h n (by omega)]
  rfl
theorem YW {n:Nat} {f:Nat->Int}:sz n (fun i=> - f i)= - sz n f:=by
 have:sz n (fun i=> - f i)=sz n (fun i=>(-1)*f i):=bO fun i _=>by omega
 rw[this,jd]
 omega
theorem B9 {n:Nat} {f g:Nat->Int}:sz n (fun i=>f i - g i)=sz n f - sz n g:=by
 have:sz n (fun i=>f i - g i)=sz n (fun i=>f i+ - g i):=bO fun i _=>by omega
 rw[this,rN,YW]
 omega
theorem ia:∀{n:Nat} {f:Nat->Int} {k:Nat},k<n->(∀i,i<n->i≠k->f i=0)->sz n f=f k
 | n+1,f,k,hk,h=>by
  simp only[sz]
  by_cases e:k=n
  ·subst e
   rw[jJ fun i hi=>h i (by omega) (by omega)]
   omega
  ·rw[ia (k:=k) (by omega) fun i hi hne=>h i (by omega) hne,h n (by omega) (fun e'=>e e'.symm)]
   omega
theorem Ka {n:Nat} {f:Nat->Int} {k l:Nat} (hk:k<n) (hl:l<n) (hkl:k≠l) (h:∀i,i<n->i≠k->i≠l->f i=0):sz n f=f k+f l:=by
 have e:sz n f=sz n (fun i=>(if i=k then f k else 0)+(if i=l then f l else 0)):=bO fun i hi=>by
  by_cases h1:i=k
  ·subst h1;rw[if_pos rfl,if_neg hkl];omega
  ·by_cases h2:i=l
   ·subst h2;rw[if_neg h1,if_pos rfl];omega
   ·rw[if_neg h1,if_neg h2,h i hi h1 h2];rfl
 rw[e,rN,ia hk (f:=fun i=>if i=k then f k else 0) (fun i _ hne=>if_neg hne),ia hl (f:=fun i=>if i=l then f l else 0) (fun i _ hne=>if_neg hne)]
 simp
theorem yd:∀{m n:Nat} {f:Nat->Nat->Int},sz m (fun i=>sz n (fun j=>f i j))=sz n (fun j=>sz m (fun i=>f i j))
 | 0,n,f=>by
  simp only[sz]
  exact (jJ fun _ _=>rfl).symm
 | m+1,n,f=>by
  simp only[sz]
  rw[yd,rN]
theorem qY:∀{n:Nat} {f g:Nat->Int},(∀i,i<n->f i<=g i)->sz n f<=sz n g
 | 0,_,_,_=>pH _
 | n+1,f,g,h=>by
  simp only[sz]
  have:=qY (n:=n) fun i hi=>h i (by omega)
  have:=h n (by omega)
  omega
theorem kr {n:Nat} {f:Nat->Int} (h:∀i,i<n->0<=f i):0<=sz n f:=by
 have:=qY (n:=n) (f:=fun _=>0) (g:=f) h
 rwa [jJ fun _ _=>rfl] at this
theorem Bm:∀{n:Nat} {f:Nat->Int},ab (sz n f)<=sz n (fun i=>ab (f i))
 | 0,_=>by simp[sz,ab]
 | n+1,f=>by
  simp only[sz]
  have:=Bm (n:=n) (f:=f)
  have:=XA (sz n f) (f n)
  omega
def skip (k j:Nat):Nat:=if j<k then j else j+1
def sgd (k:Nat):Int:=if k % 2=0 then 1 else -1
theorem R7 (k:Nat):sgd (k+1)= - sgd k:=by
 unfold sgd
 split<;>split<;>omega
theorem LH (k:Nat) (x:Int):ab (sgd k*x)=ab x:=by
 unfold sgd ab
 split<;>omega
def lG (A:Nat->Nat->Int) (k:Nat):Nat->Nat->Int:=fun i j=>A (i+1) (skip k j)
def det:Nat->(Nat->Nat->Int)->Int
 | 0,_=>1
 | n+1,A=>sz (n+1) fun k=>sgd k*A 0 k*det n (lG A k)
def cO (A:Nat->Nat->Int) (c:Nat) (v:Nat->Int):Nat->Nat->Int:=fun i j=>if j=c then v i else A i j
theorem iI:∀{n:Nat} {A B:Nat->Nat->Int},(∀i j,i<n->j<n->A i j=B i j)->det n A=det n B
 | 0,_,_,_=>rfl
 | n+1,A,B,h=>by
  simp only[det]
  refine bO fun k hk=>?_
  rw[h 0 k (by omega) hk,iI (A:=lG A k) (B:=lG B k) fun i j hi hj=>h (i+1) (skip k j) (by omega) (by unfold skip;split<;>omega)]
theorem uq {A:Nat->Nat->Int} {k:Nat} {v:Nat->Int}:lG (cO A k v) k=lG A k:=by
 funext i j
 unfold lG cO
 rw[if_neg]
 unfold skip
 split<;>omega
def Jl (k c:Nat):Nat:=if c<k then c else c - 1
theorem qx {A:Nat->Nat->Int} {k c:Nat} {v:Nat->Int} (h:k≠c):lG (cO A c v) k=cO (lG A k) (Jl k c) (fun i=>v (i+1)):=by
 funext i j
 unfold lG cO skip Jl
 by_cases h1:j<k<;>by_cases h2:c<k
 ·simp only[h1,h2,if_true]
 ·simp only[h1,h2,if_true,if_false]
  rw[if_neg (by omega),if_neg (by omega)]
 ·simp only[h1,h2,if_true,if_false]
  rw[if_neg (by omega),if_neg (by omega)]
 ·simp only[h1,h2,if_false]
  by_cases h3:j+1=c
  ·rw[if_pos h3,if_pos (by omega)]
  ·rw[if_neg h3,if_neg (by omega)]
theorem pk:∀{n:Nat} {A:Nat->Nat->Int} {c:Nat} {u v:Nat->Int},c<n->det n (cO A c fun i=>u i+v i)=det n (cO A c u)+det n (cO A c v)
 | n+1,A,c,u,v,hc=>by
  simp only[det]
  rw[<-rN]
  refine bO fun k hk=>?_
  by_cases h:k=c
  ·subst h
   simp only[uq]
   have e:∀v:Nat->Int,cO A k v 0 k=v 0:=fun v=>by simp[cO]
   rw[e,e,e,Int.mul_add,Int.add_mul]
  ·have e:∀v:Nat->Int,cO A c v 0 k=A 0 k:=fun v=>by simp[cO,h]
   rw[qx h,qx h,qx h,e,e,e,pk (u:=fun i=>u (i+1)) (v:=fun i=>v (i+1)) (by unfold Jl;split<;>omega),Int.mul_add]
theorem qj:∀{n:Nat} {A:Nat->Nat->Int} {c:Nat} {x:Int} {u:Nat->Int},c<n->det n (cO A c fun i=>x*u i)=x*det n (cO A c u)
 | n+1,A,c,x,u,hc=>by
  simp only[det]
  rw[<-jd]
  refine bO fun k hk=>?_
  by_cases h:k=c
  ·subst h
   simp only[uq]
   have e:∀v:Nat->Int,cO A k v 0 k=v 0:=fun v=>by simp[cO]
   rw[e,e]
   simp only[ld,Int.mul_left_comm]
  ·have e:∀v:Nat->Int,cO A c v 0 k=A 0 k:=fun v=>by simp[cO,h]
   rw[qx h,qx h,e,e,qj (u:=fun i=>u (i+1)) (by unfold Jl;split<;>omega)]
   simp only[ld,Int.mul_left_comm]
theorem Ri {n:Nat} {A:Nat->Nat->Int} {c:Nat} (hc:c<n):det n (cO A c fun _=>0)=0:=by
 have:=qj (n:=n) (A:=A) (x:=0) (u:=fun _=>0) hc
 simpa using this
theorem yw {n:Nat} {A:Nat->Nat->Int} {c:Nat} (hc:c<n):∀{m:Nat} {x:Nat->Int} {u:Nat->Nat->Int},det n (cO A c fun i=>sz m fun l=>x l*u l i)=sz m fun l=>x l*det n (cO A c (u l))
 | 0,x,u=>by simp only[sz];exact Ri hc
 | m+1,x,u=>by
  simp only[sz]
  rw[pk hc,qj hc,yw hc]
theorem Gd:∀{n:Nat} {A:Nat->Nat->Int} {c:Nat},c+1<n->(∀i,i<n->A i c=A i (c+1))->det n A=0
 | n+1,A,c,hc,h=>by
  simp only[det]
  rw[Ka (k:=c) (l:=c+1) (by omega) hc (by omega) fun k hk h1 h2=>?_]
  ·have e:det n (lG A c)=det n (lG A (c+1)):=by
    refine iI fun i j hi hj=>?_
    unfold lG skip
    by_cases h1:j<c
    ·rw[if_pos h1,if_pos (by omega)]
    ·by_cases h2:j=c
     ·subst h2
      rw[if_neg h1,if_pos (by omega)]
      exact (h (i+1) (by omega)).symm
     ·rw[if_neg h1,if_neg (by omega)]
   rw[e,R7,h 0 (by omega)]
   simp only[Int.neg_mul]
   omega
  ·have e:det n (lG A k)=0:=by
    refine Gd (c:=Jl k c) ?_ fun i hi=>?_
    ·unfold Jl;split<;>omega
    ·unfold lG skip Jl
     by_cases h3:c<k
     ·simp only[h3,if_true]
      rw[if_pos (by omega)]
      exact h (i+1) (by omega)
     ·simp only[h3,if_false]
      rw[if_neg (by omega),if_neg (by omega),show c - 1+1=c by omega]
      exact h (i+1) (by omega)
   rw[e,lT]
theorem sr (A:Nat->Nat->Int) (c:Nat):cO A c (fun i=>A i c)=A:=by
 funext i j
 unfold cO
 split
 ·rename_i h;rw[h]
 ·rfl
theorem gI {A:Nat->Nat->Int} {c e:Nat} {u v:Nat->Int} (h:c≠e):cO (cO A c u) e v=cO (cO A e v) c u:=by
 funext i j
 unfold cO
 by_cases h1:j=c<;>by_cases h2:j=e
 ·omega
 ·simp[h1,h]
 ·simp[h2,Ne.symm h]
 ·simp[h1,h2]
theorem Gh {n:Nat} {A:Nat->Nat->Int} {c:Nat} {u v:Nat->Int} (hc:c+1<n):det n (cO (cO A c u) (c+1) v)= - det n (cO (cO A c v) (c+1) u):=by
 have h0:∀w:Nat->Int,det n (cO (cO A c w) (c+1) w)=0:=fun w=>Gd hc fun i _=>by simp[cO]
 have h1:=h0 fun i=>u i+v i
 rw[pk hc,gI (by omega),gI (u:=fun i=>u i+v i) (by omega),pk (by omega),pk (by omega),gI (c:=c+1) (by omega),gI (c:=c+1) (v:=v) (by omega),gI (c:=c+1) (u:=v) (v:=u) (by omega),gI (c:=c+1) (u:=v) (v:=v) (by omega),h0,h0] at h1
 omega
theorem J3:∀{k:Nat} {n:Nat} {A:Nat->Nat->Int} {c:Nat},c+k+1<n->(∀i,i<n->A i c=A i (c+k+1))->det n A=0
 | 0,n,A,c,hc,h=>Gd hc h
 | k+1,n,A,c,hc,h=>by
  have e:A=cO (cO A (c+k+1) fun i=>A i (c+k+1)) (c+k+1+1) fun i=>A i (c+k+1+1):=by
   rw[sr,sr]
  rw[e,Gh (by omega)]
  have:det n (cO (cO A (c+k+1) fun i=>A i (c+k+1+1)) (c+k+1+1) fun i=>A i (c+k+1))=0:=by
   refine J3 (k:=k) (c:=c) (by omega) fun i hi=>?_
   simp only[cO]
   rw[if_neg (by omega),if_neg (by omega),if_neg (by omega)]
   simp only[if_true]
   exact h i hi
  rw[this]
  rfl
theorem nN {n:Nat} {A:Nat->Nat->Int} {a b:Nat} (ha:a<n) (hb:b<n) (hab:a≠b) (h:∀i,i<n->A i a=A i b):det n A=0:=by
 by_cases hlt:a<b
 ·obtain ⟨k,rfl⟩:∃k,b=a+k+1:=⟨b - a - 1,by omega⟩
  exact J3 hb h
 ·obtain ⟨k,rfl⟩:∃k,a=b+k+1:=⟨a - b - 1,by omega⟩
  exact J3 ha fun i hi=>(h i hi).symm
theorem H9 {n:Nat} {A:Nat->Nat->Int} {a b:Nat} {u v:Nat->Int} (ha:a<n) (hb:b<n) (hab:a≠b):det n (cO (cO A a u) b v)= - det n (cO (cO A a v) b u):=by
 have h0:∀w:Nat->Int,det n (cO (cO A a w) b w)=0:=fun w=>nN ha hb hab fun i _=>by simp[cO]
 have h1:=h0 fun i=>u i+v i
 rw[pk hb,gI hab,gI (u:=fun i=>u i+v i) hab,pk ha,pk ha,gI (c:=b) (Ne.symm hab),gI (c:=b) (v:=v) (Ne.symm hab),gI (c:=b) (u:=v) (v:=u) (Ne.symm hab),gI (c:=b) (u:=v) (v:=v) (Ne.symm hab),h0,h0] at h1
 omega
def pz:Nat->(Nat->Int)->Int
 | 0,_=>1
 | n+1,f=>f 0*pz n fun i=>f (i+1)
theorem zM:∀{n:Nat} {f:Nat->Int},(∀i,i<n->0<=f i)->0<=pz n f
 | 0,_,_=>by simp[pz]
 | n+1,f,h=>ph (h 0 (by omega)) (zM fun i hi=>h (i+1) (by omega))
theorem Ly:∀{n:Nat} {f g:Nat->Int},(∀i,i<n->0<=f i/\f i<=g i)->pz n f<=pz n g
 | 0,_,_,_=>pH _
 | n+1,f,g,h=>by
  simp only[pz]
  have h1:=Ly (n:=n) (f:=fun i=>f (i+1)) (g:=fun i=>g (i+1)) fun i hi=>h (i+1) (by omega)
  have h2:=h 0 (by omega)
  have h3:=zM (n:=n) (f:=fun i=>f (i+1)) fun i hi=>(h (i+1) (by omega)).1
  exact Int.mul_le_mul h2.2 h1 h3 (nE h2.1 h2.2)
theorem KD:∀{n k:Nat} {f:Nat->Int},k<=n->sz n (fun j=>f (skip k j))+f k=sz (n+1) f
 | 0,k,f,hk=>by
  have:k=0:=by omega
  subst this
  simp[sz]
 | n+1,k,f,hk=>by
  by_cases h:k=n+1
  ·subst h
   have e:=bO (n:=n+1) (f:=fun j=>f (skip (n+1) j)) (g:=f) fun j hj=>by simp[skip,hj]
   rw[e]
   rfl
  ·have:=KD (n:=n) (k:=k) (f:=f) (by omega)
   simp only[sz] at this ⊢
   have e:f (skip k n)=f (n+1):=by unfold skip;rw[if_neg (by omega)]
   rw[e]
   omega
theorem zB:∀{n:Nat} {A:Nat->Nat->Int},ab (det n A)<=pz n fun i=>sz n fun j=>ab (A i j)
 | 0,A=>by simp[det,pz,ab]
 | n+1,A=>by
  simp only[det,pz]
  refine nE Bm ?_
  have hP:0<=pz n fun i=>sz (n+1) fun j=>ab (A (i+1) j):=zM fun i _=>kr fun j _=>cn _
  refine nE (qY (g:=fun k=>ab (A 0 k)*pz n fun i=>sz (n+1) fun j=>ab (A (i+1) j)) fun k hk=>?_) (by rw[F4];exact pH _)
  rw[ld,LH,qw]
  refine iD (nE zB (Ly fun i hi=>⟨kr fun j _=>cn _,?_⟩)) (cn _)
  have:=KD (n:=n) (k:=k) (f:=fun j=>ab (A (i+1) j)) (by omega)
  have h0:=cn (A (i+1) k)
  simp only[lG]
  omega
def upd (β:Nat->Nat) (r c:Nat):Nat->Nat:=fun k=>if k=r then c else β k
def fp (M:Nat->Nat->Int) (γ:Nat->Nat):Nat->Nat->Int:=fun i k=>M i (γ k)
def dc (m:Nat) (M:Nat->Nat->Int) (γ:Nat->Nat):Int:=det m (fp M γ)
theorem qF (M:Nat->Nat->Int) (β:Nat->Nat) (r c:Nat):fp M (upd β r c)=cO (fp M β) r (fun i=>M i c):=by
 funext i k
 unfold fp upd cO
 split<;>rfl
theorem V4 (β:Nat->Nat) (r c e:Nat):upd (upd β r c) r e=upd β r e:=by
 funext k
 unfold upd
 split<;>rfl
theorem PU (β:Nat->Nat) (r:Nat):upd β r (β r)=β:=by
 funext k
 unfold upd
 split
 ·rename_i h;rw[h]
 ·rfl
structure Tb (m w:Nat) (M T:Nat->Nat->Int) (d:Int) (β:Nat->Nat):Prop where
 dpos:0<d
 lt:∀i,i<m->β i<w
 co:∀k,k<m->∀j,j<w->d*M k j=sz m fun i=>T i j*M k (β i)
 cr:∃σ:Int,σ*σ=1/\d=σ*dc m M β/\∀i,i<m->∀j,j<w->T i j=σ*dc m M (upd β i j)
section
variable {m w:Nat} {M T:Nat->Nat->Int} {d:Int} {β:Nat->Nat}
theorem FX {i k:Nat} (hi:i<m) (hk:k<m) (h:i≠k):dc m M (upd β i (β k))=0:=by
 refine nN hi hk h fun l _=>?_
 unfold fp upd
 rw[if_pos rfl,if_neg (Ne.symm h)]
theorem Tb.basis (h:Tb m w M T d β) {i:Nat} (hi:i<m):T i (β i)=d:=by
 obtain ⟨σ,_,h2,h3⟩:=h.cr
 rw[h3 i hi _ (h.lt i hi),PU,<-h2]
theorem Tb.other (h:Tb m w M T d β) {i k:Nat} (hi:i<m) (hk:k<m) (hik:i≠k):T i (β k)=0:=by
 obtain ⟨σ,_,h2,h3⟩:=h.cr
 rw[h3 i hi _ (h.lt k hk),FX hi hk hik,lT]
theorem Tb.inj (h:Tb m w M T d β) {i k:Nat} (hi:i<m) (hk:k<m) (hb:β i=β k):i=k:=by
 by_cases e:i=k
 ·exact e
 ·have h1:=h.other hi hk e
  rw[<-hb,h.basis hi] at h1
  have:=h.dpos
  omega
theorem Qk (h:Tb m w M T d β) {r i c j:Nat} (hr:r<m) (hi:i<m) (hri:r≠i) (hc:c<w) (hj:j<w) :
  d*d*dc m M (upd (upd β r c) i j)=(T r c*T i j - T i c*T r j)*dc m M β:=by
 obtain ⟨B,hB⟩:∃B,B=fp M β:=⟨_,rfl⟩
 have e1:d*d*dc m M (upd (upd β r c) i j)=det m (cO (cO B r fun q=>d*M q c) i fun q=>d*M q j):=by
  have a1:=qj (n:=m) (A:=cO B r fun q=>d*M q c) (c:=i) (x:=d) (u:=fun q=>M q j) hi
  have a2:=qj (n:=m) (A:=cO B i fun q=>M q j) (c:=r) (x:=d) (u:=fun q=>M q c) hr
  unfold dc
  rw[qF,qF,<-hB,a1,gI (u:=fun q=>d*M q c) hri,a2,gI (u:=fun q=>M q c) hri,ld]
 have e2:det m (cO (cO B r fun q=>d*M q c) i fun q=>d*M q j)=det m (cO (cO B r fun q=>sz m fun k=>T k c*B q k) i fun q=>sz m fun l=>T l j*B q l):=by
  refine iI fun p q hp hq=>?_
  unfold cO
  rw[hB]
  split
  ·exact h.co p hp j hj
  ·split
   ·exact h.co p hp c hc
   ·rfl
 rw[e1,e2,yw hi (x:=fun l=>T l j) (u:=fun l q=>B q l)]
 have e3:∀l,det m (cO (cO B r fun q=>sz m fun k=>T k c*B q k) i fun q=>B q l)=sz m fun k=>T k c*det m (cO (cO B i fun q=>B q l) r fun q=>B q k):=fun l=>by
  rw[gI hri,yw hr (x:=fun k=>T k c) (u:=fun k q=>B q k)]
 have z1:∀k l,k<m->k≠r->k≠i->det m (cO (cO B i fun q=>B q l) r fun q=>B q k)=0:=fun k l hk h1 h2 =>
  nN hr hk h1.symm fun q _=>by simp[cO,h1,h2]
 have z2:∀k l,l<m->l≠r->l≠i->det m (cO (cO B i fun q=>B q l) r fun q=>B q k)=0:=fun k l hl h1 h2 =>
  nN hi hl h2.symm fun q _=>by simp[cO,h1,h2,hri.symm]
 have z3:det m (cO (cO B i fun q=>B q r) r fun q=>B q r)=0:=nN hi hr hri.symm fun q _=>by simp[cO,hri.symm]
 have z4:det m (cO (cO B i fun q=>B q i) r fun q=>B q i)=0:=nN hi hr hri.symm fun q _=>by simp[cO,hri.symm]
 have z5:det m (cO (cO B i fun q=>B q i) r fun q=>B q r)=det m B:=by
  rw[sr,sr]
 have z6:det m (cO (cO B i fun q=>B q r) r fun q=>B q i)= - det m B:=by
  rw[H9 hi hr hri.symm,z5]
 have e4:∀l,l<m->(sz m fun k=>T k c*det m (cO (cO B i fun q=>B q l) r fun q=>B q k))=T r c*det m (cO (cO B i fun q=>B q l) r fun q=>B q r)+T i c*det m (cO (cO B i fun q=>B q l) r fun q=>B q i):=fun l _ =>
  Ka hr hi hri fun k hk h1 h2=>by rw[z1 k l hk h1 h2,lT]
 rw[bO (g:=fun l=>T l j*(T r c*det m (cO (cO B i fun q=>B q l) r fun q=>B q r)+T i c*det m (cO (cO B i fun q=>B q l) r fun q=>B q i))) fun l hl=>by rw[e3 l,e4 l hl]]
 rw[Ka hr hi hri fun l hl h1 h2=>by rw[z2 r l hl h1 h2,z2 i l hl h1 h2];simp]
 rw[z3,z4,z5,z6]
 have:dc m M β=det m B:=by rw[hB];rfl
 rw[this]
 grind
def piv (T:Nat->Nat->Int) (d:Int) (r c i j:Nat):Int:=(T r c*T i j - T i c*T r j) / d
theorem lW (h:Tb m w M T d β) {r i c j:Nat} (hr:r<m) (hi:i<m) (hri:r≠i) (hc:c<w) (hj:j<w):d*piv T d r c i j=T r c*T i j - T i c*T r j:=by
 obtain ⟨σ,h1,h2,_⟩:=h.cr
 have h3:=Qk h hr hi hri hc hj
 have hd:=h.dpos
 have h4:dc m M β=σ*d:=by rw[h2,<-ld,h1,Int.one_mul]
 rw[h4] at h3
 have h5:d*(d*dc m M (upd (upd β r c) i j))=d*((T r c*T i j - T i c*T r j)*σ):=by
  rw[<-ld,h3]
  grind
 have h6:=Int.eq_of_mul_eq_mul_left (by omega) h5
 have h7:T r c*T i j - T i c*T r j=d*(σ*dc m M (upd (upd β r c) i j)):=by
  have:(T r c*T i j - T i c*T r j)*σ*σ=d*dc m M (upd (upd β r c) i j)*σ:=by rw[h6]
  rw[ld,h1,Int.mul_one] at this
  rw[this]
  grind
 unfold piv
 rw[h7,Int.mul_ediv_cancel_left _ (by omega)]
theorem Yr (h:Tb m w M T d β) {σ:Int} (h1:σ*σ=1) (h2:d=σ*dc m M β) {r i c j:Nat} (hr:r<m) (hi:i<m) (hri:r≠i) (hc:c<w) (hj:j<w):piv T d r c i j=σ*dc m M (upd (upd β r c) i j):=by
 have h3:=Qk h hr hi hri hc hj
 have hd:=h.dpos
 have h4:dc m M β=σ*d:=by rw[h2,<-ld,h1,Int.one_mul]
 have h5:=lW h hr hi hri hc hj
 rw[h4,<-h5] at h3
 have h6:(d*d)*dc m M (upd (upd β r c) i j)=(d*d)*(piv T d r c i j*σ):=by rw[h3];grind
 have h7:=Int.eq_of_mul_eq_mul_left (Int.ne_of_gt (Int.mul_pos hd hd)) h6
 rw[h7]
 grind
def sg (x:Int):Int:=if x<0 then -1 else 1
theorem Km (x:Int):sg x*sg x=1:=by unfold sg;split<;>rfl
theorem QQ {x:Int} (h:x≠0):0<sg x*x:=by unfold sg;split<;>omega
def qL (T:Nat->Nat->Int) (d:Int) (r c:Nat):Nat->Nat->Int:=fun i j=>sg (T r c)*(if i=r then T r j else piv T d r c i j)
theorem Tb.step (h:Tb m w M T d β) {r c:Nat} (hr:r<m) (hc:c<w) (he:T r c≠0):Tb m w M (qL T d r c) (sg (T r c)*T r c) (upd β r c):=by
 have hd:=h.dpos
 refine ⟨QQ he,fun i hi=>?_,fun k hk j hj=>?_,?_⟩
 ·unfold upd
  split
  ·exact hc
  ·exact h.lt i hi
 ·have h1:∀i,i<m->d*((if i=r then T r j else piv T d r c i j)*M k (upd β r c i))=(T r c*(T i j*M k (β i)) - T r j*(T i c*M k (β i)))+(if i=r then d*(T r j*M k c) else 0):=fun i hi=>by
   unfold upd
   by_cases e:i=r
   ·subst e
    simp only[if_true]
    grind
   ·simp only[e,if_false,Int.add_zero]
    rw[<-ld,lW h hr hi (Ne.symm e) hc hj]
    grind
  have h2:d*(sz m fun i=>(if i=r then T r j else piv T d r c i j)*M k (upd β r c i))=d*(T r c*M k j):=by
   rw[<-jd,bO h1,rN,B9,jd,jd,<-h.co k hk j hj,<-h.co k hk c hc,ia hr fun i _ hne=>if_neg hne,if_pos rfl]
   grind
  have h3:=Int.eq_of_mul_eq_mul_left (by omega) h2
  have h4:(sz m fun i=>qL T d r c i j*M k (upd β r c i))=sg (T r c)*sz m fun i=>(if i=r then T r j else piv T d r c i j)*M k (upd β r c i):=by
   rw[<-jd]
   exact bO fun i _=>by unfold qL;rw[ld]
  rw[h4,h3,ld]
 ·obtain ⟨σ,h1,h2,h3⟩:=h.cr
  refine ⟨sg (T r c)*σ,?_,?_,fun i hi j hj=>?_⟩
  ·have:=Km (T r c)
   grind
  ·rw[h3 r hr c hc]
   grind
  ·unfold qL
   by_cases e:i=r
   ·subst e
    rw[if_pos rfl,h3 i hi j hj,V4]
    grind
   ·rw[if_neg e,Yr h h1 h2 hr hi (Ne.symm e) hc hj]
    grind
theorem Kv:∀n:Nat,det n (fun i k=>if i=k then 1 else 0)=1
 | 0=>rfl
 | n+1=>by
  simp only[det]
  rw[ia (k:=0) (by omega) fun k _ hk=>by rw[if_neg (Ne.symm hk)];simp]
  have:det n (lG (fun i k=>if i=k then 1 else 0) 0)=det n (fun i k=>if i=k then 1 else 0):=iI fun i j _ _=>by
   unfold lG skip
   simp
  rw[this,Kv n]
  simp[sgd]
theorem Tb.first {a:Nat->Nat} (ha:∀i,i<m->a i<w) (hM:∀k,k<m->∀i,i<m->M k (a i)=if k=i then 1 else 0):Tb m w M M 1 a:=by
 have h1:dc m M a=1:=by
  unfold dc
  rw[<-Kv m]
  exact iI fun i j hi hj=>hM i hi j hj
 refine ⟨by omega,ha,fun k hk j hj=>?_,1,by omega,by rw[h1];rfl,fun i hi j hj=>?_⟩
 ·rw[ia hk fun i hi hne=>by rw[hM k hk i hi,if_neg (Ne.symm hne),lT],hM k hk k hk,if_pos rfl]
  omega
 ·unfold dc
  rw[qF]
  have e:det m (cO (fp M a) i fun q=>M q j)=det m (cO (fp M a) i fun q=>sz m fun k=>M k j*fp M a q k):=by
   refine iI fun p q hp hq=>?_
   unfold cO
   split
   ·show M p j=sz m fun k=>M k j*fp M a p k
    rw[ia hp fun k hk hne=>by unfold fp;rw[hM p hp k hk,if_neg (Ne.symm hne),lT]]
    unfold fp
    rw[hM p hp p hp,if_pos rfl]
    omega
   ·rfl
  rw[e,yw hi (x:=fun k=>M k j) (u:=fun k q=>fp M a q k),ia hi fun k hk hne=>by
   rw[nN hi hk (Ne.symm hne) fun q _=>by simp[cO,hne],lT],sr]
  have:det m (fp M a)=1:=h1
  rw[this]
  omega
theorem Tb.rows (h:Tb m w M T d β) {a:Nat->Nat} (ha:∀i,i<m->a i<w) (hM:∀k,k<m->∀i,i<m->M k (a i)=if k=i then 1 else 0) {i j:Nat} (hi:i<m) (hj:j<w):T i j=sz m fun k=>T i (a k)*M k j:=by
 obtain ⟨σ,h1,h2,h3⟩:=h.cr
 rw[h3 i hi j hj]
 have e:dc m M (upd β i j)=sz m fun k=>M k j*dc m M (upd β i (a k)):=by
  unfold dc
  rw[qF]
  have e:det m (cO (fp M β) i fun q=>M q j)=det m (cO (fp M β) i fun q=>sz m fun k=>M k j*M q (a k)):=by
   refine iI fun p q hp hq=>?_
   unfold cO
   split
   ·show M p j=sz m fun k=>M k j*M p (a k)
    rw[ia hp fun k hk hne=>by rw[hM p hp k hk,if_neg (Ne.symm hne),lT],hM p hp p hp,if_pos rfl]
    omega
   ·rfl
  rw[e,yw hi (x:=fun k=>M k j) (u:=fun k q=>M q (a k))]
  exact bO fun k _=>by rw[qF]
 rw[e,<-jd]
 exact bO fun k hk=>by rw[h3 i hi _ (ha k hk)];grind
theorem Tb.bound (h:Tb m w M T d β) {i j:Nat} (hi:i<m) (hj:j<w):ab (T i j)=ab (dc m M (upd β i j)):=by
 obtain ⟨σ,h1,_,h3⟩:=h.cr
 rw[h3 i hi j hj,qw]
 have h4:ab σ*ab σ=1:=by rw[<-qw,h1];rfl
 have h5:ab σ=1:=by
  have h6:=cn σ
  by_cases h7:ab σ<=1
  ·have:ab σ≠0:=fun e=>by rw[e] at h4;simp at h4
   omega
  ·exfalso
   have:2*2<=ab σ*ab σ:=Int.mul_le_mul (by omega) (by omega) (by omega) h6
   omega
 rw[h5,Int.one_mul]
end
structure Sx where
 T:Nat->Nat->Int
 d:Int
 β:Nat->Nat
def zr (m:Nat) (wc:Nat->Int) (S:Sx) (j:Nat):Int:=wc j*S.d - sz m fun i=>wc (S.β i)*S.T i j
structure Leaves (m R:Nat) (S:Sx) (c r:Nat):Prop where
 lt:r<m
 pos:0<S.T r c
 le:∀i,i<m->0<S.T i c->S.T r R*S.T i c<=S.T i R*S.T r c
 tie:∀i,i<m->0<S.T i c->S.T r R*S.T i c=S.T i R*S.T r c->S.β r<=S.β i
structure EntersB (m N:Nat) (wc:Nat->Int) (S:Sx) (c:Nat):Prop where
 lt:c<N
 neg:zr m wc S c<0
 least:∀j,j<c->0<=zr m wc S j
structure StepAt (m w:Nat) (S S':Sx) (r c:Nat):Prop where
 T:∀i j,i<m->j<w->S'.T i j=if i=r then S.T r j else piv S.T S.d r c i j
 d:S'.d=S.T r c
 β:∀i,i<m->S'.β i=upd S.β r c i
structure Step (m w N R:Nat) (wc:Nat->Int) (S S':Sx) (r c:Nat):Prop where
 enters:EntersB m N wc S c
 leaves:Leaves m R S c r
 at':StepAt m w S S' r c
structure Val (m w N R:Nat) (M:Nat->Nat->Int) (S:Sx):Prop where
 tb:Tb m w M S.T S.d S.β
 feas:∀i,i<m->0<=S.T i R
 ne:∀i,i<m->S.β i≠R
section
variable {m w N R:Nat} {M:Nat->Nat->Int} {wc:Nat->Int}
theorem yO {β β':Nat->Nat} (h:∀i,i<m->β' i=β i):dc m M β'=dc m M β:=iI fun i j _ hj=>by unfold fp;rw[h j hj]
theorem Tb.congr {T T':Nat->Nat->Int} {d:Int} {β β':Nat->Nat} (h:Tb m w M T d β) (hT:∀i j,i<m->j<w->T' i j=T i j) (hβ:∀i,i<m->β' i=β i):Tb m w M T' d β':=by
 refine ⟨h.dpos,fun i hi=>by rw[hβ i hi];exact h.lt i hi,fun k hk j hj=>?_,?_⟩
 ·rw[h.co k hk j hj]
  exact bO fun i hi=>by rw[hT i j hi hj,hβ i hi]
 ·obtain ⟨σ,h1,h2,h3⟩:=h.cr
  refine ⟨σ,h1,by rw[yO hβ];exact h2,fun i hi j hj=>?_⟩
  rw[hT i j hi hj,h3 i hi j hj]
  congr 1
  exact (yO fun k hk=>by unfold upd;rw[hβ k hk]).symm
theorem Val.stepAt {S S':Sx} (h:Val m w N R M S) (hR:R<w) {r c:Nat} (hc:c<w) (hcR:c≠R) (hl:Leaves m R S c r) (hs:StepAt m w S S' r c):Val m w N R M S':=by
 have hr:=hl.lt
 have e1:sg (S.T r c)=1:=by unfold sg;rw[if_neg (by have:=hl.pos;omega)]
 have h1:=h.tb.step hr hc (by have:=hl.pos;omega)
 have h2:=h1.congr (T':=S'.T) (β':=S'.β) (fun i j hi hj=>by rw[hs.T i j hi hj];unfold qL;rw[e1,Int.one_mul]) hs.β
 rw[e1,Int.one_mul,<-hs.d] at h2
 refine ⟨h2,fun i hi=>?_,fun i hi=>?_⟩
 ·rw[hs.T i R hi hR]
  split
  ·exact h.feas r hr
  ·rename_i hne
   have h3:=lW h.tb hr hi (Ne.symm hne) hc hR
   have h4:=h.tb.dpos
   have h5:=hl.pos
   have h6:0<=S.T r c*S.T i R - S.T i c*S.T r R:=by
    by_cases h7:0<S.T i c
    ·have:=hl.le i hi h7
     have e1:=Int.mul_comm (S.T r R) (S.T i c)
     have e2:=Int.mul_comm (S.T i R) (S.T r c)
     omega
    ·have h8:0<=S.T r c*S.T i R:=ph (by omega) (h.feas i hi)
     have h9:0<= -S.T i c*S.T r R:=ph (by omega) (h.feas r hr)
     rw[Int.neg_mul] at h9
     omega
   rw[<-h3] at h6
   exact Int.nonneg_of_mul_nonneg_right h6 h4
 ·rw[hs.β i hi]
  unfold upd
  split
  ·exact hcR
  ·exact h.ne i hi
theorem Hv {S:Sx} (h:Tb m w M S.T S.d S.β) {i:Nat} (hi:i<m):zr m wc S (S.β i)=0:=by
 unfold zr
 rw[ia hi fun k hk hne=>by rw[h.other hk hi hne,lT],h.basis hi]
 omega
theorem yt {S:Sx} (h:Tb m w M S.T S.d S.β) {a:Nat->Nat} (ha:∀i,i<m->a i<w) (hM:∀k,k<m->∀i,i<m->M k (a i)=if k=i then 1 else 0) {j:Nat} (hj:j<w) :
  zr m wc S j=wc j*S.d - sz m fun k=>(sz m fun i=>wc (S.β i)*S.T i (a k))*M k j:=by
 unfold zr
 congr 1
 rw[bO (g:=fun i=>sz m fun k=>wc (S.β i)*S.T i (a k)*M k j) fun i hi=>by
  rw[h.rows ha hM hi hj,<-jd]
  exact bO fun k _=>by rw[ld]]
 rw[yd]
 exact bO fun k _=>F4
theorem Ua {S S':Sx} (h:Tb m w M S.T S.d S.β) {r c j:Nat} (hr:r<m) (hc:c<w) (hj:j<w) (hs:StepAt m w S S' r c):S.d*zr m wc S' j=S.T r c*zr m wc S j - zr m wc S c*S.T r j:=by
 have h1:∀i,i<m->S.d*(wc (S'.β i)*S'.T i j)=(S.T r c*(wc (S.β i)*S.T i j) - S.T r j*(wc (S.β i)*S.T i c))+(if i=r then S.d*(wc c*S.T r j) else 0):=fun i hi=>by
  rw[hs.β i hi,hs.T i j hi hj]
  unfold upd
  by_cases e:i=r
  ·subst e
   simp only[if_true]
   grind
  ·simp only[e,if_false,Int.add_zero]
   have:=lW h hr hi (Ne.symm e) hc hj
   grind
 have h2:S.d*(sz m fun i=>wc (S'.β i)*S'.T i j)=S.T r c*(sz m fun i=>wc (S.β i)*S.T i j) - S.T r j*(sz m fun i=>wc (S.β i)*S.T i c)+S.d*(wc c*S.T r j):=by
  rw[<-jd,bO h1,rN,B9,jd,jd,ia hr fun i _ hne=>if_neg hne,if_pos rfl]
 unfold zr
 rw[Int.mul_sub,h2,hs.d]
 grind
theorem Zb {S S':Sx} (h:Tb m w M S.T S.d S.β) (h':Tb m w M S'.T S'.d S'.β) {a:Nat->Nat} (ha:∀i,i<m->a i<w) (hM:∀k,k<m->∀i,i<m->M k (a i)=if k=i then 1 else 0) {s:Nat} (hs:s<w) :
  S.d*zr m wc S' s=S'.d*zr m wc S s+sz m fun i=>S.T i s*zr m wc S' (S.β i):=by
 have e1:=yt (wc:=wc) h' ha hM hs
 have e2:∀i,i<m->S.T i s*zr m wc S' (S.β i)=S'.d*(wc (S.β i)*S.T i s) - sz m fun k=>(sz m fun i=>wc (S'.β i)*S'.T i (a k))*(S.T i s*M k (S.β i)):=fun i hi=>by
  rw[yt (wc:=wc) h' ha hM (h.lt i hi),Int.mul_sub,<-jd]
  congr 1
  ·grind
  ·exact bO fun k _=>by grind
 rw[bO e2,B9,jd,yd]
 have e3:(sz m fun k=>sz m fun i=>(sz m fun i=>wc (S'.β i)*S'.T i (a k))*(S.T i s*M k (S.β i)))=S.d*sz m fun k=>(sz m fun i=>wc (S'.β i)*S'.T i (a k))*M k s:=by
  rw[<-jd]
  refine bO fun k hk=>?_
  rw[jd,<-h.co k hk s hs]
  grind
 rw[e3,e1]
 unfold zr
 grind
theorem tz {β:Nat->Nat->Nat} {q:Nat}:∀{k i:Nat},(∃p,p<m/\β i p=q)->(¬ ∃p,p<m/\β (i+k) p=q)->∃n,i<=n/\n<i+k/\(∃p,p<m/\β n p=q)/\¬ ∃p,p<m/\β (n+1) p=q
 | 0,i,h1,h2=>(h2 h1).elim
 | k+1,i,h1,h2=>by
  by_cases h:∃p,p<m/\β (i+k) p=q
  ·exact ⟨i+k,by omega,by omega,h,h2⟩
  ·obtain ⟨n,h3,h4,h5,h6⟩:=tz h1 h
   exact ⟨n,h3,by omega,h5,h6⟩
theorem pc {β:Nat->Nat->Nat} {q:Nat}:∀{k i:Nat},(¬ ∃p,p<m/\β i p=q)->(∃p,p<m/\β (i+k) p=q)->∃n,i<=n/\n<i+k/\(¬ ∃p,p<m/\β n p=q)/\∃p,p<m/\β (n+1) p=q
 | 0,i,h1,h2=>(h1 h2).elim
 | k+1,i,h1,h2=>by
  by_cases h:∃p,p<m/\β (i+k) p=q
  ·obtain ⟨n,h3,h4,h5,h6⟩:=pc h1 h
   exact ⟨n,h3,by omega,h5,h6⟩
  ·exact ⟨i+k,by omega,by omega,h,h2⟩
theorem Xc {k:Nat} {f:Nat->Nat}:0<k->∃n,n<k/\∀i,i<k->f i<=f n:=by
 induction k with
 | zero=>intro h;omega
 | succ k ih =>
  intro _
  by_cases hk:k=0
  ·subst hk
   exact ⟨0,by omega,fun i hi=>by rw[show i=0 by omega];exact bY _⟩
  ·obtain ⟨n,h1,h2⟩:=ih (by omega)
   by_cases h3:f k<=f n
   ·refine ⟨n,by omega,fun i hi=>?_⟩
    by_cases h4:i=k
    ·rw[h4];exact h3
    ·exact h2 i (by omega)
   ·refine ⟨k,by omega,fun i hi=>?_⟩
    by_cases h4:i=k
    ·rw[h4];exact bY _
    ·have:=h2 i (by omega);omega
theorem Dx {e x y:Int} (he:0<e) (h:e*x<=e*y):x<=y:=Int.le_of_mul_le_mul_left h he
structure Run (m w N R:Nat) (M:Nat->Nat->Int) (wc:Nat->Int) (k:Nat) (S:Nat->Sx) (r c:Nat->Nat):Prop where
 val:∀n,n<=k->Val m w N R M (S n)
 step:∀n,n<k->Step m w N R wc (S n) (S (n+1)) (r n) (c n)
theorem Run.nocycle {k:Nat} {S:Nat->Sx} {r c:Nat->Nat} {a:Nat->Nat} (ha:∀i,i<m->a i<w) (hM:∀k,k<m->∀i,i<m->M k (a i)=if k=i then 1 else 0) (hN:N<=R) (hR:R<w)
  (h:Run m w N R M wc k S r c) (hk:0<k):¬ ∀i,i<m->(S k).β i=(S 0).β i:=by
 intro hcyc
 have cw:∀n,n<k->c n<w:=fun n hn=>by have:=(h.step n hn).enters.lt;omega
 have dp:∀n,n<=k->0<(S n).d:=fun n hn=>(h.val n hn).tb.dpos
 have vstep:∀n,n<k->zr m wc (S n) R*(S (n+1)).d<=zr m wc (S (n+1)) R*(S n).d/\((S n).T (r n) R≠0->zr m wc (S n) R*(S (n+1)).d<zr m wc (S (n+1)) R*(S n).d):=fun n hn=>by
  have hs:=h.step n hn
  have h1:=Ua (wc:=wc) (h.val n (by omega)).tb hs.leaves.lt (cw n hn) hR hs.at'
  have h2:=hs.enters.neg
  have h3:=(h.val n (by omega)).feas (r n) hs.leaves.lt
  have h4:0<= -zr m wc (S n) (c n)*(S n).T (r n) R:=ph (by omega) h3
  rw[Int.neg_mul] at h4
  rw[hs.at'.d,Int.mul_comm (zr m wc (S (n+1)) R),h1,Int.mul_comm (zr m wc (S n) R)]
  refine ⟨by omega,fun hne=>?_⟩
  have h5:0< -zr m wc (S n) (c n)*(S n).T (r n) R:=Int.mul_pos (by omega) (by omega)
  rw[Int.neg_mul] at h5
  omega
 have vle:∀i j,i+j<=k->zr m wc (S i) R*(S (i+j)).d<=zr m wc (S (i+j)) R*(S i).d:=by
  intro i j
  induction j with
  | zero=>intro _;exact pH _
  | succ j ih =>
   intro hj
   have h1:=ih (by omega)
   have h2:=(vstep (i+j) (by omega)).1
   have d1:=dp i (by omega)
   have d2:=dp (i+j) (by omega)
   have d3:=dp (i+j+1) (by omega)
   refine Dx d2 ?_
   have h3:=z11 h1 (Int.le_of_lt d3)
   have h4:=z11 h2 (Int.le_of_lt d1)
   rw[show i+(j+1)=i+j+1 by omega]
   calc (S (i+j)).d*(zr m wc (S i) R*(S (i+j+1)).d)=zr m wc (S i) R*(S (i+j)).d*(S (i+j+1)).d:=by grind
    _<=zr m wc (S (i+j)) R*(S i).d*(S (i+j+1)).d:=h3
    _=zr m wc (S (i+j)) R*(S (i+j+1)).d*(S i).d:=by grind
    _<=zr m wc (S (i+j+1)) R*(S (i+j)).d*(S i).d:=h4
    _=(S (i+j)).d*(zr m wc (S (i+j+1)) R*(S i).d):=by grind
 have same:(S k).d=(S 0).d/\∀i j,i<m->j<w->(S k).T i j=(S 0).T i j:=by
  obtain ⟨σ,s1,s2,s3⟩:=(h.val k (bY _)).tb.cr
  obtain ⟨τ,t1,t2,t3⟩:=(h.val 0 (by omega)).tb.cr
  rw[yO hcyc] at s2
  have p1:=dp k (bY _)
  have p2:=dp 0 (by omega)
  have e:σ=τ:=by
   have h1:σ*(S k).d=dc m M (S 0).β:=by rw[s2,<-ld,s1,Int.one_mul]
   have h2:τ*(S 0).d=dc m M (S 0).β:=by rw[t2,<-ld,t1,Int.one_mul]
   have pm:∀x:Int,x*x=1->x=1\/x= -1:=fun x hx=>by
    have h4:x.natAbs*x.natAbs=1:=by
     have:=congrArg Int.natAbs hx
     rwa [Int.natAbs_mul] at this
    have h5:x.natAbs=1:=Nat.eq_one_of_mul_eq_one_left h4
    omega
   rcases pm σ s1 with rfl | rfl<;>rcases pm τ t1 with rfl | rfl<;>omega
  refine ⟨by rw[s2,e];exact t2.symm,fun i j hi hj=>?_⟩
  rw[s3 i hi j hj,t3 i hi j hj,e]
  congr 1
  exact yO fun l hl=>by unfold upd;rw[hcyc l hl]
 have vend:zr m wc (S k) R=zr m wc (S 0) R:=by
  unfold zr
  rw[same.1]
  congr 1
  exact bO fun i hi=>by rw[hcyc i hi,same.2 i R hi hR]
 have flat:∀n,n<k->(S n).T (r n) R=0:=fun n hn=>by
  by_cases e:(S n).T (r n) R=0
  ·exact e
  ·exfalso
   have h1:=(vstep n hn).2 e
   have h2:=vle 0 n (by omega)
   have h3:=vle (n+1) (k - (n+1)) (by omega)
   rw[d_] at h2
   rw[show n+1+(k - (n+1))=k by omega,vend,same.1] at h3
   have d0:=dp 0 (by omega)
   have d1:=dp n (by omega)
   have d2:=dp (n+1) (by omega)
   have h4:=Int.mul_lt_mul_of_pos_right h1 d0
   have h5:=z11 h2 (Int.le_of_lt d2)
   have h6:=z11 h3 (Int.le_of_lt d1)
   have:zr m wc (S 0) R*(S n).d*(S (n+1)).d<zr m wc (S 0) R*(S n).d*(S (n+1)).d:=by
    calc zr m wc (S 0) R*(S n).d*(S (n+1)).d<=zr m wc (S n) R*(S 0).d*(S (n+1)).d:=h5
     _=zr m wc (S n) R*(S (n+1)).d*(S 0).d:=by grind
     _<zr m wc (S (n+1)) R*(S n).d*(S 0).d:=h4
     _=zr m wc (S (n+1)) R*(S 0).d*(S n).d:=by grind
     _<=zr m wc (S 0) R*(S (n+1)).d*(S n).d:=h6
     _=zr m wc (S 0) R*(S n).d*(S (n+1)).d:=by grind
   omega
 have zeroStep:∀n q,n<k->((∀i,i<m->(S n).β i=q->(S n).T i R=0)↔(∀i,i<m->(S (n+1)).β i=q->(S (n+1)).T i R=0)):=fun n q hn=>by
  have hs:=h.step n hn
  have hf:=flat n hn
  have htb:=(h.val n (by omega)).tb
  have key:∀i,i<m->i≠r n->((S (n+1)).T i R=0↔(S n).T i R=0):=fun i hi hne=>by
   rw[hs.at'.T i R hi hR,if_neg hne]
   have h1:=lW htb hs.leaves.lt hi (Ne.symm hne) (cw n hn) hR
   rw[hf,lT,Int.sub_zero] at h1
   have h2:=hs.leaves.pos
   have h3:=dp n (by omega)
   constructor
   ·intro e
    rw[e,lT] at h1
    rcases Int.mul_eq_zero.1 h1.symm with h4 | h4
    ·omega
    ·exact h4
   ·intro e
    rw[e,lT] at h1
    rcases Int.mul_eq_zero.1 h1 with h4 | h4
    ·omega
    ·exact h4
  constructor
  ·intro hz i hi hb
   by_cases e:i=r n
   ·rw[e,hs.at'.T _ R hs.leaves.lt hR,if_pos rfl];exact hf
   ·rw[hs.at'.β i hi] at hb
    unfold upd at hb
    rw[if_neg e] at hb
    exact (key i hi e).2 (hz i hi hb)
  ·intro hz i hi hb
   by_cases e:i=r n
   ·rw[e];exact hf
   ·refine (key i hi e).1 (hz i hi ?_)
    rw[hs.at'.β i hi]
    unfold upd
    rw[if_neg e]
    exact hb
 have zeroAll:∀q n,n<=k->((∀i,i<m->(S 0).β i=q->(S 0).T i R=0)↔(∀i,i<m->(S n).β i=q->(S n).T i R=0)):=fun q n=>by
  induction n with
  | zero=>intro _;exact Iff.rfl
  | succ n ih=>intro hn;exact (ih (by omega)).trans (zeroStep n q (by omega))
 have comes:∀n q,n<k->(¬ ∃p,p<m/\(S n).β p=q)->(∃p,p<m/\(S (n+1)).β p=q)->q=c n:=fun n q hn h1 ⟨p,hp,hq⟩=>by
  have hs:=h.step n hn
  rw[hs.at'.β p hp] at hq
  unfold upd at hq
  split at hq
  ·exact hq.symm
  ·exact (h1 ⟨p,hp,hq⟩).elim
 have goes:∀n q,n<k->(∃p,p<m/\(S n).β p=q)->(¬ ∃p,p<m/\(S (n+1)).β p=q)->q=(S n).β (r n):=fun n q hn ⟨p,hp,hq⟩ h1=>by
  have hs:=h.step n hn
  by_cases e:p=r n
  ·rw[<-e];exact hq.symm
  ·refine (h1 ⟨p,hp,?_⟩).elim
   rw[hs.at'.β p hp]
   unfold upd
   rw[if_neg e]
   exact hq
 have Pv:∀n,n<k->¬ ∃p,p<m/\(S n).β p=c n:=fun n hn ⟨p,hp,hq⟩=>by
  have hs:=h.step n hn
  have h1:=hs.enters.neg
  rw[<-hq,Hv (h.val n (by omega)).tb hp] at h1
  omega
 have isIn:∀n,n<k->∃p,p<m/\(S (n+1)).β p=c n:=fun n hn=>by
  have hs:=h.step n hn
  refine ⟨r n,hs.leaves.lt,?_⟩
  rw[hs.at'.β _ hs.leaves.lt]
  unfold upd
  rw[if_pos rfl]
 have ends:∀q,(∃p,p<m/\(S k).β p=q)↔∃p,p<m/\(S 0).β p=q:=fun q=>by
  constructor
  ·rintro ⟨p,hp,hq⟩;exact ⟨p,hp,by rw[<-hcyc p hp];exact hq⟩
  ·rintro ⟨p,hp,hq⟩;exact ⟨p,hp,by rw[hcyc p hp];exact hq⟩
 obtain ⟨ns,hns,hmax⟩:=Xc (f:=c) hk
 have leaves:∃n,n<k/\(S n).β (r n)=c ns:=by
  by_cases h0:∃p,p<m/\(S 0).β p=c ns
  ·obtain ⟨n,h1,h2,h3,h4⟩:=tz (β:=fun n=>(S n).β) (k:=ns) (i:=0) h0 (by rw[d_];exact Pv ns hns)
   exact ⟨n,by omega,(goes n _ (by omega) h3 h4).symm⟩
  ·have h1:¬ ∃p,p<m/\(S k).β p=c ns:=fun e=>h0 ((ends _).1 e)
   obtain ⟨n,h2,h3,h4,h5⟩:=tz (β:=fun n=>(S n).β) (k:=k - (ns+1)) (i:=ns+1) (isIn ns hns) (by rw[show ns+1+(k - (ns+1))=k by omega];exact h1)
   exact ⟨n,by omega,(goes n _ (by omega) h4 h5).symm⟩
 obtain ⟨n,hn,hleave⟩:=leaves
 have hs:=h.step n hn
 have hst:=h.step ns hns
 have vn:=h.val n (by omega)
 have vs:=h.val ns (by omega)
 have hcn:=hmax n hn
 have hne:c n≠c ns:=fun e=>Pv n hn ⟨r n,hs.leaves.lt,by rw[hleave];exact e.symm⟩
 have id:=Zb (wc:=wc) vn.tb vs.tb ha hM (cw n hn)
 have z1:0<=zr m wc (S ns) (c n):=hst.enters.least (c n) (by omega)
 have z2:=hs.enters.neg
 have d1:=dp n (by omega)
 have d2:=dp ns (by omega)
 have hsum:0<sz m fun i=>(S n).T i (c n)*zr m wc (S ns) ((S n).β i):=by
  have h1:0<=(S n).d*zr m wc (S ns) (c n):=ph (by omega) z1
  have h2:0<(S ns).d* -zr m wc (S n) (c n):=Int.mul_pos d2 (by omega)
  rw[Int.mul_neg] at h2
  omega
 have hex:∃i,i<m/\0<(S n).T i (c n)*zr m wc (S ns) ((S n).β i):=by
  by_cases e:∃i,i<m/\0<(S n).T i (c n)*zr m wc (S ns) ((S n).β i)
  ·exact e
  ·exfalso
   have:=qY (n:=m) (f:=fun i=>(S n).T i (c n)*zr m wc (S ns) ((S n).β i)) (g:=fun _=>0) fun i hi=>Int.not_lt.1 fun h'=>e ⟨i,hi,h'⟩
   rw[jJ (f:=fun _=>0) fun _ _=>rfl] at this
   omega
 obtain ⟨i,hi,hpos⟩:=hex
 have hq0:zr m wc (S ns) ((S n).β i)≠0:=fun e=>by rw[e,lT] at hpos;omega
 have hq1:¬ ∃p,p<m/\(S ns).β p=(S n).β i:=fun ⟨p,hp,hq⟩=>hq0 (by rw[<-hq];exact Hv vs.tb hp)
 have hq2:∃p,p<m/\(S n).β p=(S n).β i:=⟨i,hi,rfl⟩
 have hq3:∃n',n'<k/\(S n).β i=c n':=by
  by_cases hlt:ns<n
  ·obtain ⟨n',h1,h2,h3,h4⟩:=pc (β:=fun n=>(S n).β) (k:=n - ns) (i:=ns) hq1 (by rw[show ns+(n - ns)=n by omega];exact hq2)
   exact ⟨n',by omega,comes n' _ (by omega) h3 h4⟩
  ·by_cases h0:∃p,p<m/\(S 0).β p=(S n).β i
   ·obtain ⟨n',h1,h2,h3,h4⟩:=pc (β:=fun n=>(S n).β) (k:=k - ns) (i:=ns) hq1 (by rw[show ns+(k - ns)=k by omega];exact (ends _).2 h0)
    exact ⟨n',by omega,comes n' _ (by omega) h3 h4⟩
   ·obtain ⟨n',h1,h2,h3,h4⟩:=pc (β:=fun n=>(S n).β) (k:=n) (i:=0) h0 (by rw[d_];exact hq2)
    exact ⟨n',by omega,comes n' _ (by omega) h3 h4⟩
 obtain ⟨n',hn',hq4⟩:=hq3
 have hq5:(S n).β i<=c ns:=by rw[hq4];exact hmax n' hn'
 by_cases hqt:(S n).β i=c ns
 ·have:i=r n:=vn.tb.inj hi hs.leaves.lt (by rw[hqt,hleave])
  rw[this,hleave] at hpos
  have h1:=hs.leaves.pos
  have h2:=hst.enters.neg
  have h3:0<(S n).T (r n) (c n)* -zr m wc (S ns) (c ns):=Int.mul_pos h1 (by omega)
  rw[Int.mul_neg] at h3
  omega
 ·have z3:0<=zr m wc (S ns) ((S n).β i):=hst.enters.least _ (by omega)
  have hTi:0<(S n).T i (c n):=by
   by_cases e:0<(S n).T i (c n)
   ·exact e
   ·exfalso
    have:0<= -(S n).T i (c n)*zr m wc (S ns) ((S n).β i):=ph (by omega) z3
    rw[Int.neg_mul] at this
    omega
  have hiR:(S n).T i R=0:=((zeroAll _ n (by omega)).1 ((zeroAll _ ns (by omega)).2 fun p hp hq=>(hq1 ⟨p,hp,hq⟩).elim)) i hi rfl
  have:=hs.leaves.tie i hi hTi (by rw[flat n hn,hiR,Int.zero_mul,Int.zero_mul])
  rw[hleave] at this
  omega
end
end Dn
end Go.Proofs.YtlfdhaiigdllcaaGreat

namespace Go.Proofs.YtlfdhaiigdllcaaGreat
noncomputable section
namespace Dn
theorem Tt:∀(K:Nat) (f:Nat->Nat),(∀i,i<=K->f i<K)->∃i j,i<j/\j<=K/\f i=f j
 | 0,f,h=>by have:=h 0 (by omega);omega
 | K+1,f,h=>by
  by_cases e:∃i,i<=K/\f i=f (K+1)
  ·obtain ⟨i,h1,h2⟩:=e
   exact ⟨i,K+1,by omega,by omega,h2⟩
  ·
   obtain ⟨i,j,h1,h2,h3⟩:=Tt K (fun i=>if f i<f (K+1) then f i else f i - 1) fun i hi=>by
    have h4:=h i (by omega)
    have h5:=h (K+1) (by omega)
    have h6:f i≠f (K+1):=fun e'=>e ⟨i,hi,e'⟩
    show (if f i<f (K+1) then f i else f i - 1)<K
    split<;>omega
   refine ⟨i,j,h1,by omega,?_⟩
   have h6:f i≠f (K+1):=fun e'=>e ⟨i,by omega,e'⟩
   have h7:f j≠f (K+1):=fun e'=>e ⟨j,by omega,e'⟩
   have h3:(if f i<f (K+1) then f i else f i - 1)=(if f j<f (K+1) then f j else f j - 1):=h3
   split at h3<;>split at h3<;>omega
def code (w:Nat) (β:Nat->Nat):Nat->Nat
 | 0=>0
 | m+1=>code w β m*w+β m
theorem KC {w:Nat} {β:Nat->Nat}:∀{m:Nat},(∀i,i<m->β i<w)->code w β m<w ^ m
 | 0,_=>by simp[code]
 | m+1,h=>by
  simp only[code]
  have h1:=KC (m:=m) fun i hi=>h i (by omega)
  have h2:=h m (by omega)
  have h3:(code w β m+1)*w<=w ^ m*w:=qR _ h1
  rw[Nat.pow_succ]
  rw[lD,Nat.one_mul] at h3
  omega
theorem Io {w:Nat} {β γ:Nat->Nat}:∀{m:Nat},(∀i,i<m->β i<w)->(∀i,i<m->γ i<w)->code w β m=code w γ m->∀i,i<m->β i=γ i
 | 0,_,_,_,i,hi=>by omega
 | m+1,hβ,hγ,h,i,hi=>by
  simp only[code] at h
  have h1:=hβ m (by omega)
  have h2:=hγ m (by omega)
  have e1:(code w β m*w+β m) % w=β m:=by rw[rW,Nat.mul_add_mod,Nat.mod_eq_of_lt h1]
  have e2:(code w γ m*w+γ m) % w=γ m:=by rw[rW,Nat.mul_add_mod,Nat.mod_eq_of_lt h2]
  have e3:β m=γ m:=by rw[<-e1,<-e2,h]
  have e4:code w β m=code w γ m:=by
   have:code w β m*w=code w γ m*w:=by omega
   exact Nat.eq_of_mul_eq_mul_right (by omega) this
  by_cases e:i=m
  ·rw[e];exact e3
  ·exact Io (fun i hi=>hβ i (by omega)) (fun i hi=>hγ i (by omega)) e4 i (by omega)
open Classical in
def mF (p:Nat->Prop):Nat->Nat
 | 0=>0
 | k+1=>if p k then k else mF p k
theorem zX {p:Nat->Prop}:∀{K k:Nat},k<K->p k->k<=mF p K
 | K+1,k,hk,h=>by
  unfold mF
  by_cases e:k=K
  ·subst e;rw[if_pos h];exact bY _
  ·split
   ·omega
   ·exact zX (by omega) h
theorem wZ {p:Nat->Prop} (h0:p 0):∀{K:Nat},p (mF p K)
 | 0=>h0
 | K+1=>by
  unfold mF
  split
  ·assumption
  ·exact wZ h0
theorem Al {p:Nat->Prop}:∀{K:Nat},0<K->mF p K<K
 | K+1,_=>by
  unfold mF
  split
  ·omega
  ·by_cases h:K=0
   ·subst h;simp[mF]
   ·have:=Al (p:=p) (K:=K) (by omega);omega
section
variable {m w N R:Nat} {M:Nat->Nat->Int} {wc:Nat->Int}
theorem Run.short {k:Nat} {S:Nat->Sx} {r c:Nat->Nat} {a:Nat->Nat} (ha:∀i,i<m->a i<w) (hM:∀k,k<m->∀i,i<m->M k (a i)=if k=i then 1 else 0) (hN:N<=R) (hR:R<w)
  (h:Run m w N R M wc k S r c):k<w ^ m:=by
 by_cases hk:k<w ^ m
 ·exact hk
 ·exfalso
  obtain ⟨i,j,h1,h2,h3⟩:=Tt (w ^ m) (fun n=>code w (S n).β m) fun n hn=>KC (h.val n (by omega)).tb.lt
  have h4:=Io (h.val i (by omega)).tb.lt (h.val j (by omega)).tb.lt h3
  have h5:Run m w N R M wc (j - i) (fun n=>S (i+n)) (fun n=>r (i+n)) (fun n=>c (i+n)):=⟨fun n hn=>h.val (i+n) (by omega),fun n hn=>h.step (i+n) (by omega)⟩
  refine h5.nocycle ha hM hN hR (by omega) fun p hp=>?_
  show (S (i+(j - i))).β p=(S (i+0)).β p
  rw[show i+(j - i)=j by omega,lE]
  exact (h4 p hp).symm
def left (m w N R:Nat) (M:Nat->Nat->Int) (wc:Nat->Int) (s:Sx):Nat:=mF (fun k=>∃S r c,S 0=s/\Run m w N R M wc k S r c) (w ^ m)
theorem KB (hw:0<w) (s:Sx):left m w N R M wc s<w ^ m:=Al (Nat.pow_pos hw)
theorem D1 {a:Nat->Nat} (ha:∀i,i<m->a i<w) (hM:∀k,k<m->∀i,i<m->M k (a i)=if k=i then 1 else 0) (hN:N<=R) (hR:R<w)
  {s s':Sx} {r c:Nat} (hv:Val m w N R M s) (hs:Step m w N R wc s s' r c):left m w N R M wc s'<left m w N R M wc s:=by
 have hv':Val m w N R M s':=by
  have:=hs.enters.lt
  exact hv.stepAt hR (by omega) (by omega) hs.leaves hs.at'
 obtain ⟨S,rr,cc,h0,h1⟩:=wZ (p:=fun k=>∃S r c,S 0=s'/\Run m w N R M wc k S r c) ⟨fun _=>s',fun _=>0,fun _=>0,rfl,⟨fun n _=>hv',fun n hn=>by omega⟩⟩ (K:=w ^ m)
 have h2:Run m w N R M wc (left m w N R M wc s'+1) (fun n=>match n with | 0=>s | n+1=>S n) (fun n=>match n with | 0=>r | n+1=>rr n) (fun n=>match n with | 0=>c | n+1=>cc n):=by
  refine ⟨fun n hn=>?_,fun n hn=>?_⟩
  ·cases n with
   | zero=>exact hv
   | succ n=>exact h1.val n (by have:n+1<=left m w N R M wc s'+1:=hn;unfold left at this;omega)
  ·cases n with
   | zero =>
    show Step m w N R wc s (S 0) r c
    rw[h0];exact hs
   | succ n=>exact h1.step n (by have:n+1<left m w N R M wc s'+1:=hn;unfold left at this;omega)
 have h3:=h2.short ha hM hN hR
 exact zX h3 ⟨_,_,_,rfl,h2⟩
end
end Dn
end
end Go.Proofs.YtlfdhaiigdllcaaGreat

namespace Go.Proofs.YtlfdhaiigdllcaaGreat
namespace Dn
def sq:Nat->(Nat->Rat)->Rat
 | 0,_=>0
 | n+1,f=>sq n f+f n
theorem ca:∀{n:Nat} {f g:Nat->Rat},(∀i,i<n->f i=g i)->sq n f=sq n g
 | 0,_,_,_=>rfl
 | n+1,f,g,h=>by
  simp only[sq]
  rw[ca (n:=n) fun i hi=>h i (by omega),h n (by omega)]
theorem Fi:∀{n:Nat} {f g:Nat->Rat},sq n (fun i=>f i+g i)=sq n f+sq n g
 | 0,_,_=>by simp only[sq];grind
 | n+1,f,g=>by
  simp only[sq]
  rw[Fi]
  grind
theorem kc:∀{n:Nat} {c:Rat} {f:Nat->Rat},sq n (fun i=>c*f i)=c*sq n f
 | 0,c,_=>by simp[sq]
 | n+1,c,f=>by
  simp only[sq]
  rw[kc]
  grind
theorem nS:∀{n:Nat} {f:Nat->Rat},(∀i,i<n->f i=0)->sq n f=0
 | 0,_,_=>rfl
 | n+1,f,h=>by
  simp only[sq]
  rw[nS fun i hi=>h i (by omega),h n (by omega)]
  grind
theorem LF:∀{n:Nat} {f g:Nat->Rat},(∀i,i<n->f i<=g i)->sq n f<=sq n g
 | 0,_,_,_=>Rat.le_refl
 | n+1,f,g,h=>by
  simp only[sq]
  have:=LF (n:=n) fun i hi=>h i (by omega)
  have:=h n (by omega)
  grind
theorem NC {n:Nat} {f:Nat->Rat} (h:∀i,i<n->0<=f i):0<=sq n f:=by
 have:=LF (n:=n) (f:=fun _=>0) (g:=f) h
 rwa [nS fun _ _=>rfl] at this
theorem qT:∀{m n:Nat} {f:Nat->Nat->Rat},sq m (fun i=>sq n (fun j=>f i j))=sq n (fun j=>sq m (fun i=>f i j))
 | 0,n,f=>by
  simp only[sq]
  exact (nS fun _ _=>rfl).symm
 | m+1,n,f=>by
  simp only[sq]
  rw[qT,Fi]
theorem oU:∀{n:Nat} {f:Nat->Int},sq n (fun i=>(f i:Rat))=((sz n f:Int):Rat)
 | 0,_=>rfl
 | n+1,f=>by
  simp only[sq,sz]
  rw[oU,Rat.intCast_add]
structure Lin where
 n:Nat
 m:Nat
 A:Nat->Nat->Int
 b:Nat->Int
 c:Nat->Int
 kd:Nat->Int
def Lin.row (L:Lin) (x:Nat->Rat) (k:Nat):Rat:=sq L.n fun j=>(L.A k j:Rat)*x j
def Lin.col (L:Lin) (y:Nat->Rat) (j:Nat):Rat:=sq L.m fun k=>(L.A k j:Rat)*y k
def Lin.val (L:Lin) (x:Nat->Rat):Rat:=sq L.n fun j=>(L.c j:Rat)*x j
def Lin.rhs (L:Lin) (y:Nat->Rat):Rat:=sq L.m fun k=>(L.b k:Rat)*y k
structure Lin.Feas (L:Lin) (x:Nat->Rat):Prop where
 pos:∀j,j<L.n->0<=x j
 most:∀k,k<L.m->L.kd k≠2->L.row x k<=L.b k
 least:∀k,k<L.m->L.kd k≠1->(L.b k:Rat)<=L.row x k
structure Lin.Sgn (L:Lin) (y:Nat->Rat):Prop where
 most:∀k,k<L.m->L.kd k=1->y k<=0
 least:∀k,k<L.m->L.kd k=2->0<=y k
structure Lin.Dual (L:Lin) (y:Nat->Rat):Prop extends L.Sgn y where
 col:∀j,j<L.n->L.col y j<=L.c j
structure Lin.Ref (L:Lin) (y:Nat->Rat):Prop extends L.Sgn y where
 col:∀j,j<L.n->L.col y j<=0
 rhs:0<L.rhs y
structure Lin.Ray (L:Lin) (r:Nat->Rat):Prop where
 pos:∀j,j<L.n->0<=r j
 most:∀k,k<L.m->L.kd k≠2->L.row r k<=0
 least:∀k,k<L.m->L.kd k≠1->0<=L.row r k
 val:L.val r<0
section
variable {L:Lin}
theorem Lin.swap (x y:Nat->Rat):sq L.n (fun j=>L.col y j*x j)=sq L.m (fun k=>y k*L.row x k):=by
 have e1:sq L.n (fun j=>L.col y j*x j)=sq L.n (fun j=>sq L.m fun k=>(L.A k j:Rat)*y k*x j):=ca fun j _=>by
  unfold Lin.col
  rw[<-kc (c:=x j) |>fun h=>(by rw[h];grind:(sq L.m fun k=>x j*((L.A k j:Rat)*y k))=sq L.m (fun k=>(L.A k j:Rat)*y k)*x j)]
  exact ca fun k _=>by grind
 rw[e1,qT]
 refine ca fun k _=>?_
 unfold Lin.row
 rw[<-kc]
 exact ca fun j _=>by grind
theorem abO {y r b:Rat} (h:(y<=0/\r<=b)\/(0<=y/\b<=r)\/r=b):b*y<=y*r:=by
 rcases h with ⟨h1,h2⟩ | ⟨h1,h2⟩ | h
 ·have:0<=(-y)*(b - r):=Rat.mul_nonneg (by grind) (by grind)
  grind
 ·have:0<=y*(r - b):=Rat.mul_nonneg h1 (by grind)
  grind
 ·subst h;grind
theorem Lin.Sgn.rows {x y:Nat->Rat} (h:L.Sgn y) {b:Nat->Rat} (h1:∀k,k<L.m->L.kd k≠2->L.row x k<=b k) (h2:∀k,k<L.m->L.kd k≠1->b k<=L.row x k):sq L.m (fun k=>b k*y k)<=sq L.m (fun k=>y k*L.row x k):=LF fun k hk=>by
 apply abO
 by_cases e1:L.kd k=1
 ·exact .inl ⟨h.most k hk e1,h1 k hk (by omega)⟩
 ·by_cases e2:L.kd k=2
  ·exact .inr (.inl ⟨h.least k hk e2,h2 k hk e1⟩)
  ·have a1:=h1 k hk e2
   have a2:=h2 k hk e1
   exact .inr (.inr (Rat.le_antisymm a1 a2))
theorem Lin.Ref.none {x y:Nat->Rat} (hy:L.Ref y) (hx:L.Feas x):False:=by
 have h1:=hy.rows (x:=x) (b:=fun k=>(L.b k:Rat)) hx.most hx.least
 rw[<-L.swap x y] at h1
 have h2:sq L.n (fun j=>L.col y j*x j)<=sq L.n (fun _=>0):=LF fun j hj=>by
  have:0<=(-L.col y j)*x j:=Rat.mul_nonneg (by have:=hy.col j hj;grind) (hx.pos j hj)
  grind
 rw[nS (f:=fun _=>0) fun _ _=>rfl] at h2
 have h3:=hy.rhs
 unfold Lin.rhs at h3
 grind
end
structure Lay where
 N:Nat
 sl:Nat->Nat
 σ:Nat->Int
def Lay.M (Y:Lay) (L:Lin) (k j:Nat):Int :=
 if j<L.n then Y.σ k*L.A k j else if j<Y.N then (if L.kd k≠3/\j=Y.sl k then Y.σ k*(if L.kd k=1 then 1 else -1) else 0) else if j<Y.N+L.m then (if j=Y.N+k then 1 else 0) else Y.σ k*L.b k
structure Lay.ok (Y:Lay) (L:Lin):Prop where
 n:L.n<=Y.N
 kd:∀k,k<L.m->L.kd k=1\/L.kd k=2\/L.kd k=3
 sl:∀k,k<L.m->L.kd k≠3->L.n<=Y.sl k/\Y.sl k<Y.N
 inj:∀k l,k<L.m->l<L.m->L.kd k≠3->L.kd l≠3->Y.sl k=Y.sl l->k=l
 sg:∀k,k<L.m->Y.σ k=1\/Y.σ k= -1
 b:∀k,k<L.m->0<=Y.σ k*L.b k
abbrev Lay.R (Y:Lay) (L:Lin):Nat:=Y.N+L.m
abbrev Lay.w (Y:Lay) (L:Lin):Nat:=Y.N+L.m+1
section
variable {L:Lin} {Y:Lay}
theorem Lay.M_x {k j:Nat} (hj:j<L.n):Y.M L k j=Y.σ k*L.A k j:=by unfold Lay.M;rw[if_pos hj]
theorem Lay.M_sl (h:Y.ok L) {k:Nat} (hk:k<L.m) (h3:L.kd k≠3):Y.M L k (Y.sl k)=Y.σ k*(if L.kd k=1 then 1 else -1):=by
 obtain ⟨h1,h2⟩:=h.sl k hk h3
 unfold Lay.M
 rw[if_neg (by omega),if_pos h2,if_pos ⟨h3,rfl⟩]
theorem Lay.M_slo {k j:Nat} (h1:L.n<=j) (h2:j<Y.N) (h:¬ (L.kd k≠3/\j=Y.sl k)):Y.M L k j=0:=by
 unfold Lay.M
 rw[if_neg (by omega),if_pos h2,if_neg h]
theorem Lay.M_a (h:Y.ok L) {k i:Nat} (hi:i<L.m):Y.M L k (Y.N+i)=if k=i then 1 else 0:=by
 have:=h.n
 unfold Lay.M
 rw[if_neg (by omega),if_neg (by omega),if_pos (by omega)]
 by_cases e:k=i
 ·rw[if_pos e,if_pos (by omega)]
 ·rw[if_neg e,if_neg (by omega)]
theorem Lay.M_R (h:Y.ok L) {k:Nat}:Y.M L k (Y.R L)=Y.σ k*L.b k:=by
 have:=h.n
 unfold Lay.M Lay.R
 rw[if_neg (by omega),if_neg (by omega),if_neg (by omega)]
theorem Lay.ss (h:Y.ok L) {k:Nat} (hk:k<L.m):Y.σ k*Y.σ k=1:=by
 rcases h.sg k hk with e | e<;>rw[e]<;>rfl
theorem Lay.ss' (h:Y.ok L) {k:Nat} (hk:k<L.m) (x:Int):Y.σ k*(Y.σ k*x)=x:=by rw[<-ld,Lay.ss h hk,Int.one_mul]
abbrev Lay.Val (Y:Lay) (L:Lin) (S:Sx):Prop:=Dn.Val L.m (Y.w L) Y.N (Y.R L) (Y.M L) S
theorem Lay.art (h:Y.ok L):(∀i,i<L.m->Y.N+i<Y.w L)/\∀k,k<L.m->∀i,i<L.m->Y.M L k (Y.N+i)=if k=i then 1 else 0 :=
 ⟨fun i hi=>by unfold Lay.w;omega,fun k _ i hi=>Lay.M_a h hi⟩
theorem Lay.first (h:Y.ok L):Y.Val L ⟨Y.M L,1,fun i=>Y.N+i⟩:=by
 refine ⟨Tb.first (Lay.art h).1 (Lay.art h).2,fun i hi=>?_,fun i hi=>?_⟩
 ·show 0<=Y.M L i (Y.R L)
  rw[Lay.M_R h]
  exact h.b i hi
 ·show Y.N+i≠Y.N+L.m
  omega
def zK (m R:Nat) (S:Sx) (j:Nat):Int:=sz m fun i=>if S.β i=j then S.T i R else 0
theorem ru {S:Sx} (hv:Y.Val L S) (j:Nat):0<=zK L.m (Y.R L) S j:=kr fun i hi=>by
 split
 ·exact hv.feas i hi
 ·exact pH _
theorem zz {m n:Nat} {β:Nat->Nat} {t f:Nat->Int}:(sz m fun i=>if β i<n then t i*f (β i) else 0)=sz n fun j=>f j*sz m fun i=>if β i=j then t i else 0:=by
 have e:∀i,i<m->(if β i<n then t i*f (β i) else 0)=sz n fun j=>if β i=j then t i*f j else 0:=fun i _=>by
  by_cases h:β i<n
  ·rw[if_pos h,ia h fun j _ hne=>if_neg (Ne.symm hne),if_pos rfl]
  ·rw[if_neg h,jJ fun j hj=>if_neg (by omega)]
 rw[bO e,yd]
 refine bO fun j _=>?_
 rw[<-jd]
 refine bO fun i _=>?_
 split
 ·rw[Int.mul_comm]
 ·rw[lT]
def Hu (m N:Nat) (S:Sx) (q:Nat):Prop:=∀i,i<m->N<=S.β i->S.T i q=0
theorem PS (h:Y.ok L) {S:Sx} (hv:Y.Val L S) {q k:Nat} (hq:q<Y.w L) (hk:k<L.m) (ha:Hu L.m Y.N S q) :
  S.d*(Y.σ k*Y.M L k q)=(sz L.n fun j=>L.A k j*sz L.m fun i=>if S.β i=j then S.T i q else 0)+(if L.kd k≠3 then (if L.kd k=1 then 1 else -1)*sz L.m (fun i=>if S.β i=Y.sl k then S.T i q else 0) else 0):=by
 have h1:=hv.tb.co k hk q hq
 have e1:∀i,i<L.m->S.T i q*Y.M L k (S.β i)=(if S.β i<L.n then S.T i q*(Y.σ k*L.A k (S.β i)) else 0)+(if L.kd k≠3 then (Y.σ k*(if L.kd k=1 then 1 else -1))*(if S.β i=Y.sl k then S.T i q else 0) else 0):=fun i hi=>by
  by_cases c1:S.β i<L.n
  ·rw[if_pos c1,Lay.M_x c1]
   by_cases c2:L.kd k≠3
   ·rw[if_pos c2,if_neg (show ¬ S.β i=Y.sl k by have:=(h.sl k hk c2).1;omega)];omega
   ·rw[if_neg c2];omega
  ·rw[if_neg c1]
   by_cases c3:S.β i<Y.N
   ·by_cases c4:L.kd k≠3/\S.β i=Y.sl k
    ·rw[c4.2,Lay.M_sl h hk c4.1,if_pos c4.1,if_pos rfl,Int.mul_comm];omega
    ·rw[Lay.M_slo (by omega) c3 c4]
     by_cases c2:L.kd k≠3
     ·rw[if_pos c2,if_neg (show ¬ S.β i=Y.sl k from fun e=>c4 ⟨c2,e⟩)];omega
     ·rw[if_neg c2];omega
   ·rw[ha i hi (by omega)]
    by_cases c2:L.kd k≠3
    ·rw[if_pos c2,if_neg (show ¬ S.β i=Y.sl k by have:=(h.sl k hk c2).2;omega)];omega
    ·rw[if_neg c2];omega
 rw[bO e1,rN,zz (f:=fun j=>Y.σ k*L.A k j)] at h1
 have e2:(sz L.m fun i=>if L.kd k≠3 then (Y.σ k*(if L.kd k=1 then 1 else -1))*(if S.β i=Y.sl k then S.T i q else 0) else 0)=Y.σ k*(if L.kd k≠3 then (if L.kd k=1 then 1 else -1)*sz L.m (fun i=>if S.β i=Y.sl k then S.T i q else 0) else 0):=by
  by_cases c2:L.kd k≠3
  ·simp only[c2,not_false_eq_true,if_true,ne_eq]
   rw[jd,ld]
  ·have c2:L.kd k=3:=by omega
   simp only[c2,ne_eq,not_true_eq_false,if_false]
   rw[jJ fun _ _=>rfl,lT]
 have e3:(sz L.n fun j=>Y.σ k*L.A k j*sz L.m fun i=>if S.β i=j then S.T i q else 0)=Y.σ k*sz L.n fun j=>L.A k j*sz L.m fun i=>if S.β i=j then S.T i q else 0:=by
  rw[<-jd]
  exact bO fun j _=>by rw[ld]
 rw[e2,e3,<-Int.mul_add] at h1
 have h2:=Lay.ss h hk
 have:S.d*(Y.σ k*Y.M L k q)=Y.σ k*(S.d*Y.M L k q):=by grind
 rw[this,h1,<-ld,h2,Int.one_mul]
theorem Gn {x y d:Int} (hd:0<d) (h:x<=y*d):(x:Rat) / (d:Rat)<=(y:Rat):=by
 have hd':(0:Rat)<(d:Rat):=by have:=Rat.intCast_lt_intCast.2 hd;simpa using this
 have h':(x:Rat)<=(y:Rat)*(d:Rat):=by rw[<-oF];exact Rat.intCast_le_intCast.2 h
 refine Rat.le_of_mul_le_mul_right ?_ hd'
 have:(x:Rat) / (d:Rat)*(d:Rat)=(x:Rat):=by grind
 rw[this]
 exact h'
theorem Ju {x y d:Int} (hd:0<d) (h:y*d<=x):(y:Rat)<=(x:Rat) / (d:Rat):=by
 have hd':(0:Rat)<(d:Rat):=by have:=Rat.intCast_lt_intCast.2 hd;simpa using this
 have h':(y:Rat)*(d:Rat)<=(x:Rat):=by rw[<-oF];exact Rat.intCast_le_intCast.2 h
 refine Rat.le_of_mul_le_mul_right ?_ hd'
 have:(x:Rat) / (d:Rat)*(d:Rat)=(x:Rat):=by grind
 rw[this]
 exact h'
theorem VF {x d:Rat} (hx:0<x) (hd:0<d):0<x / d:=by
 have e:x / d*d=x:=by grind
 refine Rat.not_le.1 fun h=>?_
 have h1:=Rat.mul_le_mul_of_nonneg_right h (Rat.le_of_lt hd)
 rw[e,Rat.zero_mul] at h1
 exact Rat.not_le.2 hx h1
theorem wa {n:Nat} {a X:Nat->Int} {d:Int} (hd:0<d):sq n (fun j=>(a j:Rat)*((X j:Rat) / (d:Rat)))=((sz n fun j=>a j*X j:Int):Rat) / (d:Rat):=by
 have hd':(0:Rat)<(d:Rat):=by have:=Rat.intCast_lt_intCast.2 hd;simpa using this
 have e:sq n (fun j=>(a j:Rat)*((X j:Rat) / (d:Rat)))=sq n (fun j=>(1 / (d:Rat))*((a j*X j:Int):Rat)):=ca fun j _=>by
  rw[oF]
  grind
 rw[e,kc,oU]
 grind
def FZ (m R:Nat) (S:Sx) (j:Nat):Rat:=(zK m R S j:Rat) / (S.d:Rat)
theorem xK (h:Y.ok L) {S:Sx} (hv:Y.Val L S) (ha:Hu L.m Y.N S (Y.R L)):L.Feas (FZ L.m (Y.R L) S):=by
 have hd:=hv.tb.dpos
 have row:∀k,k<L.m->S.d*L.b k=(sz L.n fun j=>L.A k j*zK L.m (Y.R L) S j)+(if L.kd k≠3 then (if L.kd k=1 then 1 else -1)*zK L.m (Y.R L) S (Y.sl k) else 0):=fun k hk=>by
  have h1:=PS h hv (q:=Y.R L) (by unfold Lay.R Lay.w;omega) hk ha
  rw[Lay.M_R h,Lay.ss' h hk] at h1
  exact h1
 have rowq:∀k,L.row (FZ L.m (Y.R L) S) k=((sz L.n fun j=>L.A k j*zK L.m (Y.R L) S j:Int):Rat) / (S.d:Rat):=fun k=>wa hd
 refine ⟨fun j _=>?_,fun k hk h2=>?_,fun k hk h1=>?_⟩
 ·have:=Ju (x:=zK L.m (Y.R L) S j) (y:=0) hd (by rw[Int.zero_mul];exact ru hv j)
  simpa [FZ] using this
 ·rw[rowq]
  have h3:=row k hk
  have h4:=ru hv (Y.sl k)
  refine Gn hd ?_
  rw[Int.mul_comm,h3]
  rcases h.kd k hk with e | e | e
  ·simp[e];omega
  ·exact (h2 e).elim
  ·simp[e]
 ·rw[rowq]
  have h3:=row k hk
  have h4:=ru hv (Y.sl k)
  refine Ju hd ?_
  rw[Int.mul_comm,h3]
  rcases h.kd k hk with e | e | e
  ·exact (h1 e).elim
  ·simp[e];omega
  ·simp[e]
def pa (m N:Nat) (wc:Nat->Int) (S:Sx) (σ:Nat->Int) (k:Nat):Int:=σ k*sz m fun i=>wc (S.β i)*S.T i (N+k)
def vL (m N:Nat) (wc:Nat->Int) (S:Sx) (σ:Nat->Int) (k:Nat):Rat:=(pa m N wc S σ k:Rat) / (S.d:Rat)
theorem WZ (h:Y.ok L) {S:Sx} (hv:Y.Val L S) {wc:Nat->Int} {j:Nat} (hj:j<L.n):zr L.m wc S j=wc j*S.d - sz L.m fun k=>L.A k j*pa L.m Y.N wc S Y.σ k:=by
 have hw:j<Y.w L:=by have:=h.n;unfold Lay.w;omega
 rw[yt hv.tb (Lay.art h).1 (Lay.art h).2 hw]
 congr 1
 refine bO fun k hk=>?_
 rw[Lay.M_x hj]
 unfold pa
 grind
theorem KM (h:Y.ok L) {S:Sx} (hv:Y.Val L S) {wc:Nat->Int} {k:Nat} (hk:k<L.m) (h3:L.kd k≠3):zr L.m wc S (Y.sl k)=wc (Y.sl k)*S.d - (if L.kd k=1 then 1 else -1)*pa L.m Y.N wc S Y.σ k:=by
 obtain ⟨h1,h2⟩:=h.sl k hk h3
 rw[yt hv.tb (Lay.art h).1 (Lay.art h).2 (by unfold Lay.w;omega)]
 congr 1
 rw[ia hk fun l hl hne=>by rw[Lay.M_slo h1 h2 fun e=>hne (h.inj l k hl hk e.1 h3 e.2.symm),lT],Lay.M_sl h hk h3]
 unfold pa
 grind
theorem LQ (h:Y.ok L) {S:Sx} (hv:Y.Val L S) {wc:Nat->Int}:zr L.m wc S (Y.R L)=wc (Y.R L)*S.d - sz L.m fun k=>L.b k*pa L.m Y.N wc S Y.σ k:=by
 rw[yt hv.tb (Lay.art h).1 (Lay.art h).2 (by unfold Lay.R Lay.w;omega)]
 congr 1
 refine bO fun k hk=>?_
 rw[Lay.M_R h]
 unfold pa
 grind
theorem DX (h:Y.ok L) {S:Sx} (hv:Y.Val L S) {wc:Nat->Int} (hw:∀j,L.n<=j->j<Y.N->wc j=0) (hz:∀j,j<Y.N->0<=zr L.m wc S j):L.Sgn (vL L.m Y.N wc S Y.σ):=by
 have hd:=hv.tb.dpos
 refine ⟨fun k hk e=>?_,fun k hk e=>?_⟩
 ·obtain ⟨h1,h2⟩:=h.sl k hk (by omega)
  have h3:=KM h hv (wc:=wc) hk (by omega)
  have h4:=hz _ h2
  rw[h3,hw _ h1 h2,if_pos e] at h4
  have:=Gn (x:=pa L.m Y.N wc S Y.σ k) (y:=0) hd (by omega)
  simpa [vL] using this
 ·obtain ⟨h1,h2⟩:=h.sl k hk (by omega)
  have h3:=KM h hv (wc:=wc) hk (by omega)
  have h4:=hz _ h2
  rw[h3,hw _ h1 h2,if_neg (by omega)] at h4
  have:=Ju (x:=pa L.m Y.N wc S Y.σ k) (y:=0) hd (by omega)
  simpa [vL] using this
def dk (L:Lin) (j:Nat):Int:=if j<L.n then L.c j else 0
theorem Kk (h:Y.ok L) {S:Sx} (hv:Y.Val L S) (hz:∀j,j<Y.N->0<=zr L.m (dk L) S j):L.Dual (vL L.m Y.N (dk L) S Y.σ):=by
 have hd:=hv.tb.dpos
 refine ⟨DX h hv (fun j h1 _=>if_neg (by omega)) hz,fun j hj=>?_⟩
 have h1:=hz j (by have:=h.n;omega)
 rw[WZ h hv hj] at h1
 have e:L.col (vL L.m Y.N (dk L) S Y.σ) j=((sz L.m fun k=>L.A k j*pa L.m Y.N (dk L) S Y.σ k:Int):Rat) / (S.d:Rat):=wa hd
 rw[e]
 have e2:dk L j=L.c j:=if_pos hj
 rw[e2] at h1
 exact Gn hd (by omega)
theorem Gt (h:Y.ok L) {S:Sx} (hv:Y.Val L S):L.val (FZ L.m (Y.R L) S)=((sz L.m fun i=>dk L (S.β i)*S.T i (Y.R L):Int):Rat) / (S.d:Rat)/\L.rhs (vL L.m Y.N (dk L) S Y.σ)=((sz L.m fun i=>dk L (S.β i)*S.T i (Y.R L):Int):Rat) / (S.d:Rat):=by
 have hd:=hv.tb.dpos
 constructor
 ·have e:L.val (FZ L.m (Y.R L) S)=((sz L.n fun j=>L.c j*zK L.m (Y.R L) S j:Int):Rat) / (S.d:Rat):=wa hd
  rw[e]
  congr 2
  rw[show (sz L.n fun j=>L.c j*zK L.m (Y.R L) S j)=sz L.n fun j=>L.c j*sz L.m fun i=>if S.β i=j then S.T i (Y.R L) else 0 from rfl,<-zz (f:=L.c)]
  refine bO fun i _=>?_
  unfold dk
  split
  ·rw[Int.mul_comm]
  ·rw[Int.zero_mul]
 ·have e:L.rhs (vL L.m Y.N (dk L) S Y.σ)=((sz L.m fun k=>L.b k*pa L.m Y.N (dk L) S Y.σ k:Int):Rat) / (S.d:Rat):=wa hd
  rw[e]
  congr 2
  have h1:=LQ h hv (wc:=dk L)
  have e0:dk L (Y.R L)=0:=if_neg (by have:=h.n;unfold Lay.R;omega)
  unfold zr at h1
  rw[e0] at h1
  omega
def fX (N:Nat) (j:Nat):Int:=if N<=j then 1 else 0
theorem NM (h:Y.ok L) {S:Sx} (hv:Y.Val L S) (hz:∀j,j<Y.N->0<=zr L.m (fX Y.N) S j) (hp:0<sz L.m fun i=>fX Y.N (S.β i)*S.T i (Y.R L)):L.Ref (vL L.m Y.N (fX Y.N) S Y.σ):=by
 have hd:=hv.tb.dpos
 refine ⟨DX h hv (fun j _ h2=>if_neg (by omega)) hz,fun j hj=>?_,?_⟩
 ·have h1:=hz j (by have:=h.n;omega)
  rw[WZ h hv hj] at h1
  have e:L.col (vL L.m Y.N (fX Y.N) S Y.σ) j=((sz L.m fun k=>L.A k j*pa L.m Y.N (fX Y.N) S Y.σ k:Int):Rat) / (S.d:Rat):=wa hd
  have e2:fX Y.N j=0:=if_neg (by have:=h.n;omega)
  rw[e2] at h1
  have:=Gn (x:=sz L.m fun k=>L.A k j*pa L.m Y.N (fX Y.N) S Y.σ k) (y:=0) hd (by omega)
  rw[e]
  simpa using this
 ·have e:L.rhs (vL L.m Y.N (fX Y.N) S Y.σ)=((sz L.m fun k=>L.b k*pa L.m Y.N (fX Y.N) S Y.σ k:Int):Rat) / (S.d:Rat):=wa hd
  have h1:=LQ h hv (wc:=fX Y.N)
  unfold zr at h1
  have h2:0<sz L.m fun k=>L.b k*pa L.m Y.N (fX Y.N) S Y.σ k:=by omega
  rw[e]
  have hd':(0:Rat)<(S.d:Rat):=by have:=Rat.intCast_lt_intCast.2 hd;simpa using this
  have h2':(0:Rat)<((sz L.m fun k=>L.b k*pa L.m Y.N (fX Y.N) S Y.σ k:Int):Rat):=by have:=Rat.intCast_lt_intCast.2 h2;simpa using this
  exact VF h2' hd'
def rM (m:Nat) (S:Sx) (q j:Nat):Int:=(if j=q then S.d else 0) - sz m fun i=>if S.β i=j then S.T i q else 0
theorem NN (h:Y.ok L) {S:Sx} (hv:Y.Val L S) {q:Nat} (hq:q<Y.N) (ha:Hu L.m Y.N S q) (hz:zr L.m (dk L) S q<0) (hno:∀i,i<L.m->S.T i q<=0):L.Ray (fun j=>(rM L.m S q j:Rat)):=by
 have hd:=hv.tb.dpos
 have hqw:q<Y.w L:=by unfold Lay.w;omega
 have pos:∀j,0<=rM L.m S q j:=fun j=>by
  unfold rM
  have h1:(sz L.m fun i=>if S.β i=j then S.T i q else 0)<=sz L.m fun _=>0:=qY fun i hi=>by
   split
   ·exact hno i hi
   ·exact pH _
  rw[jJ (f:=fun _=>0) fun _ _=>rfl] at h1
  split<;>omega
 have row:∀k,k<L.m->(sz L.n fun j=>L.A k j*rM L.m S q j)=(if L.kd k≠3 then -(if L.kd k=1 then 1 else -1)*rM L.m S q (Y.sl k) else 0):=fun k hk=>by
  have h1:=PS h hv hqw hk ha
  have e1:(sz L.n fun j=>L.A k j*rM L.m S q j)=(if q<L.n then L.A k q*S.d else 0) - sz L.n fun j=>L.A k j*sz L.m fun i=>if S.β i=j then S.T i q else 0:=by
   have e0:(if q<L.n then L.A k q*S.d else 0)=sz L.n fun j=>if j=q then L.A k q*S.d else 0:=by
    by_cases e:q<L.n
    ·rw[if_pos e,ia e fun j _ hne=>if_neg hne,if_pos rfl]
    ·rw[if_neg e,jJ fun j hj=>if_neg (by omega)]
   rw[e0,<-B9]
   refine bO fun j _=>?_
   unfold rM
   by_cases e:j=q
   ·subst e;rw[if_pos rfl,if_pos rfl];grind
   ·rw[if_neg e,if_neg e];grind
  rw[e1]
  by_cases c1:q<L.n
  ·rw[if_pos c1]
   rw[Lay.M_x c1,Lay.ss' h hk] at h1
   by_cases c2:L.kd k≠3
   ·rw[if_pos c2] at h1 ⊢
    unfold rM
    rw[if_neg (show ¬ Y.sl k=q by have:=(h.sl k hk c2).1;omega)]
    grind
   ·rw[if_neg c2] at h1 ⊢
    grind
  ·rw[if_neg c1]
   by_cases c2:L.kd k≠3
   ·rw[if_pos c2] at h1 ⊢
    unfold rM
    by_cases c3:Y.sl k=q
    ·rw[if_pos c3]
     rw[<-c3] at h1 ⊢
     rw[Lay.M_sl h hk c2,Lay.ss' h hk] at h1
     rcases h.kd k hk with e | e | e
     ·simp[e] at h1 ⊢;omega
     ·simp[e] at h1 ⊢;omega
     ·exact (c2 e).elim
    ·rw[if_neg c3]
     rw[Lay.M_slo (by omega) hq fun e=>c3 e.2.symm] at h1
     rcases h.kd k hk with e | e | e
     ·simp[e] at h1 ⊢;omega
     ·simp[e] at h1 ⊢;omega
     ·exact (c2 e).elim
   ·rw[if_neg c2] at h1 ⊢
    rw[Lay.M_slo (by omega) hq fun e=>c2 e.1] at h1
    omega
 have cast:∀a:Nat->Int,sq L.n (fun j=>(a j:Rat)*(rM L.m S q j:Rat))=((sz L.n fun j=>a j*rM L.m S q j:Int):Rat):=fun a=>by
  rw[<-oU]
  exact ca fun j _=>by rw[oF]
 refine ⟨fun j _=>by have:=Rat.intCast_le_intCast.2 (pos j);simpa using this,fun k hk h2=>?_,fun k hk h1=>?_,?_⟩
 ·have e:L.row (fun j=>(rM L.m S q j:Rat)) k=((sz L.n fun j=>L.A k j*rM L.m S q j:Int):Rat):=cast _
  rw[e,row k hk]
  have h4:=pos (Y.sl k)
  have h5:(if L.kd k≠3 then -(if L.kd k=1 then 1 else -1)*rM L.m S q (Y.sl k) else 0)<=0:=by
   rcases h.kd k hk with e | e | e
   ·simp[e];omega
   ·exact (h2 e).elim
   ·simp[e]
  have:=Rat.intCast_le_intCast.2 h5
  simpa using this
 ·have e:L.row (fun j=>(rM L.m S q j:Rat)) k=((sz L.n fun j=>L.A k j*rM L.m S q j:Int):Rat):=cast _
  rw[e,row k hk]
  have h4:=pos (Y.sl k)
  have h5:0<=(if L.kd k≠3 then -(if L.kd k=1 then 1 else -1)*rM L.m S q (Y.sl k) else 0):=by
   rcases h.kd k hk with e | e | e
   ·exact (h1 e).elim
   ·simp[e];omega
   ·simp[e]
  have:=Rat.intCast_le_intCast.2 h5
  simpa using this
 ·have e:L.val (fun j=>(rM L.m S q j:Rat))=((sz L.n fun j=>L.c j*rM L.m S q j:Int):Rat):=cast _
  rw[e]
  have e2:(sz L.n fun j=>L.c j*rM L.m S q j)=zr L.m (dk L) S q:=by
   unfold zr
   have e3:(sz L.m fun i=>dk L (S.β i)*S.T i q)=sz L.n fun j=>L.c j*sz L.m fun i=>if S.β i=j then S.T i q else 0:=by
    rw[<-zz (f:=L.c)]
    refine bO fun i _=>?_
    unfold dk
    split
    ·rw[Int.mul_comm]
    ·rw[Int.zero_mul]
   rw[e3]
   have e4:dk L q*S.d=sz L.n fun j=>if j=q then L.c j*S.d else 0:=by
    unfold dk
    by_cases c:q<L.n
    ·rw[if_pos c,ia c fun j _ hne=>if_neg hne,if_pos rfl]
    ·rw[if_neg c,jJ fun j hj=>if_neg (by omega),Int.zero_mul]
   rw[e4,<-B9]
   refine bO fun j _=>?_
   unfold rM
   by_cases c:j=q
   ·rw[if_pos c,if_pos c];grind
   ·rw[if_neg c,if_neg c];grind
  rw[e2]
  have:=Rat.intCast_lt_intCast.2 hz
  simpa using this
end
theorem B6 {a b:Nat} {f:Nat->Int}:sz (a+b) f=sz a f+sz b fun i=>f (a+i):=by
 induction b with
 | zero=>simp[sz]
 | succ b ih =>
  rw[show a+(b+1)=a+b+1 by omega,sz,sz,ih]
  omega
theorem S2 {m w:Nat} {γ:Nat->Nat} {f:Nat->Int} (hlt:∀p,p<m->γ p<w) (hinj:∀p q,p<m->q<m->γ p=γ q->p=q) (hf:∀j,j<w->0<=f j):(sz m fun p=>f (γ p))<=sz w f:=by
 have e:(sz m fun p=>f (γ p))=sz w fun j=>f j*sz m fun p=>if γ p=j then 1 else 0:=by
  rw[bO (g:=fun p=>sz w fun j=>if γ p=j then f j else 0) fun p hp=>by
   rw[ia (hlt p hp) fun j _ hne=>if_neg (Ne.symm hne),if_pos rfl],yd]
  refine bO fun j _=>?_
  rw[<-jd]
  refine bO fun p _=>?_
  split<;>omega
 rw[e]
 refine qY fun j hj=>?_
 have hc:(sz m fun p=>if γ p=j then (1:Int) else 0)<=1:=by
  by_cases h:∃p,p<m/\γ p=j
  ·obtain ⟨p,hp,rfl⟩:=h
   rw[ia hp fun q hq hne=>if_neg fun e'=>hne (hinj q p hq hp e'),if_pos rfl]
   exact pH _
  ·rw[jJ fun p hp=>if_neg fun e'=>h ⟨p,hp,e'⟩]
   omega
 have:=iD hc (hf j hj)
 omega
def Lin.F (L:Lin) (k:Nat):Int:=1+ab (L.b k)+sz L.n fun j=>ab (L.A k j)
def Lin.F0 (L:Lin):Int:=1+sz L.n fun j=>ab (L.c j)
theorem Lin.F_pos (L:Lin) (k:Nat):1<=L.F k:=by
 have h1:=cn (L.b k)
 have h2:0<=sz L.n fun j=>ab (L.A k j):=kr fun j _=>cn _
 unfold Lin.F
 omega
theorem Lin.F0_pos (L:Lin):1<=L.F0:=by
 have h2:0<=sz L.n fun j=>ab (L.c j):=kr fun j _=>cn _
 unfold Lin.F0
 omega
def Lin.P (L:Lin):Int:=pz L.m L.F
theorem Q7:∀{n:Nat} {f:Nat->Int},(∀i,i<n->1<=f i)->1<=pz n f
 | 0,_,_=>by simp[pz]
 | n+1,f,h=>by
  simp only[pz]
  have h1:=h 0 (by omega)
  have h2:=Q7 (n:=n) (f:=fun i=>f (i+1)) fun i hi=>h (i+1) (by omega)
  have:=Int.mul_le_mul h1 h2 (by omega) (by omega)
  omega
theorem Lin.P_pos (L:Lin):1<=L.P:=Q7 fun k _=>L.F_pos k
section
variable {L:Lin} {Y:Lay}
theorem PN (h:Y.ok L) {k:Nat} (hk:k<L.m) (x:Int):ab (Y.σ k*x)=ab x:=by
 rw[qw]
 rcases h.sg k hk with e | e<;>rw[e]<;>simp[ab]
theorem LC (h:Y.ok L) {k:Nat} (hk:k<L.m) {f:Nat->Int} (h1:∀j,j<L.n->f j=ab (Y.M L k j)) (hR:f (Y.R L)=ab (Y.M L k (Y.R L)))
  (h2:((∀j,L.n<=j->j<Y.N->f j=0)/\∀i,i<L.m->f (Y.N+i)=if i=k then 1 else 0)\/(L.kd k≠3/\(∀j,L.n<=j->j<Y.N->f j=if j=Y.sl k then 1 else 0)/\∀i,i<L.m->f (Y.N+i)=0)) :
  sz (Y.w L) f=L.F k:=by
 have hn:=h.n
 have e:Y.w L=(L.n+(Y.N - L.n))+L.m+1:=by unfold Lay.w;omega
 rw[e,sz,B6,B6,show L.n+(Y.N - L.n)+L.m=Y.R L by unfold Lay.R;omega,hR,Lay.M_R h,PN h hk]
 have e1:sz L.n f=sz L.n fun j=>ab (L.A k j):=bO fun j hj=>by rw[h1 j hj,Lay.M_x hj,PN h hk]
 rw[e1,show L.n+(Y.N - L.n)=Y.N by omega]
 unfold Lin.F
 rcases h2 with ⟨h3,h4⟩ | ⟨h3,h4,h5⟩
 ·rw[jJ fun i hi=>h3 (L.n+i) (by omega) (by omega),ia hk fun i hi hne=>by rw[h4 i hi,if_neg hne],h4 k hk,if_pos rfl]
  omega
 ·obtain ⟨h6,h7⟩:=h.sl k hk h3
  have a1:(sz (Y.N - L.n) fun i=>f (L.n+i))=1:=by
   rw[ia (k:=Y.sl k - L.n) (by omega) fun i hi hne=>by rw[h4 _ (by omega) (by omega),if_neg (by omega)],h4 _ (by omega) (by omega),if_pos (by omega)]
  have a2:(sz L.m fun i=>f (Y.N+i))=0:=jJ fun i hi=>h5 i hi
  rw[a1,a2]
  omega
theorem K8 (h:Y.ok L) {γ:Nat->Nat} (hlt:∀p,p<L.m->γ p<Y.w L):dc L.m (Y.M L) γ=0\/∀k,k<L.m->(sz L.m fun p=>ab (Y.M L k (γ p)))<=L.F k:=by
 have zero:dc L.m (Y.M L) γ=0->dc L.m (Y.M L) γ=0\/∀k,k<L.m->(sz L.m fun p=>ab (Y.M L k (γ p)))<=L.F k:=fun e=>.inl e
 by_cases hinj:∀p q,p<L.m->q<L.m->γ p=γ q->p=q
 ·by_cases hboth:∃k p q,k<L.m/\L.kd k≠3/\p<L.m/\q<L.m/\γ p=Y.sl k/\γ q=Y.N+k
  ·obtain ⟨k,p,q,hk,h3,hp,hq,e1,e2⟩:=hboth
   obtain ⟨h4,h5⟩:=h.sl k hk h3
   have hpq:p≠q:=fun e=>by rw[e,e2] at e1;omega
   apply zero
   unfold dc
   have e3:det L.m (fp (Y.M L) γ)=det L.m (cO (fp (Y.M L) γ) p fun l=>(Y.σ k*(if L.kd k=1 then 1 else -1))*Y.M L l (Y.N+k)):=by
    refine iI fun l j hl hj=>?_
    unfold cO
    split
    ·rename_i e
     rw[e]
     show Y.M L l (γ p)=(Y.σ k*(if L.kd k=1 then 1 else -1))*Y.M L l (Y.N+k)
     rw[e1,Lay.M_a h hk]
     by_cases el:l=k
     ·subst el
      rw[Lay.M_sl h hl h3,if_pos rfl,Int.mul_one]
     ·rw[if_neg el,lT,Lay.M_slo h4 h5 fun e'=>el (h.inj l k hl hk e'.1 h3 e'.2.symm)]
    ·rfl
   rw[e3,qj hp,nN hp hq hpq fun l _=>by
    unfold cO
    rw[if_pos rfl,if_neg (Ne.symm hpq)]
    show Y.M L l (Y.N+k)=Y.M L l (γ q)
    rw[e2],lT]
  ·refine .inr fun k hk=>?_
   by_cases hs:L.kd k≠3/\∃p,p<L.m/\γ p=Y.sl k
   ·obtain ⟨h3,p,hp,e1⟩:=hs
    obtain ⟨h4,h5⟩:=h.sl k hk h3
    have e:(sz L.m fun p=>ab (Y.M L k (γ p)))=sz L.m fun p=>(fun j=>if Y.N<=j/\j<Y.N+L.m then 0 else ab (Y.M L k j)) (γ p):=bO fun q hq=>by
     show _=if Y.N<=γ q/\γ q<Y.N+L.m then 0 else ab (Y.M L k (γ q))
     split
     ·rename_i hr
      obtain ⟨i,hi⟩:∃i,γ q=Y.N+i:=⟨γ q - Y.N,by omega⟩
      rw[hi,Lay.M_a h (by omega),if_neg fun e'=>hboth ⟨k,p,q,hk,h3,hp,hq,e1,by rw[hi,e']⟩]
      rfl
     ·rfl
    rw[e]
    refine nE (S2 (f:=fun j=>if Y.N<=j/\j<Y.N+L.m then 0 else ab (Y.M L k j)) hlt hinj fun j _=>?_) (Int.le_of_eq (LC h hk (fun j hj=>?_) ?_ (.inr ⟨h3,fun j h6 h7=>?_,fun i hi=>?_⟩)))
    ·split
     ·exact pH _
     ·exact cn _
    ·have:=h.n
     rw[if_neg (by omega)]
    ·rw[if_neg (by unfold Lay.R;omega)]
    ·rw[if_neg (by omega)]
     by_cases ej:j=Y.sl k
     ·subst ej
      rw[Lay.M_sl h hk h3,PN h hk,if_pos rfl]
      split<;>rfl
     ·rw[if_neg ej,Lay.M_slo h6 h7 fun e'=>ej e'.2]
      rfl
    ·rw[if_pos (by omega)]
   ·have e:(sz L.m fun p=>ab (Y.M L k (γ p)))=sz L.m fun p=>(fun j=>if L.n<=j/\j<Y.N then 0 else ab (Y.M L k j)) (γ p):=bO fun q hq=>by
     show _=if L.n<=γ q/\γ q<Y.N then 0 else ab (Y.M L k (γ q))
     split
     ·rename_i hr
      rw[Lay.M_slo hr.1 hr.2 fun e'=>hs ⟨e'.1,q,hq,e'.2⟩]
      rfl
     ·rfl
    rw[e]
    refine nE (S2 (f:=fun j=>if L.n<=j/\j<Y.N then 0 else ab (Y.M L k j)) hlt hinj fun j _=>?_) (Int.le_of_eq (LC h hk (fun j hj=>?_) ?_ (.inl ⟨fun j h6 h7=>?_,fun i hi=>?_⟩)))
    ·split
     ·exact pH _
     ·exact cn _
    ·rw[if_neg (by omega)]
    ·rw[if_neg (by unfold Lay.R;omega)]
    ·rw[if_pos ⟨h6,h7⟩]
    ·rw[if_neg (by omega),Lay.M_a h hi]
     by_cases ei:k=i
     ·rw[if_pos ei,if_pos ei.symm];rfl
     ·rw[if_neg ei,if_neg (Ne.symm ei)];rfl
 ·have:∃p q,p<L.m/\q<L.m/\γ p=γ q/\p≠q:=by
   apply Classical.byContradiction
   intro hno
   refine hinj fun p q hp hq e=>?_
   apply Classical.byContradiction
   intro hne
   exact hno ⟨p,q,hp,hq,e,hne⟩
  obtain ⟨p,q,hp,hq,e,hne⟩:=this
  apply zero
  refine nN hp hq hne fun l _=>?_
  show Y.M L l (γ p)=Y.M L l (γ q)
  rw[e]
theorem Ik (h:Y.ok L) {γ:Nat->Nat} (hlt:∀p,p<L.m->γ p<Y.w L):ab (dc L.m (Y.M L) γ)<=L.P:=by
 rcases K8 h hlt with e | e
 ·have hP:=L.P_pos
  rw[e]
  simp[ab]
  omega
 ·exact nE zB (Ly fun k hk=>⟨kr fun _ _=>cn _,e k hk⟩)
theorem Qp {m w:Nat} {β:Nat->Nat} {r c:Nat} (h:∀p,p<m->β p<w) (hc:c<w):∀p,p<m->upd β r c p<w:=fun p hp=>by
 unfold upd
 split
 ·exact hc
 ·exact h p hp
theorem Ag (h:Y.ok L) {T:Nat->Nat->Int} {d:Int} {β:Nat->Nat} (ht:Tb L.m (Y.w L) (Y.M L) T d β):d<=L.P/\∀i j,i<L.m->j<Y.w L->ab (T i j)<=L.P:=by
 refine ⟨?_,fun i j hi hj=>by rw[ht.bound hi hj];exact Ik h (Qp ht.lt hj)⟩
 obtain ⟨σ,h1,h2,_⟩:=ht.cr
 have h3:=Ik h ht.lt
 have h4:ab d=ab (dc L.m (Y.M L) β):=by
  have h5:ab σ=1:=by
   have h6:ab σ*ab σ=1:=by rw[<-qw,h1];rfl
   have h7:=cn σ
   have h8:ab σ<=1:=by
    apply Int.not_lt.1
    intro h9
    have:2*2<=ab σ*ab σ:=Int.mul_le_mul (by omega) (by omega) (by omega) h7
    omega
   have:ab σ≠0:=fun e=>by rw[e] at h6;simp at h6
   omega
  have h6:ab (σ*dc L.m (Y.M L) β)=ab d:=by rw[<-h2]
  rw[qw,h5,Int.one_mul] at h6
  exact h6.symm
 rw[<-h4] at h3
 exact (sJ.1 h3).2
end
theorem Ia {n:Nat} {A:Nat->Nat->Int} {i k:Nat} (hi:i<n) (hA:∀r,r<n->A r i=if r=k then 1 else 0):∀t,t<=n->det n A=det n (fun r c=>if r=k/\c≠i/\c<t then 0 else A r c)
 | 0,_=>iI fun r c _ _=>by rw[if_neg (by omega)]
 | t+1,ht=>by
  rw[Ia hi hA t (by omega)]
  obtain ⟨B,hB⟩:∃B:Nat->Nat->Int,B=fun r c=>if r=k/\c≠i/\c<t then 0 else A r c:=⟨_,rfl⟩
  rw[<-hB]
  by_cases e:t=i
  ·refine iI fun r c _ _=>?_
   rw[hB]
   by_cases c1:r=k/\c≠i/\c<t
   ·simp only
    rw[if_pos c1,if_pos ⟨c1.1,c1.2.1,by omega⟩]
   ·simp only
    rw[if_neg c1,if_neg (by omega)]
  ·have e1:det n B=det n (cO B t fun r=>(if r=k then 0 else A r t)+(A k t*if r=k then 1 else 0)):=by
    refine iI fun r c _ _=>?_
    unfold cO
    by_cases c1:c=t
    ·rw[if_pos c1,hB,c1]
     simp only
     rw[if_neg (by omega)]
     by_cases c2:r=k
     ·rw[if_pos c2,if_pos c2,c2];omega
     ·rw[if_neg c2,if_neg c2];omega
    ·rw[if_neg c1]
   rw[e1,pk (u:=fun r=>if r=k then 0 else A r t) (v:=fun r=>A k t*if r=k then 1 else 0) (by omega),qj (u:=fun r=>if r=k then (1:Int) else 0) (by omega)]
   have e2:det n (cO B t fun r=>if r=k then (1:Int) else 0)=0:=by
    refine nN (show t<n by omega) hi e fun r hr=>?_
    unfold cO
    rw[if_pos rfl,if_neg (Ne.symm e),hB]
    simp only
    rw[if_neg (show ¬ (r=k/\i≠i/\i<t) from fun h=>h.2.1 rfl),hA r hr]
   rw[e2,lT,Int.add_zero]
   refine iI fun r c _ _=>?_
   unfold cO
   by_cases c1:c=t
   ·rw[if_pos c1,c1]
    simp only
    by_cases c2:r=k
    ·rw[if_pos c2,if_pos ⟨c2,e,by omega⟩]
    ·rw[if_neg c2,if_neg fun h=>c2 h.1]
   ·rw[if_neg c1,hB]
    by_cases c2:r=k/\c≠i/\c<t
    ·simp only
     rw[if_pos c2,if_pos ⟨c2.1,c2.2.1,by omega⟩]
    ·simp only
     rw[if_neg c2,if_neg (by omega)]
theorem zV:∀{n k:Nat} {f:Nat->Int},k<n->f k*pz n (fun r=>if r=k then 1 else f r)=pz n f
 | 0,k,_,h=>by omega
 | n+1,k,f,h=>by
  simp only[pz]
  cases k with
  | zero =>
   rw[if_pos rfl,Int.one_mul]
   congr 1
  | succ k =>
   rw[if_neg (by omega)]
   have h1:=zV (n:=n) (k:=k) (f:=fun i=>f (i+1)) (by omega)
   rw[<-h1]
   have e:(fun i=>if i+1=k+1 then (1:Int) else f (i+1))=fun r=>if r=k then 1 else f (r+1):=by
    funext r
    by_cases c:r=k
    ·rw[if_pos c,if_pos (by omega)]
    ·rw[if_neg c,if_neg (by omega)]
   rw[e]
   grind
section
variable {L:Lin} {Y:Lay}
theorem M5 (h:Y.ok L) {T:Nat->Nat->Int} {d:Int} {β:Nat->Nat} (ht:Tb L.m (Y.w L) (Y.M L) T d β) {i k:Nat} (hi:i<L.m) (hk:k<L.m):L.F k*ab (T i (Y.N+k))<=L.P:=by
 have hw:Y.N+k<Y.w L:=by unfold Lay.w;omega
 have hF:=L.F_pos k
 rw[ht.bound hi hw]
 rcases K8 h (Qp ht.lt hw (r:=i)) with e | e
 ·have:=L.P_pos
  rw[e]
  simp[ab]
  omega
 ·have hcol:∀r,r<L.m->fp (Y.M L) (upd β i (Y.N+k)) r i=if r=k then 1 else 0:=fun r _=>by
   unfold fp upd
   rw[if_pos rfl,Lay.M_a h hk]
  have e1:dc L.m (Y.M L) (upd β i (Y.N+k))=_:=Ia hi hcol L.m (bY _)
  rw[e1]
  have e2:=zB (n:=L.m) (A:=fun r c=>if r=k/\c≠i/\c<L.m then 0 else fp (Y.M L) (upd β i (Y.N+k)) r c)
  have e3:pz L.m (fun r=>sz L.m fun c=>ab (if r=k/\c≠i/\c<L.m then 0 else fp (Y.M L) (upd β i (Y.N+k)) r c))<=pz L.m (fun r=>if r=k then 1 else L.F r):=Ly fun r hr=>by
   refine ⟨kr fun _ _=>cn _,?_⟩
   by_cases c:r=k
   ·rw[if_pos c,ia hi fun l hl hne=>by rw[if_pos ⟨c,hne,hl⟩];rfl,if_neg (by simp),hcol i hi |>fun _=>hcol r hr,if_pos c]
    exact pH _
   ·rw[if_neg c,bO (g:=fun p=>ab (Y.M L r (upd β i (Y.N+k) p))) fun l _=>by rw[if_neg fun h=>c h.1];rfl]
    exact e r hr
  have e4:=nE e2 e3
  have e5:=iD e4 (show 0<=L.F k by omega)
  have e6:L.F k*pz L.m (fun r=>if r=k then 1 else L.F r)=L.P:=zV hk
  rw[e6] at e5
  exact e5
end
section
variable {α R:Type} {F:(α->Option R)->α->Option R}
theorem Dt (n:Nat) (st:Nat->α) (r:Option R) (hb:∀again i,i<n->F again (st i)=again (st (i+1))) (hf:∀again,F again (st n)=r):∀(k i m:Nat),i+k=n->k<m->lY F m (st i)=r
 | 0,i,m,h1,h2=>by
  obtain ⟨m,rfl⟩:∃m',m=m'+1:=⟨m - 1,by omega⟩
  rw[kg,show i=n by omega,hf]
 | k+1,i,m,h1,h2=>by
  obtain ⟨m,rfl⟩:∃m',m=m'+1:=⟨m - 1,by omega⟩
  rw[kg,hb _ _ (by omega)]
  exact Dt n st r hb hf k (i+1) m (by omega) (by omega)
theorem yh (n:Nat) (hn:n<=1180591620717411303423) (st:Nat->α) (r:Option R) (hb:∀again i,i<n->F again (st i)=again (st (i+1))) (hf:∀again,F again (st n)=r):lpK α R F (st 0)=r :=
 Dt n st r hb hf n 0 K0 (by omega) (by unfold K0;omega)
theorem cq {x:α} (n:Nat) (hn:n<=1180591620717411303423) (st:Nat->α) (r:Option R) (hx:x=st 0) (hb:∀again i,i<n->F again (st i)=again (st (i+1))) (hf:∀again,F again (st n)=r):lpK α R F x=r:=by
 rw[hx]
 exact yh n hn st r hb hf
theorem HM (I:α->Prop) (Q:R->Prop) (μ:α->Nat) (h:∀x,I x->(∃r,Q r/\∀rec,F rec x=some r)\/∃y,I y/\μ y<μ x/\∀rec,F rec x=rec y):∀(m:Nat) (x:α),I x->μ x<m->∃r,lY F m x=some r/\Q r
 | 0,_,_,hm=>by omega
 | m+1,x,hx,hm=>by
  rw[kg]
  rcases h x hx with ⟨r,h1,h2⟩ | ⟨y,h1,h2,h3⟩
  ·exact ⟨r,h2 _,h1⟩
  ·rw[h3]
   exact HM I Q μ h m y h1 (by omega)
theorem FU (I:α->Prop) (Q:R->Prop) (μ:α->Nat) (h:∀x,I x->(∃r,Q r/\∀rec,F rec x=some r)\/∃y,I y/\μ y<μ x/\∀rec,F rec x=rec y) {x:α} (hx:I x) (hn:μ x<1180591620717411303424):∃r,lpK α R F x=some r/\Q r :=
 HM I Q μ h K0 x hx hn
theorem DR {γ:Type} (I:γ->α->Prop) (Q:R->Prop) (μ:γ->Nat) (h:∀s x,I s x->(∃r,Q r/\∀rec,F rec x=some r)\/∃s' y,I s' y/\μ s'<μ s/\∀rec,F rec x=rec y):∀(m:Nat) (s:γ) (x:α),I s x->μ s<m->∃r,lY F m x=some r/\Q r
 | 0,_,_,_,hm=>by omega
 | m+1,s,x,hx,hm=>by
  rw[kg]
  rcases h s x hx with ⟨r,h1,h2⟩ | ⟨s',y,h1,h2,h3⟩
  ·exact ⟨r,h2 _,h1⟩
  ·rw[h3]
   exact DR I Q μ h m s' y h1 (by omega)
theorem UN {γ:Type} (I:γ->α->Prop) (Q:R->Prop) (μ:γ->Nat) (h:∀s x,I s x->(∃r,Q r/\∀rec,F rec x=some r)\/∃s' y,I s' y/\μ s'<μ s/\∀rec,F rec x=rec y) {s:γ} {x:α} (hx:I s x) (hn:μ s<1180591620717411303424):∃r,lpK α R F x=some r/\Q r :=
 DR I Q μ h K0 s x hx hn
theorem DJ {γ:Type} (I:γ->α->Prop) (Q:Option R->Prop) (μ:γ->Nat) (h:∀rec s x,I s x->Q (F rec x)\/∃s' y,I s' y/\μ s'<μ s/\F rec x=rec y):∀(m:Nat) (s:γ) (x:α),I s x->μ s<m->Q (lY F m x)
 | 0,_,_,_,hm=>by omega
 | m+1,s,x,hx,hm=>by
  rw[kg]
  rcases h (lY F m) s x hx with h1 | ⟨s',y,h1,h2,h3⟩
  ·exact h1
  ·rw[h3]
   exact DJ I Q μ h m s' y h1 (by omega)
theorem uf {γ:Type} (I:γ->α->Prop) (Q:Option R->Prop) (μ:γ->Nat) (h:∀rec s x,I s x->Q (F rec x)\/∃s' y,I s' y/\μ s'<μ s/\F rec x=rec y) {s:γ} {x:α} (hx:I s x) (hn:μ s<1180591620717411303424):Q (lpK α R F x) :=
 DJ I Q μ h K0 s x hx hn
theorem nW {x:α} (Q:Option R->Prop) (n:Nat) (hn:n<=1180591620717411303423) (st:Nat->α) (hx:x=st 0) (hb:∀again i,i<n->F again (st i)=again (st (i+1))) (hf:∀again,Q (F again (st n))):Q (lpK α R F x) :=
 uf (γ:=Nat) (fun i x=>i<=n/\x=st i) Q (fun i=>n - i) (fun rec i x ⟨h1,h2⟩=>by
  by_cases e:i=n
  ·subst h2;subst e;exact .inl (hf rec)
  ·exact .inr ⟨i+1,st (i+1),⟨by omega,rfl⟩,by omega,by rw[h2];exact hb rec i (by omega)⟩) (s:=0) ⟨by omega,hx⟩ (by omega)
theorem wm {x:α} (Q:Option R->Prop) (n:Nat) (hn:n<=1180591620717411303423) (I:Nat->α->Prop) (hx:I 0 x) (hb:∀again i x,i<n->I i x->∃y,I (i+1) y/\F again x=again y) (hf:∀again x,I n x->Q (F again x)):Q (lpK α R F x) :=
 uf (γ:=Nat) (fun i x=>i<=n/\I i x) Q (fun i=>n - i) (fun rec i x ⟨h1,h2⟩=>by
  by_cases e:i=n
  ·subst e;exact .inl (hf rec x h2)
  ·obtain ⟨y,h3,h4⟩:=hb rec i x (by omega) h2
   exact .inr ⟨i+1,y,⟨by omega,h3⟩,by omega,h4⟩) (s:=0) ⟨by omega,hx⟩ (by omega)
end
theorem vv (n:Nat) (p:Nat->Bool):(∀j,j<n->p j=false)\/∃j,j<n/\p j=true/\∀i,i<j->p i=false:=by
 induction n with
 | zero=>exact .inl fun j hj=>by omega
 | succ n ih =>
  rcases ih with h | ⟨j,h1,h2,h3⟩
  ·cases hp:p n with
   | true=>exact .inr ⟨n,by omega,hp,h⟩
   | false =>
    refine .inl fun j hj=>?_
    by_cases e:j=n
    ·rw[e];exact hp
    ·exact h j (by omega)
  ·exact .inr ⟨j,by omega,h2,h3⟩
def aW {α:Type} (w:Nat) (f:Nat->α):List α:=(List.range w).map f
def jH (m w:Nat) (T:Nat->Nat->Int):List (List Int):=(List.range m).map fun i=>aW w (T i)
def fu (m w:Nat) (T:Nat->Nat->Int):List (Option (List Int)):=(List.range m).map fun i=>some (aW w (T i))
def ja (m w:Nat) (T:Nat->Nat->Int):List Nat×List (Option (List Int)):=(List.range m,fu m w T)
def lF (m:Nat) (β:Nat->Nat):List Int:=aW m fun i=>(β i:Int)
section
variable {α:Type} {m w:Nat} {T T':Nat->Nat->Int}
theorem av {f:Nat->α}:(aW w f).length=w:=by unfold aW;rw[iN,pI]
theorem aX {f:Nat->α} {d:α} {j:Nat} (h:j<w):(aW w f).getD j d=f j:=by
 unfold aW
 rw[aI (by rw[iN,pI];exact h),List.getElem_map,List.getElem_range]
theorem wk {f:Nat->α} {j:Nat} (h:j<(aW w f).length):(aW w f)[j]=f j :=
 (List.getElem_map f (l:=List.range w) (h:=h)).trans (congrArg f (List.getElem_range _))
theorem cz {f g:Nat->α} (h:∀j,j<w->f j=g j):aW w f=aW w g:=by
 unfold aW
 exact List.map_congr_left fun j hj=>h j (List.mem_range.1 hj)
theorem iJ {f:Nat->α} {j:Nat} {x:α} (_:j<w):(aW w f).set j x=aW w fun k=>if k=j then x else f k:=by
 refine List.ext_getElem (by rw[oN,av,av]) fun i h1 h2=>?_
 have h3:i<w:=by rw[av] at h2;exact h2
 rw[List.getElem_set,wk,wk]
 by_cases e:j=i
 ·rw[if_pos e,if_pos e.symm]
 ·rw[if_neg e,if_neg (Ne.symm e)]
theorem cv:(jH m w T).length=m:=by unfold jH;rw[iN,pI]
theorem fV {i:Nat} (h:i<m):(jH m w T).getD i []=aW w (T i):=by
 unfold jH
 rw[aI (by rw[iN,pI];exact h),List.getElem_map,List.getElem_range]
theorem pF:(fu m w T).length=m:=by unfold fu;rw[iN,pI]
theorem gZ:(ja m w T).1.length=m:=by unfold ja;exact pI
theorem kR {i:Nat} (h:i<m):(ja m w T).1.getD i 0=i:=by
 unfold ja
 rw[aI (by rw[pI];exact h),List.getElem_range]
theorem sY {i:Nat} (h:i<m):(fu m w T).getD i none=some (aW w (T i)):=by
 unfold fu
 rw[aI (by rw[iN,pI];exact h),List.getElem_map,List.getElem_range]
theorem HP {i:Nat} (h:i<(fu m w T).length):(fu m w T)[i]=some (aW w (T i)) :=
 (List.getElem_map (fun i=>some (aW w (T i))) (l:=List.range m) (h:=h)).trans (congrArg (fun i=>some (aW w (T i))) (List.getElem_range _))
theorem jR {i:Nat} (h:i<m):bD (fu m w T) i=aW w (T i):=by unfold bD;rw[sY h];rfl
theorem zo {i:Nat} (h:i<m):fK (fu m w T) i=true:=by unfold fK;rw[sY h];rfl
theorem kG (h:∀i j,i<m->j<w->T i j=T' i j):fu m w T=fu m w T':=by
 unfold fu
 exact List.map_congr_left fun i hi=>by rw[cz fun j hj=>h i j (List.mem_range.1 hi) hj]
theorem lK (h:∀i j,i<m->j<w->T i j=T' i j):ja m w T=ja m w T':=by unfold ja;rw[kG h]
theorem GM {i j:Nat} {x:Int} (_:i<m) (hj:j<w):(fu m w T).set i (some ((aW w (T i)).set j x))=fu m w fun k l=>if k=i/\l=j then x else T k l:=by
 rw[iJ hj]
 refine List.ext_getElem (by rw[oN,pF,pF]) fun k h1 h2=>?_
 have h3:k<m:=by rw[pF] at h2;exact h2
 rw[List.getElem_set,HP,HP]
 by_cases e:i=k
 ·subst e
  rw[if_pos rfl]
  congr 1
  refine cz fun l _=>?_
  simp
 ·rw[if_neg e]
  congr 1
  refine cz fun l _=>?_
  rw[if_neg fun h=>e h.1.symm]
theorem iV:((ja m w T).1.all fun x=>fK (ja m w T).2 x)=true:=by
 rw[mv]
 intro i hi
 exact zo (List.mem_range.1 hi)
theorem iT:(ja m w T).1.map (fun x=>bD (ja m w T).2 x)=jH m w T:=by
 unfold ja jH
 exact List.map_congr_left fun i hi=>jR (List.mem_range.1 hi)
theorem lx {β:Nat->Nat}:(lF m β).length=m:=av
theorem mg {β:Nat->Nat} {i:Nat} (h:i<m):(lF m β).getD i 0=(β i:Int):=aX h
theorem Sg {β:Nat->Nat} {r c:Nat} (h:r<m):(lF m β).set r (c:Int)=lF m (upd β r c):=by
 unfold lF
 rw[iJ h]
 refine cz fun k _=>?_
 unfold upd
 by_cases e:k=r
 ·rw[if_pos e,if_pos e]
 ·rw[if_neg e,if_neg e]
end
end Dn
end Go.Proofs.YtlfdhaiigdllcaaGreat

namespace Go.Proofs.YtlfdhaiigdllcaaGreat
noncomputable section
open Tryz Dn Dn.Sh
def bnS (s:Sy) (i:Nat):ByteArray:=(s.1.getD i bk0).1
def bwS (s:Sy) (i:Nat):Int:=(s.1.getD i bk0).2
def rnS (s:Sy) (k:Nat):ByteArray:=(s.2.getD k rp0).1
def hsS (s:Sy) (k:Nat):List Hd:=(s.2.getD k rp0).2.1
structure ValidS (s:Sy):Prop where
 bl:1<=s.1.length/\s.1.length<=6
 rl:1<=s.2.length/\s.2.length<=6
 inj:∀i j,i<s.1.length->j<s.1.length->bnS s i=bnS s j->i=j
 rinj:∀i j,i<s.2.length->j<s.2.length->rnS s i=rnS s j->i=j
 wt:∀i,i<s.1.length->0<=bwS s i/\bwS s i<=16777216
 hl:∀k,k<s.2.length->(hsS s k).length<=10
 pl:∀k h,k<s.2.length->h<(hsS s k).length-> -2<=((hsS s k).getD h hd0).2.1/\((hsS s k).getD h hd0).2.1<=2
theorem np {n i:Nat} (h:i<n):i ∈ rD 0 n:=List.mem_range'.2 ⟨i,h,by omega⟩
theorem Iq {s:Sy} {h:Hd} {e:Bool} (hh:vH s h e=true): -2<=h.2.1/\h.2.1<=2:=by
 unfold vH at hh
 rw[z10] at hh
 have h2:=hh.2
 cases he:xV h.1 with
 | true=>rw[he,cT,decide_eq_true_iff] at h2;omega
 | false =>
  rw[he,cF,z10] at h2
  have h3:=h2.2
  cases e with
  | true=>rw[cT,Bool.or_eq_true,decide_eq_true_iff,decide_eq_true_iff] at h3;omega
  | false=>rw[cF,Bool.or_eq_true,Bool.or_eq_true,decide_eq_true_iff,decide_eq_true_iff,decide_eq_true_iff] at h3;omega
theorem pb {l:List ByteArray} {i j:Nat} {d:ByteArray} (h1:i<j) (h2:j<=l.length):l.getD i d ∈ l.take j:=by
 rw[aI (by omega)]
 exact List.mem_take_iff_getElem.2 ⟨i,by omega,rfl⟩
theorem dD {s:Sy} (h:dz s=true):ValidS s:=by
 unfold dz at h
 rw[z10,z10,z10,decide_eq_true_iff,mv,mv] at h
 obtain ⟨⟨h1,h2,h3,h4⟩,hb,hr,_⟩:=h
 have hb':∀i,i<s.1.length->bnS s i ∉ (s.1.map (·.fst)).take i/\0<=bwS s i/\bwS s i<=16777216:=fun i hi=>by
  have:=hb i (np hi)
  unfold CJ vd at this
  rw[z10,z10,z10,Bool.not_eq_true',Iv,decide_eq_true_iff,decide_eq_true_iff] at this
  exact this.2
 have hr':∀i,i<s.2.length->rnS s i ∉ (s.2.map (·.fst)).take i/\xb s (s.2.getD i rp0)=true:=fun i hi=>by
  have:=hr i (np hi)
  unfold qS at this
  rw[z10,z10,Bool.not_eq_true',Iv,List.mem_append] at this
  exact ⟨fun hm=>this.2.1 (.inr hm),this.2.2⟩
 have hro:∀k,k<s.2.length->(2<=(hsS s k).length/\(hsS s k).length<=10)/\∀i,i<(hsS s k).length->∃e,vH s ((hsS s k).getD i hd0) e=true:=fun k hk=>by
  have:=(hr' k hk).2
  unfold xb at this
  rw[z10,z10,decide_eq_true_iff,mv] at this
  exact ⟨this.1,fun i hi=>⟨_,this.2.1 i (np hi)⟩⟩
 refine ⟨⟨h1,h2⟩,⟨h3,h4⟩,fun i j hi hj he=>?_,fun i j hi hj he=>?_,fun i hi=>(hb' i hi).2,fun k hk=>(hro k hk).1.2,fun k h hk hh=>?_⟩
 ·have e1:∀k,k<s.1.length->(s.1.map (·.fst)).getD k bk0.1=bnS s k:=fun k hk=>wu (f:=fun b:Bk=>b.1) (d:=bk0) hk bk0.1
  rcases Nat.lt_trichotomy i j with h | h | h
  ·exfalso
   apply (hb' j hj).1
   rw[<-he,<-e1 i hi]
   exact pb h (by rw[iN];omega)
  ·exact h
  ·exfalso
   apply (hb' i hi).1
   rw[he,<-e1 j hj]
   exact pb h (by rw[iN];omega)
 ·have e1:∀k,k<s.2.length->(s.2.map (·.fst)).getD k rp0.1=rnS s k:=fun k hk=>wu (f:=fun b:Rp=>b.1) (d:=rp0) hk rp0.1
  rcases Nat.lt_trichotomy i j with h | h | h
  ·exfalso
   apply (hr' j hj).1
   rw[<-he,<-e1 i hi]
   exact pb h (by rw[iN];omega)
  ·exact h
  ·exfalso
   apply (hr' i hi).1
   rw[he,<-e1 j hj]
   exact pb h (by rw[iN];omega)
 ·obtain ⟨e,he⟩:=(hro k hk).2 h hh
  exact Iq he
theorem Dq (s:Sy) (n:ByteArray):(fbI s n<0/\∀i,i<s.1.length->bnS s i≠n)\/∃i:Nat,i<s.1.length/\fbI s n=(i:Int)/\bnS s i=n:=by
 by_cases h:fbI s n<0
 ·refine .inl ⟨h,fun i hi he=>?_⟩
  have:=(qe (p:=fun b:Bk=>decide (b.1=n)) (l:=s.1) (i:=0) (by omega)).1 h (s.1.getD i bk0) (by rw[aI hi];exact eX _)
  exact of_decide_eq_false this he
 ·obtain ⟨_,h2,h3⟩:=LL (p:=fun b:Bk=>decide (b.1=n)) (d:=bk0) (l:=s.1) (i:=0) (by omega) (Int.not_lt.1 h)
  refine .inr ⟨(fbI s n).toNat,?_,?_,?_⟩
  ·unfold fbI;omega
  ·unfold fbI at h ⊢;omega
  ·have:=z12 h3
   rw[Int.sub_zero] at this
   exact this
def mN (hs:List Hd) (n:ByteArray) (h:Nat):Int:=sz h fun t=>if (hs.getD t hd0).1=n then (hs.getD t hd0).2.1 else 0
def Mx (s:Sy) (i k:Nat):Int:=mN (hsS s k) (bnS s i) (hsS s k).length
theorem qV {hs:List Hd} {n:ByteArray} (hp:∀t,t<hs.length-> -2<=(hs.getD t hd0).2.1/\(hs.getD t hd0).2.1<=2):∀h,h<=hs.length-> -(2*(h:Int))<=mN hs n h/\mN hs n h<=2*(h:Int)
 | 0,_=>by simp[mN,sz]
 | h+1,hh=>by
  have:=qV (n:=n) hp h (by omega)
  have h2:=hp h (by omega)
  unfold mN at *
  simp only[sz]
  split<;>omega
theorem yV {s:Sy} (hv:ValidS s) (i:Nat) {k:Nat} (hk:k<s.2.length): -20<=Mx s i k/\Mx s i k<=20:=by
 have h1:=qV (n:=bnS s i) (hs:=hsS s k) (fun t ht=>hv.pl k t hk ht) _ (bY _)
 have h2:=hv.hl k hk
 unfold Mx
 omega
theorem bN {i:Nat} (h:i<=1000000):aQ .i64 ((i:Int)+1)=((i+1:Nat):Int):=by rw[aZ (by omega) (by omega)];rfl
def uB (s:Sy):List (List Int):=jH s.1.length s.2.length (Mx s)
theorem ju {α:Type} {w:Nat} {f:Nat->α}:aW w f++[f w]=aW (w+1) f:=by
 unfold aW
 rw[List.range_succ,List.map_append]
 rfl
theorem Il {m w:Nat} {T:Nat->Nat->Int}:fu m w T++[some (aW w (T m))]=fu (m+1) w T:=by
 unfold fu
 rw[List.range_succ,List.map_append]
 rfl
def Zq (T:List Nat) (x0:Sy):Option (List (List Int)×Int×Unit) :=
 ah (aK x0) fun (t:Bool)=>bif !t then some ([],(1:Int),aC) else bif decide ((0:Int)<=(↑(aq x0.1):Int))&&dS (aS (↑(aq x0.1):Int)) (24:Nat) then lpK (Int×(List Nat×List (Option (List Int)))×PUnit) (List (List Int)×Int×PUnit) (fun (again:Int×(List Nat×List (Option (List Int)))×PUnit->Option (List (List Int)×Int×PUnit)) (x:Int×(List Nat×List (Option (List Int)))×PUnit)=>bif decide (x.1<(↑(aq T):Int)) then bif decide ((0:Int)<=(↑(aq x0.2):Int))&&dS (aS (↑(aq x0.2):Int)) (8:Nat) then bif inB x.1 (aq x.2.1.1) then bif cl (bT (aS x.1)) (aq x.2.1.1) then again (aQ .i64 (x.1+(1:Int)),(iF x.2.1.1 (aS x.1) (aq x.2.1.2),x.2.1.2++[some (bx (aS (↑(aq x0.2):Int)) (0:Int))]),aC) else none else none else none else lpK (Int×(List Nat×List (Option (List Int)))×PUnit) (List (List Int)×Int×PUnit) (fun (again:Int×(List Nat×List (Option (List Int)))×PUnit->Option (List (List Int)×Int×PUnit)) (x:Int×(List Nat×List (Option (List Int)))×PUnit)=>bif decide (x.1<(↑(aq x0.2):Int)) then bif inB x.1 (aq x0.2) then lpK (Int×(List Nat×List (Option (List Int)))×PUnit) (List (List Int)×Int×PUnit) (fun (again_1:Int×(List Nat×List (Option (List Int)))×PUnit->Option (List (List Int)×Int×PUnit)) (x_1:Int×(List Nat×List (Option (List Int)))×PUnit)=>let v10:Int:=aQ .i64 (x_1.1+(1:Int));let v11:(List Nat×List (Option (List Int)))×PUnit:=(x_1.2.1,aC);let v12:ByteArray×Int×Int×Int:=aT (aT x0.2 (aS x.1) ({ data:={ toList:=[] } },[],false)).2.1 (aS x_1.1) ({ data:={ toList:=[] } },(0:Int),(0:Int),(0:Int));bif decide (x_1.1<(↑(aq (aT x0.2 (aS x.1) ({ data:={ toList:=[] } },[],false)).2.1):Int)) then bif inB x_1.1 (aq (aT x0.2 (aS x.1) ({ data:={ toList:=[] } },[],false)).2.1) then ah (cW x0 v12.1) fun (t:Int)=>bif decide (t>=(0:Int)) then bif inB t (aq x_1.2.1.1) then bif cl (bT (aS t)) (aq x_1.2.1.1) then bif inB x.1 (aq (bD x_1.2.1.2 (aT x_1.2.1.1 (aS t) (0:Nat)))) then bif cl (bT (aS x.1)) (aq (bD x_1.2.1.2 (aT x_1.2.1.1 (aS t) (0:Nat)))) then bif inB x.1 (aq (bD x_1.2.1.2 (aT x_1.2.1.1 (aS t) (0:Nat)))) then bif cl (bT (aS x.1)) (aq (bD x_1.2.1.2 (aT x_1.2.1.1 (aS t) (0:Nat)))) then again_1 (v10,(x_1.2.1.1,iF x_1.2.1.2 (aT x_1.2.1.1 (aS t) (0:Nat)) (some (iF (bD x_1.2.1.2 (aT x_1.2.1.1 (aS t) (0:Nat))) (aS x.1) (aQ .i64 (aT (bD x_1.2.1.2 (aT x_1.2.1.1 (aS t) (0:Nat))) (aS x.1) (0:Int)+v12.2.1))))),aC) else none else none else none else none else none else none else again_1 (v10,v11) else none else again (aQ .i64 (x.1+(1:Int)),v11)) ((0:Int),x.2.1,aC) else none else bif List.all x.2.1.1 fun (x_1:Nat)=>fK x.2.1.2 x_1 then some (List.map (fun (x_1:Nat)=>bD x.2.1.2 x_1) x.2.1.1,(0:Int),aC) else none) ((0:Int),x.2.1,aC)) ((0:Int),(T,bx (aS (↑(aq x0.1):Int)) (some [])),aC) else none
theorem KO (s:Sy):aB s=Zq (BU Sh.ref (0:Nat) (aS (↑(aq s.1):Int)) 0) s:=by kernel_rfl
theorem xu:∀(n k:Nat),BU Sh.ref (0:Nat) n k=(List.range n).map fun i=>k+i
 | 0,_=>rfl
 | n+1,k=>by
  rw[List.range_succ_eq_map,List.map_cons,List.map_map]
  unfold BU
  rw[xu n (k+1)]
  have e:shS k Sh.ref (0:Nat)=k+0:=rfl
  rw[e]
  congr 1
  refine List.map_congr_left fun i _=>?_
  simp only[Function.comp]
  omega
def AR (m w:Nat) (T:Nat->Nat->Int):List Nat×List (Option (List Int)):=(aW m fun k=>m+k,bx m (some [])++fu m w T)
theorem Rl {n:Nat}:bx n (0:Int)=aW n fun _=>0:=by
 unfold aW
 rw[List.map_const',pI]
section
variable {m w:Nat} {T:Nat->Nat->Int}
theorem GT {i:Nat}:(bx m (some ([]:List Int))++fu m w T).getD (m+i) none=(fu m w T).getD i none:=by
 rw[c_,c_,mT (by rw[q_];omega),q_,Nat.add_sub_cancel_left]
theorem HR {i:Nat} (h:i<m):bD (bx m (some ([]:List Int))++fu m w T) (m+i)=aW w (T i):=by
 unfold bD
 rw[GT,sY h]
 rfl
theorem Mf {i:Nat} (h:i<m):fK (bx m (some ([]:List Int))++fu m w T) (m+i)=true:=by
 unfold fK
 rw[GT,sY h]
 rfl
theorem Ts {i j:Nat} {x:Int} (hi:i<m) (hj:j<w):(bx m (some ([]:List Int))++fu m w T).set (m+i) (some ((aW w (T i)).set j x))=bx m (some [])++fu m w fun k l=>if k=i/\l=j then x else T k l:=by
 rw[List.set_append_right _ _ (by rw[q_];omega),q_,Nat.add_sub_cancel_left,GM hi hj]
end
theorem yC {s:Sy} (h:dz s=true):aB s=some (uB s,0,()):=by
 have hv:=dD h
 have hb:=hv.bl
 have hr:=hv.rl
 have hf:=fun n=>HS s n (show s.1.length<=1000000 by omega)
 rw[KO,xu]
 simp only[Zq,ww,h,af,bt,cF,z9,iN,pI,z7 (show (0:Int)<=(s.1.length:Nat) by omega),z7 (show (0:Int)<=(s.2.length:Nat) by omega),
  cZ (show s.1.length*24<=140737488355328 by omega),cZ (show s.2.length*8<=140737488355328 by omega),h_,cT]
 obtain ⟨m,hm⟩:∃m,m=s.1.length:=⟨_,rfl⟩
 obtain ⟨w,hw⟩:∃w,w=s.2.length:=⟨_,rfl⟩
 rw[<-hm] at hb ⊢
 rw[<-hw] at hr ⊢
 refine cq m (by omega) (fun i=>((i:Int),(aW m (fun k=>if k<i then m+k else k),bx m (some [])++fu i w fun _ _=>0),aC)) _ ?_ (fun again i hi=>?_) (fun again=>?_)
 ·have e:(List.range m).map (fun i=>0+i)=aW m (fun k=>if k<0 then m+k else k):=cz (f:=fun i=>0+i) fun k _=>by rw[if_neg (by omega),d_]
  rw[e]
  show _=((0:Int),(_,bx m (some ([]:List Int))++[]),aC)
  rw[gO]
 ·simp only[aH,av,z7 hi,z7 (show (i:Int)<m by omega),cT,z9,cE (show i.succ<=m by omega),bN (show i<=1000000 by omega)]
  refine congrArg again ?_
  refine congrArg (fun p=>(((i+1:Nat):Int),p,aC)) ?_
  rw[iJ hi,cL,q_,pF,Rl,la,Il]
  refine congrArg (fun l=>(l,_)) ?_
  refine cz fun k _=>?_
  by_cases c:k=i
  ·rw[if_pos c,if_pos (by omega)];omega
  ·rw[if_neg c]
   by_cases c2:k<i
   ·rw[if_pos c2,if_pos (by omega)]
   ·rw[if_neg c2,if_neg (by omega)]
 ·simp only[z8 (show ¬ (m:Int)<m by omega),cF]
  refine cq w (by omega) (fun k=>((k:Int),AR m w (fun i j=>if j<k then Mx s i j else 0),aC)) _ ?_ (fun again k hk=>?_) (fun again=>?_)
  ·refine congrArg (fun p=>((0:Int),p,aC)) ?_
   unfold AR
   refine Prod.ext (cz fun k hk=>by rw[if_pos hk]) ?_
   simp only
   rw[kG fun i j _ _=>(if_neg (show ¬ j<0 by omega)).symm]
  ·have hwk:k<s.2.length:=by omega
   have hpl:=fun t ht=>hv.pl k t hwk ht
   have hhl:=hv.hl k hwk
   have hpb:=fun n=>qV (n:=n) (hs:=hsS s k) hpl
   simp only[aH,z7 hk,z7 (show (k:Int)<w by omega),cT,z9,bN (show k<=1000000 by omega),show (aT s.2 k ({ data:={ toList:=[] } },[],false)).2.1=hsS s k from rfl]
   refine cq (hsS s k).length (by omega) (fun t=>((t:Int),AR m w (fun i j=>if j<k then Mx s i j else if j=k then mN (hsS s k) (bnS s i) t else 0),aC)) _ ?_ (fun again1 t ht=>?_) (fun again1=>?_)
   ·refine congrArg (fun p=>((0:Int),p,aC)) ?_
    unfold AR
    refine congrArg (fun c=>(_,bx m (some ([]:List Int))++c)) (kG fun i j _ _=>?_)
    by_cases c1:j<k
    ·rw[if_pos c1,if_pos c1]
    ·rw[if_neg c1,if_neg c1]
     split<;>rfl
   ·obtain ⟨hd,hhd⟩:∃hd,hd=(hsS s k).getD t hd0:=⟨_,rfl⟩
    have hpt:=hpl t ht
    simp only[aH,z7 ht,z7 (show (t:Int)<(hsS s k).length by omega),cT,z9,bN (show t<=1000000 by omega),show aT (hsS s k) t ({ data:={ toList:=[] } },(0:Int),(0:Int),(0:Int))=(hsS s k).getD t hd0 from rfl,hf,af]
    rw[<-hhd] at hpt ⊢
    have estep:∀n,mN (hsS s k) n (t+1)=mN (hsS s k) n t+if hd.1=n then hd.2.1 else 0:=fun n=>by rw[hhd];rfl
    rcases Dq s hd.1 with ⟨h1,h2⟩ | ⟨i0,h1,h2,h3⟩
    ·rw[z8 (show ¬ fbI s hd.1>=0 by omega),cF]
     refine congrArg again1 ?_
     refine congrArg (fun p=>(((t+1:Nat):Int),p,aC)) ?_
     unfold AR
     refine congrArg (fun c=>(_,bx m (some ([]:List Int))++c)) (kG fun i j hi _=>?_)
     have e:mN (hsS s k) (bnS s i) (t+1)=mN (hsS s k) (bnS s i) t:=by
      rw[estep,if_neg fun e=>h2 i (by omega) e.symm,Int.add_zero]
     rw[e]
    ·have hi0:i0<m:=by omega
     have hTl:(aW m fun k=>m+k).getD i0 0=m+i0:=aX hi0
     have hrow:=HR (w:=w) (T:=fun i j=>if j<k then Mx s i j else if j=k then mN (hsS s k) (bnS s i) t else 0) hi0
     have hget:(aW w fun j=>if j<k then Mx s i0 j else if j=k then mN (hsS s k) (bnS s i0) t else 0).getD k 0=mN (hsS s k) (bnS s i0) t:=by
      rw[aX hk,if_neg (by omega),if_pos rfl]
     have hb1:=hpb (bnS s i0) t (by omega)
     simp only[h2,z7 (show (i0:Int)>=0 by omega),cT,z9]
     unfold AR
     simp only[aH,av,z7 hi0,cT,hTl,hrow,z7 hk,cE (show k.succ<=w by omega),cE (show i0.succ<=m by omega),hget]
     rw[aZ (by omega) (by omega),Ts (T:=fun i j=>if j<k then Mx s i j else if j=k then mN (hsS s k) (bnS s i) t else 0) hi0 hk]
     refine congrArg again1 ?_
     refine congrArg (fun c=>(((t+1:Nat):Int),(_,bx m (some ([]:List Int))++c),aC)) (kG fun i j hi _=>?_)
     by_cases c1:j=k
     ·subst c1
      by_cases c2:i=i0
      ·subst c2
       rw[if_pos ⟨rfl,rfl⟩,if_neg (by omega),if_pos rfl,estep,if_pos h3.symm]
      ·rw[if_neg fun e=>c2 e.1,if_neg (by omega),if_pos rfl,if_neg (by omega),if_pos rfl,estep,if_neg,Int.add_zero]
       intro e
       exact c2 (hv.inj i i0 (by omega) h1 (by rw[h3,e]))
     ·rw[if_neg fun e=>c1 e.2,if_neg c1,if_neg c1]
   ·simp only[z8 (show ¬ ((hsS s k).length:Int)<(hsS s k).length by omega),cF]
    refine congrArg again ?_
    refine congrArg (fun p=>(((k+1:Nat):Int),p,aC)) ?_
    unfold AR
    refine congrArg (fun c=>(_,bx m (some ([]:List Int))++c)) (kG fun i j _ _=>?_)
    by_cases c1:j<k
    ·rw[if_pos c1,if_pos (by omega)]
    ·rw[if_neg c1]
     by_cases c2:j=k
     ·subst c2
      rw[if_pos rfl,if_pos (by omega)]
      rfl
     ·rw[if_neg c2,if_neg (by omega)]
  ·simp only[z8 (show ¬ (w:Int)<w by omega),cF]
   have hall:((AR m w fun i j=>if j<w then Mx s i j else 0).1.all fun x=>fK (AR m w fun i j=>if j<w then Mx s i j else 0).2 x)=true:=by
    rw[mv]
    intro x hx
    obtain ⟨i,hi,rfl⟩:=List.mem_map.1 hx
    exact Mf (List.mem_range.1 hi)
   have hmap:(AR m w fun i j=>if j<w then Mx s i j else 0).1.map (fun x=>bD (AR m w fun i j=>if j<w then Mx s i j else 0).2 x)=uB s:=by
    unfold uB jH
    rw[<-hm,<-hw]
    unfold AR aW
    rw[List.map_map]
    refine List.map_congr_left fun i hi=>?_
    have:=HR (w:=w) (T:=fun i j=>if j<w then Mx s i j else 0) (List.mem_range.1 hi)
    exact this.trans (cz fun j hj=>if_pos hj)
   rw[hall,hmap,cT]
theorem Hz {s:Sy} (h:dz s=false):aB s=some ([],1,()):=by
 rw[KO]
 simp only[Zq,ww,h,af,e_,cT]
def ip:List Int->List Fq->Rat->Option Rat
 | n ::l,a ::x,s=>if gF ((n:Rat)*qv a)/\gF (s+(n:Rat)*qv a) then ip l x (s+(n:Rat)*qv a) else none
 | _,_,s=>some s
def aaD {R:Type} (o:Option Rat) (bad:Option R) (good:Rat->Option R):Option R:=match o with
 | some q=>good q
 | none=>bad
theorem PD {σ R:Type} {l:List Int} {x:List Fq} (hl:l.length<=x.length) {b:Nat->σ->(σ->Option R)->Option R} {f:σ->Option R} {cur:σ->Rat} {bad:Option R} {good:Rat->Option R}
  (nx:∀i s,gF (cur s+((l.getD i 0:Int):Rat)*qv (x.getD i (0,0)))->σ) (hnx:∀i s h,cur (nx i s h)=cur s+((l.getD i 0:Int):Rat)*qv (x.getD i (0,0)))
  (hb:∀i s k,i<l.length->b i s k=if h:gF (((l.getD i 0:Int):Rat)*qv (x.getD i (0,0)))/\gF (cur s+((l.getD i 0:Int):Rat)*qv (x.getD i (0,0))) then k (nx i s h.2) else bad)
  (hf:∀s,f s=good (cur s)):∀(k i:Nat) (s:σ),i+k=l.length->upF b f k i s=aaD (ip (l.drop i) (x.drop i) (cur s)) bad good
 | 0,i,s,h=>by
  rw[List.drop_eq_nil_of_le (by omega)]
  exact hf s
 | k+1,i,s,h=>by
  have h1:i<l.length:=by omega
  have h2:i<x.length:=by omega
  have e1:l.getD i 0=l[i]:=aI h1
  have e2:x.getD i (0,0)=x[i]:=aI h2
  simp only[upF]
  rw[hb i s _ h1,List.drop_eq_getElem_cons h1,List.drop_eq_getElem_cons h2,ip,<-e1,<-e2]
  split
  ·rw[PD hl nx hnx hb hf k (i+1) _ (by omega),hnx]
  ·rfl
theorem obN {T R:Type} {t:T} {k:T->Option R}:ah (some t) k=k t:=id rfl
theorem Wz {l:List Int} {x:List Fq} {e:Int} (hl:l.length<=x.length) (h0:l.length<=1000000) (hc:∀n ∈ l,-1152921504606846976<=n/\n<=1152921504606846976) (hx:∀a ∈ x,okF a) :
  dj e l x=aaD (ip l x 0) (some (5,(0,1))) fun q=>some (e,prQ q):=by
 simp only[dj,mw]
 refine (rY (α:=Int×Int×Fq×Fq×PUnit) l.length (by omega) (fun i (s:Fq×{q:Rat // gF q})=>((i:Int),e,s.1,prQ s.2.1,aC))
  (fun i s k=>if h:gF (((l.getD i 0:Int):Rat)*qv (x.getD i (0,0)))/\gF (s.2.1+((l.getD i 0:Int):Rat)*qv (x.getD i (0,0))) then k (s.1,⟨_,h.2⟩) else some (5,(0,1))) (fun s=>some (e,prQ s.2.1)) ?_ ?_ ((0,0),⟨0,by decide⟩)).trans ?_
 ·intro again i s hi
  have hw:aQ .i64 ((i:Int)+1)=((i+1:Nat):Int):=by rw[aZ (by omega) (by omega)];rfl
  obtain ⟨w,q,hq⟩:=s
  have hn:l.getD i 0 ∈ l:=by rw[aI hi];exact eX _
  have ha:okF (x.getD i (0,0)):=by rw[aI (show i<x.length by omega)];exact hx _ (eX _)
  have hm:=xH (Ba (hc _ hn).1 (hc _ hn).2) ha
  rw[rS] at hm
  simp only[aH,z7 hi,z7 (show i<x.length by omega),z7 (show (i:Int)<l.length by omega),cT,z9,hw,wn,hm,af]
  generalize l.getD i 0=n at *
  generalize x.getD i (0,0)=a at *
  rcases jY ((n:Rat)*qv a) with ⟨f1,e1⟩ | ⟨f1,e1⟩
  ·have hA:=I3 (lI hq) (lI f1)
   rw[pY,pY] at hA
   simp only[e1,decide_true,cT,hA,af]
   rcases jY (q+(n:Rat)*qv a) with ⟨f2,e2⟩ | ⟨f2,e2⟩
   ·rw[dif_pos ⟨f1,f2⟩]
    simp only[e2,decide_true,bt,cF]
   ·rw[dif_neg fun h=>f2 h.2]
    simp only[e2]
    rfl
  ·rw[dif_neg fun h=>f1 h.1]
   simp only[e1]
   rfl
 ·intro again s
  simp only[z8 (show ¬ (l.length:Int)<l.length by omega),cF]
 ·exact PD (cur:=fun s:Fq×{q:Rat // gF q}=>s.2.1) (bad:=some (5,(0,1))) (good:=fun q=>some (e,prQ q)) hl (fun i s h=>(s.1,⟨_,h⟩)) (fun _ _ _=>rfl) (fun _ _ _ _=>rfl) (fun _=>rfl) l.length 0 ((0,0),⟨0,by decide⟩) (by omega)
theorem Eg:∀{l:List Int} {x:List Fq} {s q:Rat},gF s->ip l x s=some q->gF q
 | [],_,s,q,hs,h=>by
  unfold ip at h
  injection h with h
  rw[<-h];exact hs
 | _ ::_,[],s,q,hs,h=>by
  unfold ip at h
  injection h with h
  rw[<-h];exact hs
 | n ::l,a ::x,s,q,hs,h=>by
  unfold ip at h
  split at h
  ·rename_i hh
   exact Eg hh.2 h
  ·cases h
theorem Uc {n:Int} (h:inC n=true): -1152921504606846976<=n/\n<=1152921504606846976:=by
 have:=z12 h
 omega
theorem UT {n:Int} (h:inR n=true): -1152921504606846976<=n/\n<=1152921504606846976:=by
 have:=z12 h
 omega
structure ValidP (p:Pg):Prop where
 cost:1<=p.1.length/\p.1.length<=12
 rows:p.2.length<=6
 cs:∀n ∈ p.1,inC n=true
 len:∀r ∈ p.2,r.1.length=p.1.length
 kind:∀r ∈ p.2,1<=r.2.1/\r.2.1<=3
 right:∀r ∈ p.2,inR r.2.2=true
 coefs:∀r ∈ p.2,∀n ∈ r.1,inC n=true
theorem kN {p:Pg}:tB p=true↔ValidP p:=by
 unfold tB QO
 rw[z10,z10,decide_eq_true_iff,mv,mv]
 constructor
 ·rintro ⟨⟨h1,h2,h3⟩,h4,h5⟩
  have h6:∀r ∈ p.2,r.1.length=p.1.length/\(1<=r.2.1/\r.2.1<=3)/\inR r.2.2=true/\∀n ∈ r.1,inC n=true:=fun r hr=>by
   have:=h5 r hr
   unfold Ap at this
   rw[z10,z10,z10,decide_eq_true_iff,decide_eq_true_iff,mv] at this
   exact this
  exact ⟨⟨h1,h2⟩,h3,h4,fun r hr=>(h6 r hr).1,fun r hr=>(h6 r hr).2.1,fun r hr=>(h6 r hr).2.2.1,fun r hr=>(h6 r hr).2.2.2⟩
 ·rintro ⟨h1,h2,h3,h4,h5,h6,h7⟩
  refine ⟨⟨h1.1,h1.2,h2⟩,h3,fun r hr=>?_⟩
  unfold Ap
  rw[z10,z10,z10,decide_eq_true_iff,decide_eq_true_iff,mv]
  exact ⟨h4 r hr,h5 r hr,h6 r hr,h7 r hr⟩
theorem VA {a:Fq} {n:Int} (ha:okF a) (hn: -1152921504606846976<=n/\n<=1152921504606846976):iw a n=some (BA (qv a) (n:Rat)):=by
 have h:=YP ha (Ba hn.1 hn.2)
 rw[rS] at h
 simp only[iw,rQ,h,af]
theorem EO {l:List Int} {x:List Fq}:gF ((ip l x 0).getD 0):=by
 cases h:ip l x 0 with
 | none=>decide
 | some q=>exact Eg (by decide) h
theorem Yi {l:List Int} {x:List Fq} {e:Int} (hl:l.length<=x.length) (h0:l.length<=1000000) (hc:∀n ∈ l,inC n=true) (hx:∀a ∈ x,okF a) :
  dj e l x=some (bif (ip l x 0).isSome then e else 5,prQ ((ip l x 0).getD 0)):=by
 rw[Wz hl h0 (fun n hn=>Uc (hc n hn)) hx]
 cases ip l x 0<;>rfl
def Tx (p:Pg) (x:List Fq):Bool:=p.2.all fun r=>(ip r.1 x 0).isSome
def okL (x:List Fq):Bool:=x.all fun a=>decide (okF a)
theorem P8 {x:List Fq} (h:x.length<=1000000):gk x=some (okL x):=by
 have hc:au x (fun x=>fb x.1)=some (!okL x):=by
  unfold okL
  rw[<-KU]
  refine Ni (p:=fun a:Fq=>!decide (okF a)) h fun a _=>?_
  simp only[fb,mf,tj,af]
 simp only[gk,oz,hc,af,Bool.not_not]
theorem Kr {x:List Fq}:okL x=true↔∀a ∈ x,okF a:=by
 unfold okL
 rw[mv]
 exact ⟨fun h a ha=>z12 (h a ha),fun h a ha=>z7 (h a ha)⟩
end
end Go.Proofs.YtlfdhaiigdllcaaGreat

namespace Go.Proofs.YtlfdhaiigdllcaaGreat
open Tryz Dn Dn.Sh
def ux (x:Int):Bool×Int×Int:=(decide (x<0),hl x.natAbs)
theorem yJ {x:Int} (h1: -9223372036854775808<=x) (h2:x<9223372036854775808):cY x=some (x.natAbs:Int):=nQ h1 h2
theorem LG {n:Nat}:(bif !decide ((hl n).1=0) then true else !decide ((hl n).2=0))=decide (n≠0):=by
 unfold hl
 simp only
 by_cases h:n=0
 ·subst h;rfl
 ·rw[z7 h]
  by_cases c1:((n / 18446744073709551616:Nat):Int)=0
  ·rw[z7 c1,z8 (show ¬ ((n % 18446744073709551616:Nat):Int)=0 by omega)];rfl
  ·rw[z8 c1];rfl
theorem OA {a b:Int}:(bif !decide (decide (a<0)=decide (b<0)) then decide ((a.natAbs*b.natAbs)≠0) else false)=decide (a*b<0):=by
 by_cases ha:a<0
 ·by_cases hb:b<0
  ·have:=Int.mul_pos_of_neg_of_neg ha hb
   rw[z8 (show ¬ a*b<0 by omega)]
   simp[ha,hb]
  ·by_cases hb0:b=0
   ·subst hb0;simp
   ·have:=Int.mul_neg_of_neg_of_pos ha (show 0<b by omega)
    rw[z7 this,z7 (show a.natAbs*b.natAbs≠0 by rw[<-Int.natAbs_mul];omega)]
    simp[ha,hb]
 ·by_cases ha0:a=0
  ·subst ha0;simp
  ·by_cases hb:b<0
   ·have:=Int.mul_neg_of_pos_of_neg (show 0<a by omega) hb
    rw[z7 this,z7 (show a.natAbs*b.natAbs≠0 by rw[<-Int.natAbs_mul];omega)]
    simp[ha,hb]
   ·have:=ph (show 0<=a by omega) (show 0<=b by omega)
    rw[z8 (show ¬ a*b<0 by omega)]
    simp[ha,hb]
theorem wj {a b:Int} (ha: -9223372036854775808<=a/\a<9223372036854775808) (hb: -9223372036854775808<=b/\b<9223372036854775808):cg a b=some (ux (a*b)):=by
 have e:(((a.natAbs:Nat):Int)*(b.natAbs:Int) / 18446744073709551616,((a.natAbs:Nat):Int)*(b.natAbs:Int) % 18446744073709551616,aC)=((hl (a.natAbs*b.natAbs)).1,(hl (a.natAbs*b.natAbs)).2,aC):=by
  rw[<-iS];rfl
 simp only[cg,ou,yJ ha.1 ha.2,yJ hb.1 hb.2,af]
 rw[RH (by omega) (by omega) (by omega) (by omega),af,e]
 have h1:=LG (n:=a.natAbs*b.natAbs)
 have h2:=OA (a:=a) (b:=b)
 rw[<-h1] at h2
 unfold ux
 rw[Int.natAbs_mul,<-h2]
 generalize hl (a.natAbs*b.natAbs)=p
 obtain ⟨c,hc⟩:∃c,(decide (decide (a<0)=decide (b<0)))=c:=⟨_,rfl⟩
 obtain ⟨c1,hc1⟩:∃c,decide (p.1=0)=c:=⟨_,rfl⟩
 simp only[hc,hc1]
 cases c<;>cases c1<;>rfl
theorem CW {s t:Bool} {m n:Nat}:aN (s,hl m) (t,hl n)=some (if m<n then -1 else if m=n then 0 else 1):=by
 simp only[aN,jb]
 have e1:(hl m).1=(hl n).1↔m / 18446744073709551616=n / 18446744073709551616:=by unfold hl;simp only;omega
 have e2:(hl m).1<(hl n).1↔m / 18446744073709551616<n / 18446744073709551616:=by unfold hl;simp only;omega
 have e3:(hl m).2=(hl n).2↔m % 18446744073709551616=n % 18446744073709551616:=by unfold hl;simp only;omega
 have e4:(hl m).2<(hl n).2↔m % 18446744073709551616<n % 18446744073709551616:=by unfold hl;simp only;omega
 rw[decide_eq_decide.2 e1,decide_eq_decide.2 e2,decide_eq_decide.2 e3,decide_eq_decide.2 e4]
 generalize q1:decide (m / 18446744073709551616=n / 18446744073709551616)=c1
 generalize q2:decide (m / 18446744073709551616<n / 18446744073709551616)=c2
 generalize q3:decide (m % 18446744073709551616=n % 18446744073709551616)=c3
 generalize q4:decide (m % 18446744073709551616<n % 18446744073709551616)=c4
 cases c1<;>cases c2<;>cases c3<;>cases c4<;>simp only[decide_eq_true_iff,decide_eq_false_iff_not] at q1 q2 q3 q4 <;>
  first
  | (exfalso;omega)
  | (rw[if_pos (show m<n by omega)];rfl)
  | (rw[if_neg (show ¬ m<n by omega),if_pos (show m=n by omega)];rfl)
  | (rw[if_neg (show ¬ m<n by omega),if_neg (show ¬ m=n by omega)];rfl)
theorem Qh {x y:Int}:dH (ux x) (ux y)=some (if x<y then -1 else if x=y then 0 else 1):=by
 have key:∀{a b:Nat} (h1:a<b↔x<y) (h2:a=b↔x=y),(if a<b then (-1:Int) else if a=b then 0 else 1)=if x<y then -1 else if x=y then 0 else 1:=fun h1 h2=>by simp only[h1,h2]
 unfold ux
 simp only[dH,kD,CW,af]
 by_cases hx:x<0
 ·by_cases hy:y<0
  ·rw[z7 hx,z7 hy,key (by omega) (by omega)]
   rfl
  ·rw[if_pos (show x<y by omega),z7 hx,z8 hy]
   rfl
 ·by_cases hy:y<0
  ·rw[if_neg (show ¬ x<y by omega),if_neg (show ¬ x=y by omega),z8 hx,z7 hy]
   rfl
  ·rw[z8 hx,z8 hy,key (a:=x.natAbs) (b:=y.natAbs) (by omega) (by omega)]
   rfl
theorem KT {m n:Nat} (h:m+n<340282366920938463463374607431768211456):(AP (hl m).1 (hl n).1 (rU (hl m).2 (hl n).2 0),AP (hl m).2 (hl n).2 0)=hl (m+n):=by
 have h1:=Ho h
 have c1:(0:Int)<=rU (hl m).2 (hl n).2 0:=by rw[zg];omega
 have c2:rU (hl m).2 (hl n).2 0<=1:=by rw[zg];omega
 simp only[iP,oZ,z7 c1,z7 c2] at h1
 exact Option.some.inj h1
theorem A8 {m n:Nat} (h:n<=m) (hm:m<340282366920938463463374607431768211456):(xA (hl m).1 (hl n).1 (qt (hl m).2 (hl n).2 0),xA (hl m).2 (hl n).2 0)=hl (m - n):=by
 have h1:=zy h hm
 have c1:(0:Int)<=qt (hl m).2 (hl n).2 0:=by rw[yk];omega
 have c2:qt (hl m).2 (hl n).2 0<=1:=by rw[yk];split<;>omega
 simp only[gB,nO,z7 c1,z7 c2] at h1
 exact Option.some.inj h1
theorem xo {m n:Nat}:(decide ((0:Int)<=qt (hl m).2 (hl n).2 0)&&decide (qt (hl m).2 (hl n).2 0<=(1:Int)))=true:=by
 rw[z7 (show (0:Int)<=qt (hl m).2 (hl n).2 0 by rw[yk];omega),z7 (show qt (hl m).2 (hl n).2 0<=1 by rw[yk];split<;>omega)]
 rfl
theorem Bz {m n:Nat}:(decide ((0:Int)<=rU (hl m).2 (hl n).2 0)&&decide (rU (hl m).2 (hl n).2 0<=(1:Int)))=true:=by
 rw[z7 (show (0:Int)<=rU (hl m).2 (hl n).2 0 by rw[zg];omega),z7 (show rU (hl m).2 (hl n).2 0<=1 by rw[zg];omega)]
 rfl
theorem LY {x y:Int} (hx:x.natAbs<85070591730234615865843651857942052864) (hy:y.natAbs<85070591730234615865843651857942052864):ce (ux x) (ux y)=some (ux (x - y)):=by
 unfold ux
 simp only[ce,jO,CW,af,wn,xo,Bz]
 by_cases hs:decide (x<0)=decide (y<0)
 ·
  rw[z7 hs]
  simp only[bt,cF]
  by_cases hlt:x.natAbs<y.natAbs
  ·have h1:=A8 (m:=y.natAbs) (n:=x.natAbs) (by omega) (by omega)
   have h2:=congrArg Prod.fst h1
   have h3:=congrArg Prod.snd h1
   simp only at h2 h3
   rw[if_pos hlt]
   simp only[show decide ((-1:Int)<0)=true from rfl,cT,h2,h3]
   have h4:=LG (n:=y.natAbs - x.natAbs)
   have e1:decide (x - y<0)=(bif !decide (x<0) then decide (y.natAbs - x.natAbs≠0) else false):=by
    rw[z7 (show y.natAbs - x.natAbs≠0 by omega)]
    by_cases c:x<0
    ·have c':y<0:=by rw[z7 c] at hs;exact z12 hs.symm
     rw[z7 c,z8 (show ¬ x - y<0 by omega)];rfl
    ·have c':¬ y<0:=by rw[z8 c] at hs;exact of_decide_eq_false hs.symm
     rw[z8 c,z7 (show x - y<0 by omega)];rfl
   have e2:(x - y).natAbs=y.natAbs - x.natAbs:=by
    by_cases c:x<0
    ·have c':y<0:=by rw[z7 c] at hs;exact z12 hs.symm
     omega
    ·have c':¬ y<0:=by rw[z8 c] at hs;exact of_decide_eq_false hs.symm
     omega
   rw[e1,e2,<-h4]
   generalize hl (y.natAbs - x.natAbs)=p
   obtain ⟨c,hc⟩:∃c,decide (p.1=0)=c:=⟨_,rfl⟩
   simp only[hc]
   cases decide (x<0)<;>cases c<;>rfl
  ·have h1:=A8 (m:=x.natAbs) (n:=y.natAbs) (by omega) (by omega)
   have h2:=congrArg Prod.fst h1
   have h3:=congrArg Prod.snd h1
   simp only at h2 h3
   have h0:¬ (if x.natAbs<y.natAbs then (-1:Int) else if x.natAbs=y.natAbs then 0 else 1)<0:=by
    rw[if_neg hlt]
    split<;>simp
   rw[z8 h0]
   simp only[cF,h2,h3]
   have h4:=LG (n:=x.natAbs - y.natAbs)
   have e1:decide (x - y<0)=(bif decide (x<0) then decide (x.natAbs - y.natAbs≠0) else false):=by
    by_cases c:x<0
    ·have c':y<0:=by rw[z7 c] at hs;exact z12 hs.symm
     rw[z7 c,cond_true]
     exact decide_eq_decide.2 (by omega)
    ·have c':¬ y<0:=by rw[z8 c] at hs;exact of_decide_eq_false hs.symm
     rw[z8 c,z8 (show ¬ x - y<0 by omega)];rfl
   have e2:(x - y).natAbs=x.natAbs - y.natAbs:=by
    by_cases c:x<0
    ·have c':y<0:=by rw[z7 c] at hs;exact z12 hs.symm
     omega
    ·have c':¬ y<0:=by rw[z8 c] at hs;exact of_decide_eq_false hs.symm
     omega
   rw[e1,e2,<-h4]
   generalize hl (x.natAbs - y.natAbs)=p
   obtain ⟨c,hc⟩:∃c,decide (p.1=0)=c:=⟨_,rfl⟩
   simp only[hc]
   cases decide (x<0)<;>cases c<;>rfl
 ·rw[z8 hs]
  have h1:=KT (m:=x.natAbs) (n:=y.natAbs) (by omega)
  have h2:=congrArg Prod.fst h1
  have h3:=congrArg Prod.snd h1
  simp only at h2 h3
  simp only[e_,cT,h2,h3]
  have h4:=LG (n:=y.natAbs)
  by_cases c:x<0
  ·have c':¬ y<0:=fun c'=>hs (by rw[z7 c,z7 c'])
   rw[z7 c,z8 c',z7 (show x - y<0 by omega),show (x - y).natAbs=x.natAbs+y.natAbs by omega]
   generalize hl y.natAbs=p
   obtain ⟨d,hd⟩:∃d,decide (p.1=0)=d:=⟨_,rfl⟩
   simp only[hd]
   cases d<;>rfl
  ·have c':y<0:=by
    apply Classical.byContradiction
    intro c'
    exact hs (by rw[z8 c,z8 c'])
   rw[z8 c,z7 c',z8 (show ¬ x - y<0 by omega),show (x - y).natAbs=x.natAbs+y.natAbs by omega]
   generalize hl y.natAbs=p
   obtain ⟨d,hd⟩:∃d,decide (p.1=0)=d:=⟨_,rfl⟩
   simp only[hd]
   cases d<;>rfl
theorem R1 {d q:Int} (hd:0<d) (hd2:d<9223372036854775808) (hq:q.natAbs<9223372036854775808):cU (ux (d*q)) d=some q:=by
 unfold ux
 simp only[cU,jZ]
 have e:(d*q).natAbs=d.natAbs*q.natAbs:=Int.natAbs_mul _ _
 have hdn:(d.natAbs:Int)=d:=by omega
 have h1:(d*q).natAbs / 18446744073709551616<d.natAbs:=by
  rw[e]
  refine (Nat.div_lt_iff_lt_mul (by omega)).2 ?_
  exact Nat.mul_lt_mul_of_pos_left (by omega) (by omega)
 have h2:=BS (h:=(d*q).natAbs / 18446744073709551616) (l:=(d*q).natAbs % 18446744073709551616) (y:=d.natAbs) h1 (by omega) (by omega)
 have h3:(d*q).natAbs / 18446744073709551616*18446744073709551616+(d*q).natAbs % 18446744073709551616=(d*q).natAbs:=by omega
 rw[h3,e,Nat.mul_div_cancel_left _ (by omega)] at h2
 have h4:aQ .u64 d=(d.natAbs:Int):=by rw[bU (by omega) (by omega)];omega
 rw[h4]
 unfold hl
 simp only
 rw[e,h2,af]
 simp only
 rw[aZ (x:=(q.natAbs:Int)) (by omega) (by omega)]
 by_cases c:q<0
 ·rw[z7 (show d*q<0 from Int.mul_neg_of_pos_of_neg hd c),cond_true,aZ (by omega) (by omega)]
  congr 1
  omega
 ·rw[z8 (show ¬ d*q<0 by have:=ph (show 0<=d by omega) (show 0<=q by omega);omega),cond_false]
  congr 1
  omega
theorem bo {i:Nat} (h:i<=1000000):aQ .i64 ((i:Int)+1)=((i+1:Nat):Int):=by rw[aZ (by omega) (by omega)];rfl
def mid (T:Nat->Nat->Int) (d:Int) (r c i j:Nat):Nat->Nat->Int:=fun k l=>if k≠r/\(k<i\/(k=i/\l<j)) then piv T d r c k l else T k l
theorem V8 {T:Nat->Nat->Int} {d:Int} {r c i j l:Nat}:mid T d r c i j r l=T r l:=if_neg fun h=>h.1 rfl
theorem G6 {T:Nat->Nat->Int} {d:Int} {r c i j l:Nat} (h:j<=l):mid T d r c i j i l=T i l:=by
 unfold mid
 rw[if_neg fun h=>by omega]
theorem Rh {T:Nat->Nat->Int} {d:Int} {r c k l:Nat}:T k l=mid T d r c 0 0 k l:=by
 unfold mid
 rw[if_neg fun h=>by omega]
def Fh (T:Nat->Nat->Int) (i j:Nat):Nat->Nat->Int:=fun k l=>if k<i\/(k=i/\l<j) then - T k l else T k l
theorem LX {T:Nat->Nat->Int} {i j l:Nat} (h:j<=l):Fh T i j i l=T i l:=by
 unfold Fh
 rw[if_neg fun h=>by omega]
theorem NB {T:Nat->Nat->Int} {k l:Nat}:T k l=Fh T 0 0 k l:=by
 unfold Fh
 rw[if_neg fun h=>by omega]
theorem mm {m w:Nat} {T:Nat->Nat->Int}:(ja m w T).2=fu m w T:=rfl
theorem KA {m w:Nat} {T T':Nat->Nat->Int} {i j:Nat} {x:Int} (hi:i<m) (hj:j<w) (h:∀k l,k<m->l<w->(if k=i/\l=j then x else T k l)=T' k l) :
  ((ja m w T).1,(fu m w T).set i (some ((aW w (T i)).set j x)))=ja m w T':=by
 rw[GM hi hj,kG h]
 rfl
structure PivOk (m w:Nat) (T:Nat->Nat->Int) (d:Int) (r c:Nat):Prop where
 hm:m<=1000
 hw:w<=1000
 hr:r<m
 hc:c<w
 hd:0<d/\d<4611686018427387904
 b:∀i j,i<m->j<w->(T i j).natAbs<4611686018427387904
 q:∀i j,i<m->i≠r->j<w->d*piv T d r c i j=T r c*T i j - T i c*T r j
 qb:∀i j,i<m->i≠r->j<w->(piv T d r c i j).natAbs<4611686018427387904
theorem lZ {x:Int} (h:x.natAbs<4611686018427387904): -9223372036854775808<=x/\x<9223372036854775808:=by omega
theorem BI {x y:Int} (hx:x.natAbs<4611686018427387904) (hy:y.natAbs<4611686018427387904):(x*y).natAbs<85070591730234615865843651857942052864:=by
 rw[Int.natAbs_mul]
 exact Nat.lt_of_le_of_lt (Nat.mul_le_mul (Nat.le_of_lt_succ (n:=4611686018427387903) hx) (Nat.le_of_lt_succ (n:=4611686018427387903) hy)) (by decide)
theorem Bi {m w:Nat} {T:Nat->Nat->Int} {d:Int} {β:Nat->Nat} {r c:Nat} {x3 x4:List Int} {x5 x6:Int} (h:PivOk m w T d r c) :
  bi (ja m w T) d (lF m β) x3 x4 x5 x6 (r:Int) (c:Int)=some (ja m w (qL T d r c),sg (T r c)*T r c,lF m (upd β r c),x3,x4,x5,x6,()):=by
 obtain ⟨hm,hw,hr,hc,hd,hb,hq,hqb⟩:=h
 unfold bi ky
 simp only[gZ,kR hr,mm,jR hr,av,aX hc,aH,z9,z7 hr,z7 hc,cE (show bT r<=m from hr),cE (show bT c<=w from hc),cT,Sg hr,lx]
 refine cq m (by omega) (fun i=>((i:Int),ja m w (mid T d r c i 0),aC)) _ (by rw[lK fun k l _ _=>Rh];rfl) (fun again i hi=>?_) (fun again=>?_)
 ·simp only[gZ,kR hi,mm,jR hi,av,aX hc,aH,z9,z7 hi,z7 hc,z7 (show (i:Int)<m by omega),cE (show bT i<=m from hi),cE (show bT c<=w from hc),cT,zo hi,bo (show i<=1000000 by omega)]
  by_cases e:i=r
  ·rw[z7 (show (i:Int)=r by omega),cond_true]
   congr 3
   refine lK fun k l _ _=>?_
   unfold mid
   by_cases c1:k≠r/\(k<i\/(k=i/\l<0))
   ·rw[if_pos c1,if_pos (by omega)]
   ·rw[if_neg c1,if_neg (by omega)]
  ·rw[z8 (show ¬ (i:Int)=r by omega),cond_false]
   refine yh w (by omega) (fun j=>((j:Int),ja m w (mid T d r c i j),aC)) _ (fun again2 j hj=>?_) (fun again2=>?_)
   ·have t1:=wj (lZ (hb i j hi hj)) (lZ (hb r c hr hc))
    have t2:=wj (lZ (hb i c hi hc)) (lZ (hb r j hr hj))
    have t3:=LY (BI (hb i j hi hj) (hb r c hr hc)) (BI (hb i c hi hc) (hb r j hr hj))
    have t4:cU (ux (T i j*T r c - T i c*T r j)) d=some (piv T d r c i j):=by
     rw[Int.mul_comm (T i j),<-hq i j hi e hj]
     exact R1 hd.1 (by omega) (by have:=hqb i j hi e hj;omega)
    simp only[gZ,kR hr,mm,jR hi,jR hr,av,aX hj,aH,z9,z7 hj,z7 hr,z7 (show (j:Int)<w by omega),
     cE (show bT j<=w from hj),cE (show bT r<=m from hr),cT,V8,G6 (bY j),G6 (Nat.zero_le c),t1,t2,t3,t4,af,bo (show j<=1000000 by omega)]
    congr 3
    refine KA hi hj fun k l hk hl=>?_
    unfold mid
    by_cases c0:k=i/\l=j
    ·rw[if_pos c0,if_pos (by omega),c0.1,c0.2]
    ·rw[if_neg c0]
     by_cases c1:k≠r/\(k<i\/(k=i/\l<j))
     ·rw[if_pos c1,if_pos (by omega)]
     ·rw[if_neg c1,if_neg (by omega)]
   ·simp only[mm,jR hi,av,z8 (show ¬ (w:Int)<w by omega),cF]
    congr 3
    refine lK fun k l hk hl=>?_
    unfold mid
    by_cases c1:k≠r/\(k<i\/(k=i/\l<w))
    ·rw[if_pos c1,if_pos (by omega)]
    ·rw[if_neg c1,if_neg (by omega)]
 ·simp only[gZ,z8 (show ¬ (m:Int)<m by omega),cF]
  by_cases hneg:T r c<0
  ·rw[z7 hneg,cond_true]
   refine cq m (by omega) (fun i=>((i:Int),ja m w (Fh (mid T d r c m 0) i 0),aC)) _ (by rw[lK fun k l _ _=>NB];rfl) (fun again i hi=>?_) (fun again=>?_)
   ·simp only[gZ,kR hi,mm,jR hi,av,aH,z9,z7 hi,z7 (show (i:Int)<m by omega),cE (show bT i<=m from hi),cT,zo hi,bo (show i<=1000000 by omega)]
    refine yh w (by omega) (fun j=>((j:Int),ja m w (Fh (mid T d r c m 0) i j),aC)) _ (fun again2 j hj=>?_) (fun again2=>?_)
    ·have hbb:(mid T d r c m 0 i j).natAbs<4611686018427387904:=by
      unfold mid
      split
      ·rename_i hh;exact hqb i j hi hh.1 hj
      ·exact hb i j hi hj
     simp only[mm,jR hi,av,aX hj,aH,z9,z7 hj,z7 (show (j:Int)<w by omega),
      cE (show bT j<=w from hj),cT,LX (bY j),bo (show j<=1000000 by omega),aZ (show -9223372036854775808<=0 - mid T d r c m 0 i j by omega) (by omega)]
     congr 3
     refine KA hi hj fun k l hk hl=>?_
     unfold Fh
     by_cases c0:k=i/\l=j
     ·rw[if_pos c0,if_pos (by omega),c0.1,c0.2]
      omega
     ·rw[if_neg c0]
      by_cases c1:k<i\/(k=i/\l<j)
      ·rw[if_pos c1,if_pos (by omega)]
      ·rw[if_neg c1,if_neg (by omega)]
    ·simp only[mm,jR hi,av,z8 (show ¬ (w:Int)<w by omega),cF]
     congr 3
     refine lK fun k l hk hl=>?_
     unfold Fh
     by_cases c1:k<i\/(k=i/\l<w)
     ·rw[if_pos c1,if_pos (by omega)]
     ·rw[if_neg c1,if_neg (by omega)]
   ·have hrc:=hb r c hr hc
    simp only[gZ,z8 (show ¬ (m:Int)<m by omega),cF,aZ (show -9223372036854775808<=0 - T r c by omega) (by omega)]
    have e1:sg (T r c)= -1:=by unfold sg;rw[if_pos hneg]
    congr 2
    ·refine lK fun k l hk hl=>?_
     unfold Fh mid qL
     rw[if_pos (by omega),e1]
     by_cases c0:k=r
     ·rw[if_neg (by omega),if_pos c0,c0];omega
     ·rw[if_pos (by omega),if_neg c0];omega
    ·rw[e1]
     congr 1
     omega
  ·rw[z8 hneg,cond_false]
   have e1:sg (T r c)=1:=by unfold sg;rw[if_neg hneg]
   congr 2
   ·refine lK fun k l hk hl=>?_
    unfold mid qL
    rw[e1,Int.one_mul]
    by_cases c0:k=r
    ·rw[if_neg (by omega),if_pos c0,c0]
    ·rw[if_pos (by omega),if_neg c0]
   ·rw[e1,Int.one_mul]
theorem uG {x:Int} (h1: -9223372036854775808<x) (h2:x<9223372036854775808):dR x=some (x.natAbs:Int):=by
 simp only[dR,oG]
 rw[aZ (x:=0 - x) (by omega) (by omega)]
 by_cases h:0 - x>x
 ·rw[if_pos h,IntKind.wrap_u64,Int.emod_eq_of_lt (by omega) (by omega)]
  congr 1
  omega
 ·rw[if_neg h,IntKind.wrap_u64,Int.emod_eq_of_lt (by omega) (by omega)]
  congr 1
  omega
theorem Pr {e q:Int} {neg:Bool} {n:Nat} (he:e≠0) (hq:q.natAbs<4611686018427387904) (hx:e*q=bif neg then -(n:Int) else n) :
  n=e.natAbs*q.natAbs/\(bif !decide (neg=decide (e<0)) then -(q.natAbs:Int) else (q.natAbs:Int))=q:=by
 have h1:n=e.natAbs*q.natAbs:=by
  rw[<-Int.natAbs_mul,hx]
  cases neg
  ·rw[cond_false];omega
  ·rw[cond_true];omega
 refine ⟨h1,?_⟩
 by_cases hq0:q=0
 ·subst hq0
  cases (!decide (neg=decide (e<0)))<;>rfl
 ·by_cases h2:e<0
  ·rw[z7 h2]
   by_cases h3:q<0
   ·have:=Int.mul_pos_of_neg_of_neg h2 h3
    cases neg
    ·show -(q.natAbs:Int)=q
     omega
    ·exfalso;rw[hx,cond_true] at this;omega
   ·have:=Int.mul_neg_of_neg_of_pos h2 (show 0<q by omega)
    cases neg
    ·exfalso;rw[hx,cond_false] at this;omega
    ·show (q.natAbs:Int)=q
     omega
  ·rw[z8 h2]
   by_cases h3:q<0
   ·have:=Int.mul_neg_of_pos_of_neg (show 0<e by omega) h3
    cases neg
    ·exfalso;rw[hx,cond_false] at this;omega
    ·show -(q.natAbs:Int)=q
     omega
   ·have:=Int.mul_pos (show 0<e by omega) (show 0<q by omega)
    cases neg
    ·show (q.natAbs:Int)=q
     omega
    ·exfalso;rw[hx,cond_true] at this;omega
theorem CI {e q:Int} {neg:Bool} {n:Nat} (he:e≠0) (he2:e.natAbs<4611686018427387904) (hq:q.natAbs<4611686018427387904) (hx:e*q=bif neg then -(n:Int) else n) :
  (ah (dR e) fun (t:Int)=>ah (cH (hl n).1 (hl n).2 t) fun (t:Int×Int×PUnit)=>bif !decide (neg=decide (e<0)) then some (aQ .i64 (0 - aQ .i64 t.1)) else some (aQ .i64 t.1))=some q:=by
 obtain ⟨h1,h2⟩:=Pr he hq hx
 have h3:n / 18446744073709551616<e.natAbs:=by
  rw[h1]
  refine (Nat.div_lt_iff_lt_mul (by omega)).2 ?_
  exact Nat.mul_lt_mul_of_pos_left (by omega) (by omega)
 have h4:=BS (h:=n / 18446744073709551616) (l:=n % 18446744073709551616) (y:=e.natAbs) h3 (by omega) (by omega)
 have h5:n / 18446744073709551616*18446744073709551616+n % 18446744073709551616=n:=by omega
 have h6:n / e.natAbs=q.natAbs:=by rw[h1,Nat.mul_div_cancel_left _ (by omega)]
 rw[h5,h6] at h4
 rw[uG (by omega) (by omega),af]
 unfold hl
 simp only
 rw[h4,af]
 simp only
 rw[aZ (x:=(q.natAbs:Int)) (by omega) (by omega),aZ (by omega) (by omega)]
 rw[Int.zero_sub]
 generalize hc:(!decide (neg=decide (e<0)))=c at h2 ⊢
 cases c
 ·rw[cond_false] at h2 ⊢
  rw[h2]
 ·rw[cond_true] at h2 ⊢
  rw[h2]
theorem Lx (a b:Int):a*b=bif !decide (decide (a<0)=decide (b<0)) then -((a.natAbs*b.natAbs:Nat):Int) else ((a.natAbs*b.natAbs:Nat):Int):=by
 rw[iS]
 by_cases ha:a<0<;>by_cases hb:b<0
 ·rw[z7 ha,z7 hb]
  show a*b=(a.natAbs:Int)*(b.natAbs:Int)
  rw[show (a.natAbs:Int)= -a by omega,show (b.natAbs:Int)= -b by omega,Int.neg_mul_neg]
 ·rw[z7 ha,z8 hb]
  show a*b= -((a.natAbs:Int)*(b.natAbs:Int))
  rw[show (a.natAbs:Int)= -a by omega,show (b.natAbs:Int)=b by omega,Int.neg_mul,Int.neg_neg]
 ·rw[z8 ha,z7 hb]
  show a*b= -((a.natAbs:Int)*(b.natAbs:Int))
  rw[show (a.natAbs:Int)=a by omega,show (b.natAbs:Int)= -b by omega,Int.mul_neg,Int.neg_neg]
 ·rw[z8 ha,z8 hb]
  show a*b=(a.natAbs:Int)*(b.natAbs:Int)
  rw[show (a.natAbs:Int)=a by omega,show (b.natAbs:Int)=b by omega]
theorem GY {x y:Int} (hx:x.natAbs<4611686018427387904) (hy:y.natAbs<4611686018427387904):x.natAbs*y.natAbs<85070591730234615865843651857942052864:=by
 rw[<-Int.natAbs_mul]
 exact BI hx hy
theorem acy {m n:Nat}:(bif decide ((hl m).1<(hl n).1) then true else bif decide ((hl m).1=(hl n).1) then decide ((hl m).2<(hl n).2) else false)=decide (m<n):=by
 have e1:(hl m).1=(hl n).1↔m / 18446744073709551616=n / 18446744073709551616:=by unfold hl;simp only;omega
 have e2:(hl m).1<(hl n).1↔m / 18446744073709551616<n / 18446744073709551616:=by unfold hl;simp only;omega
 have e4:(hl m).2<(hl n).2↔m % 18446744073709551616<n % 18446744073709551616:=by unfold hl;simp only;omega
 by_cases h:m<n
 ·rw[z7 h]
  by_cases c1:m / 18446744073709551616<n / 18446744073709551616
  ·rw[z7 (e2.2 c1),cond_true]
  ·rw[z8 fun h=>c1 (e2.1 h),cond_false,z7 (e1.2 (by omega)),cond_true,z7 (e4.2 (by omega))]
 ·rw[z8 h,z8 fun h=>by have:=e2.1 h;omega,cond_false]
  by_cases c2:m / 18446744073709551616=n / 18446744073709551616
  ·rw[z7 (e1.2 c2),cond_true,z8 fun h=>by have:=e4.1 h;omega]
  ·rw[z8 fun h=>c2 (e1.1 h),cond_false]
theorem Ll {a b:Int} (ha:a.natAbs<4611686018427387904) (hb:b.natAbs<4611686018427387904):bF (a.natAbs:Int) (b.natAbs:Int)=some ((hl (a.natAbs*b.natAbs)).1,(hl (a.natAbs*b.natAbs)).2,()):=by
 rw[RH (by omega) (by omega) (by omega) (by omega)]
 unfold hl
 simp only
 rw[<-iS]
 rfl
theorem Sa {a b c d e q:Int} (ha:a.natAbs<4611686018427387904) (hb:b.natAbs<4611686018427387904) (hc:c.natAbs<4611686018427387904) (hd:d.natAbs<4611686018427387904)
  (he:e≠0) (he2:e.natAbs<4611686018427387904) (hx:e*q=a*b - c*d) (hq:q.natAbs<4611686018427387904):gz a b c d e=some q:=by
 simp only[gz,rK,uG (show -9223372036854775808<a by omega) (show a<9223372036854775808 by omega),uG (show -9223372036854775808<b by omega) (show b<9223372036854775808 by omega),
  uG (show -9223372036854775808<c by omega) (show c<9223372036854775808 by omega),uG (show -9223372036854775808<d by omega) (show d<9223372036854775808 by omega),af,Ll ha hb,Ll hc hd,wn]
 have hP:=GY ha hb
 have hQ:=GY hc hd
 have h1:=Lx a b
 have h2:=Lx c d
 have h3:=acy (m:=a.natAbs*b.natAbs) (n:=c.natAbs*d.natAbs)
 obtain ⟨P,hPe⟩:∃P,a.natAbs*b.natAbs=P:=⟨_,rfl⟩
 obtain ⟨Q,hQe⟩:∃Q,c.natAbs*d.natAbs=Q:=⟨_,rfl⟩
 obtain ⟨f,hf⟩:∃f,(!decide (decide (a<0)=decide (b<0)))=f:=⟨_,rfl⟩
 obtain ⟨g,hg⟩:∃g,(!decide (decide (c<0)=decide (d<0)))=g:=⟨_,rfl⟩
 rw[hPe,hf] at h1
 rw[hQe,hg] at h2
 rw[hPe] at hP
 rw[hQe] at hQ
 rw[hPe,hQe] at h3
 simp only[hPe,hQe,hf,hg]
 rw[h1,h2] at hx
 have k1:=xo (m:=P) (n:=Q)
 have k2:=xo (m:=Q) (n:=P)
 have k3:=Bz (m:=P) (n:=Q)
 have t0:(decide ((0:Int)<=0)&&decide ((0:Int)<=1))=true:=rfl
 by_cases hfg:f=g
 ·rw[z7 hfg,cond_true]
  have key:∀c18 c17:Bool,(bif (!!c18||!c18)&&(!!c18||!c18) then true else false)=true:=fun c18 c17=>by cases c18<;>rfl
  by_cases hlt:P<Q
  ·rw[z7 hlt] at h3
   have h4:=A8 (m:=Q) (n:=P) (by omega) (by omega)
   have h5:=congrArg Prod.fst h4
   have h6:=congrArg Prod.snd h4
   simp only at h5 h6
   simp only[t0,cT,k2,h5,h6]
   have h7:=CI (neg:=!f) (n:=Q - P) he he2 hq (by
    rw[hx,<-hfg]
    cases f
    ·show (P:Int) - Q= -((Q - P:Nat):Int)
     omega
    ·show -(P:Int) - -(Q:Int)=((Q - P:Nat):Int)
     omega)
   rw[h7]
   generalize decide ((hl P).1<(hl Q).1)=c18 at h3 ⊢
   generalize decide ((hl P).1=(hl Q).1)=c17 at h3 ⊢
   generalize decide ((hl P).2<(hl Q).2)=c16 at h3 ⊢
   cases c18<;>cases c17<;>cases c16<;>first | rfl | cases h3
  ·rw[z8 hlt] at h3
   have h4:=A8 (m:=P) (n:=Q) (by omega) (by omega)
   have h5:=congrArg Prod.fst h4
   have h6:=congrArg Prod.snd h4
   simp only at h5 h6
   simp only[t0,cT,k1,h5,h6]
   have h7:=CI (neg:=f) (n:=P - Q) he he2 hq (by
    rw[hx,<-hfg]
    cases f
    ·show (P:Int) - Q=((P - Q:Nat):Int)
     omega
    ·show -(P:Int) - -(Q:Int)= -((P - Q:Nat):Int)
     omega)
   rw[h7]
   generalize decide ((hl P).1<(hl Q).1)=c18 at h3 ⊢
   generalize decide ((hl P).1=(hl Q).1)=c17 at h3 ⊢
   generalize decide ((hl P).2<(hl Q).2)=c16 at h3 ⊢
   cases c18<;>cases c17<;>cases c16<;>first | rfl | cases h3
 ·rw[z8 hfg,cond_false]
  have h4:=KT (m:=P) (n:=Q) (by omega)
  have h5:=congrArg Prod.fst h4
  have h6:=congrArg Prod.snd h4
  simp only at h5 h6
  simp only[t0,cT,k3,h5,h6]
  exact CI (neg:=f) (n:=P+Q) he he2 hq (by
   rw[hx]
   cases f<;>cases g
   ·exact (hfg rfl).elim
   ·show (P:Int) - -(Q:Int)=((P+Q:Nat):Int)
    omega
   ·show -(P:Int) - (Q:Int)= -((P+Q:Nat):Int)
    omega
   ·exact (hfg rfl).elim)
structure TabR (m w:Nat) (L:Nat->Nat->Int) (t:List Nat×List (Option (List Int))):Prop where
 len:t.1.length=m
 cell:∀i,i<m->t.2.getD (t.1.getD i 0) none=some (aW w (L i))
 inj:∀i j,i<m->j<m->t.1.getD i 0=t.1.getD j 0->i=j
section
variable {m w:Nat} {L L':Nat->Nat->Int} {t:List Nat×List (Option (List Int))}
theorem TabR.row (h:TabR m w L t) {i:Nat} (hi:i<m):bD t.2 (t.1.getD i 0)=aW w (L i):=by unfold bD;rw[h.cell i hi];rfl
theorem TabR.live (h:TabR m w L t) {i:Nat} (hi:i<m):fK t.2 (t.1.getD i 0)=true:=by unfold fK;rw[h.cell i hi];rfl
theorem TabR.id_lt (h:TabR m w L t) {i:Nat} (hi:i<m):t.1.getD i 0<t.2.length:=by
 have h1:=h.cell i hi
 by_cases h2:t.1.getD i 0<t.2.length
 ·exact h2
 ·rw[c_,m_ (by omega)] at h1
  cases h1
theorem TabR.congr (h:TabR m w L t) (e:∀i j,i<m->j<w->L i j=L' i j):TabR m w L' t :=
 ⟨h.len,fun i hi=>by rw[h.cell i hi,cz fun j hj=>e i j hi hj],h.inj⟩
theorem TabR.all (h:TabR m w L t):(t.1.all fun x=>fK t.2 x)=true:=by
 rw[mv]
 intro x hx
 obtain ⟨i,hi,he⟩:=List.mem_iff_getElem.1 hx
 have hi':i<m:=by rw[<-h.len];exact hi
 have:=h.live hi'
 rw[aI hi,he] at this
 exact this
theorem TabR.map (h:TabR m w L t):t.1.map (fun x=>bD t.2 x)=jH m w L:=by
 refine List.ext_getElem (by rw[iN,h.len,cv]) fun i h1 h2=>?_
 have hi:i<m:=by rw[cv] at h2;exact h2
 have hi':i<t.1.length:=by rw[h.len];exact hi
 have e1:=h.row hi
 rw[aI hi'] at e1
 rw[List.getElem_map,e1]
 have e2:=fV (w:=w) (T:=L) hi
 rw[aI h2] at e2
 exact e2.symm
theorem TabR.put (h:TabR m w L t) {i j:Nat} {x:Int} (hi:i<m) (hj:j<w) (e:∀k l,k<m->l<w->(if k=i/\l=j then x else L k l)=L' k l) :
  TabR m w L' (t.1,t.2.set (t.1.getD i 0) (some ((aW w (L i)).set j x))):=by
 refine ⟨h.len,fun k hk=>?_,h.inj⟩
 show (t.2.set (t.1.getD i 0) (some ((aW w (L i)).set j x))).getD (t.1.getD k 0) none=_
 have hl:=h.id_lt hi
 rw[c_,List.getElem?_set]
 by_cases c:i=k
 ·subst c
  rw[if_pos rfl,if_pos hl,iJ hj]
  show some _=some _
  congr 1
  refine cz fun l hl=>?_
  rw[<-e i l hi hl]
  by_cases c2:l=j
  ·rw[if_pos c2,if_pos ⟨rfl,c2⟩]
  ·rw[if_neg c2,if_neg fun h=>c2 h.2]
 ·rw[if_neg fun h'=>c (h.inj i k hi hk h'),<-c_,h.cell k hk]
  congr 1
  refine cz fun l hl=>?_
  rw[<-e k l hk hl,if_neg fun h=>c h.1.symm]
def swp (a b i:Nat):Nat:=if i=a then b else if i=b then a else i
theorem A4 (a b i:Nat):swp a b (swp a b i)=i:=by unfold swp;(repeat' split)<;>omega
theorem uK {a b i:Nat} (ha:a<m) (hb:b<m) (hi:i<m):swp a b i<m:=by unfold swp;(repeat' split)<;>omega
theorem PG {l:List Nat} {a b i:Nat} (ha:a<l.length) (hb:b<l.length):((l.set a (l.getD b 0)).set b (l.getD a 0)).getD i 0=l.getD (swp a b i) 0:=by
 rw[c_,List.getElem?_set,oN,List.getElem?_set]
 unfold swp
 by_cases c1:i=a
 ·subst c1
  by_cases c2:b=i
  ·subst c2
   rw[if_pos rfl,if_pos ha,if_pos rfl]
   rfl
  ·rw[if_neg c2,if_pos rfl,if_pos ha,if_pos rfl]
   rfl
 ·by_cases c2:b=i
  ·subst c2
   rw[if_pos rfl,if_pos hb,if_neg c1,if_pos rfl]
   rfl
  ·rw[if_neg c2,if_neg (fun h=>c1 h.symm),if_neg c1,if_neg (fun h=>c2 h.symm),c_]
theorem TabR.swap (h:TabR m w L t) {a b:Nat} (ha:a<m) (hb:b<m):TabR m w (fun i=>L (swp a b i)) ((t.1.set a (t.1.getD b 0)).set b (t.1.getD a 0),t.2++[]++[]):=by
 have e:=fun i=>PG (l:=t.1) (a:=a) (b:=b) (i:=i) (by rw[h.len];exact ha) (by rw[h.len];exact hb)
 refine ⟨by rw[oN,oN];exact h.len,fun i hi=>?_,fun i j hi hj he=>?_⟩
 ·show (t.2++[]++[]).getD (((t.1.set a (t.1.getD b 0)).set b (t.1.getD a 0)).getD i 0) none=_
  rw[e,gO,gO,h.cell _ (uK ha hb hi)]
 ·have he':((t.1.set a (t.1.getD b 0)).set b (t.1.getD a 0)).getD i 0=((t.1.set a (t.1.getD b 0)).set b (t.1.getD a 0)).getD j 0:=he
  rw[e,e] at he'
  have:=h.inj _ _ (uK ha hb hi) (uK ha hb hj) he'
  rw[<-A4 a b i,this,A4]
theorem Zt:TabR m w L (ja m w L):=by
 refine ⟨gZ,fun i hi=>?_,fun i j hi hj he=>?_⟩
 ·rw[kR hi]
  exact sY hi
 ·rw[kR hi,kR hj] at he
  exact he
end
end Go.Proofs.YtlfdhaiigdllcaaGreat
