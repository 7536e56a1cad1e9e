/- top: slices.Delete at [][]int: what it does to a row of the call's own. top: the contracts that are given by hand: the iterators', and that of slices.Delete (Idtop). top: what its functions answer (printed by a program), and that they do. top: what its functions answer (printed by a program), and that they do; part 2. top: what its functions answer (printed by a program), and that they do; part 3. top: what its functions answer (printed by a program), and that they do; part 4. top: what its functions answer (printed by a program), and that they do; part 5. Numbers as lists of words of 32 bits: what the program's operations answer, first part. Numbers as lists of words of 32 bits: halves, quotients. Numbers as lists of words of 32 bits: the greatest common divisor, products. Numbers as lists of words of 32 bits: products; numbers with signs. Fractions: rational numbers, and the pairs of numbers that stand for them. Numbers with signs, and exact fractions. Exact fractions that fit. -/
import Derived.Shelf.RegionOpenPlain
import Derived.WalkKit
import Derived.Deep.LoopGhost
import Derived.Deep.RegionLaw
import Derived.Lib.Walk
import Derived.Sort.WalkB12
import Derived.Lib.SliceRun
import Derived.Lib.SlicesDelete
import Derived.Test.YtlfdhaiigdllcaaGreatMgN
open Bool renaming and_self→g_,not_false→iF,not_true→bX,true_and→oK
open ByteArray renaming toList→oF
open Go.IntKind renaming u32→q_,wrap→aq,wrap_u64→fD
open Int renaming fdiv→l_,natCast_mul→gO,ofNat→bY,toNat→aS
open List renaming getD→a_,length→aC,length_set→k_,replicate→eX
open Nat renaming add_mul→iN,add_zero→lD,beq→f_,ble→eS,div_le_self→j_,gcd→bT,gcd_dvd_right→nE,le_refl→b_,le_trans→m_,lt_of_lt_of_le→bx,mod_eq_of_lt→mv,mul_comm→iS,mul_le_mul_right→mV,succ→iD,zero_add→dO
open PUnit renaming unit→aQ

namespace Go.Proofs.YtlfdhaiigdllcaaGreat
open Tryz Dn Dn.Sh Go.Shelf Go.RowKit Go.Lib Go.Sort
end Go.Proofs.YtlfdhaiigdllcaaGreat

namespace Go.Proofs.YtlfdhaiigdllcaaGreat
open Tryz Dn Dn.Sh
def its:List (Nat×ICtr):=[(223,MB),(266,KJ)]
theorem Un:EI Tryz.prog its:=Ah (by kernel_rfl) Jv (Ah (by kernel_rfl) Jy Ie)
end Go.Proofs.YtlfdhaiigdllcaaGreat

namespace Go.Proofs.YtlfdhaiigdllcaaGreat
noncomputable section
open Tryz Dn Dn.Sh
set_option maxRecDepth 100000
theorem di:prog.follows .mixedOrders=true:=by kernel_rfl
theorem R6:Dz prog zS=true:=by kernel_rfl
theorem q0:(lw prog shs zS its [] []).ok:=Jq R6 Un
abbrev ty0:=(List (ByteArray×Int))×List (ByteArray×(List (ByteArray×Int×Int×Int))×Bool)
abbrev ty1:=ByteArray×Int×Int×Int×Int×(List Int)×Int×Int×Int×Int×Int×(List (ByteArray×Int×Int×Int×Int×Int×Int))×List (ByteArray×Int×Int)
abbrev ty2:=ByteArray×Int×(List Int)×(List (Int×Int))×Int
abbrev ty3:=(Bool×List Int)×Bool×List Int
abbrev ty4:=List (ByteArray×Int×Int×Int)
abbrev ty5:=ByteArray×(List (ByteArray×Int×Int×Int))×Bool
abbrev ty7:=List (ByteArray×Int×Int)
abbrev ty8:=ByteArray×Int×Int×Int×Int×Int×Int
abbrev ty9:=List (ByteArray×Int×Int×Int×Int×Int×Int)
abbrev CC:=ByteArray×Int×(List (ByteArray×Int×Int×Int×Int×(List Int)×Int×Int×Int×Int×Int×(List (ByteArray×Int×Int×Int×Int×Int×Int))×List (ByteArray×Int×Int)))×List (ByteArray×Int×Int×Int)
abbrev cx (l) (r):=U4 ZP YM (lw prog shs zS its l r)
def jC (_:Lp) (_:Jn) (x0:List Int):Option (List Int) :=
 cond (fz (0+aC x0) 8) (some x0) none
abbrev Ay:=(List Int)->Option (List Int)
def ay:Ay:=jC lpK jnK
def LH (ay:Ay):RCtr:=⟨[(.sl i64)],3,i64,fun x=>ay x.1⟩
def mw:RCtr:=LH ay
theorem X8 (lp:Lp) (jn:Jn):∀x:TsS mw.as,jC lp jn x.1=xS lp jn (cx [] []) gR 4 109 f109 mw.t mw.e (wt mw.as x true):=fun x=>by kernel_rfl
theorem RS:mw.ok prog 109:=RCtr.of_den_nil (c:=mw) (jV (q0)) di (hl:=gR) (d:=4) rfl func109 rfl (by decide) (X8 lpK jnK) fun x h=>by
 obtain ⟨l,u⟩:=x
 simp only at h
 subst h
 kernel_rfl
theorem TG:(lw prog shs zS its [] [(109,mw)]).ok:=kF q0 (by kernel_rfl) RS
def nn (_:Lp) (_:Jn) (x0:ty9):Option (List (ByteArray×Int×Int×Int×Int×Int×Int)) :=
 cond (fz (0+aC x0) 64) (some x0) none
abbrev Sk:=ty9->Option (List (ByteArray×Int×Int×Int×Int×Int×Int))
def dM:Sk:=nn lpK jnK
def lR:RCtr:=⟨[(.sl jM)],142,jM,fun x=>dM x.1⟩
theorem Y3 (lp:Lp) (jn:Jn):∀x:TsS lR.as,nn lp jn x.1=xS lp jn (cx [] [(109,mw)]) gR 4 240 f240 lR.t lR.e (wt lR.as x true):=fun x=>by kernel_rfl
theorem Te:lR.ok prog 240:=RCtr.of_den_nil (c:=lR) (jV (TG)) di (hl:=gR) (d:=4) rfl func240 rfl (by decide) (Y3 lpK jnK) fun x h=>by
 obtain ⟨l,u⟩:=x
 simp only at h
 subst h
 kernel_rfl
theorem V2:(lw prog shs zS its [] [(240,lR),(109,mw)]).ok:=kF TG (by kernel_rfl) Te
def nj (_:Lp) (_:Jn) (x0:ty7):Option (List (ByteArray×Int×Int)) :=
 cond (fz (0+aC x0) 32) (some x0) none
abbrev Su:=ty7->Option (List (ByteArray×Int×Int))
def dQ:Su:=nj lpK jnK
def nf:RCtr:=⟨[(.sl T92)],92,T92,fun x=>dQ x.1⟩
theorem Yn (lp:Lp) (jn:Jn):∀x:TsS nf.as,nj lp jn x.1=xS lp jn (cx [] [(240,lR),(109,mw)]) gR 4 241 f241 nf.t nf.e (wt nf.as x true):=fun x=>by kernel_rfl
theorem Sy:nf.ok prog 241:=RCtr.of_den_nil (c:=nf) (jV (V2)) di (hl:=gR) (d:=4) rfl func241 rfl (by decide) (Yn lpK jnK) fun x h=>by
 obtain ⟨l,u⟩:=x
 simp only at h
 subst h
 kernel_rfl
theorem MU:(lw prog shs zS its [] [(241,nf),(240,lR),(109,mw)]).ok:=kF V2 (by kernel_rfl) Sy
def pZ (_:Lp) (_:Jn) (x0:Int) (x1:Int):Option (Int×Int×Unit) :=
 
 let v4:Int:=2 ^ 32;
 let v5:Int:=l_ x0 v4;
 let v6:Int:=l_ x1 v4;
 let v7:=decide ((0:Int)<=32);
 let v8:=aq .u64 (↑(Nat.land (aS (x1 % bY 18446744073709551616)) (aS (4294967295 % bY 18446744073709551616))) :
  Int);
 let v9:=aq .u64 (↑(Nat.land (aS (x0 % bY 18446744073709551616)) (aS (4294967295 % bY 18446744073709551616))) :
  Int);
 let v10:=aq .u64 (aq .u64 (v5*v8)+l_ (aq .u64 (v9*v8)) v4);cond v7 (cond v7 (cond v7 (cond v7 (cond v7 (some (aq .u64 (aq .u64 (aq .u64 (v5*v6)+l_ v10 v4)+l_ (aq .u64 (aq .u64
  (↑(Nat.land (aS (v10 % bY 18446744073709551616)) (aS (4294967295 % bY 18446744073709551616))):Int)+aq .u64 (v9 *
  v6))) v4),aq .u64 (x0*x1),aQ)) none) none) none) none) none
abbrev DZ:=(Int)->(Int)->Option (Int×Int×Unit)
def bz:DZ:=pZ lpK jnK
def Pn (bz:DZ):Ctr:=⟨[(.int .u64),(.int .u64)],[],[],.tup [(.int .u64),(.int .u64)],fun x _ _=>bz x.1 x.2.1⟩
def Kn:Ctr:=Pn bz
theorem ZR (lp:Lp) (jn:Jn):∀(x:TsS Kn.as) (F:TsF Kn.fs) (y:TsS Kn.cs),pZ lp jn x.1 x.2.1=Az lp jn (cx [] [(241,nf),(240,lR),(109,mw)]) gR 4 164 f164 Kn x F y:=fun x F y=>by kernel_rfl
theorem MP:Kn.ok prog 164:=Ctr.of_den (jV (MU)) di (hl:=gR) (d:=4) func164 rfl (by decide) (ZR lpK jnK)
def vY (_:Lp) (_:Jn) (x0:Int) (x1:Int):Option (Int×Int×Unit) :=
 
 let v4:=aq .u64 (aq .u64 x0*aq .u64 x1);cond (decide ((0:Int)<=32)) (some (aq q_ (l_ v4
  (2 ^ 32)),aq q_ v4,aQ)) none
def iR (x0:Int) (x1:Int):Option (Int×Int×Unit):=vY lpK jnK x0 x1
def VS (iR:(Int)->(Int)->Option (Int×Int×Unit)):Ctr:=⟨[(.int .u32),(.int .u32)],[],[],.tup [(.int .u32),(.int .u32)],fun x _ _=>iR x.1 x.2.1⟩
def Mp:Ctr:=VS iR
theorem aaa (lp:Lp) (jn:Jn):∀(x:TsS Mp.as) (F:TsF Mp.fs) (y:TsS Mp.cs),vY lp jn x.1 x.2.1=Az lp jn (cx [] [(241,nf),(240,lR),(109,mw)]) gR 4 228 f228 Mp x F y:=fun x F y=>by kernel_rfl
theorem TO:Mp.ok prog 228:=Ctr.of_den (jV (MU)) di (hl:=gR) (d:=4) func228 rfl (by decide) (aaa lpK jnK)
def uW (_:Lp) (_:Jn) (bz:DZ) (_:(Int)->(Int)->Option (Int×Int×Unit)) (x0:Int) (x1:Int):Option (Int×Int×Unit) :=
 ah (bz x0 x1) fun (t:Int×Int×PUnit)=>some (t.1,t.2.1,aQ)
abbrev Ji:=(Int)->(Int)->Option (Int×Int×Unit)
def eq:Ji:=uW lpK jnK bz iR
def S1 (eq:Ji):Ctr:=⟨[(.int .u64),(.int .u64)],[],[],.tup [(.int .u64),(.int .u64)],fun x _ _=>eq x.1 x.2.1⟩
def NA:Ctr:=S1 eq
theorem Ys (lp:Lp) (jn:Jn) (bz:DZ) (iR:(Int)->(Int)->Option (Int×Int×Unit)):∀(x:TsS NA.as) (F:TsF NA.fs) (y:TsS NA.cs),uW lp jn bz iR x.1 x.2.1=Az lp jn (cx [(228,VS iR),(164,Pn bz)] [(241,nf),(240,lR),(109,mw)]) gR 4 182 f182 NA x F y:=fun x F y=>by kernel_rfl
theorem Rf:NA.ok prog 182:=Ctr.of_den (jV (aa (aa (MU) (by kernel_rfl) MP) (by kernel_rfl) TO)) di (hl:=gR) (d:=4) func182 rfl (by decide) (Ys lpK jnK bz iR)
def jf (lp:Lp) (jn:Jn) (eq:Ji) (x0:List (Int×Int)) (x1:Int):Option (List (Int×Int)) :=
 jn PUnit (List (Int×Int)) (fun (_:PUnit)=>ah (eq (aq .u64 (↑(aC x0):Int)) (aq .u64 x1)) fun (t:Int×Int×PUnit) =>
 let v6:List (Int×Int):=List.take (aS (aq .i64 t.2.1)) x0;
 let v7:=decide (t.1>0);
 let v8:=!v7;
 let v9:List (Int×Int):=eX (aS (aq .i64 t.2.1)) (0,0);cond (!v8||v8) (cond (v7||v8) (jn PUnit (List (Int×Int)) (fun
  (_:PUnit)=>cond (decide (0<=aq .i64 t.2.1)&&fz (aS (aq .i64 t.2.1)) 16) (lp (Int×List (Int×Int)×PUnit)
  (List (Int×Int)) (fun again x =>
 let v13:List (Int×Int):=List.take (aS x.1) x.2.1;
 let v14:List (Int×Int):=List.take (aS (↑(aC x.2.1):Int) - aS x.1) (List.drop 0 v13);cond (decide (x.1<(↑(aC x.2.1):Int))) (cond (slB x.1 (↑(aC x.2.1):Int) (aC x.2.1)) (cond (slB 0 x.1 (aC x.2.1)) (cond (eS (aS x.1) (aS
  (↑(aC x.2.1):Int))&&(eS (aS (↑(aC x.2.1):Int)) (aC x.2.1)&&eS (aS x.1) (aC x.2.1))) (again
  (aq .i64 (x.1+(↑(aC v14):Int)),v13++v14++List.drop (aS x.1+aC v14) x.2.1,aQ)) none) none) none) (
  some x.2.1)) ((↑(aC v6):Int),List.take 0 v9++v6++List.drop (0+aC v6) v9,aQ)) none) fun j=>cond (cond v7 true (decide (t.2.1>9223372036854775807))) none (j aQ)) none) none) fun j=>cond (decide
  (x1<0)) none (j aQ)
abbrev Pv:=(List (Int×Int))->(Int)->Option (List (Int×Int))
def bQ:Pv:=jf lpK jnK eq
def XH (bQ:Pv):RCtr:=⟨[(.sl T38),i64],38,T38,fun x=>bQ x.1 x.2.1⟩
def rM:RCtr:=XH bQ
theorem X7 (lp:Lp) (jn:Jn) (eq:Ji):∀x:TsS rM.as,jf lp jn eq x.1 x.2.1=xS lp jn (cx [(182,S1 eq)] [(241,nf),(240,lR),(109,mw)]) gR 4 137 f137 rM.t rM.e (jH rM.as x 0):=fun x=>by kernel_rfl
theorem Tq:rM.ok prog 137:=RCtr.of_den (c:=rM) (jV (aa (MU) (by kernel_rfl) Rf)) di (hl:=gR) (d:=4) func137 rfl (by decide) (X7 lpK jnK eq)
theorem Vd:(lw prog shs zS its [] [(137,rM),(241,nf),(240,lR),(109,mw)]).ok:=kF MU (by kernel_rfl) Tq
def mf (lp:Lp) (jn:Jn) (eq:Ji) (x0:List Int) (x1:Int):Option (List Int) :=
 jn PUnit (List Int) (fun (_:PUnit)=>ah (eq (aq .u64 (↑(aC x0):Int)) (aq .u64 x1)) fun (t:Int×Int×PUnit) =>
 let v6:List Int:=List.take (aS (aq .i64 t.2.1)) x0;
 let v7:List Int:=eX (aS (aq .i64 t.2.1)) 0;
 let v8:=decide (t.1>0);
 let v9:=!v8;cond (!v9||v9) (cond (v8||v9) (jn PUnit (List Int) (fun (_:PUnit)=>cond (decide (0<=aq .i64 t.2.1)&&fz (aS
  (aq .i64 t.2.1)) 8) (lp (Int×List Int×PUnit) (List Int) (fun again x =>
 let v13:List Int:=List.take (aS x.1) x.2.1;
 let v14:List Int:=List.take (aS (↑(aC x.2.1):Int) - aS x.1) (List.drop 0 v13);cond (decide (x.1<(↑(aC x.2.1):Int))) (cond (
  slB x.1 (↑(aC x.2.1):Int) (aC x.2.1)) (cond (slB 0 x.1 (aC x.2.1)) (cond (eS (aS x.1) (aS (↑(aC
  x.2.1):Int))&&(eS (aS (↑(aC x.2.1):Int)) (aC x.2.1)&&eS (aS x.1) (aC x.2.1))) (again (aq
  IntKind.i64 (x.1+(↑(aC v14):Int)),v13++v14++List.drop (aS x.1+aC v14) x.2.1,aQ)) none) none) none) (some x.2.1))
  ((↑(aC v6):Int),List.take 0 v7++v6++List.drop (0+aC v6) v7,aQ)) none) fun j=>cond (cond v8 true (decide (t.2.1>9223372036854775807))) none (j aQ)) none) none) fun j=>cond (decide (x1<0)) none (
  j aQ)
abbrev XR:=(List Int)->(Int)->Option (List Int)
def vM:XR:=mf lpK jnK eq
def sQ:RCtr:=⟨[(.sl i64),i64],3,i64,fun x=>vM x.1 x.2.1⟩
theorem aai (lp:Lp) (jn:Jn) (eq:Ji):∀x:TsS sQ.as,mf lp jn eq x.1 x.2.1=xS lp jn (cx [(182,S1 eq)] [(137,rM),(241,nf),(240,lR),(109,mw)]) gR 4 113 f113 sQ.t sQ.e (jH sQ.as x 0):=fun x=>by kernel_rfl
theorem Ty:sQ.ok prog 113:=RCtr.of_den (c:=sQ) (jV (aa (Vd) (by kernel_rfl) Rf)) di (hl:=gR) (d:=4) func113 rfl (by decide) (aai lpK jnK eq)
theorem Wn:(lw prog shs zS its [] [(113,sQ),(137,rM),(241,nf),(240,lR),(109,mw)]).ok:=kF Vd (by kernel_rfl) Ty
def nT (_:Lp) (_:Jn) (x0:List (ByteArray×Int)):Option (List (ByteArray×Int)) :=
 cond (fz (0+aC x0) 24) (some x0) none
abbrev Zh:=(List (ByteArray×Int))->Option (List (ByteArray×Int))
def wJ:Zh:=nT lpK jnK
def uE:RCtr:=⟨[(.sl T79)],79,T79,fun x=>wJ x.1⟩
theorem Ze (lp:Lp) (jn:Jn):∀x:TsS uE.as,nT lp jn x.1=xS lp jn (cx [] [(113,sQ),(137,rM),(241,nf),(240,lR),(109,mw)]) gR 4 128 f128 uE.t uE.e (wt uE.as x true):=fun x=>by kernel_rfl
theorem Tk:uE.ok prog 128:=RCtr.of_den_nil (c:=uE) (jV (Wn)) di (hl:=gR) (d:=4) rfl func128 rfl (by decide) (Ze lpK jnK) fun x h=>by
 obtain ⟨l,u⟩:=x
 simp only at h
 subst h
 kernel_rfl
theorem Wq:(lw prog shs zS its [] [(128,uE),(113,sQ),(137,rM),(241,nf),(240,lR),(109,mw)]).ok:=kF Wn (by kernel_rfl) Tk
def nz (_:Lp) (_:Jn) (x0:List (List Int)):Option (List (List Int)) :=
 cond (fz (0+aC x0) 24) (some x0) none
abbrev YF:=(List (List Int))->Option (List (List Int))
def wx:YF:=nz lpK jnK
def wM:RCtr:=⟨[(.sl (.sl i64))],29,(.sl i64),fun x=>wx x.1⟩
theorem Zc (lp:Lp) (jn:Jn):∀x:TsS wM.as,nz lp jn x.1=xS lp jn (cx [] [(128,uE),(113,sQ),(137,rM),(241,nf),(240,lR),(109,mw)]) gR 4 140 f140 wM.t wM.e (wt wM.as x true):=fun x=>by kernel_rfl
theorem SS:wM.ok prog 140:=RCtr.of_den_nil (c:=wM) (jV (Wq)) di (hl:=gR) (d:=4) rfl func140 rfl (by decide) (Zc lpK jnK) fun x h=>by
 obtain ⟨l,u⟩:=x
 simp only at h
 subst h
 kernel_rfl
theorem aK:(lw prog shs zS its [] [(140,wM),(128,uE),(113,sQ),(137,rM),(241,nf),(240,lR),(109,mw)]).ok:=kF Wq (by kernel_rfl) SS
abbrev rz:List (FuncId×RCtr):=[(140,wM),(128,uE),(113,sQ),(137,rM),(241,nf),(240,lR),(109,mw)]
abbrev rC (lp:Lp) (jn:Jn) (l):=Az lp jn (cx l rz) gR 4
theorem od {l} (hC:(lw prog shs zS its l rz).ok) {f:FuncId} {fn:Func} {code:Code} {c:Ctr} (hf:prog.funcs[f]?=some fn) (h:∀x F y,c.m x F y=rC lpK jnK l f fn c x F y) (hb:fn.body=some code:=by rfl) (hn:c.as.length+c.fs.length+c.cs.length<=fn.ntmps:=by decide):c.ok prog f:=Ctr.of_den (jV hC) di (hl:=gR) (d:=4) hf hb hn h
def js (_:Lp) (_:Jn) (x0:Int):Option (Int×Int) :=
 some (x0,1)
abbrev t12:=(Int)->Option (Int×Int)
def aN:t12:=js lpK jnK
def k12 (aN:t12):Ctr:=⟨[i64],[],[],.one T38,fun x _ _=>aN x.1⟩
def c12:Ctr:=k12 aN
theorem e12 (lp:Lp) (jn:Jn):∀x F y,js lp jn x.1=rC lp jn [] 12 f12 c12 x F y:=fun x F y=>by kernel_rfl
theorem UT:c12.ok prog 12:=od (aK) func12 (e12 lpK jnK)
def ow (lp:Lp) (_:Jn) (x0:List (Int×Int)) (x1:List (Int×Int)):Option Bool :=
 cond (!decide ((↑(aC x0):Int)=(↑(aC x1):Int))) (some false) (lp (Int×PUnit) Bool (fun again x=>cond (decide
  (x.1<(↑(aC x0):Int))) (cond (inB x.1 (aC x0)) (cond (inB x.1 (aC x1)) (cond (!(decide ((a_ x0 (aS x.1) (0,(0 :
  Int))).1=(a_ x1 (aS x.1) (0,0)).1)&&(decide ((a_ x0 (aS x.1) (0,0)).2=(a_ x1 (aS x.1) ((0 :
  Int),0)).2)&&true))) (some false) (again (aq .i64 (x.1+1),aQ))) none) none) (some true)) (0,aQ))
abbrev t20:=(List (Int×Int))->(List (Int×Int))->Option (Bool)
def cX:t20:=ow lpK jnK
def k20 (cX:t20):Ctr:=⟨[(.sl T38),(.sl T38)],[],[],.one .bool,fun x _ _=>cX x.1 x.2.1⟩
def c20:Ctr:=k20 cX
theorem e20 (lp:Lp) (jn:Jn):∀x F y,ow lp jn x.1 x.2.1=rC lp jn [] 20 f20 c20 x F y:=fun x F y=>by kernel_rfl
theorem aao:c20.ok prog 20:=od (aK) func20 (e20 lpK jnK)
def kr (lp:Lp) (_:Jn) (x0:List (ByteArray×(List (ByteArray×Int×Int×Int))×Bool)) (f0:(((ByteArray×(List (ByteArray×Int×Int×Int))×Bool)×Unit)->Option Bool)):Option Int :=
 lp (Int×PUnit) Int (fun again x=>cond (decide (x.1<(↑(aC x0):Int))) (cond (inB x.1 (aC x0)) (ah (f0
  (a_ x0 (aS x.1) ({ data:={ toList:=[] } },[],false),aQ)) fun t=>cond t (some x.1) (again (aq .i64 (x.1+1),
  aQ))) none) (some (-1))) (0,aQ)
abbrev t68:=(List (ByteArray×(List (ByteArray×Int×Int×Int))×Bool))->((((ByteArray×(List (ByteArray×Int×Int×Int))×Bool)×Unit)->Option Bool))->Option (Int)
def aP:t68:=kr lpK jnK
def k68 (aP:t68):Ctr:=⟨[(.sl T63)],[([T63],.bool)],[],.one i64,fun x F _=>aP x.1 F.1⟩
def c68:Ctr:=k68 aP
theorem e68 (lp:Lp) (jn:Jn):∀x F y,kr lp jn x.1 F.1=rC lp jn [] 68 f68 c68 x F y:=fun x F y=>by kernel_rfl
theorem UA:c68.ok prog 68:=od (aK) func68 (e68 lpK jnK)
def pU (_:Lp) (_:Jn) (x0:Int) (x1:Int) (x2:Int):Option Bool :=
 
 let v5:=decide (x0>=x1);
 let v6:=!v5||v5;cond (v6&&v6) (cond v6 (some (cond v5 (decide (x0<=x2)) false)) none) none
abbrev IA:=(Int)->(Int)->(Int)->Option (Bool)
def bo:IA:=pU lpK jnK
def R4 (bo:IA):Ctr:=⟨[i64,i64,i64],[],[],.one .bool,fun x _ _=>bo x.1 x.2.1 x.2.2.1⟩
def Uy:Ctr:=R4 bo
theorem aan (lp:Lp) (jn:Jn):∀x F y,pU lp jn x.1 x.2.1 x.2.2.1=rC lp jn [] 173 f173 Uy x F y:=fun x F y=>by kernel_rfl
theorem Q2:Uy.ok prog 173:=od (aK) func173 (aan lpK jnK)
def kO (_:Lp) (_:Jn) (x0:Int):Option Bool :=
 
 let v3:=decide (x0>=97);
 let v4:=decide (x0>=65);
 let v5:=!v3||v3;
 let v6:=cond v3 (decide (x0<=122)) false;
 let v7:=!v6;
 let v8:=!v7;
 let v9:Bool:=v7&&v4;
 let v10:Bool:=v8||v7;cond v5 (cond v5 (cond v10 (cond v10 (cond (!v9||v9) (cond ((v8||v10)&&(v8||(!v4||(v8||v9)))) (cond (v6||v7) (some (cond v6 true (cond v4 (decide (x0<=90)) false))) none) none) none) none) none) none) none
abbrev t78:=(Int)->Option (Bool)
def bl:t78:=kO lpK jnK
def k78 (bl:t78):Ctr:=⟨[(.int .u8)],[],[],.one .bool,fun x _ _=>bl x.1⟩
def c78:Ctr:=k78 bl
theorem e78 (lp:Lp) (jn:Jn):∀x F y,kO lp jn x.1=rC lp jn [] 78 f78 c78 x F y:=fun x F y=>by kernel_rfl
theorem UN:c78.ok prog 78:=od (aK) func78 (e78 lpK jnK)
def lQ (_:Lp) (_:Jn) (x0:Int):Option Bool :=
 
 let v3:=decide (x0>=48);
 let v4:=!v3||v3;cond v4 (cond v4 (some (cond v3 (decide (x0<=57)) false)) none) none
abbrev S6:=(Int)->Option (Bool)
def dZ:S6:=lQ lpK jnK
def TT:Ctr:=⟨[(.int .u8)],[],[],.one .bool,fun x _ _=>dZ x.1⟩
theorem Zk (lp:Lp) (jn:Jn):∀x F y,lQ lp jn x.1=rC lp jn [] 145 f145 TT x F y:=fun x F y=>by kernel_rfl
theorem Wd:TT.ok prog 145:=od (aK) func145 (Zk lpK jnK)
def mW (lp:Lp) (_:Jn) (bl:t78) (dZ:S6) (x0:ByteArray):Option Int :=
 lp (Int×PUnit) Int (fun again x =>
 let v5:=inB x.1 (ByteArray.size x0);
 let v6:Int:=gg x0 (aS x.1);
 let v7:=decide (x.1<(↑(ByteArray.size x0):Int));
 let v8:=!v7;
 let v9:Bool:=v8||v7;
 let v10:Bool:=v8||v9;cond (v9&&(v9&&(v8||v5))) (cond v9 (ah (cond v7 (bl v6) (some false)) fun t =>
 let v12:Bool:=v7&&!t;
 let v13:=!v12;
 let v14:Bool:=v13||v12;cond v9 (cond (v14&&(v14&&(v13||v5))) (cond v14 (ah (cond v12 (dZ v6) (some false)) fun t_1 =>
 let v16:=cond t true t_1;
 let v17:Bool:=v7&&!v16;
 let v18:=!v17;
 let v19:Bool:=v18||v17;cond (v10&&(v8||(t||(v8||v12)))) (cond v9 (cond (v19&&(v19&&(v18||v5))) (cond v19 (cond (v10&&(v8||(v16||(v8||v17)))) (cond v9 (cond (cond v7 (cond v16 true (decide (v6=95))) false) (again (aq .i64 (x.1+1),aQ)) (some x.1)) none) none) none) none) none) none) none) none) none) none) none) (0,aQ)
abbrev t79:=(ByteArray)->Option (Int)
def eh:t79:=mW lpK jnK bl dZ
def c79:Ctr:=⟨[.str],[],[],.one i64,fun x _ _=>eh x.1⟩
theorem e79 (lp:Lp) (jn:Jn) (bl:t78) (dZ:S6):∀x F y,mW lp jn bl dZ x.1=rC lp jn [(145,⟨[(.int .u8)],[],[],.one .bool,fun x _ _=>dZ x.1⟩),(78,k78 bl)] 79 f79 c79 x F y:=fun x F y=>by kernel_rfl
theorem YE:c79.ok prog 79:=od (aa (aa (aK) rfl UN) rfl Wd) func79 (e79 lpK jnK bl dZ)
def kA (_:Lp) (_:Jn) (bl:t78) (eh:t79) (x0:ByteArray):Option Bool :=
 
 let v3:=!List.beq (oF x0) (oF { data:=#[] });
 let v4:=!v3||v3;
 let v5:=cond v3 (decide ((↑(ByteArray.size x0):Int)<=20)) false;
 let v6:=!v5;
 let v7:Bool:=v6||v5;cond v4 (cond v4 (cond v4 (cond (v7&&(v6||inB 0 (ByteArray.size x0))) (cond v7 (ah (cond v5 (bl (gg x0 0)) (some false)) fun t =>
 let v9:=cond v5 t false;
 let v10:=!v9||v9;cond v7 (cond v10 (ah (cond v9 (eh x0) (some 0)) fun t=>cond v10 (cond (v10&&v10) (cond v10 (some (cond v9 (decide (t=(↑(ByteArray.size x0):Int))) false)) none) none) none) none) none) none) none) none) none) none
abbrev t40:=(ByteArray)->Option (Bool)
def ak:t40:=kA lpK jnK bl eh
def k40 (ak:t40):Ctr:=⟨[.str],[],[],.one .bool,fun x _ _=>ak x.1⟩
def c40:Ctr:=k40 ak
theorem e40 (lp:Lp) (jn:Jn) (bl:t78) (eh:t79):∀x F y,kA lp jn bl eh x.1=rC lp jn [(79,⟨[.str],[],[],.one i64,fun x _ _=>eh x.1⟩),(78,k78 bl)] 40 f40 c40 x F y:=fun x F y=>by kernel_rfl
theorem Eg:c40.ok prog 40:=od (aa (aa (aK) rfl UN) rfl YE) func40 (e40 lpK jnK bl eh)
def jS (lp:Lp) (_:Jn) (x0:List (ByteArray×Int)) (f0:(((ByteArray×Int)×Unit)->Option Bool)):Option Int :=
 lp (Int×PUnit) Int (fun again x=>cond (decide (x.1<(↑(aC x0):Int))) (cond (inB x.1 (aC x0)) (ah (f0
  (a_ x0 (aS x.1) ({ data:={ toList:=[] } },0),aQ)) fun t=>cond t (some x.1) (again (aq .i64 (x.1+1),
  aQ))) none) (some (-1))) (0,aQ)
abbrev Jh:=(List (ByteArray×Int))->((((ByteArray×Int)×Unit)->Option Bool))->Option (Int)
def aL:Jh:=jS lpK jnK
def Ts (aL:Jh):Ctr:=⟨[(.sl T79)],[([T79],.bool)],[],.one i64,fun x F _=>aL x.1 F.1⟩
def T1:Ctr:=Ts aL
theorem ZH (lp:Lp) (jn:Jn):∀x F y,jS lp jn x.1 F.1=rC lp jn [] 131 f131 T1 x F y:=fun x F y=>by kernel_rfl
theorem Re:T1.ok prog 131:=od (aK) func131 (ZH lpK jnK)
def pQ (_:Lp) (_:Jn) (x0:ByteArray×Int) (y0:ByteArray):Option Bool :=
 some (List.beq (oF x0.1) (oF y0))
abbrev RB:=(ByteArray×Int)->(ByteArray)->Option (Bool)
def eW:RB:=pQ lpK jnK
def UC:Ctr:=⟨[T79],[],[.str],.one .bool,fun x _ y=>eW x.1 y.1⟩
theorem Yz (lp:Lp) (jn:Jn):∀x F y,pQ lp jn x.1 y.1=rC lp jn [] 176 f176 UC x F y:=fun x F y=>by kernel_rfl
theorem XK:UC.ok prog 176:=od (aK) func176 (Yz lpK jnK)
def rR (_:Lp) (_:Jn) (aL:Jh) (eW:RB) (x0:ty0) (x1:ByteArray):Option Int :=
 ah (aL x0.1 fun x=>eW x.1 x1) fun t=>some t
abbrev Iv:=ty0->(ByteArray)->Option (Int)
def bZ:Iv:=rR lpK jnK aL eW
def RX (bZ:Iv):Ctr:=⟨[T50,.str],[],[],.one i64,fun x _ _=>bZ x.1 x.2.1⟩
def WV:Ctr:=RX bZ
theorem ZF (lp:Lp) (jn:Jn) (aL:Jh) (eW:RB):∀x F y,rR lp jn aL eW x.1 x.2.1=rC lp jn [(176,⟨[T79],[],[.str],.one .bool,fun x _ y=>eW x.1 y.1⟩),(131,Ts aL)] 106 f106 WV x F y:=fun x F y=>by kernel_rfl
theorem Ri:WV.ok prog 106:=od (aa (aa (aK) rfl Re) rfl XK) func106 (ZF lpK jnK aL eW)
def sw (lp:Lp) (_:Jn) (x0:Int) (x1:Int):Option Int :=
 lp (Int×Int×PUnit) Int (fun again x=>cond (!decide (x.2.1=0)) (cond (nzB x.2.1) (again (x.2.1,
  Int.tmod x.1 x.2.1,aQ)) none) (some x.1)) (x0,x1,aQ)
abbrev t96:=(Int)->(Int)->Option (Int)
def bj:t96:=sw lpK jnK
def k96 (bj:t96):Ctr:=⟨[(.int .u64),(.int .u64)],[],[],.one (.int .u64),fun x _ _=>bj x.1 x.2.1⟩
def c96:Ctr:=k96 bj
theorem e96 (lp:Lp) (jn:Jn):∀x F y,sw lp jn x.1 x.2.1=rC lp jn [] 96 f96 c96 x F y:=fun x F y=>by kernel_rfl
theorem O3:c96.ok prog 96:=od (aK) func96 (e96 lpK jnK)
def qg (_:Lp) (_:Jn) (x0:Int):Option Int :=
 
 let v3:=aq .u64 x0;cond (decide (x0<0)) (some (aq .u64 (0 - v3))) (some v3)
abbrev t97:=(Int)->Option (Int)
def aH:t97:=qg lpK jnK
def k97 (aH:t97):Ctr:=⟨[i64],[],[],.one (.int .u64),fun x _ _=>aH x.1⟩
def c97:Ctr:=k97 aH
theorem e97 (lp:Lp) (jn:Jn):∀x F y,qg lp jn x.1=rC lp jn [] 97 f97 c97 x F y:=fun x F y=>by kernel_rfl
theorem Lh:c97.ok prog 97:=od (aK) func97 (e97 lpK jnK)
def oS (_:Lp) (_:Jn) (bj:t96) (aH:t97) (x0:Int×Int):Option Bool :=
 
 let v3:=decide (x0.2>=1);
 let v4:=!v3||v3;
 let v5:=cond v3 (decide (x0.2<=1152921504606846976)) false;
 let v6:=cond v5 (decide (x0.1>=(-1152921504606846976))) false;
 let v7:=!v5||v5;
 let v8:=cond v6 (decide (x0.1<=1152921504606846976)) false;
 let v9:=!v6||v6;
 let v10:=!v8||v8;cond v4 (cond v4 (cond v4 (cond v7 (cond v7 (cond v7 (cond v9 (cond v9 (cond v9 (cond v10 (cond v10 (ah (cond v8 (
  aH x0.1) (some 0)) fun t=>cond v10 (cond v10 (cond (v10&&v10) (ah (cond v8 (bj t (aq .u64 x0.2)) (some (0 :
  Int))) fun t=>cond v10 (cond v10 (some (cond v8 (decide (t=1)) false)) none) none) none) none) none) none) none) none) none) none) none) none) none) none) none) none
abbrev t94:=(Int×Int)->Option (Bool)
def ax:t94:=oS lpK jnK bj aH
def k94 (ax:t94):Ctr:=⟨[T38],[],[],.one .bool,fun x _ _=>ax x.1⟩
def c94:Ctr:=k94 ax
theorem e94 (lp:Lp) (jn:Jn) (bj:t96) (aH:t97):∀x F y,oS lp jn bj aH x.1=rC lp jn [(97,k97 aH),(96,k96 bj)] 94 f94 c94 x F y:=fun x F y=>by kernel_rfl
theorem JO:c94.ok prog 94:=od (aa (aa (aK) rfl O3) rfl Lh) func94 (e94 lpK jnK bj aH)
def rA (_:Lp) (_:Jn) (ax:t94) (x0:Int×Int):Option Bool :=
 ah (ax x0) fun t =>
 let v4:=!t||t;
 let v5:=cond t (decide (x0.1>=x0.2)) false;
 let v6:=!v5||v5;cond v4 (cond v4 (cond (v4&&v4) (cond v4 (cond v6 (cond v6 (cond v6 (some (cond v5 (decide (x0.1<=100)) false)) none) none) none) none) none) none) none
abbrev S2:=(Int×Int)->Option (Bool)
def fL:S2:=rA lpK jnK ax
def VI:Ctr:=⟨[T38],[],[],.one .bool,fun x _ _=>fL x.1⟩
theorem X5 (lp:Lp) (jn:Jn) (ax:t94):∀x F y,rA lp jn ax x.1=rC lp jn [(94,k94 ax)] 257 f257 VI x F y:=fun x F y=>by kernel_rfl
theorem XN:VI.ok prog 257:=od (aa (aK) rfl JO) func257 (X5 lpK jnK ax)
def rN (_:Lp) (_:Jn) (bZ:Iv) (fL:S2) (x0:ty0) (x1:ByteArray×Int×Int×Int) (x2:Bool):Option Bool :=
 
 let v5:=!x2;
 let v6:Bool:=v5||x2;
 let v7:=decide (x1.2.1=0);
 let v8:=decide (x1.2.1=1);
 let v9:=decide (x1.2.1=2);
 let v10:=!v8;
 let v11:=!v9;
 let v12:=cond v9 true v7;
 let v13:=!v10||v10;
 let v14:=!v11||v11;
 let v15:=!v12;
 let v16:=cond x2 (!(decide (x1.2.2.1=1)&&(decide (x1.2.2.2=1)&&true))) false;
 let v17:=!v16;
 let v18:=!v17;
 let v19:Bool:=v17&&v5;
 let v20:=!v15||v15;
 let v21:Bool:=v18||v17;
 let v22:=!v19||v19;cond v6 (cond (v6&&v6) (cond v6 (cond v21 (cond v21 (cond v22 (cond v22 (ah (cond v19 (fL x1.2.2) (some false))
  fun t=>cond v22 (cond ((v18||v21)&&(v18||(!v5||(v18||v19)))) (cond (v16||v17) (cond (cond v16 true (cond v5 (!t) false)) (some false) (cond (
  List.beq (oF x1.1) (oF { data:=#[] })) (some v7) (ah (bZ x0 x1.1) fun t=>cond (decide (t<0)) (some false) (
  cond x2 (cond v13 (cond v13 (cond (v8||v10) (some (cond v8 true (decide (x1.2.1=(-1))))) none) none) none) (cond v14 (cond v14 (cond (
  v9||v11) (cond v20 (cond v20 (cond (v12||v15) (some (cond v12 true (decide (x1.2.1=(-2))))) none) none) none) none) none) none))))) none) none) none) none) none) none) none) none) none) none
abbrev Qb:=ty0->(ByteArray×Int×Int×Int)->(Bool)->Option (Bool)
def eV:Qb:=rN lpK jnK bZ fL
def Vi (eV:Qb):Ctr:=⟨[T50,T66,.bool],[],[],.one .bool,fun x _ _=>eV x.1 x.2.1 x.2.2.1⟩
def U0:Ctr:=Vi eV
theorem Y6 (lp:Lp) (jn:Jn) (bZ:Iv) (fL:S2):∀x F y,rN lp jn bZ fL x.1 x.2.1 x.2.2.1=rC lp jn [(257,⟨[T38],[],[],.one .bool,fun x _ _=>fL x.1⟩),(106,RX bZ)] 224 f224 U0 x F y:=fun x F y=>by kernel_rfl
theorem XO:U0.ok prog 224:=od (aa (aa (aK) rfl Ri) rfl XN) func224 (Y6 lpK jnK bZ fL)
def rP (lp:Lp) (_:Jn) (bo:IA) (eV:Qb) (x0:ty0) (x1:ty5):Option Bool :=
 
 let v4:=!x1.2.2;
 let v5:=!v4;
 let v6:=!v5;
 let v7:=aq .i64 ((↑(aC x1.2.1):Int) - 1);
 let v8:Bool:=v6||v5;ah (bo (↑(aC x1.2.1):Int) 2 10) fun t=>cond (!t) (some false) (lp (Int×PUnit) Bool (fun again x =>
 let v12:=decide (x.1=0);
 let v13:=!v12;
 let v14:=!v13||v13;cond (decide (x.1<(↑(aC x1.2.1):Int))) (cond (inB x.1 (aC x1.2.1)) (cond v14 (cond (v14&&v14) (cond (v12||v13) (
  ah (eV x0 (a_ x1.2.1 (aS x.1) ({ data:={ toList:=[] } },0,0,0)) (cond v12 true (decide (x.1=v7)))) fun t=>cond (!t) (some false) (again (aq .i64 (x.1+1),aQ))) none) none) none) none) (cond v8 (cond v8 (cond (v8&&(v8
  && (v6||inB v7 (aC x1.2.1)))) (cond v8 (cond v8 (cond v8 (cond (v4||v5) (some (cond v4 true (List.beq (oF (a_ x1.2.1
  (aS v7) ({ data:={ toList:=[] } },0,0,0)).1) (oF { data:=#[] })))) none) none) none) none) none) none) none)) (0,aQ))
abbrev Tu:=ty0->ty5->Option (Bool)
def gu:Tu:=rP lpK jnK bo eV
def Uz:Ctr:=⟨[T50,T63],[],[],.one .bool,fun x _ _=>gu x.1 x.2.1⟩
theorem Yo (lp:Lp) (jn:Jn) (bo:IA) (eV:Qb):∀x F y,rP lp jn bo eV x.1 x.2.1=rC lp jn [(224,Vi eV),(173,R4 bo)] 175 f175 Uz x F y:=fun x F y=>by kernel_rfl
theorem Wj:Uz.ok prog 175:=od (aa (aa (aK) rfl Q2) rfl XO) func175 (Yo lpK jnK bo eV)
def rx (lp:Lp) (_:Jn) (bo:IA) (ak:t40) (gu:Tu) (x0:ty0):Option Bool :=
 ah (bo (↑(aC x0.1):Int) 1 6) fun t =>
 let v4:=!t;
 let v5:=!v4;
 let v6:=!v5||v5;cond v6 (cond v6 (cond v6 (ah (cond v5 (bo (↑(aC x0.2):Int) 1 6) (some false)) fun t=>cond v6 (cond (v4||v5) (cond (cond v4 true (!t)) (some false) (lp (Int×List (ByteArray×Bool)×PUnit) Bool (fun again x =>
 let v10:=a_ x0.1 (aS x.1) ({ data:={ toList:=[] } },0);cond (decide (x.1<(↑(aC x0.1):Int))) (cond (inB x.1
  (aC x0.1)) (ah (ak v10.1) fun t =>
 let v12:=!t||t;cond (v12&&v12) (cond v12 (cond v12 (cond ((!!!cond t (!ln str Sh.bool v10.1 false x.2.1) false)||!!cond t (!ln str Sh.bool v10.1
  false x.2.1) false) (cond ((!!!cond t (!ln str Sh.bool v10.1 false x.2.1) false)||!!cond t (!ln str Sh.bool v10.1 false x.2.1) false) (ah
  (cond (!!cond t (!ln str Sh.bool v10.1 false x.2.1) false) (bo v10.2 0 16777216) (some false)) fun t_1=>cond ((!!!cond t (
  !ln str Sh.bool v10.1 false x.2.1) false)||!!cond t (!ln str Sh.bool v10.1 false x.2.1) false) (cond ((!cond t (!ln str Sh.bool v10.1 false
  x.2.1) false)||!!cond t (!ln str Sh.bool v10.1 false x.2.1) false) (cond (cond (!cond t (!ln str Sh.bool v10.1 false x.2.1) false) true (
  !t_1)) (some false) (again (aq .i64 (x.1+1),ze str Sh.bool v10.1 true x.2.1,aQ))) none) none) none) none) none) none) none) none) (lp (Int×Int×List (ByteArray×Bool)×PUnit) Bool (fun again x =>
 let v13:=a_ x0.2 (aS x.2.1) ({ data:={ toList:=[] } },[],false);cond (decide (x.2.1<(↑(aC
  x0.2):Int))) (cond (inB x.2.1 (aC x0.2)) (ah (ak v13.1) fun t =>
 let v15:=!t||t;cond (v15&&v15) (cond v15 (cond v15 (cond (((!!!cond t (!ln str Sh.bool v13.1 false x.2.2.1) false)||!!cond t (!ln str Sh.bool
  v13.1 false x.2.2.1) false)&&((!!!cond t (!ln str Sh.bool v13.1 false x.2.2.1) false)||!!cond t (!ln str Sh.bool v13.1 false x.2.2.1) false)) (ah (cond (!!cond t (!ln str Sh.bool v13.1 false x.2.2.1) false) (gu x0 v13) (some false)) fun t_1=>cond ((!!!cond t (!ln str
  Sh.bool v13.1 false x.2.2.1) false)||!!cond t (!ln str Sh.bool v13.1 false x.2.2.1) false) (cond ((!cond t (!ln str Sh.bool v13.1 false
  x.2.2.1) false)||!!cond t (!ln str Sh.bool v13.1 false x.2.2.1) false) (cond (cond (!cond t (!ln str Sh.bool v13.1 false x.2.2.1) false) true (!t_1)) (some false) (cond v13.2.2 (again (aq .i64 (x.1+1),aq .i64 (x.2.1+1),ze str Sh.bool v13.1
  true x.2.2.1,aQ)) (again (x.1,aq .i64 (x.2.1+1),ze str Sh.bool v13.1 true x.2.2.1,aQ)))) none) none) none) none) none) none) none) (some (decide (x.1<=1)))) (0,0,x.2.1,aQ))) (0,[],aQ))) none) none) none) none) none
abbrev EY:=ty0->Option (Bool)
def bb:EY:=rx lpK jnK bo ak gu
def QL (bb:EY):Ctr:=⟨[T50],[],[],.one .bool,fun x _ _=>bb x.1⟩
def T2:Ctr:=QL bb
theorem ZW (lp:Lp) (jn:Jn) (bo:IA) (ak:t40) (gu:Tu):∀x F y,rx lp jn bo ak gu x.1=rC lp jn [(175,⟨[T50,T63],[],[],.one .bool,fun x _ _=>gu x.1 x.2.1⟩),(40,k40 ak),(173,R4 bo)] 105 f105 T2 x F y:=fun x F y=>by kernel_rfl
theorem Kz:T2.ok prog 105:=od (aa (aa (aa (aK) rfl Q2) rfl Eg) rfl Wj) func105 (ZW lpK jnK bo ak gu)
def lL (_:Lp) (_:Jn) (bz:DZ) (x0:Int) (x1:Int):Option (Int×Int) :=
 ah (bz x0 x1) fun (t:Int×Int×PUnit)=>some (t.1,t.2.1)
abbrev t98:=(Int)->(Int)->Option (Int×Int)
def aI:t98:=lL lpK jnK bz
def k98 (aI:t98):Ctr:=⟨[(.int .u64),(.int .u64)],[],[],.one pn,fun x _ _=>aI x.1 x.2.1⟩
def c98:Ctr:=k98 aI
theorem e98 (lp:Lp) (jn:Jn) (bz:DZ):∀x F y,lL lp jn bz x.1 x.2.1=rC lp jn [(164,Pn bz)] 98 f98 c98 x F y:=fun x F y=>by kernel_rfl
theorem TB:c98.ok prog 98:=od (aa (aK) rfl MP) func98 (e98 lpK jnK bz)
def nc (_:Lp) (_:Jn) (x0:Bool) (x1:Int) (x2:Int):Option ((Int×Int)×Int×Unit) :=
 
 let v5:=aq .i64 x1;
 let v6:=aq .i64 x2;
 let v7:=decide (x1>1152921504606846976);
 let v8:=!v7;cond (!v8||v8) (cond (v7||v8) (cond (cond v7 true (decide (x2>1152921504606846976))) (some ((0,0),5,aQ)) (cond x0 (some ((aq .i64 (0 - v5),v6),0,aQ)) (some ((v5,v6),0,aQ)))) none) none
abbrev t99:=(Bool)->(Int)->(Int)->Option ((Int×Int)×Int×Unit)
def aY:t99:=nc lpK jnK
def k99 (aY:t99):Ctr:=⟨[.bool,(.int .u64),(.int .u64)],[],[],.tup [T38,i64],fun x _ _=>aY x.1 x.2.1 x.2.2.1⟩
def c99:Ctr:=k99 aY
theorem e99 (lp:Lp) (jn:Jn):∀x F y,nc lp jn x.1 x.2.1 x.2.2.1=rC lp jn [] 99 f99 c99 x F y:=fun x F y=>by kernel_rfl
theorem Tl:c99.ok prog 99:=od (aK) func99 (e99 lpK jnK)
def sS (_:Lp) (_:Jn) (bj:t96) (aH:t97) (ax:t94) (aI:t98) (aY:t99) (x0:Int×Int) (x1:Int×Int):Option ((Int×Int)×Int×Unit) :=
 
 let v4:=aq .u64 x1.2;
 let v5:=aq .u64 x0.2;ah (ax x0) fun t =>
 let v7:=!t;
 let v8:=!v7;
 let v9:=!v8||v8;cond v9 (ah (cond v8 (ax x1) (some false)) fun t=>cond v9 (cond (v7||v8) (cond (cond v7 true (!t)) (some (((0 :
  Int),0),1,aQ)) (ah (aH x0.1) fun t=>ah (bj t v4) fun t =>
 let v13:Bool:=nzB t;ah (aH x1.1) fun t_1=>ah (bj t_1 v5) fun t_2 =>
 let v16:Bool:=nzB t_2;ah (aH x0.1) fun t_3=>cond v13 (ah (aH x1.1) fun t_4=>cond v16 (ah (aI (aq
  IntKind.u64 (Int.tdiv t_3 t)) (aq .u64 (Int.tdiv t_4 t_2))) fun t_5 =>
 let v20:=decide (t_5.1>0);
 let v21:=decide (t_5.2>0);
 let v22:=!v20;
 let v23:=!v21||v21;
 let v24:=!v22||v22;cond v16 (cond v13 (ah (aI (aq .u64 (Int.tdiv v5 t_2)) (aq .u64 (Int.tdiv v4 t))) fun t=>cond v24 (cond v24 (cond (v20||v22) (cond (cond v20 true (decide (t.1>0))) (some ((0,0),5,aQ)) (cond v23 (cond v23 (cond v23 (cond v23 (cond (v23&&v23) (cond v23 (ah (aY (cond v21 (!decide (decide (x0.1<0)=decide (x1.1<0))) false)
  t_5.2 t.2) fun (t:(Int×Int)×Int×PUnit)=>some (t.1,t.2.1,aQ)) none) none) none) none) none) none)) none) none) none) none) none) none) none)) none) none) none
abbrev t47:=(Int×Int)->(Int×Int)->Option ((Int×Int)×Int×Unit)
def cH:t47:=sS lpK jnK bj aH ax aI aY
def k47 (cH:t47):Ctr:=⟨[T38,T38],[],[],.tup [T38,i64],fun x _ _=>cH x.1 x.2.1⟩
def c47:Ctr:=k47 cH
theorem e47 (lp:Lp) (jn:Jn) (bj:t96) (aH:t97) (ax:t94) (aI:t98) (aY:t99):∀x F y,sS lp jn bj aH ax aI aY x.1 x.2.1=rC lp jn [(99,k99 aY),(98,k98 aI),(94,k94 ax),(97,k97 aH),(96,k96 bj)] 47 f47 c47 x F y:=fun x F y=>by kernel_rfl
theorem WC:c47.ok prog 47:=od (aa (aa (aa (aa (aa (aK) rfl O3) rfl Lh) rfl JO) rfl TB) rfl Tl) func47 (e47 lpK jnK bj aH ax aI aY)
def xH (_:Lp) (_:Jn) (ax:t94) (cH:t47) (x0:Int×Int) (x1:Int×Int):Option ((Int×Int)×Int×Unit) :=
 ah (ax x0) fun t =>
 let v5:=!t;
 let v6:=!v5;
 let v7:=!v6||v6;cond v7 (ah (cond v6 (ax x1) (some false)) fun t=>cond v7 (cond (v5||v6) (cond (cond v5 true (!t)) (some (((0 :
  Int),0),1,aQ)) (cond (decide (x1.1=0)) (some ((0,0),16,aQ)) (cond (decide (x1.1<0)) (ah
  (cH x0 (aq .i64 (0 - x1.2),aq .i64 (0 - x1.1))) fun (t:(Int×Int)×Int×PUnit)=>some (t.1,t.2.1,aQ)) (ah (cH x0 (x1.2,x1.1)) fun (t:(Int×Int)×Int×PUnit)=>some (t.1,t.2.1,aQ))))) none) none) none
abbrev QM:=(Int×Int)->(Int×Int)->Option ((Int×Int)×Int×Unit)
def iq:QM:=xH lpK jnK ax cH
def Vt (iq:QM):Ctr:=⟨[T38,T38],[],[],.tup [T38,i64],fun x _ _=>iq x.1 x.2.1⟩
def U7:Ctr:=Vt iq
theorem Yh (lp:Lp) (jn:Jn) (ax:t94) (cH:t47):∀x F y,xH lp jn ax cH x.1 x.2.1=rC lp jn [(47,k47 cH),(94,k94 ax)] 129 f129 U7 x F y:=fun x F y=>by kernel_rfl
theorem Uf:U7.ok prog 129:=od (aa (aa (aK) rfl JO) rfl WC) func129 (Yh lpK jnK ax cH)
def oc (_:Lp) (_:Jn) (x0:ByteArray×Int) (y0:ByteArray):Option Bool :=
 some (List.beq (oF x0.1) (oF y0))
abbrev SK:=(ByteArray×Int)->(ByteArray)->Option (Bool)
def eu:SK:=oc lpK jnK
def UE:Ctr:=⟨[T79],[],[.str],.one .bool,fun x _ y=>eu x.1 y.1⟩
theorem ZM (lp:Lp) (jn:Jn):∀x F y,oc lp jn x.1 y.1=rC lp jn [] 132 f132 UE x F y:=fun x F y=>by kernel_rfl
theorem UM:UE.ok prog 132:=od (aK) func132 (ZM lpK jnK)
def oq (_:Lp) (_:Jn) (x0:ty5):Option Bool :=
 some x0.2.2
abbrev RU:=ty5->Option (Bool)
def eA:RU:=oq lpK jnK
def U3:Ctr:=⟨[T63],[],[],.one .bool,fun x _ _=>eA x.1⟩
theorem YJ (lp:Lp) (jn:Jn):∀x F y,oq lp jn x.1=rC lp jn [] 133 f133 U3 x F y:=fun x F y=>by kernel_rfl
theorem Xb:U3.ok prog 133:=od (aK) func133 (YJ lpK jnK)
def jU (lp:Lp) (_:Jn) (x0:List (List Int)) (f0:(((List Int)×Unit)->Option Bool)):Option Int :=
 lp (Int×PUnit) Int (fun again x=>cond (decide (x.1<(↑(aC x0):Int))) (cond (inB x.1 (aC x0)) (ah (f0
  (a_ x0 (aS x.1) [],aQ)) fun t=>cond t (some x.1) (again (aq .i64 (x.1+1),aQ))) none) (some (-1 :
  Int))) (0,aQ)
abbrev Qa:=(List (List Int))->((((List Int)×Unit)->Option Bool))->Option (Int)
def bM:Qa:=jU lpK jnK
def VE (bM:Qa):Ctr:=⟨[(.sl (.sl i64))],[([(.sl i64)],.bool)],[],.one i64,fun x F _=>bM x.1 F.1⟩
def VW:Ctr:=VE bM
theorem ZT (lp:Lp) (jn:Jn):∀x F y,jU lp jn x.1 F.1=rC lp jn [] 225 f225 VW x F y:=fun x F y=>by kernel_rfl
theorem Vk:VW.ok prog 225:=od (aK) func225 (ZT lpK jnK)
def jb (_:Lp) (_:Jn) (bM:Qa) (x0:List (List Int)) (f0:(((List Int)×Unit)->Option Bool)):Option Bool :=
 ah (bM x0 f0) fun t=>some (decide (t>=0))
abbrev O1:=(List (List Int))->((((List Int)×Unit)->Option Bool))->Option (Bool)
def bu:O1:=jb lpK jnK bM
def Xk (bu:O1):Ctr:=⟨[(.sl (.sl i64))],[([(.sl i64)],.bool)],[],.one .bool,fun x F _=>bu x.1 F.1⟩
def VJ:Ctr:=Xk bu
theorem Y4 (lp:Lp) (jn:Jn) (bM:Qa):∀x F y,jb lp jn bM x.1 F.1=rC lp jn [(225,VE bM)] 177 f177 VJ x F y:=fun x F y=>by kernel_rfl
theorem Xi:VJ.ok prog 177:=od (aa (aK) rfl Vk) func177 (Y4 lpK jnK bM)
def jX (lp:Lp) (_:Jn) (x0:List Int) (f0:((Int×Unit)->Option Bool)):Option Int :=
 lp (Int×PUnit) Int (fun again x=>cond (decide (x.1<(↑(aC x0):Int))) (cond (inB x.1 (aC x0)) (ah (f0
  (a_ x0 (aS x.1) 0,aQ)) fun t=>cond t (some x.1) (again (aq .i64 (x.1+1),aQ))) none) (some
  (-1))) (0,aQ)
abbrev Qd:=(List Int)->(((Int×Unit)->Option Bool))->Option (Int)
def bN:Qd:=jX lpK jnK
def Xg (bN:Qd):Ctr:=⟨[(.sl i64)],[([i64],.bool)],[],.one i64,fun x F _=>bN x.1 F.1⟩
def UL:Ctr:=Xg bN
theorem YZ (lp:Lp) (jn:Jn):∀x F y,jX lp jn x.1 F.1=rC lp jn [] 226 f226 UL x F y:=fun x F y=>by kernel_rfl
theorem VF:UL.ok prog 226:=od (aK) func226 (YZ lpK jnK)
def jd (_:Lp) (_:Jn) (bN:Qd) (x0:List Int) (f0:((Int×Unit)->Option Bool)):Option Bool :=
 ah (bN x0 f0) fun t=>some (decide (t>=0))
abbrev OW:=(List Int)->(((Int×Unit)->Option Bool))->Option (Bool)
def bv:OW:=jd lpK jnK bN
def VQ (bv:OW):Ctr:=⟨[(.sl i64)],[([i64],.bool)],[],.one .bool,fun x F _=>bv x.1 F.1⟩
def TL:Ctr:=VQ bv
theorem Yi (lp:Lp) (jn:Jn) (bN:Qd):∀x F y,jd lp jn bN x.1 F.1=rC lp jn [(226,Xg bN)] 179 f179 TL x F y:=fun x F y=>by kernel_rfl
theorem XF:TL.ok prog 179:=od (aa (aK) rfl VF) func179 (Yi lpK jnK bN)
def oz (_:Lp) (_:Jn) (x0:Int) (y0:Int):Option Bool :=
 
 let v4:=decide (x0<aq .i64 (0 - y0));
 let v5:=!v4;
 let v6:=!v5||v5;cond (v6&&v6) (cond (v4||v5) (some (cond v4 true (decide (x0>y0)))) none) none
abbrev Sv:=(Int)->(Int)->Option (Bool)
def eC:Sv:=oz lpK jnK
def V0:Ctr:=⟨[i64],[],[i64],.one .bool,fun x _ y=>eC x.1 y.1⟩
theorem Za (lp:Lp) (jn:Jn):∀x F y,oz lp jn x.1 y.1=rC lp jn [] 180 f180 V0 x F y:=fun x F y=>by kernel_rfl
theorem Xn:V0.ok prog 180:=od (aK) func180 (Za lpK jnK)
def rH (_:Lp) (_:Jn) (bv:OW) (eC:Sv) (x0:List Int) (x1:Int):Option Bool :=
 ah (bv x0 fun x=>eC x.1 x1) fun t=>some !t
abbrev JF:=(List Int)->(Int)->Option (Bool)
def bO:JF:=rH lpK jnK bv eC
def Sc (bO:JF):Ctr:=⟨[(.sl i64),i64],[],[],.one .bool,fun x _ _=>bO x.1 x.2.1⟩
def Vp:Ctr:=Sc bO
theorem Z4 (lp:Lp) (jn:Jn) (bv:OW) (eC:Sv):∀x F y,rH lp jn bv eC x.1 x.2.1=rC lp jn [(180,⟨[i64],[],[i64],.one .bool,fun x _ y=>eC x.1 y.1⟩),(179,VQ bv)] 108 f108 Vp x F y:=fun x F y=>by kernel_rfl
theorem Rh:Vp.ok prog 108:=od (aa (aa (aK) rfl XF) rfl Xn) func108 (Z4 lpK jnK bv eC)
def py (_:Lp) (_:Jn) (bO:JF) (x0:List Int) (y0:Int):Option Bool :=
 
 let v4:=!decide ((↑(aC x0):Int)=y0);
 let v5:=!v4;
 let v6:=!v5||v5;cond v6 (ah (cond v5 (bO x0 32) (some false)) fun t=>cond v6 (cond (v4||v5) (some (cond v4 true (!t))) none) none) none
abbrev Tn:=(List Int)->(Int)->Option (Bool)
def fa:Tn:=py lpK jnK bO
def Vb:Ctr:=⟨[(.sl i64)],[],[i64],.one .bool,fun x _ y=>fa x.1 y.1⟩
theorem Zp (lp:Lp) (jn:Jn) (bO:JF):∀x F y,py lp jn bO x.1 y.1=rC lp jn [(108,Sc bO)] 178 f178 Vb x F y:=fun x F y=>by kernel_rfl
theorem VH:Vb.ok prog 178:=od (aa (aK) rfl Rh) func178 (Zp lpK jnK bO)
def sO (_:Lp) (_:Jn) (bu:O1) (fa:Tn) (x0:List (List Int)):Option Bool :=
 
 let v3:=decide ((↑(aC x0):Int)<1);
 let v4:=!v3;
 let v5:=decide ((↑(aC (a_ x0 0 [])):Int)>=1);
 let v6:=!v4||v4;
 let v7:=!v5||v5;
 let v8:=cond v5 (decide ((↑(aC (a_ x0 0 [])):Int)<=12)) false;
 let v9:=!v8||v8;cond v6 (cond v6 (cond (v3||v4) (cond (cond v3 true (decide ((↑(aC x0):Int)>6))) (some false) (cond (inB 0
  (aC x0)) (cond v7 (cond v7 (cond (v9&&v9) (ah (cond v8 (bu x0 fun x=>fa x.1 (↑(aC
  (a_ x0 0 [])):Int)) (some false)) fun t=>cond v9 (cond v9 (some (cond v8 (!t) false)) none) none) none) none) none) none)) none) none) none
abbrev Pq:=(List (List Int))->Option (Bool)
def eL:Pq:=sO lpK jnK bu fa
def Xx (eL:Pq):Ctr:=⟨[(.sl (.sl i64))],[],[],.one .bool,fun x _ _=>eL x.1⟩
def Uj:Ctr:=Xx eL
theorem YK (lp:Lp) (jn:Jn) (bu:O1) (fa:Tn):∀x F y,sO lp jn bu fa x.1=rC lp jn [(178,⟨[(.sl i64)],[],[i64],.one .bool,fun x _ y=>fa x.1 y.1⟩),(177,Xk bu)] 107 f107 Uj x F y:=fun x F y=>by kernel_rfl
theorem W4:Uj.ok prog 107:=od (aa (aa (aK) rfl Xi) rfl VH) func107 (YK lpK jnK bu fa)
def vZ (_:Lp) (jn:Jn) (x0:Int):Option Int :=
 jn (Int×Int×PUnit) Int (fun x=>jn (Int×Int×PUnit) Int (fun x =>
 let v5:=aq IntKind.u8 x.1;
 let v6:=aq IntKind.u8 (l_ x.1 (2 ^ 8));cond (decide (x.1>=256)) (cond (decide ((0:Int)<=8)) (cond (inB v6 256) (
  some (aq .i64 (aq .i64 (x.2.1+8)+aq .i64 (gg { data:=List.toArray (List.append (List.append [(0:UInt8),1,2,2,3,3,3,3,4,4,4,4,4,4,4,4,5,5,5,5,5,5,5,5,5,5,5,5,5,5,5,5,6,6,6,6,6,6,6,6,6,6,6,6,6,6,6,6,6,6,6,6,6,6,6,6,6,6,6,6,6,6,6,6] [(7:UInt8),7,7,7,7,7,7,7,7,7,7,7,7,7,7,7,7,7,7,7,7,7,7,7,7,7,7,7,7,7,7,7,7,7,7,7,7,7,7,7,7,7,7,7,7,7,7,7,7,7,7,7,7,7,7,7,7,7,7,7,7,7,7,7]) (List.append [(8:UInt8),8,8,8,8,8,8,8,8,8,8,8,8,8,8,8,8,8,8,8,8,8,8,8,8,8,8,8,8,8,8,8,8,8,8,8,8,8,8,8,8,8,8,8,8,8,8,8,8,8,8,8,8,8,8,8,8,8,8,8,8,8,8,8] [(8:UInt8),8,8,8,8,8,8,8,8,8,8,8,8,8,8,8,8,8,8,8,8,8,8,8,8,8,8,8,8,8,8,8,8,8,8,8,8,8,8,8,8,8,8,8,8,8,8,8,8,8,8,8,8,8,8,8,8,8,8,8,8,8,8,8])) } (aS v6))))) none) none) (cond (inB v5 256) (some (aq .i64 (x.2.1+aq
  IntKind.i64 (gg { data:=List.toArray (List.append (List.append [(0:UInt8),1,2,2,3,3,3,3,4,4,4,4,4,4,4,4,5,5,5,5,5,5,5,5,5,5,5,5,5,5,5,5,6,6,6,6,6,6,6,6,6,6,6,6,6,6,6,6,6,6,6,6,6,6,6,6,6,6,6,6,6,6,6,6] [(7 :
  UInt8),7,7,7,7,7,7,7,7,7,7,7,7,7,7,7,7,7,7,7,7,7,7,7,7,7,7,7,7,7,7,7,7,7,7,7,7,7,7,7,7,7,7,7,7,7,7,7,7,7,7,7,7,7,7,7,7,7,7,7,7,7,7,7]) (List.append [(8:UInt8),8,8,8,8,8,8,8,8,8,8,8,8,8,8,8,8,8,8,8,8,8,8,8,8,8,8,8,8,8,8,8,8,8,8,8,8,8,8,8,8,8,8,8,8,8,8,8,8,8,8,8,8,8,8,8,8,8,8,8,8,8,8,8] [(8:UInt8),8,8,8,8,8,8,8,8,8,8,8,8,8,8,8,8,8,8,8,8,8,8,8,8,8,8,8,8,8,8,8,8,8,8,8,8,8,8,8,8,8,8,8,8,8,8,8,8,8,8,8,8,8,8,8,8,8,8,8,8,8,8,8])) } (aS v5))))) none)) fun j=>cond (decide (x.1>=65536)) (cond (decide ((0:Int)<=16)) (j (l_ x.1 (2 ^ 16),aq .i64
  (x.2.1+16),aQ)) none) (j (x.1,x.2.1,aQ))) fun j=>cond (decide (x0>=4294967296)) (cond (decide
  (0<=32)) (j (l_ x0 (2 ^ 32),32,aQ)) none) (j (x0,0,aQ))
abbrev R7:=(Int)->Option (Int)
def gz:R7:=vZ lpK jnK
def Xp:Ctr:=⟨[(.int .u64)],[],[],.one i64,fun x _ _=>gz x.1⟩
theorem XS (lp:Lp) (jn:Jn):∀x F y,vZ lp jn x.1=rC lp jn [] 267 f267 Xp x F y:=fun x F y=>by kernel_rfl
theorem Xu:Xp.ok prog 267:=od (aK) func267 (XS lpK jnK)
def iz (_:Lp) (_:Jn) (gz:R7) (x0:Int):Option Int :=
 ah (gz x0) fun t=>some (aq .i64 (64 - t))
abbrev SG:=(Int)->Option (Int)
def cf:SG:=iz lpK jnK gz
def Uh:Ctr:=⟨[(.int .u64)],[],[],.one i64,fun x _ _=>cf x.1⟩
theorem X4 (lp:Lp) (jn:Jn) (gz:R7):∀x F y,iz lp jn gz x.1=rC lp jn [(267,⟨[(.int .u64)],[],[],.one i64,fun x _ _=>gz x.1⟩)] 256 f256 Uh x F y:=fun x F y=>by kernel_rfl
theorem Ww:Uh.ok prog 256:=od (aa (aK) rfl Xu) func256 (X4 lpK jnK gz)
def qq (lp:Lp) (jn:Jn) (cf:SG) (x0:Int) (x1:Int) (x2:Int):Option (Int×Int×Unit) :=
 
 let v5:Bool:=nzB x2;
 let v6:Int:=2 ^ 32;
 let v7:=decide ((0:Int)<=32);jn PUnit (Int×Int×PUnit) (fun (_:PUnit)=>jn PUnit (Int×Int×PUnit) (fun (_:PUnit)=>cond (decide (x0=0)) (cond v5 (cond v5 (some (aq .u64 (Int.tdiv x1 x2),Int.tmod x1 x2,aQ)) none) none) (ah (cf x2) fun t =>
 let v11:=aq .u64 t;
 let v12:=decide (0<=v11);
 let v13:Int:=2 ^ min (aS v11) 64;
 let v14:=aq .u64 (x2*v13);
 let v15:=aq .u64 (x1*v13);
 let v16:Int:=l_ v14 v6;
 let v17:Int:=l_ v15 v6;
 let v18:Bool:=nzB v16;
 let v19:=aq .u64 (↑(Nat.land (aS (v15 % bY 18446744073709551616)) (aS (4294967295 % bY 18446744073709551616)))
  : Int);
 let v20:=aq .u64 (↑(Nat.land (aS (v14 % bY 18446744073709551616)) (aS (4294967295 % bY 18446744073709551616)))
  : Int);
 let v21:=aq .u64 (↑(Nat.lor (aS (aq .u64 (x0*v13) % bY 18446744073709551616)) (aS (l_ x1 (2 ^ min
  (aS (aq .u64 (64 - v11))) 64) % bY 18446744073709551616))):Int);
 let v22:=aq .u64 (Int.tdiv v21 v16);cond v12 (cond v7 (cond v12 (cond (decide (0<=aq .u64 (64 - v11))) (cond v12 (
  cond v7 (cond v18 (jn (Int×PUnit) (Int×Int×PUnit) (fun x =>
 let v24:=aq .u64 (aq .u64 (aq .u64 (v21*4294967296)+v17) - aq .u64 (x.1*v14));
 let v25:=aq .u64 (Int.tdiv v24 v16);cond v18 (jn (Int×PUnit) (Int×Int×PUnit) (fun x_1=>cond v12 (some (aq .u64
  (aq .u64 (x.1*4294967296)+x_1.1),l_ (aq .u64 (aq .u64 (aq .u64 (v24*4294967296) +
  v19) - aq .u64 (x_1.1*v14))) v13,aQ)) none) fun j=>lp (Int×Int×PUnit) (Int×Int×PUnit) (fun
  again x =>
 let v29:Int×PUnit:=(aq .u64 (x.2.1 - 1),aQ);
 let v30:=decide (x.2.1>=4294967296);
 let v31:=!v30;
 let v32:=!v31||v31;
 let v33:Bool:=v32&&v32;cond v33 (cond v32 (cond v33 (cond v33 (cond (v30||v31) (cond (cond v30 true (decide (aq .u64 (x.2.1*v20) >
  aq .u64 (aq .u64 (4294967296*x.1)+v19)))) (cond (decide (aq .u64 (x.1+v16)>=4294967296)) (j v29) (
  again (aq .u64 (x.1+v16),v29))) (j (x.2.1,aQ))) none) none) none) none) none) (aq .u64 (v24 - aq
  IntKind.u64 (v25*v16)),v25,aQ)) none) fun j=>lp (Int×Int×PUnit) (Int×Int×PUnit) (fun again x =>
 let v26:=aq .u64 (x.1 - 1);
 let v27:=decide (x.1>=4294967296);
 let v28:=!v27;
 let v29:=!v28||v28;
 let v30:Bool:=v29&&v29;cond v30 (cond v29 (cond v30 (cond v30 (cond (v27||v28) (cond (cond v27 true (decide (aq .u64 (x.1*v20) >
  aq .u64 (aq .u64 (4294967296*x.2.1)+v17)))) (cond (decide (aq .u64 (x.2.1+v16)>=4294967296)) (j
  (v26,aQ)) (again (v26,aq .u64 (x.2.1+v16),aQ))) (j (x.1,aQ))) none) none) none) none) none) (v22,
  aq .u64 (v21 - aq .u64 (v22*v16)),aQ)) none) none) none) none) none) none) none)) fun j=>cond (decide (x2<=x0)) none (j aQ)) fun j=>cond (decide (x2=0)) none (j aQ)
abbrev Iy:=(Int)->(Int)->(Int)->Option (Int×Int×Unit)
def cz:Iy:=qq lpK jnK cf
def Td (cz:Iy):Ctr:=⟨[(.int .u64),(.int .u64),(.int .u64)],[],[],.tup [(.int .u64),(.int .u64)],fun x _ _=>cz x.1 x.2.1 x.2.2.1⟩
def XL:Ctr:=Td cz
theorem aaj (lp:Lp) (jn:Jn) (cf:SG):∀x F y,qq lp jn cf x.1 x.2.1 x.2.2.1=rC lp jn [(256,⟨[(.int .u64)],[],[],.one i64,fun x _ _=>cf x.1⟩)] 220 f220 XL x F y:=fun x F y=>by kernel_rfl
theorem Rm:XL.ok prog 220:=od (aa (aK) rfl Ww) func220 (aaj lpK jnK cf)
def ru (_:Lp) (_:Jn) (x0:Int):Option Int :=
 some (aq .u64 (if aq .i64 (0 - x0)>x0 then aq .i64 (0 - x0) else x0))
abbrev RR:=(Int)->Option (Int)
def cW:RR:=ru lpK jnK
def Xy:Ctr:=⟨[i64],[],[],.one (.int .u64),fun x _ _=>cW x.1⟩
theorem Yc (lp:Lp) (jn:Jn):∀x F y,ru lp jn x.1=rC lp jn [] 227 f227 Xy x F y:=fun x F y=>by kernel_rfl
theorem WB:Xy.ok prog 227:=od (aK) func227 (Yc lpK jnK)
def ut (_:Lp) (jn:Jn) (bz:DZ) (cz:Iy) (cW:RR) (x0:Int) (x1:Int) (x2:Int) (x3:Int) (x4:Int):Option Int :=
 
 let v7:=decide (x4<0);
 let v8:=decide ((0:Int)<=0)&&decide ((0:Int)<=1);
 let v9:=!decide (decide (x0<0)=decide (x1<0));
 let v10:Bool×PUnit:=(v9,aQ);ah (cW x0) fun t=>ah (cW x1) fun t_1=>ah (bz t t_1) fun (t:Int×Int×PUnit) =>
  ah (cW x2) fun t_2=>ah (cW x3) fun t_3=>ah (bz t_2 t_3) fun (t_4:Int×Int×PUnit) =>
 let v17:=decide (t.1=t_4.1);
 let v18:=decide (t.1<t_4.1);
 let v19:=!v18;
 let v20:=!v19;
 let v21:Bool:=v19&&v17;
 let v22:Bool:=v20||v19;
 let v23:=!v21||v21;jn (Int×Int×Bool×PUnit) Int (fun x=>ah (cW x4) fun t=>ah (cz x.1 x.2.1 t) fun
  (t:Int×Int×PUnit) =>
 let v27:=aq .i64 t.1;cond (!decide (x.2.2.1=v7)) (some (aq .i64 (0 - v27))) (some v27)) fun j=>cond (decide (v9=!decide (decide (x2<0)=decide (x3<0)))) (cond (v22&&v22) (cond v22 (cond (v23&&v23) (cond ((v20||v22)&&(v20||(!v17
  || (v20||v21)))) (cond (v18||v19) (jn (Int×Int×Int×Int×Bool×PUnit) Int (fun x=>cond v8 (cond (decide (0<=xO
  x.2.1 x.2.2.2.1 0)&&decide (xO x.2.1 x.2.2.2.1 0<=1)) (j (B7 x.1 x.2.2.1 (xO x.2.1 x.2.2.2.1 0),
  B7 x.2.1 x.2.2.2.1 0,x.2.2.2.2.1,aQ)) none) none) fun j=>cond (cond v18 true (cond v17 (decide (t.2.1<t_4.2.1)) false)) (j (t_4.1,t_4.2.1,t.1,t.2.1,!v9,aQ)) (j (t.1,t.2.1,t_4.1,t_4.2.1,v10))) none) none) none) none) none) (cond v8 (cond (decide (0<=Ak t.2.1 t_4.2.1 0)&&decide (Ak t.2.1 t_4.2.1 0<=1)) (j (EP t.1 t_4.1 (Ak t.2.1 t_4.2.1 0),EP t.2.1 t_4.2.1 0,v10)) none) none)
abbrev QJ:=(Int)->(Int)->(Int)->(Int)->(Int)->Option (Int)
def fG:QJ:=ut lpK jnK bz cz cW
def Xf (fG:QJ):Ctr:=⟨[i64,i64,i64,i64,i64],[],[],.one i64,fun x _ _=>fG x.1 x.2.1 x.2.2.1 x.2.2.2.1 x.2.2.2.2.1⟩
def Wo:Ctr:=Xf fG
theorem aag (lp:Lp) (jn:Jn) (bz:DZ) (cz:Iy) (cW:RR):∀x F y,ut lp jn bz cz cW x.1 x.2.1 x.2.2.1 x.2.2.2.1 x.2.2.2.2.1=rC lp jn [(227,⟨[i64],[],[],.one (.int .u64),fun x _ _=>cW x.1⟩),(220,Td cz),(164,Pn bz)] 181 f181 Wo x F y:=fun x F y=>by kernel_rfl
theorem Ve:Wo.ok prog 181:=od (aa (aa (aa (aK) rfl MP) rfl Rm) rfl WB) func181 (aag lpK jnK bz cz cW)
def nU (lp:Lp) (_:Jn) (fG:QJ) (ay:Ay) (x0:List (List Int)) (x1:Int):Option ((List (List Int))×Int×(List Int)×(List Int)×Bool) :=
 lp (Int×(List Nat×List (Option (List Int)))×Int×List Int×List Int×Bool×PUnit) (List (List Int)×Int×List Int×List Int×Bool) (fun again x =>
 let v6:Bool×PUnit:=(x.2.2.2.2.2.1,aQ);cond (decide (x.1<(↑(aC x0):Int))) (cond (inB x.1 (aC x0)) (ah (ay
  (a_ x0 (aS x.1) [])) fun t=>cond (fz (aC x.2.1.1+1) 24) (cond (fz (aC x.2.2.2.2.1+1) (8 :
  Nat)) (again (aq .i64 (x.1+1),(x.2.1.1++[aC x.2.1.2+0],x.2.1.2++[some t]),x.2.2.1,x.2.2.2.1,
  x.2.2.2.2.1++[x.1],v6)) none) none) none) (lp (Int×(List Nat×List (Option (List Int)))×Int×List Int×List Int×Bool×PUnit) (List (List Int) ×
  Int×List Int×List Int×Bool) (fun again x =>
 let v9:=aq .i64 (x.1+1);
 let v10:(List Nat×List (Option (List Int)))×Int×List Int×List Int×Bool×PUnit:=(x.2.1,x.2.2.1,x.2.2.2.1,x.2.2.2.2.1,
  x.2.2.2.2.2.1,aQ);cond (decide (x.1<x1)) (lp (Int×Int×PUnit) (List (List Int)×Int×List Int×List Int×Bool) (fun again_1 x_1 =>
 let v13:=decide (x_1.1<0);
 let v14:Int×PUnit:=(aq .i64 (x_1.2.1+1),aQ);
 let v15:=decide (x_1.2.1<(↑(aC x.2.1.1):Int));
 let v16:=!v15||v15;cond v16 (cond v16 (cond (cond v15 v13 false) (cond (inB x_1.2.1 (aC x.2.1.1)) (cond (eS (iD (aS
  x_1.2.1)) (aC x.2.1.1)) (cond (inB x.1 (aC (cN x.2.1.2 (a_ x.2.1.1 (aS x_1.2.1) 0)))) (cond (eS (iD
  (aS x.1)) (aC (cN x.2.1.2 (a_ x.2.1.1 (aS x_1.2.1) 0)))) (cond (!decide (a_ (cN x.2.1.2 (a_
  x.2.1.1 (aS x_1.2.1) 0)) (aS x.1) 0=0)) (again_1 (x_1.2.1,v14)) (again_1 (x_1.1,v14))) none) none) none) none) (cond v13 (again (v9,v10)) (lp (Int×(List Nat×List (Option (List Int)))×Int×List Int×List Int×Bool×PUnit) (List (List Int)×Int×List Int×List Int ×
  Bool) (fun again_2 x_2 =>
 let v19:=aq .i64 (x_2.1 - 1);
 let v20:=inB x_2.1 (aC x_2.2.1.1);
 let v21:=eS (iD (aS x_2.1)) (aC x_2.2.1.1);
 let v22:=inB x_2.1 (aC x_2.2.2.2.2.1);
 let v23:=eS (iD (aS x_2.1)) (aC x_2.2.2.2.2.1);
 let v24:=inB v19 (aC x_2.2.2.2.2.1);
 let v25:=eS (iD (aS v19)) (aC x_2.2.2.2.2.1);
 let v26:List Nat:=List.set x_2.2.1.1 (aS x_2.1) (a_ x_2.2.1.1 (aS v19) 0);cond (decide (x_2.1>(↑(aC x.2.2.2.1):Int))) (cond (inB v19 (aC x_2.2.1.1)) (cond (eS (iD (aS v19)) (aC x_2.2.1.1)) (cond v20 (cond v21 (cond v20 (cond v21 (cond (inB
  v19 (aC v26)) (cond (eS (iD (aS v19)) (aC v26)) (cond v24 (cond v25 (cond v22 (cond v23 (cond v22 (cond v23 (cond v24 (cond v25 (again_2 (v19,(List.set v26 (aS v19) (a_ x_2.2.1.1 (aS x_2.1) 0),x_2.2.1.2++[]++[]),x_2.2.2.1,x_2.2.2.2.1,
  List.set (List.set x_2.2.2.2.2.1 (aS x_2.1) (a_ x_2.2.2.2.2.1 (aS v19) 0)) (aS v19) (a_ x_2.2.2.2.2.1
  (aS x_2.1) 0),!x_2.2.2.2.2.2.1,aQ)) none) none) none) none) none) none) none) none) none) none) none) none) none) none) none) none) (cond (inB (↑(aC x.2.2.2.1):Int) (aC x_2.2.1.1)) (cond (eS (iD (aS
  (↑(aC x.2.2.2.1):Int))) (aC x_2.2.1.1)) (cond (inB x.1 (aC (cN x_2.2.1.2 (a_ x_2.2.1.1 (aS (↑(aC
  x.2.2.2.1):Int)) 0)))) (cond (eS (iD (aS x.1)) (aC (cN x_2.2.1.2 (a_ x_2.2.1.1 (aS (↑(aC
  x.2.2.2.1):Int)) 0)))) (lp (Int×(List Nat×List (Option (List Int)))×PUnit) (List (List Int)×Int×List Int×List Int×Bool) (fun again_3 x_3 =>
 let v29:=aq .i64 (x_3.1+1);
 let v30:(List Nat×List (Option (List Int)))×PUnit:=(x_3.2.1,aQ);cond (decide (x_3.1<(↑(aC x_2.2.1.1):Int))) (cond (inB x_3.1 (aC
  x_3.2.1.1)) (cond (eS (iD (aS x_3.1)) (aC x_3.2.1.1)) (cond (decide (x_3.1=(↑(aC x.2.2.2.1):Int))) (again_3 (v29,
  v30)) (cond (inB x.1 (aC (cN x_3.2.1.2 (a_ x_3.2.1.1 (aS x_3.1) 0)))) (cond (eS (iD (aS x.1)) (aC (cN
  x_3.2.1.2 (a_ x_3.2.1.1 (aS x_3.1) 0)))) (cond (tn x_3.2.1.2 (a_ x_3.2.1.1 (aS x_3.1) 0)) (lp (Int×(List
  Nat×List (Option (List Int)))×PUnit) (List (List Int)×Int×List Int×List Int×Bool) (fun again x_4=>cond (decide (x_4.1<(↑(aC (cN x_3.2.1.2 (a_ x_3.2.1.1
  (aS x_3.1) 0))):Int))) (cond (inB x_4.1 (aC (cN x_4.2.1.2 (a_ x_3.2.1.1 (aS x_3.1) 0)))) (cond (eS (iD
  (aS x_4.1)) (aC (cN x_4.2.1.2 (a_ x_3.2.1.1 (aS x_3.1) 0)))) (cond (inB (↑(aC x.2.2.2.1):Int) (aC
  x_4.2.1.1)) (cond (eS (iD (aS (↑(aC x.2.2.2.1):Int))) (aC x_4.2.1.1)) (cond (inB x_4.1 (aC (cN x_4.2.1.2
  (a_ x_4.2.1.1 (aS (↑(aC x.2.2.2.1):Int)) 0)))) (cond (eS (iD (aS x_4.1)) (aC (cN x_4.2.1.2
  (a_ x_4.2.1.1 (aS (↑(aC x.2.2.2.1):Int)) 0)))) (ah (fG (a_ (cN x_4.2.1.2 (a_ x_3.2.1.1
  (aS x_3.1) 0)) (aS x_4.1) 0) (a_ (cN x_2.2.1.2 (a_ x_2.2.1.1 (aS (↑(aC x.2.2.2.1):Int)) (0 :
  Nat))) (aS x.1) 0) (a_ (cN x_3.2.1.2 (a_ x_3.2.1.1 (aS x_3.1) 0)) (aS x.1) 0) (a_ (cN
  x_4.2.1.2 (a_ x_4.2.1.1 (aS (↑(aC x.2.2.2.1):Int)) 0)) (aS x_4.1) 0) x_2.2.2.1) fun t=>cond (inB
  x_4.1 (aC (cN x_4.2.1.2 (a_ x_3.2.1.1 (aS x_3.1) 0)))) (cond (eS (iD (aS x_4.1)) (aC (cN x_4.2.1.2
  (a_ x_3.2.1.1 (aS x_3.1) 0)))) (again (aq .i64 (x_4.1+1),(x_4.2.1.1,List.set x_4.2.1.2 (a_
  x_3.2.1.1 (aS x_3.1) 0) (some (List.set (cN x_4.2.1.2 (a_ x_3.2.1.1 (aS x_3.1) 0)) (aS x_4.1) t))),aQ)) none) none) none) none) none) none) none) none) (again_3 (v29,x_4.2.1,aQ))) (0,v30)) none) none) none)) none) none) (cond (fz (aC x_2.2.2.2.1+1) 8) (again (v9,x_3.2.1,a_ (cN x_2.2.1.2 (a_ x_2.2.1.1 (aS
  (↑(aC x.2.2.2.1):Int)) 0)) (aS x.1) 0,x_2.2.2.2.1++[x.1],x_2.2.2.2.2.1,x_2.2.2.2.2.2.1,aQ)) none)) (0,x_2.2.1,aQ)) none) none) none) none)) (x_1.1,v10)))) none) none) ((-1),(↑(aC x.2.2.2.1):Int),
  aQ)) (cond (List.all x.2.1.1 fun x_1=>tn x.2.1.2 x_1) (some (List.map (fun x_1=>cN x.2.1.2 x_1) x.2.1.1,x.2.2.1,
  x.2.2.2.1,x.2.2.2.2.1,x.2.2.2.2.2.1)) none)) (0,x.2.1,x.2.2.1,x.2.2.2.1,x.2.2.2.2.1,v6))) (0,([],
  []),1,[],[],false,aQ)
abbrev Pe:=(List (List Int))->(Int)->Option ((List (List Int))×Int×(List Int)×(List Int)×Bool)
def cG:Pe:=nU lpK jnK fG ay
def W5 (cG:Pe):Ctr:=⟨[(.sl (.sl i64)),i64],[],[],.one Yg,fun x _ _=>cG x.1 x.2.1⟩
def ML:Ctr:=W5 cG
theorem Zi (lp:Lp) (jn:Jn) (fG:QJ) (ay:Ay):∀(x:TsS ML.as) (F:TsF ML.fs) (y:TsS ML.cs),nU lp jn fG ay x.1 x.2.1=Az lp jn (cx [(181,Xf fG)] [(140,wM),(128,uE),(113,sQ),(137,rM),(241,nf),(240,lR),(109,LH ay)]) gR 4 110 f110 ML x F y:=fun x F y=>by kernel_rfl
theorem UK:ML.ok prog 110:=od (aa (aK) rfl Ve) func110 (Zi lpK jnK fG ay)
def qx (_:Lp) (_:Jn) (bj:t96) (aH:t97) (aY:t99) (x0:Int) (x1:Int):Option ((Int×Int)×Int×Unit) :=
 
 let v4:=!decide (x0=0);
 let v5:=!v4||v4;cond (decide (x1=0)) (some ((0,0),16,aQ)) (ah (aH x0) fun t=>ah (aH x1) fun
  t_1=>ah (bj t t_1) fun t_2 =>
 let v9:Bool:=nzB t_2;cond v5 (cond v5 (cond (v5&&v5) (cond v5 (cond v9 (cond v9 (ah (aY (cond v4 (!decide (decide (x0<0)=decide (x1<(0
  : Int)))) false) (aq .u64 (Int.tdiv t t_2)) (aq .u64 (Int.tdiv t_1 t_2))) fun (t:(Int×Int)×Int×PUnit)=>some (t.1,t.2.1,
  aQ)) none) none) none) none) none) none)
abbrev IY:=(Int)->(Int)->Option ((Int×Int)×Int×Unit)
def cC:IY:=qx lpK jnK bj aH aY
def R8 (cC:IY):Ctr:=⟨[i64,i64],[],[],.tup [T38,i64],fun x _ _=>cC x.1 x.2.1⟩
def Ug:Ctr:=R8 cC
theorem Yf (lp:Lp) (jn:Jn) (bj:t96) (aH:t97) (aY:t99):∀x F y,qx lp jn bj aH aY x.1 x.2.1=rC lp jn [(99,k99 aY),(97,k97 aH),(96,k96 bj)] 111 f111 Ug x F y:=fun x F y=>by kernel_rfl
theorem Rc:Ug.ok prog 111:=od (aa (aa (aa (aK) rfl O3) rfl Lh) rfl Tl) func111 (Yf lpK jnK bj aH aY)
def ta (lp:Lp) (_:Jn) (bO:JF) (eL:Pq) (cG:Pe) (cC:IY) (ay:Ay) (x0:List (List Int)) (x1:List Int):Option ((List (Int×Int))×Int×Unit) :=
 ah (eL x0) fun t=>cond (!t) (some ([],1,aQ)) (cond (!decide ((↑(aC x1):Int)=(↑(aC x0):Int))) (some ([],3,
  aQ)) (ah (bO x1 67108864) fun t=>cond (!t) (some ([],2,aQ)) (cond (inB 0 (aC x0)) (lp ((List Nat ×
  List (Option (List Int)))×Int×PUnit) (List (Int×Int)×Int×PUnit) (fun again x=>cond (decide (x.2.1<(↑(aC x0):Int))) (cond (inB x.2.1 (aC x0)) (ah (ay
  (a_ x0 (aS x.2.1) [])) fun t=>cond (inB x.2.1 (aC x1)) (cond (fz (aC t+1) 8) (cond (fz (aC
  x.1.1+1) 24) (again ((x.1.1++[aC x.1.2+0],x.1.2++[some (t++[a_ x1 (aS x.2.1) 0])]),aq
  IntKind.i64 (x.2.1+1),aQ)) none) none) none) none) (ah (cond (List.all x.1.1 fun x_1=>tn x.1.2 x_1) (cG
  (List.map (fun x_1=>cN x.1.2 x_1) x.1.1) (↑(aC (a_ x0 0 [])):Int)) none) fun t =>
 let v9:List (List Int):=List.drop (aS (↑(aC t.2.2.1):Int)) (List.take (aS (↑(aC t.1):Int)) t.1);cond (slB (↑(aC t.2.2.1) :
  Int) (↑(aC t.1):Int) (aC t.1)) (lp (Int×PUnit) (List (Int×Int)×Int×PUnit) (fun again x=>cond (decide (x.1<(↑(aC v9):Int))) (cond (inB x.1 (aC v9)) (cond (inB (↑(aC (a_ x0 0 [])):Int) (aC
  (a_ v9 (aS x.1) []))) (cond (!decide (a_ (a_ v9 (aS x.1) []) (aS (↑(aC (a_ x0 0 [])):Int)) 0=(0 :
  Int))) (some ([],22,aQ)) (again (aq .i64 (x.1+1),aQ))) none) none) (cond (decide ((↑(aC t.2.2.1) :
  Int)<(↑(aC (a_ x0 0 [])):Int))) (some ([],21,aQ)) (lp (List (Int×Int)×Int×PUnit) (List (Int×Int)×Int×PUnit) (fun again x =>
 let v14:=a_ t.1 (aS x.2.1) [];cond (decide (x.2.1<(↑(aC (a_ x0 0 [])):Int))) (cond (inB x.2.1 (aC t.1)) (
  cond (inB (↑(aC (a_ x0 0 [])):Int) (aC v14)) (ah (cC (a_ v14 (aS (↑(aC (a_ x0 0 [])):Int)) (0 :
  Int)) t.2.1) fun (t:(Int×Int)×Int×PUnit)=>cond (!decide (t.2.1=0)) (some ([],t.2.1,aQ)) (cond (fz (aC x.1+1) (16 :
  Nat)) (again (x.1++[t.1],aq .i64 (x.2.1+1),aQ)) none)) none) none) (some (x.1,0,aQ))) ([],0,
  aQ)))) (0,aQ)) none)) (([],[]),0,aQ)) none)))
abbrev t59:=(List (List Int))->(List Int)->Option ((List (Int×Int))×Int×Unit)
def cd:t59:=ta lpK jnK bO eL cG cC ay
def k59 (cd:t59):Ctr:=⟨[(.sl (.sl i64)),(.sl i64)],[],[],.tup [(.sl T38),i64],fun x _ _=>cd x.1 x.2.1⟩
def c59:Ctr:=k59 cd
theorem e59 (lp:Lp) (jn:Jn) (bO:JF) (eL:Pq) (cG:Pe) (cC:IY) (ay:Ay):∀(x:TsS c59.as) (F:TsF c59.fs) (y:TsS c59.cs),ta lp jn bO eL cG cC ay x.1 x.2.1=Az lp jn (cx [(111,R8 cC),(110,W5 cG),(107,Xx eL),(108,Sc bO)] [(140,wM),(128,uE),(113,sQ),(137,rM),(241,nf),(240,lR),(109,LH ay)]) gR 4 59 f59 c59 x F y:=fun x F y=>by kernel_rfl
theorem Wz:c59.ok prog 59:=od (aa (aa (aa (aa (aK) rfl Rh) rfl W4) rfl UK) rfl Rc) func59 (e59 lpK jnK bO eL cG cC ay)
def pT (lp:Lp) (_:Jn) (bZ:Iv) (bb:EY) (x0:ty0):Option ((List (List Int))×Int×Unit) :=
 ah (bb x0) fun t=>cond (!t) (some ([],1,aQ)) (cond (decide (0<=(↑(aC x0.1):Int))&&fz (aS (↑(aC x0.1)
  : Int)) 24) (lp (Int×(List Nat×List (Option (List Int)))×PUnit) (List (List Int)×Int×PUnit) (fun again x=>cond (decide (x.1<(↑(aC (Nat.brecOn (motive:=fun x=>Nat->List Nat) (aS (↑(aC x0.1):Int)) (fun x (f:Nat.below (motive:=fun x=>Nat->List (T ref)) x) x_1=>(match (motive:=(x:Nat)->Nat->Nat.below (motive:=fun x=>Nat->List (T ref)) x->List Nat) x,x_1 with | 0,x=>fun (_:PUnit)=>[] | iD n,k=>fun x=>(k+0) ::x.1 (k+1)) f) 0)):Int))) (cond (decide (0 <=
  (↑(aC x0.2):Int))&&fz (aS (↑(aC x0.2):Int)) 8) (cond (inB x.1 (aC x.2.1.1)) (cond (eS (iD (aS x.1))
  (aC x.2.1.1)) (again (aq .i64 (x.1+1),(List.set x.2.1.1 (aS x.1) (aC x.2.1.2),x.2.1.2++[some
  (eX (aS (↑(aC x0.2):Int)) 0)]),aQ)) none) none) none) (lp (Int×(List Nat×List (Option (List Int)))×PUnit) (List
  (List Int)×Int×PUnit) (fun again x=>cond (decide (x.1<(↑(aC x0.2):Int))) (cond (inB x.1 (aC x0.2)) (lp (Int×(List Nat×List (Option (List Int)))×PUnit) (List (List Int)×Int
  × PUnit) (fun again_1 x_1 =>
 let v10:=aq .i64 (x_1.1+1);
 let v11:(List Nat×List (Option (List Int)))×PUnit:=(x_1.2.1,aQ);
 let v12:=a_ (a_ x0.2 (aS x.1) ({ data:={ toList:=[] } },[],false)).2.1 (aS x_1.1) ({ data:={ toList:=[] }
  },0,0,0);cond (decide (x_1.1<(↑(aC (a_ x0.2 (aS x.1) ({ data:={ toList:=[] } },[],false)).2.1):Int))) (cond (inB
  x_1.1 (aC (a_ x0.2 (aS x.1) ({ data:={ toList:=[] } },[],false)).2.1)) (ah (bZ x0 v12.1) fun t=>cond (decide (t>=(0 :
  Int))) (cond (inB t (aC x_1.2.1.1)) (cond (eS (iD (aS t)) (aC x_1.2.1.1)) (cond (inB x.1 (aC (cN x_1.2.1.2
  (a_ x_1.2.1.1 (aS t) 0)))) (cond (eS (iD (aS x.1)) (aC (cN x_1.2.1.2 (a_ x_1.2.1.1 (aS t) (0 :
  Nat))))) (cond (inB x.1 (aC (cN x_1.2.1.2 (a_ x_1.2.1.1 (aS t) 0)))) (cond (eS (iD (aS x.1)) (aC (cN
  x_1.2.1.2 (a_ x_1.2.1.1 (aS t) 0)))) (again_1 (v10,(x_1.2.1.1,List.set x_1.2.1.2 (a_ x_1.2.1.1 (aS t) 0)
  (some (List.set (cN x_1.2.1.2 (a_ x_1.2.1.1 (aS t) 0)) (aS x.1) (aq .i64 (a_ (cN x_1.2.1.2 (a_
  x_1.2.1.1 (aS t) 0)) (aS x.1) 0+v12.2.1))))),aQ)) none) none) none) none) none) none) (again_1 (v10,v11))) none) (again (aq .i64 (x.1+1),v11))) (0,x.2.1,aQ)) none) (cond (List.all x.2.1.1 fun x_1=>tn
  x.2.1.2 x_1) (some (List.map (fun x_1=>cN x.2.1.2 x_1) x.2.1.1,0,aQ)) none)) (0,x.2.1,aQ))) (0,
  (Nat.brecOn (motive:=fun x=>Nat->List Nat) (aS (↑(aC x0.1):Int)) (fun x (f:Nat.below (motive:=fun x=>Nat->List (T ref)) x) x_1=>(match (motive:=(x:Nat)->Nat->Nat.below (motive:=fun x=>Nat->List (T ref)) x->List Nat) x,x_1 with | 0,x=>fun (_:PUnit)=>[] | iD n,k=>fun x=>(k+0) ::x.1 (k+1)) f) 0,eX (aS (↑(aC x0.1):Int)) (some [])),aQ)) none)
abbrev t57:=ty0->Option ((List (List Int))×Int×Unit)
def bF:t57:=pT lpK jnK bZ bb
def k57 (bF:t57):Ctr:=⟨[T50],[],[],.tup [(.sl (.sl i64)),i64],fun x _ _=>bF x.1⟩
def c57:Ctr:=k57 bF
theorem e57 (lp:Lp) (jn:Jn) (bZ:Iv) (bb:EY):∀x F y,pT lp jn bZ bb x.1=rC lp jn [(105,QL bb),(106,RX bZ)] 57 f57 c57 x F y:=fun x F y=>by kernel_rfl
theorem T0:c57.ok prog 57:=od (aa (aa (aK) rfl Ri) rfl Kz) func57 (e57 lpK jnK bZ bb)
def uq (lp:Lp) (_:Jn) (bF:t57) (x0:ty0):Option ((List (List Int))×Int×Unit) :=
 ah (bF x0) fun (t:List (List Int)×Int×PUnit)=>cond (!decide (t.2.1=0)) (some ([],t.2.1,aQ)) (cond (decide (0<=(↑(aC
  x0.2):Int))&&fz (aS (↑(aC x0.2):Int)) 24) (lp (Int×(List Nat×List (Option (List Int)))×PUnit) (List (List Int)×Int×PUnit) (fun again x=>cond (decide (x.1 <
  (↑(aC (Nat.brecOn (motive:=fun x=>Nat->List Nat) (aS (↑(aC x0.2):Int)) (fun x (f:Nat.below (motive:=fun x=>Nat->List (T ref)) x) x_1=>(match (motive:=(x:Nat)->Nat->Nat.below (motive:=fun x=>Nat->List (T ref)) x->List Nat) x,x_1 with | 0,x=>fun (_:PUnit)=>[] | iD n,k=>fun x=>(k+0) ::x.1 (k+1)) f) 0)):Int))) (lp (Int×(List Nat×List (Option (List Int)))×PUnit) (List (List Int)×Int×PUnit) (fun again_1 x_1 =>
 let v8:=a_ t.1 (aS x_1.1) [];
 let v9:=inB x.1 (aC x_1.2.1.1);
 let v10:=eS (iD (aS x.1)) (aC x_1.2.1.1);cond (decide (x_1.1<(↑(aC t.1):Int))) (cond (inB x_1.1 (aC t.1)) (cond v9 (cond v10 (cond (inB x.1 (aC v8)) (cond (tn x_1.2.1.2 (a_ x_1.2.1.1 (aS x.1) 0)&&fz (aC (cN x_1.2.1.2
  (a_ x_1.2.1.1 (aS x.1) 0))+1) 8) (cond v9 (cond v10 (again_1 (aq .i64 (x_1.1+1),(List.set
  x_1.2.1.1 (aS x.1) (aC x_1.2.1.2),List.set x_1.2.1.2 (a_ x_1.2.1.1 (aS x.1) 0) none++[some (cN x_1.2.1.2
  (a_ x_1.2.1.1 (aS x.1) 0)++[a_ v8 (aS x.1) 0])]++[]),aQ)) none) none) none) none) none) none) none) (again (aq .i64 (x.1+1),x_1.2.1,aQ))) (0,x.2.1,aQ)) (cond (List.all x.2.1.1 fun x_1=>tn
  x.2.1.2 x_1) (some (List.map (fun x_1=>cN x.2.1.2 x_1) x.2.1.1,0,aQ)) none)) (0,(Nat.brecOn (motive:=fun x=>Nat->List Nat) (aS (↑(aC x0.2):Int)) (fun x (f:Nat.below (motive:=fun x=>Nat->List (T ref)) x) x_1=>(match (motive:=(x:Nat)->Nat->Nat.below (motive:=fun x=>Nat->List (T ref)) x->List Nat) x,x_1 with | 0,x=>fun (_:PUnit)=>[] | iD n,k=>fun x=>(k+0) ::x.1 (k+1)) f) 0,eX (aS (↑(aC x0.2):Int)) (some [])),aQ)) none)
abbrev t72:=ty0->Option ((List (List Int))×Int×Unit)
def fQ:t72:=uq lpK jnK bF
def k72 (fQ:t72):Ctr:=⟨[T50],[],[],.tup [(.sl (.sl i64)),i64],fun x _ _=>fQ x.1⟩
def c72:Ctr:=k72 fQ
theorem e72 (lp:Lp) (jn:Jn) (bF:t57):∀x F y,uq lp jn bF x.1=rC lp jn [(57,k57 bF)] 72 f72 c72 x F y:=fun x F y=>by kernel_rfl
theorem Y2:c72.ok prog 72:=od (aa (aK) rfl T0) func72 (e72 lpK jnK bF)
def rI (lp:Lp) (_:Jn) (x0:ty0) (x1:List Int):Option Bool :=
 lp (Int×PUnit) Bool (fun again x =>
 let v6:=!decide (a_ x1 (aS x.1) 0=0);
 let v7:=decide (a_ x1 (aS x.1) 0<(-67108864));
 let v8:=!v7;
 let v9:=cond v7 true (decide (a_ x1 (aS x.1) 0>67108864));
 let v10:=!v9;
 let v11:=!v10;
 let v12:Bool:=v10&&v6;
 let v13:=!v12;
 let v14:Bool:=v11||v10;
 let v15:Bool:=v13||v12;cond (decide (x.1<(↑(aC x1):Int))) (cond (inB x.1 (aC x1)) (cond (!v8||v8) (cond (v7||v8) (cond v14 (cond v14 (cond v15 (cond (v15&&(v15&&(v13||inB x.1 (aC x0.2)))) (cond v15 (cond v15 (cond v15 (cond ((v11||v14)&&(v11||(!v6||(v11||v12)))) (cond (v9||v10) (cond (cond v9 true (cond v6 (!(a_ x0.2 (aS x.1) ({ data:={ toList:=[] } },[],false)).2.2) false)) (some false) (again (aq
  IntKind.i64 (x.1+1),aQ))) none) none) none) none) none) none) none) none) none) none) none) none) (some true)) ((0
  : Int),aQ)
abbrev Tx:=ty0->(List Int)->Option (Bool)
def fF:Tx:=rI lpK jnK
def W9:Ctr:=⟨[T50,(.sl i64)],[],[],.one .bool,fun x _ _=>fF x.1 x.2.1⟩
theorem Zr (lp:Lp) (jn:Jn):∀x F y,rI lp jn x.1 x.2.1=rC lp jn [] 196 f196 W9 x F y:=fun x F y=>by kernel_rfl
theorem Us:W9.ok prog 196:=od (aK) func196 (Zr lpK jnK)
def rJ (_:Lp) (_:Jn) (cd:t59) (fQ:t72) (fF:Tx) (x0:ty0) (x1:List Int):Option ((List (Int×Int))×Int×Unit) :=
 ah (fQ x0) fun (t:List (List Int)×Int×PUnit)=>cond (!decide (t.2.1=0)) (some ([],t.2.1,aQ)) (cond (!decide ((↑(aC x1):Int) =
  (↑(aC x0.2):Int))) (some ([],3,aQ)) (ah (fF x0 x1) fun t_1=>cond (!t_1) (some ([],2,aQ)) (ah
  (cd t.1 x1) fun (t:List (Int×Int)×Int×PUnit)=>some (t.1,t.2.1,aQ))))
abbrev Qv:=ty0->(List Int)->Option ((List (Int×Int))×Int×Unit)
def eg:Qv:=rJ lpK jnK cd fQ fF
def U6 (eg:Qv):Ctr:=⟨[T50,(.sl i64)],[],[],.tup [(.sl T38),i64],fun x _ _=>eg x.1 x.2.1⟩
def Vj:Ctr:=U6 eg
theorem Yj (lp:Lp) (jn:Jn) (cd:t59) (fQ:t72) (fF:Tx):∀x F y,rJ lp jn cd fQ fF x.1 x.2.1=rC lp jn [(196,⟨[T50,(.sl i64)],[],[],.one .bool,fun x _ _=>fF x.1 x.2.1⟩),(72,k72 fQ),(59,k59 cd)] 134 f134 Vj x F y:=fun x F y=>by kernel_rfl
theorem T3:Vj.ok prog 134:=od (aa (aa (aa (aK) rfl Wz) rfl Y2) rfl Us) func134 (Yj lpK jnK cd fQ fF)
def rE (_:Lp) (_:Jn) (aP:t68) (aL:Jh) (bb:EY) (iq:QM) (eu:SK) (eA:RU) (eg:Qv) (x0:ty0) (x1:ByteArray):Option ((Int×Int)×Int×Unit) :=
 ah (bb x0) fun t=>cond (!t) (some ((0,0),1,aQ)) (ah (aL x0.1 fun x =>
  eu x.1 x1) fun t=>cond (decide (t<0)) (some ((0,0),9,aQ)) (ah (aP x0.2 fun x=>eA x.1) fun t_1=>cond (decide (t_1<0)) (some ((0,0),11,
  aQ)) (cond (decide (0<=(↑(aC x0.2):Int))&&fz (aS (↑(aC x0.2):Int)) 8) (cond (inB t_1 (aS (↑(aC x0.2) :
  Int))) (cond (eS (iD (aS t_1)) (aS (↑(aC x0.2):Int))) (ah (eg x0 (List.set (eX (aS (↑(aC x0.2) :
  Int)) 0) (aS t_1) 1)) fun (t_2:List (Int×Int)×Int×PUnit)=>cond (!decide (t_2.2.1=0)) (some ((0,0),t_2.2.1,
  aQ)) (cond (inB t (aC t_2.1)) (ah (iq (1,1) (a_ t_2.1 (aS t) (0,0))) fun (t:(Int×Int)×Int ×
  PUnit)=>some (t.1,t.2.1,aQ)) none)) none) none) none)))
abbrev t67:=ty0->(ByteArray)->Option ((Int×Int)×Int×Unit)
def fI:t67:=rE lpK jnK aP aL bb iq eu eA eg
def c67:Ctr:=⟨[T50,.str],[],[],.tup [T38,i64],fun x _ _=>fI x.1 x.2.1⟩
theorem e67 (lp:Lp) (jn:Jn) (aP:t68) (aL:Jh) (bb:EY) (iq:QM) (eu:SK) (eA:RU) (eg:Qv):∀x F y,rE lp jn aP aL bb iq eu eA eg x.1 x.2.1=rC lp jn [(134,U6 eg),(133,⟨[T63],[],[],.one .bool,fun x _ _=>eA x.1⟩),(132,⟨[T79],[],[.str],.one .bool,fun x _ y=>eu x.1 y.1⟩),(129,Vt iq),(105,QL bb),(131,Ts aL),(68,k68 aP)] 67 f67 c67 x F y:=fun x F y=>by kernel_rfl
theorem XV:c67.ok prog 67:=od (aa (aa (aa (aa (aa (aa (aa (aK) rfl UA) rfl Re) rfl Kz) rfl Uf) rfl UM) rfl Xb) rfl T3) func67 (e67 lpK jnK aP aL bb iq eu eA eg)
def me (_:Lp) (_:Jn) (fI:t67) (x0:ty0) (x1:ByteArray):Option ((Int×Int)×Int×Unit) :=
 ah (fI x0 x1) fun (t:(Int×Int)×Int×PUnit)=>some (t.1,t.2.1,aQ)
abbrev t24:=ty0->(ByteArray)->Option ((Int×Int)×Int×Unit)
def ct:t24:=me lpK jnK fI
def k24 (ct:t24):Ctr:=⟨[T50,.str],[],[],.tup [T38,i64],fun x _ _=>ct x.1 x.2.1⟩
def c24:Ctr:=k24 ct
theorem e24 (lp:Lp) (jn:Jn) (fI:t67):∀x F y,me lp jn fI x.1 x.2.1=rC lp jn [(67,⟨[T50,.str],[],[],.tup [T38,i64],fun x _ _=>fI x.1 x.2.1⟩)] 24 f24 c24 x F y:=fun x F y=>by kernel_rfl
theorem Yl:c24.ok prog 24:=od (aa (aK) rfl XV) func24 (e24 lpK jnK fI)
def ou (lp:Lp) (_:Jn) (bb:EY) (x0:ty0):Option ((List Int)×Int×Unit) :=
 ah (bb x0) fun t=>cond (!t) (some ([],1,aQ)) (lp (List Int×Int×PUnit) (List Int×Int×PUnit) (fun again x=>cond (decide (x.2.1<(↑(aC x0.1):Int))) (cond (inB x.2.1 (aC x0.1)) (cond (fz
  (aC x.1+1) 8) (again (x.1++[(a_ x0.1 (aS x.2.1) ({ data:={ toList:=[] } },0)).2],aq .i64
  (x.2.1+1),aQ)) none) none) (some (x.1,0,aQ))) ([],0,aQ))
abbrev t58:=ty0->Option ((List Int)×Int×Unit)
def cY:t58:=ou lpK jnK bb
def k58 (cY:t58):Ctr:=⟨[T50],[],[],.tup [(.sl i64),i64],fun x _ _=>cY x.1⟩
def c58:Ctr:=k58 cY
theorem e58 (lp:Lp) (jn:Jn) (bb:EY):∀x F y,ou lp jn bb x.1=rC lp jn [(105,QL bb)] 58 f58 c58 x F y:=fun x F y=>by kernel_rfl
theorem YT:c58.ok prog 58:=od (aa (aK) rfl Kz) func58 (e58 lpK jnK bb)
def nk (_:Lp) (_:Jn) (cd:t59) (bF:t57) (cY:t58) (x0:ty0):Option ((List (Int×Int))×Int×Unit) :=
 ah (bF x0) fun (t:List (List Int)×Int×PUnit)=>cond (!decide (t.2.1=0)) (some ([],t.2.1,aQ)) (ah (cY x0) fun (t_1 :
  List Int×Int×PUnit)=>cond (!decide (t_1.2.1=0)) (some ([],t_1.2.1,aQ)) (ah (cd t.1 t_1.1) fun (t:List (Int×Int)×Int×PUnit)=>some (t.1,t.2.1,aQ)))
abbrev t16:=ty0->Option ((List (Int×Int))×Int×Unit)
def cI:t16:=nk lpK jnK cd bF cY
def k16 (cI:t16):Ctr:=⟨[T50],[],[],.tup [(.sl T38),i64],fun x _ _=>cI x.1⟩
def c16:Ctr:=k16 cI
theorem e16 (lp:Lp) (jn:Jn) (cd:t59) (bF:t57) (cY:t58):∀x F y,nk lp jn cd bF cY x.1=rC lp jn [(58,k58 cY),(57,k57 bF),(59,k59 cd)] 16 f16 c16 x F y:=fun x F y=>by kernel_rfl
theorem X1:c16.ok prog 16:=od (aa (aa (aa (aK) rfl Wz) rfl T0) rfl YT) func16 (e16 lpK jnK cd bF cY)
set_option maxRecDepth 100000
def pr (_:Lp) (_:Jn) (x0:ty5):Option Bool :=
 some x0.2.2
abbrev t70:=ty5->Option (Bool)
def fe:t70:=pr lpK jnK
def c70:Ctr:=⟨[T63],[],[],.one .bool,fun x _ _=>fe x.1⟩
theorem e70 (lp:Lp) (jn:Jn):∀x F y,pr lp jn x.1=rC lp jn [] 70 f70 c70 x F y:=fun x F y=>by kernel_rfl
theorem ZG:c70.ok prog 70:=od (aK) func70 (e70 lpK jnK)
def tp (_:Lp) (_:Jn) (aP:t68) (cI:t16) (fe:t70) (x0:ty0):Option ((Int×Int)×Int×Unit) :=
 ah (cI x0) fun (t:List (Int×Int)×Int×PUnit)=>cond (!decide (t.2.1=0)) (some ((0,0),t.2.1,aQ)) (ah
  (aP x0.2 fun x=>fe x.1) fun t_1=>cond (decide (t_1<0)) (some
  ((0,0),12,aQ)) (cond (inB t_1 (aC t.1)) (some (a_ t.1 (aS t_1) (0,0),0,aQ)) none))
abbrev t29:=ty0->Option ((Int×Int)×Int×Unit)
def eI:t29:=tp lpK jnK aP cI fe
def k29 (eI:t29):Ctr:=⟨[T50],[],[],.tup [T38,i64],fun x _ _=>eI x.1⟩
def c29:Ctr:=k29 eI
theorem e29 (lp:Lp) (jn:Jn) (aP:t68) (cI:t16) (fe:t70):∀x F y,tp lp jn aP cI fe x.1=rC lp jn [(70,⟨[T63],[],[],.one .bool,fun x _ _=>fe x.1⟩),(16,k16 cI),(68,k68 aP)] 29 f29 c29 x F y:=fun x F y=>by kernel_rfl
theorem ZV:c29.ok prog 29:=od (aa (aa (aa (aK) rfl UA) rfl X1) rfl ZG) func29 (e29 lpK jnK aP cI fe)
def kL (_:Lp) (_:Jn) (x0:Int) (x1:Int) (x2:Int):Option Bool :=
 
 let v5:=decide (x0>=x1);
 let v6:=!v5||v5;cond (v6&&v6) (cond v6 (some (cond v5 (decide (x0<=x2)) false)) none) none
abbrev t84:=(Int)->(Int)->(Int)->Option (Bool)
def an:t84:=kL lpK jnK
def k84 (an:t84):Ctr:=⟨[i64,i64,i64],[],[],.one .bool,fun x _ _=>an x.1 x.2.1 x.2.2.1⟩
def c84:Ctr:=k84 an
theorem e84 (lp:Lp) (jn:Jn):∀x F y,kL lp jn x.1 x.2.1 x.2.2.1=rC lp jn [] 84 f84 c84 x F y:=fun x F y=>by kernel_rfl
theorem Nf:c84.ok prog 84:=od (aK) func84 (e84 lpK jnK)
def nJ (lp:Lp) (_:Jn) (an:t84) (x0:List Int) (x1:Int):Option Bool :=
 ah (an (↑(aC x0):Int) 2 10) fun t =>
 let v5:=!t;
 let v6:=!v5;
 let v7:=!v6;
 let v8:Bool:=v7||v6;
 let v9:=cond v5 true (decide (a_ x0 0 0<0));
 let v10:=!v9;
 let v11:=!v10;
 let v12:Bool:=v11||v10;cond (v8&&(v7||inB 0 (aC x0))) (cond v8 (cond v8 (cond (v5||v6) (cond v12 (cond v12 (cond (v12&&(v12&&(v11||inB
  (aq .i64 ((↑(aC x0):Int) - 1)) (aC x0)))) (cond v12 (cond (v12&&v12) (cond (v9||v10) (cond (cond v9 true (decide
  (a_ x0 (aS (aq .i64 ((↑(aC x0):Int) - 1))) 0>x1))) (some false) (lp (Int×PUnit) Bool (fun again x=>cond (decide (x.1<(↑(aC x0):Int))) (cond (inB x.1 (aC x0)) (cond (inB (aq .i64 (x.1 - 1))
  (aC x0)) (cond (decide (a_ x0 (aS x.1) 0<=a_ x0 (aS (aq .i64 (x.1 - 1))) 0)) (some false) (
  again (aq .i64 (x.1+1),aQ))) none) none) (some true)) (1,aQ))) none) none) none) none) none) none) none) none) none) none
abbrev t85:=(List Int)->(Int)->Option (Bool)
def eQ:t85:=nJ lpK jnK an
def c85:Ctr:=⟨[(.sl i64),i64],[],[],.one .bool,fun x _ _=>eQ x.1 x.2.1⟩
theorem e85 (lp:Lp) (jn:Jn) (an:t84):∀x F y,nJ lp jn an x.1 x.2.1=rC lp jn [(84,k84 an)] 85 f85 c85 x F y:=fun x F y=>by kernel_rfl
theorem ZI:c85.ok prog 85:=od (aa (aK) rfl Nf) func85 (e85 lpK jnK an)
def jF (lp:Lp) (_:Jn) (x0:ty9) (f0:(((ByteArray×Int×Int×Int×Int×Int×Int)×Unit)->Option ByteArray)):Option Bool :=
 lp (Int×List ByteArray×PUnit) Bool (fun again x=>cond (decide (x.1<(↑(aC x0):Int))) (
  cond (inB x.1 (aC x0)) (ah (f0 (a_ x0 (aS x.1) ({ data:={ toList:=[] } },0,0,0,0,0,0),
  aQ)) fun t=>again (aq .i64 (x.1+1),nW str t x.2.1,aQ)) none) (some (decide ((↑(aC x.2.1):Int)
  < (↑(aC x0):Int))))) (0,[],aQ)
abbrev OT:=ty9->((((ByteArray×Int×Int×Int×Int×Int×Int)×Unit)->Option ByteArray))->Option (Bool)
def bV:OT:=jF lpK jnK
def Uc (bV:OT):Ctr:=⟨[(.sl jM)],[([jM],.str)],[],.one .bool,fun x F _=>bV x.1 F.1⟩
def Vv:Ctr:=Uc bV
theorem Zn (lp:Lp) (jn:Jn):∀x F y,jF lp jn x.1 F.1=rC lp jn [] 147 f147 Vv x F y:=fun x F y=>by kernel_rfl
theorem V1:Vv.ok prog 147:=od (aK) func147 (Zn lpK jnK)
def kM (_:Lp) (_:Jn) (x0:ty8):Option ByteArray :=
 some x0.1
abbrev Tg:=ty8->Option (ByteArray)
def dt:Tg:=kM lpK jnK
def V9:Ctr:=⟨[jM],[],[],.one .str,fun x _ _=>dt x.1⟩
theorem YS (lp:Lp) (jn:Jn):∀x F y,kM lp jn x.1=rC lp jn [] 148 f148 V9 x F y:=fun x F y=>by kernel_rfl
theorem Xv:V9.ok prog 148:=od (aK) func148 (YS lpK jnK)
def mZ (_:Lp) (_:Jn) (ak:t40) (an:t84) (x0:ty8):Option Bool :=
 ah (ak x0.1) fun t =>
 let v4:=!t||t;cond v4 (cond v4 (ah (cond t (an x0.2.2.2.1 0 1048576) (some false)) fun t_1 =>
 let v6:=cond t t_1 false;
 let v7:=!v6||v6;cond v4 (cond v7 (cond v7 (ah (cond v6 (an x0.2.2.2.2.1 0 1048576) (some false)) fun t =>
 let v9:=cond v6 t false;
 let v10:=!v9||v9;cond v7 (cond v10 (cond v10 (ah (cond v9 (an x0.2.2.2.2.2.1 0 1048576) (some false)) fun t =>
 let v12:=cond v9 t false;
 let v13:=!v12||v12;cond v10 (cond v13 (cond v13 (ah (cond v12 (an x0.2.2.2.2.2.2 0 1048576) (some false)) fun t=>cond v13 (some (cond v12 t false)) none) none) none) none) none) none) none) none) none) none) none) none
abbrev Sw:=ty8->Option (Bool)
def eP:Sw:=mZ lpK jnK ak an
def V3:Ctr:=⟨[jM],[],[],.one .bool,fun x _ _=>eP x.1⟩
theorem XT (lp:Lp) (jn:Jn) (ak:t40) (an:t84):∀x F y,mZ lp jn ak an x.1=rC lp jn [(84,k84 an),(40,k40 ak)] 149 f149 V3 x F y:=fun x F y=>by kernel_rfl
theorem Vw:V3.ok prog 149:=od (aa (aa (aK) rfl Eg) rfl Nf) func149 (XT lpK jnK ak an)
def lS (_:Lp) (_:Jn) (an:t84) (x0:ty8) (x1:Int):Option Bool :=
 
 let v4:=decide (x0.2.1>=0);
 let v5:=!v4||v4;cond v5 (cond v5 (ah (cond v4 (an x0.2.2.1 1 1048576) (some false)) fun t =>
 let v7:=cond v4 t false;
 let v8:=!v7||v7;
 let v9:Bool:=v8&&v8;cond v5 (cond v8 (cond v8 (cond v9 (cond v9 (cond v8 (some (cond v7 (decide (x0.2.1<=aq .i64 (x1 - x0.2.2.1))) false)) none) none) none) none) none) none) none) none
abbrev SH:=ty8->(Int)->Option (Bool)
def dY:SH:=lS lpK jnK an
def XC:Ctr:=⟨[jM,i64],[],[],.one .bool,fun x _ _=>dY x.1 x.2.1⟩
theorem Yk (lp:Lp) (jn:Jn) (an:t84):∀x F y,lS lp jn an x.1 x.2.1=rC lp jn [(84,k84 an)] 150 f150 XC x F y:=fun x F y=>by kernel_rfl
theorem V8:XC.ok prog 150:=od (aa (aK) rfl Nf) func150 (Yk lpK jnK an)
def ii (lp:Lp) (_:Jn) (x0:ty9) (f0:(((ByteArray×Int×Int×Int×Int×Int×Int)×Unit)->Option Bool)):Option Int :=
 lp (Int×PUnit) Int (fun again x=>cond (decide (x.1<(↑(aC x0):Int))) (cond (inB x.1 (aC x0)) (ah (f0
  (a_ x0 (aS x.1) ({ data:={ toList:=[] } },0,0,0,0,0,0),aQ)) fun t=>cond t (some x.1) (again (aq .i64 (x.1+1),aQ))) none) (some (-1))) (0,aQ)
abbrev QD:=ty9->((((ByteArray×Int×Int×Int×Int×Int×Int)×Unit)->Option Bool))->Option (Int)
def bD:QD:=ii lpK jnK
def T6 (bD:QD):Ctr:=⟨[(.sl jM)],[([jM],.bool)],[],.one i64,fun x F _=>bD x.1 F.1⟩
def WS:Ctr:=T6 bD
theorem Z8 (lp:Lp) (jn:Jn):∀x F y,ii lp jn x.1 F.1=rC lp jn [] 207 f207 WS x F y:=fun x F y=>by kernel_rfl
theorem T9:WS.ok prog 207:=od (aK) func207 (Z8 lpK jnK)
def gk (_:Lp) (_:Jn) (bD:QD) (x0:ty9) (f0:(((ByteArray×Int×Int×Int×Int×Int×Int)×Unit)->Option Bool)):Option Bool :=
 ah (bD x0 f0) fun t=>some (decide (t>=0))
abbrev OH:=ty9->((((ByteArray×Int×Int×Int×Int×Int×Int)×Unit)->Option Bool))->Option (Bool)
def aW:OH:=gk lpK jnK bD
def Vn (aW:OH):Ctr:=⟨[(.sl jM)],[([jM],.bool)],[],.one .bool,fun x F _=>aW x.1 F.1⟩
def UJ:Ctr:=Vn aW
theorem Yv (lp:Lp) (jn:Jn) (bD:QD):∀x F y,gk lp jn bD x.1 F.1=rC lp jn [(207,T6 bD)] 151 f151 UJ x F y:=fun x F y=>by kernel_rfl
theorem Xh:UJ.ok prog 151:=od (aa (aK) rfl T9) func151 (Yv lpK jnK bD)
def mN (_:Lp) (_:Jn) (x0:ty8) (x1:ty8):Option Bool :=
 
 let v4:=decide (aq .i64 (x0.2.1+x0.2.2.1)<=x1.2.1);
 let v5:=!v4;
 let v6:=!v5||v5;
 let v7:Bool:=v6&&v6;cond v6 (cond v6 (cond v7 (cond v6 (cond v7 (cond (v4||v5) (some (cond v4 true (decide (aq .i64 (x1.2.1 +
  x1.2.2.1)<=x0.2.1)))) none) none) none) none) none) none
abbrev Tt:=ty8->ty8->Option (Bool)
def eK:Tt:=mN lpK jnK
def XG:Ctr:=⟨[jM,jM],[],[],.one .bool,fun x _ _=>eK x.1 x.2.1⟩
theorem YV (lp:Lp) (jn:Jn):∀x F y,mN lp jn x.1 x.2.1=rC lp jn [] 153 f153 XG x F y:=fun x F y=>by kernel_rfl
theorem Xt:XG.ok prog 153:=od (aK) func153 (YV lpK jnK)
def kX (_:Lp) (_:Jn) (eK:Tt) (x0:ty8) (y0:ByteArray×Int×Int×Int×Int×Int×Int):Option Bool :=
 ah (eK y0 x0) fun t=>some !t
abbrev RE:=ty8->ty8->Option (Bool)
def dz:RE:=kX lpK jnK eK
def TW:Ctr:=⟨[jM],[],[jM],.one .bool,fun x _ y=>dz x.1 y.1⟩
theorem Zv (lp:Lp) (jn:Jn) (eK:Tt):∀x F y,kX lp jn eK x.1 y.1=rC lp jn [(153,⟨[jM,jM],[],[],.one .bool,fun x _ _=>eK x.1 x.2.1⟩)] 152 f152 TW x F y:=fun x F y=>by kernel_rfl
theorem VZ:TW.ok prog 152:=od (aa (aK) rfl Xt) func152 (Zv lpK jnK eK)
def nD (lp:Lp) (_:Jn) (bV:OT) (dt:Tg) (eP:Sw) (dY:SH) (aW:OH) (dz:RE) (x0:ty9) (x1:Int):Option Bool :=
 
 let v4:=decide ((↑(aC x0):Int)>40);
 let v5:=!v4;cond (!v5||v5) (ah (cond v5 (bV x0 fun x=>dt x.1) (some false))
  fun t=>cond (v4||v5) (cond (cond v4 true t) (some false) (lp (Int×PUnit) Bool (fun again x =>
 let v9:=a_ x0 (aS x.1) ({ data:={ toList:=[] } },0,0,0,0,0,0);
  cond (decide (x.1<(↑(aC x0):Int))) (cond (inB x.1 (aC x0)) (ah (eP v9) fun t =>
 let v11:=!t;
 let v12:=!v11;
 let v13:=!v12||v12;cond (v13&&v13) (ah (cond v12 (dY v9 x1) (some false)) fun t =>
 let v15:=cond v11 true (!t);
 let v16:=!v15;
 let v17:=!v16;
 let v18:Bool:=v17||v16;cond v13 (cond (v11||v12) (cond (v18&&(v18&&(v17||slB 0 x.1 (aC x0)))) (cond (v18&&v18) (ah (cond v16 (
  aW (List.drop 0 (List.take (aS x.1) x0)) fun x=>dz x.1 v9) (some
  false)) fun t=>cond (v15||v16) (cond (cond v15 true t) (some false) (again (aq .i64 (x.1+1),aQ))) none) none) none) none) none) none) none) (some true)) (0,aQ))) none) none
abbrev t86:=ty9->(Int)->Option (Bool)
def eN:t86:=nD lpK jnK bV dt eP dY aW dz
def c86:Ctr:=⟨[(.sl jM),i64],[],[],.one .bool,fun x _ _=>eN x.1 x.2.1⟩
theorem e86 (lp:Lp) (jn:Jn) (bV:OT) (dt:Tg) (eP:Sw) (dY:SH) (aW:OH) (dz:RE):∀x F y,nD lp jn bV dt eP dY aW dz x.1 x.2.1=rC lp jn [(152,⟨[jM],[],[jM],.one .bool,fun x _ y=>dz x.1 y.1⟩),(151,Vn aW),(150,⟨[jM,i64],[],[],.one .bool,fun x _ _=>dY x.1 x.2.1⟩),(149,⟨[jM],[],[],.one .bool,fun x _ _=>eP x.1⟩),(148,⟨[jM],[],[],.one .str,fun x _ _=>dt x.1⟩),(147,Uc bV)] 86 f86 c86 x F y:=fun x F y=>by kernel_rfl
theorem Zx:c86.ok prog 86:=od (aa (aa (aa (aa (aa (aa (aK) rfl V1) rfl Xv) rfl Vw) rfl V8) rfl Xh) rfl VZ) func86 (e86 lpK jnK bV dt eP dY aW dz)
def jD (lp:Lp) (_:Jn) (x0:ty7) (f0:(((ByteArray×Int×Int)×Unit)->Option ByteArray)):Option Bool :=
 lp (Int×List ByteArray×PUnit) Bool (fun again x=>cond (decide (x.1<(↑(aC x0):Int))) (
  cond (inB x.1 (aC x0)) (ah (f0 (a_ x0 (aS x.1) ({ data:={ toList:=[] } },0,0),aQ)) fun t=>again
  (aq .i64 (x.1+1),nW str t x.2.1,aQ)) none) (some (decide ((↑(aC x.2.1):Int)<(↑(aC x0):Int))))) (0,
  [],aQ)
abbrev Qw:=ty7->((((ByteArray×Int×Int)×Unit)->Option ByteArray))->Option (Bool)
def bW:Qw:=jD lpK jnK
def TU (bW:Qw):Ctr:=⟨[(.sl T92)],[([T92],.str)],[],.one .bool,fun x F _=>bW x.1 F.1⟩
def T4:Ctr:=TU bW
theorem Y7 (lp:Lp) (jn:Jn):∀x F y,jD lp jn x.1 F.1=rC lp jn [] 154 f154 T4 x F y:=fun x F y=>by kernel_rfl
theorem Vx:T4.ok prog 154:=od (aK) func154 (Y7 lpK jnK)
def km (_:Lp) (_:Jn) (x0:ByteArray×Int×Int):Option ByteArray :=
 some x0.1
abbrev Sr:=(ByteArray×Int×Int)->Option (ByteArray)
def cV:Sr:=km lpK jnK
def TJ:Ctr:=⟨[T92],[],[],.one .str,fun x _ _=>cV x.1⟩
theorem YA (lp:Lp) (jn:Jn):∀x F y,km lp jn x.1=rC lp jn [] 155 f155 TJ x F y:=fun x F y=>by kernel_rfl
theorem Xw:TJ.ok prog 155:=od (aK) func155 (YA lpK jnK)
def lP (lp:Lp) (_:Jn) (ak:t40) (an:t84) (bW:Qw) (cV:Sr) (x0:ty7):Option Bool :=
 
 let v3:=decide ((↑(aC x0):Int)>8);
 let v4:=!v3;cond (!v4||v4) (ah (cond v4 (bW x0 fun x=>cV x.1) (some false)) fun t=>cond (
  v3||v4) (cond (cond v3 true t) (some false) (lp (Int×Int×PUnit) Bool (fun again x =>
 let v8:=a_ x0 (aS x.2.1) ({ data:={ toList:=[] } },0,0);cond (decide (x.2.1<(↑(aC x0):Int))) (cond (inB
  x.2.1 (aC x0)) (ah (ak v8.1) fun t =>
 let v10:=!t;
 let v11:=!v10;
 let v12:=!v11||v11;cond v12 (cond v12 (ah (cond v11 (an v8.2.1 1 1048576) (some false)) fun t =>
 let v14:=cond v10 true (!t);
 let v15:=!v14;
 let v16:=!v15||v15;cond v12 (cond (v10||v11) (cond v16 (cond v16 (ah (cond v15 (an v8.2.2 0 60) (some false)) fun t=>cond v16 (cond (v14||v15) (cond (cond v14 true (!t)) (some false) (again (aq .i64 (x.1+v8.2.2),aq .i64 (x.2.1 +
  1),aQ))) none) none) none) none) none) none) none) none) none) (some (decide (x.1<=60)))) (0,0,
  aQ))) none) none
abbrev t87:=ty7->Option (Bool)
def dX:t87:=lP lpK jnK ak an bW cV
def c87:Ctr:=⟨[(.sl T92)],[],[],.one .bool,fun x _ _=>dX x.1⟩
theorem e87 (lp:Lp) (jn:Jn) (ak:t40) (an:t84) (bW:Qw) (cV:Sr):∀x F y,lP lp jn ak an bW cV x.1=rC lp jn [(155,⟨[T92],[],[],.one .str,fun x _ _=>cV x.1⟩),(154,TU bW),(84,k84 an),(40,k40 ak)] 87 f87 c87 x F y:=fun x F y=>by kernel_rfl
theorem Yt:c87.ok prog 87:=od (aa (aa (aa (aa (aK) rfl Eg) rfl Nf) rfl Vx) rfl Xw) func87 (e87 lpK jnK ak an bW cV)
def nF (_:Lp) (_:Jn) (ak:t40) (an:t84) (eQ:t85) (eN:t86) (dX:t87) (x0:ty1):Option Bool :=
 
 let v3:=decide (0<=x0.2.2.1);
 let v4:=decide (x0.2.2.2.1<=1048576);
 let v5:=decide (Int.tmod x0.2.2.2.2.1 1000=0);
 let v6:=decide (x0.2.2.1<=x0.2.2.2.1);ah (ak x0.1) fun t =>
 let v8:=!t||t;cond v8 (cond v8 (ah (cond t (an x0.2.1 0 1048576) (some false)) fun t_1 =>
 let v10:=cond t t_1 false;
 let v11:=cond v10 v3 false;
 let v12:=!v10||v10;
 let v13:=cond v11 v6 false;
 let v14:=cond v13 v4 false;
 let v15:=!v11||v11;
 let v16:=!v13||v13;
 let v17:=!v14||v14;cond v8 (cond v12 (cond v12 (cond v12 (cond v15 (cond v15 (cond (v15&&v15) (cond v15 (cond v16 (cond v16 (cond v16 (cond v17 (cond v17 (ah (cond v14 (an x0.2.2.2.2.1 1000 1048576) (some false)) fun t =>
 let v19:=cond v14 t false;
 let v20:=!v19;
 let v21:=cond v19 v5 false;
 let v22:Bool:=v20||v19;
 let v23:=!v21||v21;cond v17 (cond v22 (cond (v22&&(v20||true)) (cond v22 (cond v22 (cond v23 (cond v23 (cond (v23&&v23) (ah (cond v21 (
  eQ x0.2.2.2.2.2.1 x0.2.2.2.2.1) (some false)) fun t =>
 let v25:=cond v21 t false;
 let v26:=!v25||v25;cond v23 (cond v26 (cond v26 (ah (cond v25 (an x0.2.2.2.2.2.2.1 0 1048576) (some false)) fun t =>
 let v28:=cond v25 t false;
 let v29:=!v28||v28;cond v26 (cond v29 (cond v29 (ah (cond v28 (an x0.2.2.2.2.2.2.2.1 0 1048576) (some false)) fun
  t =>
 let v31:=cond v28 t false;
 let v32:=!v31||v31;cond v29 (cond v32 (cond v32 (ah (cond v31 (an x0.2.2.2.2.2.2.2.2.1 1 2) (some false)) fun t =>
 let v34:=cond v31 t false;
 let v35:=!v34||v34;cond v32 (cond v35 (cond v35 (ah (cond v34 (an x0.2.2.2.2.2.2.2.2.2.1 1 67108864) (some
  false)) fun t =>
 let v37:=cond v34 t false;
 let v38:=!v37||v37;cond v35 (cond v38 (cond v38 (ah (cond v37 (an x0.2.2.2.2.2.2.2.2.2.2.1 0 67108864) (
  some false)) fun t =>
 let v40:=cond v37 t false;
 let v41:=!v40||v40;cond v38 (cond v41 (cond v41 (cond (v41&&v41) (ah (cond v40 (eN x0.2.2.2.2.2.2.2.2.2.2.2.1
  x0.2.2.2.2.1) (some false)) fun t =>
 let v43:=cond v40 t false;
 let v44:=!v43||v43;cond v41 (cond v44 (cond v44 (ah (cond v43 (dX x0.2.2.2.2.2.2.2.2.2.2.2.2) (some false)) fun t=>cond v44 (some (cond v43 t false)) none) none) none) none) none) none) none) none) none) none) none) none) none) none) none) none) none) none) none) none) none) none) none) none) none) none) none) none) none) none) none) none) none) none) none) none) none) none) none) none) none) none) none) none) none) none
abbrev t42:=ty1->Option (Bool)
def aJ:t42:=nF lpK jnK ak an eQ eN dX
def k42 (aJ:t42):Ctr:=⟨[T33],[],[],.one .bool,fun x _ _=>aJ x.1⟩
def c42:Ctr:=k42 aJ
theorem e42 (lp:Lp) (jn:Jn) (ak:t40) (an:t84) (eQ:t85) (eN:t86) (dX:t87):∀x F y,nF lp jn ak an eQ eN dX x.1=rC lp jn [(87,⟨[(.sl T92)],[],[],.one .bool,fun x _ _=>dX x.1⟩),(86,⟨[(.sl jM),i64],[],[],.one .bool,fun x _ _=>eN x.1 x.2.1⟩),(85,⟨[(.sl i64),i64],[],[],.one .bool,fun x _ _=>eQ x.1 x.2.1⟩),(84,k84 an),(40,k40 ak)] 42 f42 c42 x F y:=fun x F y=>by kernel_rfl
theorem P1:c42.ok prog 42:=od (aa (aa (aa (aa (aa (aK) rfl Eg) rfl Nf) rfl ZI) rfl Zx) rfl Yt) func42 (e42 lpK jnK ak an eQ eN dX)
def fA (lp:Lp) (_:Jn) (x0:List (Int×Int)) (f0:(((Int×Int)×Unit)->Option Bool)):Option Int :=
 lp (Int×PUnit) Int (fun again x=>cond (decide (x.1<(↑(aC x0):Int))) (cond (inB x.1 (aC x0)) (ah (f0
  (a_ x0 (aS x.1) (0,0),aQ)) fun t=>cond t (some x.1) (again (aq .i64 (x.1+1),aQ))) none) (some (-1))) (0,aQ)
abbrev Qs:=(List (Int×Int))->((((Int×Int)×Unit)->Option Bool))->Option (Int)
def bm:Qs:=fA lpK jnK
def VR (bm:Qs):Ctr:=⟨[(.sl T98)],[([T98],.bool)],[],.one i64,fun x F _=>bm x.1 F.1⟩
def WL:Ctr:=VR bm
theorem aae (lp:Lp) (jn:Jn):∀x F y,fA lp jn x.1 F.1=rC lp jn [] 222 f222 WL x F y:=fun x F y=>by kernel_rfl
theorem Vu:WL.ok prog 222:=od (aK) func222 (aae lpK jnK)
def eD (_:Lp) (_:Jn) (bm:Qs) (x0:List (Int×Int)) (f0:(((Int×Int)×Unit)->Option Bool)):Option Bool :=
 ah (bm x0 f0) fun t=>some (decide (t>=0))
abbrev Ju:=(List (Int×Int))->((((Int×Int)×Unit)->Option Bool))->Option (Bool)
def av:Ju:=eD lpK jnK bm
def R2 (av:Ju):Ctr:=⟨[(.sl T98)],[([T98],.bool)],[],.one .bool,fun x F _=>av x.1 F.1⟩
def VB:Ctr:=R2 av
theorem YY (lp:Lp) (jn:Jn) (bm:Qs):∀x F y,eD lp jn bm x.1 F.1=rC lp jn [(222,VR bm)] 167 f167 VB x F y:=fun x F y=>by kernel_rfl
theorem Rl:VB.ok prog 167:=od (aa (aK) rfl Vu) func167 (YY lpK jnK bm)
def ni (_:Lp) (_:Jn) (x0:Int×Int) (y0:ByteArray×Int×(List Int)×(List (Int×Int))×Int):Option Bool :=
 
 let v4:=decide (x0.1<0);
 let v5:=!v4;
 let v6:=!v5||v5;
 let v7:=cond v4 true (decide (x0.1>y0.2.1));
 let v8:=!v7;
 let v9:=cond v7 true (decide (x0.2<0));
 let v10:=!v9;
 let v11:=!v8||v8;
 let v12:=!v10||v10;cond v6 (cond v6 (cond (v6&&v6) (cond (v4||v5) (cond v11 (cond v11 (cond (v7||v8) (cond v12 (cond v12 (cond (v9||v10) (some
  (cond v9 true (decide (x0.2>67108864)))) none) none) none) none) none) none) none) none) none) none
abbrev RP:=(Int×Int)->ty2->Option (Bool)
def eJ:RP:=ni lpK jnK
def Uw:Ctr:=⟨[T98],[],[pk],.one .bool,fun x _ y=>eJ x.1 y.1⟩
theorem X2 (lp:Lp) (jn:Jn):∀x F y,ni lp jn x.1 y.1=rC lp jn [] 244 f244 Uw x F y:=fun x F y=>by kernel_rfl
theorem Vo:Uw.ok prog 244:=od (aK) func244 (X2 lpK jnK)
def qV (lp:Lp) (_:Jn) (ak:t40) (av:Ju) (eJ:RP) (x0:ty2):Option Bool :=
 ah (ak x0.1) fun t =>
 let v4:=!t;
 let v5:=!v4;
 let v6:=!v5||v5;
 let v7:=cond v4 true (decide (x0.2.1<1));
 let v8:=!v7;
 let v9:=cond v7 true (decide (x0.2.1>1048576));
 let v10:=!v9;
 let v11:=!v8||v8;
 let v12:=cond v9 true (decide (x0.2.2.2.2<0));
 let v13:=!v12;
 let v14:=!v10||v10;
 let v15:=cond v12 true (decide (x0.2.2.2.2>1048576));
 let v16:=!v15;
 let v17:=cond v15 true (decide ((↑(aC x0.2.2.1):Int)<1));
 let v18:=!v17;
 let v19:=!v13||v13;
 let v20:=cond v17 true (decide ((↑(aC x0.2.2.1):Int)>10));
 let v21:=!v20;
 let v22:=!v16||v16;
 let v23:=!v18||v18;
 let v24:=!v21||v21;cond v6 (cond v6 (cond (v4||v5) (cond v11 (cond v11 (cond (v7||v8) (cond v14 (cond v14 (cond (v9||v10) (cond v19 (cond v19 (
  cond (v12||v13) (cond v22 (cond v22 (cond v22 (cond (v15||v16) (cond v23 (cond v23 (cond v23 (cond (v17||v18) (cond v24 (cond v24 (cond v24 (cond (v20
  || v21) (cond (cond v20 true (decide ((↑(aC x0.2.2.2.1):Int)>40))) (some false) (lp (Int×PUnit) Bool (fun again x =>
 let v27:=decide (x.1>0);
 let v28:=decide (a_ x0.2.2.1 (aS x.1) 0<0);
 let v29:=!v28;
 let v30:=!v29||v29;
 let v31:=cond v28 true (decide (a_ x0.2.2.1 (aS x.1) 0>x0.2.1));
 let v32:=!v31;
 let v33:=!v32;
 let v34:Bool:=v32&&v27;
 let v35:=!v34;
 let v36:Bool:=v33||v32;
 let v37:Bool:=v35||v34;cond (decide (x.1<(↑(aC x0.2.2.1):Int))) (cond (inB x.1 (aC x0.2.2.1)) (cond v30 (cond (v30&&v30) (cond (v28 ||
  v29) (cond v36 (cond v36 (cond v37 (cond v37 (cond (v37&&(v37&&(v35||inB (aq .i64 (x.1 - 1)) (aC x0.2.2.1)))) (cond v37 (cond (v37&&v37) (cond ((v33||v36)&&(v33||(!v27||(v33||v34)))) (cond (v31||v32) (cond (cond v31 true (cond v27 (decide (a_ x0.2.2.1 (aS
  x.1) 0<=a_ x0.2.2.1 (aS (aq .i64 (x.1 - 1))) 0)) false)) (some false) (again (aq .i64 (x.1
  + 1),aQ))) none) none) none) none) none) none) none) none) none) none) none) none) none) (ah
  (av x0.2.2.2.1 fun x=>eJ x.1 x0) fun t=>some !t)) (0,aQ))) none) none) none) none) none) none) none) none) none) none) none) none) none) none) none) none) none) none) none) none) none) none) none) none
abbrev Tj:=ty2->Option (Bool)
def gG:Tj:=qV lpK jnK ak av eJ
def WX:Ctr:=⟨[pk],[],[],.one .bool,fun x _ _=>gG x.1⟩
theorem YG (lp:Lp) (jn:Jn) (ak:t40) (av:Ju) (eJ:RP):∀x F y,qV lp jn ak av eJ x.1=rC lp jn [(244,⟨[T98],[],[pk],.one .bool,fun x _ y=>eJ x.1 y.1⟩),(167,R2 av),(40,k40 ak)] 208 f208 WX x F y:=fun x F y=>by kernel_rfl
theorem UX:WX.ok prog 208:=od (aa (aa (aa (aK) rfl Eg) rfl Rl) rfl Vo) func208 (YG lpK jnK ak av eJ)
def nC (lp:Lp) (_:Jn) (x0:List Int):Option (List Int) :=
 lp (List Int×PUnit) (List Int) (fun again x =>
 let v5:=aq .i64 ((↑(aC x.1):Int) - 1);
 let v6:=decide ((↑(aC x.1):Int)>0);
 let v7:=!v6;
 let v8:Bool:=v7||v6;cond v8 (cond v8 (cond (v8&&(v8&&(v7||inB v5 (aC x.1)))) (cond v8 (cond v8 (cond v8 (cond (cond v6 (decide (a_ x.1
  (aS v5) 0=0)) false) (cond (slB 0 v5 (aC x.1)) (again (List.drop 0 (List.take (aS v5) x.1),aQ)) none) (some x.1)) none) none) none) none) none) none) (x0,aQ)
abbrev wm:=(List Int)->Option (List Int)
def au:wm:=nC lpK jnK
def Gt (au:wm):Ctr:=⟨[(.sl (.int .u32))],[],[],.one (.sl (.int .u32)),fun x _ _=>au x.1⟩
def Xc:Ctr:=Gt au
theorem aal (lp:Lp) (jn:Jn):∀x F y,nC lp jn x.1=rC lp jn [] 260 f260 Xc x F y:=fun x F y=>by kernel_rfl
theorem AV:Xc.ok prog 260:=od (aK) func260 (aal lpK jnK)
def ny (_:Lp) (_:Jn) (au:wm) (x0:Int):Option (Bool×List Int) :=
 
 let v3:=aq .u64 x0;
 let v4:=decide (x0<0);
 let v5:=aq .u64 (0 - v3);
 let v6:Int:=2 ^ 32;
 let v7:=decide ((0:Int)<=32);cond v4 (cond v7 (ah (au [aq q_ v5,aq q_ (l_ v5 v6)]) fun t=>some (v4,t)) none) (cond v7 (ah (au [aq q_ v3,aq q_ (l_ v3 v6)]) fun t=>some (v4,t)) none)
abbrev JC:=(Int)->Option (Bool×List Int)
def bn:JC:=ny lpK jnK au
def R5 (bn:JC):Ctr:=⟨[i64],[],[],.one oP,fun x _ _=>bn x.1⟩
def VU:Ctr:=R5 bn
theorem Yy (lp:Lp) (jn:Jn) (au:wm):∀x F y,ny lp jn au x.1=rC lp jn [(260,Gt au)] 249 f249 VU x F y:=fun x F y=>by kernel_rfl
theorem Q7:VU.ok prog 249:=od (aa (aK) rfl AV) func249 (Yy lpK jnK au)
def mh (_:Lp) (_:Jn) (bn:JC) (x0:Int):Option ((Bool×List Int)×Bool×List Int) :=
 ah (bn x0) fun t=>ah (bn 1) fun t_1=>some (t,t_1)
abbrev xN:=(Int)->Option ((Bool×List Int)×Bool×List Int)
def az:xN:=mh lpK jnK bn
def Jp (az:xN):Ctr:=⟨[i64],[],[],.one fW,fun x _ _=>az x.1⟩
def TI:Ctr:=Jp az
theorem Zz (lp:Lp) (jn:Jn) (bn:JC):∀x F y,mh lp jn bn x.1=rC lp jn [(249,R5 bn)] 211 f211 TI x F y:=fun x F y=>by kernel_rfl
theorem Ec:TI.ok prog 211:=od (aa (aK) rfl Q7) func211 (Zz lpK jnK bn)
def ju (_:Lp) (_:Jn) (x0:Bool×List Int):Option Int :=
 cond (decide ((↑(aC x0.2):Int)=0)) (some 0) (cond x0.1 (some (-1)) (some 1))
abbrev Jw:=(Bool×List Int)->Option (Int)
def bf:Jw:=ju lpK jnK
def R3 (bf:Jw):Ctr:=⟨[oP],[],[],.one i64,fun x _ _=>bf x.1⟩
def UD:Ctr:=R3 bf
theorem ZK (lp:Lp) (jn:Jn):∀x F y,ju lp jn x.1=rC lp jn [] 246 f246 UD x F y:=fun x F y=>by kernel_rfl
theorem Rj:UD.ok prog 246:=od (aK) func246 (ZK lpK jnK)
def fC (_:Lp) (_:Jn) (x0:Bool×List Int):Option (Bool×List Int) :=
 some (!x0.1,x0.2)
abbrev Iu:=(Bool×List Int)->Option (Bool×List Int)
def aG:Iu:=fC lpK jnK
def RV (aG:Iu):Ctr:=⟨[oP],[],[],.one oP,fun x _ _=>aG x.1⟩
def Wy:Ctr:=RV aG
theorem Z3 (lp:Lp) (jn:Jn):∀x F y,fC lp jn x.1=rC lp jn [] 254 f254 Wy x F y:=fun x F y=>by kernel_rfl
theorem Rb:Wy.ok prog 254:=od (aK) func254 (Z3 lpK jnK)
def mm (lp:Lp) (jn:Jn) (au:wm) (x0:List Int) (x1:List Int):Option (List Int) :=
 jn (List Int×List Int×PUnit) (List Int) (fun x=>cond (decide (0<=aq .i64 ((↑(aC x.1):Int)+1))&&fz
  (aS (aq .i64 ((↑(aC x.1):Int)+1))) 4) (lp (Int×Int×List Int×PUnit) (List Int) (fun again x_1=>cond (decide (x_1.2.1<(↑(aS (aq .i64 ((↑(aC x.1):Int)+1))):Int))) (
  jn (Int×PUnit) (List Int) (fun x_2=>jn (Int×PUnit) (List Int) (fun x=>cond (inB x_1.2.1 (aC x_1.2.2.1)) (cond (eS
  (iD (aS x_1.2.1)) (aC x_1.2.2.1)) (cond (decide ((0:Int)<=32)) (again (l_ x.1 (2 ^ 32),aq .i64
  (x_1.2.1+1),List.set x_1.2.2.1 (aS x_1.2.1) (aq q_ x.1),aQ)) none) none) none) fun j=>cond (decide (x_1.2.1<(↑(aC x.2.1):Int))) (cond (inB x_1.2.1 (aC x.2.1)) (j (aq .u64 (x_2.1+aq
  IntKind.u64 (a_ x.2.1 (aS x_1.2.1) 0)),aQ)) none) (j (x_2.1,aQ))) fun j=>cond (decide
  (x_1.2.1<(↑(aC x.1):Int))) (cond (inB x_1.2.1 (aC x.1)) (j (aq .u64 (x_1.1+aq .u64 (a_ x.1
  (aS x_1.2.1) 0)),aQ)) none) (j (x_1.1,aQ))) (ah (au x_1.2.2.1) fun t=>some t)) (0,0,
  eX (aS (aq .i64 ((↑(aC x.1):Int)+1))) 0,aQ)) none) fun j=>cond (decide ((↑(aC x0):Int)<(↑(aC x1):Int))) (j (x1,x0,aQ)) (j (x0,x1,aQ))
abbrev Dy:=(List Int)->(List Int)->Option (List Int)
def bh:Dy:=mm lpK jnK au
def O8 (bh:Dy):Ctr:=⟨[(.sl (.int .u32)),(.sl (.int .u32))],[],[],.one (.sl (.int .u32)),fun x _ _=>bh x.1 x.2.1⟩
def Vy:Ctr:=O8 bh
theorem ZS (lp:Lp) (jn:Jn) (au:wm):∀x F y,mm lp jn au x.1 x.2.1=rC lp jn [(260,Gt au)] 263 f263 Vy x F y:=fun x F y=>by kernel_rfl
theorem L9:Vy.ok prog 263:=od (aa (aK) rfl AV) func263 (ZS lpK jnK au)
def lY (lp:Lp) (_:Jn) (x0:List Int) (x1:List Int):Option Int :=
 cond (!decide ((↑(aC x0):Int)=(↑(aC x1):Int))) (some (aq .i64 ((↑(aC x0):Int) - (↑(aC x1):Int)))) (lp (Int×PUnit) Int
  (fun again x =>
 let v6:=inB x.1 (aC x0);
 let v7:=inB x.1 (aC x1);cond (decide (x.1>=0)) (cond v6 (cond v7 (cond (!decide (a_ x0 (aS x.1) 0=a_ x1 (aS
  x.1) 0)) (cond v6 (cond v7 (cond (decide (a_ x0 (aS x.1) 0<a_ x1 (aS x.1) 0)) (some (-1)) (some 1)) none) none) (again (aq .i64 (x.1 - 1),aQ))) none) none) (some 0)) (aq .i64 ((↑(aC x0):Int) -
  1),aQ))
abbrev EB:=(List Int)->(List Int)->Option (Int)
def aV:EB:=lY lpK jnK
def Qt (aV:EB):Ctr:=⟨[(.sl (.int .u32)),(.sl (.int .u32))],[],[],.one i64,fun x _ _=>aV x.1 x.2.1⟩
def Xj:Ctr:=Qt aV
theorem YN (lp:Lp) (jn:Jn):∀x F y,lY lp jn x.1 x.2.1=rC lp jn [] 264 f264 Xj x F y:=fun x F y=>by kernel_rfl
theorem MS:Xj.ok prog 264:=od (aK) func264 (YN lpK jnK)
def qo (lp:Lp) (jn:Jn) (au:wm) (x0:List Int) (x1:List Int):Option (List Int) :=
 cond (decide (0<=(↑(aC x0):Int))&&fz (aS (↑(aC x0):Int)) 4) (lp (Int×Int×List Int×PUnit) (List Int) (fun again x =>
 let v6:=aq .i64 (x.2.1+1);
 let v7:=inB x.2.1 (aC x.2.2.1);
 let v8:=eS (iD (aS x.2.1)) (aC x.2.2.1);
 let v9:=aq .i64 (aq .i64 (a_ x0 (aS x.2.1) 0) - x.1);cond (decide (x.2.1<(↑(aC x0):Int))) (cond (inB
  x.2.1 (aC x0)) (jn (Int×PUnit) (List Int) (fun x_1=>cond (decide (x_1.1<0)) (cond v7 (cond v8 (again (1,v6,List.set
  x.2.2.1 (aS x.2.1) (aq q_ (aq .i64 (x_1.1+4294967296))),aQ)) none) none) (cond v7 (cond v8 (
  again (0,v6,List.set x.2.2.1 (aS x.2.1) (aq q_ x_1.1),aQ)) none) none)) fun j=>cond (
  decide (x.2.1<(↑(aC x1):Int))) (cond (inB x.2.1 (aC x1)) (j (aq .i64 (v9 - aq .i64 (a_ x1 (aS
  x.2.1) 0)),aQ)) none) (j (v9,aQ))) none) (ah (au x.2.2.1) fun t=>some t)) (0,0,
  eX (aS (↑(aC x0):Int)) 0,aQ)) none
abbrev Dk:=(List Int)->(List Int)->Option (List Int)
def bq:Dk:=qo lpK jnK au
def PO (bq:Dk):Ctr:=⟨[(.sl (.int .u32)),(.sl (.int .u32))],[],[],.one (.sl (.int .u32)),fun x _ _=>bq x.1 x.2.1⟩
def XQ:Ctr:=PO bq
theorem ZA (lp:Lp) (jn:Jn) (au:wm):∀x F y,qo lp jn au x.1 x.2.1=rC lp jn [(260,Gt au)] 265 f265 XQ x F y:=fun x F y=>by kernel_rfl
theorem Kp:XQ.ok prog 265:=od (aa (aK) rfl AV) func265 (ZA lpK jnK au)
def oW (lp:Lp) (_:Jn) (au:wm) (x0:List Int):Option (List Int) :=
 cond (decide (0<=(↑(aC x0):Int))&&fz (aS (↑(aC x0):Int)) 4) (lp (Int×List Int×PUnit) (List Int) (fun again x =>
 let v5:=inB x.1 (aC x.2.1);
 let v6:=aq .i64 (x.1+1);
 let v7:=eS (iD (aS x.1)) (aC x.2.1);
 let v8:List Int:=List.set x.2.1 (aS x.1) (l_ (a_ x0 (aS x.1) 0) (2 ^ 1));cond (decide (x.1<(↑(aC x0):Int))) (cond (inB x.1 (aC x0)) (cond (decide ((0:Int)<=1)) (cond v5 (cond v7 (cond (decide (v6<(↑(aC x0):Int))) (cond v5 (cond v7 (cond (inB
  v6 (aC x0)) (cond (decide ((0:Int)<=31)) (cond v5 (cond v7 (again (v6,List.set v8 (aS x.1) (aq q_ (↑(Nat.lor (aS
  (a_ v8 (aS x.1) 0 % bY 4294967296)) (aS (aq q_ (a_ x0 (aS v6) 0*2 ^ 31) %
  bY 4294967296))):Int)),aQ)) none) none) none) none) none) none) (again (v6,v8,aQ))) none) none) none) none) (ah (au x.2.1) fun t=>some t)) (0,eX (aS (↑(aC x0):Int)) 0,aQ)) none
abbrev OQ:=(List Int)->Option (List Int)
def cQ:OQ:=oW lpK jnK au
def W6 (cQ:OQ):Ctr:=⟨[(.sl (.int .u32))],[],[],.one (.sl (.int .u32)),fun x _ _=>cQ x.1⟩
def WE:Ctr:=W6 cQ
theorem Yq (lp:Lp) (jn:Jn) (au:wm):∀x F y,oW lp jn au x.1=rC lp jn [(260,Gt au)] 269 f269 WE x F y:=fun x F y=>by kernel_rfl
theorem TQ:WE.ok prog 269:=od (aa (aK) rfl AV) func269 (Yq lpK jnK au)
def oC (lp:Lp) (_:Jn) (bh:Dy) (aV:EB) (bq:Dk) (cQ:OQ) (x0:List Int) (x1:List Int):Option (List Int) :=
 lp (List Int×List Int×Int×PUnit) (List Int) (fun again x =>
 let v6:=decide (aq q_ (↑(Nat.land (aS (a_ x.1 0 0 % bY 4294967296)) (aS (1 % bY
  4294967296))):Int)=0);
 let v7:=!v6;
 let v8:Bool:=v7||v6;cond (inB 0 (aC x.1)) (cond (v8&&(v7||inB 0 (aC x.2.1))) (cond v8 (cond v8 (cond v8 (cond v8 (cond (cond v6 (decide (aq q_ (↑(Nat.land (aS (a_ x.2.1 0 0 % bY 4294967296)) (aS (1 % bY (4294967296 :
  Nat)))):Int)=0)) false) (ah (cQ x.1) fun t=>ah (cQ x.2.1) fun t_1=>again (t,t_1,aq .i64
  (x.2.2.1+1),aQ)) (lp (List Int×List Int×PUnit) (List Int) (fun again x_1=>cond (decide ((↑(aC x_1.1):Int)>0)) (lp (List Int×PUnit) (List Int) (fun again_1 x =>
  cond (inB 0 (aC x.1)) (cond (decide (aq q_ (↑(Nat.land (aS (a_ x.1 0 0 % bY 4294967296)) (aS
  (1 % bY 4294967296))):Int)=0)) (ah (cQ x.1) fun t=>again_1 (t,aQ)) (lp (List Int×PUnit) (List Int) (fun
  again_2 x_2=>cond (inB 0 (aC x_2.1)) (cond (decide (aq q_ (↑(Nat.land (aS
  (a_ x_2.1 0 0 % bY 4294967296)) (aS (1 % bY 4294967296))):Int)=0)) (ah (cQ x_2.1) fun
  t=>again_2 (t,aQ)) (ah (aV x.1 x_2.1) fun t=>cond (decide (t<0)) (ah (bq x_2.1 x.1) fun t=>again (t,x.1,aQ)) (ah (bq x.1 x_2.1) fun t=>again (t,x_2.1,aQ)))) none) (x_1.2.1,aQ))) none) (x_1.1,
  aQ)) (lp (List Int×Int×PUnit) (List Int) (fun again x_2=>cond (decide (x_2.2.1 <
  x.2.2.1)) (ah (bh x_2.1 x_2.1) fun t=>again (t,aq .i64 (x_2.2.1+1),aQ)) (some x_2.1)) (x_1.2.1,
  0,aQ))) (x.1,x.2.1,aQ))) none) none) none) none) none) none) (x0,x1,0,aQ)
abbrev Pd:=(List Int)->(List Int)->Option (List Int)
def eB:Pd:=oC lpK jnK bh aV bq cQ
def VO (eB:Pd):Ctr:=⟨[(.sl (.int .u32)),(.sl (.int .u32))],[],[],.one (.sl (.int .u32)),fun x _ _=>eB x.1 x.2.1⟩
def Uv:Ctr:=VO eB
theorem Zs (lp:Lp) (jn:Jn) (bh:Dy) (aV:EB) (bq:Dk) (cQ:OQ):∀x F y,oC lp jn bh aV bq cQ x.1 x.2.1=rC lp jn [(269,W6 cQ),(265,PO bq),(264,Qt aV),(263,O8 bh)] 261 f261 Uv x F y:=fun x F y=>by kernel_rfl
theorem TX:Uv.ok prog 261:=od (aa (aa (aa (aa (aK) rfl L9) rfl MS) rfl Kp) rfl TQ) func261 (Zs lpK jnK bh aV bq cQ)
def nA (lp:Lp) (jn:Jn) (au:wm) (bh:Dy) (aV:EB) (bq:Dk) (x0:List Int) (x1:List Int):Option (List Int) :=
 cond (decide (0<=(↑(aC x0):Int))&&fz (aS (↑(aC x0):Int)) 4) (lp (List Int×Int×List Int×PUnit) (List Int) (fun again x =>
 let v6:=aq .i64 (Int.tdiv x.2.1 32);
 let v7:=aq .i64 (x.2.1 - 1);
 let v8:=inB v6 (aC x.2.2.1);
 let v9:=eS (iD (aS v6)) (aC x.2.2.1);
 let v10:=decide (0<=Int.tmod x.2.1 32);cond (decide (x.2.1>=0)) (ah (bh x.1 x.1) fun t=>cond (inB v6 (aC
  x0)) (cond v10 (jn (List Int×PUnit) (List Int) (fun x_1=>ah (aV x_1.1 x1) fun t=>cond (decide (t>=0)) (ah
  (bq x_1.1 x1) fun t=>cond v8 (cond v9 (cond v10 (cond v8 (cond v9 (again (t,v7,List.set x.2.2.1 (aS v6) (aq q_
  (↑(Nat.lor (aS (a_ x.2.2.1 (aS v6) 0 % bY 4294967296)) (aS (aq q_ (1*2 ^ min (aS
  (Int.tmod x.2.1 32)) 32) % bY 4294967296))):Int)),aQ)) none) none) none) none) none) (again (x_1.1,v7,
  x.2.2.1,aQ))) fun j=>cond (decide (aq q_ (↑(Nat.land (aS (l_ (a_ x0 (aS v6) (0 :
  Int)) (2 ^ min (aS (Int.tmod x.2.1 32)) 32) % bY 4294967296)) (aS (1 % bY 4294967296))):Int)=(1 :
  Int))) (ah (bh t [1]) fun t=>j (t,aQ)) (j (t,aQ))) none) none) (ah (au x.2.2.1) fun t=>some t)) ([],aq .i64 (aq .i64 (32*(↑(aC x0):Int)) - 1),eX (aS (↑(aC x0):Int)) 0,
  aQ)) none
abbrev Qe:=(List Int)->(List Int)->Option (List Int)
def de:Qe:=nA lpK jnK au bh aV bq
def UG (de:Qe):Ctr:=⟨[(.sl (.int .u32)),(.sl (.int .u32))],[],[],.one (.sl (.int .u32)),fun x _ _=>de x.1 x.2.1⟩
def TV:Ctr:=UG de
theorem Zt (lp:Lp) (jn:Jn) (au:wm) (bh:Dy) (aV:EB) (bq:Dk):∀x F y,nA lp jn au bh aV bq x.1 x.2.1=rC lp jn [(265,PO bq),(264,Qt aV),(263,O8 bh),(260,Gt au)] 262 f262 TV x F y:=fun x F y=>by kernel_rfl
theorem V5:TV.ok prog 262:=od (aa (aa (aa (aa (aK) rfl AV) rfl L9) rfl MS) rfl Kp) func262 (Zt lpK jnK au bh aV bq)
def pa (_:Lp) (jn:Jn) (az:xN) (bf:Jw) (aG:Iu) (eB:Pd) (de:Qe) (x0:Bool×List Int) (x1:Bool×List Int):Option ((Bool×List Int)×Bool×List Int) :=
 ah (bf x0) fun t=>cond (decide (t=0)) (ah (az 0) fun t=>some t) (jn ((Bool×List Int)
  × (Bool×List Int)×PUnit) ((Bool×List Int)×Bool×List Int) (fun x=>ah (eB x.1.2 x.2.1.2) fun t=>ah (de x.1.2 t) fun t_1=>ah (de x.2.1.2 t) fun t=>some ((x.1.1,t_1),false,t)) fun j=>cond x1.1 (ah (aG x0) fun t=>ah (aG
  x1) fun t_1=>j (t,t_1,aQ)) (j (x0,x1,aQ)))
abbrev Av:=(Bool×List Int)->(Bool×List Int)->Option ((Bool×List Int)×Bool×List Int)
def aO:Av:=pa lpK jnK az bf aG eB de
def Nj (aO:Av):Ctr:=⟨[oP,oP],[],[],.one fW,fun x _ _=>aO x.1 x.2.1⟩
def Um:Ctr:=Nj aO
theorem Y9 (lp:Lp) (jn:Jn) (az:xN) (bf:Jw) (aG:Iu) (eB:Pd) (de:Qe):∀x F y,pa lp jn az bf aG eB de x.1 x.2.1=rC lp jn [(262,UG de),(261,VO eB),(254,RV aG),(246,R3 bf),(211,Jp az)] 250 f250 Um x F y:=fun x F y=>by kernel_rfl
theorem H4:Um.ok prog 250:=od (aa (aa (aa (aa (aa (aK) rfl Ec) rfl Rj) rfl Rb) rfl TX) rfl V5) func250 (Y9 lpK jnK az bf aG eB de)
def je (lp:Lp) (_:Jn) (au:wm) (x0:Bool×List Int) (x1:Bool×List Int):Option (Bool×List Int) :=
 cond (decide (0<=aq .i64 ((↑(aC x0.2):Int)+(↑(aC x1.2):Int)))&&fz (aS (aq .i64 ((↑(aC x0.2):Int)
  + (↑(aC x1.2):Int)))) 4) (lp (Int×List Int×PUnit) (Bool×List Int) (fun again x =>
 let v6:=aq .i64 (x.1+(↑(aC x1.2):Int));cond (decide (x.1<(↑(aC x0.2):Int))) (cond (inB x.1 (aC x0.2)) (lp (Int ×
  Int×List Int×PUnit) (Bool×List Int) (fun again_1 x_1 =>
 let v9:=aq .i64 (x.1+x_1.2.1);
 let v10:=inB v9 (aC x_1.2.2.1);
 let v11:=eS (iD (aS v9)) (aC x_1.2.2.1);
 let v12:=aq .u64 (x_1.1+aq .u64 (aq .u64 (aq .u64 (a_ x0.2 (aS x.1) 0) *
  aq .u64 (a_ x1.2 (aS x_1.2.1) 0))+aq .u64 (a_ x_1.2.2.1 (aS v9) 0)));cond (decide (x_1.2.1
  < (↑(aC x1.2):Int))) (cond (inB x_1.2.1 (aC x1.2)) (cond v10 (cond v11 (cond v10 (cond v11 (cond (decide ((0:Int)<=32)) (again_1
  (l_ v12 (2 ^ 32),aq .i64 (x_1.2.1+1),List.set x_1.2.2.1 (aS v9) (aq q_ v12),aQ)) none) none) none) none) none) none) (cond (inB v6 (aC x_1.2.2.1)) (cond (eS (iD (aS v6)) (aC x_1.2.2.1)) (again
  (aq .i64 (x.1+1),List.set x_1.2.2.1 (aS v6) (aq q_ x_1.1),aQ)) none) none)) (0,0,
  x.2.1,aQ)) none) (ah (au x.2.1) fun t=>some (!decide (x0.1=x1.1),t))) (0,eX (aS (aq
  IntKind.i64 ((↑(aC x0.2):Int)+(↑(aC x1.2):Int)))) 0,aQ)) none
abbrev AA:=(Bool×List Int)->(Bool×List Int)->Option (Bool×List Int)
def ao:AA:=je lpK jnK au
def M7 (ao:AA):Ctr:=⟨[oP,oP],[],[],.one oP,fun x _ _=>ao x.1 x.2.1⟩
def UB:Ctr:=M7 ao
theorem XY (lp:Lp) (jn:Jn) (au:wm):∀x F y,je lp jn au x.1 x.2.1=rC lp jn [(260,Gt au)] 251 f251 UB x F y:=fun x F y=>by kernel_rfl
theorem G3:UB.ok prog 251:=od (aa (aK) rfl AV) func251 (XY lpK jnK au)
def jv (_:Lp) (_:Jn) (bh:Dy) (aV:EB) (bq:Dk) (x0:Bool×List Int) (x1:Bool×List Int):Option (Bool×List Int) :=
 cond (decide (x0.1=x1.1)) (ah (bh x0.2 x1.2) fun t=>some (x0.1,t)) (ah (aV x0.2 x1.2) fun t=>cond (decide (t<(0 :
  Int))) (ah (bq x1.2 x0.2) fun t=>some (x1.1,t)) (ah (bq x0.2 x1.2) fun t=>some (x0.1,t)))
abbrev Si:=(Bool×List Int)->(Bool×List Int)->Option (Bool×List Int)
def cE:Si:=jv lpK jnK bh aV bq
def UI:Ctr:=⟨[oP,oP],[],[],.one oP,fun x _ _=>cE x.1 x.2.1⟩
theorem XW (lp:Lp) (jn:Jn) (bh:Dy) (aV:EB) (bq:Dk):∀x F y,jv lp jn bh aV bq x.1 x.2.1=rC lp jn [(265,PO bq),(264,Qt aV),(263,O8 bh)] 252 f252 UI x F y:=fun x F y=>by kernel_rfl
theorem Wu:UI.ok prog 252:=od (aa (aa (aa (aK) rfl L9) rfl MS) rfl Kp) func252 (XW lpK jnK bh aV bq)
def kh (_:Lp) (_:Jn) (aO:Av) (ao:AA) (cE:Si) (x0:ty3) (x1:ty3):Option ((Bool×List Int)×Bool×List Int) :=
 ah (ao x0.1 x1.2) fun t=>ah (ao x1.1 x0.2) fun t_1=>ah (cE t t_1) fun t=>ah (ao x0.2 x1.2) fun t_2=>ah (aO t t_2) fun t=>some t
abbrev vO:=ty3->ty3->Option ((Bool×List Int)×Bool×List Int)
def aj:vO:=kh lpK jnK aO ao cE
def Gj (aj:vO):Ctr:=⟨[fW,fW],[],[],.one fW,fun x _ _=>aj x.1 x.2.1⟩
def Wl:Ctr:=Gj aj
theorem ZD (lp:Lp) (jn:Jn) (aO:Av) (ao:AA) (cE:Si):∀x F y,kh lp jn aO ao cE x.1 x.2.1=rC lp jn [(252,⟨[oP,oP],[],[],.one oP,fun x _ _=>cE x.1 x.2.1⟩),(251,M7 ao),(250,Nj aO)] 212 f212 Wl x F y:=fun x F y=>by kernel_rfl
theorem Bh:Wl.ok prog 212:=od (aa (aa (aa (aK) rfl H4) rfl G3) rfl Wu) func212 (ZD lpK jnK aO ao cE)
def kj (_:Lp) (_:Jn) (aG:Iu) (aj:vO) (x0:ty3) (x1:ty3):Option ((Bool×List Int)×Bool×List Int) :=
 ah (aG x1.1) fun t=>ah (aj x0 (t,x1.2)) fun t=>some t
abbrev Fx:=ty3->ty3->Option ((Bool×List Int)×Bool×List Int)
def aw:Fx:=kj lpK jnK aG aj
def PC (aw:Fx):Ctr:=⟨[fW,fW],[],[],.one fW,fun x _ _=>aw x.1 x.2.1⟩
def VG:Ctr:=PC aw
theorem Ye (lp:Lp) (jn:Jn) (aG:Iu) (aj:vO):∀x F y,kj lp jn aG aj x.1 x.2.1=rC lp jn [(212,Gj aj),(254,RV aG)] 214 f214 VG x F y:=fun x F y=>by kernel_rfl
theorem Kb:VG.ok prog 214:=od (aa (aa (aK) rfl Rb) rfl Bh) func214 (Ye lpK jnK aG aj)
def lJ (_:Lp) (_:Jn) (aO:Av) (ao:AA) (x0:ty3) (x1:ty3):Option ((Bool×List Int)×Bool×List Int) :=
 ah (ao x0.1 x1.2) fun t=>ah (ao x0.2 x1.1) fun t_1=>ah (aO t t_1) fun t=>some t
abbrev I7:=ty3->ty3->Option ((Bool×List Int)×Bool×List Int)
def bg:I7:=lJ lpK jnK aO ao
def R1 (bg:I7):Ctr:=⟨[fW,fW],[],[],.one fW,fun x _ _=>bg x.1 x.2.1⟩
def XJ:Ctr:=R1 bg
theorem X0 (lp:Lp) (jn:Jn) (aO:Av) (ao:AA):∀x F y,lJ lp jn aO ao x.1 x.2.1=rC lp jn [(251,M7 ao),(250,Nj aO)] 215 f215 XJ x F y:=fun x F y=>by kernel_rfl
theorem Q8:XJ.ok prog 215:=od (aa (aa (aK) rfl H4) rfl G3) func215 (X0 lpK jnK aO ao)
def oO (lp:Lp) (_:Jn) (x0:ty2):Option (ByteArray×Int×(List Int)×(List (Int×Int))×Int) :=
 
 let v3:List (Int×Int×Unit):=xt x0.2.2.1 (aC x0.2.2.1);cond (eS (aC x0.2.2.1) 4398046511104) (lp (Nat×ByteArray×Int×List
  Int×List (Int×Int)×Int×PUnit) (ByteArray×Int×List Int×List (Int×Int)×Int) (fun again p =>
 let v6:List (Int×Int)×Int×PUnit:=(p.2.2.2.2.1,p.2.2.2.2.2.1,aQ);cond (eS (iD p.1) (aC v3)) (cond (fz (aC
  p.2.2.2.1+1) 8) (again (iD p.1,p.2.1,p.2.2.1,p.2.2.2.1++[aq .i64 (x0.2.1 - (a_ v3 p.1 ((0 :
  Int),0,aQ)).2.1)],v6)) none) (lp (Int×ByteArray×Int×List Int×List (Int×Int)×Int×PUnit) (ByteArray×Int×List Int×List (Int×Int)×Int)
  (fun again x =>
 let v9:=a_ x0.2.2.2.1 (aS x.1) (0,0);cond (decide (x.1<(↑(aC x0.2.2.2.1):Int))) (cond (inB x.1 (aC
  x0.2.2.2.1)) (cond (fz (aC x.2.2.2.2.1+1) 16) (again (aq .i64 (x.1+1),x.2.1,x.2.2.1,
  x.2.2.2.1,x.2.2.2.2.1++[(aq .i64 (x0.2.1 - v9.1),v9.2)],x.2.2.2.2.2.1,aQ)) none) none) (some (x.2.1,
  x.2.2.1,x.2.2.2.1,x.2.2.2.2.1,x.2.2.2.2.2.1))) (0,p.2.1,p.2.2.1,p.2.2.2.1,v6))) (0,x0.1,x0.2.1,[],
  [],x0.2.2.2.2,aQ)) none
abbrev Ip:=ty2->Option (ByteArray×Int×(List Int)×(List (Int×Int))×Int)
def ce:Ip:=oO lpK jnK
def Sq (ce:Ip):Ctr:=⟨[pk],[],[],.one pk,fun x _ _=>ce x.1⟩
def WN:Ctr:=Sq ce
theorem Z5 (lp:Lp) (jn:Jn):∀x F y,oO lp jn x.1=rC lp jn [] 217 f217 WN x F y:=fun x F y=>by kernel_rfl
theorem Ra:WN.ok prog 217:=od (aK) func217 (Z5 lpK jnK)
def nh (lp:Lp) (_:Jn) (bn:JC) (aO:Av) (ao:AA) (x0:Int) (x1:List Int):Option ((Bool×List Int)×Bool×List Int) :=
 ah (bn 1) fun t=>lp (Int×(Bool×List Int)×PUnit) ((Bool×List Int)×Bool×List Int) (fun again x=>cond (decide (x.1<(↑(aC x1):Int))) (cond (inB x.1 (aC x1)) (ah
  (bn (a_ x1 (aS x.1) 0)) fun t=>ah (ao x.2.1 t) fun t=>again (aq .i64
  (x.1+1),t,aQ)) none) (ah (bn x0) fun t=>ah (aO x.2.1 t) fun t =>
  some t)) (0,t,aQ)
abbrev Ar:=(Int)->(List Int)->Option ((Bool×List Int)×Bool×List Int)
def aF:Ar:=nh lpK jnK bn aO ao
def KC (aF:Ar):Ctr:=⟨[i64,(.sl i64)],[],[],.one fW,fun x _ _=>aF x.1 x.2.1⟩
def TP:Ctr:=KC aF
theorem ZC (lp:Lp) (jn:Jn) (bn:JC) (aO:Av) (ao:AA):∀x F y,nh lp jn bn aO ao x.1 x.2.1=rC lp jn [(251,M7 ao),(250,Nj aO),(249,R5 bn)] 253 f253 TP x F y:=fun x F y=>by kernel_rfl
theorem H9:TP.ok prog 253:=od (aa (aa (aa (aK) rfl Q7) rfl H4) rfl G3) func253 (ZC lpK jnK bn aO ao)
def lW (lp:Lp) (_:Jn) (az:xN) (aj:vO) (aw:Fx) (aF:Ar) (x0:ty2):Option ((Bool×List Int)×Bool×List Int) :=
 
 let v3:=a_ x0.2.2.1 0 0;cond (inB 0 (aC x0.2.2.1)) (ah (aF 2000 [x0.2.2.2.2,v3,v3]) fun t=>lp (Int×((Bool×List Int)×Bool×List Int)×PUnit) ((Bool×List Int)×Bool×List Int) (fun again x =>
 let v7:=aq .i64 (x.1+1);
 let v8:=a_ x0.2.2.2.1 (aS x.1) (0,0);cond (decide (x.1<(↑(aC x0.2.2.2.1):Int))) (cond (inB x.1 (aC
  x0.2.2.2.1)) (cond (decide (v8.1<v3)) (ah (aF 1 [v8.2,aq .i64 (v3 - v8.1)]) fun t =>
  ah (aj x.2.1 t) fun t=>again (v7,t,aQ)) (again (v7,x.2.1,aQ))) none) (ah (az (0
  : Int)) fun t=>ah (aw t x.2.1) fun t=>some t)) (0,t,aQ)) none
abbrev RF:=ty2->Option ((Bool×List Int)×Bool×List Int)
def dx:RF:=lW lpK jnK az aj aw aF
def VK:Ctr:=⟨[pk],[],[],.one fW,fun x _ _=>dx x.1⟩
theorem YL (lp:Lp) (jn:Jn) (az:xN) (aj:vO) (aw:Fx) (aF:Ar):∀x F y,lW lp jn az aj aw aF x.1=rC lp jn [(253,KC aF),(214,PC aw),(212,Gj aj),(211,Jp az)] 245 f245 VK x F y:=fun x F y=>by kernel_rfl
theorem WO:VK.ok prog 245:=od (aa (aa (aa (aa (aK) rfl Ec) rfl Bh) rfl Kb) rfl H9) func245 (YL lpK jnK az aj aw aF)
def sy (lp:Lp) (jn:Jn) (aj:vO) (aF:Ar) (x0:ty2) (x1:Int) (x2:Int) (x3:Bool):Option ((Bool×List Int)×Bool×List Int) :=
 
 let v6:=aq .i64 (x2 - x1);ah (aF 4000 [x0.2.2.2.2,v6,v6,v6]) fun t=>lp (Int×((Bool ×
  List Int)×Bool×List Int)×PUnit) ((Bool×List Int)×Bool×List Int) (fun again x =>
 let v10:=aq .i64 (x.1+1);
 let v11:=a_ x0.2.2.2.1 (aS x.1) (0,0);
 let v12:=decide (v11.1<=x1);
 let v13:=!v12;
 let v14:=!v13||v13;cond (decide (x.1<(↑(aC x0.2.2.2.1):Int))) (cond (inB x.1 (aC x0.2.2.2.1)) (cond v14 (cond (v14&&v14) (cond (
  v12||v13) (cond (cond v12 true (decide (v11.1>=x2))) (again (v10,x.2.1,aQ)) (jn (Int×PUnit) ((Bool×List Int)×Bool×List Int) (fun x_1=>ah (aF v6 [v11.2,x_1.1,aq .i64 (aq .i64 (v6*v6) - aq .i64 (x_1.1*x_1.1))]) fun t=>ah (aj x.2.1 t) fun t=>again (v10,t,aQ)) fun j=>cond (!x3) (j (aq .i64 (x2 - v11.1),aQ)) (j (aq .i64 (v11.1 - x1),aQ)))) none) none) none) none) (some x.2.1)) (0,t,aQ)
abbrev PW:=ty2->(Int)->(Int)->(Bool)->Option ((Bool×List Int)×Bool×List Int)
def fU:PW:=sy lpK jnK aj aF
def VC (fU:PW):Ctr:=⟨[pk,i64,i64,.bool],[],[],.one fW,fun x _ _=>fU x.1 x.2.1 x.2.2.1 x.2.2.2.1⟩
def TY:Ctr:=VC fU
theorem Zw (lp:Lp) (jn:Jn) (aj:vO) (aF:Ar):∀x F y,sy lp jn aj aF x.1 x.2.1 x.2.2.1 x.2.2.2.1=rC lp jn [(253,KC aF),(212,Gj aj)] 247 f247 TY x F y:=fun x F y=>by kernel_rfl
theorem Wh:TY.ok prog 247:=od (aa (aa (aK) rfl Bh) rfl H9) func247 (Zw lpK jnK aj aF)
def jy (_:Lp) (_:Jn) (aO:Av) (ao:AA) (x0:ty3) (x1:ty3):Option ((Bool×List Int)×Bool×List Int) :=
 ah (ao x0.1 x1.1) fun t=>ah (ao x0.2 x1.2) fun t_1=>ah (aO t t_1) fun t=>some t
abbrev S0:=ty3->ty3->Option ((Bool×List Int)×Bool×List Int)
def bP:S0:=jy lpK jnK aO ao
def VV:Ctr:=⟨[fW,fW],[],[],.one fW,fun x _ _=>bP x.1 x.2.1⟩
theorem YI (lp:Lp) (jn:Jn) (aO:Av) (ao:AA):∀x F y,jy lp jn aO ao x.1 x.2.1=rC lp jn [(251,M7 ao),(250,Nj aO)] 248 f248 VV x F y:=fun x F y=>by kernel_rfl
theorem Ws:VV.ok prog 248:=od (aa (aa (aK) rfl H4) rfl G3) func248 (YI lpK jnK aO ao)
def mR (lp:Lp) (_:Jn) (az:xN) (bf:Jw) (aw:Fx) (bg:I7) (ce:Ip) (dx:RF) (fU:PW) (bP:S0) (x0:ty2):Option ((List ((Bool×List Int)×Bool×List Int))×Bool×Unit) :=
 
 let v3:=aq .i64 ((↑(aC x0.2.2.1):Int) - 1);
 let v4:List ((Bool×List Int)×Bool×List Int):=eX (aS (↑(aC x0.2.2.1):Int)) ((false,[]),false,[]);
 let v5:=decide (0<=(↑(aC x0.2.2.1):Int))&&fz (aS (↑(aC x0.2.2.1):Int)) 64;ah (dx x0) fun t=>ah (ce x0) fun t_1=>ah (dx t_1) fun t_2=>cond (decide ((↑(aC x0.2.2.1):Int)=1)) (ah (aw t t_2) fun t_3=>ah (bf
  t_3.1) fun t_4=>some ([t],decide (t_4=0),aQ)) (cond v5 (cond (inB 0 (aS (↑(aC x0.2.2.1):Int))) (cond (eS (1 :
  Nat) (aS (↑(aC x0.2.2.1):Int))) (cond (inB v3 (aS (↑(aC x0.2.2.1):Int))) (cond (eS (iD (aS v3)) (aS
  (↑(aC x0.2.2.1):Int))) (cond v5 (cond v5 (lp (Int×List ((Bool×List Int)×Bool×List Int)×List ((Bool×List Int)×Bool×List Int)×PUnit) (List
  ((Bool×List Int)×Bool×List Int)×Bool×PUnit) (fun again x =>
 let v11:=aq .i64 (x.1 - 1);
 let v12:=aq .i64 (x.1+1);
 let v13:=inB x.1 (aC x0.2.2.1);
 let v14:=a_ x0.2.2.1 (aS x.1) 0;
 let v15:=inB v11 (aC x0.2.2.1);
 let v16:=inB v12 (aC x0.2.2.1);
 let v17:=a_ x0.2.2.1 (aS v11) 0;
 let v18:=a_ x0.2.2.1 (aS v12) 0;
 let v19:=inB x.1 (aC x.2.1);
 let v20:=eS (iD (aS x.1)) (aC x.2.1);
 let v21:=inB x.1 (aC x.2.2.1);
 let v22:=eS (iD (aS x.1)) (aC x.2.2.1);
 let v23:=aq .i64 (v14 - v17);cond (decide (x.1<v3)) (cond v13 (cond v15 (cond v16 (cond v13 (ah (az (aq .i64 ((2 :
  Int)*aq .i64 (v23+aq .i64 (v18 - v14))))) fun t_3 =>
 let v25:List ((Bool×List Int)×Bool×List Int):=List.set x.2.1 (aS x.1) t_3;cond v19 (cond v20 (ah (az 0) fun t_4=>cond v15 (cond v13 (ah (fU x0 v17 v14 true) fun t_5=>ah (aw t_4 t_5) fun t_6=>cond v13 (cond v16 (ah (fU x0 v14 v18 false) fun t_7=>ah (aw t_6 t_7) fun t_8 =>
 let v31:List ((Bool×List Int)×Bool×List Int):=List.set x.2.2.1 (aS x.1) t_8;cond v21 (cond v22 (cond (decide (x.1=1)) (cond v21 (cond v22 (ah (az v23) fun t_9=>ah (bP t t_9) fun t=>ah (aw
  (a_ v31 (aS x.1) ((false,[]),false,[])) t) fun t=>cond v21 (cond v22 (again (v12,v25,List.set v31 (aS x.1)
  t,aQ)) none) none) none) none) (ah (az v23) fun t=>cond (inB v11 (aC x.2.1)) (cond (eS
  (iD (aS v11)) (aC x.2.1)) (ah (bg t (a_ v25 (aS v11) ((false,[]),false,[]))) fun t =>
  cond v19 (cond v20 (ah (az v23) fun t_9=>ah (bP t t_9) fun t_10 =>
  ah (aw (a_ v25 (aS x.1) ((false,[]),false,[])) t_10) fun t_11=>cond v19 (cond v20 (cond v21 (cond v22 (cond (inB v11 (aC x.2.2.1)) (cond (eS (iD (aS v11)) (aC x.2.2.1)) (ah (bP t (a_ v31 (aS v11)
  ((false,[]),false,[]))) fun t=>ah (aw (a_ v31 (aS x.1) ((false,[]),false,[])) t) fun t=>cond v21 (cond v22 (again (v12,List.set v25 (aS x.1) t_11,List.set v31 (aS x.1) t,aQ)) none) none) none) none) none) none) none) none) none) none) none) none)) none) none) none) none) none) none) none) none) none) none) none) none) (lp (Int×List ((Bool×List Int)×Bool×List Int)×PUnit) (List ((Bool×List Int)×Bool×List Int)×Bool×PUnit) (fun again x_1 =>
 let v26:=aq .i64 (x_1.1+1);cond (decide (x_1.1>0)) (cond (inB v26 (aC x0.2.2.1)) (cond (inB x_1.1 (aC
  x0.2.2.1)) (cond (inB x_1.1 (aC x.2.2.1)) (cond (eS (iD (aS x_1.1)) (aC x.2.2.1)) (cond (inB v26 (aC x_1.2.1)) (cond (eS (iD (aS v26)) (aC x_1.2.1)) (ah (az (aq .i64 (a_ x0.2.2.1 (aS v26) 0 - a_
  x0.2.2.1 (aS x_1.1) 0))) fun t=>ah (bP (a_ x_1.2.1 (aS v26) ((false,[]),false,[]))
  t) fun t=>ah (aw (a_ x.2.2.1 (aS x_1.1) ((false,[]),false,[])) t) fun t=>cond (inB x_1.1 (aC x.2.1)) (cond (eS (iD (aS x_1.1)) (aC x.2.1)) (ah (bg t (a_ x.2.1 (aS
  x_1.1) ((false,[]),false,[]))) fun t=>cond (inB x_1.1 (aC x_1.2.1)) (cond (eS (iD (aS x_1.1))
  (aC x_1.2.1)) (again (aq .i64 (x_1.1 - 1),List.set x_1.2.1 (aS x_1.1) t,aQ)) none) none) none) none) none) none) none) none) none) none) (some (x_1.2.1,true,aQ))) (aq .i64 ((↑(aC x0.2.2.1):Int) - 2),
  List.set (List.set v4 0 t) (aS v3) t_2,aQ))) (1,v4,v4,aQ)) none) none) none) none) none) none) none)
abbrev Rz:=ty2->Option ((List ((Bool×List Int)×Bool×List Int))×Bool×Unit)
def eU:Rz:=mR lpK jnK az bf aw bg ce dx fU bP
def WY:Ctr:=⟨[pk],[],[],.tup [(.sl fW),.bool],fun x _ _=>eU x.1⟩
theorem aam (lp:Lp) (jn:Jn) (az:xN) (bf:Jw) (aw:Fx) (bg:I7) (ce:Ip) (dx:RF) (fU:PW) (bP:S0):∀x F y,mR lp jn az bf aw bg ce dx fU bP x.1=rC lp jn [(248,⟨[fW,fW],[],[],.one fW,fun x _ _=>bP x.1 x.2.1⟩),(247,VC fU),(245,⟨[pk],[],[],.one fW,fun x _ _=>dx x.1⟩),(217,Sq ce),(215,R1 bg),(214,PC aw),(246,R3 bf),(211,Jp az)] 209 f209 WY x F y:=fun x F y=>by kernel_rfl
theorem Vg:WY.ok prog 209:=od (aa (aa (aa (aa (aa (aa (aa (aa (aK) rfl Ec) rfl Rj) rfl Kb) rfl Q8) rfl Ra) rfl WO) rfl Wh) rfl Ws) func209 (aam lpK jnK az bf aw bg ce dx fU bP)
def qm (_:Lp) (_:Jn) (gG:Tj) (eU:Rz) (x0:ty2):Option ((List ((Bool×List Int)×Bool×List Int))×Int×Unit) :=
 
 let v3:List ((Bool×List Int)×Bool×List Int):=[];ah (gG x0) fun t=>cond (!t) (some (v3,1,aQ)) (ah (eU x0) fun (t:List
  ((Bool×List Int)×Bool×List Int)×Bool×PUnit)=>cond (!t.2.1) (some (v3,22,aQ)) (some (t.1,0,aQ)))
abbrev SL:=ty2->Option ((List ((Bool×List Int)×Bool×List Int))×Int×Unit)
def gY:SL:=qm lpK jnK gG eU
def WH:Ctr:=⟨[pk],[],[],.tup [(.sl fW),i64],fun x _ _=>gY x.1⟩
theorem X9 (lp:Lp) (jn:Jn) (gG:Tj) (eU:Rz):∀x F y,qm lp jn gG eU x.1=rC lp jn [(209,⟨[pk],[],[],.tup [(.sl fW),.bool],fun x _ _=>eU x.1⟩),(208,⟨[pk],[],[],.one .bool,fun x _ _=>gG x.1⟩)] 156 f156 WH x F y:=fun x F y=>by kernel_rfl
theorem Wt:WH.ok prog 156:=od (aa (aa (aK) rfl UX) rfl Vg) func156 (X9 lpK jnK gG eU)
def iA (lp:Lp) (_:Jn) (x0:ty3):Option ((Int×Int)×Int×Unit) :=
 
 let v3:List (Bool×List Int):=[x0.1,x0.2];lp (Int×(Int×Int)×(Int×Int)×PUnit) ((Int×Int)×Int×PUnit) (fun again x =>
 let v6:=inB x.1 2;
 let v7:=eS (iD (aS x.1)) 2;
 let v8:=aq .i64 x.2.2.1.1;
 let v9:=aq .i64 x.2.2.1.2;cond (decide (x.1<2)) (cond v6 (cond (decide ((↑(aC (a_ v3 (aS x.1) (false,[])).2) :
  Int)>2)) (some ((0,0),5,aQ)) (lp (Int×(Int×Int)×PUnit) ((Int×Int)×Int×PUnit) (fun again_1 x_1 =>
 let v12:=aq .u64 (↑(Nat.lor (aS (a_ [x_1.2.1.1,x_1.2.1.2] (aS x.1) 0 % bY 18446744073709551616))
  (aS (aq .u64 (aq .u64 (a_ (a_ v3 (aS x.1) (false,[])).2 (aS x_1.1) 0)*2 ^ min (aS
  (aq .i64 (32*x_1.1))) 64) % bY 18446744073709551616))):Int);cond (decide (x_1.1<(↑(aC (a_ v3 (aS x.1)
  (false,[])).2):Int))) (cond (inB x_1.1 (aC (a_ v3 (aS x.1) (false,[])).2)) (cond v6 (cond v7 (cond (decide (0<=aq
  IntKind.i64 (32*x_1.1))) (cond v6 (cond v7 (again_1 (aq .i64 (x_1.1+1),(cond (f_ (aS x.1) 0) v12 x_1.2.1.1,cond (f_ (aS x.1) 1) v12 x_1.2.1.2),aQ)) none) none) none) none) none) none) (cond v6 (cond v7 (cond (decide (a_ [x_1.2.1.1,x_1.2.1.2] (aS x.1) 0>1152921504606846976)) (some ((0,0),5,aQ)) (
  again (aq .i64 (x.1+1),x.2.1,x_1.2.1,aQ))) none) none)) (0,x.2.2.1,aQ))) none) (cond x0.1.1 (
  some ((aq .i64 (0 - v8),v9),0,aQ)) (some ((v8,v9),0,aQ)))) (0,(0,0),(0,0),
  aQ)
abbrev Sn:=ty3->Option ((Int×Int)×Int×Unit)
def bU:Sn:=iA lpK jnK
def Xr:Ctr:=⟨[fW],[],[],.tup [T38,i64],fun x _ _=>bU x.1⟩
theorem Y0 (lp:Lp) (jn:Jn):∀x F y,iA lp jn x.1=rC lp jn [] 210 f210 Xr x F y:=fun x F y=>by kernel_rfl
theorem Wm:Xr.ok prog 210:=od (aK) func210 (Y0 lpK jnK)
def kP (lp:Lp) (_:Jn) (bU:Sn) (x0:List ((Bool×List Int)×Bool×List Int)):Option ((List (Int×Int))×Int×Unit) :=
 lp (List (Int×Int)×Int×PUnit) (List (Int×Int)×Int×PUnit) (fun again x=>cond (decide (x.2.1<(↑(aC x0):Int))) (cond (inB x.2.1 (aC x0)) (ah (bU (a_ x0 (aS x.2.1) ((false,[]),
  false,[]))) fun (t:(Int×Int)×Int×PUnit)=>cond (!decide (t.2.1=0)) (some ([],t.2.1,aQ)) (cond (fz (aC x.1+1) 16) (again (x.1++[t.1],aq .i64 (x.2.1+1),aQ)) none)) none) (some (x.1,0,aQ))) ([],0,aQ)
abbrev RH:=(List ((Bool×List Int)×Bool×List Int))->Option ((List (Int×Int))×Int×Unit)
def dy:RH:=kP lpK jnK bU
def Uk:Ctr:=⟨[(.sl fW)],[],[],.tup [(.sl T38),i64],fun x _ _=>dy x.1⟩
theorem Zu (lp:Lp) (jn:Jn) (bU:Sn):∀x F y,kP lp jn bU x.1=rC lp jn [(210,⟨[fW],[],[],.tup [T38,i64],fun x _ _=>bU x.1⟩)] 157 f157 Uk x F y:=fun x F y=>by kernel_rfl
theorem Vr:Uk.ok prog 157:=od (aa (aK) rfl Wm) func157 (Zu lpK jnK bU)
def ql (lp:Lp) (jn:Jn) (aj:vO) (aF:Ar) (x0:ty2) (x1:Int) (x2:Int) (x3:Bool):Option ((Bool×List Int)×Bool×List Int) :=
 
 let v6:=aq .i64 (x2 - x1);ah (aF 2000 [x0.2.2.2.2,v6]) fun t=>lp (Int×((Bool×List
  Int)×Bool×List Int)×PUnit) ((Bool×List Int)×Bool×List Int) (fun again x =>
 let v10:=aq .i64 (x.1+1);
 let v11:=a_ x0.2.2.2.1 (aS x.1) (0,0);
 let v12:=decide (v11.1<=x1);
 let v13:=!v12;
 let v14:=!v13||v13;cond (decide (x.1<(↑(aC x0.2.2.2.1):Int))) (cond (inB x.1 (aC x0.2.2.2.1)) (cond v14 (cond (v14&&v14) (cond (
  v12||v13) (cond (cond v12 true (decide (v11.1>=x2))) (again (v10,x.2.1,aQ)) (jn (Int×PUnit) ((Bool×List Int)×Bool×List Int) (fun x_1=>ah (aF v6 [v11.2,x_1.1]) fun t=>ah (aj x.2.1 t) fun t=>again (v10,t,aQ)) fun j=>cond (!x3) (j (aq .i64 (v11.1 - x1),aQ)) (j
  (aq .i64 (x2 - v11.1),aQ)))) none) none) none) none) (some x.2.1)) (0,t,aQ)
abbrev QU:=ty2->(Int)->(Int)->(Bool)->Option ((Bool×List Int)×Bool×List Int)
def dI:QU:=ql lpK jnK aj aF
def TF (dI:QU):Ctr:=⟨[pk,i64,i64,.bool],[],[],.one fW,fun x _ _=>dI x.1 x.2.1 x.2.2.1 x.2.2.2.1⟩
def U5:Ctr:=TF dI
theorem YW (lp:Lp) (jn:Jn) (aj:vO) (aF:Ar):∀x F y,ql lp jn aj aF x.1 x.2.1 x.2.2.1 x.2.2.2.1=rC lp jn [(253,KC aF),(212,Gj aj)] 213 f213 U5 x F y:=fun x F y=>by kernel_rfl
theorem Vl:U5.ok prog 213:=od (aa (aa (aK) rfl Bh) rfl H9) func213 (YW lpK jnK aj aF)
def pf (lp:Lp) (_:Jn) (az:xN) (aj:vO) (aF:Ar) (x0:ty2) (x1:Int):Option ((Bool×List Int)×Bool×List Int) :=
 ah (aF 1000 [x0.2.2.2.2,x1]) fun t=>lp (Int×((Bool×List Int)×Bool×List Int)×PUnit) ((Bool×List Int) ×
  Bool×List Int) (fun again x =>
 let v7:=aq .i64 (x.1+1);cond (decide (x.1<(↑(aC x0.2.2.2.1):Int))) (cond (inB x.1 (aC x0.2.2.2.1)) (cond (
  decide ((a_ x0.2.2.2.1 (aS x.1) (0,0)).1<x1)) (ah (az (a_ x0.2.2.2.1 (aS x.1) (0,(0 :
  Int))).2) fun t=>ah (aj x.2.1 t) fun t=>again (v7,t,aQ)) (again
  (v7,x.2.1,aQ))) none) (some x.2.1)) (0,t,aQ)
abbrev Ta:=ty2->(Int)->Option ((Bool×List Int)×Bool×List Int)
def fh:Ta:=pf lpK jnK az aj aF
def VN:Ctr:=⟨[pk,i64],[],[],.one fW,fun x _ _=>fh x.1 x.2.1⟩
theorem ZB (lp:Lp) (jn:Jn) (az:xN) (aj:vO) (aF:Ar):∀x F y,pf lp jn az aj aF x.1 x.2.1=rC lp jn [(253,KC aF),(212,Gj aj),(211,Jp az)] 216 f216 VN x F y:=fun x F y=>by kernel_rfl
theorem Wi:VN.ok prog 216:=od (aa (aa (aa (aK) rfl Ec) rfl Bh) rfl H9) func216 (ZB lpK jnK az aj aF)
def kE (lp:Lp) (jn:Jn) (az:xN) (aj:vO) (aw:Fx) (bg:I7) (ce:Ip) (dI:QU) (fh:Ta) (x0:ty2) (x1:List ((Bool×List Int)×Bool×List Int)):Option (List ((Bool×List Int)×Bool×List Int)) :=
 
 let v4:=aq .i64 ((↑(aC x0.2.2.1):Int) - 1);cond (decide (0<=(↑(aC x0.2.2.1):Int))&&fz (aS
  (↑(aC x0.2.2.1):Int)) 64) (lp (Int×List ((Bool×List Int)×Bool×List Int)×PUnit) (List ((Bool×List Int)×Bool×List Int)) (fun again x =>
 let v7:=inB x.1 (aC x1);
 let v8:=aq .i64 (x.1+1);
 let v9:=aq .i64 (x.1 - 1);
 let v10:=a_ x1 (aS x.1) ((false,[]),false,[]);
 let v11:=a_ x0.2.2.1 (aS x.1) 0;
 let v12:=a_ x0.2.2.1 (aS v8) 0;
 let v13:=a_ x0.2.2.1 (aS v9) 0;cond (decide (x.1<(↑(aC x0.2.2.1):Int))) (cond (inB x.1 (aC x0.2.2.1)) (ah
  (az 0) fun t=>cond (inB x.1 (aC x.2.1)) (cond (eS (iD (aS x.1)) (aC x.2.1)) (
  lp (Int×List ((Bool×List Int)×Bool×List Int)×PUnit) (List ((Bool×List Int)×Bool×List Int)) (fun again_1 x_1 =>
 let v17:=aq .i64 (x_1.1+1);
 let v18:List ((Bool×List Int)×Bool×List Int)×PUnit:=(x_1.2.1,aQ);
 let v19:=inB x.1 (aC x_1.2.1);
 let v20:=eS (iD (aS x.1)) (aC x_1.2.1);cond (decide (x_1.1<(↑(aC x0.2.2.2.1):Int))) (cond (inB x_1.1 (aC
  x0.2.2.2.1)) (cond (decide ((a_ x0.2.2.2.1 (aS x_1.1) (0,0)).1=v11)) (cond v19 (cond v20 (ah (az (a_
  x0.2.2.2.1 (aS x_1.1) (0,0)).2) fun t=>ah (aj (a_ x_1.2.1 (aS x.1)
  ((false,[]),false,[])) t) fun t=>cond v19 (cond v20 (again_1 (v17,List.set x_1.2.1 (aS x.1) t,aQ)) none) none) none) none) (again_1 (v17,v18))) none) (jn (List ((Bool×List Int)×Bool×List Int)×PUnit) (List ((Bool×List Int)×Bool×List Int)) (fun x_2 =>
 let v22:=inB x.1 (aC x_2.1);
 let v23:=eS (iD (aS x.1)) (aC x_2.1);jn (List ((Bool×List Int)×Bool×List Int)×PUnit) (List ((Bool×List Int)×Bool×List Int)) (fun
  x_3 =>
 let v25:=inB x.1 (aC x_3.1);
 let v26:=eS (iD (aS x.1)) (aC x_3.1);jn (List ((Bool×List Int)×Bool×List Int)×PUnit) (List ((Bool×List Int)×Bool×List Int)) (fun
  x_4 =>
 let v28:=inB x.1 (aC x_4.1);
 let v29:=eS (iD (aS x.1)) (aC x_4.1);cond (decide (x.1=v4)) (cond v28 (cond v29 (ah (ce x0) fun t=>ah (fh t (aq .i64 (x0.2.1 - v11))) fun t=>ah (aj (a_
  x_4.1 (aS x.1) ((false,[]),false,[])) t) fun t=>cond v28 (cond v29 (again (v8,List.set x_4.1 (aS x.1) t,
  aQ)) none) none) none) none) (again (v8,x_4.1,aQ))) fun j=>cond (decide (x.1=0)) (cond v25 (cond v26 (ah (fh x0 v11) fun t=>ah (aj
  (a_ x_3.1 (aS x.1) ((false,[]),false,[])) t) fun t=>cond v25 (cond v26 (j (List.set x_3.1 (aS x.1) t,
  aQ)) none) none) none) none) (j (x_3.1,aQ))) fun j=>cond (decide (v8<(↑(aC x0.2.2.1):Int))) (cond (inB v8 (aC x0.2.2.1)) (cond v22 (cond v23 (ah (dI x0 v11 v12 true) fun
  t=>ah (aj (a_ x_2.1 (aS x.1) ((false,[]),false,[])) t) fun t =>
  cond (inB v8 (aC x1)) (cond v7 (ah (aw (a_ x1 (aS v8) ((false,[]),false,[])) v10) fun t_1=>ah
  (az (aq .i64 (v12 - v11))) fun t_2=>ah (bg t_1 t_2) fun t_3 =>
  ah (aj t t_3) fun t=>cond v22 (cond v23 (j (List.set x_2.1 (aS x.1) t,aQ)) none) none) none) none) none) none) none) (j (x_2.1,aQ))) fun j=>cond (decide (x.1>0)) (cond (inB v9 (aC x0.2.2.1)) (cond v19 (cond v20 (ah (dI x0 v13 v11 false) fun t=>ah (aj (a_ x_1.2.1 (aS x.1) ((false,[]),false,[])) t) fun t=>cond (inB v9 (aC
  x1)) (cond v7 (ah (aw (a_ x1 (aS v9) ((false,[]),false,[])) v10) fun t_1=>ah (az
  (aq .i64 (v11 - v13))) fun t_2=>ah (bg t_1 t_2) fun t_3=>ah
  (aj t t_3) fun t=>cond v19 (cond v20 (j (List.set x_1.2.1 (aS x.1) t,aQ)) none) none) none) none) none) none) none) (j v18))) (0,List.set x.2.1 (aS x.1) t,aQ)) none) none) none) (some x.2.1)) (0,
  eX (aS (↑(aC x0.2.2.1):Int)) ((false,[]),false,[]),aQ)) none
abbrev OE:=ty2->(List ((Bool×List Int)×Bool×List Int))->Option (List ((Bool×List Int)×Bool×List Int))
def cD:OE:=kE lpK jnK az aj aw bg ce dI fh
def U8 (cD:OE):Ctr:=⟨[pk,(.sl fW)],[],[],.one (.sl fW),fun x _ _=>cD x.1 x.2.1⟩
def WW:Ctr:=U8 cD
theorem Zd (lp:Lp) (jn:Jn) (az:xN) (aj:vO) (aw:Fx) (bg:I7) (ce:Ip) (dI:QU) (fh:Ta):∀x F y,kE lp jn az aj aw bg ce dI fh x.1 x.2.1=rC lp jn [(216,⟨[pk,i64],[],[],.one fW,fun x _ _=>fh x.1 x.2.1⟩),(213,TF dI),(217,Sq ce),(215,R1 bg),(214,PC aw),(212,Gj aj),(211,Jp az)] 158 f158 WW x F y:=fun x F y=>by kernel_rfl
theorem WI:WW.ok prog 158:=od (aa (aa (aa (aa (aa (aa (aa (aK) rfl Ec) rfl Bh) rfl Kb) rfl Q8) rfl Ra) rfl Vl) rfl Wi) func158 (Zd lpK jnK az aj aw bg ce dI fh)
def kz (_:Lp) (_:Jn) (gY:SL) (dy:RH) (cD:OE) (x0:ty2):Option ((List (Int×Int))×Int×Unit) :=
 ah (gY x0) fun (t:List ((Bool×List Int)×Bool×List Int)×Int×PUnit)=>cond (!decide (t.2.1=0)) (some ([],t.2.1,aQ)) (ah
  (cD x0 t.1) fun t=>ah (dy t) fun (t:List (Int×Int)×Int×PUnit)=>some (t.1,t.2.1,aQ))
abbrev t91:=ty2->Option ((List (Int×Int))×Int×Unit)
def dw:t91:=kz lpK jnK gY dy cD
def c91:Ctr:=⟨[pk],[],[],.tup [(.sl T38),i64],fun x _ _=>dw x.1⟩
theorem e91 (lp:Lp) (jn:Jn) (gY:SL) (dy:RH) (cD:OE):∀x F y,kz lp jn gY dy cD x.1=rC lp jn [(158,U8 cD),(157,⟨[(.sl fW)],[],[],.tup [(.sl T38),i64],fun x _ _=>dy x.1⟩),(156,⟨[pk],[],[],.tup [(.sl fW),i64],fun x _ _=>gY x.1⟩)] 91 f91 c91 x F y:=fun x F y=>by kernel_rfl
theorem X6:c91.ok prog 91:=od (aa (aa (aa (aK) rfl Wt) rfl Vr) rfl WI) func91 (e91 lpK jnK gY dy cD)
set_option maxRecDepth 100000
def lH (_:Lp) (_:Jn) (x0:ty8):Option Int :=
 some (aq .i64 (x0.2.1+aq .i64 (Int.tdiv x0.2.2.1 2)))
abbrev SR:=ty8->Option (Int)
def eT:SR:=lH lpK jnK
def VP:Ctr:=⟨[jM],[],[],.one i64,fun x _ _=>eT x.1⟩
theorem Zl (lp:Lp) (jn:Jn):∀x F y,lH lp jn x.1=rC lp jn [] 159 f159 VP x F y:=fun x F y=>by kernel_rfl
theorem WU:VP.ok prog 159:=od (aK) func159 (Zl lpK jnK)
def lV (lp:Lp) (_:Jn) (eT:SR) (ay:Ay) (x0:ty1):Option (ByteArray×Int×(List Int)×(List (Int×Int))×Int) :=
 ah (ay x0.2.2.2.2.2.1) fun t=>lp (Int×ByteArray×Int×List Int×List (Int×Int)×Int×PUnit) (ByteArray×Int×List Int×List (Int ×
  Int)×Int) (fun again x =>
 let v6:=a_ x0.2.2.2.2.2.2.2.2.2.2.2.1 (aS x.1) ({ data:={ toList:=[] } },0,(0 :
  Int),0,0,0,0);cond (decide (x.1<(↑(aC x0.2.2.2.2.2.2.2.2.2.2.2.1):Int))) (cond (inB x.1 (aC
  x0.2.2.2.2.2.2.2.2.2.2.2.1)) (ah (eT v6) fun t=>cond (fz (aC x.2.2.2.2.1+1) 16) (again
  (aq .i64 (x.1+1),x.2.1,x.2.2.1,x.2.2.2.1,x.2.2.2.2.1++[(t,v6.2.2.2.1)],x.2.2.2.2.2.1,aQ)) none) none) (some (x.2.1,x.2.2.1,x.2.2.2.1,x.2.2.2.2.1,x.2.2.2.2.2.1))) (0,x0.1,x0.2.2.2.2.1,t,[],
  x0.2.2.2.2.2.2.1,aQ)
abbrev t92:=ty1->Option (ByteArray×Int×(List Int)×(List (Int×Int))×Int)
def dU:t92:=lV lpK jnK eT ay
def c92:Ctr:=⟨[T33],[],[],.one pk,fun x _ _=>dU x.1⟩
theorem e92 (lp:Lp) (jn:Jn) (eT:SR) (ay:Ay):∀(x:TsS c92.as) (F:TsF c92.fs) (y:TsS c92.cs),lV lp jn eT ay x.1=Az lp jn (cx [(159,⟨[jM],[],[],.one i64,fun x _ _=>eT x.1⟩)] [(140,wM),(128,uE),(113,sQ),(137,rM),(241,nf),(240,lR),(109,LH ay)]) gR 4 92 f92 c92 x F y:=fun x F y=>by kernel_rfl
theorem Yr:c92.ok prog 92:=od (aa (aK) rfl WU) func92 (e92 lpK jnK eT ay)
def nt (_:Lp) (_:Jn) (aJ:t42) (dw:t91) (dU:t92) (x0:ty1):Option ((List (Int×Int))×Int×Unit) :=
 ah (aJ x0) fun t=>cond (!t) (some ([],1,aQ)) (ah (dU x0) fun t=>ah
  (dw t) fun (t:List (Int×Int)×Int×PUnit)=>some (t.1,t.2.1,aQ))
abbrev t45:=ty1->Option ((List (Int×Int))×Int×Unit)
def bi:t45:=nt lpK jnK aJ dw dU
def k45 (bi:t45):Ctr:=⟨[T33],[],[],.tup [(.sl T38),i64],fun x _ _=>bi x.1⟩
def c45:Ctr:=k45 bi
theorem e45 (lp:Lp) (jn:Jn) (aJ:t42) (dw:t91) (dU:t92):∀x F y,nt lp jn aJ dw dU x.1=rC lp jn [(92,⟨[T33],[],[],.one pk,fun x _ _=>dU x.1⟩),(91,⟨[pk],[],[],.tup [(.sl T38),i64],fun x _ _=>dw x.1⟩),(42,k42 aJ)] 45 f45 c45 x F y:=fun x F y=>by kernel_rfl
theorem S7:c45.ok prog 45:=od (aa (aa (aa (aK) rfl P1) rfl X6) rfl Yr) func45 (e45 lpK jnK aJ dw dU)
def pV (_:Lp) (_:Jn) (bi:t45) (x0:ty1):Option ((List (Int×Int))×Int×Unit) :=
 ah (bi x0) fun (t:List (Int×Int)×Int×PUnit)=>some (t.1,t.2.1,aQ)
abbrev t37:=ty1->Option ((List (Int×Int))×Int×Unit)
def fc:t37:=pV lpK jnK bi
def c37:Ctr:=⟨[T33],[],[],.tup [(.sl T38),i64],fun x _ _=>fc x.1⟩
theorem e37 (lp:Lp) (jn:Jn) (bi:t45):∀x F y,pV lp jn bi x.1=rC lp jn [(45,k45 bi)] 37 f37 c37 x F y:=fun x F y=>by kernel_rfl
theorem Y8:c37.ok prog 37:=od (aa (aK) rfl S7) func37 (e37 lpK jnK bi)
def iy (lp:Lp) (_:Jn) (x0:List (Int×Int)) (f0:(((Int×Int)×Unit)->Option Bool)):Option Int :=
 lp (Int×PUnit) Int (fun again x=>cond (decide (x.1<(↑(aC x0):Int))) (cond (inB x.1 (aC x0)) (ah (f0
  (a_ x0 (aS x.1) (0,0),aQ)) fun t=>cond t (some x.1) (again (aq .i64 (x.1+1),aQ))) none) (some (-1))) (0,aQ)
abbrev t62:=(List (Int×Int))->((((Int×Int)×Unit)->Option Bool))->Option (Int)
def bI:t62:=iy lpK jnK
def k62 (bI:t62):Ctr:=⟨[(.sl T38)],[([T38],.bool)],[],.one i64,fun x F _=>bI x.1 F.1⟩
def c62:Ctr:=k62 bI
theorem e62 (lp:Lp) (jn:Jn):∀x F y,iy lp jn x.1 F.1=rC lp jn [] 62 f62 c62 x F y:=fun x F y=>by kernel_rfl
theorem YB:c62.ok prog 62:=od (aK) func62 (e62 lpK jnK)
def gH (_:Lp) (_:Jn) (bI:t62) (x0:List (Int×Int)) (f0:(((Int×Int)×Unit)->Option Bool)):Option Bool :=
 ah (bI x0 f0) fun t=>some (decide (t>=0))
abbrev t18:=(List (Int×Int))->((((Int×Int)×Unit)->Option Bool))->Option (Bool)
def aA:t18:=gH lpK jnK bI
def k18 (aA:t18):Ctr:=⟨[(.sl T38)],[([T38],.bool)],[],.one .bool,fun x F _=>aA x.1 F.1⟩
def c18:Ctr:=k18 aA
theorem e18 (lp:Lp) (jn:Jn) (bI:t62):∀x F y,gH lp jn bI x.1 F.1=rC lp jn [(62,k62 bI)] 18 f18 c18 x F y:=fun x F y=>by kernel_rfl
theorem UQ:c18.ok prog 18:=od (aa (aK) rfl YB) func18 (e18 lpK jnK bI)
def rK (_:Lp) (_:Jn) (aJ:t42) (x0:ty1) (x1:Int):Option Int :=
 
 let v4:=decide (x1<0);
 let v5:=!v4;
 let v6:=!v5||v5;ah (aJ x0) fun t=>cond (!t) (some 1) (cond v6 (cond v6 (cond (v6&&v6) (cond (v4||v5) (cond (cond v4 true (
  decide (x1>=(↑(aC x0.2.2.2.2.2.1):Int)))) (some 2) (cond (decide ((↑(aC x0.2.2.2.2.2.1):Int)=2)) (some 14) (some 0))) none) none) none) none)
abbrev Tv:=ty1->(Int)->Option (Int)
def fR:Tv:=rK lpK jnK aJ
def We:Ctr:=⟨[T33,i64],[],[],.one i64,fun x _ _=>fR x.1 x.2.1⟩
theorem YR (lp:Lp) (jn:Jn) (aJ:t42):∀x F y,rK lp jn aJ x.1 x.2.1=rC lp jn [(42,k42 aJ)] 141 f141 We x F y:=fun x F y=>by kernel_rfl
theorem Xq:We.ok prog 141:=od (aa (aK) rfl P1) func141 (YR lpK jnK aJ)
def lZ (_:Lp) (_:Jn) (_:List Int) (_:Int) (_:Int):Option (List Int) :=
 none
abbrev OM:=(List Int)->(Int)->(Int)->Option (List Int)
def cq:OM:=lZ lpK jnK
def Xl (cq:OM):Ctr:=⟨[(.sl i64),i64,i64],[],[],.one (.sl i64),fun x _ _=>cq x.1 x.2.1 x.2.2.1⟩
def Vf:Ctr:=Xl cq
theorem Yp (lp:Lp) (jn:Jn):∀x F y,lZ lp jn x.1 x.2.1 x.2.2.1=rC lp jn [] 239 f239 Vf x F y:=fun x F y=>by kernel_rfl
theorem W8:Vf.ok prog 239:=od (aK) func239 (Yp lpK jnK)
def um (_:Lp) (_:Jn) (cq:OM) (ay:Ay) (dM:Sk) (dQ:Su) (x0:ty1) (x1:Int):Option (ByteArray×Int×Int×Int×Int×(List Int)×Int×Int×Int×Int×Int×(List (ByteArray×Int×Int×Int×Int×Int×Int))×List (ByteArray×Int×Int)) :=
 ah (ay x0.2.2.2.2.2.1) fun t=>ah (cq t x1 (aq .i64 (x1+1))) fun t=>ah
  (dM x0.2.2.2.2.2.2.2.2.2.2.2.1) fun t_1=>ah (dQ
  x0.2.2.2.2.2.2.2.2.2.2.2.2) fun t_2=>some (x0.1,x0.2.1,x0.2.2.1,x0.2.2.2.1,x0.2.2.2.2.1,t,
  x0.2.2.2.2.2.2.1,x0.2.2.2.2.2.2.2.1,x0.2.2.2.2.2.2.2.2.1,x0.2.2.2.2.2.2.2.2.2.1,
  x0.2.2.2.2.2.2.2.2.2.2.1,t_1,t_2)
abbrev Tp:=ty1->(Int)->Option (ByteArray×Int×Int×Int×Int×(List Int)×Int×Int×Int×Int×Int×(List (ByteArray×Int×Int×Int×Int×Int×Int))×List (ByteArray×Int×Int))
def gT:Tp:=um lpK jnK cq ay dM dQ
def KI:Ctr:=⟨[T33,i64],[],[],.one T33,fun x _ _=>gT x.1 x.2.1⟩
theorem XZ (lp:Lp) (jn:Jn) (cq:OM) (ay:Ay) (dM:Sk) (dQ:Su):∀(x:TsS KI.as) (F:TsF KI.fs) (y:TsS KI.cs),um lp jn cq ay dM dQ x.1 x.2.1=Az lp jn (cx [(239,Xl cq)] [(140,wM),(128,uE),(113,sQ),(137,rM),(241,⟨[(.sl T92)],92,T92,fun x=>dQ x.1⟩),(240,⟨[(.sl jM)],142,jM,fun x=>dM x.1⟩),(109,LH ay)]) gR 4 205 f205 KI x F y:=fun x F y=>by kernel_rfl
theorem Ut:KI.ok prog 205:=od (aa (aK) rfl W8) func205 (XZ lpK jnK cq ay dM dQ)
def pC (_:Lp) (_:Jn) (bi:t45) (gT:Tp) (x0:ty1) (x1:Int):Option ((List (Int×Int))×Int×Unit) :=
 ah (gT x0 x1) fun t=>ah (bi t) fun (t:List (Int×Int)×Int×PUnit)=>cond (!decide (t.2.1=0)) (some ([],t.2.1,aQ)) (cond (slB x1 (↑(aC
  t.1):Int) (aC t.1)) (cond (decide ((↑1:Int)=0)) (some (t.1,0,aQ)) (cond (decide (x1=(↑(aC t.1):Int))) none none)) none)
abbrev Pm:=ty1->(Int)->Option ((List (Int×Int))×Int×Unit)
def du:Pm:=pC lpK jnK bi gT
def TE (du:Pm):Ctr:=⟨[T33,i64],[],[],.tup [(.sl T38),i64],fun x _ _=>du x.1 x.2.1⟩
def WA:Ctr:=TE du
theorem Z7 (lp:Lp) (jn:Jn) (bi:t45) (gT:Tp):∀x F y,pC lp jn bi gT x.1 x.2.1=rC lp jn [(205,⟨[T33,i64],[],[],.one T33,fun x _ _=>gT x.1 x.2.1⟩),(45,k45 bi)] 142 f142 WA x F y:=fun x F y=>by kernel_rfl
theorem Xo:WA.ok prog 142:=od (aa (aa (aK) rfl S7) rfl Ut) func142 (Z7 lpK jnK bi gT)
def qc (_:Lp) (_:Jn) (x0:Int×Int) (x1:Int×Int):Option Bool :=
 
 let v4:=decide (x0.1=x1.1);
 let v5:=decide (x0.1<x1.1);
 let v6:=!v5;
 let v7:=!v6;
 let v8:Bool:=v6&&v4;
 let v9:Bool:=v7||v6;
 let v10:=!v8||v8;cond v9 (cond v9 (cond (v9&&v9) (cond v9 (cond v10 (cond v10 (cond (v10&&v10) (cond ((v7||v9)&&(v7||(!v4||(v7||v8)))) (cond (v5
  || v6) (some (cond v5 true (cond v4 (decide (x0.2<x1.2)) false))) none) none) none) none) none) none) none) none) none
abbrev JM:=(Int×Int)->(Int×Int)->Option (Bool)
def cg:JM:=qc lpK jnK
def TC (cg:JM):Ctr:=⟨[pn,pn],[],[],.one .bool,fun x _ _=>cg x.1 x.2.1⟩
def Vh:Ctr:=TC cg
theorem Yb (lp:Lp) (jn:Jn):∀x F y,qc lp jn x.1 x.2.1=rC lp jn [] 161 f161 Vh x F y:=fun x F y=>by kernel_rfl
theorem QV:Vh.ok prog 161:=od (aK) func161 (Yb lpK jnK)
def xd (_:Lp) (jn:Jn) (aH:t97) (ax:t94) (aI:t98) (cg:JM) (x0:Int×Int) (x1:Int×Int):Option (Int×Int×Unit) :=
 
 let v4:=decide (x0.1<0);ah (ax x0) fun t =>
 let v6:=!t;
 let v7:=!v6;
 let v8:=!v7||v7;cond v8 (ah (cond v7 (ax x1) (some false)) fun t=>cond v8 (cond (v6||v7) (cond (cond v6 true (!t)) (some ((0 :
  Int),1,aQ)) (ah (aH x0.1) fun t=>ah (aI t (aq .u64 x1.2)) fun t=>ah (aH x1.1)
  fun t_1=>ah (aI t_1 (aq .u64 x0.2)) fun t_2=>cond (!decide (v4=decide (x1.1<0))) (cond v4 (some ((-1),
  0,aQ)) (some (1,0,aQ))) (jn ((Int×Int)×(Int×Int)×PUnit) (Int×Int×PUnit) (fun x=>ah
  (cg x.1 x.2.1) fun t=>cond t (some ((-1),0,aQ)) (ah (cg x.2.1 x.1) fun t=>cond t (some (1,
  0,aQ)) (some (0,0,aQ)))) fun j=>cond v4 (j (t_2,t,aQ)) (
  j (t,t_2,aQ))))) none) none) none
abbrev Ot:=(Int×Int)->(Int×Int)->Option (Int×Int×Unit)
def ip:Ot:=xd lpK jnK aH ax aI cg
def XE (ip:Ot):Ctr:=⟨[T38,T38],[],[],.tup [i64,i64],fun x _ _=>ip x.1 x.2.1⟩
def US:Ctr:=XE ip
theorem Yw (lp:Lp) (jn:Jn) (aH:t97) (ax:t94) (aI:t98) (cg:JM):∀x F y,xd lp jn aH ax aI cg x.1 x.2.1=rC lp jn [(161,TC cg),(98,k98 aI),(94,k94 ax),(97,k97 aH)] 144 f144 US x F y:=fun x F y=>by kernel_rfl
theorem XM:US.ok prog 144:=od (aa (aa (aa (aa (aK) rfl Lh) rfl JO) rfl TB) rfl QV) func144 (Yw lpK jnK aH ax aI cg)
def lk (_:Lp) (_:Jn) (ip:Ot) (x0:Int×Int) (y0:Int×Int):Option Bool :=
 
 let v4:=decide (x0.1<0);
 let v5:=!v4;ah (ip x0 y0) fun (t:Int×Int×PUnit)=>cond (!v5||v5) (cond (v4||v5) (some (cond v4 true (decide (t.1>0)))) none) none
abbrev SD:=(Int×Int)->(Int×Int)->Option (Bool)
def cU:SD:=lk lpK jnK ip
def UF:Ctr:=⟨[T38],[],[T38],.one .bool,fun x _ y=>cU x.1 y.1⟩
theorem YC (lp:Lp) (jn:Jn) (ip:Ot):∀x F y,lk lp jn ip x.1 y.1=rC lp jn [(144,XE ip)] 143 f143 UF x F y:=fun x F y=>by kernel_rfl
theorem VX:UF.ok prog 143:=od (aa (aK) rfl XM) func143 (YC lpK jnK ip)
def nL (lp:Lp) (_:Jn) (aA:t18) (fR:Tv) (du:Pm) (cU:SD) (x0:ty1):Option ((List Int)×Int×Unit) :=
 ah (fR x0 0) fun t=>cond (decide (t=0)) (lp (List Int×Int×PUnit) (List Int×Int×PUnit) (fun again x =>
 let v6:Int×PUnit:=(aq .i64 (x.2.1+1),aQ);cond (decide (x.2.1<(↑(aC x0.2.2.2.2.2.1):Int))) (ah
  (du x0 x.2.1) fun (t:List (Int×Int)×Int×PUnit)=>cond (!decide (t.2.1=0)) (some ([],t.2.1,aQ)) (ah (aA
  t.1 fun x=>cU x.1 (x0.2.2.2.2.2.2.2.2.2.1,1)) fun t=>cond t (cond (fz (aC x.1+(1 :
  Nat)) 8) (again (x.1++[x.2.1],v6)) none) (again (x.1,v6)))) (some (x.1,0,aQ))) ([],0,aQ)) (cond (decide (t=(14 :
  Int))) (some ([0,1],0,aQ)) (some ([],t,aQ)))
abbrev t77:=ty1->Option ((List Int)×Int×Unit)
def dP:t77:=nL lpK jnK aA fR du cU
def c77:Ctr:=⟨[T33],[],[],.tup [(.sl i64),i64],fun x _ _=>dP x.1⟩
theorem e77 (lp:Lp) (jn:Jn) (aA:t18) (fR:Tv) (du:Pm) (cU:SD):∀x F y,nL lp jn aA fR du cU x.1=rC lp jn [(143,⟨[T38],[],[T38],.one .bool,fun x _ y=>cU x.1 y.1⟩),(142,TE du),(141,⟨[T33,i64],[],[],.one i64,fun x _ _=>fR x.1 x.2.1⟩),(18,k18 aA)] 77 f77 c77 x F y:=fun x F y=>by kernel_rfl
theorem aaf:c77.ok prog 77:=od (aa (aa (aa (aa (aK) rfl UQ) rfl Xq) rfl Xo) rfl VX) func77 (e77 lpK jnK aA fR du cU)
def np (_:Lp) (_:Jn) (dP:t77) (x0:ty1):Option (Bool×Int×Int×Unit) :=
 ah (dP x0) fun (t:List Int×Int×PUnit)=>cond (!decide (t.2.1=0)) (some (false,0,t.2.1,aQ)) (cond (decide ((↑(aC
  t.1):Int)=0)) (some (true,(-1),0,aQ)) (cond (inB 0 (aC t.1)) (some (false,a_ t.1 0 0,(0 :
  Int),aQ)) none))
abbrev t38:=ty1->Option (Bool×Int×Int×Unit)
def dL:t38:=np lpK jnK dP
def c38:Ctr:=⟨[T33],[],[],.tup [.bool,i64,i64],fun x _ _=>dL x.1⟩
theorem e38 (lp:Lp) (jn:Jn) (dP:t77):∀x F y,np lp jn dP x.1=rC lp jn [(77,⟨[T33],[],[],.tup [(.sl i64),i64],fun x _ _=>dP x.1⟩)] 38 f38 c38 x F y:=fun x F y=>by kernel_rfl
theorem Zm:c38.ok prog 38:=od (aa (aK) rfl aaf) func38 (e38 lpK jnK dP)
def pS (_:Lp) (_:Jn) (aN:t12) (cX:t20) (ct:t24) (eI:t29) (fc:t37) (dL:t38):Option Bool :=
 
 let v2:List (ByteArray×List (ByteArray×Int×Int×Int)×Bool):=[];ah (aN 1) fun t =>
 let v4:ByteArray×Int×Int×Int:=({ data:=#[] },0,t);ah (aN 1) fun t =>
 let v6:ByteArray×Int×Int×Int:=({ data:=#[(98:UInt8)] },2,t);ah (aN 1) fun t =>
 let v8:List (ByteArray×Int)×List (ByteArray×List (ByteArray×Int×Int×Int)×Bool):=([({ data:=#[(98:UInt8)] },10)],({ data:=#[(114:UInt8)] },[v4,v6,({
  data:=#[] },0,t)],true) ::v2);ah (eI v8) fun (t:(Int×Int)×Int×PUnit) =>
 let v10:=decide (t.2.1=0);
 let v11:=!v10||v10;ah (ct v8 { data:={ toList:=[{ toBitVec:={ toFin:=⟨98,Nat.mod_lt 98 (BitVec.ofNat._proof_1 8)⟩ } }] } })
  fun (t_1:(Int×Int)×Int×PUnit) =>
 let v13:=decide (t_1.2.1=0);ah (fc ({ data:=#[(97:UInt8)] },0,0,9000,4000,[0,4000],(500 :
  Int),2000,1,1000,0,[],[])) fun (t_2:List (Int×Int)×Int×PUnit) =>
 let v15:=decide (t_2.2.1=0);ah (dL ({ data:=#[(97:UInt8)] },0,0,9000,4000,[0,4000],(500
  : Int),2000,1,1000,0,[],[])) fun (t_3:Bool×Int×Int×PUnit)=>ah (cond v10 (aN 5) (some (0,0)))
  fun t_4 =>
 let v18:=cond v10 (decide (t.1.1=t_4.1)&&(decide (t.1.2=t_4.2)&&true)) false;
 let v19:=cond v18 v13 false;
 let v20:=!v18||v18;
 let v21:=!v19||v19;cond (v11&&v11) (cond v11 (cond v20 (cond v20 (ah (cond v19 (aN 2) (some (0,0))) fun t =>
 let v23:=cond v19 (decide (t_1.1.1=t.1)&&(decide (t_1.1.2=t.2)&&true)) false;
 let v24:=cond v23 v15 false;
 let v25:=!v23||v23;
 let v26:=!v24||v24;
 let v27:Bool:=v26&&v26;cond (v21&&v21) (cond v21 (cond v25 (cond v25 (ah (cond v24 (aN 1000) (some (0,0))) fun t=>ah (cond v24 (aN 1000) (some (0,0))) fun t_5=>cond v27 (cond v27 (ah (cond v24 (cX t_2.1
  [t,t_5]) (some false)) fun t =>
 let v31:=cond v24 t false;
 let v32:=!v31||v31;
 let v33:=cond v31 (decide (t_3.2.2.1=0)) false;
 let v34:=!v33||v33;cond v26 (cond v32 (cond v32 (cond v34 (cond v34 (some (cond v33 (!t_3.1) false)) none) none) none) none) none) none) none) none) none) none) none) none) none) none) none
abbrev t5:=Option (Bool)
def cS:t5:=pS lpK jnK aN cX ct eI fc dL
def k5 (cS:t5):Ctr:=⟨[],[],[],.one .bool,fun _ _ _=>cS⟩
def c5:Ctr:=k5 cS
theorem e5 (lp:Lp) (jn:Jn) (aN:t12) (cX:t20) (ct:t24) (eI:t29) (fc:t37) (dL:t38):∀x F y,pS lp jn aN cX ct eI fc dL=rC lp jn [(38,⟨[T33],[],[],.tup [.bool,i64,i64],fun x _ _=>dL x.1⟩),(37,⟨[T33],[],[],.tup [(.sl T38),i64],fun x _ _=>fc x.1⟩),(29,k29 eI),(24,k24 ct),(20,k20 cX),(12,k12 aN)] 5 f5 c5 x F y:=fun x F y=>by kernel_rfl
theorem ok5:c5.ok prog 5:=od (aa (aa (aa (aa (aa (aa (aK) rfl UT) rfl aao) rfl Yl) rfl ZV) rfl Y8) rfl Zm) func5 (e5 lpK jnK aN cX ct eI fc dL)
def oG (lp:Lp) (_:Jn) (x0:ty1) (x1:Int):Option Bool :=
 
 let v4:=decide ((↑(ByteArray.size x0.1):Int)>60);
 let v5:=!v4;
 let v6:=!v5||v5;
 let v7:=cond v4 true (decide ((↑(aC x0.2.2.2.2.2.1):Int)>12));
 let v8:=!v7;
 let v9:=!v8;
 let v10:=decide ((↑(aC x0.2.2.2.2.2.2.2.2.2.2.2.1):Int)>x1);
 let v11:Bool:=v9||v8;
 let v12:Bool:=v8&&v10;
 let v13:=cond v7 true (cond v10 (decide ((↑(aC x0.2.2.2.2.2.2.2.2.2.2.2.1):Int)<=40)) false);
 let v14:=!v13;
 let v15:=!v12||v12;
 let v16:=cond v13 true (decide ((↑(aC x0.2.2.2.2.2.2.2.2.2.2.2.1):Int)>45));
 let v17:=!v16;
 let v18:=!v14||v14;
 let v19:=!v17||v17;cond v6 (cond v6 (cond v6 (cond (v4||v5) (cond v11 (cond v11 (cond (v11&&v11) (cond v11 (cond v15 (cond v15 (cond v15 (cond (
  (v9||v11)&&(v9||(!v10||(v9||v12)))) (cond (v7||v8) (cond v18 (cond v18 (cond v18 (cond (v13||v14) (cond v19 (cond v19 (cond v19 (cond (v16||v17) (
  cond (cond v16 true (decide ((↑(aC x0.2.2.2.2.2.2.2.2.2.2.2.2):Int)>10))) (some false) (lp (Int×PUnit) Bool (fun again x=>cond (decide (x.1<(↑(aC x0.2.2.2.2.2.2.2.2.2.2.2.1):Int))) (cond (inB x.1 (aC
  x0.2.2.2.2.2.2.2.2.2.2.2.1)) (cond (decide ((↑(ByteArray.size (a_ x0.2.2.2.2.2.2.2.2.2.2.2.1 (aS x.1) ({ data:={
  toList:=[] } },0,0,0,0,0,0)).1):Int)>60)) (some false) (again (aq .i64 (x.1+1),
  aQ))) none) (lp (Int×PUnit) Bool (fun again x=>cond (decide (x.1<(↑(aC
  x0.2.2.2.2.2.2.2.2.2.2.2.2):Int))) (cond (inB x.1 (aC x0.2.2.2.2.2.2.2.2.2.2.2.2)) (cond (decide ((↑(ByteArray.size
  (a_ x0.2.2.2.2.2.2.2.2.2.2.2.2 (aS x.1) ({ data:={ toList:=[] } },0,0)).1):Int)>60)) (some false) (
  again (aq .i64 (x.1+1),aQ))) none) (some true)) (0,aQ))) (0,aQ))) none) none) none) none) none) none) none) none) none) none) none) none) none) none) none) none) none) none) none) none) none
abbrev t39:=ty1->(Int)->Option (Bool)
def fS:t39:=oG lpK jnK
def c39:Ctr:=⟨[T33,i64],[],[],.one .bool,fun x _ _=>fS x.1 x.2.1⟩
theorem e39 (lp:Lp) (jn:Jn):∀x F y,oG lp jn x.1 x.2.1=rC lp jn [] 39 f39 c39 x F y:=fun x F y=>by kernel_rfl
theorem Z9:c39.ok prog 39:=od (aK) func39 (e39 lpK jnK)
def oV (lp:Lp) (_:Jn) (fS:t39) (x0:CC) (x1:Int):Option Bool :=
 
 let v4:=decide ((↑(aC x0.2.2.1):Int)>x1);
 let v5:=!v4;
 let v6:=cond v4 true (decide ((↑(aC x0.2.2.2):Int)>aq .i64 (x1+10)));
 let v7:=!v6;
 let v8:=!v5||v5;
 let v9:=!v7||v7;cond v8 (cond v8 (cond v8 (cond (v8&&v8) (cond (v4||v5) (cond v9 (cond v9 (cond v9 (cond (v6||v7) (cond (cond v6 true (decide
  ((↑(ByteArray.size x0.1):Int)>60))) (some false) (lp (Int×PUnit) Bool (fun again x=>cond (decide (x.1 <
  (↑(aC x0.2.2.1):Int))) (cond (inB x.1 (aC x0.2.2.1)) (ah (fS (a_ x0.2.2.1 (aS x.1) ({ data:={ toList:=[] } },
  0,0,0,0,[],0,0,0,0,0,[],[])) 8) fun t=>cond (!t) (some false) (again
  (aq .i64 (x.1+1),aQ))) none) (lp (Int×PUnit) Bool (fun again x=>cond (decide (x.1 <
  (↑(aC x0.2.2.2):Int))) (cond (inB x.1 (aC x0.2.2.2)) (cond (decide ((↑(ByteArray.size (a_ x0.2.2.2 (aS x.1) ({ data:={ toList
  :=[] } },0,0,0)).1):Int)>60)) (some false) (again (aq .i64 (x.1+1),aQ))) none) (some true))
  (0,aQ))) (0,aQ))) none) none) none) none) none) none) none) none) none
abbrev t6:=CC->(Int)->Option (Bool)
def fO:t6:=oV lpK jnK fS
def c6:Ctr:=⟨[T25,i64],[],[],.one .bool,fun x _ _=>fO x.1 x.2.1⟩
theorem e6 (lp:Lp) (jn:Jn) (fS:t39):∀x F y,oV lp jn fS x.1 x.2.1=rC lp jn [(39,⟨[T33,i64],[],[],.one .bool,fun x _ _=>fS x.1 x.2.1⟩)] 6 f6 c6 x F y:=fun x F y=>by kernel_rfl
theorem ok6:c6.ok prog 6:=od (aa (aK) rfl Z9) func6 (e6 lpK jnK fS)
def oU (_:Lp) (_:Jn) (ak:t40) (x0:ByteArray):Option Bool :=
 ah (ak x0) fun t=>some t
abbrev t80:=(ByteArray)->Option (Bool)
def fN:t80:=oU lpK jnK ak
def c80:Ctr:=⟨[.str],[],[],.one .bool,fun x _ _=>fN x.1⟩
theorem e80 (lp:Lp) (jn:Jn) (ak:t40):∀x F y,oU lp jn ak x.1=rC lp jn [(40,k40 ak)] 80 f80 c80 x F y:=fun x F y=>by kernel_rfl
theorem Zg:c80.ok prog 80:=od (aa (aK) rfl Eg) func80 (e80 lpK jnK ak)
def oA (_:Lp) (_:Jn) (x0:Int):Option Bool :=
 
 let v3:=decide (x0>=0);
 let v4:=!v3||v3;cond v4 (cond v4 (some (cond v3 (decide (x0<=1048576)) false)) none) none
abbrev t81:=(Int)->Option (Bool)
def bS:t81:=oA lpK jnK
def k81 (bS:t81):Ctr:=⟨[i64],[],[],.one .bool,fun x _ _=>bS x.1⟩
def c81:Ctr:=k81 bS
theorem e81 (lp:Lp) (jn:Jn):∀x F y,oA lp jn x.1=rC lp jn [] 81 f81 c81 x F y:=fun x F y=>by kernel_rfl
theorem UO:c81.ok prog 81:=od (aK) func81 (e81 lpK jnK)
def ig (lp:Lp) (_:Jn) (x0:ty4) (f0:(((ByteArray×Int×Int×Int)×Unit)->Option Bool)):Option Int :=
 lp (Int×PUnit) Int (fun again x=>cond (decide (x.1<(↑(aC x0):Int))) (cond (inB x.1 (aC x0)) (ah (f0
  (a_ x0 (aS x.1) ({ data:={ toList:=[] } },0,0,0),aQ)) fun t=>cond t (some x.1) (again (aq
  IntKind.i64 (x.1+1),aQ))) none) (some (-1))) (0,aQ)
abbrev O7:=ty4->((((ByteArray×Int×Int×Int)×Unit)->Option Bool))->Option (Int)
def bp:O7:=ig lpK jnK
def Ub (bp:O7):Ctr:=⟨[(.sl T85)],[([T85],.bool)],[],.one i64,fun x F _=>bp x.1 F.1⟩
def Xe:Ctr:=Ub bp
theorem Y1 (lp:Lp) (jn:Jn):∀x F y,ig lp jn x.1 F.1=rC lp jn [] 146 f146 Xe x F y:=fun x F y=>by kernel_rfl
theorem UH:Xe.ok prog 146:=od (aK) func146 (Y1 lpK jnK)
def gE (_:Lp) (_:Jn) (bp:O7) (x0:ty4) (f0:(((ByteArray×Int×Int×Int)×Unit)->Option Bool)):Option Bool :=
 ah (bp x0 f0) fun t=>some (decide (t>=0))
abbrev t82:=ty4->((((ByteArray×Int×Int×Int)×Unit)->Option Bool))->Option (Bool)
def aZ:t82:=gE lpK jnK bp
def k82 (aZ:t82):Ctr:=⟨[(.sl T85)],[([T85],.bool)],[],.one .bool,fun x F _=>aZ x.1 F.1⟩
def c82:Ctr:=k82 aZ
theorem e82 (lp:Lp) (jn:Jn) (bp:O7):∀x F y,gE lp jn bp x.1 F.1=rC lp jn [(146,Ub bp)] 82 f82 c82 x F y:=fun x F y=>by kernel_rfl
theorem Y5:c82.ok prog 82:=od (aa (aK) rfl UH) func82 (e82 lpK jnK bp)
def nR (_:Lp) (_:Jn) (x0:ByteArray×Int×Int×Int) (y0:ByteArray×Int×Int×Int):Option Bool :=
 some (List.beq (oF x0.1) (oF y0.1))
abbrev t83:=(ByteArray×Int×Int×Int)->(ByteArray×Int×Int×Int)->Option (Bool)
def eO:t83:=nR lpK jnK
def c83:Ctr:=⟨[T85],[],[T85],.one .bool,fun x _ y=>eO x.1 y.1⟩
theorem e83 (lp:Lp) (jn:Jn):∀x F y,nR lp jn x.1 y.1=rC lp jn [] 83 f83 c83 x F y:=fun x F y=>by kernel_rfl
theorem Yd:c83.ok prog 83:=od (aK) func83 (e83 lpK jnK)
def qp (lp:Lp) (_:Jn) (fN:t80) (bS:t81) (aZ:t82) (eO:t83) (x0:ty4):Option Bool :=
 cond (decide ((↑(aC x0):Int)>20)) (some false) (lp (Int×PUnit) Bool (fun again x =>
 let v5:=a_ x0 (aS x.1) ({ data:={ toList:=[] } },0,0,0);cond (decide (x.1<(↑(aC x0):Int))) (
  cond (inB x.1 (aC x0)) (ah (fN v5.1) fun t =>
 let v7:=!t;
 let v8:=!v7;
 let v9:=!v8||v8;cond v9 (cond v9 (ah (cond v8 (bS v5.2.1) (some false)) fun t =>
 let v11:=cond v7 true (!t);
 let v12:=!v11;
 let v13:=!v12||v12;cond v9 (cond (v7||v8) (cond v13 (cond v13 (ah (cond v12 (bS v5.2.2.1) (some false)) fun t =>
 let v15:=cond v11 true (!t);
 let v16:=!v15;
 let v17:=!v16||v16;
 let v18:=cond v15 true (decide (v5.2.1>v5.2.2.1));
 let v19:=!v18;
 let v20:=cond v18 true (decide (v5.2.2.2<0));
 let v21:=!v20;
 let v22:=!v19||v19;
 let v23:=!v21||v21;cond v13 (cond (v11||v12) (cond v17 (cond v17 (cond (v17&&v17) (cond (v15||v16) (cond v22 (cond v22 (cond (v18||v19) (cond v23 (cond v23 (cond (v20||v21) (cond (cond v20 true (decide (v5.2.2.2>67108864))) (some false) (cond (slB 0 x.1 (aC x0)) (ah
  (aZ (List.drop 0 (List.take (aS x.1) x0)) fun x=>eO x.1 v5) fun t=>cond t (
  some false) (again (aq .i64 (x.1+1),aQ))) none)) none) none) none) none) none) none) none) none) none) none) none) none) none) none) none) none) none) none) none) (some true)) (0,aQ))
abbrev t41:=ty4->Option (Bool)
def cA:t41:=qp lpK jnK fN bS aZ eO
def k41 (cA:t41):Ctr:=⟨[(.sl T85)],[],[],.one .bool,fun x _ _=>cA x.1⟩
def c41:Ctr:=k41 cA
theorem e41 (lp:Lp) (jn:Jn) (fN:t80) (bS:t81) (aZ:t82) (eO:t83):∀x F y,qp lp jn fN bS aZ eO x.1=rC lp jn [(83,⟨[T85],[],[T85],.one .bool,fun x _ y=>eO x.1 y.1⟩),(82,k82 aZ),(81,k81 bS),(80,⟨[.str],[],[],.one .bool,fun x _ _=>fN x.1⟩)] 41 f41 c41 x F y:=fun x F y=>by kernel_rfl
theorem Wc:c41.ok prog 41:=od (aa (aa (aa (aa (aK) rfl Zg) rfl UO) rfl Y5) rfl Yd) func41 (e41 lpK jnK fN bS aZ eO)
def iw (lp:Lp) (_:Jn) (x0:List (ByteArray×Int×Int×Int×Int×(List Int)×Int×Int×Int×Int×Int×(List (ByteArray×Int×Int×Int×Int×Int×Int))×List (ByteArray×Int×Int))) (f0:(((ByteArray×Int×Int×Int×Int×(List Int)×Int×Int×Int×Int×Int×(List (ByteArray×Int×Int×Int×Int×Int×Int))×List (ByteArray×Int×Int))×Unit)->Option Bool)):Option Int :=
 lp (Int×PUnit) Int (fun again x=>cond (decide (x.1<(↑(aC x0):Int))) (cond (inB x.1 (aC x0)) (ah (f0
  (a_ x0 (aS x.1) ({ data:={ toList:=[] } },0,0,0,0,[],0,0,0,0,0,[],[]),
  aQ)) fun t=>cond t (some x.1) (again (aq .i64 (x.1+1),aQ))) none) (some (-1))) (0,aQ)
abbrev t88:=(List (ByteArray×Int×Int×Int×Int×(List Int)×Int×Int×Int×Int×Int×(List (ByteArray×Int×Int×Int×Int×Int×Int))×List (ByteArray×Int×Int)))->((((ByteArray×Int×Int×Int×Int×(List Int)×Int×Int×Int×Int×Int×(List (ByteArray×Int×Int×Int×Int×Int×Int))×List (ByteArray×Int×Int))×Unit)->Option Bool))->Option (Int)
def bJ:t88:=iw lpK jnK
def k88 (bJ:t88):Ctr:=⟨[(.sl T33)],[([T33],.bool)],[],.one i64,fun x F _=>bJ x.1 F.1⟩
def c88:Ctr:=k88 bJ
theorem e88 (lp:Lp) (jn:Jn):∀x F y,iw lp jn x.1 F.1=rC lp jn [] 88 f88 c88 x F y:=fun x F y=>by kernel_rfl
theorem X3:c88.ok prog 88:=od (aK) func88 (e88 lpK jnK)
def nB (_:Lp) (_:Jn) (x0:ty1) (y0:ByteArray):Option Bool :=
 some (List.beq (oF x0.1) (oF y0))
abbrev t89:=ty1->(ByteArray)->Option (Bool)
def fB:t89:=nB lpK jnK
def c89:Ctr:=⟨[T33],[],[.str],.one .bool,fun x _ y=>fB x.1 y.1⟩
theorem e89 (lp:Lp) (jn:Jn):∀x F y,nB lp jn x.1 y.1=rC lp jn [] 89 f89 c89 x F y:=fun x F y=>by kernel_rfl
theorem YQ:c89.ok prog 89:=od (aK) func89 (e89 lpK jnK)
def qX (_:Lp) (_:Jn) (bJ:t88) (fB:t89) (x0:CC) (x1:ByteArray):Option Int :=
 ah (bJ x0.2.2.1 fun x=>fB x.1 x1) fun t=>some t
abbrev t43:=CC->(ByteArray)->Option (Int)
def gF:t43:=qX lpK jnK bJ fB
def c43:Ctr:=⟨[T25,.str],[],[],.one i64,fun x _ _=>gF x.1 x.2.1⟩
theorem e43 (lp:Lp) (jn:Jn) (bJ:t88) (fB:t89):∀x F y,qX lp jn bJ fB x.1 x.2.1=rC lp jn [(89,⟨[T33],[],[.str],.one .bool,fun x _ y=>fB x.1 y.1⟩),(88,k88 bJ)] 43 f43 c43 x F y:=fun x F y=>by kernel_rfl
theorem YU:c43.ok prog 43:=od (aa (aa (aK) rfl X3) rfl YQ) func43 (e43 lpK jnK bJ fB)
def oH (lp:Lp) (_:Jn) (ak:t40) (aJ:t42) (cA:t41) (gF:t43) (x0:CC):Option Bool :=
 
 let v3:=decide (x0.2.1<1);
 let v4:=decide (x0.2.1>1048576);
 let v5:=decide ((↑(aC x0.2.2.1):Int)>60);ah (ak x0.1) fun t =>
 let v7:=!t;
 let v8:=!v7;
 let v9:=cond v7 true v3;
 let v10:=!v9;
 let v11:=!v8||v8;
 let v12:=cond v9 true v4;
 let v13:=!v12;
 let v14:=cond v12 true v5;
 let v15:=!v14;
 let v16:=!v10||v10;
 let v17:=!v13||v13;
 let v18:=!v15||v15;cond v11 (cond v11 (cond (v7||v8) (cond v16 (cond v16 (cond (v9||v10) (cond v17 (cond v17 (cond v17 (cond (v12||v13) (cond v18 (cond v18 (ah (cond v15 (cA x0.2.2.2) (some false)) fun t=>cond v18 (cond (v14||v15) (cond (cond v14 true (!t)) (some false) (lp
  (Int×PUnit) Bool (fun again x =>
 let v22:=a_
  x0.2.2.1 (aS x.1) ({ data:={ toList:=[] } },0,0,0,0,[],0,0,0,0,0,[],[]);
 let v23:=decide (v22.2.2.2.1>x0.2.1);cond (decide (x.1<(↑(aC x0.2.2.1):Int))) (cond (inB x.1 (aC x0.2.2.1)) (ah
  (aJ v22) fun t =>
 let v25:=!t;
 let v26:=!v25;
 let v27:=cond v25 true v23;
 let v28:=!v27;
 let v29:=!v26||v26;
 let v30:=!v28||v28;
 let v31:Bool:=v30&&v30;cond v29 (cond v29 (cond (v29&&v29) (cond (v25||v26) (cond v30 (cond v31 (ah (cond v28 (gF x0 v22.1) (some 0))
  fun t=>cond v31 (cond (v27||v28) (cond (cond v27 true (!decide (t=x.1))) (some false) (again (aq .i64 (x.1+1),aQ))) none) none) none) none) none) none) none) none) none) (some true)) (0,aQ))) none) none) none) none) none) none) none) none) none) none) none) none) none) none
abbrev t7:=CC->Option (Bool)
def cb:t7:=oH lpK jnK ak aJ cA gF
def k7 (cb:t7):Ctr:=⟨[T25],[],[],.one .bool,fun x _ _=>cb x.1⟩
def c7:Ctr:=k7 cb
theorem e7 (lp:Lp) (jn:Jn) (ak:t40) (aJ:t42) (cA:t41) (gF:t43):∀x F y,oH lp jn ak aJ cA gF x.1=rC lp jn [(43,⟨[T25,.str],[],[],.one i64,fun x _ _=>gF x.1 x.2.1⟩),(41,k41 cA),(42,k42 aJ),(40,k40 ak)] 7 f7 c7 x F y:=fun x F y=>by kernel_rfl
theorem ok7:c7.ok prog 7:=od (aa (aa (aa (aa (aK) rfl Eg) rfl P1) rfl Wc) rfl YU) func7 (e7 lpK jnK ak aJ cA gF)
def oB (_:Lp) (_:Jn) (x0:ty1):Option Int :=
 some (aq .i64 (x0.2.2.2.2.2.2.1*aq .i64 (Int.tdiv x0.2.2.2.2.1 1000)))
abbrev t90:=ty1->Option (Int)
def fH:t90:=oB lpK jnK
def c90:Ctr:=⟨[T33],[],[],.one i64,fun x _ _=>fH x.1⟩
theorem e90 (lp:Lp) (jn:Jn):∀x F y,oB lp jn x.1=rC lp jn [] 90 f90 c90 x F y:=fun x F y=>by kernel_rfl
theorem aad:c90.ok prog 90:=od (aK) func90 (e90 lpK jnK)
def lU (lp:Lp) (_:Jn) (fH:t90) (x0:ty1):Option Int :=
 ah (fH x0) fun t=>lp (Int×Int×PUnit) Int (fun again x=>cond (decide (x.2.1<(↑(aC
  x0.2.2.2.2.2.2.2.2.2.2.2.1):Int))) (cond (inB x.2.1 (aC x0.2.2.2.2.2.2.2.2.2.2.2.1)) (again (aq .i64
  (x.1+(a_ x0.2.2.2.2.2.2.2.2.2.2.2.1 (aS x.2.1) ({ data:={ toList:=[] } },0,0,0,0,0,(0 :
  Int))).2.2.2.1),aq .i64 (x.2.1+1),aQ)) none) (some x.1)) (t,0,aQ)
abbrev t44:=ty1->Option (Int)
def ef:t44:=lU lpK jnK fH
def c44:Ctr:=⟨[T33],[],[],.one i64,fun x _ _=>ef x.1⟩
theorem e44 (lp:Lp) (jn:Jn) (fH:t90):∀x F y,lU lp jn fH x.1=rC lp jn [(90,⟨[T33],[],[],.one i64,fun x _ _=>fH x.1⟩)] 44 f44 c44 x F y:=fun x F y=>by kernel_rfl
theorem ZX:c44.ok prog 44:=od (aa (aK) rfl aad) func44 (e44 lpK jnK fH)
def jt (_:Lp) (_:Jn) (aJ:t42) (ef:t44) (x0:ty1):Option (Int×Int×Unit) :=
 ah (aJ x0) fun t=>cond (!t) (some (0,1,aQ)) (ah (ef x0) fun t=>some (t,0,aQ))
abbrev t8:=ty1->Option (Int×Int×Unit)
def aB:t8:=jt lpK jnK aJ ef
def k8 (aB:t8):Ctr:=⟨[T33],[],[],.tup [i64,i64],fun x _ _=>aB x.1⟩
def c8:Ctr:=k8 aB
theorem e8 (lp:Lp) (jn:Jn) (aJ:t42) (ef:t44):∀x F y,jt lp jn aJ ef x.1=rC lp jn [(44,⟨[T33],[],[],.one i64,fun x _ _=>ef x.1⟩),(42,k42 aJ)] 8 f8 c8 x F y:=fun x F y=>by kernel_rfl
theorem ok8:c8.ok prog 8:=od (aa (aa (aK) rfl P1) rfl ZX) func8 (e8 lpK jnK aJ ef)
def lI (lp:Lp) (_:Jn) (aB:t8) (x0:ty1):Option (Int×Int×Unit) :=
 ah (aB x0) fun (t:Int×Int×PUnit)=>cond (!decide (t.2.1=0)) (some (0,t.2.1,aQ)) (lp (Int×Int×PUnit) (Int×Int×PUnit) (fun
  again x=>cond (decide (x.2.1<(↑(aC x0.2.2.2.2.2.2.2.2.2.2.2.2):Int))) (cond (inB x.2.1 (aC x0.2.2.2.2.2.2.2.2.2.2.2.2)) (again (aq .i64 (x.1+aq .i64 ((a_
  x0.2.2.2.2.2.2.2.2.2.2.2.2 (aS x.2.1) ({ data:={ toList:=[] } },0,0)).2.1*(a_
  x0.2.2.2.2.2.2.2.2.2.2.2.2 (aS x.2.1) ({ data:={ toList:=[] } },0,0)).2.2)),aq .i64 (x.2.1+(1 :
  Int)),aQ)) none) (some (x.1,0,aQ))) (aq .i64 (t.1+x0.2.2.2.2.2.2.2.1),0,aQ))
abbrev t9:=ty1->Option (Int×Int×Unit)
def dW:t9:=lI lpK jnK aB
def c9:Ctr:=⟨[T33],[],[],.tup [i64,i64],fun x _ _=>dW x.1⟩
theorem e9 (lp:Lp) (jn:Jn) (aB:t8):∀x F y,lI lp jn aB x.1=rC lp jn [(8,k8 aB)] 9 f9 c9 x F y:=fun x F y=>by kernel_rfl
theorem ok9:c9.ok prog 9:=od (aa (aK) rfl ok8) func9 (e9 lpK jnK aB)
def oT (_:Lp) (_:Jn) (ax:t94) (x0:Int×Int):Option Bool :=
 ah (ax x0) fun t=>some !t
abbrev t93:=(Int×Int)->Option (Bool)
def fJ:t93:=oT lpK jnK ax
def c93:Ctr:=⟨[T38],[],[],.one .bool,fun x _ _=>fJ x.1⟩
theorem e93 (lp:Lp) (jn:Jn) (ax:t94):∀x F y,oT lp jn ax x.1=rC lp jn [(94,k94 ax)] 93 f93 c93 x F y:=fun x F y=>by kernel_rfl
theorem Zo:c93.ok prog 93:=od (aa (aK) rfl JO) func93 (e93 lpK jnK ax)
def qQ (_:Lp) (_:Jn) (x0:Int×Int) (x1:Int×Int):Option (Int×Int) :=
 cond (decide ((0:Int)<=0)&&decide ((0:Int)<=1)) (cond (decide (0<=Ak x0.2 x1.2 0)&&decide (Ak x0.2 x1.2 0<=1)) (
  some (EP x0.1 x1.1 (Ak x0.2 x1.2 0),EP x0.2 x1.2 0)) none) none
abbrev SI:=(Int×Int)->(Int×Int)->Option (Int×Int)
def gI:SI:=qQ lpK jnK
def UU:Ctr:=⟨[pn,pn],[],[],.one pn,fun x _ _=>gI x.1 x.2.1⟩
theorem YO (lp:Lp) (jn:Jn):∀x F y,qQ lp jn x.1 x.2.1=rC lp jn [] 160 f160 UU x F y:=fun x F y=>by kernel_rfl
theorem V6:UU.ok prog 160:=od (aK) func160 (YO lpK jnK)
def oZ (_:Lp) (_:Jn) (x0:Int×Int) (x1:Int×Int):Option (Int×Int) :=
 cond (decide ((0:Int)<=0)&&decide ((0:Int)<=1)) (cond (decide (0<=xO x0.2 x1.2 0)&&decide (xO x0.2 x1.2 0<=1)) (
  some (B7 x0.1 x1.1 (xO x0.2 x1.2 0),B7 x0.2 x1.2 0)) none) none
abbrev SQ:=(Int×Int)->(Int×Int)->Option (Int×Int)
def fg:SQ:=oZ lpK jnK
def Xd:Ctr:=⟨[pn,pn],[],[],.one pn,fun x _ _=>fg x.1 x.2.1⟩
theorem Zf (lp:Lp) (jn:Jn):∀x F y,oZ lp jn x.1 x.2.1=rC lp jn [] 162 f162 Xd x F y:=fun x F y=>by kernel_rfl
theorem Ue:Xd.ok prog 162:=od (aK) func162 (Zf lpK jnK)
def qu (_:Lp) (_:Jn) (cz:Iy) (x0:Int×Int) (x1:Int):Option ((Int×Int)×Int×Unit) :=
 
 let v4:Bool:=nzB x1;cond v4 (ah (cz (Int.tmod x0.1 x1) x0.2 x1) fun (t:Int×Int×PUnit)=>cond v4 (some ((aq .u64 (Int.tdiv x0.1 x1),
  t.1),t.2.1,aQ)) none) none
abbrev OY:=(Int×Int)->(Int)->Option ((Int×Int)×Int×Unit)
def dJ:OY:=qu lpK jnK cz
def WJ (dJ:OY):Ctr:=⟨[pn,(.int .u64)],[],[],.tup [pn,(.int .u64)],fun x _ _=>dJ x.1 x.2.1⟩
def WK:Ctr:=WJ dJ
theorem Ym (lp:Lp) (jn:Jn) (cz:Iy):∀x F y,qu lp jn cz x.1 x.2.1=rC lp jn [(220,Td cz)] 163 f163 WK x F y:=fun x F y=>by kernel_rfl
theorem Wv:WK.ok prog 163:=od (aa (aK) rfl Rm) func163 (Ym lpK jnK cz)
def sW (_:Lp) (jn:Jn) (bj:t96) (aH:t97) (ax:t94) (aI:t98) (aY:t99) (cg:JM) (gI:SI) (fg:SQ) (dJ:OY) (x0:Int×Int) (x1:Int×Int):Option ((Int×Int)×Int×Unit) :=
 
 let v4:=aq .u64 x0.2;
 let v5:=aq .u64 x1.2;
 let v6:=decide (x0.1<0);ah (ax x0) fun t =>
 let v8:=!t;
 let v9:=!v8;
 let v10:=!v9||v9;cond v10 (ah (cond v9 (ax x1) (some false)) fun t=>cond v10 (cond (v8||v9) (cond (cond v8 true (!t)) (some (((0 :
  Int),0),1,aQ)) (ah (bj v4 v5) fun t =>
 let v13:Bool:=nzB t;
 let v14:=aq .u64 (Int.tdiv v4 t);ah (aH x0.1) fun t_1=>cond v13 (ah (aI t_1 (aq .u64 (Int.tdiv v5 t)))
  fun t_2=>ah (aH x1.1) fun t_3=>cond v13 (ah (aI t_3 v14) fun t_4=>jn (Bool×(Int×Int)×PUnit) ((Int×Int) ×
  Int×PUnit) (fun x=>cond (decide (x.2.1.1=0)&&(decide (x.2.1.2=0)&&true)) (some ((0,1),(0 :
  Int),aQ)) (ah (dJ x.2.1 t) fun (t_5:(Int×Int)×Int×PUnit)=>ah (bj t t_5.2.1) fun t=>ah (dJ x.2.1 t) fun (t_6 :
  (Int×Int)×Int×PUnit) =>
 let v23:=decide (t_6.1.1>0);
 let v24:=!v23;
 let v25:=!v24||v24;cond v13 (cond (nzB t) (ah (aI v14 (aq .u64 (Int.tdiv v5 t))) fun t=>cond v25 (cond v25 (cond (v23 ||
  v24) (cond (cond v23 true (decide (t.1>0))) (some ((0,0),5,aQ)) (ah (aY x.1 t_6.1.2 t.2) fun (t:(Int
  × Int)×Int×PUnit)=>some (t.1,t.2.1,aQ))) none) none) none) none) none)) fun j=>cond (decide (v6=decide (x1.1<0))) (ah (gI t_2 t_4) fun t=>j (v6,t,aQ)) (ah (cg t_2 t_4) fun t=>jn (Bool
  × (Int×Int)×PUnit) ((Int×Int)×Int×PUnit) (fun x=>j (x.1,x.2.1,aQ)) fun j=>cond t (ah (fg t_4 t_2) fun t=>j (!v6,t,aQ)) (ah (fg t_2 t_4) fun t=>j (v6,t,aQ)))) none) none)) none) none) none
abbrev t95:=(Int×Int)->(Int×Int)->Option ((Int×Int)×Int×Unit)
def cn:t95:=sW lpK jnK bj aH ax aI aY cg gI fg dJ
def k95 (cn:t95):Ctr:=⟨[T38,T38],[],[],.tup [T38,i64],fun x _ _=>cn x.1 x.2.1⟩
def c95:Ctr:=k95 cn
theorem e95 (lp:Lp) (jn:Jn) (bj:t96) (aH:t97) (ax:t94) (aI:t98) (aY:t99) (cg:JM) (gI:SI) (fg:SQ) (dJ:OY):∀x F y,sW lp jn bj aH ax aI aY cg gI fg dJ x.1 x.2.1=rC lp jn [(163,WJ dJ),(162,⟨[pn,pn],[],[],.one pn,fun x _ _=>fg x.1 x.2.1⟩),(160,⟨[pn,pn],[],[],.one pn,fun x _ _=>gI x.1 x.2.1⟩),(161,TC cg),(99,k99 aY),(98,k98 aI),(94,k94 ax),(97,k97 aH),(96,k96 bj)] 95 f95 c95 x F y:=fun x F y=>by kernel_rfl
theorem Ul:c95.ok prog 95:=od (aa (aa (aa (aa (aa (aa (aa (aa (aa (aK) rfl O3) rfl Lh) rfl JO) rfl TB) rfl Tl) rfl QV) rfl V6) rfl Ue) rfl Wv) func95 (e95 lpK jnK bj aH ax aI aY cg gI fg dJ)
def td (lp:Lp) (_:Jn) (aA:t18) (fJ:t93) (cn:t95) (x0:List (Int×Int)):Option ((Int×Int)×Int×Unit) :=
 ah (aA x0 fun x=>fJ x.1) fun t=>cond t (some ((0,0),1,aQ)) (cond (decide
  ((↑(aC x0):Int)>1000)) (some ((0,0),4,aQ)) (lp (Int×(Int×Int)×(Int×Int)×PUnit) ((Int×Int)×Int×PUnit) (fun
  again x=>cond (decide (x.1<(↑(aC x0):Int))) (cond (inB x.1 (aC x0)) (ah (cn x.2.2.1 (a_ x0 (aS x.1) (0,0))) fun (t:(Int×Int)×Int×PUnit)=>cond (!decide
  (t.2.1=0)) (some ((0,0),t.2.1,aQ)) (again (aq .i64 (x.1+1),x.2.1,t.1,aQ))) none) (
  some (x.2.2.1,0,aQ))) (0,(0,0),(0,1),aQ)))
abbrev t46:=(List (Int×Int))->Option ((Int×Int)×Int×Unit)
def gm:t46:=td lpK jnK aA fJ cn
def c46:Ctr:=⟨[(.sl T38)],[],[],.tup [T38,i64],fun x _ _=>gm x.1⟩
theorem e46 (lp:Lp) (jn:Jn) (aA:t18) (fJ:t93) (cn:t95):∀x F y,td lp jn aA fJ cn x.1=rC lp jn [(95,k95 cn),(93,⟨[T38],[],[],.one .bool,fun x _ _=>fJ x.1⟩),(18,k18 aA)] 46 f46 c46 x F y:=fun x F y=>by kernel_rfl
theorem ZJ:c46.ok prog 46:=od (aa (aa (aa (aK) rfl UQ) rfl Zo) rfl Ul) func46 (e46 lpK jnK aA fJ cn)
def kx (_:Lp) (_:Jn) (x0:Int):Option (Int×Int) :=
 some (x0,1)
abbrev t48:=(Int)->Option (Int×Int)
def ej:t48:=kx lpK jnK
def c48:Ctr:=⟨[i64],[],[],.one T38,fun x _ _=>ej x.1⟩
theorem e48 (lp:Lp) (jn:Jn):∀x F y,kx lp jn x.1=rC lp jn [] 48 f48 c48 x F y:=fun x F y=>by kernel_rfl
theorem aac:c48.ok prog 48:=od (aK) func48 (e48 lpK jnK)
def lN (_:Lp) (_:Jn) (cH:t47) (bi:t45) (gm:t46) (ej:t48) (x0:ty1):Option ((Int×Int)×(Int×Int)×Int×Unit) :=
 ah (bi x0) fun (t:List (Int×Int)×Int×PUnit)=>cond (!decide (t.2.1=0)) (some ((0,0),(0,0),t.2.1,aQ)) (ah (gm t.1) fun (t:(Int×Int)×Int×PUnit)=>cond (!decide (t.2.1=0)) (some ((0,0),(0,0),t.2.1,aQ)) (ah (ej x0.2.2.2.2.2.2.2.2.1) fun t_1=>ah (cH t.1 t_1) fun (t_2:(Int×Int)×Int×PUnit)=>cond (!decide (t_2.2.1
  = 0)) (some ((0,0),(0,0),t_2.2.1,aQ)) (some (t.1,t_2.1,0,aQ))))
abbrev t10:=ty1->Option ((Int×Int)×(Int×Int)×Int×Unit)
def dS:t10:=lN lpK jnK cH bi gm ej
def c10:Ctr:=⟨[T33],[],[],.tup [T38,T38,i64],fun x _ _=>dS x.1⟩
theorem e10 (lp:Lp) (jn:Jn) (cH:t47) (bi:t45) (gm:t46) (ej:t48):∀x F y,lN lp jn cH bi gm ej x.1=rC lp jn [(48,⟨[i64],[],[],.one T38,fun x _ _=>ej x.1⟩),(46,⟨[(.sl T38)],[],[],.tup [T38,i64],fun x _ _=>gm x.1⟩),(45,k45 bi),(47,k47 cH)] 10 f10 c10 x F y:=fun x F y=>by kernel_rfl
theorem Yx:c10.ok prog 10:=od (aa (aa (aa (aa (aK) rfl WC) rfl S7) rfl ZJ) rfl aac) func10 (e10 lpK jnK cH bi gm ej)
def nH (_:Lp) (_:Jn) (aB:t8) (x0:ty1):Option (Int×Int×Unit) :=
 ah (aB x0) fun (t:Int×Int×PUnit)=>cond (!decide (t.2.1=0)) (some (0,t.2.1,aQ)) (some (aq .i64 (aq
  IntKind.i64 (t.1*x0.2.2.2.2.2.2.2.2.1) - x0.2.2.2.2.2.2.2.1),0,aQ))
abbrev t11:=ty1->Option (Int×Int×Unit)
def eM:t11:=nH lpK jnK aB
def c11:Ctr:=⟨[T33],[],[],.tup [i64,i64],fun x _ _=>eM x.1⟩
theorem e11 (lp:Lp) (jn:Jn) (aB:t8):∀x F y,nH lp jn aB x.1=rC lp jn [(8,k8 aB)] 11 f11 c11 x F y:=fun x F y=>by kernel_rfl
theorem ZY:c11.ok prog 11:=od (aa (aK) rfl ok8) func11 (e11 lpK jnK aB)
def gV (lp:Lp) (_:Jn) (x0:ty7) (f0:(((ByteArray×Int×Int)×Unit)->Option Bool)):Option Int :=
 lp (Int×PUnit) Int (fun again x=>cond (decide (x.1<(↑(aC x0):Int))) (cond (inB x.1 (aC x0)) (ah (f0
  (a_ x0 (aS x.1) ({ data:={ toList:=[] } },0,0),aQ)) fun t=>cond t (some x.1) (again (aq .i64 (x.1 +
  1),aQ))) none) (some (-1))) (0,aQ)
abbrev Pw:=ty7->((((ByteArray×Int×Int)×Unit)->Option Bool))->Option (Int)
def bG:Pw:=gV lpK jnK
def Vs (bG:Pw):Ctr:=⟨[(.sl T92)],[([T92],.bool)],[],.one i64,fun x F _=>bG x.1 F.1⟩
def Wk:Ctr:=Vs bG
theorem Ya (lp:Lp) (jn:Jn):∀x F y,gV lp jn x.1 F.1=rC lp jn [] 221 f221 Wk x F y:=fun x F y=>by kernel_rfl
theorem Xa:Wk.ok prog 221:=od (aK) func221 (Ya lpK jnK)
def gi (_:Lp) (_:Jn) (bG:Pw) (x0:ty7) (f0:(((ByteArray×Int×Int)×Unit)->Option Bool)):Option Bool :=
 ah (bG x0 f0) fun t=>some (decide (t>=0))
abbrev Pp:=ty7->((((ByteArray×Int×Int)×Unit)->Option Bool))->Option (Bool)
def aX:Pp:=gi lpK jnK bG
def Va (aX:Pp):Ctr:=⟨[(.sl T92)],[([T92],.bool)],[],.one .bool,fun x F _=>aX x.1 F.1⟩
def Uu:Ctr:=Va aX
theorem ZQ (lp:Lp) (jn:Jn) (bG:Pw):∀x F y,gi lp jn bG x.1 F.1=rC lp jn [(221,Vs bG)] 165 f165 Uu x F y:=fun x F y=>by kernel_rfl
theorem TR:Uu.ok prog 165:=od (aa (aK) rfl Xa) func165 (ZQ lpK jnK bG)
def lO (_:Lp) (_:Jn) (x0:ByteArray×Int×Int) (y0:ByteArray×Int×Int):Option Bool :=
 some (List.beq (oF x0.1) (oF y0.1))
abbrev Rr:=(ByteArray×Int×Int)->(ByteArray×Int×Int)->Option (Bool)
def dV:Rr:=lO lpK jnK
def UW:Ctr:=⟨[T92],[],[T92],.one .bool,fun x _ y=>dV x.1 y.1⟩
theorem YH (lp:Lp) (jn:Jn):∀x F y,lO lp jn x.1 y.1=rC lp jn [] 166 f166 UW x F y:=fun x F y=>by kernel_rfl
theorem VY:UW.ok prog 166:=od (aK) func166 (YH lpK jnK)
def pc (lp:Lp) (_:Jn) (ak:t40) (aX:Pp) (dV:Rr) (x0:ty7):Option Bool :=
 cond (decide ((↑(aC x0):Int)>8)) (some false) (lp (Int×Int×PUnit) Bool (fun again x =>
 let v5:=a_ x0 (aS x.2.1) ({ data:={ toList:=[] } },0,0);cond (decide (x.2.1<(↑(aC x0):Int))) (cond (inB
  x.2.1 (aC x0)) (ah (ak v5.1) fun t =>
 let v7:=!t;
 let v8:=!v7;
 let v9:=!v8||v8;
 let v10:=cond v7 true (decide (v5.2.1<1));
 let v11:=!v10;
 let v12:=cond v10 true (decide (v5.2.1>1048576));
 let v13:=!v12;
 let v14:=!v11||v11;
 let v15:=cond v12 true (decide (v5.2.2<0));
 let v16:=!v15;
 let v17:=!v13||v13;
 let v18:=!v16||v16;cond v9 (cond v9 (cond (v7||v8) (cond v14 (cond v14 (cond (v10||v11) (cond v17 (cond v17 (cond (v12||v13) (cond v18 (cond v18 (cond (v15||v16) (cond (cond v15 true (decide (v5.2.2>60))) (some false) (cond (slB 0 x.2.1 (aC x0)) (ah
  (aX (List.drop 0 (List.take (aS x.2.1) x0)) fun x=>dV x.1 v5) fun t=>cond t (
  some false) (again (aq .i64 (x.1+v5.2.2),aq .i64 (x.2.1+1),aQ))) none)) none) none) none) none) none) none) none) none) none) none) none) none) none) (some (decide (x.1<=60)))) (0,0,aQ))
abbrev SY:=ty7->Option (Bool)
def fP:SY:=pc lpK jnK ak aX dV
def T7:Ctr:=⟨[(.sl T92)],[],[],.one .bool,fun x _ _=>fP x.1⟩
theorem Zy (lp:Lp) (jn:Jn) (ak:t40) (aX:Pp) (dV:Rr):∀x F y,pc lp jn ak aX dV x.1=rC lp jn [(166,⟨[T92],[],[T92],.one .bool,fun x _ y=>dV x.1 y.1⟩),(165,Va aX),(40,k40 ak)] 100 f100 T7 x F y:=fun x F y=>by kernel_rfl
theorem U1:T7.ok prog 100:=od (aa (aa (aa (aK) rfl Eg) rfl TR) rfl VY) func100 (Zy lpK jnK ak aX dV)
def nu (lp:Lp) (_:Jn) (fP:SY) (x0:ty7) (x1:List Int):Option (Int×Int×Unit) :=
 ah (fP x0) fun t=>cond (!t) (some (0,1,aQ)) (cond (!decide ((↑(aC x1):Int)=(↑(aC x0):Int))) (some (0,
  3,aQ)) (lp (Int×Int×PUnit) (Int×Int×PUnit) (fun again x =>
 let v7:=inB x.2.1 (aC x0);
 let v8:=decide (a_ x1 (aS x.2.1) 0<0);
 let v9:=!v8;
 let v10:=!v9;
 let v11:Bool:=v10||v9;cond (decide (x.2.1<(↑(aC x1):Int))) (cond (inB x.2.1 (aC x1)) (cond (v11&&(v11&&(v10||v7))) (cond v11 (cond v11 (
  cond (v11&&v11) (cond (v8||v9) (cond (cond v8 true (decide (a_ x1 (aS x.2.1) 0>(a_ x0 (aS x.2.1) ({ data:={ toList:=[] } },
  0,0)).2.2))) (some (0,2,aQ)) (cond v7 (again (aq .i64 (x.1+aq .i64 (a_ x1 (aS
  x.2.1) 0*(a_ x0 (aS x.2.1) ({ data:={ toList:=[] } },0,0)).2.1)),aq .i64 (x.2.1+1),aQ)) none)) none) none) none) none) none) none) (some (x.1,0,aQ))) (0,0,aQ)))
abbrev t49:=ty7->(List Int)->Option (Int×Int×Unit)
def dh:t49:=nu lpK jnK fP
def k49 (dh:t49):Ctr:=⟨[(.sl T92),(.sl i64)],[],[],.tup [i64,i64],fun x _ _=>dh x.1 x.2.1⟩
def c49:Ctr:=k49 dh
theorem e49 (lp:Lp) (jn:Jn) (fP:SY):∀x F y,nu lp jn fP x.1 x.2.1=rC lp jn [(100,⟨[(.sl T92)],[],[],.one .bool,fun x _ _=>fP x.1⟩)] 49 f49 c49 x F y:=fun x F y=>by kernel_rfl
theorem Zq:c49.ok prog 49:=od (aa (aK) rfl U1) func49 (e49 lpK jnK fP)
def nO (_:Lp) (_:Jn) (bS:t81) (x0:Int×Int):Option Bool :=
 ah (bS x0.1) fun t =>
 let v4:=!t;
 let v5:=!v4;
 let v6:=!v5||v5;
 let v7:=cond v4 true (decide (x0.2<0));
 let v8:=!v7;
 let v9:=!v8||v8;cond v6 (cond v6 (cond (v4||v5) (cond v9 (cond v9 (cond (v7||v8) (some (cond v7 true (decide (x0.2>67108864)))) none) none) none) none) none) none
abbrev R9:=(Int×Int)->Option (Bool)
def eo:R9:=nO lpK jnK bS
def TZ:Ctr:=⟨[T98],[],[],.one .bool,fun x _ _=>eo x.1⟩
theorem Zj (lp:Lp) (jn:Jn) (bS:t81):∀x F y,nO lp jn bS x.1=rC lp jn [(81,k81 bS)] 168 f168 TZ x F y:=fun x F y=>by kernel_rfl
theorem V7:TZ.ok prog 168:=od (aa (aK) rfl UO) func168 (Zj lpK jnK bS)
def qD (_:Lp) (_:Jn) (av:Ju) (cA:t41) (eo:R9) (x0:ty4) (x1:List (Int×Int)):Option Int :=
 
 let v4:=decide ((↑(aC x1):Int)>1000);ah (cA x0) fun t =>
 let v6:=!t;
 let v7:=!v6;
 let v8:=cond v6 true v4;
 let v9:=!v8;
 let v10:=!v7||v7;cond v10 (cond v10 (cond (v6||v7) (cond (!v9||v9) (ah (cond v9 (av x1 fun x=>eo
  x.1) (some false)) fun t=>cond (v8||v9) (cond (cond v8 true t) (some 1) (some 0)) none) none) none) none) none
abbrev S5:=ty4->(List (Int×Int))->Option (Int)
def gB:S5:=qD lpK jnK av cA eo
def Vz:Ctr:=⟨[(.sl T85),(.sl T98)],[],[],.one i64,fun x _ _=>gB x.1 x.2.1⟩
theorem ZE (lp:Lp) (jn:Jn) (av:Ju) (cA:t41) (eo:R9):∀x F y,qD lp jn av cA eo x.1 x.2.1=rC lp jn [(168,⟨[T98],[],[],.one .bool,fun x _ _=>eo x.1⟩),(41,k41 cA),(167,R2 av)] 101 f101 Vz x F y:=fun x F y=>by kernel_rfl
theorem Wb:Vz.ok prog 101:=od (aa (aa (aa (aK) rfl Rl) rfl Wc) rfl V7) func101 (ZE lpK jnK av cA eo)
def wY (_:Lp) (_:Jn) (x0:Int):Option (Int×Int) :=
 some (x0,1)
abbrev SO:=(Int)->Option (Int×Int)
def mx:SO:=wY lpK jnK
def VD:Ctr:=⟨[i64],[],[],.one T38,fun x _ _=>mx x.1⟩
theorem Yu (lp:Lp) (jn:Jn):∀x F y,wY lp jn x.1=rC lp jn [] 169 f169 VD x F y:=fun x F y=>by kernel_rfl
theorem Xz:VD.ok prog 169:=od (aK) func169 (Yu lpK jnK)
def jA (lp:Lp) (_:Jn) (x0:ty4) (x1:Int):Option Int :=
 cond (HE x0) (lp (Nat×Int×PUnit) Int (fun again p=>cond (eS (iD p.1)
  (aC (jp x0 x1))) (again (iD p.1,aq .i64 (p.2.1+1),aQ)) (some p.2.1)) (0,0,aQ)) none
abbrev Tc:=ty4->(Int)->Option (Int)
def cj:Tc:=jA lpK jnK
def WM:Ctr:=⟨[(.sl T85),i64],[],[],.one i64,fun x _ _=>cj x.1 x.2.1⟩
theorem Z6 (lp:Lp) (jn:Jn):∀x F y,jA lp jn x.1 x.2.1=rC lp jn [] 170 f170 WM x F y:=fun x F y=>by kernel_rfl
theorem XB:WM.ok prog 170:=od (aK) func170 (Z6 lpK jnK)
def qf (lp:Lp) (_:Jn) (cC:IY) (cn:t95) (mx:SO) (cj:Tc) (bQ:Pv) (x0:ty4) (x1:List (Int×Int)):Option ((List (Int×Int))×Int×Unit) :=
 ah (mx 0) fun t=>ah (bQ [t] (↑(aC x0):Int)) fun t=>lp (Int×List (Int×Int)×Int×PUnit) (List (Int ×
  Int)×Int×PUnit) (fun again x=>cond (decide (x.1 <
  (↑(aC x1):Int))) (cond (inB x.1 (aC x1)) (ah (cj x0 (a_ x1 (aS x.1) (0,0)).1) fun t=>cond (decide
  (t=0)) (some ([],12,aQ)) (again (aq .i64 (x.1+1),x.2.1,x.2.2.1,aQ))) none) (lp (Int×List (Int
  × Int)×Int×List (Int×Int)×PUnit) (List (Int×Int)×Int×PUnit) (fun again x =>
 let v10:=a_ x1 (aS x.1) (0,0);
 let v11:List (Int×Unit):=jp x0 v10.1;cond (decide (x.1<(↑(aC x1):Int))) (cond (inB x.1 (aC x1)) (ah (cj x0 v10.1) fun
  t=>ah (cC v10.2 t) fun (t:(Int×Int)×Int×PUnit)=>cond (!decide (t.2.1=0)) (some ([],t.2.1,aQ)) (cond (HE x0) (lp (Nat×List (Int×Int)×Int×Int×List (Int×Int)×PUnit) (List (Int×Int)×Int×PUnit) (fun again_1 p =>
 let v16:=inB (a_ v11 p.1 (0,aQ)).1 (aC p.2.2.2.2.1);
 let v17:=eS (iD (aS (a_ v11 p.1 (0,aQ)).1)) (aC p.2.2.2.2.1);cond (eS (iD p.1) (aC v11)) (
  cond v16 (cond v17 (ah (cn (a_ p.2.2.2.2.1 (aS (a_ v11 p.1 (0,aQ)).1) (0,0)) t.1) fun (t:(Int ×
  Int)×Int×PUnit)=>cond v16 (cond v17 (cond (!decide (t.2.1=0)) (some ([],t.2.1,aQ)) (again_1 (iD p.1,p.2.1,p.2.2.1,
  t.2.1,List.set p.2.2.2.2.1 (aS (a_ v11 p.1 (0,aQ)).1) t.1,aQ))) none) none) none) none) (again
  (aq .i64 (x.1+1),p.2.1,p.2.2.1,p.2.2.2.2.1,aQ))) (0,x.2.1,x.2.2.1,t.2.1,x.2.2.2.1,
  aQ)) none)) none) (some (x.2.2.2.1,0,aQ))) (0,x.2.1,x.2.2.1,t,aQ))) (0,[],0,aQ)
abbrev O6:=ty4->(List (Int×Int))->Option ((List (Int×Int))×Int×Unit)
def fw:O6:=qf lpK jnK cC cn mx cj bQ
def VL (fw:O6):Ctr:=⟨[(.sl T85),(.sl T98)],[],[],.tup [(.sl T38),i64],fun x _ _=>fw x.1 x.2.1⟩
def Kf:Ctr:=VL fw
theorem ZU (lp:Lp) (jn:Jn) (cC:IY) (cn:t95) (mx:SO) (cj:Tc) (bQ:Pv):∀(x:TsS Kf.as) (F:TsF Kf.fs) (y:TsS Kf.cs),qf lp jn cC cn mx cj bQ x.1 x.2.1=Az lp jn (cx [(170,⟨[(.sl T85),i64],[],[],.one i64,fun x _ _=>cj x.1 x.2.1⟩),(169,⟨[i64],[],[],.one T38,fun x _ _=>mx x.1⟩),(95,k95 cn),(111,R8 cC)] [(140,wM),(128,uE),(113,sQ),(137,XH bQ),(241,nf),(240,lR),(109,mw)]) gR 4 102 f102 Kf x F y:=fun x F y=>by kernel_rfl
theorem U9:Kf.ok prog 102:=od (aa (aa (aa (aa (aK) rfl Rc) rfl Ul) rfl Xz) rfl XB) func102 (ZU lpK jnK cC cn mx cj bQ)
def qJ (_:Lp) (_:Jn) (gB:S5) (fw:O6) (x0:ty4) (x1:List (Int×Int)):Option ((List (Int×Int))×Int×Unit) :=
 ah (gB x0 x1) fun t=>cond (!decide (t=0)) (some ([],t,aQ)) (ah (fw x0 x1) fun (t:List (Int×Int)×Int×PUnit)=>some (t.1,
  t.2.1,aQ))
abbrev t50:=ty4->(List (Int×Int))->Option ((List (Int×Int))×Int×Unit)
def fy:t50:=qJ lpK jnK gB fw
def k50 (fy:t50):Ctr:=⟨[(.sl T85),(.sl T98)],[],[],.tup [(.sl T38),i64],fun x _ _=>fy x.1 x.2.1⟩
def c50:Ctr:=k50 fy
theorem e50 (lp:Lp) (jn:Jn) (gB:S5) (fw:O6):∀x F y,qJ lp jn gB fw x.1 x.2.1=rC lp jn [(102,VL fw),(101,⟨[(.sl T85),(.sl T98)],[],[],.one i64,fun x _ _=>gB x.1 x.2.1⟩)] 50 f50 c50 x F y:=fun x F y=>by kernel_rfl
theorem ZZ:c50.ok prog 50:=od (aa (aa (aK) rfl Wb) rfl U9) func50 (e50 lpK jnK gB fw)
def pj (lp:Lp) (_:Jn) (cb:t7) (aB:t8) (dh:t49) (fy:t50) (x0:CC):Option ((List (Int×Int))×Int×Unit) :=
 ah (cb x0) fun t=>cond (!t) (some ([],1,aQ)) (lp (List (Int×Int)×Int×PUnit) (List (Int×Int)×Int×PUnit) (fun again x =>
 let v6:=a_
  x0.2.2.1 (aS x.2.1) ({ data:={ toList:=[] } },0,0,0,0,[],0,0,0,0,0,[],[]);cond (
  decide (x.2.1<(↑(aC x0.2.2.1):Int))) (cond (inB x.2.1 (aC x0.2.2.1)) (ah (aB v6) fun (t:Int×Int×PUnit)=>cond (!decide
  (t.2.1=0)) (some ([],t.2.1,aQ)) (lp (List Int×Int×PUnit) (List (Int×Int)×Int×PUnit) (fun again_1 x_1=>cond (decide (x_1.2.1<(↑(aC v6.2.2.2.2.2.2.2.2.2.2.2.2):Int))) (cond (inB
  x_1.2.1 (aC v6.2.2.2.2.2.2.2.2.2.2.2.2)) (cond (fz (aC x_1.1+1) 8) (again_1 (x_1.1++[(a_
  v6.2.2.2.2.2.2.2.2.2.2.2.2 (aS x_1.2.1) ({ data:={ toList:=[] } },0,0)).2.2],aq .i64 (x_1.2.1+(1 :
  Int)),aQ)) none) none) (ah (dh v6.2.2.2.2.2.2.2.2.2.2.2.2 x_1.1) fun (t_1:Int×Int×PUnit)=>cond (!decide (t_1.2.1 =
  0)) (some ([],t_1.2.1,aQ)) (cond (decide (aq .i64 (aq .i64 (t.1+v6.2.2.2.2.2.2.2.1)+t_1.1) >
  67108864)) (some ([],5,aQ)) (cond (fz (aC x.1+1) 16) (again (x.1++[(v6.2.1,aq .i64
  (aq .i64 (t.1+v6.2.2.2.2.2.2.2.1)+t_1.1))],aq .i64 (x.2.1+1),aQ)) none)))) ([],0,aQ))) none) (ah (fy x0.2.2.2 x.1) fun (t:List (Int×Int)×Int×PUnit)=>some (t.1,t.2.1,aQ))) ([],0,aQ))
abbrev t13:=CC->Option ((List (Int×Int))×Int×Unit)
def fM:t13:=pj lpK jnK cb aB dh fy
def c13:Ctr:=⟨[T25],[],[],.tup [(.sl T38),i64],fun x _ _=>fM x.1⟩
theorem e13 (lp:Lp) (jn:Jn) (cb:t7) (aB:t8) (dh:t49) (fy:t50):∀x F y,pj lp jn cb aB dh fy x.1=rC lp jn [(50,k50 fy),(49,k49 dh),(8,k8 aB),(7,k7 cb)] 13 f13 c13 x F y:=fun x F y=>by kernel_rfl
theorem ZO:c13.ok prog 13:=od (aa (aa (aa (aa (aK) rfl ok7) rfl ok8) rfl Zq) rfl ZZ) func13 (e13 lpK jnK cb aB dh fy)
def sR (_:Lp) (_:Jn) (x0:Int) (x1:Int):Option (Int×Int) :=
 
 let v4:Int:=2 ^ 32;
 let v5:Int:=l_ x0 v4;
 let v6:Int:=l_ x1 v4;
 let v7:=decide ((0:Int)<=32);
 let v8:=aq .u64 (↑(Nat.land (aS (x1 % bY 18446744073709551616)) (aS (4294967295 % bY 18446744073709551616))) :
  Int);
 let v9:=aq .u64 (↑(Nat.land (aS (x0 % bY 18446744073709551616)) (aS (4294967295 % bY 18446744073709551616))) :
  Int);
 let v10:=aq .u64 (v9*v8);
 let v11:=aq .u64 (aq .u64 (v5*v8)+l_ v10 v4);
 let v12:=aq .u64 (aq .u64 (v9*v6)+aq .u64 (↑(Nat.land (aS (v11 % bY 18446744073709551616)) (aS
  (4294967295 % bY 18446744073709551616))):Int));cond v7 (cond v7 (cond v7 (cond v7 (cond v7 (cond v7 (some (aq .u64
  (aq .u64 (aq .u64 (v5*v6)+l_ v11 v4)+l_ v12 v4),aq .u64 (aq .u64 (v12*v4)+aq
  IntKind.u64 (↑(Nat.land (aS (v10 % bY 18446744073709551616)) (aS (4294967295 % bY 18446744073709551616))):Int)))) none) none) none) none) none) none
abbrev t51:=(Int)->(Int)->Option (Int×Int)
def fp:t51:=sR lpK jnK
def k51 (fp:t51):Ctr:=⟨[(.int .u64),(.int .u64)],[],[],.one ij,fun x _ _=>fp x.1 x.2.1⟩
def c51:Ctr:=k51 fp
theorem e51 (lp:Lp) (jn:Jn):∀x F y,sR lp jn x.1 x.2.1=rC lp jn [] 51 f51 c51 x F y:=fun x F y=>by kernel_rfl
theorem ZN:c51.ok prog 51:=od (aK) func51 (e51 lpK jnK)
def qB (_:Lp) (_:Jn) (x0:Int):Option Int :=
 
 let v3:=aq .u64 x0;cond (decide (x0<0)) (some (aq .u64 (0 - v3))) (some v3)
abbrev t52:=(Int)->Option (Int)
def dK:t52:=qB lpK jnK
def c52:Ctr:=⟨[i64],[],[],.one (.int .u64),fun x _ _=>dK x.1⟩
theorem e52 (lp:Lp) (jn:Jn):∀x F y,qB lp jn x.1=rC lp jn [] 52 f52 c52 x F y:=fun x F y=>by kernel_rfl
theorem Zb:c52.ok prog 52:=od (aK) func52 (e52 lpK jnK)
def qn (_:Lp) (_:Jn) (x0:Int×Int) (x1:Int×Int):Option (Int×Int) :=
 
 let v4:=aq .u64 (x0.1+x1.1);
 let v5:=aq .u64 (x0.2+x1.2);cond (decide (v5<x0.2)) (some (aq .u64 (v4+1),v5)) (some (v4,v5))
abbrev t54:=(Int×Int)->(Int×Int)->Option (Int×Int)
def cB:t54:=qn lpK jnK
def k54 (cB:t54):Ctr:=⟨[ij,ij],[],[],.one ij,fun x _ _=>cB x.1 x.2.1⟩
def c54:Ctr:=k54 cB
theorem e54 (lp:Lp) (jn:Jn):∀x F y,qn lp jn x.1 x.2.1=rC lp jn [] 54 f54 c54 x F y:=fun x F y=>by kernel_rfl
theorem Uo:c54.ok prog 54:=od (aK) func54 (e54 lpK jnK)
def qE (_:Lp) (_:Jn) (x0:Int×Int) (x1:Int×Int):Option Bool :=
 
 let v4:=decide (x0.1=x1.1);
 let v5:=decide (x0.1<x1.1);
 let v6:=!v5;
 let v7:=!v6;
 let v8:Bool:=v6&&v4;
 let v9:Bool:=v7||v6;
 let v10:=!v8||v8;cond v9 (cond v9 (cond (v9&&v9) (cond v9 (cond v10 (cond v10 (cond (v10&&v10) (cond ((v7||v9)&&(v7||(!v4||(v7||v8)))) (cond (v5
  || v6) (some (cond v5 true (cond v4 (decide (x0.2<x1.2)) false))) none) none) none) none) none) none) none) none) none
abbrev t55:=(Int×Int)->(Int×Int)->Option (Bool)
def bE:t55:=qE lpK jnK
def k55 (bE:t55):Ctr:=⟨[ij,ij],[],[],.one .bool,fun x _ _=>bE x.1 x.2.1⟩
def c55:Ctr:=k55 bE
theorem e55 (lp:Lp) (jn:Jn):∀x F y,qE lp jn x.1 x.2.1=rC lp jn [] 55 f55 c55 x F y:=fun x F y=>by kernel_rfl
theorem S8:c55.ok prog 55:=od (aK) func55 (e55 lpK jnK)
def lc (_:Lp) (_:Jn) (x0:Int×Int) (x1:Int×Int):Option (Int×Int) :=
 
 let v4:=aq .u64 (x0.1 - x1.1);
 let v5:=aq .u64 (x0.2 - x1.2);cond (decide (x0.2<x1.2)) (some (aq .u64 (v4 - 1),v5)) (some (v4,v5))
abbrev t56:=(Int×Int)->(Int×Int)->Option (Int×Int)
def ba:t56:=lc lpK jnK
def k56 (ba:t56):Ctr:=⟨[ij,ij],[],[],.one ij,fun x _ _=>ba x.1 x.2.1⟩
def c56:Ctr:=k56 ba
theorem e56 (lp:Lp) (jn:Jn):∀x F y,lc lp jn x.1 x.2.1=rC lp jn [] 56 f56 c56 x F y:=fun x F y=>by kernel_rfl
theorem Se:c56.ok prog 56:=od (aK) func56 (e56 lpK jnK)
def qT (_:Lp) (_:Jn) (x0:Int×Int):Option (Int×Int) :=
 
 let v3:Int:=2 ^ 1;
 let v4:=decide ((0:Int)<=1);cond v4 (cond v4 (cond (decide ((0:Int)<=63)) (some (l_ x0.1 v3,aq .u64 (l_ x0.2 v3 +
  aq .u64 (x0.1*2 ^ 63)))) none) none) none
abbrev RL:=(Int×Int)->Option (Int×Int)
def eF:RL:=qT lpK jnK
def Ua:Ctr:=⟨[ij],[],[],.one ij,fun x _ _=>eF x.1⟩
theorem aak (lp:Lp) (jn:Jn):∀x F y,qT lp jn x.1=rC lp jn [] 172 f172 Ua x F y:=fun x F y=>by kernel_rfl
theorem WZ:Ua.ok prog 172:=od (aK) func172 (aak lpK jnK)
def so (lp:Lp) (_:Jn) (cB:t54) (bE:t55) (ba:t56) (eF:RL) (x0:Int×Int) (x1:Int×Int):Option (Int×Int) :=
 cond (decide (x0.1=0)&&(decide (x0.2=0)&&true)) (some x1) (lp (Int×(Int×Int)×(Int×Int)×PUnit) (Int×Int) (fun again x =>
 let v6:=decide (aq .u64 (↑(Nat.land (aS (x.2.1.2 % bY 18446744073709551616)) (aS (1 % bY (18446744073709551616
  : Nat)))):Int)=0);
 let v7:=!v6||v6;cond v7 (cond v7 (cond v7 (cond v7 (cond (cond v6 (decide (aq .u64 (↑(Nat.land (aS (x.2.2.1.2 % bY
  18446744073709551616)) (aS (1 % bY 18446744073709551616))):Int)=0)) false) (ah (eF x.2.1) fun t =>
  ah (eF x.2.2.1) fun t_1=>again (aq .i64 (x.1+1),t,t_1,aQ)) (lp ((Int×Int)×(Int×Int)×PUnit) (Int ×
  Int) (fun again x_1 =>
 let v10:(Int×Int)×PUnit:=(x_1.2.1,aQ);cond (!(decide (x_1.1.1=0)&&(decide (x_1.1.2=0)&&true))) (lp ((Int×Int)×PUnit) (Int×Int)
  (fun again_1 x=>cond (decide (aq .u64 (↑(Nat.land (aS (x.1.2 % bY
  18446744073709551616)) (aS (1 % bY 18446744073709551616))):Int)=0)) (ah (eF x.1) fun t=>again_1 (t,
  aQ)) (lp ((Int×Int)×PUnit) (Int×Int) (fun again_2 x_2=>cond (decide (aq .u64
  (↑(Nat.land (aS (x_2.1.2 % bY 18446744073709551616)) (aS (1 % bY 18446744073709551616))):Int)=0)) (ah
  (eF x_2.1) fun t=>again_2 (t,aQ)) (ah (bE x.1 x_2.1) fun t=>cond t (ah (ba x_2.1 x.1) fun t=>again (t,x.1,aQ)) (ah (ba x.1 x_2.1) fun t=>again (t,x_2.1,aQ)))) v10)) (x_1.1,aQ)) (lp (Int×(Int×Int)
  × PUnit) (Int×Int) (fun again x=>cond (decide (x.1>0)) (ah (cB x.2.1
  x.2.1) fun t=>again (aq .i64 (x.1 - 1),t,aQ)) (some x.2.1)) (x.1,v10))) (x.2.1,x.2.2.1,aQ))) none) none) none) none) (0,x0,x1,aQ))
abbrev RY:=(Int×Int)->(Int×Int)->Option (Int×Int)
def iu:RY:=so lpK jnK cB bE ba eF
def Xs:Ctr:=⟨[ij,ij],[],[],.one ij,fun x _ _=>iu x.1 x.2.1⟩
theorem aab (lp:Lp) (jn:Jn) (cB:t54) (bE:t55) (ba:t56) (eF:RL):∀x F y,so lp jn cB bE ba eF x.1 x.2.1=rC lp jn [(172,⟨[ij],[],[],.one ij,fun x _ _=>eF x.1⟩),(56,k56 ba),(55,k55 bE),(54,k54 cB)] 103 f103 Xs x F y:=fun x F y=>by kernel_rfl
theorem T8:Xs.ok prog 103:=od (aa (aa (aa (aa (aK) rfl Uo) rfl S8) rfl Se) rfl WZ) func103 (aab lpK jnK cB bE ba eF)
def sH (lp:Lp) (_:Jn) (bE:t55) (ba:t56) (x0:Int×Int) (x1:Int×Int):Option ((Int×Int)×(Int×Int)×Unit) :=
 
 let v4:Bool:=nzB x1.2;
 let v5:Int:=2 ^ 63;
 let v6:Int:=2 ^ 1;
 let v7:=decide (x0.1=0);
 let v8:=decide ((0:Int)<=63);
 let v9:=decide ((0:Int)<=1);
 let v10:=!v7||v7;cond v10 (cond v10 (cond v10 (cond (cond v7 (decide (x1.1=0)) false) (cond v4 (cond v4 (some ((0,aq
  IntKind.u64 (Int.tdiv x0.2 x1.2)),(0,Int.tmod x0.2 x1.2),aQ)) none) none) (lp (Int×(Int×Int)×(Int×Int)×(Int×Int)×PUnit) ((Int×Int)
  × (Int×Int)×PUnit) (fun again x =>
 let v13:=aq .i64 (x.1+1);
 let v14:=aq .u64 (x.2.2.1.2*v6);
 let v15:=aq .u64 (aq .u64 (x.2.2.1.1*v6)+l_ x.2.2.1.2 v5);
 let v16:=decide (l_ x.2.2.2.1.1 v5>0);
 let v17:=!v16;
 let v18:Int×Int:=(aq .u64 (aq .u64 (x.2.1.1*v6)+l_ x.2.1.2 v5),aq .u64 (x.2.1.2*v6));
 let v19:Int×Int:=(aq .u64 (aq .u64 (x.2.2.2.1.1*v6)+l_ x.2.2.2.1.2 v5),aq .u64 (aq
  IntKind.u64 (x.2.2.2.1.2*v6)+l_ x.2.1.1 v5));
 let v20:=!v17||v17;cond (decide (x.1<128)) (cond v8 (cond v9 (cond v8 (cond v9 (cond v8 (cond v9 (cond v8 (cond v9 (cond v9 (cond v8 (cond v9 (cond (v20&&v20) (ah (cond v17 (bE v19 x1) (some false)) fun t=>cond v20 (cond (v16||v17) (cond (cond v16 true (!t)) (ah
  (ba v19 x1) fun t=>again (v13,v18,(v15,aq .u64 (v14+1)),t,aQ)) (again (v13,v18,(v15,v14),v19,aQ))) none) none) none) none) none) none) none) none) none) none) none) none) none) none) (some (x.2.2.1,x.2.2.2.1,
  aQ))) (0,x0,(0,0),(0,0),aQ))) none) none) none
abbrev SX:=(Int×Int)->(Int×Int)->Option ((Int×Int)×(Int×Int)×Unit)
def gS:SX:=sH lpK jnK bE ba
def WG:Ctr:=⟨[ij,ij],[],[],.tup [ij,ij],fun x _ _=>gS x.1 x.2.1⟩
theorem YP (lp:Lp) (jn:Jn) (bE:t55) (ba:t56):∀x F y,sH lp jn bE ba x.1 x.2.1=rC lp jn [(56,k56 ba),(55,k55 bE)] 104 f104 WG x F y:=fun x F y=>by kernel_rfl
theorem U2:WG.ok prog 104:=od (aa (aa (aK) rfl S8) rfl Se) func104 (YP lpK jnK bE ba)
set_option maxRecDepth 100000
def rb (_:Lp) (_:Jn) (iu:RY) (gS:SX) (x0:Int×Int) (x1:Bool) (x2:Int×Int):Option ((Int×Int)×Int×Unit) :=
 cond (decide (x2.1=0)&&(decide (x2.2=0)&&true)) (some ((0,0),16,aQ)) (ah (iu x0 x2) fun t=>ah
  (gS x0 t) fun (t_1:(Int×Int)×(Int×Int)×PUnit) =>
 let v7:=aq .i64 t_1.1.2;
 let v8:=decide (t_1.1.1>0);
 let v9:=!v8;
 let v10:=cond v8 true (decide (t_1.1.2>1152921504606846976));
 let v11:=!v9||v9;
 let v12:=!v10;
 let v13:=!v12||v12;ah (gS x2 t) fun (t:(Int×Int)×(Int×Int)×PUnit) =>
 let v15:=aq .i64 t.1.2;
 let v16:=cond v10 true (decide (t.1.1>0));
 let v17:=!v16;
 let v18:=!v17||v17;cond v11 (cond v11 (cond (v8||v9) (cond v13 (cond v13 (cond (v10||v12) (cond v18 (cond v18 (cond (v16||v17) (cond (cond v16 true (decide (t.1.2>1152921504606846976))) (some ((0,0),5,aQ)) (cond x1 (some ((aq .i64 (0 - v7),
  v15),0,aQ)) (some ((v7,v15),0,aQ)))) none) none) none) none) none) none) none) none) none)
abbrev t53:=(Int×Int)->(Bool)->(Int×Int)->Option ((Int×Int)×Int×Unit)
def ep:t53:=rb lpK jnK iu gS
def k53 (ep:t53):Ctr:=⟨[ij,.bool,ij],[],[],.tup [T38,i64],fun x _ _=>ep x.1 x.2.1 x.2.2.1⟩
def c53:Ctr:=k53 ep
theorem e53 (lp:Lp) (jn:Jn) (iu:RY) (gS:SX):∀x F y,rb lp jn iu gS x.1 x.2.1 x.2.2.1=rC lp jn [(104,⟨[ij,ij],[],[],.tup [ij,ij],fun x _ _=>gS x.1 x.2.1⟩),(103,⟨[ij,ij],[],[],.one ij,fun x _ _=>iu x.1 x.2.1⟩)] 53 f53 c53 x F y:=fun x F y=>by kernel_rfl
theorem XU:c53.ok prog 53:=od (aa (aa (aK) rfl T8) rfl U2) func53 (e53 lpK jnK iu gS)
def rX (_:Lp) (_:Jn) (fp:t51) (dK:t52) (cB:t54) (bE:t55) (ba:t56) (ep:t53) (x0:Int×Int) (x1:Int×Int):Option ((Int×Int)×Int×Unit) :=
 
 let v4:=decide (x0.1<0);ah (dK x0.1) fun t=>ah (dK x1.2) fun t_1=>ah (fp t t_1) fun t=>ah
  (dK x1.1) fun t_2=>ah (dK x0.2) fun t_3=>ah (fp t_2 t_3) fun t_4=>ah (dK x0.2) fun t_5=>ah
  (dK x1.2) fun t_6=>ah (fp t_5 t_6) fun t_7=>cond (decide (v4=decide (x1.1<0))) (ah (cB t t_4) fun t=>ah (ep t v4 t_7) fun (t:(Int×Int)×Int×PUnit)=>some (t.1,t.2.1,aQ)) (ah (bE t t_4) fun t_8=>cond t_8 (ah
  (ba t_4 t) fun t=>ah (ep t (decide (x1.1<0)) t_7) fun (t:(Int×Int)×Int×PUnit)=>some (t.1,t.2.1,aQ)) (ah
  (ba t t_4) fun t=>ah (ep t v4 t_7) fun (t:(Int×Int)×Int×PUnit)=>some (t.1,t.2.1,aQ)))
abbrev t14:=(Int×Int)->(Int×Int)->Option ((Int×Int)×Int×Unit)
def io:t14:=rX lpK jnK fp dK cB bE ba ep
def c14:Ctr:=⟨[T38,T38],[],[],.tup [T38,i64],fun x _ _=>io x.1 x.2.1⟩
theorem e14 (lp:Lp) (jn:Jn) (fp:t51) (dK:t52) (cB:t54) (bE:t55) (ba:t56) (ep:t53):∀x F y,rX lp jn fp dK cB bE ba ep x.1 x.2.1=rC lp jn [(53,k53 ep),(56,k56 ba),(55,k55 bE),(54,k54 cB),(52,⟨[i64],[],[],.one (.int .u64),fun x _ _=>dK x.1⟩),(51,k51 fp)] 14 f14 c14 x F y:=fun x F y=>by kernel_rfl
theorem aah:c14.ok prog 14:=od (aa (aa (aa (aa (aa (aa (aK) rfl ZN) rfl Zb) rfl Uo) rfl S8) rfl Se) rfl XU) func14 (e14 lpK jnK fp dK cB bE ba ep)
def jR (lp:Lp) (_:Jn) (aN:t12) (cS:t5) (fO:t6) (cb:t7) (aB:t8) (dW:t9) (dS:t10) (eM:t11) (fM:t13) (io:t14) (x0:CC):Option Bool :=
 ah cS fun t=>cond (!t) (some false) (ah (fO x0 4) fun t =>
 let v5:=!t;
 let v6:=!v5;
 let v7:=!v6||v6;cond v7 (ah (cond v6 (cb x0) (some false)) fun t=>cond v7 (cond (v5||v6) (cond (cond v5 true (!t)) (some true) (
  lp (Int×Int×PUnit) Bool (fun again x =>
 let v11:Int×PUnit:=(aq .i64 (x.2.1+1),aQ);
 let v12:=a_
  x0.2.2.1 (aS x.2.1) ({ data:={ toList:=[] } },0,0,0,0,[],0,0,0,0,0,[],[]);cond (
  decide (x.2.1<(↑(aC x0.2.2.1):Int))) (cond (inB x.2.1 (aC x0.2.2.1)) (ah (aB v12) fun (t:Int×Int×PUnit) =>
 let v14:=!decide (t.2.1=0);
 let v15:=!v14;ah (dW v12) fun (t_1:Int×Int×PUnit)=>cond (!v15||v15) (cond (v14||v15) (cond (cond v14 true (!decide (t_1.2.1=0))) (some false) (ah (dS v12) fun (t_2:(Int×Int)×(Int×Int)×Int×PUnit)=>cond (!decide (t_2.2.2.1=0)) (again (aq .i64
  (x.1+t_1.1),v11)) (ah (eM v12) fun (t_3:Int×Int×PUnit) =>
 let v19:=!decide (t_3.2.1=0);
 let v20:=!v19;
 let v21:=!v20||v20;cond v21 (ah (cond v20 (aN t.1) (some (0,0))) fun t =>
 let v23:=cond v19 true (!(decide (t_2.1.1=t.1)&&(decide (t_2.1.2=t.2)&&true)));
 let v24:=!v23;
 let v25:=!v24||v24;
 let v26:Bool:=v25&&v25;cond (v21&&v21) (cond (v19||v20) (cond v25 (cond v26 (cond v25 (ah (cond v24 (aN (aq .i64 (t_3.1 +
  v12.2.2.2.2.2.2.2.1))) (some (0,0))) fun t=>cond v26 (cond (v23||v24) (cond (cond v23 true (!(decide (t_2.2.1.1 =
  t.1)&&(decide (t_2.2.1.2=t.2)&&true)))) (some false) (again (aq .i64 (x.1+t_1.1),v11))) none) none) none) none) none) none) none) none))) none) none) none) (ah (fM x0) fun (t:List (Int×Int)×Int×PUnit)=>cond (!decide (t.2.1=0)) (some (decide
  ((↑(aC t.1):Int)=0))) (ah (aN 0) fun t_1=>lp (Int×(Int×Int)×PUnit) Bool (fun again x_1=>cond (decide (x_1.1<(↑(aC t.1):Int))) (cond (inB x_1.1 (aC t.1)) (ah (io x_1.2.1
  (a_ t.1 (aS x_1.1) (0,0))) fun (t:(Int×Int)×Int×PUnit)=>cond (!decide (t.2.1=0)) (some true) (again (aq
  IntKind.i64 (x_1.1+1),t.1,aQ))) none) (ah (aN x.1) fun t=>some (decide (x_1.2.1.1=t.1)&&(decide
  (x_1.2.1.2=t.2)&&true)))) (0,t_1,aQ)))) (0,0,aQ))) none) none) none)
def lX (x0:ByteArray×Int×(List (ByteArray×Int×Int×Int×Int×(List Int)×Int×Int×Int×Int×Int×(List (ByteArray×Int×Int×Int×Int×Int×Int))×List (ByteArray×Int×Int)))×List (ByteArray×Int×Int×Int)):Option Bool:=jR lpK jnK aN cS fO cb aB dW dS eM fM io x0
def c3:Ctr:=⟨[T25],[],[],.one .bool,fun x _ _=>lX x.1⟩
theorem e3 (lp:Lp) (jn:Jn) (aN:t12) (cS:t5) (fO:t6) (cb:t7) (aB:t8) (dW:t9) (dS:t10) (eM:t11) (fM:t13) (io:t14):∀x F y,jR lp jn aN cS fO cb aB dW dS eM fM io x.1=rC lp jn [(14,⟨[T38,T38],[],[],.tup [T38,i64],fun x _ _=>io x.1 x.2.1⟩),(13,⟨[T25],[],[],.tup [(.sl T38),i64],fun x _ _=>fM x.1⟩),(11,⟨[T33],[],[],.tup [i64,i64],fun x _ _=>eM x.1⟩),(10,⟨[T33],[],[],.tup [T38,T38,i64],fun x _ _=>dS x.1⟩),(9,⟨[T33],[],[],.tup [i64,i64],fun x _ _=>dW x.1⟩),(8,k8 aB),(7,k7 cb),(6,⟨[T25,i64],[],[],.one .bool,fun x _ _=>fO x.1 x.2.1⟩),(5,k5 cS),(12,k12 aN)] 3 f3 c3 x F y:=fun x F y=>by kernel_rfl
theorem ok3:c3.ok prog 3:=od (aa (aa (aa (aa (aa (aa (aa (aa (aa (aa (aK) rfl UT) rfl ok5) rfl ok6) rfl ok7) rfl ok8) rfl ok9) rfl Yx) rfl ZY) rfl ZO) rfl aah) func3 (e3 lpK jnK aN cS fO cb aB dW dS eM fM io)
end
end Go.Proofs.YtlfdhaiigdllcaaGreat

namespace Go.Proofs.YtlfdhaiigdllcaaGreat
open Tryz Dn Dn.Sh
set_option maxRecDepth 100000
theorem Ti {x:Int} (h1:0<=x) (h2:x<18446744073709551616):aq .u64 x=x:=by
 rw[fD];omega
theorem wV {x:Int}:aq .u32 x=x % 4294967296:=by
 rw[IntKind.wrap_u32]
theorem gJ {i:Nat} (h:i<=100000000000):aq .i64 ((i:Int)+1)=((i+1:Nat):Int):=by rw[ap (by omega) (by omega)];rfl
theorem sf {i:Nat} (h0:1<=i) (h:i<=100000000000):aq .i64 ((i:Int) - 1)=((i - 1:Nat):Int):=by rw[ap (by omega) (by omega)];omega
theorem jnB {α R:Type} (j:α->Option R) (f:(α->Option R)->Option R):jnK α R j f=f j:=Eq.trans rfl rfl
theorem tA {n L:Nat} (h:n<pw L) (hL:L<=100000000):au (jg L fun i=>(dgt n i:Int))=some (wd n):=by
 have hw:=iI h
 unfold au nC
 refine gQ (α:=List Int×PUnit) (R:=List Int) (L - aM n) (by omega) (fun j=>(jg (L - j) (fun i=>(dgt n i:Int)),aQ)) _ rfl (fun again j hj=>?_) (fun again=>?_)
 ·have hz:(jg (L - j) (fun i=>(dgt n i:Int))).getD (L - j - 1) 0=0:=by
   rw[jk (by omega),li (bx (dD n) (ki (by omega)))]
   rfl
  simp only[fi,sf (show 1<=L - j by omega) (show L - j<=100000000000 by omega),z7 (show (((L - j:Nat)):Int)>0 by omega),bX,Bool.false_or,oK,cT,be,z7 (show L - j - 1<L - j by omega),z9,hz,decide_true,
   wG (show (0:Int)<=0 by omega) (show (0:Int)<=((L - j - 1:Nat):Int) by omega) (show ((L - j - 1:Nat):Int)<=((L - j:Nat):Int) by omega),JP (show L - j - 1<=L - j by omega),List.drop_zero]
  rfl
 ·rw[show L - (L - aM n)=aM n by omega]
  by_cases h0:n=0
  ·subst h0;rfl
  ·obtain ⟨h1,h2⟩:=ve h0
   have hnz:¬ (dgt n (aM n - 1):Int)=0:=by
    have e1:n / pw (aM n - 1)<4294967296:=(Nat.div_lt_iff_lt_mul (gj _)).2 (by
     have:=dD n
     rw[show aM n=aM n - 1+1 by omega,kY,iS] at this
     exact this)
    have e2:1<=n / pw (aM n - 1):=(Nat.one_le_div_iff (gj _)).2 h2
    unfold dgt
    omega
   simp only[fi,sf h1 (show aM n<=100000000000 by omega),z7 (show ((aM n:Nat):Int)>0 by omega),bX,Bool.false_or,oK,cT,be,z7 (show aM n - 1<aM n by omega),z9,jk (d:=(0:Int)) (f:=fun i=>(dgt n i:Int)) (show aM n - 1<aM n by omega),z8 hnz,cF]
   rfl
theorem nM {z:Int} (h: -9223372036854775808<=z/\z<9223372036854775808):bn z=some (decide (z<0),wd z.natAbs):=by
 have key:∀v:Nat,v<=9223372036854775808->au [aq q_ (v:Int),aq q_ (l_ (v:Int) (2 ^ 32))]=some (wd v):=fun v hv=>by
  have e:[aq q_ (v:Int),aq q_ (l_ (v:Int) (2 ^ 32))]=jg 2 fun i=>(dgt v i:Int):=by
   have h0:dgt v 0=v % 4294967296:=by unfold dgt;rw[kZ,Nat.div_one]
   have h1:dgt v 1=v / 4294967296 % 4294967296:=by unfold dgt;rw[Gf]
   show _=[(dgt v 0:Int),(dgt v 1:Int)]
   rw[wV,wV,h0,h1,Int.fdiv_eq_ediv_of_nonneg _ (by decide),show (2:Int) ^ 32=4294967296 from rfl]
   have a1:(v:Int) % 4294967296=((v % 4294967296:Nat):Int):=rfl
   have a2:(v:Int) / 4294967296 % 4294967296=((v / 4294967296 % 4294967296:Nat):Int):=rfl
   rw[a1,a2]
  rw[e]
  refine tA ?_ (by decide)
  have:pw 2=18446744073709551616:=rfl
  omega
 unfold bn ny
 by_cases hn:z<0
 ·have e1:aq .u64 (0 - aq .u64 z)=(z.natAbs:Int):=by
   rw[fD,fD];omega
  simp only[z7 hn,cT,e1,z7 (show (0:Int)<=32 by decide),key z.natAbs (by omega),af]
 ·have e1:aq .u64 z=(z.natAbs:Int):=by
   rw[fD];omega
  simp only[z8 hn,cF,e1,z7 (show (0:Int)<=32 by decide),cT,key z.natAbs (by omega),af]
theorem sY {a b:Nat} (ha:aM a<=100000000) (hb:aM b<=100000000):∃z:Int,aV (wd a) (wd b)=some z/\(z<0↔a<b):=by
 unfold aV lY
 rw[ia,ia]
 by_cases hl:aM a=aM b
 ·rw[z7 (show ((aM a:Nat):Int)=(aM b:Nat) by omega),bX,cF]
  refine iZ (γ:=Nat) (α:=Int×PUnit) (R:=Int) (fun i x=>x=((i:Int) - 1,aQ)/\i<=aM a/\a / pw i=b / pw i) (fun o=>∃z:Int,o=some z/\(z<0↔a<b)) (fun i=>i) (fun rec i x ⟨hx,hi,he⟩=>?_) (s:=aM a) ⟨?_,b_ _,?_⟩ (by omega)
  ·subst hx
   have d1:=Fe a (i - 1)
   have d2:=Fe b (i - 1)
   by_cases h0:i=0
   ·subst h0
    simp only[z8 (show ¬ ((0:Nat):Int) - 1>=0 by decide),cF]
    rw[kZ,Nat.div_one,Nat.div_one] at he
    exact .inl ⟨0,rfl,by omega⟩
   ·obtain ⟨j,rfl⟩:∃j,i=j+1:=⟨i - 1,by omega⟩
    rw[Nat.add_sub_cancel] at d1 d2
    have e1:((j+1:Nat):Int) - 1=(j:Int):=by omega
    simp only[e1,z7 (show (j:Int)>=0 by omega),cT,be,z7 (show j<aM a by omega),z7 (show j<aM b by omega),z9,lM]
    by_cases hd:dgt a j=dgt b j
    ·simp only[z7 (show (dgt a j:Int)=dgt b j by omega),bX,cF]
     refine .inr ⟨j,_,⟨rfl,by omega,by omega⟩,by omega,?_⟩
     rw[ap (by omega) (by omega)]
    ·simp only[z8 (show ¬ (dgt a j:Int)=dgt b j by omega),iF,cT]
     have hq:dgt a j<dgt b j↔a<b:=by
      have g1:dgt a j<dgt b j↔a / pw j<b / pw j:=by omega
      rw[g1]
      constructor
      ·intro h
       by_cases c:a<b
       ·exact c
       ·have:=Nat.div_le_div_right (c:=pw j) (show b<=a by omega)
        omega
      ·intro h
       have:=Nat.div_le_div_right (c:=pw j) (show a<=b by omega)
       omega
     by_cases hlt:dgt a j<dgt b j
     ·rw[z7 (show (dgt a j:Int)<dgt b j by omega),cT]
      exact .inl ⟨-1,rfl,by constructor;(intro _;exact hq.1 hlt);(intro _;decide)⟩
     ·rw[z8 (show ¬ (dgt a j:Int)<dgt b j by omega),cF]
      exact .inl ⟨1,rfl,by constructor;(intro h;exact absurd h (by decide));(intro h;exact absurd (hq.2 h) hlt)⟩
  ·rw[ap (by omega) (by omega)]
  ·rw[Nat.div_eq_of_lt (dD a),Nat.div_eq_of_lt (by rw[hl];exact dD b)]
 ·rw[z8 (show ¬ ((aM a:Nat):Int)=(aM b:Nat) by omega),iF,cT,ap (by omega) (by omega)]
  refine ⟨_,rfl,?_⟩
  constructor
  ·intro h
   by_cases c:a<b
   ·exact c
   ·have:=fT (show b<=a by omega)
    omega
  ·intro h
   have:=fT (show a<=b by omega)
   omega
def low (L i n:Nat):List Int:=jg L fun j=>if j<i then (dgt n j:Int) else 0
theorem vN (L n:Nat):eX L (0:Int)=low L 0 n:=by
 refine List.ext_getElem (by rw[List.length_replicate];exact fi.symm) fun i h1 h2=>?_
 rw[List.getElem_replicate]
 exact (Cd h2).symm ▸ (if_neg (Nat.not_lt_zero i)).symm
theorem wi {L i n:Nat} {x:Int} (h:i<L) (hx:x=(dgt n i:Int)):(low L i n).set i x=low L (i+1) n:=by
 unfold low
 rw[zC h]
 refine jx fun k hk=>?_
 by_cases c:k=i
 ·rw[if_pos c,if_pos (by omega),hx,c]
 ·rw[if_neg c]
  by_cases c2:k<i
  ·rw[if_pos c2,if_pos (by omega)]
  ·rw[if_neg c2,if_neg (by omega)]
theorem CZ (L n:Nat):low L L n=jg L fun i=>(dgt n i:Int):=jx fun j hj=>if_pos hj
theorem yi (L i n:Nat):(low L i n).length=L:=fi
theorem FI {x y:List Int} (h:x.length<y.length):bh x y=bh y x:=by
 unfold bh mm
 simp only[jnB]
 rw[z7 (show (x.length:Int)<y.length by omega),z8 (show ¬ (y.length:Int)<x.length by omega),cT,cF]
theorem NF (s:Nat):l_ (s:Int) (2 ^ 32)=((s / 4294967296:Nat):Int):=by
 rw[Int.fdiv_eq_ediv_of_nonneg _ (by decide),show (2:Int) ^ 32=4294967296 from rfl]
 rfl
theorem w32 (s:Nat):aq .u32 (s:Int)=((s % 4294967296:Nat):Int):=by rw[wV];rfl
theorem w64 {s:Nat} (h:s<18446744073709551616):aq .u64 (s:Int)=(s:Int):=Ti (by omega) (by omega)
theorem Ep {a b:Nat} (h:aM b<=aM a) (ha:aM a<=10000000):bh (wd a) (wd b)=some (wd (a+b)):=by
 unfold bh mm
 simp only[jnB]
 rw[ia,ia,z8 (show ¬ ((aM a:Nat):Int)<(aM b:Nat) by omega),cF]
 simp only[ia,gJ (show aM a<=100000000000 by omega),z9,z7 (show (0:Int)<=((aM a+1:Nat):Int) by omega),iH (show (aM a+1)*4<=140737488355328 by omega),g_,cT]
 rw[vN (aM a+1) (a+b)]
 refine gQ (α:=Int×Int×List Int×PUnit) (R:=List Int) (aM a+1) (by omega) (fun i=>((cry a b i:Int),(i:Int),low (aM a+1) i (a+b),aQ)) _ ?_ (fun again i hi=>?_) (fun again=>?_)
 ·rw[Ka];rfl
 ·have c1:=Tz a b i
  have da:=gD a i
  have db:=gD b i
  have hF:l_ ((cry a b i+dgt a i+dgt b i:Nat):Int) (2 ^ 32)=(cry a b (i+1):Int):=by rw[NF,M5]
  have hS:(low (aM a+1) i (a+b)).set i (aq .u32 ((cry a b i+dgt a i+dgt b i:Nat):Int))=low (aM a+1) (i+1) (a+b):=wi hi (by rw[w32,G2])
  have w1:aq .u64 ((cry a b i:Int)+aq .u64 (dgt a i:Int))=((cry a b i+dgt a i:Nat):Int):=by rw[w64 (by omega),<-Int.natCast_add,w64 (by omega)]
  have w2:aq .u64 (((cry a b i+dgt a i:Nat):Int)+aq .u64 (dgt b i:Int))=((cry a b i+dgt a i+dgt b i:Nat):Int):=by rw[w64 (s:=dgt b i) (by omega),<-Int.natCast_add,w64 (by omega)]
  have hz:∀{n:Nat},¬ i<aM n->dgt n i=0:=fun {n} hn=>li (bx (dD n) (ki (by omega)))
  simp only[z7 (show (i:Int)<((aM a+1:Nat):Int) by omega),cT,be,yi,z7 hi,ff (show i.succ<=aM a+1 by omega),z9,z7 (show (0:Int)<=32 by decide),lM,gJ (show i<=100000000000 by omega)]
  by_cases hA:i<aM a
  ·rw[z7 (show (i:Int)<(aM a:Nat) by omega),z7 hA,cT,cT,w1]
   by_cases hB:i<aM b
   ·rw[z7 (show (i:Int)<(aM b:Nat) by omega),z7 hB,cT,cT,w2,hF,hS]
   ·rw[z8 (show ¬ (i:Int)<(aM b:Nat) by omega),cF]
    rw[show cry a b i+dgt a i+dgt b i=cry a b i+dgt a i by rw[hz hB,lD]] at hF hS
    rw[hF,hS]
  ·rw[z8 (show ¬ (i:Int)<(aM a:Nat) by omega),cF,z8 (show ¬ (i:Int)<(aM b:Nat) by omega),cF]
   rw[show cry a b i+dgt a i+dgt b i=cry a b i by rw[hz hA,hz (show ¬ i<aM b by omega)];rfl] at hF hS
   rw[hF,hS]
 ·simp only[z8 (show ¬ ((aM a+1:Nat):Int)<((aM a+1:Nat):Int) by omega),cF,CZ]
  rw[tA (bx (dD _) (ki (by have:=yt a b;omega))) (by omega),af]
theorem vL {a b:Nat} (ha:aM a<=10000000) (hb:aM b<=10000000):bh (wd a) (wd b)=some (wd (a+b)):=by
 by_cases h:aM b<=aM a
 ·exact Ep h ha
 ·rw[FI (by rw[ia,ia];omega),Nat.add_comm a b]
  exact Ep (by omega) hb
theorem sG {a b:Nat} (h:b<=a) (ha:aM a<=10000000):bq (wd a) (wd b)=some (wd (a - b)):=by
 have hb:=fT h
 unfold bq qo
 simp only[jnB,ia,z9,z7 (show (0:Int)<=((aM a:Nat):Int) by omega),iH (show aM a*4<=140737488355328 by omega),g_,cT]
 rw[vN (aM a) (a - b)]
 refine gQ (α:=Int×Int×List Int×PUnit) (R:=List Int) (aM a) (by omega) (fun i=>((bor a b i:Int),(i:Int),low (aM a) i (a - b),aQ)) _ ?_ (fun again i hi=>?_) (fun again=>?_)
 ·rw[Ko];rfl
 ·have c1:=SN a b i
  have da:=gD a i
  have db:=gD b i
  have hd:=PZ h i
  have hB:=J9 a b i
  have hz:¬ i<aM b->dgt b i=0:=fun hn=>li (bx (dD b) (ki (by omega)))
  have w0:aq .i64 (aq .i64 (dgt a i:Int) - bor a b i)=(dgt a i:Int) - bor a b i:=by rw[ap (x:=(dgt a i:Int)) (by omega) (by omega),ap (by omega) (by omega)]
  have w1:aq .i64 ((dgt a i:Int) - bor a b i - aq .i64 (dgt b i:Int))=(dgt a i:Int) - bor a b i - dgt b i:=by rw[ap (x:=(dgt b i:Int)) (by omega) (by omega),ap (by omega) (by omega)]
  have fin:∀again:Int×Int×List Int×PUnit->Option (List Int),∀v:Int,v=(dgt a i:Int) - bor a b i - dgt b i->(bif decide (v<0) then again (1,((i+1:Nat):Int),(low (aM a) i (a - b)).set i (aq .u32 (aq .i64 (v+4294967296))),aQ) else again (0,((i+1:Nat):Int),(low (aM a) i (a - b)).set i (aq .u32 v),aQ))=again ((bor a b (i+1):Int),((i+1:Nat):Int),low (aM a) (i+1) (a - b),aQ):=fun again v hv=>by
   by_cases hn:v<0
   ·rw[z7 hn,cT,wi hi (by rw[wV,ap (by omega) (by omega),hd,hv];omega),hB,if_pos (by omega)]
    rfl
   ·rw[z8 hn,cF,wi hi (by rw[wV,hd,hv]),hB,if_neg (by omega)]
    rfl
  simp only[z7 (show (i:Int)<((aM a:Nat):Int) by omega),cT,be,yi,z7 hi,ff (show i.succ<=aM a by omega),z9,lM,gJ (show i<=100000000000 by omega),w0]
  by_cases hB:i<aM b
  ·rw[z7 (show (i:Int)<(aM b:Nat) by omega),z7 hB,cT,cT,w1]
   exact fin again _ rfl
  ·rw[z8 (show ¬ (i:Int)<(aM b:Nat) by omega),cF]
   exact fin again _ (by rw[hz hB];omega)
 ·simp only[z8 (show ¬ ((aM a:Nat):Int)<((aM a:Nat):Int) by omega),cF,CZ]
  rw[tA (Nat.lt_of_le_of_lt (Nat.sub_le _ _) (dD a)) (by omega),af]
theorem XA {x t:Nat} (hx:x<2147483648):Nat.lor x (2147483648*t)=x+2147483648*t:=by
 have h:=Nat.two_pow_add_eq_or_of_lt (i:=31) hx t
 show x |||2147483648*t=_
 rw[Nat.or_comm,Nat.add_comm]
 exact h.symm
theorem tW {a:Nat} (ha:aM a<=10000000):cQ (wd a)=some (wd (a / 2)):=by
 unfold cQ oW
 simp only[ia,z9,z7 (show (0:Int)<=((aM a:Nat):Int) by omega),iH (show aM a*4<=140737488355328 by omega),g_,cT]
 rw[vN (aM a) (a / 2)]
 refine gQ (α:=Int×List Int×PUnit) (R:=List Int) (aM a) (by omega) (fun i=>((i:Int),low (aM a) i (a / 2),aQ)) _ rfl (fun again i hi=>?_) (fun again=>?_)
 ·have da:=gD a i
  have db:=gD a (i+1)
  have hh:=Ni a i
  have hf:l_ (dgt a i:Int) (2 ^ 1)=((dgt a i / 2:Nat):Int):=by
   rw[Int.fdiv_eq_ediv_of_nonneg _ (by decide)];rfl
  have hg:∀x:Int,((low (aM a) i (a / 2)).set i x).getD i 0=x:=fun x=>by
   rw[ca (by rw[k_,yi];exact hi),List.getElem_set_self]
  simp only[z7 (show (i:Int)<((aM a:Nat):Int) by omega),cT,be,yi,z7 hi,ff (show i.succ<=aM a by omega),z9,lM,gJ (show i<=100000000000 by omega),hf,z7 (show (0:Int)<=1 by decide),z7 (show (0:Int)<=31 by decide),hg,List.set_set]
  by_cases hB:i+1<aM a
  ·have e1:aS (((dgt a i / 2:Nat):Int) % bY 4294967296)=dgt a i / 2:=by
    rw[show bY 4294967296=(4294967296:Int) from rfl];omega
   have e2:aS (aq .u32 ((dgt a (i+1):Int)*2 ^ 31) % bY 4294967296)=2147483648*(dgt a (i+1) % 2):=by
    rw[wV,show bY 4294967296=(4294967296:Int) from rfl,show (2:Int) ^ 31=2147483648 from rfl];omega
   rw[z7 (show ((i+1:Nat):Int)<(aM a:Nat) by omega),z7 hB,cT,cT,e1,e2,XA (by omega),<-hh,wi hi (by rw[w32,mv (gD _ _)])]
  ·rw[z8 (show ¬ ((i+1:Nat):Int)<(aM a:Nat) by omega),cF,wi hi (by rw[hh,li (i:=i+1) (bx (dD a) (ki (by omega))),Nat.zero_mod,Nat.mul_zero,lD])]
 ·simp only[z8 (show ¬ ((aM a:Nat):Int)<((aM a:Nat):Int) by omega),cF,CZ]
  rw[tA (Nat.lt_of_le_of_lt (j_ _ _) (dD a)) (by omega),af]
theorem oj (n j t:Nat):(dgt n j).testBit t=(decide (t<32)&&n.testBit (32*j+t)):=by
 unfold dgt
 rw[qN,show (4294967296:Nat)=2 ^ 32 from rfl,Nat.testBit_mod_two_pow,Nat.testBit_div_two_pow,Nat.add_comm]
theorem Aa (V i j:Nat):dgt (V |||2 ^ i) j=if j=i / 32 then Nat.lor (dgt V j) (2 ^ (i % 32)) else dgt V j:=by
 refine Nat.eq_of_testBit_eq fun t=>?_
 rw[oj,Nat.testBit_or,Nat.testBit_two_pow]
 by_cases c:j=i / 32
 ·rw[if_pos c]
  show _=(dgt V j |||2 ^ (i % 32)).testBit t
  rw[Nat.testBit_or,Nat.testBit_two_pow,oj]
  by_cases ht:t<32
  ·rw[z7 ht,oK,oK]
   congr 1
   rw[decide_eq_decide]
   omega
  ·rw[z8 ht,z8 (show ¬ i % 32=t by omega)]
   rfl
 ·rw[if_neg c,oj]
  by_cases ht:t<32
  ·rw[z8 (show ¬ i=32*j+t by omega),Bool.or_false]
  ·rw[z8 ht];rfl
theorem Rn (n:Nat):Nat.land n 1=n % 2:=Nat.and_one_is_mod n
theorem SU (a i:Nat):aq .u32 ((Nat.land (aS (l_ (dgt a (i / 32):Int) (2 ^ min (i % 32) 32) % bY 4294967296)) (aS ((1:Int) % bY 4294967296)):Nat):Int)=((a / 2 ^ i % 2:Nat):Int):=by
 have h1:l_ (dgt a (i / 32):Int) (2 ^ min (i % 32) 32)=((dgt a (i / 32) / 2 ^ (i % 32):Nat):Int):=by
  rw[Nat.min_eq_left (by omega),Int.fdiv_eq_ediv_of_nonneg _ (Int.le_of_lt (Int.pow_pos (by decide)))]
  simp
 have h2:dgt a (i / 32) / 2 ^ (i % 32)<4294967296:=Nat.lt_of_le_of_lt (j_ _ _) (gD _ _)
 have h3:dgt a (i / 32) / 2 ^ (i % 32) % 2=a / 2 ^ i % 2:=by
  have h4:=oj a (i / 32) (i % 32)
  rw[z7 (Nat.mod_lt i (by decide)),oK,Nat.div_add_mod,Nat.testBit_eq_decide_div_mod_eq,Nat.testBit_eq_decide_div_mod_eq,decide_eq_decide] at h4
  omega
 rw[h1]
 obtain ⟨X,hX⟩:∃X,X=dgt a (i / 32) / 2 ^ (i % 32):=⟨_,rfl⟩
 rw[<-hX] at h2 h3 ⊢
 rw[show aS ((1:Int) % bY 4294967296)=1 from rfl,show bY 4294967296=(4294967296:Int) from rfl,show aS ((X:Int) % 4294967296)=X by omega,Rn,h3,w32,mv (by omega)]
theorem Sj:wd 1=[1]:=rfl
def wds (L n:Nat):List Int:=jg L fun j=>(dgt n j:Int)
theorem Qg (L n:Nat):(wds L n).length=L:=fi
theorem Eu (L:Nat):eX L (0:Int)=wds L 0:=by
 rw[vN L 0]
 unfold low wds
 exact jx fun j _=>by rw[GH];split<;>rfl
theorem Er (a i:Nat):a / 2 ^ i=2*(a / 2 ^ (i+1))+a / 2 ^ i % 2:=by
 have:a / 2 ^ (i+1)=a / 2 ^ i / 2:=by rw[Nat.pow_succ,Nat.div_div_eq_div_mul]
 omega
theorem zK {a b:Nat} (hb0:0<b) (ha:aM a<=1000000) (hb:aM b<=1000000):de (wd a) (wd b)=some (wd (a / b)):=by
 obtain ⟨L,hL⟩:∃L,L=aM a:=⟨_,rfl⟩
 unfold de nA
 simp only[jnB,ia,<-hL,z9,z7 (show (0:Int)<=((L:Nat):Int) by omega),iH (show L*4<=140737488355328 by omega),g_,cT]
 rw[Eu,ap (x:=32*(L:Int)) (by omega) (by omega),ap (x:=32*(L:Int) - 1) (by omega) (by omega)]
 refine gQ (α:=List Int×Int×List Int×PUnit) (R:=List Int) (32*L) (by omega) (fun j=>(wd (a / 2 ^ (32*L - j) % b),((32*L - j:Nat):Int) - 1,wds L (a / 2 ^ (32*L - j) / b*2 ^ (32*L - j)),aQ)) _ ?_ (fun again j hj=>?_) (fun again=>?_)
 ·have:a / 2 ^ (32*L)=0:=Nat.div_eq_of_lt (by rw[<-qN,hL];exact dD a)
  rw[Nat.sub_zero,this,Nat.zero_mod,Nat.zero_div,Nat.zero_mul,Hg]
  refine congrArg (fun z=>(([]:List Int),z,wds L 0,aQ)) (by omega)
 ·obtain ⟨i,hi⟩:∃i,32*L - j=i+1:=⟨32*L - j - 1,by omega⟩
  have hi2:32*L - (j+1)=i:=by omega
  rw[hi,hi2]
  obtain ⟨A,hA⟩:∃A,A=a / 2 ^ (i+1):=⟨_,rfl⟩
  obtain ⟨d,hd⟩:∃d,d=a / 2 ^ i % 2:=⟨_,rfl⟩
  have hstep:=Er a i
  rw[<-hA,<-hd] at hstep
  rw[<-hA,hstep]
  have hiL:i<32*L:=by omega
  have hJ:i / 32<L:=by omega
  have hr:=Nat.mod_lt A hb0
  have hrl:aM (A % b)<=aM b:=fT (by omega)
  have hrl2:aM (A % b+A % b)<=aM b+1:=m_ (yt _ _) (by omega)
  have hrl3:aM (A % b+A % b+d)<=aM b+2:=m_ (yt _ _) (by
   have:aM d<=1:=iI (by rw[Gf];omega)
   omega)
  have e1:((i+1:Nat):Int) - 1=(i:Int):=by omega
  have e2:Int.tdiv (i:Int) 32=((i / 32:Nat):Int):=rfl
  have e3:Int.tmod (i:Int) 32=((i % 32:Nat):Int):=rfl
  have e4:aq .i64 ((i:Int) - 1)=(i:Int) - 1:=ap (by omega) (by omega)
  simp only[e1,e2,e3,e4,ap (x:=((i / 32:Nat):Int)) (by omega) (by omega),z7 (show (i:Int)>=0 by omega),z7 (show (0:Int)<=((i % 32:Nat):Int) by omega),cT,vL (a:=A % b) (b:=A % b) (by omega) (by omega),af,be,Qg,z7 hJ,z9,lM,SU,ff (show (i / 32).succ<=L by omega),<-hd]
  have hrest:∀k:List Int->Option (List Int),(bif decide (((d:Nat):Int)=1) then ah (bh (wd (A % b+A % b)) [1]) fun (t:List Int)=>k t else k (wd (A % b+A % b)))=k (wd (A % b+A % b+d)):=fun k=>by
   by_cases h1:d=1
   ·rw[z7 (show ((d:Nat):Int)=1 by omega),cT,<-Sj,vL (by omega) (by decide),af,h1]
   ·rw[z8 (show ¬ ((d:Nat):Int)=1 by omega),cF,show d=0 by omega,lD]
  obtain ⟨z,hz1,hz2⟩:=sY (a:=A % b+A % b+d) (b:=b) (by omega) (by omega)
  have hq:=Nat.div_add_mod A b
  refine (hrest fun t=>_).trans ?_
  simp only[hz1,af]
  by_cases hlt:A % b+A % b+d<b
  ·have f1:(2*A+d) % b=A % b+A % b+d:=by
    rw[show 2*A+d=A % b+A % b+d+b*(2*(A / b)) by rw[Nat.mul_left_comm];omega,Nat.add_mul_mod_self_left,mv hlt]
   have f2:(2*A+d) / b=2*(A / b):=by
    rw[show 2*A+d=A % b+A % b+d+b*(2*(A / b)) by rw[Nat.mul_left_comm];omega,Nat.add_mul_div_left _ _ hb0,Nat.div_eq_of_lt hlt,dO]
   rw[z8 (show ¬ z>=0 by have:=hz2.2 hlt;omega),cF,f1,f2]
   have f3:A / b*2 ^ (i+1)=2*(A / b)*2 ^ i:=by rw[Nat.pow_succ,iS 2 (A / b),Nat.mul_assoc,iS 2]
   rw[f3]
  ·have f0:A % b+A % b+d - b<b:=by omega
   have f1:(2*A+d) % b=A % b+A % b+d - b:=by
    rw[show 2*A+d=A % b+A % b+d - b+b*(2*(A / b)+1) by rw[Nat.mul_add,Nat.mul_left_comm];omega,Nat.add_mul_mod_self_left,mv f0]
   have f2:(2*A+d) / b=2*(A / b)+1:=by
    rw[show 2*A+d=A % b+A % b+d - b+b*(2*(A / b)+1) by rw[Nat.mul_add,Nat.mul_left_comm];omega,Nat.add_mul_div_left _ _ hb0,Nat.div_eq_of_lt f0,dO]
   rw[z7 (show z>=0 by
    by_cases c:z<0
    ·exact absurd (hz2.1 c) hlt
    ·omega),cT,sG (by omega) (by omega),af,f1,f2]
   have f3:(2*(A / b)+1)*2 ^ i=A / b*2 ^ (i+1) |||2 ^ i:=by
    rw[iS (A / b),<-Nat.two_pow_add_eq_or_of_lt (Nat.pow_lt_pow_right (by decide) (Nat.lt_succ_self i)),Nat.pow_succ,iN,Nat.one_mul]
    congr 1
    rw[iS 2 (A / b),Nat.mul_assoc,iS,iS 2]
   obtain ⟨V,hV⟩:∃V,V=A / b*2 ^ (i+1):=⟨_,rfl⟩
   rw[f3,<-hV]
   have g1:(wds L V).getD (i / 32) 0=(dgt V (i / 32):Int):=jk hJ
   have g2:aS ((dgt V (i / 32):Int) % bY 4294967296)=dgt V (i / 32):=by
    have:=gD V (i / 32)
    rw[show bY 4294967296=(4294967296:Int) from rfl];omega
   have g3:aS (aq .u32 ((1:Int)*2 ^ min (i % 32) 32) % bY 4294967296)=2 ^ (i % 32):=by
    have h1:(2:Nat) ^ (i % 32)<4294967296:=by
     rw[show (4294967296:Nat)=2 ^ 32 from rfl]
     exact Nat.pow_lt_pow_right (by decide) (by omega)
    have h2:(1:Int)*2 ^ min (i % 32) 32=((2 ^ (i % 32):Nat):Int):=by
     rw[Nat.min_eq_left (by omega),Int.one_mul]
     simp
    rw[h2,w32,mv h1,show bY 4294967296=(4294967296:Int) from rfl]
    obtain ⟨X,hX⟩:∃X,X=2 ^ (i % 32):=⟨_,rfl⟩
    rw[<-hX] at h1 ⊢
    omega
   have g4:(wds L V).set (i / 32) (aq .u32 ((Nat.lor (dgt V (i / 32)) (2 ^ (i % 32)):Nat):Int))=wds L (V |||2 ^ i):=by
    unfold wds
    rw[zC hJ]
    refine jx fun k hk=>?_
    rw[Aa]
    by_cases c:k=i / 32
    ·have h1:Nat.lor (dgt V (i / 32)) (2 ^ (i % 32))<4294967296:=by
      have:=gD (V |||2 ^ i) (i / 32)
      rw[Aa,if_pos rfl] at this
      exact this
     rw[if_pos c,if_pos c,w32,mv h1,c]
    ·rw[if_neg c,if_neg c]
   rw[g1,g2,g3,g4]
 ·rw[Nat.sub_self,Nat.pow_zero,Nat.div_one,Nat.mul_one]
  simp only[z8 (show ¬ ((0:Nat):Int) - 1>=0 by decide),cF]
  unfold wds
  rw[tA (Nat.lt_of_le_of_lt (j_ _ _) (by rw[hL];exact dD a)) (by omega),af]
theorem BU (n:Nat):aq .u32 ((Nat.land (aS ((dgt n 0:Int) % bY 4294967296)) (aS ((1:Int) % bY 4294967296)):Nat):Int)=((n % 2:Nat):Int):=by
 have h0:dgt n 0=n % 4294967296:=by unfold dgt;rw[kZ,Nat.div_one]
 rw[h0,show aS ((1:Int) % bY 4294967296)=1 from rfl,show bY 4294967296=(4294967296:Int) from rfl,show aS (((n % 4294967296:Nat):Int) % 4294967296)=n % 4294967296 by omega,Rn,w32]
 omega
theorem AO {a b:Nat} (ha:a % 2=0) (hb:b % 2=1):bT (a / 2) b=bT a b:=by
 have h2:Nat.Coprime 2 b:=by
  unfold Nat.Coprime
  rw[Nat.gcd_rec,hb]
  rfl
 have h:=Nat.Coprime.gcd_mul_left_cancel (a / 2) h2
 rw[show 2*(a / 2)=a by omega] at h
 exact h.symm
theorem Mj {a b:Nat} (ha:a % 2=0) (hb:b % 2=0):2*bT (a / 2) (b / 2)=bT a b:=by
 have h:=Nat.gcd_mul_left 2 (a / 2) (b / 2)
 rw[show 2*(a / 2)=a by omega,show 2*(b / 2)=b by omega] at h
 exact h.symm
theorem Qc {n:Nat} (h:n≠0):inB 0 (aM n)=true:=oM (by omega) (by
 have:=qS (n:=n)
 omega)
theorem vK {m n:Nat} (h:2*m<=n) (hn:2<=n):m.log2<n.log2:=by
 have h1:=Nat.lt_log2_self (n:=n)
 rw[Nat.pow_succ] at h1
 by_cases h0:m=0
 ·subst h0
  have:=(Nat.log2_lt (n:=n) (k:=1) (by omega))
  have e:(0:Nat).log2=0:=rfl
  rw[Nat.pow_one] at this
  omega
 ·exact (Nat.log2_lt h0).2 (by omega)
theorem N0 {m n:Nat} (h:m<=n):m.log2<=n.log2:=by
 by_cases h0:m=0
 ·subst h0
  exact Nat.zero_le _
 ·have h1:=Nat.lt_log2_self (n:=n)
  have:=(Nat.log2_lt (k:=n.log2+1) h0).2 (by omega)
  omega
theorem wo (n:Nat):n.log2<=32*aM n:=by
 by_cases h0:n=0
 ·subst h0
  exact Nat.zero_le _
 ·have h1:=dD n
  rw[qN] at h1
  exact Nat.le_of_lt ((Nat.log2_lt h0).2 h1)
def muG (x y:Nat):Nat:=(x*y).log2+x % 2
theorem SP {x y u v:Nat} (hx:0<x) (hy:0<y) (ho:x % 2=1\/y % 2=1) (hu:u % 2=0) (h:2*(u*v)<=x*y\/x % 2=1/\y % 2=1/\u*v<=x*y):muG u v<muG x y:=by
 unfold muG
 rcases h with h | ⟨h1,_,h3⟩
 ·have h2:1<=x*y:=Nat.mul_pos hx hy
  by_cases c:x*y=1
  ·have e0:u*v=0:=by omega
   have ex:x=1:=Nat.eq_one_of_mul_eq_one_right c
   rw[e0,c,ex,hu]
   decide
  ·have:=vK h (by omega)
   omega
 ·have:=N0 h3
  omega
def GI (G t x y:Nat):Prop:=0<y/\aM x<=1000000/\aM y<=1000000/\(x % 2=1\/y % 2=1)/\2 ^ t*bT x y=G
theorem I8 {a b:Nat} (ha0:0<a) (hb0:0<b) (ha:aM a<=1000000) (hb:aM b<=1000000):eB (wd a) (wd b)=some (wd (bT a b)):=by
 obtain ⟨G,hG⟩:∃G,G=bT a b:=⟨_,rfl⟩
 have hG0:0<G:=by rw[hG];exact Nat.gcd_pos_of_pos_left _ ha0
 have hGl:aM G<=1000000:=m_ (fT (by rw[hG];exact Nat.le_of_dvd ha0 (Nat.gcd_dvd_left a b))) ha
 rw[<-hG]
 have hfuel:=wo a
 unfold eB oC
 refine iZ (γ:=Nat×Nat×Nat) (α:=List Int×List Int×Int×PUnit) (R:=List Int) (fun s x=>x=(wd s.1,wd s.2.1,(s.2.2:Int),aQ)/\0<s.1/\0<s.2.1/\aM s.1<=1000000/\aM s.2.1<=1000000/\2 ^ s.2.2*bT s.1 s.2.1=G) (fun o=>o=some (wd G)) (fun s=>s.1.log2) (fun rec s x ⟨hx,h1,h2,h3,h4,h5⟩=>?_) (s:=(a,b,0)) ⟨rfl,ha0,hb0,ha,hb,by rw[Nat.pow_zero,Nat.one_mul,hG]⟩ (Nat.lt_of_le_of_lt hfuel (by omega))
 obtain ⟨p,q,t⟩:=s
 simp only at hx h1 h2 h3 h4 h5 ⊢
 subst hx
 have htG:2 ^ t<=G:=by
  rw[<-h5]
  exact Nat.le_mul_of_pos_right _ (Nat.gcd_pos_of_pos_left _ h1)
 have ht:t<=32000000:=by
  by_cases c:t<=32000000
  ·exact c
  ·have h6:=dD G
   rw[qN] at h6
   have h7:(2:Nat) ^ (32*aM G)<=2 ^ t:=Nat.pow_le_pow_right (by decide) (by omega)
   omega
 have hif:∀X Y:Option (List Int),(bif bif decide (((p % 2:Nat):Int)=0) then decide (((q % 2:Nat):Int)=0) else false then X else Y)=if p % 2=0/\q % 2=0 then X else Y:=fun X Y=>by
  by_cases c1:p % 2=0
  ·rw[z7 (show ((p % 2:Nat):Int)=0 by omega),cT]
   by_cases c2:q % 2=0
   ·rw[z7 (show ((q % 2:Nat):Int)=0 by omega),cT,if_pos ⟨c1,c2⟩]
   ·rw[z8 (show ¬ ((q % 2:Nat):Int)=0 by omega),cF,if_neg fun h=>c2 h.2]
  ·rw[z8 (show ¬ ((p % 2:Nat):Int)=0 by omega),cF,cF,if_neg fun h=>c1 h.1]
 simp only[ia,lM,BU,Qc (show p≠0 by omega),Qc (show q≠0 by omega),cT,Bool.or_true,bC,g_,hif]
 by_cases hpq:p % 2=0/\q % 2=0
 ·rw[if_pos hpq,tW (by omega),af,tW (by omega),af,gJ (by omega)]
  refine .inr ⟨(p / 2,q / 2,t+1),_,⟨rfl,by simp only;omega,by simp only;omega,m_ (fT (j_ _ _)) h3,m_ (fT (j_ _ _)) h4,?_⟩,vK (by simp only;omega) (by omega),rfl⟩
  simp only
  rw[Nat.pow_succ,Nat.mul_assoc,Mj hpq.1 hpq.2,h5]
 ·rw[if_neg hpq]
  refine .inl ?_
  have hf2:muG p q<=64000001:=by
   have e1:=wo (p*q)
   have e2:=Fb p q
   unfold muG
   omega
  refine iZ (γ:=Nat×Nat) (α:=List Int×List Int×PUnit) (R:=List Int) (fun s x=>x=(wd s.1,wd s.2,aQ)/\GI G t s.1 s.2) (fun o=>o=some (wd G)) (fun s=>muG s.1 s.2) (fun rec2 s x ⟨hx,hI⟩=>?_) (s:=(p,q)) ⟨rfl,h2,h3,h4,by simp only;omega,h5⟩ (Nat.lt_of_le_of_lt hf2 (by omega))
  obtain ⟨x0,y0⟩:=s
  obtain ⟨g1,g2,g3,g4,g5⟩:=hI
  simp only at hx g1 g2 g3 g4 g5
  subst hx
  by_cases hx0:x0=0
  ·
   refine .inl ?_
   subst hx0
   rw[Nat.gcd_zero_left] at g5
   have hz0:decide (((wd 0).length:Int)>0)=false:=rfl
   simp only[hz0,cF]
   have hyl:∀i,i<=t->aM (2 ^ i*y0)<=1000000:=fun i hi=>m_ (fT (by
    rw[<-g5]
    exact mV y0 (Nat.pow_le_pow_right (by decide) hi))) hGl
   refine gQ (α:=List Int×Int×PUnit) (R:=List Int) t (by omega) (fun i=>(wd (2 ^ i*y0),(i:Int),aQ)) _ ?_ (fun again i hi=>?_) (fun again=>?_)
   ·rw[Nat.pow_zero,Nat.one_mul];rfl
   ·have:=hyl i (by omega)
    simp only[z7 (show (i:Int)<(t:Nat) by omega),cT,vL (a:=2 ^ i*y0) (b:=2 ^ i*y0) (by omega) (by omega),af,gJ (show i<=100000000000 by omega)]
    rw[show 2 ^ i*y0+2 ^ i*y0=2 ^ (i+1)*y0 by rw[Nat.pow_succ,Nat.mul_assoc,Nat.mul_left_comm];omega]
   ·simp only[z8 (show ¬ ((t:Nat):Int)<(t:Nat) by omega),cF,g5]
  ·refine (show ∀A B:Prop,B->A\/B from fun _ _ h=>.inr h) _ _ ?_
   have hxl:0<aM x0:=by have:=qS (n:=x0);omega
   simp only[ia,z7 (show ((aM x0:Nat):Int)>0 by omega),cT]
   have hlx:=wo x0
   refine iZ (γ:=Nat) (α:=List Int×PUnit) (R:=List Int) (fun x st=>st=(wd x,aQ)/\0<x/\x<=x0/\(x=x0\/2*x<=x0)/\(x % 2=1\/y0 % 2=1)/\bT x y0=bT x0 y0/\(x0 % 2=1->x=x0)) (fun o=>∃(s':Nat×Nat) (y:List Int×List Int×PUnit),(y=(wd s'.1,wd s'.2,aQ)/\GI G t s'.1 s'.2)/\muG s'.1 s'.2<muG x0 y0/\o=rec2 y) (fun x=>x.log2) (fun rec3 x st ⟨hst,k1,k2,k3,k4,k5,k6⟩=>?_) (s:=x0) ⟨rfl,by omega,b_ _,.inl rfl,g4,rfl,fun _=>rfl⟩ (Nat.lt_of_le_of_lt hlx (by omega))
   subst hst
   have hxw:aM x<=1000000:=m_ (fT k2) g2
   simp only[ia,lM,BU,Qc (show x≠0 by omega),cT]
   by_cases hxe:x % 2=0
   ·rw[z7 (show ((x % 2:Nat):Int)=0 by omega),cT,tW (by omega),af]
    refine .inr ⟨x / 2,_,⟨rfl,by omega,by omega,.inr (by omega),.inr (by omega),?_,by omega⟩,vK (by omega) (by omega),rfl⟩
    rw[AO hxe (by omega),k5]
   ·rw[z8 (show ¬ ((x % 2:Nat):Int)=0 by omega),cF]
    refine .inl ?_
    have hly:=wo y0
    refine iZ (γ:=Nat) (α:=List Int×PUnit) (R:=List Int) (fun y st=>st=(wd y,aQ)/\0<y/\y<=y0/\(y=y0\/2*y<=y0)/\bT x y=bT x0 y0) (fun o=>∃(s':Nat×Nat) (y:List Int×List Int×PUnit),(y=(wd s'.1,wd s'.2,aQ)/\GI G t s'.1 s'.2)/\muG s'.1 s'.2<muG x0 y0/\o=rec2 y) (fun y=>y.log2) (fun rec4 y st ⟨hst,m1,m2,m3,m4⟩=>?_) (s:=y0) ⟨rfl,g1,b_ _,.inl rfl,k5⟩ (Nat.lt_of_le_of_lt hly (by omega))
    subst hst
    have hyw:aM y<=1000000:=m_ (fT m2) g3
    simp only[ia,lM,BU,Qc (show y≠0 by omega),cT]
    by_cases hye:y % 2=0
    ·rw[z7 (show ((y % 2:Nat):Int)=0 by omega),cT,tW (by omega),af]
     refine .inr ⟨y / 2,_,⟨rfl,by omega,by omega,.inr (by omega),?_⟩,vK (by omega) (by omega),rfl⟩
     rw[Nat.gcd_comm,AO hye (by omega),Nat.gcd_comm,m4]
    ·rw[z8 (show ¬ ((y % 2:Nat):Int)=0 by omega),cF]
     refine .inl ?_
     obtain ⟨z,hz1,hz2⟩:=sY (a:=x) (b:=y) (by omega) (by omega)
     have hprod:∀u v:Nat,u*v<=x*y->u % 2=0->muG u v<muG x0 y0:=fun u v huv hu=>by
      refine SP (by omega) g1 g4 hu ?_
      have hxy:x*y<=x0*y0:=Nat.mul_le_mul k2 m2
      rcases k3 with e | e
      ·rcases m3 with f | f
       ·subst e f
        exact .inr ⟨by omega,by omega,huv⟩
       ·refine .inl ?_
        have h6:x*(2*y)<=x0*y0:=Nat.mul_le_mul k2 f
        rw[Nat.mul_left_comm] at h6
        omega
      ·refine .inl ?_
       have h6:2*x*y<=x0*y0:=Nat.mul_le_mul e m2
       rw[Nat.mul_assoc] at h6
       omega
     rw[hz1,af]
     by_cases hlt:x<y
     ·rw[z7 (hz2.2 hlt),cT,sG (by omega) (by omega),af]
      refine ⟨(y - x,x),_,⟨rfl,?_⟩,hprod (y - x) x (by rw[iS];exact Nat.mul_le_mul_left x (Nat.sub_le _ _)) (by omega),rfl⟩
      refine ⟨k1,m_ (fT (Nat.sub_le _ _)) hyw,hxw,.inr (by simp only;omega),?_⟩
      simp only
      rw[Nat.gcd_sub_self_left (by omega),Nat.gcd_comm,m4,g5]
     ·rw[z8 (fun h=>hlt (hz2.1 h)),cF,sG (by omega) (by omega),af]
      refine ⟨(x - y,y),_,⟨rfl,?_⟩,hprod (x - y) y (mV y (Nat.sub_le _ _)) (by omega),rfl⟩
      refine ⟨m1,m_ (fT (Nat.sub_le _ _)) hxw,hyw,.inr (by simp only;omega),?_⟩
      simp only
      rw[Nat.gcd_sub_self_left (by omega),m4,g5]
def cm (a b i k:Nat):Nat:=(a % pw i*b % pw (i+k)+pw i*dgt a i*(b % pw k)) / pw (i+k)
def tm (a b i k:Nat):Nat:=a % pw i*b+pw i*dgt a i*(b % pw k)
theorem He (a b i:Nat):cm a b i 0=0:=by
 unfold cm
 rw[kZ,Nat.mod_one,Nat.mul_zero,lD,lD]
 exact Nat.div_eq_of_lt (Nat.mod_lt _ (gj i))
theorem Qy (a b i:Nat):tm a b i 0=a % pw i*b:=by
 unfold tm
 rw[kZ,Nat.mod_one,Nat.mul_zero,lD]
theorem Kg (a b i k:Nat):a % pw i*b % pw (i+k+1)+pw i*dgt a i*(b % pw (k+1))=pw (i+k)*(dgt (a % pw i*b) (i+k)+dgt a i*dgt b k)+(a % pw i*b % pw (i+k)+pw i*dgt a i*(b % pw k)):=by
 rw[ka,ka b,uJ i k,Nat.mul_add,Nat.mul_add,show pw i*dgt a i*(pw k*dgt b k)=pw i*pw k*(dgt a i*dgt b k) by rw[Nat.mul_assoc,Nat.mul_assoc,Nat.mul_left_comm (dgt a i)]]
 omega
theorem Ky (a b i k:Nat):(a % pw i*b % pw (i+k+1)+pw i*dgt a i*(b % pw (k+1))) / pw (i+k)=cm a b i k+dgt a i*dgt b k+dgt (a % pw i*b) (i+k):=by
 rw[Kg,Nat.mul_add_div (gj _)]
 unfold cm
 omega
theorem Hf (a b i k:Nat):cm a b i (k+1)=(cm a b i k+dgt a i*dgt b k+dgt (a % pw i*b) (i+k)) / 4294967296:=by
 rw[<-Ky,Nat.div_div_eq_div_mul,<-kY]
 rfl
theorem HM (x y:Nat) (hx:x<4294967296) (hy:y<4294967296):x*y<=18446744065119617025:=by
 have:=Nat.mul_le_mul (show x<=4294967295 by omega) (show y<=4294967295 by omega)
 omega
theorem Nq (a b i:Nat):∀k,cm a b i k<4294967296
 | 0=>by rw[He];decide
 | k+1=>by
  have h:=Nq a b i k
  have h1:=HM _ _ (gD a i) (gD b k)
  have h2:=gD (a % pw i*b) (i+k)
  rw[Hf]
  omega
theorem Ps (a b i k:Nat):tm a b i (k+1)=tm a b i k+pw (i+k)*(dgt a i*dgt b k):=by
 unfold tm
 rw[ka b,uJ i k,Nat.mul_add,show pw i*dgt a i*(pw k*dgt b k)=pw i*pw k*(dgt a i*dgt b k) by rw[Nat.mul_assoc,Nat.mul_assoc,Nat.mul_left_comm (dgt a i)]]
 omega
theorem TA (a b i k:Nat):dgt (tm a b i (k+1)) (i+k)=(cm a b i k+dgt a i*dgt b k+dgt (a % pw i*b) (i+k)) % 4294967296:=by
 have e:tm a b i (k+1)=a % pw i*b % pw (i+k+1)+pw i*dgt a i*(b % pw (k+1))+pw (i+k)*(4294967296*(a % pw i*b / pw (i+k+1))):=by
  unfold tm
  have h:=Nat.div_add_mod (a % pw i*b) (pw (i+k+1))
  have h2:pw (i+k+1)*(a % pw i*b / pw (i+k+1))=pw (i+k)*(4294967296*(a % pw i*b / pw (i+k+1))):=by rw[kY (i+k),Nat.mul_assoc]
  rw[h2] at h
  omega
 unfold dgt at *
 rw[e,Nat.add_mul_div_left _ _ (gj _)]
 have h3:=Ky a b i k
 unfold dgt at h3
 rw[h3]
 omega
theorem SJ (a b i:Nat) {k:Nat} (hk:b<pw k):tm a b i k=a % pw (i+1)*b:=by
 unfold tm
 rw[mv hk,ka a,iN]
def BW (L m T P:Nat):List Int:=jg L fun j=>if j<m then (dgt T j:Int) else (dgt P j:Int)
theorem KT {L m T P:Nat} (h:∀j,j<m->dgt T j=dgt P j):wds L P=BW L m T P:=jx fun j _=>by
 by_cases c:j<m
 ·rw[if_pos c,h j c]
 ·rw[if_neg c]
theorem Ia {L m T T' P:Nat} {x:Int} (hm:m<L) (hT:∀j,j<m->dgt T' j=dgt T j) (hx:x=(dgt T' m:Int)):(BW L m T P).set m x=BW L (m+1) T' P:=by
 unfold BW
 rw[zC hm]
 refine jx fun k hk=>?_
 by_cases c:k=m
 ·rw[if_pos c,if_pos (by omega),hx,c]
 ·rw[if_neg c]
  by_cases c2:k<m
  ·rw[if_pos c2,if_pos (by omega),hT k c2]
  ·rw[if_neg c2,if_neg (by omega)]
theorem HC {L m T P:Nat}:(BW L m T P).length=L:=fi
theorem KS {s u:Bool} {a b:Nat} (ha:aM a<=1000000) (hb:aM b<=1000000):ao (s,wd a) (u,wd b)=some (!decide (s=u),wd (a*b)):=by
 obtain ⟨m,hm⟩:∃m,m=aM a:=⟨_,rfl⟩
 obtain ⟨n,hn⟩:∃n,n=aM b:=⟨_,rfl⟩
 have hbn:b<pw n:=by rw[hn];exact dD b
 unfold ao je
 simp only[ia,<-hm,<-hn]
 rw[ap (x:=(m:Int)+(n:Int)) (by omega) (by omega),show (m:Int)+(n:Int)=((m+n:Nat):Int) from rfl,z9,z7 (show (0:Int)<=((m+n:Nat):Int) by omega),iH (show (m+n)*4<=140737488355328 by omega),g_,cT,Eu]
 refine gQ (α:=Int×List Int×PUnit) (R:=Bool×List Int) m (by omega) (fun i=>((i:Int),wds (m+n) (a % pw i*b),aQ)) _ ?_ (fun again i hi=>?_) (fun again=>?_)
 ·rw[kZ,Nat.mod_one,Nat.zero_mul];rfl
 ·have e1:aq .i64 ((i:Int)+(n:Int))=((i+n:Nat):Int):=by rw[ap (by omega) (by omega)];rfl
  have hP:a % pw i*b<pw (i+n):=by rw[uJ];exact Nat.mul_lt_mul'' (Nat.mod_lt _ (gj i)) hbn
  simp only[z7 (show (i:Int)<(m:Int) by omega),be,z7 hi,cT,z9,lM,e1,gJ (show i<=100000000000 by omega)]
  rw[KT (L:=m+n) (m:=i+0) (T:=tm a b i 0) (P:=a % pw i*b) (fun j _=>by rw[Qy])]
  refine gQ (α:=Int×Int×List Int×PUnit) (R:=Bool×List Int) n (by omega) (fun k=>((cm a b i k:Int),(k:Int),BW (m+n) (i+k) (tm a b i k) (a % pw i*b),aQ)) _ ?_ (fun again1 k hk=>?_) (fun again1=>?_)
  ·rw[He];rfl
  ·have hik:i+k<m+n:=by omega
   have e2:aq .i64 ((i:Int)+(k:Int))=((i+k:Nat):Int):=by rw[ap (by omega) (by omega)];rfl
   have h0:=Nq a b i k
   have h1:=HM _ _ (gD a i) (gD b k)
   have h2:=gD (a % pw i*b) (i+k)
   have h3:=gD a i
   have h4:=gD b k
   have hg:(BW (m+n) (i+k) (tm a b i k) (a % pw i*b)).getD (i+k) 0=(dgt (a % pw i*b) (i+k):Int):=by
    unfold BW
    rw[jk hik,if_neg (by omega)]
   have hw:aq .u64 ((cm a b i k:Int)+aq .u64 (aq .u64 (aq .u64 (dgt a i:Int)*aq .u64 (dgt b k:Int))+aq .u64 (dgt (a % pw i*b) (i+k):Int)))=((cm a b i k+dgt a i*dgt b k+dgt (a % pw i*b) (i+k):Nat):Int):=by
    rw[w64 (s:=dgt a i) (by omega),w64 (s:=dgt b k) (by omega),w64 (s:=dgt (a % pw i*b) (i+k)) (by omega),<-gO,w64 (s:=dgt a i*dgt b k) (by omega),<-Int.natCast_add,w64 (by omega),<-Int.natCast_add,w64 (by omega),Nat.add_assoc]
   simp only[z7 (show (k:Int)<(n:Int) by omega),be,z7 hk,cT,z9,lM,e2,HC,z7 hik,ff (show (i+k).succ<=m+n by omega),hg,hw,z7 (show (0:Int)<=32 by decide),gJ (show k<=100000000000 by omega)]
   rw[NF,<-Hf,Ia (T':=tm a b i (k+1)) hik (fun j hj=>by rw[Ps,QK hj]) (by rw[w32,TA])]
   rfl
  ·have hc:=Nq a b i n
   have hin:i+n<m+n:=by omega
   have hT:tm a b i n / pw (i+n)=cm a b i n:=by
    unfold tm cm
    rw[mv hP]
   have hTe:=SJ a b i hbn
   have hT2:a % pw (i+1)*b<pw (i+n+1):=by
    rw[show i+n+1=i+1+n by omega,uJ (i+1) n]
    exact Nat.mul_lt_mul'' (Nat.mod_lt _ (gj _)) hbn
   simp only[z8 (show ¬ (n:Int)<(n:Int) by omega),cF,be,HC,z7 hin,cT,z9,ff (show (i+n).succ<=m+n by omega)]
   rw[Ia (T':=tm a b i n) hin (fun j _=>rfl) (by
    rw[w32]
    unfold dgt
    rw[hT])]
   refine congrArg again (congrArg (fun l=>(((i+1:Nat):Int),l,aQ)) ?_)
   rw[hTe]
   unfold BW wds
   refine jx fun j hj=>?_
   by_cases c:j<i+n+1
   ·rw[if_pos c]
   ·rw[if_neg c,li (bx hP (ki (by omega))),li (bx hT2 (ki (by omega)))]
 ·simp only[z8 (show ¬ (m:Int)<(m:Int) by omega),cF]
  unfold wds
  rw[mv (show a<pw m by rw[hm];exact dD a),tA (bx (dD _) (ki (by have:=Fb a b;omega))) (by omega),af]
end Go.Proofs.YtlfdhaiigdllcaaGreat

namespace Go.Proofs.YtlfdhaiigdllcaaGreat
namespace Dn
abbrev Fq:=Int×Int
def okF (a:Fq):Prop:=(1<=a.2/\a.2<=1152921504606846976)/\(-1152921504606846976<=a.1/\a.1<=1152921504606846976)/\bT a.1.natAbs a.2.natAbs=1
instance (a:Fq):Decidable (okF a):=by unfold okF;infer_instance
def qv (a:Fq):Rat:=mkRat a.1 a.2.toNat
def eE (q:Rat):Prop:=q.num.natAbs<=1152921504606846976/\q.den<=1152921504606846976
instance (q:Rat):Decidable (eE q):=by unfold eE;infer_instance
def prQ (q:Rat):Fq:=(q.num,(q.den:Int))
def uZ (q:Rat):Fq×Int×Unit:=if eE q then (prQ q,0,()) else ((0,0),5,())
theorem Hj {a:Fq} (h:okF a):(qv a).num=a.1:=by
 obtain ⟨⟨h1,h2⟩,_,h3⟩:=h
 have h0:a.2.toNat≠0:=by omega
 have h4:bT a.2.toNat a.1.natAbs=1:=by rw[Nat.gcd_comm,show a.2.toNat=a.2.natAbs by omega];exact h3
 rw[qv,Rat.num_mkRat,if_neg h0,h4]
 simp
theorem Hx {a:Fq} (h:okF a):((qv a).den:Int)=a.2:=by
 obtain ⟨⟨h1,h2⟩,_,h3⟩:=h
 have h0:a.2.toNat≠0:=by omega
 have h4:bT a.2.toNat a.1.natAbs=1:=by rw[Nat.gcd_comm,show a.2.toNat=a.2.natAbs by omega];exact h3
 rw[qv,Rat.den_mkRat,if_neg h0,h4]
 simp;omega
theorem KN {a:Fq} (h:okF a):prQ (qv a)=a:=by
 unfold prQ
 rw[Hj h,Hx h]
theorem sF (q:Rat):qv (prQ q)=q:=by
 unfold qv prQ
 simp only[z9]
 exact Rat.mkRat_self q
theorem mi {q:Rat} (h:eE q):okF (prQ q):=by
 obtain ⟨h1,h2⟩:=h
 have:=q.den_pos
 refine ⟨⟨?_,?_⟩,⟨?_,?_⟩,?_⟩
 ·simp only[prQ];omega
 ·simp only[prQ];omega
 ·simp only[prQ];omega
 ·simp only[prQ];omega
 ·simp only[prQ]
  rw[Int.natAbs_natCast]
  exact q.reduced
theorem D7 {a:Fq} (h:okF a):eE (qv a):=by
 unfold eE
 have h1:=Hj h
 have h2:=Hx h
 obtain ⟨⟨_,_⟩,⟨_,_⟩,_⟩:=h
 rw[h1]
 omega
theorem G5 {a:Fq} (h:okF a):uZ (qv a)=(a,0,()):=by
 unfold uZ
 rw[if_pos (D7 h),KN h]
theorem qy (q:Rat):(eE q/\uZ q=(prQ q,0,()))\/(¬ eE q/\uZ q=((0,0),5,())):=by
 unfold uZ
 by_cases h:eE q
 ·exact .inl ⟨h,by rw[if_pos h]⟩
 ·exact .inr ⟨h,by rw[if_neg h]⟩
theorem sr (n:Int):qv (n,1)=(n:Rat):=by
 show mkRat n 1=(n:Rat)
 rw[Rat.mkRat_eq_div]
 show (n:Rat) / ((1:Nat):Rat)=n
 rw[show ((1:Nat):Rat)=1 from rfl]
 grind
theorem BV {n:Int} (h1: -1152921504606846976<=n) (h2:n<=1152921504606846976):okF (n,1):=⟨⟨by simp,by simp⟩,⟨h1,h2⟩,by simp⟩
theorem HX (n:Int):prQ (n:Rat)=(n,1):=rfl
def sgn (s:Bool) (n:Nat):Int:=if s then -(n:Int) else n
theorem OU {s:Bool} {n d:Nat} (hd:0<d) (hc:bT n d=1):(mkRat (sgn s n) d).num=sgn s n/\(mkRat (sgn s n) d).den=d:=by
 have h0:d≠0:=by omega
 have ha:(sgn s n).natAbs=n:=by unfold sgn;split<;>simp
 have hg:bT d (sgn s n).natAbs=1:=by rw[ha,Nat.gcd_comm];exact hc
 rw[Rat.num_mkRat,Rat.den_mkRat,if_neg h0,if_neg h0,hg]
 simp
theorem yq {s:Bool} {n d:Nat} (hd:0<d):mkRat (sgn s n) d=mkRat (sgn s (n / bT n d)) (d / bT n d)/\0<d / bT n d/\bT (n / bT n d) (d / bT n d)=1:=by
 have hg:0<bT n d:=Nat.gcd_pos_of_pos_right _ hd
 have h1:n / bT n d*bT n d=n:=Nat.div_mul_cancel (Nat.gcd_dvd_left n d)
 have h2:d / bT n d*bT n d=d:=Nat.div_mul_cancel (nE n d)
 refine ⟨?_,Nat.div_pos (Nat.le_of_dvd hd (nE n d)) hg,Nat.gcd_div_gcd_div_gcd_of_pos_right hd⟩
 have h3:sgn s n=sgn s (n / bT n d)*(bT n d:Int):=by
  unfold sgn
  split
  ·rw[Int.neg_mul,<-gO,h1]
  ·rw[<-gO,h1]
 have h4:mkRat (sgn s n) d=mkRat (sgn s (n / bT n d)*(bT n d:Int)) (d / bT n d*bT n d):=by rw[<-h3,h2]
 rw[h4]
 exact Rat.mkRat_mul_right (by omega)
theorem tR {s:Bool} {n d m e:Nat} (hd:0<d) (he:0<e) (h:n*e=m*d):mkRat (sgn s n) d=mkRat (sgn s m) e:=by
 rw[Rat.mkRat_eq_iff (by omega) (by omega)]
 unfold sgn
 split
 ·rw[Int.neg_mul,Int.neg_mul,<-gO,<-gO,h]
 ·rw[<-gO,<-gO,h]
theorem vr {s:Bool} {n d:Nat} (hd:0<d) (hc:bT n d=1):uZ (mkRat (sgn s n) d)=if n<=1152921504606846976/\d<=1152921504606846976 then ((sgn s n,(d:Int)),0,()) else ((0,0),5,()):=by
 obtain ⟨h1,h2⟩:=OU (s:=s) hd hc
 have ha:(sgn s n).natAbs=n:=by unfold sgn;split<;>simp
 unfold uZ
 have e:eE (mkRat (sgn s n) d)↔n<=1152921504606846976/\d<=1152921504606846976:=by unfold eE;rw[h1,h2,ha]
 have e2:prQ (mkRat (sgn s n) d)=(sgn s n,(d:Int)):=by unfold prQ;rw[h1,h2]
 rw[e2]
 by_cases h:n<=1152921504606846976/\d<=1152921504606846976
 ·rw[if_pos h,if_pos (e.2 h)]
 ·rw[if_neg h,if_neg (fun hh=>h (e.1 hh))]
theorem gP (n:Int):n=sgn (decide (n<0)) n.natAbs:=by
 unfold sgn
 by_cases h:n<0
 ·simp[h];omega
 ·simp[h];omega
theorem G8 (a:Fq):qv a=mkRat (sgn (decide (a.1<0)) a.1.natAbs) a.2.toNat:=by
 unfold qv
 rw[<-gP]
theorem HW {s t:Bool} {m n:Nat}:sgn s m*sgn t n=sgn (s !=t) (m*n):=by
 unfold sgn
 cases s<;>cases t<;>simp[Int.neg_mul,Int.mul_neg]
theorem Ct {s t:Bool} {m n d e:Nat}:mkRat (sgn s m) d*mkRat (sgn t n) e=mkRat (sgn (s !=t) (m*n)) (d*e):=by
 rw[Rat.mkRat_mul_mkRat,HW]
theorem EG (s t:Bool):sgn s 0=sgn t 0:=by unfold sgn;cases s<;>cases t<;>rfl
end Dn
end Go.Proofs.YtlfdhaiigdllcaaGreat

namespace Go.Proofs.YtlfdhaiigdllcaaGreat
open Tryz Dn Dn.Sh
def IsN (K:Nat) (x:Bool×List Int) (z:Int):Prop:=∃(s:Bool) (n:Nat),x=(s,wd n)/\z=sgn s n/\n<pw K
def IsE (K:Nat) (x:(Bool×List Int)×Bool×List Int) (q:Rat):Prop:=∃(s:Bool) (n d:Nat),x=((s,wd n),(false,wd d))/\0<d/\bT n d=1/\n<pw K/\d<pw K/\q=mkRat (sgn s n) d
theorem IsN.mono {K L:Nat} {x:Bool×List Int} {z:Int} (h:IsN K x z) (hk:K<=L):IsN L x z:=by
 obtain ⟨s,n,h1,h2,h3⟩:=h
 exact ⟨s,n,h1,h2,bx h3 (ki hk)⟩
theorem IsE.mono {K L:Nat} {x:(Bool×List Int)×Bool×List Int} {q:Rat} (h:IsE K x q) (hk:K<=L):IsE L x q:=by
 obtain ⟨s,n,d,h1,h2,h3,h4,h5,h6⟩:=h
 exact ⟨s,n,d,h1,h2,h3,bx h4 (ki hk),bx h5 (ki hk),h6⟩
theorem CX {z:Int} (h: -9223372036854775808<=z/\z<9223372036854775808):∃w,bn z=some w/\IsN 2 w z:=by
 refine ⟨_,nM h,_,_,rfl,gP z,?_⟩
 have:pw 2=18446744073709551616:=rfl
 omega
theorem KW {K L:Nat} {x y:Bool×List Int} {a b:Int} (hx:IsN K x a) (hy:IsN L y b) (hK:K<=1000000) (hL:L<=1000000):∃w,cE x y=some w/\IsN (max K L+1) w (a+b):=by
 obtain ⟨s,n,rfl,rfl,h1⟩:=hx
 obtain ⟨u,m,rfl,rfl,h2⟩:=hy
 have g1:=iI h1
 have g2:=iI h2
 have b1:=bx h1 (ki (Nat.le_max_left K L))
 have b2:=bx h2 (ki (Nat.le_max_right K L))
 have b3:n+m<pw (max K L+1):=by rw[kY];omega
 unfold cE jv
 by_cases hs:s=u
 ·subst hs
  simp only[decide_true,cT,vL (a:=n) (b:=m) (by omega) (by omega),af]
  refine ⟨_,rfl,s,n+m,rfl,?_,b3⟩
  unfold sgn
  cases s<;>simp<;>omega
 ·obtain ⟨z,hz1,hz2⟩:=sY (a:=n) (b:=m) (by omega) (by omega)
  simp only[z8 hs,cF,hz1,af]
  by_cases hlt:n<m
  ·simp only[z7 (hz2.2 hlt),cT,sG (a:=m) (b:=n) (by omega) (by omega),af]
   refine ⟨_,rfl,u,m - n,rfl,?_,by omega⟩
   unfold sgn
   cases s<;>cases u<;>simp at hs ⊢<;>omega
  ·simp only[z8 (fun h=>hlt (hz2.1 h)),cF,sG (a:=n) (b:=m) (by omega) (by omega),af]
   refine ⟨_,rfl,s,n - m,rfl,?_,by omega⟩
   unfold sgn
   cases s<;>cases u<;>simp at hs ⊢<;>omega
theorem jL {K L:Nat} {x y:Bool×List Int} {a b:Int} (hx:IsN K x a) (hy:IsN L y b) (hK:K<=1000000) (hL:L<=1000000):∃w,ao x y=some w/\IsN (K+L) w (a*b):=by
 obtain ⟨s,n,rfl,rfl,h1⟩:=hx
 obtain ⟨u,m,rfl,rfl,h2⟩:=hy
 have g1:=iI h1
 have g2:=iI h2
 refine ⟨_,KS (by omega) (by omega),!decide (s=u),n*m,rfl,?_,?_⟩
 ·rw[HW]
  cases s<;>cases u<;>rfl
 ·rw[uJ]
  exact Nat.mul_lt_mul'' h1 h2
theorem Rp:az 0=some ((false,wd 0),(false,wd 1)):=by
 unfold az mh
 rw[nM (z:=0) (by decide),nM (z:=1) (by decide)]
 rfl
theorem Sb {K:Nat} {s u:Bool} {n d:Nat} (hd:0<d) (h1:n<pw K) (h2:d<pw K) (hK:K<=1000000):∃z,aO (s,wd n) (u,wd d)=some z/\IsE K z (mkRat (sgn (s !=u) n) d):=by
 have g1:=iI h1
 have g2:=iI h2
 unfold aO pa bf ju
 by_cases h0:n=0
 ·subst h0
  simp only[Hg,List.length_nil,z7 (show ((0:Nat):Int)=0 from rfl),cT,af,decide_true,Rp]
  refine ⟨_,rfl,false,0,1,rfl,by decide,rfl,by omega,by omega,?_⟩
  rw[show sgn (s !=u) 0=0 by unfold sgn;split<;>rfl,show sgn false 0=0 from rfl,Rat.zero_mkRat,Rat.zero_mkRat]
 ·have hw:aM n≠0:=fun h=>h0 (qS.1 h)
  have hsg:(bif decide (((aM n:Nat):Int)=0) then some 0 else bif s then some (-1) else some 1)=some (if s then (-1:Int) else 1):=by
   rw[z8 (by omega),cF]
   cases s<;>rfl
  have hsn:¬ (if s then (-1:Int) else 1)=0:=by cases s<;>decide
  obtain ⟨e1,e2,e3⟩:=yq (s:=s !=u) (n:=n) hd
  have hg:0<bT n d:=Nat.gcd_pos_of_pos_right _ hd
  have hgl:aM (bT n d)<=1000000:=m_ (fT (Nat.le_of_dvd hd (nE n d))) (by omega)
  have hc:=I8 (a:=n) (b:=d) (by omega) hd (by omega) (by omega)
  have hq1:=zK (a:=n) hg (by omega) hgl
  have hq2:=zK (a:=d) hg (by omega) hgl
  have hr:∀v:Bool,IsE K ((v,wd (n / bT n d)),(false,wd (d / bT n d))) (mkRat (sgn v n) d):=fun v =>
   ⟨v,_,_,rfl,e2,e3,Nat.lt_of_le_of_lt (j_ _ _) h1,Nat.lt_of_le_of_lt (j_ _ _) h2,(yq (s:=v) (n:=n) hd).1⟩
  simp only[ia,hsg,af,z8 hsn,cF,jnB]
  cases u with
  | false =>
   simp only[cF,hc,af,hq1,hq2]
   refine ⟨_,rfl,?_⟩
   rw[show (s !=false)=s by cases s<;>rfl]
   exact hr s
  | true =>
   simp only[cT,aG,fC,hc,af,hq1,hq2]
   refine ⟨_,rfl,?_⟩
   rw[show (s !=true)=!s by cases s<;>rfl]
   exact hr (!s)
theorem tE {K:Nat} {x y:Bool×List Int} {a b:Int} (hx:IsN K x a) (hy:IsN K y b) (hb:b≠0) (hK:K<=1000000):∃z,aO x y=some z/\∀q:Rat,q*(b:Rat)=(a:Rat)->IsE K z q:=by
 obtain ⟨s,n,rfl,rfl,h1⟩:=hx
 obtain ⟨u,d,rfl,rfl,h2⟩:=hy
 have hd:0<d:=by
  by_cases h:d=0
  ·subst h;exact absurd (show sgn u 0=0 by unfold sgn;split<;>rfl) hb
  ·omega
 obtain ⟨z,hz1,hz2⟩:=Sb (s:=s) (u:=u) hd h1 h2 hK
 refine ⟨z,hz1,fun q hq=>?_⟩
 have e:q=mkRat (sgn (s !=u) n) d:=by
  have hb':((sgn u d:Int):Rat)≠0:=fun h=>hb (by exact_mod_cast h)
  have h3:mkRat (sgn (s !=u) n) d*((sgn u d:Int):Rat)=((sgn s n:Int):Rat):=by
   rw[show ((sgn u d:Int):Rat)=mkRat (sgn u d) 1 from (sr _).symm,show ((sgn s n:Int):Rat)=mkRat (sgn s n) 1 from (sr _).symm,Ct,show ((s !=u) !=u)=s by cases s<;>cases u<;>rfl]
   exact tR (by omega) (by decide) (by rw[Nat.mul_one,Nat.mul_one])
  have h4:q=q*((sgn u d:Int):Rat) / ((sgn u d:Int):Rat):=(Rat.mul_div_cancel hb').symm
  rw[h4,hq,<-h3,Rat.mul_div_cancel hb']
 rw[e]
 exact hz2
theorem IsE.parts {K:Nat} {x:(Bool×List Int)×Bool×List Int} {q:Rat} (h:IsE K x q):∃a b:Int,IsN K x.1 a/\IsN K x.2 b/\0<b/\q*(b:Rat)=(a:Rat):=by
 obtain ⟨s,n,d,rfl,h2,h3,h4,h5,rfl⟩:=h
 refine ⟨sgn s n,(d:Int),⟨s,n,rfl,rfl,h4⟩,⟨false,d,rfl,rfl,h5⟩,by omega,?_⟩
 rw[show (((d:Nat):Int):Rat)=mkRat (sgn false d) 1 from (sr _).symm,show ((sgn s n:Int):Rat)=mkRat (sgn s n) 1 from (sr _).symm,Ct,show (s !=false)=s by cases s<;>rfl]
 exact tR (by omega) (by decide) (by rw[Nat.mul_one,Nat.mul_one])
theorem jh {z:Int} (h: -9223372036854775808<=z/\z<9223372036854775808):∃x,az z=some x/\IsE 2 x (z:Rat):=by
 unfold az mh
 rw[nM h,nM (z:=1) (by decide)]
 refine ⟨_,rfl,decide (z<0),z.natAbs,1,rfl,by decide,Nat.gcd_one_right _,?_,by decide,?_⟩
 ·have:pw 2=18446744073709551616:=rfl
  omega
 ·rw[<-gP]
  exact (sr z).symm
theorem im {K L:Nat} {x y:(Bool×List Int)×Bool×List Int} {p q:Rat} (hx:IsE K x p) (hy:IsE L y q) (hK:K+L<1000000):∃z,aj x y=some z/\IsE (K+L+1) z (p+q):=by
 obtain ⟨a,b,h1,h2,h3,h4⟩:=hx.parts
 obtain ⟨c,d,g1,g2,g3,g4⟩:=hy.parts
 obtain ⟨w1,e1,f1⟩:=jL h1 g2 (by omega) (by omega)
 obtain ⟨w2,e2,f2⟩:=jL g1 h2 (by omega) (by omega)
 obtain ⟨w3,e3,f3⟩:=KW f1 f2 (by omega) (by omega)
 obtain ⟨w4,e4,f4⟩:=jL h2 g2 (by omega) (by omega)
 obtain ⟨z,e5,f5⟩:=tE (K:=K+L+1) (f3.mono (by omega)) (f4.mono (by omega)) (Int.mul_ne_zero (by omega) (by omega)) (by omega)
 unfold aj kh
 rw[e1,af,e2,af,e3,af,e4,af,e5]
 refine ⟨z,rfl,f5 _ ?_⟩
 rw[Rat.intCast_add,Rat.intCast_mul,Rat.intCast_mul,Rat.intCast_mul,<-h4,<-g4]
 grind
theorem jY {K L:Nat} {x y:(Bool×List Int)×Bool×List Int} {p q:Rat} (hx:IsE K x p) (hy:IsE L y q) (hK:K+L<1000000):∃z,aw x y=some z/\IsE (K+L+1) z (p - q):=by
 obtain ⟨s,n,d,rfl,h2,h3,h4,h5,rfl⟩:=hy
 have hy':IsE L ((!s,wd n),(false,wd d)) (-mkRat (sgn s n) d):=⟨!s,n,d,rfl,h2,h3,h4,h5,by
  rw[Rat.neg_mkRat]
  congr 1
  unfold sgn
  cases s<;>simp⟩
 obtain ⟨z,e1,f1⟩:=im hx hy' hK
 unfold aw kj
 simp only[aG,fC,af]
 rw[e1]
 exact ⟨z,rfl,by rw[Rat.sub_eq_add_neg];exact f1⟩
theorem tw {K L:Nat} {x y:(Bool×List Int)×Bool×List Int} {p q:Rat} (hx:IsE K x p) (hy:IsE L y q) (hK:K+L<1000000):∃z,bP x y=some z/\IsE (K+L) z (p*q):=by
 obtain ⟨a,b,h1,h2,h3,h4⟩:=hx.parts
 obtain ⟨c,d,g1,g2,g3,g4⟩:=hy.parts
 obtain ⟨w1,e1,f1⟩:=jL h1 g1 (by omega) (by omega)
 obtain ⟨w2,e2,f2⟩:=jL h2 g2 (by omega) (by omega)
 obtain ⟨z,e5,f5⟩:=tE (K:=K+L) f1 f2 (Int.mul_ne_zero (by omega) (by omega)) (by omega)
 unfold bP jy
 rw[e1,af,e2,af,e5]
 refine ⟨z,rfl,f5 _ ?_⟩
 rw[Rat.intCast_mul,Rat.intCast_mul,<-h4,<-g4]
 grind
theorem C7 {K L:Nat} {x y:(Bool×List Int)×Bool×List Int} {p q:Rat} (hx:IsE K x p) (hy:IsE L y q) (hq:q≠0) (hK:K+L<1000000):∃z,bg x y=some z/\IsE (K+L) z (p / q):=by
 obtain ⟨a,b,h1,h2,h3,h4⟩:=hx.parts
 obtain ⟨c,d,g1,g2,g3,g4⟩:=hy.parts
 have hd:(d:Rat)≠0:=fun h=>by
  have:d=0:=by exact_mod_cast h
  omega
 have hc:c≠0:=fun h=>by
  rw[h] at g4
  exact hq ((Rat.mul_eq_zero.1 (g4.trans rfl)).resolve_right hd)
 obtain ⟨w1,e1,f1⟩:=jL h1 g2 (by omega) (by omega)
 obtain ⟨w2,e2,f2⟩:=jL h2 g1 (by omega) (by omega)
 obtain ⟨z,e5,f5⟩:=tE (K:=K+L) f1 f2 (Int.mul_ne_zero (by omega) hc) (by omega)
 unfold bg lJ
 rw[e1,af,e2,af,e5]
 refine ⟨z,rfl,f5 _ ?_⟩
 have hpq:p / q*q=p:=by rw[Rat.div_mul_cancel hq]
 rw[Rat.intCast_mul,Rat.intCast_mul,<-h4,<-g4]
 have:p / q*((b:Rat)*(q*d))=p / q*q*b*d:=by grind
 rw[this,hpq]
theorem Hh {m k:Nat} (hk:k<2):aq .u64 ((Nat.lor (aS (((m % pw k:Nat):Int) % bY 18446744073709551616)) (aS (aq .u64 (aq .u64 (dgt m k:Int)*2 ^ min (aS (aq .i64 (32*(k:Int)))) 64) % bY 18446744073709551616)):Nat):Int)=((m % pw (k+1):Nat):Int):=by
 have h1:=Nat.mod_lt m (gj k)
 have h2:=gD m k
 have h3:pw k<=4294967296:=by rw[<-Gf];exact ki (by omega)
 have h4:min (aS (aq .i64 (32*(k:Int)))) 64=32*k:=by
  rw[ap (by omega) (by omega)];omega
 have h5:(dgt m k:Int)*2 ^ (32*k)=((pw k*dgt m k:Nat):Int):=by
  rw[gO,Int.mul_comm,qN]
  simp
 have h6:pw k*dgt m k<=4294967296*4294967295:=Nat.mul_le_mul h3 (by omega)
 have h7:=ka m k
 have h8:m % pw (k+1)<18446744073709551616:=by
  have a1:=Nat.mod_lt m (gj (k+1))
  have a2:=ki (show k+1<=2 by omega)
  have:pw 2=18446744073709551616:=rfl
  omega
 rw[h4,w64 (s:=dgt m k) (by omega),h5]
 obtain ⟨A,hA⟩:∃A,A=m % pw k:=⟨_,rfl⟩
 obtain ⟨X,hX⟩:∃X,X=pw k*dgt m k:=⟨_,rfl⟩
 rw[<-hA] at h1 h7 ⊢
 rw[<-hX] at h6 h7 ⊢
 rw[w64 (s:=X) (by omega),show bY 18446744073709551616=(18446744073709551616:Int) from rfl]
 have h9:Nat.lor A X=A+X:=by
  show A |||X=_
  rw[hX,qN,Nat.or_comm,<-Nat.two_pow_add_eq_or_of_lt (by rw[<-qN];exact h1),Nat.add_comm]
 rw[show aS ((A:Int) % 18446744073709551616)=A by omega,show aS ((X:Int) % 18446744073709551616)=X by omega,h9,<-h7,w64 h8]
def HF (s:Bool) (n d:Nat) (rec:Int×(Int×Int)×(Int×Int)×PUnit->Option ((Int×Int)×Int×PUnit)) (i:Nat) (o:Option ((Int×Int)×Int×PUnit)):Prop :=
 o=some (if n<=1152921504606846976/\d<=1152921504606846976 then ((sgn s n,(d:Int)),0,()) else ((0,0),5,()))\/∃(s':Nat) (y:Int×(Int×Int)×(Int×Int)×PUnit),(s'<=2/\(1<=s'->n<=1152921504606846976)/\(2<=s'->d<=1152921504606846976)/\y=((s':Int),(0,0),((if 1<=s' then (n:Int) else 0),(if 2<=s' then (d:Int) else 0)),aQ))/\2 - s'<2 - i/\o=rec y
theorem tx {s:Bool} {n d:Nat} {rec:Int×(Int×Int)×(Int×Int)×PUnit->Option ((Int×Int)×Int×PUnit)} {i:Nat} (h:¬ (n<=1152921504606846976/\d<=1152921504606846976)):HF s n d rec i (some ((0,0),5,aQ)):=.inl (by rw[if_neg h])
theorem PN {K:Nat} {x:(Bool×List Int)×Bool×List Int} {q:Rat} (hx:IsE K x q) (hK:K<=1000000):bU x=some (uZ q):=by
 obtain ⟨s,n,d,rfl,hd,hc,hn1,hd1,rfl⟩:=hx
 rw[vr hd hc]
 have g1:=iI hn1
 have g2:=iI hd1
 have hbig:∀m:Nat,¬ aM m<=2->¬ m<=1152921504606846976:=fun m h h2=>h (iI (by
  have:pw 2=18446744073709551616:=rfl
  omega))
 unfold bU iA
 refine iZ (γ:=Nat) (α:=Int×(Int×Int)×(Int×Int)×PUnit) (R:=(Int×Int)×Int×PUnit) (fun i st=>i<=2/\(1<=i->n<=1152921504606846976)/\(2<=i->d<=1152921504606846976)/\st=((i:Int),(0,0),((if 1<=i then (n:Int) else 0),(if 2<=i then (d:Int) else 0)),aQ)) (fun o=>o=some (if n<=1152921504606846976/\d<=1152921504606846976 then ((sgn s n,(d:Int)),0,()) else ((0,0),5,()))) (fun i=>2 - i) (fun rec i st ⟨hi,hin,hid,hst⟩=>?_) (s:=0) ⟨by decide,fun h=>absurd h (by decide),fun h=>absurd h (by decide),rfl⟩ (by decide)
 subst hst
 show HF s n d rec i _
 by_cases h0:i=0
 ·subst h0
  simp only[z7 (show ((0:Nat):Int)<2 by decide),cT,show inB ((0:Nat):Int) 2=true from rfl,show (aS ((0:Nat):Int))=0 from rfl,List.getD_cons_zero,ia,show (eS (iD 0) 2)=true from rfl]
  by_cases hw:aM n<=2
  ·rw[z8 (show ¬ ((aM n:Nat):Int)>2 by omega),cF]
   have hnp:=dD n
   refine DI (α:=Int×(Int×Int)×PUnit) (R:=(Int×Int)×Int×PUnit) (HF s n d rec 0) (aM n) (by omega) (fun k=>((k:Int),(((n % pw k:Nat):Int),0),aQ)) ?_ (fun again k hk=>?_) (fun again=>?_)
   ·rw[kZ,Nat.mod_one];rfl
   ·simp only[z7 (show (k:Int)<(aM n:Nat) by omega),be,z7 hk,cT,z9,lM,Hh (show k<2 by omega),z7 (show (0:Int)<=aq .i64 (32*(k:Int)) by rw[ap (by omega) (by omega)];omega),gJ (show k<=100000000000 by omega)]
    rfl
   ·simp only[z8 (show ¬ ((aM n:Nat):Int)<(aM n:Nat) by omega),cF,mv hnp,List.getD_cons_zero]
    by_cases hM:n<=1152921504606846976
    ·rw[z8 (show ¬ (n:Int)>1152921504606846976 by omega),cF]
     exact .inr ⟨1,_,⟨by decide,fun _=>hM,fun h=>absurd h (by decide),rfl⟩,by decide,rfl⟩
    ·rw[z7 (show (n:Int)>1152921504606846976 by omega),cT]
     exact tx fun h=>hM h.1
  ·rw[z7 (show ((aM n:Nat):Int)>2 by omega),cT]
   exact tx fun h=>hbig n hw h.1
 by_cases h1:i=1
 ·subst h1
  have hM1:=hin (b_ _)
  simp only[z7 (show ((1:Nat):Int)<2 by decide),cT,show inB ((1:Nat):Int) 2=true from rfl,show (aS ((1:Nat):Int))=1 from rfl,List.getD_cons_succ,List.getD_cons_zero,ia,show (eS (iD 1) 2)=true from rfl]
  by_cases hw:aM d<=2
  ·rw[z8 (show ¬ ((aM d:Nat):Int)>2 by omega),cF]
   have hnp:=dD d
   refine DI (α:=Int×(Int×Int)×PUnit) (R:=(Int×Int)×Int×PUnit) (HF s n d rec 1) (aM d) (by omega) (fun k=>((k:Int),((n:Int),((d % pw k:Nat):Int)),aQ)) ?_ (fun again k hk=>?_) (fun again=>?_)
   ·rw[kZ,Nat.mod_one];rfl
   ·simp only[z7 (show (k:Int)<(aM d:Nat) by omega),be,z7 hk,cT,z9,lM,Hh (show k<2 by omega),z7 (show (0:Int)<=aq .i64 (32*(k:Int)) by rw[ap (by omega) (by omega)];omega),gJ (show k<=100000000000 by omega)]
    rfl
   ·simp only[z8 (show ¬ ((aM d:Nat):Int)<(aM d:Nat) by omega),cF,mv hnp,List.getD_cons_zero]
    by_cases hM:d<=1152921504606846976
    ·rw[z8 (show ¬ (d:Int)>1152921504606846976 by omega),cF]
     exact .inr ⟨2,_,⟨by decide,fun _=>hM1,fun _=>hM,rfl⟩,by decide,rfl⟩
    ·rw[z7 (show (d:Int)>1152921504606846976 by omega),cT]
     exact tx fun h=>hM h.2
  ·rw[z7 (show ((aM d:Nat):Int)>2 by omega),cT]
   exact tx fun h=>hbig d hw h.2
 ·have h2:i=2:=by omega
  subst h2
  have hM1:=hin (by decide)
  have hM2:=hid (by decide)
  refine .inl ?_
  rw[if_pos (show n<=1152921504606846976/\d<=1152921504606846976 from ⟨hM1,hM2⟩)]
  simp only[z8 (show ¬ ((2:Nat):Int)<2 by decide),cF,if_pos (show (1:Nat)<=2 by decide),if_pos (show (2:Nat)<=2 by decide),ap (x:=(n:Int)) (by omega) (by omega),ap (x:=(d:Int)) (by omega) (by omega),ap (x:=0 - (n:Int)) (by omega) (by omega)]
  unfold sgn
  cases s with
  | true=>simp only[cT,if_true,Int.zero_sub]
  | false=>simp only[cF];rfl
theorem LV {K:Nat} {l:List ((Bool×List Int)×Bool×List Int)} {q:Nat->Rat} (hl:l.length<=1000000) (hK:K<=1000000) (h:∀i,i<l.length->IsE K (l.getD i ((false,[]),(false,[]))) (q i)):∃(r:List (Int×Int)) (e:Int),dy l=some (r,e,aQ)/\(e=0->r.length=l.length/\(∀a ∈ r,okF a)/\∀i,i<l.length->qv (r.getD i (0,0))=q i):=by
 unfold dy kP
 refine iZ (γ:=Nat) (α:=List (Int×Int)×Int×PUnit) (R:=List (Int×Int)×Int×PUnit) (fun i st=>i<=l.length/\∃r:List (Int×Int),st=(r,(i:Int),aQ)/\r=((List.range i).map fun j=>prQ (q j))/\∀j,j<i->eE (q j)) (fun o=>∃(r:List (Int×Int)) (e:Int),o=some (r,e,aQ)/\(e=0->r.length=l.length/\(∀a ∈ r,okF a)/\∀i,i<l.length->qv (r.getD i (0,0))=q i)) (fun i=>l.length - i) (fun rec i st ⟨hi,r,hst,hr,hf⟩=>?_) (s:=0) ⟨Nat.zero_le _,[],rfl,rfl,fun j hj=>absurd hj (Nat.not_lt_zero _)⟩ (by omega)
 subst hst
 by_cases hil:i<l.length
 ·have hq:=PN (h i hil) hK
  simp only[z7 (show (i:Int)<l.length by omega),be,z7 hil,cT,z9,hq,af]
  rcases qy (q i) with ⟨f1,e1⟩ | ⟨f1,e1⟩
  ·simp only[e1,decide_true,bX,cF,hr,List.length_map,List.length_range,iH (show (i+1)*16<=140737488355328 by omega),cT,gJ (show i<=100000000000 by omega)]
   refine .inr ⟨i+1,_,⟨hil,_,rfl,?_,fun j hj=>?_⟩,by omega,rfl⟩
   ·rw[List.range_succ,List.map_append];rfl
   ·by_cases c:j<i
    ·exact hf j c
    ·rw[show j=i by omega];exact f1
  ·simp only[e1]
   exact .inl ⟨_,_,rfl,fun e=>absurd e (by decide)⟩
 ·have e:i=l.length:=by omega
  simp only[z8 (show ¬ (i:Int)<l.length by omega),cF]
  refine .inl ⟨_,_,rfl,fun _=>⟨by rw[hr,List.length_map,List.length_range,e],fun a ha=>?_,fun j hj=>?_⟩⟩
  ·rw[hr] at ha
   obtain ⟨j,hj,rfl⟩:=List.mem_map.1 ha
   exact mi (hf j (List.mem_range.1 hj))
  ·rw[hr]
   have:((List.range i).map fun j=>prQ (q j)).getD j (0,0)=prQ (q j):=jk (by omega)
   rw[this,sF]
end Go.Proofs.YtlfdhaiigdllcaaGreat
