/- A symbolic executor: one operation, with its guard; regions in the order of the text. -/
import Derived.Laws.BytesString
import Derived.Test.YtegbncajloeepaaGreatMgH

namespace Go.Proofs.YtegbncajloeepaaGreat
namespace Dn
open Go.RowKit
section
variable {N:Nat} {g:Look} {E:Env} {a:Act} {o:Oper}
def Mb (get:Operand->Option SV) (f:Operand) (xs:Array Operand):Option Cor:=match get f with
 | some (.c false [.fn a r F])=>match Je get xs.toList with
  | some l=>match np a l with
   | some (x,[])=>some (.call r.T r.dflt (F x) (JP (.one r)) (fun _=>.none) true)
   | _=>none
  | none=>none
 | _=>none
theorem Kp {get:Operand->Option SV} {f:Operand} {xs:Array Operand} {ts:Array TypeId} {r:Cor} (ho:o.op=.call { callee:=.value f,args:=xs,argTypes:=ts })
  (h:Mb get f xs=some r) (hg:fO E a get o) (hm:Mod N E a g):Bb E.P N g E a o r:=by
 unfold Mb at h
 split at h
 ·rename_i as rs F hf
  split at h
  ·rename_i l hl
   split at h
   ·rename_i x hx
    injection h with h
    subst h
    refine ⟨fun _ _=>rfl,?_⟩
    intro y hy
    obtain ⟨cs,hv,hr,_⟩:=hg f _ (by rw[ho];simp[Op.operands,Call.operands]) hf
    match cs,hr with
    | [z],hr =>
     obtain ⟨id,cap,hz,hcall,hfn⟩:=hr.1
     have hl':=ze hl fun x hx s hs=>hg x s (by rw[ho];simp only[Op.operands,Call.operands];rw[Array.mem_append];right;exact Array.mem_toList_iff.1 hx) hs
     obtain ⟨vs1,vs2,e,h1,h2⟩:=iZ hx hl'
     match vs2,h2 with
     | [],_ =>
      rw[List.append_nil] at e
      refine Iy (cap:=cap) ho (by rw[hv,hz];rfl) hcall hm ?_
      have:=hfn E.w E.Z x y vs1 ⟨hm.glob.below,fun _ _ _ h=>h⟩ (fun _ h=>h) hm.glob.zlt hy h1
      have e2:xs.map a.eval=vs1.toArray:=by rw[<-e];simp[<-Array.toList_map]
      rw[e2]
      exact this
   ·cases h
  ·cases h
 ·cases h
def SH (P:Program) (get:Operand->Option SV) (f:Operand) (xs:Array Operand):Option Core:=match get f with
 | some fv=>match vt fv with
  | some (id,[])=>Gl P get id xs
  | _=>none
 | none=>none
def Sn (C:Ctx) (get:Operand->Option SV) (bk:Nat->Option (List At)) (rk:Rk) (b:Nat) (f:Operand) (xs:Array Operand):Option Cor:=match Mb get f xs with
 | some r=>some r
 | none=>match SH C.P get f xs with
  | some r=>some (.one r)
  | none=>ME C get bk rk b f xs
def xe (get:Operand->Option SV) (x:Operand):Option Core:=match get x with
 | some s=>some ⟨s,.none,[]⟩
 | none=>none
def Ez (get:Operand->Option SV) (x:Operand) (ix:Nat):Option Core:=match get x with
 | some (.tup l)=>match l[ix]? with
  | some c=>some ⟨.c c.1 c.2,.none,[]⟩
  | none=>none
 | _=>none
def R9 (P:Program) (get:Operand->Option SV) (bk:Nat->Option (List At)) (rk:Rk) (t:TypeId) (x:Operand):Option Core:=match get x with
 | some (.c false [.ptr i off])=>match bk i with
  | some l=>match lz P t l off with
   | some s=>some ⟨s,.none,[]⟩
   | none=>none
  | none=>none
 | some (.c false [.rf sh d off])=>match lz P t (Sh.cells sh d) off with
  | some s=>some ⟨s,.none,[]⟩
  | none=>none
 | some (.c false [.ae b off e n i d])=>match bk b with
  | some l=>match els e n (l.drop off) with
   | some xs=>match lz P t (e.cells (xs.getD i e.dflt)) d with
    | some s=>some ⟨s,.none,[Nat.blt i n]⟩
    | none=>none
   | none=>none
  | none=>none
 | some (.c false [.re r i sz off])=>match rk r with
  | some (.some ri)=>match Nat.beq sz ri.e.size,lz P t (ri.e.cells (ri.l.getD i ri.e.dflt)) off with
   | true,some s=>some ⟨s,.none,[Nat.blt i ri.n]⟩
   | _,_=>none
  | _=>none
 | _=>none
def M8 (P:Program) (get:Operand->Option SV) (bk:Nat->Option (List At)) (rk:Rk) (t:TypeId) (x y:Operand):Option Core:=match get x,get y with
 | some (.c false [.ptr i off]),some (.c _ l')=>match bk i,dF P t with
  | some l,some n=>match l'.all at1,Nat.beq l'.length n,Nat.ble (off+n) l.length with
   | true,true,true=>some ⟨.c false [.u],.store i (l.take off++l'++l.drop (off+l'.length)),[]⟩
   | _,_,_=>none
  | _,_=>none
 | some (.c false [.ae b off e n i d]),some (.c _ l')=>match bk b,dF P t with
  | some l,some m=>match els e n ((l.drop off).take (n*e.size)),l'.all at1,Nat.beq l'.length m,Nat.ble (d+m) e.size,Nat.ble (off+n*e.size) l.length with
   | some xs,true,true,true,true=>match e.take ((e.cells (xs.getD i e.dflt)).take d++l'++(e.cells (xs.getD i e.dflt)).drop (d+l'.length)) with
    | some (z,[])=>some ⟨.c false [.u],.store b (l.take off++si e (qS xs 0 i z)++l.drop (off+n*e.size)),[Nat.blt i n]⟩
    | _=>none
   | _,_,_,_,_=>none
  | _,_=>none
 | some (.c false [.re r i sz off]),some (.c _ l')=>match rk r,dF P t with
  | some (.some ri),some n=>match l'.all at1,Nat.beq l'.length n,Nat.ble (off+n) ri.e.size,Nat.beq sz ri.e.size,ri.e.take ((ri.e.cells (ri.l.getD i ri.e.dflt)).take off++l'++(ri.e.cells (ri.l.getD i ri.e.dflt)).drop (off+l'.length)) with
   | true,true,true,true,some (z,[])=>some ⟨.c false [.u],.rset r ri.e (ri.l.set i z),[Nat.blt i ri.n]⟩
   | _,_,_,_,_=>none
  | _,_=>none
 | _,_=>none
def MG (P:Program) (bk:Nat->Option (List At)) (b:Nat) (t:TypeId):Option Core:=match nX P t,bk b with
 | some cs,none=>some ⟨.c false [.ptr b 0],.alloc b (cs.map .v),[]⟩
 | _,_=>none
def UL (get:Operand->Option SV) (bk:Nat->Option (List At)) (b:Nat) (x:Operand):Option Core:=match get x,bk b with
 | some (.c _ l),none=>match l.all at1 with
  | true=>some ⟨.c false [.ptr b 0],.alloc b l,[]⟩
  | false=>none
 | _,_=>none
def LR (P:Program) (get:Operand->Option SV) (t:TypeId) (x:Operand) (f:Nat):Option Core:=match get x,rC P t f with
 | some (.c false [.ptr i off]),some d=>some ⟨.c false [.ptr i (off+d)],.none,[]⟩
 | some (.c false [.rf sh y off]),some d=>some ⟨.c false [.rf sh y (off+d)],.none,[]⟩
 | some (.c false [.re r i sz off]),some d=>some ⟨.c false [.re r i sz (off+d)],.none,[]⟩
 | some (.c false [.ae b off e n i d0]),some d=>some ⟨.c false [.ae b off e n i (d0+d)],.none,[]⟩
 | _,_=>none
def OY (P:Program) (get:Operand->Option SV) (rk:Rk) (t:TypeId) (x y:Operand):Option Core:=match get x,get y,eV P t with
 | some (.c false [.sl e l]),some (.c false [.v (.int _ i)]),some et=>match dF P et with
  | some n=>match Nat.beq n e.size with
   | true=>some ⟨.c false [.rf e (l.getD i.toNat e.dflt) 0],.none,[inB i l.length]⟩
   | false=>none
  | none=>none
 | some (.c false [.row r]),some (.c false [.v (.int _ i)]),some et=>match dF P et,rk r with
  | some n,some (.some ri)=>match Nat.beq n ri.e.size with
   | true=>some ⟨.c false [.re r i.toNat ri.e.size 0],.none,[inB i ri.n]⟩
   | false=>none
  | _,_=>none
 | _,_,_=>none
def wA (C:Ctx) (get:Operand->Option SV) (t:TypeId) (x y:Operand):Option Core:=match CX C.P t,get x,get y with
 | some (n,et),some (.c false [.ptr b off]),some (.c false [.v (.int _ i)])=>match C.sh et,dF C.P et with
  | some e,some m=>match Nat.beq m e.size with
   | true=>some ⟨.c false [.ae b off e n i.toNat 0],.none,[inB i n]⟩
   | false=>none
  | _,_=>none
 | some (n,et),some (.c false [.rf s d off]),some (.c false [.v (.int _ i)])=>match C.sh et,dF C.P et with
  | some e,some m=>match Nat.beq m e.size,els e n ((s.cells d).drop off) with
   | true,some xs=>some ⟨.c false [.rf e (xs.getD i.toNat e.dflt) 0],.none,[inB i n]⟩
   | _,_=>none
  | _,_=>none
 | some (n,et),some (.c false [.re r q sz off]),some (.c false [.v (.int _ i)])=>match dF C.P et with
  | some m=>some ⟨.c false [.re r q sz (off+i.toNat*m)],.none,[inB i n]⟩
  | none=>none
 | _,_,_=>none
def Ga (P:Program) (get:Operand->Option SV) (t:TypeId) (x:Operand) (lo hi:Option Operand):Option Core:=match get x with
 | some (.c false [.sl e l])=>match eV P t,tv get 0 lo,tv get l.length hi with
  | some et,some i,some j=>match dF P et with
   | some m=>match Nat.beq m e.size with
    | true=>some ⟨.c false [.sl e ((l.take j.toNat).drop i.toNat)],.none,[slB i j l.length]⟩
    | false=>none
   | none=>none
  | _,_,_=>none
 | some (.c false [.v (.string s)])=>match P.underlying t,tv get 0 lo,tv get s.size hi with
  | some .string,some i,some j=>some ⟨.c false [.v (.string (s.extract i.toNat j.toNat))],.none,[slB i j s.size]⟩
  | _,_,_=>none
 | _=>none
def TD:SV->SV
 | .c false [.sn e l]=>.c false [.sl e l]
 | s=>s
def L3 (get:Operand->Option SV) (x:Operand):Option SV:=match get x with
 | some s=>some (TD s)
 | none=>none
theorem KP {s:SV} {v:Value} (h:cn E s v):cn E (TD s) v:=by
 unfold TD
 split
 ·obtain ⟨cs,h1,h2,h3⟩:=h
  match cs,h2 with
  | [z],h2=>exact ⟨[z],h1,⟨h2.1.2,trivial⟩,h3⟩
 ·exact h
theorem mS {get:Operand->Option SV} (hg:fO E a get o):fO E a (L3 get) o:=fun x s hx h=>by
 unfold L3 at h
 split at h
 ·rename_i s' hs
  injection h with h
  subst h
  exact KP (hg x s' hx hs)
 ·cases h
def Hf (P:Program) (get:Operand->Option SV) (o:Oper):Option Core:=match o.op with
 | .binOp .eql t x (.const (.slice none 0 0)) _=>match get x,eV P t with
  | some (.c false [.sn _ _]),some _=>some ⟨.c false [.v (.bool false)],.none,[]⟩
  | _,_=>none
 | .binOp .neq t x (.const (.slice none 0 0)) _=>match get x,eV P t with
  | some (.c false [.sn _ _]),some _=>some ⟨.c false [.v (.bool true)],.none,[]⟩
  | _,_=>none
 | _=>none
def B1 (C:Ctx) (get:Operand->Option SV) (t:TypeId) (n:Nat) (ps:Array (Nat×Operand)):Option Core:=match eV C.P t with
 | some et=>match C.sh et,dF C.P et,nX C.P et with
  | some e,some m,some _=>match Nat.beq m e.size,Nat.beq ps.size n,Nat.ble (n*e.size) 16777216,nD e get 0 ps.toList with
   | true,true,true,some l=>some ⟨.c false [.sl e l],.none,[]⟩
   | _,_,_,_=>none
  | _,_,_=>none
 | none=>none
def HW (C:Ctx) (get:Operand->Option SV) (rk:Rk) (b:Nat) (t:TypeId) (n:Nat) (ps:Array (Nat×Operand)):Option Core:=match n,ps.toList,rk b,eV C.P t with
 | 0,[],none,some et=>match C.sh et,dF C.P et with
  | some e,some m=>match Nat.beq m e.size with
   | true=>some ⟨.c false [.row b],.row b ⟨et,e,0,[]⟩ none,[]⟩
   | false=>none
  | _,_=>none
 | _,_,_,_=>B1 C get t n ps
def RN (rk:Rk) (get:Operand->Option SV) (x:Operand):Option SV:=match get x with
 | some s=>some (xh rk s)
 | none=>none
def wJ (get:Operand->Option SV):List (Nat×Operand)->List Nat
 | []=>[]
 | p ::r=>match get p.2 with
  | some s=>wV s++wJ get r
  | none=>wJ get r
def CZ (C:Ctx) (get:Operand->Option SV) (rk:Rk) (t:TypeId) (n:Nat) (ps:Array (Nat×Operand)):Option Core:=match wJ get ps.toList with
 | []=>none
 | q ::u=>match B1 C (RN rk get) t n ps with
  | some ⟨sv,.none,p⟩=>some ⟨sv,.rkill (q ::u),oY rk (q ::u)++p⟩
  | _=>none
def CC (C:Ctx) (get:Operand->Option SV) (t:TypeId) (x y:Operand):Option Core:=match get x,get y with
 | some (.c false [.v (.string s)]),some (.c false [.v (.int _ i)])=>match C.P.underlying t with
  | some .string=>some ⟨.c false [.v (.int .u8 (fL s i.toNat))],.none,[inB i s.size]⟩
  | _=>none
 | some (.c true l),some (.c false [.v (.int _ i)])=>match CX C.P t with
  | some (n,et)=>match C.sh et with
   | some e=>match GH C.P et,dF C.P et,els e n l with
    | some ag,some m,some xs=>match ag ==e.isAgg,Nat.beq m e.size,e.isAgg||Nat.beq e.size 1 with
     | true,true,true=>some ⟨.c e.isAgg (e.cells (xs.getD i.toNat e.dflt)),.none,[inB i n]⟩
     | _,_,_=>none
    | _,_,_=>none
   | none=>none
  | none=>none
 | _,_=>none
def C9 (P:Program) (get:Operand->Option SV) (t:TypeId) (x:Operand) (f:Nat):Option Core:=match get x,CW P t f with
 | some (.c true l),some (ft,off)=>match lz P ft l off with
  | some s=>some ⟨s,.none,[]⟩
  | none=>none
 | _,_=>none
def yR (P:Program) (get:Operand->Option SV) (o:Oper):Option Core->Option Core
 | some r=>some r
 | none=>zt P get o
def UI (P:Program) (get:Operand->Option SV) (rk:Rk) (xs:Array Operand) (ts:Array TypeId) (o:Oper):Option Core:=match xs.toList,ts[0]? with
 | [x],some t=>match get x,eV P t with
  | some (.c false [.sl _ l]),some _=>some ⟨.c false [.v (.int .i64 l.length)],.none,[]⟩
  | some (.c false [.row r]),some _=>match rk r with
   | some (.some ri)=>some ⟨.c false [.v (.int .i64 ri.n)],.none,[]⟩
   | _=>none
  | _,_=>zt P get o
 | _,_=>none
def gv (o:Oper):Bool:=match o.op with
 | .indexAddr ..=>true
 | .move _=>true
 | .assign _=>true
 | .extract ..=>true
 | .call ⟨.builtin .len,_,_⟩=>true
 | _=>false
def one?:Option Core->Option Cor
 | some r=>some (.one r)
 | none=>none
def zC (C:Ctx) (get:Operand->Option SV) (bk:Nat->Option (List At)) (rk:Rk) (b:Nat) (o:Oper):Option Core:=match o.op with
 | .move x=>xe get x
 | .assign x=>xe get x
 | .extract x ix=>Ez get x ix
 | .load t x=>R9 C.P get bk rk t x
 | .store t x y=>M8 C.P get bk rk t x y
 | .alloc t=>MG C.P bk b t
 | .box _ x=>UL get bk b x
 | .fieldAddr t x f=>LR C.P get t x f
 | .indexAddr t x y=>match wA C get t x y with
  | some r=>some r
  | none=>OY C.P get rk t x y
 | .slice t x lo hi none=>match Ga C.P get t x lo hi with
  | some r=>some r
  | none=>match lo,Vw o.pos with
   | none,true=>Tl C.P get rk b t x hi
   | _,_=>Cm C.P get rk t x lo hi
 | .buildSlice t n ps=>match CZ C get rk t n ps with
  | some r=>some r
  | none=>HW C get rk b t n ps
 | .index t x y=>yR C.P get o (CC C get t x y)
 | .field t x f=>yR C.P get o (C9 C.P get t x f)
 | .build t ps=>yR C.P get o (yC C.P get t ps)
 | .makeSlice t l c=>Ks C.sh C.P get rk b t l c
 | .binOp .quo _ _ _ _=>P1 get o
 | .binOp .rem _ _ _ _=>P1 get o
 | .binOp .shl _ _ _ _=>B2 get o
 | .binOp .shr _ _ _ _=>B2 get o
 | .binOp .eql _ _ _ _=>eqC C.P get o
 | .binOp .neq _ _ _ _=>eqC C.P get o
 | .makeFunc _ _ _=>Mh get o
 | .call ⟨.builtin .len,xs,ts⟩=>UI C.P get rk xs ts o
 | .call ⟨.builtin .append,xs,ts⟩=>match zY C.sh C.P get rk b xs ts with
  | some r=>some r
  | none=>De C.P C.sh get rk b xs ts
 | .call ⟨.builtin .copy,xs,ts⟩=>NL C.P get rk xs ts
 | _=>zt C.P get o
def RR (C:Ctx) (get:Operand->Option SV) (t:TypeId) (n:Nat) (ps:Array (Nat×Operand)):Option RowI:=match eV C.P t with
 | some et=>match C.sh et,dF C.P et,nX C.P et with
  | some e,some m,some _=>match Nat.beq m e.size,Nat.beq ps.size n,Nat.ble (n*e.size) 16777216,nD e get 0 ps.toList with
   | true,true,true,some l=>some ⟨et,e,l.length,l⟩
   | _,_,_,_=>none
  | _,_,_=>none
 | none=>none
def SJ (C:Ctx) (get:Operand->Option SV) (rk:Rk) (b:Nat) (t:TypeId) (n:Nat) (ps:Array (Nat×Operand)):Option Core:=match wJ get ps.toList,rk b with
 | [],none=>match RR C get t n ps with
  | some ri=>some ⟨.c false [.row b],.row b ri none,[]⟩
  | none=>none
 | [q],none=>match rk q,RR C (RN rk get) t n ps with
  | some (.some _),some ri=>match Nat.beq q b with
   | false=>some ⟨.c false [.row b],.row b ri (some q),oY rk [q]⟩
   | true=>none
  | _,_=>none
 | _,_=>none
def or2 (a b:Option Core):Option Core:=match a with
 | some r=>some r
 | none=>b
def CU (l:List Int):ByteArray:=l.foldl (fun r n=>r.push (UInt8.ofNat n.toNat)) ByteArray.empty
def GY (P:Program) (get:Operand->Option SV) (rk:Rk) (s d:TypeId) (x:Operand):Option Core:=match eV P s,P.underlying d,get x with
 | some et,some .string,some v=>match P.underlying et,Fj rk (.int .u8) v with
  | some (.int .u8),some l=>some ⟨.c false [.v (.string (CU l))],.none,[]⟩
  | _,_=>none
 | _,_,_=>none
def Kv (C:Ctx) (get:Operand->Option SV) (rk:Rk) (b:Nat) (o:Oper):Option Core:=match o.op with
 | .makeMap t none=>Al C.sh C.P rk b t
 | .convert s d x=>GY C.P get rk s d x
 | .mapUpdate t m k x=>xR C.P get rk t m k x
 | .insert t m k x=>xR C.P get rk t m k x
 | .lookup t m k ok=>Dk C.P get rk t m k ok
 | .call ⟨.builtin .len,⟨[x]⟩,ts⟩=>or2 (Nt C.P get rk x ts) (Nx C.P get rk x ts)
 | .call ⟨.builtin .append,xs,ts⟩=>or2 (yv C.P get rk xs ts) (yD C.P get rk b xs ts)
 | .buildSlice t n ps=>match C.lit o.pos with
  | true=>SJ C get rk b t n ps
  | false=>B4 (fun t=>(C.tb t).isSome) C.P get rk b t n ps
 | .indexAddr t x y=>Ce C.P get rk t x y
 | .fieldAddr t x f=>Dm C.P get t x f
 | .load t x=>Hh C.P get rk t x
 | .store t x y=>or2 (C8 C.P get rk t x y) (Ct C.P get rk t x y)
 | .makeSlice t l c=>Hc C.tb C.P get rk b t l c
 | _=>none
def T6 (get:Operand->Option SV) (x:Operand):Option Core:=match get x with
 | some (.c false [.ptr b off])=>some ⟨.c false [.ptr b off],.none,[]⟩
 | some (.c false [.rf s d off])=>some ⟨.c false [.rf s d off],.none,[]⟩
 | _=>none
def CY (C:Ctx) (get:Operand->Option SV) (bk:Nat->Option (List At)) (rk:Rk) (b:Nat) (o:Oper):Option Cor:=match o.op with
 | .call ⟨.value f,xs,_⟩=>Sn C (L3 get) bk rk b f xs
 | .move x=>one? (xe get x)
 | .assign x=>one? (xe get x)
 | .nilCheck x=>one? (T6 get x)
 | _=>match Kv C (L3 get) rk b o with
  | some r=>some (.one r)
  | none=>match Hf C.P get o with
   | some r=>some (.one r)
   | none=>one? (zC C (L3 get) bk rk b o)
theorem Dj {C:Ctx} {get:Operand->Option SV} {t:TypeId} {x y:Operand} {r:Core} (ho:o.op=.indexAddr t x y) (h:wA C get t x y=some r) (hp:fK r.p=true) (hg:fO E a get o) (hm:Mod N E a g):an C.P N g E a o r:=by
 unfold wA at h
 split at h
 ·rename_i n et b off k i ht hx hy
  split at h
  ·rename_i e m he hz
   split at h
   ·rename_i hne
    injection h with h;subst h
    have hne:m=e.size:=by simpa using hne
    subst hne
    exact FSs ho (hg x _ (by rw[ho];simp[Op.operands]) hx) (hg y _ (by rw[ho];simp[Op.operands]) hy) ht hz hm (kw.1 hp)
   ·cases h
  ·cases h
 ·rename_i n et s d off k i ht hx hy
  split at h
  ·rename_i e m he hz
   split at h
   ·rename_i xs hne hxs
    injection h with h;subst h
    have hne:m=e.size:=by simpa using hne
    subst hne
    exact Hk ho (hg x _ (by rw[ho];simp[Op.operands]) hx) (hg y _ (by rw[ho];simp[Op.operands]) hy) ht hz hxs hm (kw.1 hp)
   ·cases h
  ·cases h
 ·rename_i n et r q sz off k i ht hx hy
  split at h
  ·rename_i m hz
   injection h with h;subst h
   exact Ef ho (hg x _ (by rw[ho];simp[Op.operands]) hx) (hg y _ (by rw[ho];simp[Op.operands]) hy) ht hz hm (kw.1 hp)
  ·cases h
 ·cases h
theorem Jq {P:Program} {get:Operand->Option SV} {t:TypeId} {x:Operand} {lo hi:Option Operand} {r:Core} (ho:o.op=.slice t x lo hi none) (h:Ga P get t x lo hi=some r) (hp:fK r.p=true) (hg:fO E a get o) (hm:Mod N E a g):an P N g E a o r:=by
 unfold Ga at h
 split at h
 ·rename_i e l hx
  split at h
  ·rename_i et i j ht hi' hj
   split at h
   ·rename_i m hz
    split at h
    ·rename_i hne
     injection h with h;subst h
     have hne:m=e.size:=by simpa using hne
     subst hne
     exact F4 ho hg (hg x _ (by rw[ho];simp[Op.operands]) hx) ht hz hi' hj hm (sR.1 hp)
    ·cases h
   ·cases h
  ·cases h
 ·rename_i s hx
  split at h
  ·rename_i i j ht hi' hj
   injection h with h;subst h
   exact DK ho hg (hg x _ (by rw[ho];simp[Op.operands]) hx) ht hi' hj hm (sR.1 hp)
  ·cases h
 ·cases h
theorem wm {P:Program} {get:Operand->Option SV} {r:Core} {q:Option Core} (h:yR P get o q=some r) (hp:fK r.p=true) (hg:fO E a get o) (hm:Mod N E a g) (hq:∀r',q=some r'->fK r'.p=true->an P N g E a o r'):an P N g E a o r:=by
 unfold yR at h
 split at h
 ·injection h with h
  subst h
  exact hq _ rfl hp
 ·exact rm h hg hm
theorem F9 {C:Ctx} {get:Operand->Option SV} {t:TypeId} {x y:Operand} {r:Core} (ho:o.op=.index t x y) (h:CC C get t x y=some r) (hp:fK r.p=true) (hg:fO E a get o) (hm:Mod N E a g):an C.P N g E a o r:=by
 unfold CC at h
 split at h
 ·rename_i s k i hx hy
  split at h
  ·rename_i ht
   injection h with h;subst h
   exact EK ho (hg x _ (by rw[ho];simp[Op.operands]) hx) (hg y _ (by rw[ho];simp[Op.operands]) hy) ht hm (kw.1 hp)
  ·cases h
 ·rename_i l k i hx hy
  split at h
  ·rename_i n et ht
   split at h
   ·rename_i e he
    split at h
    ·rename_i ag m xs ha hz hxs
     split at h
     ·rename_i h1 h2 h3
      injection h with h;subst h
      have h1:ag=e.isAgg:=by simpa using h1
      have h2:m=e.size:=by simpa using h2
      subst h1;subst h2
      exact EH ho (hg x _ (by rw[ho];simp[Op.operands]) hx) (hg y _ (by rw[ho];simp[Op.operands]) hy) ht ha hz h3 hxs hm (kw.1 hp)
     ·cases h
    ·cases h
   ·cases h
  ·cases h
 ·cases h
theorem GA {P:Program} {get:Operand->Option SV} {t:TypeId} {x:Operand} {f:Nat} {r:Core} (ho:o.op=.field t x f) (h:C9 P get t x f=some r) (hg:fO E a get o) (hm:Mod N E a g):an P N g E a o r:=by
 unfold C9 at h
 split at h
 ·rename_i l ft off hx hf
  split at h
  ·rename_i s hs
   injection h with h;subst h
   exact Jb ho (hg x _ (by rw[ho];simp[Op.operands]) hx) hf hs hm
  ·cases h
 ·cases h
theorem A0 {C:Ctx} {get:Operand->Option SV} {t n:Nat} {ps:Array (Nat×Operand)} {r:Core} (ho:o.op=.buildSlice t n ps) (h:B1 C get t n ps=some r) (hg:fO E a get o) (hm:Mod N E a g):an C.P N g E a o r:=by
 unfold B1 at h
 split at h
 ·rename_i et ht
  split at h
  ·rename_i e m z he hm' hz
   split at h
   ·rename_i l h1 h2 h3 hw
    injection h with h;subst h
    have h1:m=e.size:=by simpa using h1
    subst h1
    exact LJ ho hg ht hm' hw (by simpa using h2) hz (by have:=Nat.le_of_ble_eq_true h3;omega) hm
   ·cases h
  ·cases h
 ·cases h
theorem qG {get:Operand->Option SV}:∀{ps:List (Nat×Operand)} {p:Nat×Operand} {s:SV},p ∈ ps->get p.2=some s->∀r ∈ wV s,r ∈ wJ get ps
 | q ::l,p,s,hp,hs,r,hr=>by
  simp only[wJ]
  rcases List.mem_cons.1 hp with rfl | hp
  ·rw[hs];exact List.mem_append_left _ hr
  ·split
   ·exact List.mem_append_right _ (qG hp hs r hr)
   ·exact qG hp hs r hr
theorem G6 {C:Ctx} {get:Operand->Option SV} {rk:Rk} {t n:Nat} {ps:Array (Nat×Operand)} {r:Core} (ho:o.op=.buildSlice t n ps) (h:CZ C get rk t n ps=some r) (hp:fK r.p=true) (hg:fO E a get o) (hm:Mod N E a g) (hrk:∀i r,rk i=some r->g.r i=some r):an C.P N g E a o r:=by
 unfold CZ at h
 split at h
 ·cases h
 ·rename_i q u hu
  split at h
  ·rename_i sv p hb
   injection h with h;subst h
   have hlv:=jp (iY hp).1
   refine (show an C.P N g E a o ⟨sv,.rkill (q ::u),p⟩ from an.thaw hm fun hmz=>A0 ho hb (fun x s hx hs=>?_) hmz)
   unfold RN at hs
   split at hs
   ·rename_i s' hs'
    injection hs with hs
    subst hs
    refine tl hm hrk hlv (hg x s' hx hs') fun r hr=>?_
    have hx':∃i,(i,x) ∈ ps:=by
     rw[ho] at hx
     simpa [Op.operands] using hx
    obtain ⟨i,hx'⟩:=hx'
    rw[<-hu]
    exact qG (p:=(i,x)) (by simpa using hx') hs' r hr
   ·cases hs
  ·cases h
theorem Bw (a:Act) (v:Value):a.eval (.const v)=v:=rfl
theorem II {P:Program} {get:Operand->Option SV} {r:Core} (h:Hf P get o=some r) (hg:fO E a get o) (hm:Mod N E a g):an P N g E a o r:=by
 have key:∀{x:Operand} {e:Sh} {l:List e.T},x ∈ o.op.operands->get x=some (.c false [.sn e l])->∃ad m c,a.eval x=.slice (some ad) m c:=fun hx hs=>by
  obtain ⟨cs,hv,hr,_⟩:=hg _ _ hx hs
  match cs,hr with
  | [z],hr =>
   obtain ⟨⟨ad,m,c,hz⟩,_⟩:=hr.1
   exact ⟨ad,m,c,by rw[hv,hz];rfl⟩
 unfold Hf at h
 split at h
 ·rename_i t x t' ho
  split at h
  ·rename_i e l et hx ht
   injection h with h
   subst h
   obtain ⟨ad,m,c,hv⟩:=key (by simp[ho,Op.operands]) hx
   refine an.value (E':=E) (v:=.bool false) ?_ rfl (Keep.refl E) hm ⟨[_],rfl,⟨rfl,trivial⟩,fun _=>rfl⟩
   simp only[execOp,ho,hv,Bw]
   simp[eqGuard,binOp,run_equal_slice_nil _ t et (some ad) m c (di ht)]
  ·cases h
 ·rename_i t x t' ho
  split at h
  ·rename_i e l et hx ht
   injection h with h
   subst h
   obtain ⟨ad,m,c,hv⟩:=key (by simp[ho,Op.operands]) hx
   refine an.value (E':=E) (v:=.bool true) ?_ rfl (Keep.refl E) hm ⟨[_],rfl,⟨rfl,trivial⟩,fun _=>rfl⟩
   simp only[execOp,ho,hv,Bw]
   simp[eqGuard,run_neq_slice_nil _ t et (some ad) m c (di ht)]
  ·cases h
 ·cases h
theorem Ft {C:Ctx} (_:E.P=C.P) {get:Operand->Option SV} {bk:Nat->Option (List At)} {rk:Rk} {b:Nat} {r:Core} (h:zC C get bk rk b o=some r) (hp:fK r.p=true) (hg:fO E a get o) (hm:Mod N E a g)
  (hbk:∀i l,bk i=some l->g.h i=some l) (hb:bk b=none->g.h b=none) (hrk:gv o=false->∀i r,rk i=some r->g.r i=some r) (hrm:∀i ri,rk i=some (.some ri)->∃rj,g.r i=some (.some rj)/\rj.e=ri.e/\rj.n=ri.n) (hrb:rk b=none->g.r b=none):an C.P N g E a o r:=by
 unfold zC at h
 split at h
 case h_1 x ho =>
  unfold xe at h
  split at h
  ·rename_i s hs
   injection h with h;subst h
   exact vT (.inl ho) (hg x s (by rw[ho];simp[Op.operands]) hs) hm
  ·cases h
 case h_2 x ho =>
  unfold xe at h
  split at h
  ·rename_i s hs
   injection h with h;subst h
   exact vT (.inr ho) (hg x s (by rw[ho];simp[Op.operands]) hs) hm
  ·cases h
 case h_3 x ix ho =>
  unfold Ez at h
  split at h
  ·rename_i l hl
   split at h
   ·rename_i c hc
    injection h with h;subst h
    exact FJ ho (hg x _ (by rw[ho];simp[Op.operands]) hl) hc hm
   ·cases h
  ·cases h
 case h_4 t x ho =>
  unfold R9 at h
  split at h
  ·rename_i i off hx
   split at h
   ·rename_i l hl
    split at h
    ·rename_i s hs
     injection h with h;subst h
     exact GG ho (hg x _ (by rw[ho];simp[Op.operands]) hx) (hbk i l hl) hs hm
    ·cases h
   ·cases h
  ·rename_i sh d off hx
   split at h
   ·rename_i s hs
    injection h with h;subst h
    exact Jf ho (hg x _ (by rw[ho];simp[Op.operands]) hx) hs hm
   ·cases h
  ·rename_i b' off e n i d hx
   split at h
   ·rename_i l hl
    split at h
    ·rename_i xs hxs
     split at h
     ·rename_i s hs
      injection h with h;subst h
      exact IT ho (hg x _ (by rw[ho];simp[Op.operands]) hx) (hbk _ l hl) hxs hs hm (Nat.blt_eq.mp hp)
     ·cases h
    ·cases h
   ·cases h
  ·rename_i q i sz off hx
   split at h
   ·rename_i ri hri
    split at h
    ·rename_i s hsz hs
     injection h with h;subst h
     have hsz:sz=ri.e.size:=by simpa using hsz
     subst hsz
     exact Jj ho (hg x _ (by rw[ho];simp[Op.operands]) hx) (hrk (by simp[gv,ho]) q _ hri) hs hm (Nat.blt_eq.mp hp)
    ·cases h
   ·cases h
  ·cases h
 case h_5 t x y ho =>
  unfold M8 at h
  split at h
  ·rename_i i off ag l' hx hy
   split at h
   ·rename_i l n hl hn
    split at h
    ·rename_i h1 h2 h3
     injection h with h;subst h
     exact Oa ho (hg x _ (by rw[ho];simp[Op.operands]) hx) (hg y _ (by rw[ho];simp[Op.operands]) hy) (hbk i l hl) hn h1 h2 h3 hm
    ·cases h
   ·cases h
  ·rename_i b' off e n i d ag l' hx hy
   split at h
   ·rename_i l m hl hmz
    split at h
    ·rename_i xs h1 h2 h3 h4 hxs
     split at h
     ·rename_i z hz
      injection h with h;subst h
      exact Gv ho (hg x _ (by rw[ho];simp[Op.operands]) hx) (hg y _ (by rw[ho];simp[Op.operands]) hy) (hbk _ l hl) hmz h2 h3 h4 h1 hxs hz hm (Nat.blt_eq.mp hp)
     ·cases h
    ·cases h
   ·cases h
  ·rename_i q i sz off ag l' hx hy
   split at h
   ·rename_i ri n hri hn
    split at h
    ·rename_i z h1 h2 h3 h4 hz
     injection h with h;subst h
     have h4:sz=ri.e.size:=by simpa using h4
     subst h4
     exact G4 ho (hg x _ (by rw[ho];simp[Op.operands]) hx) (hg y _ (by rw[ho];simp[Op.operands]) hy) (hrk (by simp[gv,ho]) q _ hri) hn h1 h2 h3 hz hm (Nat.blt_eq.mp hp)
    ·cases h
   ·cases h
  ·cases h
 case h_6 t ho =>
  unfold MG at h
  split at h
  ·rename_i cs hz hbn
   injection h with h;subst h
   exact Nn ho hz (hb hbn) hm
  ·cases h
 case h_7 t x ho =>
  unfold UL at h
  split at h
  ·rename_i ag l hx hbn
   split at h
   ·rename_i hl
    injection h with h;subst h
    exact TJ ho (hg x _ (by rw[ho];simp[Op.operands]) hx) hl (hb hbn) hm
   ·cases h
  ·cases h
 case h_8 t x f ho =>
  unfold LR at h
  split at h
  ·rename_i i off d hx hd
   injection h with h;subst h
   exact DF ho (hg x _ (by rw[ho];simp[Op.operands]) hx) hd hm
  ·rename_i sh y off d hx hd
   injection h with h;subst h
   exact GU ho (hg x _ (by rw[ho];simp[Op.operands]) hx) hd hm
  ·rename_i q i sz off d hx hd
   injection h with h;subst h
   exact FW ho (hg x _ (by rw[ho];simp[Op.operands]) hx) hd hm
  ·rename_i b' off e n i d0 d hx hd
   injection h with h;subst h
   exact FY ho (hg x _ (by rw[ho];simp[Op.operands]) hx) hd hm
  ·cases h
 case h_9 t x y ho =>
  split at h
  ·rename_i r' hr'
   injection h with h;subst h
   exact Dj ho hr' hp hg hm
  unfold OY at h
  split at h
  ·rename_i e l k i et hx hy ht
   split at h
   ·rename_i n hn
    split at h
    ·rename_i hne
     injection h with h;subst h
     have hne:n=e.size:=by simpa using hne
     subst hne
     exact FZ ho (hg x _ (by rw[ho];simp[Op.operands]) hx) (hg y _ (by rw[ho];simp[Op.operands]) hy) ht hn hm (kw.1 hp)
    ·cases h
   ·cases h
  ·rename_i q k i et hx hy ht
   split at h
   ·rename_i n ri hn hri
    split at h
    ·rename_i hne
     injection h with h;subst h
     have hne:n=ri.e.size:=by simpa using hne
     subst hne
     exact Et ho (hg x _ (by rw[ho];simp[Op.operands]) hx) (hg y _ (by rw[ho];simp[Op.operands]) hy) ht hn (hrm q _ hri) hm (kw.1 hp)
    ·cases h
   ·cases h
  ·cases h
 case h_10 t x lo hi ho =>
  split at h
  ·rename_i r' hr'
   injection h with h;subst h
   exact Jq ho hr' hp hg hm
  ·split at h
   ·exact RY ho h hp hg hm (hrk (by simp[gv,ho])) hrb
   ·exact F8 ho h hp hg hm (hrk (by simp[gv,ho]))
 case h_11 t n ps ho =>
  split at h
  ·rename_i r' hr'
   injection h with h;subst h
   exact G6 ho hr' hp hg hm (hrk (by simp[gv,ho]))
  rename_i hno
  clear hno
  unfold HW at h
  split at h
  ·rename_i et hps hbn ht
   split at h
   ·rename_i e m he hz
    split at h
    ·rename_i hne
     injection h with h;subst h
     have hne:m=e.size:=by simpa using hne
     subst hne
     exact Kn ho (by rw[<-Array.toArray_toList (xs:=ps),hps]) ht hz (hrb hbn) hm
    ·cases h
   ·cases h
  exact A0 ho h hg hm
 case h_12 t x y ho=>exact wm h hp hg hm fun r' hr' hp'=>F9 ho hr' hp' hg hm
 case h_13 t x f ho=>exact wm h hp hg hm fun r' hr' hp'=>GA ho hr' hg hm
 case h_14 t ps ho=>exact wm h hp hg hm fun r' hr' hp'=>EV ho hr' hg hm
 case h_15 t l c ho=>exact Nr ho h hp hg hm hrb
 case h_16=>exact IC h hg hm hp
 case h_17=>exact IC h hg hm hp
 case h_18=>exact AN h hg hm hp
 case h_19=>exact AN h hg hm hp
 case h_20=>exact MC h hg hm
 case h_21=>exact MC h hg hm
 case h_22=>exact LP h hg hm
 case h_23 xs ts ho =>
  unfold UI at h
  split at h
  ·rename_i x t hxs hts
   have hxs:xs=#[x]:=by rw[<-Array.toArray_toList (xs:=xs),hxs]
   subst hxs
   split at h
   ·rename_i e l et hx ht
    injection h with h;subst h
    exact MI ho hts ht (hg x _ (by rw[ho];simp[Op.operands,Call.operands]) hx) hm
   ·rename_i q et hx ht
    split at h
    ·rename_i ri hri
     injection h with h;subst h
     exact Kk ho hts ht (hg x _ (by rw[ho];simp[Op.operands,Call.operands]) hx) (hrm q _ hri) hm
    ·cases h
   ·exact rm h hg hm
  ·cases h
 case h_24 xs ts ho =>
  split at h
  ·rename_i r' hr'
   injection h with h;subst h
   exact FQ ho hr' hp hg hm hrb
  ·exact Gd ho h hg hm (hrk (by simp[gv,ho])) hrb hp
 case h_25 xs ts ho=>exact KI ho h hg hm (hrk (by simp[gv,ho])) hp
 case h_26=>exact rm h hg hm
theorem Hw {C:Ctx} {get:Operand->Option SV} {b t n:Nat} {ps:Array (Nat×Operand)} {ri:RowI} (ho:o.op=.buildSlice t n ps) (h:RR C get t n ps=some ri) (hg:fO E a get o) (hm:Mod N E a g) (hb:g.r b=none) {p:List Bool}:an C.P N g E a o ⟨.c false [.row b],.row b ri none,p⟩:=by
 unfold RR at h
 split at h
 ·rename_i et ht
  split at h
  ·rename_i e m z he hm' hz
   split at h
   ·rename_i l h1 h2 h3 hw
    injection h with h;subst h
    have h1:m=e.size:=by simpa using h1
    subst h1
    exact Fy ho hg ht hm' hw (by simpa using h2) hz (by have:=Nat.le_of_ble_eq_true h3;omega) hm hb
   ·cases h
  ·cases h
 ·cases h
theorem Q8 {C:Ctx} {get:Operand->Option SV} {rk:Rk} {b t n:Nat} {ps:Array (Nat×Operand)} {r:Core} (ho:o.op=.buildSlice t n ps) (h:SJ C get rk b t n ps=some r) (hp:fK r.p=true) (hg:fO E a get o) (hm:Mod N E a g) (hrk:∀i r,rk i=some r->g.r i=some r) (hb:rk b=none->g.r b=none):an C.P N g E a o r:=by
 unfold SJ at h
 split at h
 ·rename_i hps hbn
  split at h
  ·rename_i ri hri
   injection h with h;subst h
   exact Hw ho hri hg hm (hb hbn)
  ·cases h
 ·rename_i q hps hbn
  split at h
  ·rename_i rq ri hq hri
   split at h
   ·rename_i hqb
    injection h with h;subst h
    have hne:q≠b:=fun e=>by rw[e] at hqb;simp at hqb
    have hlv:=jp hp
    refine an.thaw2 (u:=[q]) (e1:=.row b ri none) (p:=[]) hm ?_ fun hmz=>Hw ho hri (fun x s hx hs=>?_) hmz ?_
    ·simp only[Look.app,Look.setR]
     congr 1
     funext i
     by_cases h1:i=b
     ·simp[h1]
     ·by_cases h2:i=q
      ·simp[h2,hne]
      ·simp[h1,h2]
    ·unfold RN at hs
     split at hs
     ·rename_i s' hs'
      injection hs with hs
      subst hs
      refine tl hm hrk hlv (hg x s' hx hs') fun r hr=>?_
      have hx':∃i,(i,x) ∈ ps:=by
       rw[ho] at hx
       simpa [Op.operands] using hx
      obtain ⟨i,hx'⟩:=hx'
      rw[<-hps]
      exact qG (p:=(i,x)) (by simpa using hx') hs' r hr
     ·cases hs
    ·simp only[Look.app,List.mem_singleton]
     rw[if_neg (Ne.symm hne)]
     exact hb hbn
   ·cases h
  ·cases h
 ·cases h
theorem Qi {P:Program} {get:Operand->Option SV} {x:Operand} {r:Core} (ho:o.op=.nilCheck x) (h:T6 get x=some r) (hg:fO E a get o) (hm:Mod N E a g):an P N g E a o r:=by
 have hop:x ∈ o.op.operands:=by rw[ho];simp[Op.operands]
 unfold T6 at h
 split at h
 ·rename_i b off hx
  injection h with h;subst h
  have hv:=hg x _ hop hx
  obtain ⟨cs,hv',hr,h1⟩:=hv
  match cs,hr with
  | [v],hr =>
  obtain ⟨⟨g1,g2⟩,_⟩:=hr
  refine an.value (E':=E) (v:=v) ?_ rfl (Keep.refl E) hm ⟨[v],rfl,⟨⟨g1,g2⟩,trivial⟩,fun _=>rfl⟩
  have hv2:a.eval x=.pointer (some ⟨E.β b,off,none⟩):=by rw[hv',g1];rfl
  simp[execOp,ho,hv2,g1,gA]
 ·rename_i s d off hx
  injection h with h;subst h
  have hv:=hg x _ hop hx
  obtain ⟨cs,hv',hr,h1⟩:=hv
  match cs,hr with
  | [v],hr =>
  have hr1:=hr.1
  obtain ⟨ad,cs',g1,g2,g3,g4⟩:=hr1
  refine an.value (E':=E) (v:=v) ?_ rfl (Keep.refl E) hm ⟨[v],rfl,⟨hr.1,trivial⟩,fun _=>rfl⟩
  have hv2:a.eval x=.pointer (some (ad.add off)):=by rw[hv',g1];rfl
  simp[execOp,ho,hv2,g1]
 ·cases h
theorem BJ {w:World} {Z:Nat->Prop}:∀{l:List (Sh.int .u8).T} {xs:List Value},aB w Z (.int .u8) l xs->xs=List.map (Value.int .u8) l
 | [],_,h=>h
 | x ::l,xs,⟨c,r,h1,h2,h3⟩=>by
  have h2:c=[.int .u8 x]:=h2
  rw[h1,h2,BJ h3]
  rfl
theorem IV {P:Program} {get:Operand->Option SV} {rk:Rk} {s d:TypeId} {x:Operand} {r:Core} (ho:o.op=.convert s d x) (h:GY P get rk s d x=some r) (hg:fO E a get o) (hm:Mod N E a g) (hrk:∀i r,rk i=some r->g.r i=some r):an P N g E a o r:=by
 unfold GY at h
 split at h
 ·rename_i et v ht hd hx
  split at h
  ·rename_i l hu hl
   injection h with h
   subst h
   obtain ⟨A,c,xs,hv,h1,h2,h3⟩:=Dd hm hrk hl (hg x v (by rw[ho];simp[Op.operands]) hx)
   have hxs:=BJ h1
   have key:(convert s d (a.eval x)).run P E.w=.ok (.string (CU l)) E.w:=by
    rw[hv,run_convert_bytes_string E.w s d et A l.length c (di ht) hu hd]
    cases A with
    | none =>
     have h0:l=[]:=h2 rfl
     subst h0
     rfl
    | some ad =>
     have hcell:=run_loadCells_list (P:=P) E.w ad xs (h3 ad rfl)
     have hlen:xs.length=l.length:=by rw[hxs,List.length_map]
     rw[hlen,hxs] at hcell
     exact run_bytesToString E.w ad l.length c l hcell
   refine an.value (E':=E) (v:=.string (CU l)) ?_ rfl (Keep.refl E) hm ⟨[_],rfl,⟨rfl,trivial⟩,fun _=>rfl⟩
   simp[execOp,ho,key]
  ·cases h
 ·cases h
theorem L1 {C:Ctx} {get:Operand->Option SV} {rk:Rk} {b:Nat} {r:Core} (h:Kv C get rk b o=some r) (hp:fK r.p=true) (hg:fO E a get o) (hm:Mod N E a g) (hrk:gv o=false->∀i r,rk i=some r->g.r i=some r) (hrx:∀i x,rk i=some (.x x)->g.r i=some (.x x)) (hrb:rk b=none->g.r b=none):an C.P N g E a o r:=by
 unfold Kv at h
 split at h
 ·rename_i t ho;exact Fa ho h hm hrb
 ·rename_i s d x ho;exact IV ho h hg hm (hrk (by simp[gv,ho]))
 ·rename_i t m k x ho;exact zP (.inl ho) h hg hm hrx
 ·rename_i t m k x ho;exact zP (.inr ho) h hg hm hrx
 ·rename_i t m k ok ho;exact Gi ho h hg hm hrx
 ·rename_i x ts ho
  unfold or2 at h
  split at h
  ·rename_i r' hr
   injection h with h;subst h
   exact L6 ho hr hg hm hrx
  ·exact Md ho h hp hg hm hrx
 ·rename_i xs ts ho
  unfold or2 at h
  split at h
  ·rename_i r' hr
   injection h with h;subst h
   exact FF ho hr hp hg hm (hrk (by simp[gv,ho]))
  ·exact E8 ho h hp hg hm hrx hrb
 ·rename_i t n ps ho
  split at h
  ·exact Q8 ho h hp hg hm (hrk (by simp[gv,ho])) hrb
  ·exact Gr ho h hg hm (hrk (by simp[gv,ho])) hrb
 ·rename_i t x y ho;exact Hn ho h hp hg hm hrx
 ·rename_i t x f ho;exact He ho h hg hm
 ·rename_i t x ho;exact Jw ho h hp hg hm hrx
 ·rename_i t x y ho
  unfold or2 at h
  split at h
  ·rename_i r' hr
   injection h with h;subst h
   exact G8 ho hr hp hg hm hrx
  ·exact GR ho h hp hg hm (hrk (by simp[gv,ho]))
 ·rename_i t l c ho;exact JZ ho h hp hg hm hrb
 ·cases h
theorem F6 {C:Ctx} (hC:C.ok) (hP:E.P=C.P) {get:Operand->Option SV} {bk:Nat->Option (List At)} {rk:Rk} {b:Nat} {r:Cor} (h:CY C get bk rk b o=some r) (hg:fO E a get o) (hm:Mod N E a g)
  (hbk:∀i l,bk i=some l->g.h i=some l) (hb:bk b=none->g.h b=none) (hrk:gv o=false->∀i r,rk i=some r->g.r i=some r) (hrm:∀i ri,rk i=some (.some ri)->∃rj,g.r i=some (.some rj)/\rj.e=ri.e/\rj.n=ri.n) (hrx:∀i x,rk i=some (.x x)->g.r i=some (.x x)) (hrb:rk b=none->g.r b=none):Bb C.P N g E a o r:=by
 unfold CY at h
 split at h
 ·rename_i f xs ts ho
  unfold Sn at h
  split at h
  ·rename_i r' hr
   injection h with h;subst h
   rw[<-hP]
   exact Kp ho hr (mS hg) hm
  ·split at h
   ·rename_i r' hr'
    injection h with h;subst h
    unfold SH at hr'
    split at hr'
    ·rename_i fv hfv
     split at hr'
     ·rename_i id hid
      intro hp
      have hfe:=uT hid (mS hg f fv (by rw[ho];simp[Op.operands,Call.operands]) hfv)
      exact IZ ho (by simpa using hfe) hr' hp (mS hg) hm
     ·cases hr'
    ·cases hr'
   ·exact KL hC hP ho h (mS hg) hm hbk (hrk (by simp[gv,ho])) hrb
 ·rename_i x ho
  unfold xe at h
  split at h
  ·rename_i s hs
   injection h with h;subst h
   exact fun _=>vT (.inl ho) (hg x s (by rw[ho];simp[Op.operands]) hs) hm
  ·cases h
 ·rename_i x ho
  unfold xe at h
  split at h
  ·rename_i s hs
   injection h with h;subst h
   exact fun _=>vT (.inr ho) (hg x s (by rw[ho];simp[Op.operands]) hs) hm
  ·cases h
 ·rename_i x ho
  unfold one? at h
  split at h
  ·rename_i r' hr
   injection h with h;subst h
   exact fun _=>Qi ho hr hg hm
  ·cases h
 ·split at h
  ·rename_i r' hr'
   injection h with h;subst h
   exact fun hp=>L1 hr' hp (mS hg) hm hrk hrx hrb
  split at h
  ·rename_i r' hr'
   injection h with h;subst h
   exact fun _=>II hr' hg hm
  unfold one? at h
  split at h
  ·rename_i r' hr
   injection h with h;subst h
   exact fun hp=>Ft hP hr hp (mS hg) hm hbk hb hrk hrm hrb
  ·cases h
structure Plan where
 s:Option (Nat×SlotV)
 eff:Eff
def Look.plan (g:Look) (pl:Plan):Look:=match pl.s with
 | some (d,s)=>(g.app pl.eff).setS d (some s)
 | none=>g.app pl.eff
inductive Cond where
 | always
 | under (c:Bool)
 | bad
def zx (ops:Array Oper) (sl:Nat->Option SlotV):Option (Nat×Bool)->Cond
 | none=>.always
 | some (j,want)=>match (ops[j]?).bind (·.dst) with
  | some d=>match sl d with
   | some ⟨none,.c false [.v (.bool h)]⟩=>.under (bif want then h else !h)
   | some ⟨some c,.c false [.v (.bool h)]⟩=>.under (c&&(bif want then h else !h))
   | _=>.bad
  | none=>.bad
def Cond.implies (k:Cond) (c:Bool):Bool:=match k with
 | .always=>c
 | .under q=>!q||c
 | .bad=>false
def xz (sl:Nat->Option SlotV) (x:Operand):Option SV:=match x with
 | .tmp t=>match sl t with
  | some s=>some s.s
  | none=>none
 | .const v=>some (ofV v)
 | .func f=>some (.c false [.v (.func (.func f) #[] #[])])
 | .global _=>none
def wZ (sl:Nat->Option SlotV) (x:Operand):Option Bool:=match x with
 | .tmp t=>match sl t with
  | some s=>s.c
  | none=>none
 | _=>none
def BO (k:Cond) (sl:Nat->Option SlotV):List Operand->List Bool
 | []=>[]
 | x ::r=>match wZ sl x with
  | none=>BO k sl r
  | some c=>k.implies c ::BO k sl r
theorem oV (hm:Mod N E a g) {sl:Nat->Option SlotV} {x:Operand} (hsl:∀t,x=.tmp t->g.s t=sl t) {s:SV} (h:xz sl x=some s) (hc:∀c,wZ sl x=some c->c=true):cn E s (a.eval x):=by
 cases x with
 | tmp t =>
  simp only[xz] at h
  split at h
  ·rename_i sv hsv
   injection h with h;subst h
   obtain ⟨v,hv,hr⟩:=hm.slots t sv (by rw[hsl t rfl];exact hsv)
   have he:a.eval (.tmp t)=v:=by simp[Act.eval,hv]
   rw[he]
   unfold iA at hr
   split at hr
   ·exact hr
   ·rename_i c hcc
    exact hr.1 (hc c (by simp only[wZ,hsv];exact hcc))
  ·cases h
 | const v=>simp only[xz] at h;injection h with h;subst h;exact Cd v
 | func f=>simp only[xz] at h;injection h with h;subst h;exact ⟨[_],rfl,⟨rfl,trivial⟩,fun _=>rfl⟩
 | global _=>cases h
theorem sU {k:Cond} {sl:Nat->Option SlotV}:∀{xs:List Operand},fK (BO k sl xs)=true->∀x ∈ xs,∀c,wZ sl x=some c->k.implies c=true
 | y ::r,h,x,hx,c,hc=>by
  simp only[BO] at h
  rcases List.mem_cons.1 hx with rfl | hx
  ·rw[hc] at h;exact (fb h).1
  ·split at h
   ·exact sU h x hx c hc
   ·exact sU (fb h).2 x hx c hc
def MP (q:Bool):SV->SV->Option SV
 | .c false [.v (.bool x)],.c false [.v (.bool y)]=>some (.c false [.v (.bool (bif q then x else y))])
 | _,_=>none
def OL (k:Cond) (sl:Nat->Option SlotV) (c x y:Operand):Option Core:=match xz sl c,xz sl x,xz sl y with
 | some (.c false [.v (.bool q)]),some s,some t=>match MP q s t with
  | some r=>some ⟨r,.none,BO k sl [c]++(match wZ sl x with | none=>[] | some cx=>[!q||k.implies cx])++(match wZ sl y with | none=>[] | some cy=>[q||k.implies cy])⟩
  | none=>none
 | _,_,_=>none
theorem Lk {P:Program} (hm:Mod N E a g) {sl:Nat->Option SlotV} {c x y:Operand} (ho:o.op=.pick c x y) (hsl:∀t,(Operand.tmp t) ∈ o.op.operands->g.s t=sl t) {k:Cond} {r:Core} (h:OL k sl c x y=some r)
  (hp:fK r.p=true) (hk:∀c,k.implies c=true->c=true):an P N g E a o r:=by
 unfold OL at h
 split at h
 ·rename_i q s t hc hx hy
  split at h
  ·rename_i w hw
   injection h with h
   subst h
   obtain ⟨h12,h3⟩:=iY hp
   obtain ⟨h1,h2⟩:=iY h12
   have ec:a.eval c=.bool q:=eq rfl (oV hm (fun t e=>hsl t (by rw[ho,<-e];simp[Op.operands])) hc fun d hd=>hk d (sU h1 c (by simp) d hd))
   unfold MP at hw
   split at hw
   ·rename_i p1 p2
    injection hw with hw
    subst hw
    refine an.value (E':=E) (v:=.bool (bif q then p1 else p2)) ?_ rfl (Keep.refl E) hm ⟨[_],rfl,⟨rfl,trivial⟩,fun _=>rfl⟩
    cases q
    ·have e2:a.eval y=.bool p2:=eq rfl (oV hm (fun t e=>hsl t (by rw[ho,<-e];simp[Op.operands])) hy fun d hd=>hk d (by rw[hd] at h3;simpa [fK] using h3))
     simp[execOp,ho,ec,e2,asBool]
    ·have e1:a.eval x=.bool p1:=eq rfl (oV hm (fun t e=>hsl t (by rw[ho,<-e];simp[Op.operands])) hx fun d hd=>hk d (by rw[hd] at h2;simpa [fK] using h2))
     simp[execOp,ho,ec,e1,asBool]
   ·cases hw
  ·cases h
 ·cases h
def EM (C:Ctx) (k:Cond) (sl:Nat->Option SlotV) (bk:Nat->Option (List At)) (rk:Rk) (b:Nat) (o:Oper):Option (List Bool×Cor):=match o.op with
 | .pick c x y=>match OL k sl c x y with
  | some r=>some ([],.one r)
  | none=>none
 | _=>match CY C (xz sl) bk rk b o with
  | some r=>some (BO k sl o.op.operands.toList,r)
  | none=>none
def Dx (N:Nat):Option Nat->Bool
 | none=>true
 | some d=>Nat.blt d N
inductive Stp where
 | one (p:List Bool) (pl:Plan)
 | call (p:List Bool) (T:Type) (m:Option T) (pl:T->Plan)
 | inl (p:List Bool) (id:FuncId) (args:List SV)
def wd (C:Ctx) (N:Nat) (ops:Array Oper) (sl:Nat->Option SlotV) (bk:Nat->Option (List At)) (rk:Rk) (b:Nat) (o:Oper):Option Stp:=match Dx N o.dst with
 | false=>none
 | true=>match zx ops sl o.guard with
  | .bad=>none
  | .always=>match EM C .always sl bk rk b o with
   | some (p,.one r)=>some (.one (p++r.p) ⟨o.dst.map fun d=>(d,⟨none,r.sv⟩),r.eff⟩)
   | some (p,.call T _ m sv eff _)=>some (.call p T m fun t=>⟨o.dst.map fun d=>(d,⟨none,sv t⟩),eff t⟩)
   | some (p,.inl id args)=>some (.inl p id args)
   | none=>none
  | .under c=>match EM C (.under c) sl bk rk b o with
   | some (p,.one r)=>match HV r.eff with
    | true=>some (.one (p++r.p.map fun q=>!c||q) ⟨o.dst.map fun d=>(d,⟨some c,r.sv⟩),.none⟩)
    | false=>none
   | some (p,.call T d m sv _ pu)=>match pu with
    | true=>some (.call p T (bif c then m else some d) fun t=>⟨o.dst.map fun d=>(d,⟨some c,sv t⟩),.none⟩)
    | false=>none
   | _=>none
def AU (C:Ctx) (N:Nat) (ops:Array Oper) (sl:Nat->Option SlotV) (bk:Nat->Option (List At)) (rk:Rk) (b:Nat) (o:Oper) (pl:Plan):Prop :=
 ∃st,wd C N ops sl bk rk b o=some st/\match st with
  | .one p pl'=>fK p=true/\pl=pl'
  | .call p _ m f=>fK p=true/\∃t,m=some t/\pl=f t
  | .inl ..=>False
theorem sw {C:Ctx} (hC:C.ok) (hP:E.P=C.P) {k:Cond} {sl:Nat->Option SlotV} {bk:Nat->Option (List At)} {rk:Rk} {b:Nat} {r:Cor} {p:List Bool} (h:EM C k sl bk rk b o=some (p,r)) (hp:fK p=true) (hm:Mod N E a g)
  (hsl:∀t,(Operand.tmp t) ∈ o.op.operands->g.s t=sl t) (hbk:∀i l,bk i=some l->g.h i=some l) (hb:bk b=none->g.h b=none) (hrk:gv o=false->∀i r,rk i=some r->g.r i=some r) (hrm:∀i ri,rk i=some (.some ri)->∃rj,g.r i=some (.some rj)/\rj.e=ri.e/\rj.n=ri.n) (hrx:∀i x,rk i=some (.x x)->g.r i=some (.x x)) (hrb:rk b=none->g.r b=none) (hk:∀c,k.implies c=true->c=true):Bb C.P N g E a o r:=by
 unfold EM at h
 split at h
 ·rename_i c x y ho
  split at h
  ·rename_i r' hr
   simp only[Option.some.injEq,Prod.mk.injEq] at h
   obtain ⟨rfl,rfl⟩:=h
   exact fun hp=>Lk hm ho hsl hr hp hk
  ·cases h
 ·split at h
  ·rename_i r' hr
   simp only[Option.some.injEq,Prod.mk.injEq] at h
   obtain ⟨rfl,rfl⟩:=h
   exact F6 hC hP hr (fun x s hx hs=>oV hm (fun t e=>hsl t (by rw[<-e];exact hx)) hs fun c hc=>hk c (sU hp x (by simpa using hx) c hc)) hm hbk hb hrk hrm hrx hrb
  ·cases h
theorem OZ {ops:Array Oper} {t:Nat} (h:(Operand.tmp t) ∈ o.op.operands):t ∈ o.looksAt ops :=
 List.mem_append_left _ (List.mem_filterMap.2 ⟨.tmp t,by simpa using h,rfl⟩)
theorem G9 {ops:Array Oper} {j:Nat} {want:Bool} {d:Nat} (h:o.guard=some (j,want)) (hd:(ops[j]?).bind (·.dst)=some d):d ∈ o.looksAt ops:=by
 refine List.mem_append_right _ ?_
 simp[h,hd]
theorem BK (hm:Mod N E a g) {ops:Array Oper} {sl:Nat->Option SlotV} (hsl:∀t ∈ o.looksAt ops,g.s t=sl t) :
  match zx ops sl o.guard with
  | .always=>Region.wanted o (yielded ops a.tmps)=true
  | .under c=>Region.wanted o (yielded ops a.tmps)=c
  | .bad=>True:=by
 cases hg:o.guard with
 | none=>simp[zx,Region.wanted,hg]
 | some jw =>
  obtain ⟨j,want⟩:=jw
  simp only[zx]
  cases hd:(ops[j]?).bind (·.dst) with
  | none=>trivial
  | some d =>
   have hl:=hsl d (G9 hg hd)
   simp only
   split<;>rename_i hs
   ·split at hs<;>cases hs
   ·split at hs
    ·rename_i h hsd
     injection hs with hs
     subst hs
     obtain ⟨v,hv,hr⟩:=hm.slots d _ (hl.trans hsd)
     have hr':cn E (.c false [.v (.bool h)]) v:=hr
     have hv':v=.bool h:=eq rfl hr'
     subst hv'
     simp only[Region.wanted,hg,yielded,hd,Option.bind_some,hv]
     cases want<;>cases h<;>rfl
    ·rename_i c h hsd
     injection hs with hs
     subst hs
     obtain ⟨v,hv,hr⟩:=hm.slots d _ (hl.trans hsd)
     simp only[Region.wanted,hg,yielded,hd,Option.bind_some,hv]
     cases c with
     | true =>
      have hv':v=.bool h:=eq rfl (hr.1 rfl)
      subst hv'
      cases want<;>cases h<;>rfl
     | false =>
      have hv':=hr.2 rfl
      subst hv'
      simp[undef]
    ·cases hs
   ·trivial
theorem rP {E':Env} {v:Value} {c:Option Bool} {sv:SV} {eff:Eff} (hdst:Dx N o.dst=true) (hm:Mod N E' a (g.app eff)) (hv:∀d,o.dst=some d->iA E' ⟨c,sv⟩ v) :
  Mod N E' (a.put o.dst v) (g.plan ⟨o.dst.map fun d=>(d,⟨c,sv⟩),eff⟩):=by
 cases hd:o.dst with
 | none=>exact hm
 | some d =>
  rw[hd] at hdst
  exact hm.put (by simp[Dx,Nat.blt] at hdst;omega) (hv d hd)
theorem HE {C:Ctx} (hC:C.ok) (hP:E.P=C.P) {ops:Array Oper} {sl:Nat->Option SlotV} {bk:Nat->Option (List At)} {rk:Rk} {b:Nat} {pl:Plan} (h:AU C N ops sl bk rk b o pl) (hm:Mod N E a g)
  (hsl:∀t ∈ o.looksAt ops,g.s t=sl t) (hbk:∀i l,bk i=some l->g.h i=some l) (hb:bk b=none->g.h b=none) (hrk:gv o=false->∀i r,rk i=some r->g.r i=some r) (hrm:∀i ri,rk i=some (.some ri)->∃rj,g.r i=some (.some rj)/\rj.e=ri.e/\rj.n=ri.n) (hrx:∀i x,rk i=some (.x x)->g.r i=some (.x x)) (hrb:rk b=none->g.r b=none) {K:Act->World->Prop} {Q:Exit->Act->World->Prop} {X:Prop}
  (hK:∀E' a',fG E E'->Keep E E'->Mod N E' a' (g.plan pl)->K a' E'.w) :
  if Region.wanted o (yielded ops a.tmps) then o.wp C.P a E.w K Q\/X else K (a.put o.dst undef) E.w:=by
 obtain ⟨st,h,hst⟩:=h
 unfold wd at h
 split at h
 ·cases h
 ·rename_i hdst
  have hgr:=BK hm hsl
  have hsl':∀t,(Operand.tmp t) ∈ o.op.operands->g.s t=sl t:=fun t ht=>hsl t (OZ ht)
  split at h
  ·cases h
  ·rename_i hgc
   rw[hgc] at hgr
   simp only at hgr
   rw[if_pos hgr]
   split at h
   ·rename_i p r hr
    injection h with h
    subst h
    obtain ⟨hp,rfl⟩:=hst
    obtain ⟨hp1,hp2⟩:=iY hp
    exact .inl (sw hC hP hr hp1 hm hsl' hbk hb hrk hrm hrx hrb (fun c hc=>hc) hp2 K Q fun E' v h0 hkp hm' hv=>hK E' _ h0 hkp (rP hdst hm' fun _ _=>hv))
   ·rename_i p T d m sv eff _ hr
    injection h with h
    subst h
    obtain ⟨hp,t,ht,rfl⟩:=hst
    exact .inl ((sw hC hP hr hp hm hsl' hbk hb hrk hrm hrx hrb (fun c hc=>hc)).2 t ht K Q fun E' v h0 hkp hm' hv=>hK E' _ h0 hkp (rP hdst hm' fun _ _=>hv))
   ·injection h with h
    subst h
    exact hst.elim
   ·cases h
  ·rename_i c hgc
   rw[hgc] at hgr
   simp only at hgr
   have skip:∀sv,c=false->Mod N E (a.put o.dst undef) (g.plan ⟨o.dst.map fun d=>(d,⟨some c,sv⟩),.none⟩):=fun sv hc=>rP (eff:=.none) hdst hm fun _ _=>(show iA E ⟨some c,sv⟩ undef from ⟨fun ht=>absurd ht (by rw[hc];decide),fun _=>rfl⟩)
   split at h
   ·rename_i p r hr
    split at h
    ·rename_i heff
     injection h with h
     subst h
     obtain ⟨hp,rfl⟩:=hst
     have he:r.eff=.none:=by
      cases hh:r.eff<;>rw[hh] at heff<;>first | rfl | cases heff
     by_cases hc:c=true
     ·rw[if_pos (by rw[hgr];exact hc)]
      obtain ⟨hp1,hp2'⟩:=iY hp
      have hp2:=EE hp2' hc
      refine .inl (sw hC hP hr hp1 hm hsl' hbk hb hrk hrm hrx hrb (fun d hd=>by simpa [Cond.implies,hc] using hd) hp2 K Q fun E' v h0 hkp hm' hv=>?_)
      rw[he] at hm'
      exact hK E' _ h0 hkp (rP hdst hm' fun _ _=>(show iA E' ⟨some c,r.sv⟩ v from ⟨fun _=>hv,fun hf=>absurd hf (by rw[hc];decide)⟩))
     ·have hc:c=false:=by simpa using hc
      rw[if_neg (by rw[hgr,hc];simp)]
      exact hK E _ rfl (Keep.refl E) (skip r.sv hc)
    ·cases h
   ·rename_i p T d m sv eff pu hr
    split at h
    ·injection h with h
     subst h
     obtain ⟨hp,t,ht,rfl⟩:=hst
     by_cases hc:c=true
     ·rw[if_pos (by rw[hgr];exact hc)]
      rw[hc] at ht
      have hcc:=sw hC hP hr hp hm hsl' hbk hb hrk hrm hrx hrb (fun d hd=>by simpa [Cond.implies,hc] using hd)
      refine .inl (hcc.2 t ht K Q fun E' v h0 hkp hm' hv=>?_)
      simp only[hcc.1 rfl t] at hm'
      exact hK E' _ h0 hkp (rP hdst hm' fun _ _=>(show iA E' ⟨some c,sv t⟩ v from ⟨fun _=>hv,fun hf=>absurd hf (by rw[hc];decide)⟩))
     ·have hc:c=false:=by simpa using hc
      rw[if_neg (by rw[hgr,hc];simp)]
      exact hK E _ rfl (Keep.refl E) (skip (sv t) hc)
    ·cases h
   ·cases h
end
end Dn
end Go.Proofs.YtegbncajloeepaaGreat
