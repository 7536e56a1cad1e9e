/- A symbolic executor: one operation, with its guard; regions in the order of the text. -/
import Derived.Laws.BytesString
import Derived.Test.YtegbncajloeepaaGreatMgH

namespace Go.Proofs.YtegbncajloeepaaGreat
namespace Dn
open Go.RowKit
section
variable {N:Nat} {g:Look} {E:Env} {a:Act} {o:Oper}
def Jv (get:Operand->Option SV) (f:Operand) (xs:Array Operand):Option Cor:=match get f with
 | some (.c false [.fn a r F])=>match G8 get xs.toList with
  | some l=>match mi a l with
   | some (x,[])=>some (.call r.T r.dflt (F x) (GX (.one r)) (fun _=>.none) true)
   | _=>none
  | none=>none
 | _=>none
theorem JP {get:Operand->Option SV} {f:Operand} {xs:Array Operand} {ts:Array TypeId} {r:Cor} (ho:o.op=.call { callee:=.value f,args:=xs,argTypes:=ts })
  (h:Jv get f xs=some r) (hg:fg E a get o) (hm:Mod N E a g):zo E.P N g E a o r:=by
 unfold Jv at h
 split at h
 ·rename_i as rs F hf
  split at h
  ·rename_i l hl
   split at h
   ·rename_i x hx
    injection h with h
    subst h
    refine ⟨fun _ _=>rfl,?_⟩
    intro y hy
    obtain ⟨cs,hv,hr,_⟩:=hg f _ (by rw[ho];simp[Op.operands,Call.operands]) hf
    match cs,hr with
    | [z],hr =>
     obtain ⟨id,cap,hz,hcall,hfn⟩:=hr.1
     have hl':=xd hl fun x hx s hs=>hg x s (by rw[ho];simp only[Op.operands,Call.operands];rw[Array.mem_append];right;exact Array.mem_toList_iff.1 hx) hs
     obtain ⟨vs1,vs2,e,h1,h2⟩:=gX hx hl'
     match vs2,h2 with
     | [],_ =>
      rw[List.append_nil] at e
      refine E4 (cap:=cap) ho (by rw[hv,hz];rfl) hcall hm ?_
      have:=hfn E.w E.Z x y vs1 ⟨hm.glob.below,fun _ _ _ h=>h⟩ (fun _ h=>h) hm.glob.zlt hy h1
      have e2:xs.map a.eval=vs1.toArray:=by rw[<-e];simp[<-Array.toList_map]
      rw[e2]
      exact this
   ·cases h
  ·cases h
 ·cases h
def OC (P:Program) (get:Operand->Option SV) (f:Operand) (xs:Array Operand):Option Core:=match get f with
 | some fv=>match tl fv with
  | some (id,[])=>Eh P get id xs
  | _=>none
 | none=>none
def OL (C:Ctx) (get:Operand->Option SV) (bk:Nat->Option (List At)) (rk:Rk) (b:Nat) (f:Operand) (xs:Array Operand):Option Cor:=match Jv get f xs with
 | some r=>some r
 | none=>match OC C.P get f xs with
  | some r=>some (.one r)
  | none=>KO C get bk rk b f xs
def vj (get:Operand->Option SV) (x:Operand):Option Core:=match get x with
 | some s=>some ⟨s,.none,[]⟩
 | none=>none
def CO (get:Operand->Option SV) (x:Operand) (ix:Nat):Option Core:=match get x with
 | some (.tup l)=>match l[ix]? with
  | some c=>some ⟨.c c.1 c.2,.none,[]⟩
  | none=>none
 | _=>none
def OI (P:Program) (get:Operand->Option SV) (bk:Nat->Option (List At)) (rk:Rk) (t:TypeId) (x:Operand):Option Core:=match get x with
 | some (.c false [.ptr i off])=>match bk i with
  | some l=>match kC P t l off with
   | some s=>some ⟨s,.none,[]⟩
   | none=>none
  | none=>none
 | some (.c false [.rf sh d off])=>match kC P t (Sh.cells sh d) off with
  | some s=>some ⟨s,.none,[]⟩
  | none=>none
 | some (.c false [.ae b off e n i d])=>match bk b with
  | some l=>match els e n (l.drop off) with
   | some xs=>match kC P t (e.cells (xs.getD i e.dflt)) d with
    | some s=>some ⟨s,.none,[Nat.blt i n]⟩
    | none=>none
   | none=>none
  | none=>none
 | some (.c false [.re r i sz off])=>match rk r with
  | some (.some ri)=>match Nat.beq sz ri.e.size,kC P t (ri.e.cells (ri.l.getD i ri.e.dflt)) off with
   | true,some s=>some ⟨s,.none,[Nat.blt i ri.n]⟩
   | _,_=>none
  | _=>none
 | _=>none
def H2 (P:Program) (get:Operand->Option SV) (bk:Nat->Option (List At)) (rk:Rk) (t:TypeId) (x y:Operand):Option Core:=match get x,get y with
 | some (.c false [.ptr i off]),some (.c _ l')=>match bk i,cP P t with
  | some l,some n=>match l'.all at1,Nat.beq l'.length n,Nat.ble (off+n) l.length with
   | true,true,true=>some ⟨.c false [.u],.store i (l.take off++l'++l.drop (off+l'.length)),[]⟩
   | _,_,_=>none
  | _,_=>none
 | some (.c false [.ae b off e n i d]),some (.c _ l')=>match bk b,cP P t with
  | some l,some m=>match els e n ((l.drop off).take (n*e.size)),l'.all at1,Nat.beq l'.length m,Nat.ble (d+m) e.size,Nat.ble (off+n*e.size) l.length with
   | some xs,true,true,true,true=>match e.take ((e.cells (xs.getD i e.dflt)).take d++l'++(e.cells (xs.getD i e.dflt)).drop (d+l'.length)) with
    | some (z,[])=>some ⟨.c false [.u],.store b (l.take off++qf e (pc xs 0 i z)++l.drop (off+n*e.size)),[Nat.blt i n]⟩
    | _=>none
   | _,_,_,_,_=>none
  | _,_=>none
 | some (.c false [.re r i sz off]),some (.c _ l')=>match rk r,cP P t with
  | some (.some ri),some n=>match l'.all at1,Nat.beq l'.length n,Nat.ble (off+n) ri.e.size,Nat.beq sz ri.e.size,ri.e.take ((ri.e.cells (ri.l.getD i ri.e.dflt)).take off++l'++(ri.e.cells (ri.l.getD i ri.e.dflt)).drop (off+l'.length)) with
   | true,true,true,true,some (z,[])=>some ⟨.c false [.u],.rset r ri.e (ri.l.set i z),[Nat.blt i ri.n]⟩
   | _,_,_,_,_=>none
  | _,_=>none
 | _,_=>none
def Km (P:Program) (bk:Nat->Option (List At)) (b:Nat) (t:TypeId):Option Core:=match mI P t,bk b with
 | some cs,none=>some ⟨.c false [.ptr b 0],.alloc b (cs.map .v),[]⟩
 | _,_=>none
def RZ (get:Operand->Option SV) (bk:Nat->Option (List At)) (b:Nat) (x:Operand):Option Core:=match get x,bk b with
 | some (.c _ l),none=>match l.all at1 with
  | true=>some ⟨.c false [.ptr b 0],.alloc b l,[]⟩
  | false=>none
 | _,_=>none
def IA (P:Program) (get:Operand->Option SV) (t:TypeId) (x:Operand) (f:Nat):Option Core:=match get x,pS P t f with
 | some (.c false [.ptr i off]),some d=>some ⟨.c false [.ptr i (off+d)],.none,[]⟩
 | some (.c false [.rf sh y off]),some d=>some ⟨.c false [.rf sh y (off+d)],.none,[]⟩
 | some (.c false [.re r i sz off]),some d=>some ⟨.c false [.re r i sz (off+d)],.none,[]⟩
 | some (.c false [.ae b off e n i d0]),some d=>some ⟨.c false [.ae b off e n i (d0+d)],.none,[]⟩
 | _,_=>none
def HK (P:Program) (get:Operand->Option SV) (rk:Rk) (t:TypeId) (x y:Operand):Option Core:=match get x,get y,dZ P t with
 | some (.c false [.sl e l]),some (.c false [.v (.int _ i)]),some et=>match cP P et with
  | some n=>match Nat.beq n e.size with
   | true=>some ⟨.c false [.rf e (l.getD i.toNat e.dflt) 0],.none,[inB i l.length]⟩
   | false=>none
  | none=>none
 | some (.c false [.row r]),some (.c false [.v (.int _ i)]),some et=>match cP P et,rk r with
  | some n,some (.some ri)=>match Nat.beq n ri.e.size with
   | true=>some ⟨.c false [.re r i.toNat ri.e.size 0],.none,[inB i ri.n]⟩
   | false=>none
  | _,_=>none
 | _,_,_=>none
def ud (C:Ctx) (get:Operand->Option SV) (t:TypeId) (x y:Operand):Option Core:=match Ap C.P t,get x,get y with
 | some (n,et),some (.c false [.ptr b off]),some (.c false [.v (.int _ i)])=>match C.sh et,cP C.P et with
  | some e,some m=>match Nat.beq m e.size with
   | true=>some ⟨.c false [.ae b off e n i.toNat 0],.none,[inB i n]⟩
   | false=>none
  | _,_=>none
 | some (n,et),some (.c false [.rf s d off]),some (.c false [.v (.int _ i)])=>match C.sh et,cP C.P et with
  | some e,some m=>match Nat.beq m e.size,els e n ((s.cells d).drop off) with
   | true,some xs=>some ⟨.c false [.rf e (xs.getD i.toNat e.dflt) 0],.none,[inB i n]⟩
   | _,_=>none
  | _,_=>none
 | some (n,et),some (.c false [.re r q sz off]),some (.c false [.v (.int _ i)])=>match cP C.P et with
  | some m=>some ⟨.c false [.re r q sz (off+i.toNat*m)],.none,[inB i n]⟩
  | none=>none
 | _,_,_=>none
def EF (P:Program) (get:Operand->Option SV) (t:TypeId) (x:Operand) (lo hi:Option Operand):Option Core:=match get x with
 | some (.c false [.sl e l])=>match dZ P t,rp get 0 lo,rp get l.length hi with
  | some et,some i,some j=>match cP P et with
   | some m=>match Nat.beq m e.size with
    | true=>some ⟨.c false [.sl e ((l.take j.toNat).drop i.toNat)],.none,[slB i j l.length]⟩
    | false=>none
   | none=>none
  | _,_,_=>none
 | some (.c false [.v (.string s)])=>match P.underlying t,rp get 0 lo,rp get s.size hi with
  | some .string,some i,some j=>some ⟨.c false [.v (.string (s.extract i.toNat j.toNat))],.none,[slB i j s.size]⟩
  | _,_,_=>none
 | _=>none
def P0:SV->SV
 | .c false [.sn e l]=>.c false [.sl e l]
 | s=>s
def Im (get:Operand->Option SV) (x:Operand):Option SV:=match get x with
 | some s=>some (P0 s)
 | none=>none
theorem HM {s:SV} {v:Value} (h:bL E s v):bL E (P0 s) v:=by
 unfold P0
 split
 ·obtain ⟨cs,h1,h2,h3⟩:=h
  match cs,h2 with
  | [z],h2=>exact ⟨[z],h1,⟨h2.1.2,trivial⟩,h3⟩
 ·exact h
theorem ly {get:Operand->Option SV} (hg:fg E a get o):fg E a (Im get) o:=fun x s hx h=>by
 unfold Im at h
 split at h
 ·rename_i s' hs
  injection h with h
  subst h
  exact HM (hg x s' hx hs)
 ·cases h
def Eu (P:Program) (get:Operand->Option SV) (o:Oper):Option Core:=match o.op with
 | .binOp .eql t x (.const (.slice none 0 0)) _=>match get x,dZ P t with
  | some (.c false [.sn _ _]),some _=>some ⟨.c false [.v (.bool false)],.none,[]⟩
  | _,_=>none
 | .binOp .neq t x (.const (.slice none 0 0)) _=>match get x,dZ P t with
  | some (.c false [.sn _ _]),some _=>some ⟨.c false [.v (.bool true)],.none,[]⟩
  | _,_=>none
 | _=>none
def AA (C:Ctx) (get:Operand->Option SV) (t:TypeId) (n:Nat) (ps:Array (Nat×Operand)):Option Core:=match dZ C.P t with
 | some et=>match C.sh et,cP C.P et,mI C.P et with
  | some e,some m,some _=>match Nat.beq m e.size,Nat.beq ps.size n,Nat.ble (n*e.size) 16777216,lV e get 0 ps.toList with
   | true,true,true,some l=>some ⟨.c false [.sl e l],.none,[]⟩
   | _,_,_,_=>none
  | _,_,_=>none
 | none=>none
def Fw (C:Ctx) (get:Operand->Option SV) (rk:Rk) (b:Nat) (t:TypeId) (n:Nat) (ps:Array (Nat×Operand)):Option Core:=match n,ps.toList,rk b,dZ C.P t with
 | 0,[],none,some et=>match C.sh et,cP C.P et with
  | some e,some m=>match Nat.beq m e.size with
   | true=>some ⟨.c false [.row b],.row b ⟨et,e,0,[]⟩ none,[]⟩
   | false=>none
  | _,_=>none
 | _,_,_,_=>AA C get t n ps
def MR (rk:Rk) (get:Operand->Option SV) (x:Operand):Option SV:=match get x with
 | some s=>some (vk rk s)
 | none=>none
def tW (get:Operand->Option SV):List (Nat×Operand)->List Nat
 | []=>[]
 | p ::r=>match get p.2 with
  | some s=>uN s++tW get r
  | none=>tW get r
def zW (C:Ctx) (get:Operand->Option SV) (rk:Rk) (t:TypeId) (n:Nat) (ps:Array (Nat×Operand)):Option Core:=match tW get ps.toList with
 | []=>none
 | q ::u=>match AA C (MR rk get) t n ps with
  | some ⟨sv,.none,p⟩=>some ⟨sv,.rkill (q ::u),nk rk (q ::u)++p⟩
  | _=>none
def AM (C:Ctx) (get:Operand->Option SV) (t:TypeId) (x y:Operand):Option Core:=match get x,get y with
 | some (.c false [.v (.string s)]),some (.c false [.v (.int _ i)])=>match C.P.underlying t with
  | some .string=>some ⟨.c false [.v (.int .u8 (fb s i.toNat))],.none,[inB i s.size]⟩
  | _=>none
 | some (.c true l),some (.c false [.v (.int _ i)])=>match Ap C.P t with
  | some (n,et)=>match C.sh et with
   | some e=>match Et C.P et,cP C.P et,els e n l with
    | some ag,some m,some xs=>match ag ==e.isAgg,Nat.beq m e.size,e.isAgg||Nat.beq e.size 1 with
     | true,true,true=>some ⟨.c e.isAgg (e.cells (xs.getD i.toNat e.dflt)),.none,[inB i n]⟩
     | _,_,_=>none
    | _,_,_=>none
   | none=>none
  | none=>none
 | _,_=>none
def Ai (P:Program) (get:Operand->Option SV) (t:TypeId) (x:Operand) (f:Nat):Option Core:=match get x,zZ P t f with
 | some (.c true l),some (ft,off)=>match kC P ft l off with
  | some s=>some ⟨s,.none,[]⟩
  | none=>none
 | _,_=>none
def xF (P:Program) (get:Operand->Option SV) (o:Oper):Option Core->Option Core
 | some r=>some r
 | none=>xB P get o
def S9 (P:Program) (get:Operand->Option SV) (rk:Rk) (xs:Array Operand) (ts:Array TypeId) (o:Oper):Option Core:=match xs.toList,ts[0]? with
 | [x],some t=>match get x,dZ P t with
  | some (.c false [.sl _ l]),some _=>some ⟨.c false [.v (.int .i64 l.length)],.none,[]⟩
  | some (.c false [.row r]),some _=>match rk r with
   | some (.some ri)=>some ⟨.c false [.v (.int .i64 ri.n)],.none,[]⟩
   | _=>none
  | _,_=>xB P get o
 | _,_=>none
def fE (o:Oper):Bool:=match o.op with
 | .indexAddr ..=>true
 | .move _=>true
 | .assign _=>true
 | .extract ..=>true
 | .call ⟨.builtin .len,_,_⟩=>true
 | _=>false
def one?:Option Core->Option Cor
 | some r=>some (.one r)
 | none=>none
def xA (C:Ctx) (get:Operand->Option SV) (bk:Nat->Option (List At)) (rk:Rk) (b:Nat) (o:Oper):Option Core:=match o.op with
 | .move x=>vj get x
 | .assign x=>vj get x
 | .extract x ix=>CO get x ix
 | .load t x=>OI C.P get bk rk t x
 | .store t x y=>H2 C.P get bk rk t x y
 | .alloc t=>Km C.P bk b t
 | .box _ x=>RZ get bk b x
 | .fieldAddr t x f=>IA C.P get t x f
 | .indexAddr t x y=>match ud C get t x y with
  | some r=>some r
  | none=>HK C.P get rk t x y
 | .slice t x lo hi none=>match EF C.P get t x lo hi with
  | some r=>some r
  | none=>match lo,SX o.pos with
   | none,true=>PW C.P get rk b t x hi
   | _,_=>zB C.P get rk t x lo hi
 | .buildSlice t n ps=>match zW C get rk t n ps with
  | some r=>some r
  | none=>Fw C get rk b t n ps
 | .index t x y=>xF C.P get o (AM C get t x y)
 | .field t x f=>xF C.P get o (Ai C.P get t x f)
 | .build t ps=>xF C.P get o (wi C.P get t ps)
 | .makeSlice t l c=>Kd C.sh C.P get rk b t l c
 | .binOp .quo _ _ _ _=>Od get o
 | .binOp .rem _ _ _ _=>Od get o
 | .binOp .shl _ _ _ _=>AF get o
 | .binOp .shr _ _ _ _=>AF get o
 | .binOp .eql _ _ _ _=>eqC C.P get o
 | .binOp .neq _ _ _ _=>eqC C.P get o
 | .makeFunc _ _ _=>Lr get o
 | .call ⟨.builtin .len,xs,ts⟩=>S9 C.P get rk xs ts o
 | .call ⟨.builtin .append,xs,ts⟩=>match wB C.sh C.P get rk b xs ts with
  | some r=>some r
  | none=>AK C.P C.sh get rk b xs ts
 | .call ⟨.builtin .copy,xs,ts⟩=>KV C.P get rk xs ts
 | _=>xB C.P get o
def Oe (C:Ctx) (get:Operand->Option SV) (t:TypeId) (n:Nat) (ps:Array (Nat×Operand)):Option RowI:=match dZ C.P t with
 | some et=>match C.sh et,cP C.P et,mI C.P et with
  | some e,some m,some _=>match Nat.beq m e.size,Nat.beq ps.size n,Nat.ble (n*e.size) 16777216,lV e get 0 ps.toList with
   | true,true,true,some l=>some ⟨et,e,l.length,l⟩
   | _,_,_,_=>none
  | _,_,_=>none
 | none=>none
def Py (C:Ctx) (get:Operand->Option SV) (rk:Rk) (b:Nat) (t:TypeId) (n:Nat) (ps:Array (Nat×Operand)):Option Core:=match tW get ps.toList,rk b with
 | [],none=>match Oe C get t n ps with
  | some ri=>some ⟨.c false [.row b],.row b ri none,[]⟩
  | none=>none
 | [q],none=>match rk q,Oe C (MR rk get) t n ps with
  | some (.some _),some ri=>match Nat.beq q b with
   | false=>some ⟨.c false [.row b],.row b ri (some q),nk rk [q]⟩
   | true=>none
  | _,_=>none
 | _,_=>none
def or2 (a b:Option Core):Option Core:=match a with
 | some r=>some r
 | none=>b
def AR (l:List Int):ByteArray:=l.foldl (fun r n=>r.push (UInt8.ofNat n.toNat)) ByteArray.empty
def Dp (P:Program) (get:Operand->Option SV) (rk:Rk) (s d:TypeId) (x:Operand):Option Core:=match dZ P s,P.underlying d,get x with
 | some et,some .string,some v=>match P.underlying et,CG rk (.int .u8) v with
  | some (.int .u8),some l=>some ⟨.c false [.v (.string (AR l))],.none,[]⟩
  | _,_=>none
 | _,_,_=>none
def HA (C:Ctx) (get:Operand->Option SV) (rk:Rk) (b:Nat) (o:Oper):Option Core:=match o.op with
 | .makeMap t none=>wD C.sh C.P rk b t
 | .convert s d x=>Dp C.P get rk s d x
 | .mapUpdate t m k x=>vL C.P get rk t m k x
 | .insert t m k x=>vL C.P get rk t m k x
 | .lookup t m k ok=>AJ C.P get rk t m k ok
 | .call ⟨.builtin .len,⟨[x]⟩,ts⟩=>or2 (LR C.P get rk x ts) (KD C.P get rk x ts)
 | .call ⟨.builtin .append,xs,ts⟩=>or2 (xO C.P get rk xs ts) (xz C.P get rk b xs ts)
 | .buildSlice t n ps=>match C.lit o.pos with
  | true=>Py C get rk b t n ps
  | false=>AH (fun t=>(C.tb t).isSome) C.P get rk b t n ps
 | .indexAddr t x y=>zC C.P get rk t x y
 | .fieldAddr t x f=>AG C.P get t x f
 | .load t x=>DU C.P get rk t x
 | .store t x y=>or2 (Aj C.P get rk t x y) (Ay C.P get rk t x y)
 | .makeSlice t l c=>Em C.tb C.P get rk b t l c
 | _=>none
def QH (get:Operand->Option SV) (x:Operand):Option Core:=match get x with
 | some (.c false [.ptr b off])=>some ⟨.c false [.ptr b off],.none,[]⟩
 | some (.c false [.rf s d off])=>some ⟨.c false [.rf s d off],.none,[]⟩
 | _=>none
def AD (C:Ctx) (get:Operand->Option SV) (bk:Nat->Option (List At)) (rk:Rk) (b:Nat) (o:Oper):Option Cor:=match o.op with
 | .call ⟨.value f,xs,_⟩=>OL C (Im get) bk rk b f xs
 | .move x=>one? (vj get x)
 | .assign x=>one? (vj get x)
 | .nilCheck x=>one? (QH get x)
 | _=>match HA C (Im get) rk b o with
  | some r=>some (.one r)
  | none=>match Eu C.P get o with
   | some r=>some (.one r)
   | none=>one? (xA C (Im get) bk rk b o)
theorem AX {C:Ctx} {get:Operand->Option SV} {t:TypeId} {x y:Operand} {r:Core} (ho:o.op=.indexAddr t x y) (h:ud C get t x y=some r) (hp:fc r.p=true) (hg:fg E a get o) (hm:Mod N E a g):al C.P N g E a o r:=by
 unfold ud at h
 split at h
 ·rename_i n et b off k i ht hx hy
  split at h
  ·rename_i e m he hz
   split at h
   ·rename_i hne
    injection h with h;subst h
    have hne:m=e.size:=by simpa using hne
    subst hne
    exact BZ ho (hg x _ (by rw[ho];simp[Op.operands]) hx) (hg y _ (by rw[ho];simp[Op.operands]) hy) ht hz hm (ju.1 hp)
   ·cases h
  ·cases h
 ·rename_i n et s d off k i ht hx hy
  split at h
  ·rename_i e m he hz
   split at h
   ·rename_i xs hne hxs
    injection h with h;subst h
    have hne:m=e.size:=by simpa using hne
    subst hne
    exact DD ho (hg x _ (by rw[ho];simp[Op.operands]) hx) (hg y _ (by rw[ho];simp[Op.operands]) hy) ht hz hxs hm (ju.1 hp)
   ·cases h
  ·cases h
 ·rename_i n et r q sz off k i ht hx hy
  split at h
  ·rename_i m hz
   injection h with h;subst h
   exact Bw ho (hg x _ (by rw[ho];simp[Op.operands]) hx) (hg y _ (by rw[ho];simp[Op.operands]) hy) ht hz hm (ju.1 hp)
  ·cases h
 ·cases h
theorem Gl {P:Program} {get:Operand->Option SV} {t:TypeId} {x:Operand} {lo hi:Option Operand} {r:Core} (ho:o.op=.slice t x lo hi none) (h:EF P get t x lo hi=some r) (hp:fc r.p=true) (hg:fg E a get o) (hm:Mod N E a g):al P N g E a o r:=by
 unfold EF at h
 split at h
 ·rename_i e l hx
  split at h
  ·rename_i et i j ht hi' hj
   split at h
   ·rename_i m hz
    split at h
    ·rename_i hne
     injection h with h;subst h
     have hne:m=e.size:=by simpa using hne
     subst hne
     exact D5 ho hg (hg x _ (by rw[ho];simp[Op.operands]) hx) ht hz hi' hj hm (qI.1 hp)
    ·cases h
   ·cases h
  ·cases h
 ·rename_i s hx
  split at h
  ·rename_i i j ht hi' hj
   injection h with h;subst h
   exact B6 ho hg (hg x _ (by rw[ho];simp[Op.operands]) hx) ht hi' hj hm (qI.1 hp)
  ·cases h
 ·cases h
theorem tX {P:Program} {get:Operand->Option SV} {r:Core} {q:Option Core} (h:xF P get o q=some r) (hp:fc r.p=true) (hg:fg E a get o) (hm:Mod N E a g) (hq:∀r',q=some r'->fc r'.p=true->al P N g E a o r'):al P N g E a o r:=by
 unfold xF at h
 split at h
 ·injection h with h
  subst h
  exact hq _ rfl hp
 ·exact pK h hg hm
theorem DV {C:Ctx} {get:Operand->Option SV} {t:TypeId} {x y:Operand} {r:Core} (ho:o.op=.index t x y) (h:AM C get t x y=some r) (hp:fc r.p=true) (hg:fg E a get o) (hm:Mod N E a g):al C.P N g E a o r:=by
 unfold AM at h
 split at h
 ·rename_i s k i hx hy
  split at h
  ·rename_i ht
   injection h with h;subst h
   exact CF ho (hg x _ (by rw[ho];simp[Op.operands]) hx) (hg y _ (by rw[ho];simp[Op.operands]) hy) ht hm (ju.1 hp)
  ·cases h
 ·rename_i l k i hx hy
  split at h
  ·rename_i n et ht
   split at h
   ·rename_i e he
    split at h
    ·rename_i ag m xs ha hz hxs
     split at h
     ·rename_i h1 h2 h3
      injection h with h;subst h
      have h1:ag=e.isAgg:=by simpa using h1
      have h2:m=e.size:=by simpa using h2
      subst h1;subst h2
      exact B3 ho (hg x _ (by rw[ho];simp[Op.operands]) hx) (hg y _ (by rw[ho];simp[Op.operands]) hy) ht ha hz h3 hxs hm (ju.1 hp)
     ·cases h
    ·cases h
   ·cases h
  ·cases h
 ·cases h
theorem EC {P:Program} {get:Operand->Option SV} {t:TypeId} {x:Operand} {f:Nat} {r:Core} (ho:o.op=.field t x f) (h:Ai P get t x f=some r) (hg:fg E a get o) (hm:Mod N E a g):al P N g E a o r:=by
 unfold Ai at h
 split at h
 ·rename_i l ft off hx hf
  split at h
  ·rename_i s hs
   injection h with h;subst h
   exact Gj ho (hg x _ (by rw[ho];simp[Op.operands]) hx) hf hs hm
  ·cases h
 ·cases h
theorem yh {C:Ctx} {get:Operand->Option SV} {t n:Nat} {ps:Array (Nat×Operand)} {r:Core} (ho:o.op=.buildSlice t n ps) (h:AA C get t n ps=some r) (hg:fg E a get o) (hm:Mod N E a g):al C.P N g E a o r:=by
 unfold AA at h
 split at h
 ·rename_i et ht
  split at h
  ·rename_i e m z he hm' hz
   split at h
   ·rename_i l h1 h2 h3 hw
    injection h with h;subst h
    have h1:m=e.size:=by simpa using h1
    subst h1
    exact Jp ho hg ht hm' hw (by simpa using h2) hz (by have:=Nat.le_of_ble_eq_true h3;omega) hm
   ·cases h
  ·cases h
 ·cases h
theorem oU {get:Operand->Option SV}:∀{ps:List (Nat×Operand)} {p:Nat×Operand} {s:SV},p ∈ ps->get p.2=some s->∀r ∈ uN s,r ∈ tW get ps
 | q ::l,p,s,hp,hs,r,hr=>by
  simp only[tW]
  rcases List.mem_cons.1 hp with rfl | hp
  ·rw[hs];exact List.mem_append_left _ hr
  ·split
   ·exact List.mem_append_right _ (oU hp hs r hr)
   ·exact oU hp hs r hr
theorem Ee {C:Ctx} {get:Operand->Option SV} {rk:Rk} {t n:Nat} {ps:Array (Nat×Operand)} {r:Core} (ho:o.op=.buildSlice t n ps) (h:zW C get rk t n ps=some r) (hp:fc r.p=true) (hg:fg E a get o) (hm:Mod N E a g) (hrk:∀i r,rk i=some r->g.r i=some r):al C.P N g E a o r:=by
 unfold zW at h
 split at h
 ·cases h
 ·rename_i q u hu
  split at h
  ·rename_i sv p hb
   injection h with h;subst h
   have hlv:=iq (gG hp).1
   refine (show al C.P N g E a o ⟨sv,.rkill (q ::u),p⟩ from al.thaw hm fun hmz=>yh ho hb (fun x s hx hs=>?_) hmz)
   unfold MR at hs
   split at hs
   ·rename_i s' hs'
    injection hs with hs
    subst hs
    refine rb hm hrk hlv (hg x s' hx hs') fun r hr=>?_
    have hx':∃i,(i,x) ∈ ps:=by
     rw[ho] at hx
     simpa [Op.operands] using hx
    obtain ⟨i,hx'⟩:=hx'
    rw[<-hu]
    exact oU (p:=(i,x)) (by simpa using hx') hs' r hr
   ·cases hs
  ·cases h
theorem yM (a:Act) (v:Value):a.eval (.const v)=v:=rfl
theorem GP {P:Program} {get:Operand->Option SV} {r:Core} (h:Eu P get o=some r) (hg:fg E a get o) (hm:Mod N E a g):al P N g E a o r:=by
 have key:∀{x:Operand} {e:Sh} {l:List e.T},x ∈ o.op.operands->get x=some (.c false [.sn e l])->∃ad m c,a.eval x=.slice (some ad) m c:=fun hx hs=>by
  obtain ⟨cs,hv,hr,_⟩:=hg _ _ hx hs
  match cs,hr with
  | [z],hr =>
   obtain ⟨⟨ad,m,c,hz⟩,_⟩:=hr.1
   exact ⟨ad,m,c,by rw[hv,hz];rfl⟩
 unfold Eu at h
 split at h
 ·rename_i t x t' ho
  split at h
  ·rename_i e l et hx ht
   injection h with h
   subst h
   obtain ⟨ad,m,c,hv⟩:=key (by simp[ho,Op.operands]) hx
   refine al.value (E':=E) (v:=.bool false) ?_ rfl (Keep.refl E) hm ⟨[_],rfl,⟨rfl,trivial⟩,fun _=>rfl⟩
   simp only[execOp,ho,hv,yM]
   simp[eqGuard,binOp,run_equal_slice_nil _ t et (some ad) m c (cB ht)]
  ·cases h
 ·rename_i t x t' ho
  split at h
  ·rename_i e l et hx ht
   injection h with h
   subst h
   obtain ⟨ad,m,c,hv⟩:=key (by simp[ho,Op.operands]) hx
   refine al.value (E':=E) (v:=.bool true) ?_ rfl (Keep.refl E) hm ⟨[_],rfl,⟨rfl,trivial⟩,fun _=>rfl⟩
   simp only[execOp,ho,hv,yM]
   simp[eqGuard,run_neq_slice_nil _ t et (some ad) m c (cB ht)]
  ·cases h
 ·cases h
theorem Bb {C:Ctx} (_:E.P=C.P) {get:Operand->Option SV} {bk:Nat->Option (List At)} {rk:Rk} {b:Nat} {r:Core} (h:xA C get bk rk b o=some r) (hp:fc r.p=true) (hg:fg E a get o) (hm:Mod N E a g)
  (hbk:∀i l,bk i=some l->g.h i=some l) (hb:bk b=none->g.h b=none) (hrk:fE o=false->∀i r,rk i=some r->g.r i=some r) (hrm:∀i ri,rk i=some (.some ri)->∃rj,g.r i=some (.some rj)/\rj.e=ri.e/\rj.n=ri.n) (hrb:rk b=none->g.r b=none):al C.P N g E a o r:=by
 unfold xA at h
 split at h
 case h_1 x ho =>
  unfold vj at h
  split at h
  ·rename_i s hs
   injection h with h;subst h
   exact tF (.inl ho) (hg x s (by rw[ho];simp[Op.operands]) hs) hm
  ·cases h
 case h_2 x ho =>
  unfold vj at h
  split at h
  ·rename_i s hs
   injection h with h;subst h
   exact tF (.inr ho) (hg x s (by rw[ho];simp[Op.operands]) hs) hm
  ·cases h
 case h_3 x ix ho =>
  unfold CO at h
  split at h
  ·rename_i l hl
   split at h
   ·rename_i c hc
    injection h with h;subst h
    exact CI ho (hg x _ (by rw[ho];simp[Op.operands]) hl) hc hm
   ·cases h
  ·cases h
 case h_4 t x ho =>
  unfold OI at h
  split at h
  ·rename_i i off hx
   split at h
   ·rename_i l hl
    split at h
    ·rename_i s hs
     injection h with h;subst h
     exact Eg ho (hg x _ (by rw[ho];simp[Op.operands]) hx) (hbk i l hl) hs hm
    ·cases h
   ·cases h
  ·rename_i sh d off hx
   split at h
   ·rename_i s hs
    injection h with h;subst h
    exact Hq ho (hg x _ (by rw[ho];simp[Op.operands]) hx) hs hm
   ·cases h
  ·rename_i b' off e n i d hx
   split at h
   ·rename_i l hl
    split at h
    ·rename_i xs hxs
     split at h
     ·rename_i s hs
      injection h with h;subst h
      exact Gu ho (hg x _ (by rw[ho];simp[Op.operands]) hx) (hbk _ l hl) hxs hs hm (Nat.blt_eq.mp hp)
     ·cases h
    ·cases h
   ·cases h
  ·rename_i q i sz off hx
   split at h
   ·rename_i ri hri
    split at h
    ·rename_i s hsz hs
     injection h with h;subst h
     have hsz:sz=ri.e.size:=by simpa using hsz
     subst hsz
     exact FW ho (hg x _ (by rw[ho];simp[Op.operands]) hx) (hrk (by simp[fE,ho]) q _ hri) hs hm (Nat.blt_eq.mp hp)
    ·cases h
   ·cases h
  ·cases h
 case h_5 t x y ho =>
  unfold H2 at h
  split at h
  ·rename_i i off ag l' hx hy
   split at h
   ·rename_i l n hl hn
    split at h
    ·rename_i h1 h2 h3
     injection h with h;subst h
     exact H7 ho (hg x _ (by rw[ho];simp[Op.operands]) hx) (hg y _ (by rw[ho];simp[Op.operands]) hy) (hbk i l hl) hn h1 h2 h3 hm
    ·cases h
   ·cases h
  ·rename_i b' off e n i d ag l' hx hy
   split at h
   ·rename_i l m hl hmz
    split at h
    ·rename_i xs h1 h2 h3 h4 hxs
     split at h
     ·rename_i z hz
      injection h with h;subst h
      exact Dc ho (hg x _ (by rw[ho];simp[Op.operands]) hx) (hg y _ (by rw[ho];simp[Op.operands]) hy) (hbk _ l hl) hmz h2 h3 h4 h1 hxs hz hm (Nat.blt_eq.mp hp)
     ·cases h
    ·cases h
   ·cases h
  ·rename_i q i sz off ag l' hx hy
   split at h
   ·rename_i ri n hri hn
    split at h
    ·rename_i z h1 h2 h3 h4 hz
     injection h with h;subst h
     have h4:sz=ri.e.size:=by simpa using h4
     subst h4
     exact Dk ho (hg x _ (by rw[ho];simp[Op.operands]) hx) (hg y _ (by rw[ho];simp[Op.operands]) hy) (hrk (by simp[fE,ho]) q _ hri) hn h1 h2 h3 hz hm (Nat.blt_eq.mp hp)
    ·cases h
   ·cases h
  ·cases h
 case h_6 t ho =>
  unfold Km at h
  split at h
  ·rename_i cs hz hbn
   injection h with h;subst h
   exact JV ho hz (hb hbn) hm
  ·cases h
 case h_7 t x ho =>
  unfold RZ at h
  split at h
  ·rename_i ag l hx hbn
   split at h
   ·rename_i hl
    injection h with h;subst h
    exact PZ ho (hg x _ (by rw[ho];simp[Op.operands]) hx) hl (hb hbn) hm
   ·cases h
  ·cases h
 case h_8 t x f ho =>
  unfold IA at h
  split at h
  ·rename_i i off d hx hd
   injection h with h;subst h
   exact Bf ho (hg x _ (by rw[ho];simp[Op.operands]) hx) hd hm
  ·rename_i sh y off d hx hd
   injection h with h;subst h
   exact Dr ho (hg x _ (by rw[ho];simp[Op.operands]) hx) hd hm
  ·rename_i q i sz off d hx hd
   injection h with h;subst h
   exact Dm ho (hg x _ (by rw[ho];simp[Op.operands]) hx) hd hm
  ·rename_i b' off e n i d0 d hx hd
   injection h with h;subst h
   exact DC ho (hg x _ (by rw[ho];simp[Op.operands]) hx) hd hm
  ·cases h
 case h_9 t x y ho =>
  split at h
  ·rename_i r' hr'
   injection h with h;subst h
   exact AX ho hr' hp hg hm
  unfold HK at h
  split at h
  ·rename_i e l k i et hx hy ht
   split at h
   ·rename_i n hn
    split at h
    ·rename_i hne
     injection h with h;subst h
     have hne:n=e.size:=by simpa using hne
     subst hne
     exact DR ho (hg x _ (by rw[ho];simp[Op.operands]) hx) (hg y _ (by rw[ho];simp[Op.operands]) hy) ht hn hm (ju.1 hp)
    ·cases h
   ·cases h
  ·rename_i q k i et hx hy ht
   split at h
   ·rename_i n ri hn hri
    split at h
    ·rename_i hne
     injection h with h;subst h
     have hne:n=ri.e.size:=by simpa using hne
     subst hne
     exact BK ho (hg x _ (by rw[ho];simp[Op.operands]) hx) (hg y _ (by rw[ho];simp[Op.operands]) hy) ht hn (hrm q _ hri) hm (ju.1 hp)
    ·cases h
   ·cases h
  ·cases h
 case h_10 t x lo hi ho =>
  split at h
  ·rename_i r' hr'
   injection h with h;subst h
   exact Gl ho hr' hp hg hm
  ·split at h
   ·exact NW ho h hp hg hm (hrk (by simp[fE,ho])) hrb
   ·exact Dj ho h hp hg hm (hrk (by simp[fE,ho]))
 case h_11 t n ps ho =>
  split at h
  ·rename_i r' hr'
   injection h with h;subst h
   exact Ee ho hr' hp hg hm (hrk (by simp[fE,ho]))
  rename_i hno
  clear hno
  unfold Fw at h
  split at h
  ·rename_i et hps hbn ht
   split at h
   ·rename_i e m he hz
    split at h
    ·rename_i hne
     injection h with h;subst h
     have hne:m=e.size:=by simpa using hne
     subst hne
     exact FSs ho (by rw[<-Array.toArray_toList (xs:=ps),hps]) ht hz (hrb hbn) hm
    ·cases h
   ·cases h
  exact yh ho h hg hm
 case h_12 t x y ho=>exact tX h hp hg hm fun r' hr' hp'=>DV ho hr' hp' hg hm
 case h_13 t x f ho=>exact tX h hp hg hm fun r' hr' hp'=>EC ho hr' hg hm
 case h_14 t ps ho=>exact tX h hp hg hm fun r' hr' hp'=>Ce ho hr' hg hm
 case h_15 t l c ho=>exact J9 ho h hp hg hm hrb
 case h_16=>exact EU h hg hm hp
 case h_17=>exact EU h hg hm hp
 case h_18=>exact zi h hg hm hp
 case h_19=>exact zi h hg hm hp
 case h_20=>exact Jh h hg hm
 case h_21=>exact Jh h hg hm
 case h_22=>exact Hy h hg hm
 case h_23 xs ts ho =>
  unfold S9 at h
  split at h
  ·rename_i x t hxs hts
   have hxs:xs=#[x]:=by rw[<-Array.toArray_toList (xs:=xs),hxs]
   subst hxs
   split at h
   ·rename_i e l et hx ht
    injection h with h;subst h
    exact IT ho hts ht (hg x _ (by rw[ho];simp[Op.operands,Call.operands]) hx) hm
   ·rename_i q et hx ht
    split at h
    ·rename_i ri hri
     injection h with h;subst h
     exact Gw ho hts ht (hg x _ (by rw[ho];simp[Op.operands,Call.operands]) hx) (hrm q _ hri) hm
    ·cases h
   ·exact pK h hg hm
  ·cases h
 case h_24 xs ts ho =>
  split at h
  ·rename_i r' hr'
   injection h with h;subst h
   exact B9 ho hr' hp hg hm hrb
  ·exact Df ho h hg hm (hrk (by simp[fE,ho])) hrb hp
 case h_25 xs ts ho=>exact IQ ho h hg hm (hrk (by simp[fE,ho])) hp
 case h_26=>exact pK h hg hm
theorem EQ {C:Ctx} {get:Operand->Option SV} {b t n:Nat} {ps:Array (Nat×Operand)} {ri:RowI} (ho:o.op=.buildSlice t n ps) (h:Oe C get t n ps=some ri) (hg:fg E a get o) (hm:Mod N E a g) (hb:g.r b=none) {p:List Bool}:al C.P N g E a o ⟨.c false [.row b],.row b ri none,p⟩:=by
 unfold Oe at h
 split at h
 ·rename_i et ht
  split at h
  ·rename_i e m z he hm' hz
   split at h
   ·rename_i l h1 h2 h3 hw
    injection h with h;subst h
    have h1:m=e.size:=by simpa using h1
    subst h1
    exact CB ho hg ht hm' hw (by simpa using h2) hz (by have:=Nat.le_of_ble_eq_true h3;omega) hm hb
   ·cases h
  ·cases h
 ·cases h
theorem L5 {C:Ctx} {get:Operand->Option SV} {rk:Rk} {b t n:Nat} {ps:Array (Nat×Operand)} {r:Core} (ho:o.op=.buildSlice t n ps) (h:Py C get rk b t n ps=some r) (hp:fc r.p=true) (hg:fg E a get o) (hm:Mod N E a g) (hrk:∀i r,rk i=some r->g.r i=some r) (hb:rk b=none->g.r b=none):al C.P N g E a o r:=by
 unfold Py at h
 split at h
 ·rename_i hps hbn
  split at h
  ·rename_i ri hri
   injection h with h;subst h
   exact EQ ho hri hg hm (hb hbn)
  ·cases h
 ·rename_i q hps hbn
  split at h
  ·rename_i rq ri hq hri
   split at h
   ·rename_i hqb
    injection h with h;subst h
    have hne:q≠b:=fun e=>by rw[e] at hqb;simp at hqb
    have hlv:=iq hp
    refine al.thaw2 (u:=[q]) (e1:=.row b ri none) (p:=[]) hm ?_ fun hmz=>EQ ho hri (fun x s hx hs=>?_) hmz ?_
    ·simp only[Look.app,Look.setR]
     congr 1
     funext i
     by_cases h1:i=b
     ·simp[h1]
     ·by_cases h2:i=q
      ·simp[h2,hne]
      ·simp[h1,h2]
    ·unfold MR at hs
     split at hs
     ·rename_i s' hs'
      injection hs with hs
      subst hs
      refine rb hm hrk hlv (hg x s' hx hs') fun r hr=>?_
      have hx':∃i,(i,x) ∈ ps:=by
       rw[ho] at hx
       simpa [Op.operands] using hx
      obtain ⟨i,hx'⟩:=hx'
      rw[<-hps]
      exact oU (p:=(i,x)) (by simpa using hx') hs' r hr
     ·cases hs
    ·simp only[Look.app,List.mem_singleton]
     rw[if_neg (Ne.symm hne)]
     exact hb hbn
   ·cases h
  ·cases h
 ·cases h
theorem Nk {P:Program} {get:Operand->Option SV} {x:Operand} {r:Core} (ho:o.op=.nilCheck x) (h:QH get x=some r) (hg:fg E a get o) (hm:Mod N E a g):al P N g E a o r:=by
 have hop:x ∈ o.op.operands:=by rw[ho];simp[Op.operands]
 unfold QH at h
 split at h
 ·rename_i b off hx
  injection h with h;subst h
  have hv:=hg x _ hop hx
  obtain ⟨cs,hv',hr,h1⟩:=hv
  match cs,hr with
  | [v],hr =>
  obtain ⟨⟨g1,g2⟩,_⟩:=hr
  refine al.value (E':=E) (v:=v) ?_ rfl (Keep.refl E) hm ⟨[v],rfl,⟨⟨g1,g2⟩,trivial⟩,fun _=>rfl⟩
  have hv2:a.eval x=.pointer (some ⟨E.β b,off,none⟩):=by rw[hv',g1];rfl
  simp[execOp,ho,hv2,g1,fJ]
 ·rename_i s d off hx
  injection h with h;subst h
  have hv:=hg x _ hop hx
  obtain ⟨cs,hv',hr,h1⟩:=hv
  match cs,hr with
  | [v],hr =>
  have hr1:=hr.1
  obtain ⟨ad,cs',g1,g2,g3,g4⟩:=hr1
  refine al.value (E':=E) (v:=v) ?_ rfl (Keep.refl E) hm ⟨[v],rfl,⟨hr.1,trivial⟩,fun _=>rfl⟩
  have hv2:a.eval x=.pointer (some (ad.add off)):=by rw[hv',g1];rfl
  simp[execOp,ho,hv2,g1]
 ·cases h
theorem yU {w:World} {Z:Nat->Prop}:∀{l:List (Sh.int .u8).T} {xs:List Value},aw w Z (.int .u8) l xs->xs=List.map (Value.int .u8) l
 | [],_,h=>h
 | x ::l,xs,⟨c,r,h1,h2,h3⟩=>by
  have h2:c=[.int .u8 x]:=h2
  rw[h1,h2,yU h3]
  rfl
theorem Hf {P:Program} {get:Operand->Option SV} {rk:Rk} {s d:TypeId} {x:Operand} {r:Core} (ho:o.op=.convert s d x) (h:Dp P get rk s d x=some r) (hg:fg E a get o) (hm:Mod N E a g) (hrk:∀i r,rk i=some r->g.r i=some r):al P N g E a o r:=by
 unfold Dp at h
 split at h
 ·rename_i et v ht hd hx
  split at h
  ·rename_i l hu hl
   injection h with h
   subst h
   obtain ⟨A,c,xs,hv,h1,h2,h3⟩:=Aw hm hrk hl (hg x v (by rw[ho];simp[Op.operands]) hx)
   have hxs:=yU h1
   have key:(convert s d (a.eval x)).run P E.w=.ok (.string (AR l)) E.w:=by
    rw[hv,run_convert_bytes_string E.w s d et A l.length c (cB ht) hu hd]
    cases A with
    | none =>
     have h0:l=[]:=h2 rfl
     subst h0
     rfl
    | some ad =>
     have hcell:=run_loadCells_list (P:=P) E.w ad xs (h3 ad rfl)
     have hlen:xs.length=l.length:=by rw[hxs,List.length_map]
     rw[hlen,hxs] at hcell
     exact run_bytesToString E.w ad l.length c l hcell
   refine al.value (E':=E) (v:=.string (AR l)) ?_ rfl (Keep.refl E) hm ⟨[_],rfl,⟨rfl,trivial⟩,fun _=>rfl⟩
   simp[execOp,ho,key]
  ·cases h
 ·cases h
theorem I3 {C:Ctx} {get:Operand->Option SV} {rk:Rk} {b:Nat} {r:Core} (h:HA C get rk b o=some r) (hp:fc r.p=true) (hg:fg E a get o) (hm:Mod N E a g) (hrk:fE o=false->∀i r,rk i=some r->g.r i=some r) (hrx:∀i x,rk i=some (.x x)->g.r i=some (.x x)) (hrb:rk b=none->g.r b=none):al C.P N g E a o r:=by
 unfold HA at h
 split at h
 ·rename_i t ho;exact Cd ho h hm hrb
 ·rename_i s d x ho;exact Hf ho h hg hm (hrk (by simp[fE,ho]))
 ·rename_i t m k x ho;exact wb (.inl ho) h hg hm hrx
 ·rename_i t m k x ho;exact wb (.inr ho) h hg hm hrx
 ·rename_i t m k ok ho;exact Ef ho h hg hm hrx
 ·rename_i x ts ho
  unfold or2 at h
  split at h
  ·rename_i r' hr
   injection h with h;subst h
   exact Jc ho hr hg hm hrx
  ·exact Jg ho h hp hg hm hrx
 ·rename_i xs ts ho
  unfold or2 at h
  split at h
  ·rename_i r' hr
   injection h with h;subst h
   exact B2 ho hr hp hg hm (hrk (by simp[fE,ho]))
  ·exact Da ho h hp hg hm hrx hrb
 ·rename_i t n ps ho
  split at h
  ·exact L5 ho h hp hg hm (hrk (by simp[fE,ho])) hrb
  ·exact DF ho h hg hm (hrk (by simp[fE,ho])) hrb
 ·rename_i t x y ho;exact Dy ho h hp hg hm hrx
 ·rename_i t x f ho;exact D7 ho h hg hm
 ·rename_i t x ho;exact Hg ho h hp hg hm hrx
 ·rename_i t x y ho
  unfold or2 at h
  split at h
  ·rename_i r' hr
   injection h with h;subst h
   exact DJ ho hr hp hg hm hrx
  ·exact EB ho h hp hg hm (hrk (by simp[fE,ho]))
 ·rename_i t l c ho;exact He ho h hp hg hm hrb
 ·cases h
theorem D2 {C:Ctx} (hC:C.ok) (hP:E.P=C.P) {get:Operand->Option SV} {bk:Nat->Option (List At)} {rk:Rk} {b:Nat} {r:Cor} (h:AD C get bk rk b o=some r) (hg:fg E a get o) (hm:Mod N E a g)
  (hbk:∀i l,bk i=some l->g.h i=some l) (hb:bk b=none->g.h b=none) (hrk:fE o=false->∀i r,rk i=some r->g.r i=some r) (hrm:∀i ri,rk i=some (.some ri)->∃rj,g.r i=some (.some rj)/\rj.e=ri.e/\rj.n=ri.n) (hrx:∀i x,rk i=some (.x x)->g.r i=some (.x x)) (hrb:rk b=none->g.r b=none):zo C.P N g E a o r:=by
 unfold AD at h
 split at h
 ·rename_i f xs ts ho
  unfold OL at h
  split at h
  ·rename_i r' hr
   injection h with h;subst h
   rw[<-hP]
   exact JP ho hr (ly hg) hm
  ·split at h
   ·rename_i r' hr'
    injection h with h;subst h
    unfold OC at hr'
    split at hr'
    ·rename_i fv hfv
     split at hr'
     ·rename_i id hid
      intro hp
      have hfe:=sO hid (ly hg f fv (by rw[ho];simp[Op.operands,Call.operands]) hfv)
      exact FP ho (by simpa using hfe) hr' hp (ly hg) hm
     ·cases hr'
    ·cases hr'
   ·exact HC hC hP ho h (ly hg) hm hbk (hrk (by simp[fE,ho])) hrb
 ·rename_i x ho
  unfold vj at h
  split at h
  ·rename_i s hs
   injection h with h;subst h
   exact fun _=>tF (.inl ho) (hg x s (by rw[ho];simp[Op.operands]) hs) hm
  ·cases h
 ·rename_i x ho
  unfold vj at h
  split at h
  ·rename_i s hs
   injection h with h;subst h
   exact fun _=>tF (.inr ho) (hg x s (by rw[ho];simp[Op.operands]) hs) hm
  ·cases h
 ·rename_i x ho
  unfold one? at h
  split at h
  ·rename_i r' hr
   injection h with h;subst h
   exact fun _=>Nk ho hr hg hm
  ·cases h
 ·split at h
  ·rename_i r' hr'
   injection h with h;subst h
   exact fun hp=>I3 hr' hp (ly hg) hm hrk hrx hrb
  split at h
  ·rename_i r' hr'
   injection h with h;subst h
   exact fun _=>GP hr' hg hm
  unfold one? at h
  split at h
  ·rename_i r' hr
   injection h with h;subst h
   exact fun hp=>Bb hP hr hp (ly hg) hm hbk hb hrk hrm hrb
  ·cases h
structure Plan where
 s:Option (Nat×SlotV)
 eff:Eff
def Look.plan (g:Look) (pl:Plan):Look:=match pl.s with
 | some (d,s)=>(g.app pl.eff).setS d (some s)
 | none=>g.app pl.eff
inductive Cond where
 | always
 | under (c:Bool)
 | bad
def xL (ops:Array Oper) (sl:Nat->Option SlotV):Option (Nat×Bool)->Cond
 | none=>.always
 | some (j,want)=>match (ops[j]?).bind (·.dst) with
  | some d=>match sl d with
   | some ⟨none,.c false [.v (.bool h)]⟩=>.under (bif want then h else !h)
   | some ⟨some c,.c false [.v (.bool h)]⟩=>.under (c&&(bif want then h else !h))
   | _=>.bad
  | none=>.bad
def Cond.implies (k:Cond) (c:Bool):Bool:=match k with
 | .always=>c
 | .under q=>!q||c
 | .bad=>false
def vD (sl:Nat->Option SlotV) (x:Operand):Option SV:=match x with
 | .tmp t=>match sl t with
  | some s=>some s.s
  | none=>none
 | .const v=>some (ofV v)
 | .func f=>some (.c false [.v (.func (.func f) #[] #[])])
 | .global _=>none
def ve (sl:Nat->Option SlotV) (x:Operand):Option Bool:=match x with
 | .tmp t=>match sl t with
  | some s=>s.c
  | none=>none
 | _=>none
def zg (k:Cond) (sl:Nat->Option SlotV):List Operand->List Bool
 | []=>[]
 | x ::r=>match ve sl x with
  | none=>zg k sl r
  | some c=>k.implies c ::zg k sl r
theorem nh (hm:Mod N E a g) {sl:Nat->Option SlotV} {x:Operand} (hsl:∀t,x=.tmp t->g.s t=sl t) {s:SV} (h:vD sl x=some s) (hc:∀c,ve sl x=some c->c=true):bL E s (a.eval x):=by
 cases x with
 | tmp t =>
  simp only[vD] at h
  split at h
  ·rename_i sv hsv
   injection h with h;subst h
   obtain ⟨v,hv,hr⟩:=hm.slots t sv (by rw[hsl t rfl];exact hsv)
   have he:a.eval (.tmp t)=v:=by simp[Act.eval,hv]
   rw[he]
   unfold gy at hr
   split at hr
   ·exact hr
   ·rename_i c hcc
    exact hr.1 (hc c (by simp only[ve,hsv];exact hcc))
  ·cases h
 | const v=>simp only[vD] at h;injection h with h;subst h;exact zN v
 | func f=>simp only[vD] at h;injection h with h;subst h;exact ⟨[_],rfl,⟨rfl,trivial⟩,fun _=>rfl⟩
 | global _=>cases h
theorem qN {k:Cond} {sl:Nat->Option SlotV}:∀{xs:List Operand},fc (zg k sl xs)=true->∀x ∈ xs,∀c,ve sl x=some c->k.implies c=true
 | y ::r,h,x,hx,c,hc=>by
  simp only[zg] at h
  rcases List.mem_cons.1 hx with rfl | hx
  ·rw[hc] at h;exact (eh h).1
  ·split at h
   ·exact qN h x hx c hc
   ·exact qN (eh h).2 x hx c hc
def HX (q:Bool):SV->SV->Option SV
 | .c false [.v (.bool x)],.c false [.v (.bool y)]=>some (.c false [.v (.bool (bif q then x else y))])
 | _,_=>none
def Lb (k:Cond) (sl:Nat->Option SlotV) (c x y:Operand):Option Core:=match vD sl c,vD sl x,vD sl y with
 | some (.c false [.v (.bool q)]),some s,some t=>match HX q s t with
  | some r=>some ⟨r,.none,zg k sl [c]++(match ve sl x with | none=>[] | some cx=>[!q||k.implies cx])++(match ve sl y with | none=>[] | some cy=>[q||k.implies cy])⟩
  | none=>none
 | _,_,_=>none
theorem JN {P:Program} (hm:Mod N E a g) {sl:Nat->Option SlotV} {c x y:Operand} (ho:o.op=.pick c x y) (hsl:∀t,(Operand.tmp t) ∈ o.op.operands->g.s t=sl t) {k:Cond} {r:Core} (h:Lb k sl c x y=some r)
  (hp:fc r.p=true) (hk:∀c,k.implies c=true->c=true):al P N g E a o r:=by
 unfold Lb at h
 split at h
 ·rename_i q s t hc hx hy
  split at h
  ·rename_i w hw
   injection h with h
   subst h
   obtain ⟨h12,h3⟩:=gG hp
   obtain ⟨h1,h2⟩:=gG h12
   have ec:a.eval c=.bool q:=dF rfl (nh hm (fun t e=>hsl t (by rw[ho,<-e];simp[Op.operands])) hc fun d hd=>hk d (qN h1 c (by simp) d hd))
   unfold HX at hw
   split at hw
   ·rename_i p1 p2
    injection hw with hw
    subst hw
    refine al.value (E':=E) (v:=.bool (bif q then p1 else p2)) ?_ rfl (Keep.refl E) hm ⟨[_],rfl,⟨rfl,trivial⟩,fun _=>rfl⟩
    cases q
    ·have e2:a.eval y=.bool p2:=dF rfl (nh hm (fun t e=>hsl t (by rw[ho,<-e];simp[Op.operands])) hy fun d hd=>hk d (by rw[hd] at h3;simpa [fc] using h3))
     simp[execOp,ho,ec,e2,asBool]
    ·have e1:a.eval x=.bool p1:=dF rfl (nh hm (fun t e=>hsl t (by rw[ho,<-e];simp[Op.operands])) hx fun d hd=>hk d (by rw[hd] at h2;simpa [fc] using h2))
     simp[execOp,ho,ec,e1,asBool]
   ·cases hw
  ·cases h
 ·cases h
def Bd (C:Ctx) (k:Cond) (sl:Nat->Option SlotV) (bk:Nat->Option (List At)) (rk:Rk) (b:Nat) (o:Oper):Option (List Bool×Cor):=match o.op with
 | .pick c x y=>match Lb k sl c x y with
  | some r=>some ([],.one r)
  | none=>none
 | _=>match AD C (vD sl) bk rk b o with
  | some r=>some (zg k sl o.op.operands.toList,r)
  | none=>none
def CX (N:Nat):Option Nat->Bool
 | none=>true
 | some d=>Nat.blt d N
inductive Stp where
 | one (p:List Bool) (pl:Plan)
 | call (p:List Bool) (T:Type) (m:Option T) (pl:T->Plan)
 | inl (p:List Bool) (id:FuncId) (args:List SV)
def tY (C:Ctx) (N:Nat) (ops:Array Oper) (sl:Nat->Option SlotV) (bk:Nat->Option (List At)) (rk:Rk) (b:Nat) (o:Oper):Option Stp:=match CX N o.dst with
 | false=>none
 | true=>match xL ops sl o.guard with
  | .bad=>none
  | .always=>match Bd C .always sl bk rk b o with
   | some (p,.one r)=>some (.one (p++r.p) ⟨o.dst.map fun d=>(d,⟨none,r.sv⟩),r.eff⟩)
   | some (p,.call T _ m sv eff _)=>some (.call p T m fun t=>⟨o.dst.map fun d=>(d,⟨none,sv t⟩),eff t⟩)
   | some (p,.inl id args)=>some (.inl p id args)
   | none=>none
  | .under c=>match Bd C (.under c) sl bk rk b o with
   | some (p,.one r)=>match FE r.eff with
    | true=>some (.one (p++r.p.map fun q=>!c||q) ⟨o.dst.map fun d=>(d,⟨some c,r.sv⟩),.none⟩)
    | false=>none
   | some (p,.call T d m sv _ pu)=>match pu with
    | true=>some (.call p T (bif c then m else some d) fun t=>⟨o.dst.map fun d=>(d,⟨some c,sv t⟩),.none⟩)
    | false=>none
   | _=>none
def yj (C:Ctx) (N:Nat) (ops:Array Oper) (sl:Nat->Option SlotV) (bk:Nat->Option (List At)) (rk:Rk) (b:Nat) (o:Oper) (pl:Plan):Prop :=
 ∃st,tY C N ops sl bk rk b o=some st/\match st with
  | .one p pl'=>fc p=true/\pl=pl'
  | .call p _ m f=>fc p=true/\∃t,m=some t/\pl=f t
  | .inl ..=>False
theorem pU {C:Ctx} (hC:C.ok) (hP:E.P=C.P) {k:Cond} {sl:Nat->Option SlotV} {bk:Nat->Option (List At)} {rk:Rk} {b:Nat} {r:Cor} {p:List Bool} (h:Bd C k sl bk rk b o=some (p,r)) (hp:fc p=true) (hm:Mod N E a g)
  (hsl:∀t,(Operand.tmp t) ∈ o.op.operands->g.s t=sl t) (hbk:∀i l,bk i=some l->g.h i=some l) (hb:bk b=none->g.h b=none) (hrk:fE o=false->∀i r,rk i=some r->g.r i=some r) (hrm:∀i ri,rk i=some (.some ri)->∃rj,g.r i=some (.some rj)/\rj.e=ri.e/\rj.n=ri.n) (hrx:∀i x,rk i=some (.x x)->g.r i=some (.x x)) (hrb:rk b=none->g.r b=none) (hk:∀c,k.implies c=true->c=true):zo C.P N g E a o r:=by
 unfold Bd at h
 split at h
 ·rename_i c x y ho
  split at h
  ·rename_i r' hr
   simp only[Option.some.injEq,Prod.mk.injEq] at h
   obtain ⟨rfl,rfl⟩:=h
   exact fun hp=>JN hm ho hsl hr hp hk
  ·cases h
 ·split at h
  ·rename_i r' hr
   simp only[Option.some.injEq,Prod.mk.injEq] at h
   obtain ⟨rfl,rfl⟩:=h
   exact D2 hC hP hr (fun x s hx hs=>nh hm (fun t e=>hsl t (by rw[<-e];exact hx)) hs fun c hc=>hk c (qN hp x (by simpa using hx) c hc)) hm hbk hb hrk hrm hrx hrb
  ·cases h
theorem Jl {ops:Array Oper} {t:Nat} (h:(Operand.tmp t) ∈ o.op.operands):t ∈ o.looksAt ops :=
 List.mem_append_left _ (List.mem_filterMap.2 ⟨.tmp t,by simpa using h,rfl⟩)
theorem Dt {ops:Array Oper} {j:Nat} {want:Bool} {d:Nat} (h:o.guard=some (j,want)) (hd:(ops[j]?).bind (·.dst)=some d):d ∈ o.looksAt ops:=by
 refine List.mem_append_right _ ?_
 simp[h,hd]
theorem yi (hm:Mod N E a g) {ops:Array Oper} {sl:Nat->Option SlotV} (hsl:∀t ∈ o.looksAt ops,g.s t=sl t) :
  match xL ops sl o.guard with
  | .always=>Region.wanted o (yielded ops a.tmps)=true
  | .under c=>Region.wanted o (yielded ops a.tmps)=c
  | .bad=>True:=by
 cases hg:o.guard with
 | none=>simp[xL,Region.wanted,hg]
 | some jw =>
  obtain ⟨j,want⟩:=jw
  simp only[xL]
  cases hd:(ops[j]?).bind (·.dst) with
  | none=>trivial
  | some d =>
   have hl:=hsl d (Dt hg hd)
   simp only
   split<;>rename_i hs
   ·split at hs<;>cases hs
   ·split at hs
    ·rename_i h hsd
     injection hs with hs
     subst hs
     obtain ⟨v,hv,hr⟩:=hm.slots d _ (hl.trans hsd)
     have hr':bL E (.c false [.v (.bool h)]) v:=hr
     have hv':v=.bool h:=dF rfl hr'
     subst hv'
     simp only[Region.wanted,hg,yielded,hd,Option.bind_some,hv]
     cases want<;>cases h<;>rfl
    ·rename_i c h hsd
     injection hs with hs
     subst hs
     obtain ⟨v,hv,hr⟩:=hm.slots d _ (hl.trans hsd)
     simp only[Region.wanted,hg,yielded,hd,Option.bind_some,hv]
     cases c with
     | true =>
      have hv':v=.bool h:=dF rfl (hr.1 rfl)
      subst hv'
      cases want<;>cases h<;>rfl
     | false =>
      have hv':=hr.2 rfl
      subst hv'
      simp[undef]
    ·cases hs
   ·trivial
theorem pC {E':Env} {v:Value} {c:Option Bool} {sv:SV} {eff:Eff} (hdst:CX N o.dst=true) (hm:Mod N E' a (g.app eff)) (hv:∀d,o.dst=some d->gy E' ⟨c,sv⟩ v) :
  Mod N E' (a.put o.dst v) (g.plan ⟨o.dst.map fun d=>(d,⟨c,sv⟩),eff⟩):=by
 cases hd:o.dst with
 | none=>exact hm
 | some d =>
  rw[hd] at hdst
  exact hm.put (by simp[CX,Nat.blt] at hdst;omega) (hv d hd)
theorem FB {C:Ctx} (hC:C.ok) (hP:E.P=C.P) {ops:Array Oper} {sl:Nat->Option SlotV} {bk:Nat->Option (List At)} {rk:Rk} {b:Nat} {pl:Plan} (h:yj C N ops sl bk rk b o pl) (hm:Mod N E a g)
  (hsl:∀t ∈ o.looksAt ops,g.s t=sl t) (hbk:∀i l,bk i=some l->g.h i=some l) (hb:bk b=none->g.h b=none) (hrk:fE o=false->∀i r,rk i=some r->g.r i=some r) (hrm:∀i ri,rk i=some (.some ri)->∃rj,g.r i=some (.some rj)/\rj.e=ri.e/\rj.n=ri.n) (hrx:∀i x,rk i=some (.x x)->g.r i=some (.x x)) (hrb:rk b=none->g.r b=none) {K:Act->World->Prop} {Q:Exit->Act->World->Prop} {X:Prop}
  (hK:∀E' a',eQ E E'->Keep E E'->Mod N E' a' (g.plan pl)->K a' E'.w) :
  if Region.wanted o (yielded ops a.tmps) then o.wp C.P a E.w K Q\/X else K (a.put o.dst undef) E.w:=by
 obtain ⟨st,h,hst⟩:=h
 unfold tY at h
 split at h
 ·cases h
 ·rename_i hdst
  have hgr:=yi hm hsl
  have hsl':∀t,(Operand.tmp t) ∈ o.op.operands->g.s t=sl t:=fun t ht=>hsl t (Jl ht)
  split at h
  ·cases h
  ·rename_i hgc
   rw[hgc] at hgr
   simp only at hgr
   rw[if_pos hgr]
   split at h
   ·rename_i p r hr
    injection h with h
    subst h
    obtain ⟨hp,rfl⟩:=hst
    obtain ⟨hp1,hp2⟩:=gG hp
    exact .inl (pU hC hP hr hp1 hm hsl' hbk hb hrk hrm hrx hrb (fun c hc=>hc) hp2 K Q fun E' v h0 hkp hm' hv=>hK E' _ h0 hkp (pC hdst hm' fun _ _=>hv))
   ·rename_i p T d m sv eff _ hr
    injection h with h
    subst h
    obtain ⟨hp,t,ht,rfl⟩:=hst
    exact .inl ((pU hC hP hr hp hm hsl' hbk hb hrk hrm hrx hrb (fun c hc=>hc)).2 t ht K Q fun E' v h0 hkp hm' hv=>hK E' _ h0 hkp (pC hdst hm' fun _ _=>hv))
   ·injection h with h
    subst h
    exact hst.elim
   ·cases h
  ·rename_i c hgc
   rw[hgc] at hgr
   simp only at hgr
   have skip:∀sv,c=false->Mod N E (a.put o.dst undef) (g.plan ⟨o.dst.map fun d=>(d,⟨some c,sv⟩),.none⟩):=fun sv hc=>pC (eff:=.none) hdst hm fun _ _=>(show gy E ⟨some c,sv⟩ undef from ⟨fun ht=>absurd ht (by rw[hc];decide),fun _=>rfl⟩)
   split at h
   ·rename_i p r hr
    split at h
    ·rename_i heff
     injection h with h
     subst h
     obtain ⟨hp,rfl⟩:=hst
     have he:r.eff=.none:=by
      cases hh:r.eff<;>rw[hh] at heff<;>first | rfl | cases heff
     by_cases hc:c=true
     ·rw[if_pos (by rw[hgr];exact hc)]
      obtain ⟨hp1,hp2'⟩:=gG hp
      have hp2:=Ct hp2' hc
      refine .inl (pU hC hP hr hp1 hm hsl' hbk hb hrk hrm hrx hrb (fun d hd=>by simpa [Cond.implies,hc] using hd) hp2 K Q fun E' v h0 hkp hm' hv=>?_)
      rw[he] at hm'
      exact hK E' _ h0 hkp (pC hdst hm' fun _ _=>(show gy E' ⟨some c,r.sv⟩ v from ⟨fun _=>hv,fun hf=>absurd hf (by rw[hc];decide)⟩))
     ·have hc:c=false:=by simpa using hc
      rw[if_neg (by rw[hgr,hc];simp)]
      exact hK E _ rfl (Keep.refl E) (skip r.sv hc)
    ·cases h
   ·rename_i p T d m sv eff pu hr
    split at h
    ·injection h with h
     subst h
     obtain ⟨hp,t,ht,rfl⟩:=hst
     by_cases hc:c=true
     ·rw[if_pos (by rw[hgr];exact hc)]
      rw[hc] at ht
      have hcc:=pU hC hP hr hp hm hsl' hbk hb hrk hrm hrx hrb (fun d hd=>by simpa [Cond.implies,hc] using hd)
      refine .inl (hcc.2 t ht K Q fun E' v h0 hkp hm' hv=>?_)
      simp only[hcc.1 rfl t] at hm'
      exact hK E' _ h0 hkp (pC hdst hm' fun _ _=>(show gy E' ⟨some c,sv t⟩ v from ⟨fun _=>hv,fun hf=>absurd hf (by rw[hc];decide)⟩))
     ·have hc:c=false:=by simpa using hc
      rw[if_neg (by rw[hgr,hc];simp)]
      exact hK E _ rfl (Keep.refl E) (skip (sv t) hc)
    ·cases h
   ·cases h
end
end Dn
end Go.Proofs.YtegbncajloeepaaGreat
