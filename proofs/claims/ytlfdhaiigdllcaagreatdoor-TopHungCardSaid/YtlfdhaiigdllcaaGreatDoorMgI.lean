/- A symbolic executor: one operation, with its guard; regions in the order of the text. -/
import Derived.Laws.BytesString
import Derived.Test.YtlfdhaiigdllcaaGreatDoorMgH

namespace Go.Proofs.YtlfdhaiigdllcaaGreatDoor
namespace Dn
open Go.RowKit
section
variable {N:Nat} {g:Look} {E:Env} {a:Act} {o:Oper}
def callF (get:Operand->Option SV) (f:Operand) (xs:Array Operand):Option Cor:=match get f with
 | some (.c false [.fn a r F])=>match gets get xs.toList with
  | some l=>match takes a l with
   | some (x,[])=>some (.call r.T r.dflt (F x) (retS (.one r)) (fun _=>.none) true)
   | _=>none
  | none=>none
 | _=>none
theorem callF_ok {get:Operand->Option SV} {f:Operand} {xs:Array Operand} {ts:Array TypeId} {r:Cor} (ho:o.op=.call { callee:=.value f,args:=xs,argTypes:=ts })
  (h:callF get f xs=some r) (hg:Gets E a get o) (hm:Mod N E a g):CorOk E.P N g E a o r:=by
 unfold callF at h
 split at h
 ·rename_i as rs F hf
  split at h
  ·rename_i l hl
   split at h
   ·rename_i x hx
    injection h with h
    subst h
    refine ⟨fun _ _=>rfl,?_⟩
    intro y hy
    obtain ⟨cs,hv,hr,_⟩:=hg f _ (by rw[ho];simp[Op.operands,Call.operands]) hf
    match cs,hr with
    | [z],hr =>
     obtain ⟨id,cap,hz,hcall,hfn⟩:=hr.1
     have hl':=gets_rel hl fun x hx s hs=>hg x s (by rw[ho];simp only[Op.operands,Call.operands];rw[Array.mem_append];right;exact Array.mem_toList_iff.1 hx) hs
     obtain ⟨vs1,vs2,e,h1,h2⟩:=takes_rel hx hl'
     match vs2,h2 with
     | [],_ =>
      rw[List.append_nil] at e
      refine call_ok (cap:=cap) ho (by rw[hv,hz];rfl) hcall hm ?_
      have:=hfn E.w E.Z x y vs1 ⟨hm.glob.below,fun _ _ _ h=>h⟩ (fun _ h=>h) hm.glob.zlt hy h1
      have e2:xs.map a.eval=vs1.toArray:=by rw[<-e];simp[<-Array.toList_map]
      rw[e2]
      exact this
   ·cases h
  ·cases h
 ·cases h
def callE (P:Program) (get:Operand->Option SV) (f:Operand) (xs:Array Operand):Option Core:=match get f with
 | some fv=>match fnOf fv with
  | some (id,[])=>carryC P get id xs
  | _=>none
 | none=>none
def callX (C:Ctx) (get:Operand->Option SV) (bk:Nat->Option (List At)) (rk:Rk) (b:Nat) (f:Operand) (xs:Array Operand):Option Cor:=match callF get f xs with
 | some r=>some r
 | none=>match callE C.P get f xs with
  | some r=>some (.one r)
  | none=>callC C get bk rk b f xs
def sameC (get:Operand->Option SV) (x:Operand):Option Core:=match get x with
 | some s=>some ⟨s,.none,[]⟩
 | none=>none
def extractC (get:Operand->Option SV) (x:Operand) (ix:Nat):Option Core:=match get x with
 | some (.tup l)=>match l[ix]? with
  | some c=>some ⟨.c c.1 c.2,.none,[]⟩
  | none=>none
 | _=>none
def loadC (P:Program) (get:Operand->Option SV) (bk:Nat->Option (List At)) (rk:Rk) (t:TypeId) (x:Operand):Option Core:=match get x with
 | some (.c false [.ptr i off])=>match bk i with
  | some l=>match partC P t l off with
   | some s=>some ⟨s,.none,[]⟩
   | none=>none
  | none=>none
 | some (.c false [.rf sh d off])=>match partC P t (Sh.cells sh d) off with
  | some s=>some ⟨s,.none,[]⟩
  | none=>none
 | some (.c false [.ae b off e n i d])=>match bk b with
  | some l=>match els e n (l.drop off) with
   | some xs=>match partC P t (e.cells (xs.getD i e.dflt)) d with
    | some s=>some ⟨s,.none,[Nat.blt i n]⟩
    | none=>none
   | none=>none
  | none=>none
 | some (.c false [.re r i sz off])=>match rk r with
  | some (.some ri)=>match Nat.beq sz ri.e.size,partC P t (ri.e.cells (ri.l.getD i ri.e.dflt)) off with
   | true,some s=>some ⟨s,.none,[Nat.blt i ri.n]⟩
   | _,_=>none
  | _=>none
 | _=>none
def storeC (P:Program) (get:Operand->Option SV) (bk:Nat->Option (List At)) (rk:Rk) (t:TypeId) (x y:Operand):Option Core:=match get x,get y with
 | some (.c false [.ptr i off]),some (.c _ l')=>match bk i,sizeT P t with
  | some l,some n=>match l'.all at1,Nat.beq l'.length n,Nat.ble (off+n) l.length with
   | true,true,true=>some ⟨.c false [.u],.store i (l.take off++l'++l.drop (off+l'.length)),[]⟩
   | _,_,_=>none
  | _,_=>none
 | some (.c false [.ae b off e n i d]),some (.c _ l')=>match bk b,sizeT P t with
  | some l,some m=>match els e n ((l.drop off).take (n*e.size)),l'.all at1,Nat.beq l'.length m,Nat.ble (d+m) e.size,Nat.ble (off+n*e.size) l.length with
   | some xs,true,true,true,true=>match e.take ((e.cells (xs.getD i e.dflt)).take d++l'++(e.cells (xs.getD i e.dflt)).drop (d+l'.length)) with
    | some (z,[])=>some ⟨.c false [.u],.store b (l.take off++cellsE e (setAt xs 0 i z)++l.drop (off+n*e.size)),[Nat.blt i n]⟩
    | _=>none
   | _,_,_,_,_=>none
  | _,_=>none
 | some (.c false [.re r i sz off]),some (.c _ l')=>match rk r,sizeT P t with
  | some (.some ri),some n=>match l'.all at1,Nat.beq l'.length n,Nat.ble (off+n) ri.e.size,Nat.beq sz ri.e.size,ri.e.take ((ri.e.cells (ri.l.getD i ri.e.dflt)).take off++l'++(ri.e.cells (ri.l.getD i ri.e.dflt)).drop (off+l'.length)) with
   | true,true,true,true,some (z,[])=>some ⟨.c false [.u],.rset r ri.e (ri.l.set i z),[Nat.blt i ri.n]⟩
   | _,_,_,_,_=>none
  | _,_=>none
 | _,_=>none
def allocC (P:Program) (bk:Nat->Option (List At)) (b:Nat) (t:TypeId):Option Core:=match zeroT P t,bk b with
 | some cs,none=>some ⟨.c false [.ptr b 0],.alloc b (cs.map .v),[]⟩
 | _,_=>none
def boxC (get:Operand->Option SV) (bk:Nat->Option (List At)) (b:Nat) (x:Operand):Option Core:=match get x,bk b with
 | some (.c _ l),none=>match l.all at1 with
  | true=>some ⟨.c false [.ptr b 0],.alloc b l,[]⟩
  | false=>none
 | _,_=>none
def fieldC (P:Program) (get:Operand->Option SV) (t:TypeId) (x:Operand) (f:Nat):Option Core:=match get x,fieldT P t f with
 | some (.c false [.ptr i off]),some d=>some ⟨.c false [.ptr i (off+d)],.none,[]⟩
 | some (.c false [.rf sh y off]),some d=>some ⟨.c false [.rf sh y (off+d)],.none,[]⟩
 | some (.c false [.re r i sz off]),some d=>some ⟨.c false [.re r i sz (off+d)],.none,[]⟩
 | some (.c false [.ae b off e n i d0]),some d=>some ⟨.c false [.ae b off e n i (d0+d)],.none,[]⟩
 | _,_=>none
def indexC (P:Program) (get:Operand->Option SV) (rk:Rk) (t:TypeId) (x y:Operand):Option Core:=match get x,get y,elemT P t with
 | some (.c false [.sl e l]),some (.c false [.v (.int _ i)]),some et=>match sizeT P et with
  | some n=>match Nat.beq n e.size with
   | true=>some ⟨.c false [.rf e (l.getD i.toNat e.dflt) 0],.none,[inB i l.length]⟩
   | false=>none
  | none=>none
 | some (.c false [.row r]),some (.c false [.v (.int _ i)]),some et=>match sizeT P et,rk r with
  | some n,some (.some ri)=>match Nat.beq n ri.e.size with
   | true=>some ⟨.c false [.re r i.toNat ri.e.size 0],.none,[inB i ri.n]⟩
   | false=>none
  | _,_=>none
 | _,_,_=>none
def indexArrC (C:Ctx) (get:Operand->Option SV) (t:TypeId) (x y:Operand):Option Core:=match arrT C.P t,get x,get y with
 | some (n,et),some (.c false [.ptr b off]),some (.c false [.v (.int _ i)])=>match C.sh et,sizeT C.P et with
  | some e,some m=>match Nat.beq m e.size with
   | true=>some ⟨.c false [.ae b off e n i.toNat 0],.none,[inB i n]⟩
   | false=>none
  | _,_=>none
 | some (n,et),some (.c false [.rf s d off]),some (.c false [.v (.int _ i)])=>match C.sh et,sizeT C.P et with
  | some e,some m=>match Nat.beq m e.size,els e n ((s.cells d).drop off) with
   | true,some xs=>some ⟨.c false [.rf e (xs.getD i.toNat e.dflt) 0],.none,[inB i n]⟩
   | _,_=>none
  | _,_=>none
 | some (n,et),some (.c false [.re r q sz off]),some (.c false [.v (.int _ i)])=>match sizeT C.P et with
  | some m=>some ⟨.c false [.re r q sz (off+i.toNat*m)],.none,[inB i n]⟩
  | none=>none
 | _,_,_=>none
def sliceC (P:Program) (get:Operand->Option SV) (t:TypeId) (x:Operand) (lo hi:Option Operand):Option Core:=match get x with
 | some (.c false [.sl e l])=>match elemT P t,bndC get 0 lo,bndC get l.length hi with
  | some et,some i,some j=>match sizeT P et with
   | some m=>match Nat.beq m e.size with
    | true=>some ⟨.c false [.sl e ((l.take j.toNat).drop i.toNat)],.none,[slB i j l.length]⟩
    | false=>none
   | none=>none
  | _,_,_=>none
 | some (.c false [.v (.string s)])=>match P.underlying t,bndC get 0 lo,bndC get s.size hi with
  | some .string,some i,some j=>some ⟨.c false [.v (.string (s.extract i.toNat j.toNat))],.none,[slB i j s.size]⟩
  | _,_,_=>none
 | _=>none
def unsn:SV->SV
 | .c false [.sn e l]=>.c false [.sl e l]
 | s=>s
def getU (get:Operand->Option SV) (x:Operand):Option SV:=match get x with
 | some s=>some (unsn s)
 | none=>none
theorem unsn_rel {s:SV} {v:Value} (h:RelV E s v):RelV E (unsn s) v:=by
 unfold unsn
 split
 ·obtain ⟨cs,h1,h2,h3⟩:=h
  match cs,h2 with
  | [z],h2=>exact ⟨[z],h1,⟨h2.1.2,trivial⟩,h3⟩
 ·exact h
theorem getU_gets {get:Operand->Option SV} (hg:Gets E a get o):Gets E a (getU get) o:=fun x s hx h=>by
 unfold getU at h
 split at h
 ·rename_i s' hs
  injection h with h
  subst h
  exact unsn_rel (hg x s' hx hs)
 ·cases h
def eqNilC (P:Program) (get:Operand->Option SV) (o:Oper):Option Core:=match o.op with
 | .binOp .eql t x (.const (.slice none 0 0)) _=>match get x,elemT P t with
  | some (.c false [.sn _ _]),some _=>some ⟨.c false [.v (.bool false)],.none,[]⟩
  | _,_=>none
 | .binOp .neq t x (.const (.slice none 0 0)) _=>match get x,elemT P t with
  | some (.c false [.sn _ _]),some _=>some ⟨.c false [.v (.bool true)],.none,[]⟩
  | _,_=>none
 | _=>none
def buildC (C:Ctx) (get:Operand->Option SV) (t:TypeId) (n:Nat) (ps:Array (Nat×Operand)):Option Core:=match elemT C.P t with
 | some et=>match C.sh et,sizeT C.P et,zeroT C.P et with
  | some e,some m,some _=>match Nat.beq m e.size,Nat.beq ps.size n,Nat.ble (n*e.size) 16777216,wholes e get 0 ps.toList with
   | true,true,true,some l=>some ⟨.c false [.sl e l],.none,[]⟩
   | _,_,_,_=>none
  | _,_,_=>none
 | none=>none
def build0C (C:Ctx) (get:Operand->Option SV) (rk:Rk) (b:Nat) (t:TypeId) (n:Nat) (ps:Array (Nat×Operand)):Option Core:=match n,ps.toList,rk b,elemT C.P t with
 | 0,[],none,some et=>match C.sh et,sizeT C.P et with
  | some e,some m=>match Nat.beq m e.size with
   | true=>some ⟨.c false [.row b],.row b ⟨et,e,0,[]⟩ none,[]⟩
   | false=>none
  | _,_=>none
 | _,_,_,_=>buildC C get t n ps
def getW (rk:Rk) (get:Operand->Option SV) (x:Operand):Option SV:=match get x with
 | some s=>some (thawS rk s)
 | none=>none
def rowsPs (get:Operand->Option SV):List (Nat×Operand)->List Nat
 | []=>[]
 | p ::r=>match get p.2 with
  | some s=>rowsS s++rowsPs get r
  | none=>rowsPs get r
def buildTC (C:Ctx) (get:Operand->Option SV) (rk:Rk) (t:TypeId) (n:Nat) (ps:Array (Nat×Operand)):Option Core:=match rowsPs get ps.toList with
 | []=>none
 | q ::u=>match buildC C (getW rk get) t n ps with
  | some ⟨sv,.none,p⟩=>some ⟨sv,.rkill (q ::u),liveR rk (q ::u)++p⟩
  | _=>none
def indexVC (C:Ctx) (get:Operand->Option SV) (t:TypeId) (x y:Operand):Option Core:=match get x,get y with
 | some (.c false [.v (.string s)]),some (.c false [.v (.int _ i)])=>match C.P.underlying t with
  | some .string=>some ⟨.c false [.v (.int .u8 (byteAt s i.toNat))],.none,[inB i s.size]⟩
  | _=>none
 | some (.c true l),some (.c false [.v (.int _ i)])=>match arrT C.P t with
  | some (n,et)=>match C.sh et with
   | some e=>match aggT C.P et,sizeT C.P et,els e n l with
    | some ag,some m,some xs=>match ag ==e.isAgg,Nat.beq m e.size,e.isAgg||Nat.beq e.size 1 with
     | true,true,true=>some ⟨.c e.isAgg (e.cells (xs.getD i.toNat e.dflt)),.none,[inB i n]⟩
     | _,_,_=>none
    | _,_,_=>none
   | none=>none
  | none=>none
 | _,_=>none
def fieldVC (P:Program) (get:Operand->Option SV) (t:TypeId) (x:Operand) (f:Nat):Option Core:=match get x,fieldTy P t f with
 | some (.c true l),some (ft,off)=>match partC P ft l off with
  | some s=>some ⟨s,.none,[]⟩
  | none=>none
 | _,_=>none
def orPure (P:Program) (get:Operand->Option SV) (o:Oper):Option Core->Option Core
 | some r=>some r
 | none=>pureC P get o
def lenC (P:Program) (get:Operand->Option SV) (rk:Rk) (xs:Array Operand) (ts:Array TypeId) (o:Oper):Option Core:=match xs.toList,ts[0]? with
 | [x],some t=>match get x,elemT P t with
  | some (.c false [.sl _ l]),some _=>some ⟨.c false [.v (.int .i64 l.length)],.none,[]⟩
  | some (.c false [.row r]),some _=>match rk r with
   | some (.some ri)=>some ⟨.c false [.v (.int .i64 ri.n)],.none,[]⟩
   | _=>none
  | _,_=>pureC P get o
 | _,_=>none
def metaOp (o:Oper):Bool:=match o.op with
 | .indexAddr ..=>true
 | .move _=>true
 | .assign _=>true
 | .extract ..=>true
 | .call ⟨.builtin .len,_,_⟩=>true
 | _=>false
def one?:Option Core->Option Cor
 | some r=>some (.one r)
 | none=>none
def evalCore (C:Ctx) (get:Operand->Option SV) (bk:Nat->Option (List At)) (rk:Rk) (b:Nat) (o:Oper):Option Core:=match o.op with
 | .move x=>sameC get x
 | .assign x=>sameC get x
 | .extract x ix=>extractC get x ix
 | .load t x=>loadC C.P get bk rk t x
 | .store t x y=>storeC C.P get bk rk t x y
 | .alloc t=>allocC C.P bk b t
 | .box _ x=>boxC get bk b x
 | .fieldAddr t x f=>fieldC C.P get t x f
 | .indexAddr t x y=>match indexArrC C get t x y with
  | some r=>some r
  | none=>indexC C.P get rk t x y
 | .slice t x lo hi none=>match sliceC C.P get t x lo hi with
  | some r=>some r
  | none=>match lo,isCut o.pos with
   | none,true=>cutC C.P get rk b t x hi
   | _,_=>sliceRC C.P get rk t x lo hi
 | .buildSlice t n ps=>match buildTC C get rk t n ps with
  | some r=>some r
  | none=>build0C C get rk b t n ps
 | .index t x y=>orPure C.P get o (indexVC C get t x y)
 | .field t x f=>orPure C.P get o (fieldVC C.P get t x f)
 | .build t ps=>orPure C.P get o (buildStC C.P get t ps)
 | .makeSlice t l c=>makeC C.sh C.P get rk b t l c
 | .binOp .quo _ _ _ _=>divC get o
 | .binOp .rem _ _ _ _=>divC get o
 | .binOp .shl _ _ _ _=>shiftC get o
 | .binOp .shr _ _ _ _=>shiftC get o
 | .binOp .eql _ _ _ _=>eqC C.P get o
 | .binOp .neq _ _ _ _=>eqC C.P get o
 | .makeFunc _ _ _=>funcC get o
 | .call ⟨.builtin .len,xs,ts⟩=>lenC C.P get rk xs ts o
 | .call ⟨.builtin .append,xs,ts⟩=>match appendZC C.sh C.P get rk b xs ts with
  | some r=>some r
  | none=>appendC C.P C.sh get rk b xs ts
 | .call ⟨.builtin .copy,xs,ts⟩=>copyC C.P get rk xs ts
 | _=>pureC C.P get o
def litP (C:Ctx) (get:Operand->Option SV) (t:TypeId) (n:Nat) (ps:Array (Nat×Operand)):Option RowI:=match elemT C.P t with
 | some et=>match C.sh et,sizeT C.P et,zeroT C.P et with
  | some e,some m,some _=>match Nat.beq m e.size,Nat.beq ps.size n,Nat.ble (n*e.size) 16777216,wholes e get 0 ps.toList with
   | true,true,true,some l=>some ⟨et,e,l.length,l⟩
   | _,_,_,_=>none
  | _,_,_=>none
 | none=>none
def litC (C:Ctx) (get:Operand->Option SV) (rk:Rk) (b:Nat) (t:TypeId) (n:Nat) (ps:Array (Nat×Operand)):Option Core:=match rowsPs get ps.toList,rk b with
 | [],none=>match litP C get t n ps with
  | some ri=>some ⟨.c false [.row b],.row b ri none,[]⟩
  | none=>none
 | [q],none=>match rk q,litP C (getW rk get) t n ps with
  | some (.some _),some ri=>match Nat.beq q b with
   | false=>some ⟨.c false [.row b],.row b ri (some q),liveR rk [q]⟩
   | true=>none
  | _,_=>none
 | _,_=>none
def or2 (a b:Option Core):Option Core:=match a with
 | some r=>some r
 | none=>b
def bytesOf (l:List Int):ByteArray:=l.foldl (fun r n=>r.push (UInt8.ofNat n.toNat)) ByteArray.empty
def bytesC (P:Program) (get:Operand->Option SV) (rk:Rk) (s d:TypeId) (x:Operand):Option Core:=match elemT P s,P.underlying d,get x with
 | some et,some .string,some v=>match P.underlying et,srcOf rk (.int .u8) v with
  | some (.int .u8),some l=>some ⟨.c false [.v (.string (bytesOf l))],.none,[]⟩
  | _,_=>none
 | _,_,_=>none
def evalX (C:Ctx) (get:Operand->Option SV) (rk:Rk) (b:Nat) (o:Oper):Option Core:=match o.op with
 | .makeMap t none=>makeMapC C.sh C.P rk b t
 | .convert s d x=>bytesC C.P get rk s d x
 | .mapUpdate t m k x=>mapUpdC C.P get rk t m k x
 | .insert t m k x=>mapUpdC C.P get rk t m k x
 | .lookup t m k ok=>lookupC C.P get rk t m k ok
 | .call ⟨.builtin .len,⟨[x]⟩,ts⟩=>or2 (lenXC C.P get rk x ts) (lenTC C.P get rk x ts)
 | .call ⟨.builtin .append,xs,ts⟩=>or2 (appendIC C.P get rk xs ts) (appendXC C.P get rk b xs ts)
 | .buildSlice t n ps=>match C.lit o.pos with
  | true=>litC C get rk b t n ps
  | false=>buildXC (fun t=>(C.tb t).isSome) C.P get rk b t n ps
 | .indexAddr t x y=>indexTC C.P get rk t x y
 | .fieldAddr t x f=>fieldTC C.P get t x f
 | .load t x=>loadTC C.P get rk t x
 | .store t x y=>or2 (storeIC C.P get rk t x y) (storeTC C.P get rk t x y)
 | .makeSlice t l c=>makeXC C.tb C.P get rk b t l c
 | _=>none
def nilC (get:Operand->Option SV) (x:Operand):Option Core:=match get x with
 | some (.c false [.ptr b off])=>some ⟨.c false [.ptr b off],.none,[]⟩
 | some (.c false [.rf s d off])=>some ⟨.c false [.rf s d off],.none,[]⟩
 | some (.c false [.re r i sz off])=>some ⟨.c false [.re r i sz off],.none,[]⟩
 | _=>none
def evalCor (C:Ctx) (get:Operand->Option SV) (bk:Nat->Option (List At)) (rk:Rk) (b:Nat) (o:Oper):Option Cor:=match o.op with
 | .call ⟨.value f,xs,_⟩=>callX C (getU get) bk rk b f xs
 | .move x=>one? (sameC get x)
 | .assign x=>one? (sameC get x)
 | .nilCheck x=>one? (nilC get x)
 | _=>match evalX C (getU get) rk b o with
  | some r=>some (.one r)
  | none=>match eqNilC C.P get o with
   | some r=>some (.one r)
   | none=>one? (evalCore C (getU get) bk rk b o)
theorem indexArrC_ok {C:Ctx} {get:Operand->Option SV} {t:TypeId} {x y:Operand} {r:Core} (ho:o.op=.indexAddr t x y) (h:indexArrC C get t x y=some r) (hp:allB r.p=true) (hg:Gets E a get o) (hm:Mod N E a g):CoreOk C.P N g E a o r:=by
 unfold indexArrC at h
 split at h
 ·rename_i n et b off k i ht hx hy
  split at h
  ·rename_i e m he hz
   split at h
   ·rename_i hne
    injection h with h;subst h
    have hne:m=e.size:=by simpa using hne
    subst hne
    exact indexPtr_ok ho (hg x _ (by rw[ho];simp[Op.operands]) hx) (hg y _ (by rw[ho];simp[Op.operands]) hy) ht hz hm (inB_iff.1 hp)
   ·cases h
  ·cases h
 ·rename_i n et s d off k i ht hx hy
  split at h
  ·rename_i e m he hz
   split at h
   ·rename_i xs hne hxs
    injection h with h;subst h
    have hne:m=e.size:=by simpa using hne
    subst hne
    exact indexRf_ok ho (hg x _ (by rw[ho];simp[Op.operands]) hx) (hg y _ (by rw[ho];simp[Op.operands]) hy) ht hz hxs hm (inB_iff.1 hp)
   ·cases h
  ·cases h
 ·rename_i n et r q sz off k i ht hx hy
  split at h
  ·rename_i m hz
   injection h with h;subst h
   exact indexReA_ok ho (hg x _ (by rw[ho];simp[Op.operands]) hx) (hg y _ (by rw[ho];simp[Op.operands]) hy) ht hz hm (inB_iff.1 hp)
  ·cases h
 ·cases h
theorem sliceC_ok {P:Program} {get:Operand->Option SV} {t:TypeId} {x:Operand} {lo hi:Option Operand} {r:Core} (ho:o.op=.slice t x lo hi none) (h:sliceC P get t x lo hi=some r) (hp:allB r.p=true) (hg:Gets E a get o) (hm:Mod N E a g):CoreOk P N g E a o r:=by
 unfold sliceC at h
 split at h
 ·rename_i e l hx
  split at h
  ·rename_i et i j ht hi' hj
   split at h
   ·rename_i m hz
    split at h
    ·rename_i hne
     injection h with h;subst h
     have hne:m=e.size:=by simpa using hne
     subst hne
     exact sliceSl_ok ho hg (hg x _ (by rw[ho];simp[Op.operands]) hx) ht hz hi' hj hm (slB_iff.1 hp)
    ·cases h
   ·cases h
  ·cases h
 ·rename_i s hx
  split at h
  ·rename_i i j ht hi' hj
   injection h with h;subst h
   exact sliceStr_ok ho hg (hg x _ (by rw[ho];simp[Op.operands]) hx) ht hi' hj hm (slB_iff.1 hp)
  ·cases h
 ·cases h
theorem orPure_ok {P:Program} {get:Operand->Option SV} {r:Core} {q:Option Core} (h:orPure P get o q=some r) (hp:allB r.p=true) (hg:Gets E a get o) (hm:Mod N E a g) (hq:∀r',q=some r'->allB r'.p=true->CoreOk P N g E a o r'):CoreOk P N g E a o r:=by
 unfold orPure at h
 split at h
 ·injection h with h
  subst h
  exact hq _ rfl hp
 ·exact pureC_ok h hg hm
theorem indexVC_ok {C:Ctx} {get:Operand->Option SV} {t:TypeId} {x y:Operand} {r:Core} (ho:o.op=.index t x y) (h:indexVC C get t x y=some r) (hp:allB r.p=true) (hg:Gets E a get o) (hm:Mod N E a g):CoreOk C.P N g E a o r:=by
 unfold indexVC at h
 split at h
 ·rename_i s k i hx hy
  split at h
  ·rename_i ht
   injection h with h;subst h
   exact indexStr_ok ho (hg x _ (by rw[ho];simp[Op.operands]) hx) (hg y _ (by rw[ho];simp[Op.operands]) hy) ht hm (inB_iff.1 hp)
  ·cases h
 ·rename_i l k i hx hy
  split at h
  ·rename_i n et ht
   split at h
   ·rename_i e he
    split at h
    ·rename_i ag m xs ha hz hxs
     split at h
     ·rename_i h1 h2 h3
      injection h with h;subst h
      have h1:ag=e.isAgg:=by simpa using h1
      have h2:m=e.size:=by simpa using h2
      subst h1;subst h2
      exact indexAgg_ok ho (hg x _ (by rw[ho];simp[Op.operands]) hx) (hg y _ (by rw[ho];simp[Op.operands]) hy) ht ha hz h3 hxs hm (inB_iff.1 hp)
     ·cases h
    ·cases h
   ·cases h
  ·cases h
 ·cases h
theorem fieldVC_ok {P:Program} {get:Operand->Option SV} {t:TypeId} {x:Operand} {f:Nat} {r:Core} (ho:o.op=.field t x f) (h:fieldVC P get t x f=some r) (hg:Gets E a get o) (hm:Mod N E a g):CoreOk P N g E a o r:=by
 unfold fieldVC at h
 split at h
 ·rename_i l ft off hx hf
  split at h
  ·rename_i s hs
   injection h with h;subst h
   exact fieldV_ok ho (hg x _ (by rw[ho];simp[Op.operands]) hx) hf hs hm
  ·cases h
 ·cases h
theorem buildC_ok {C:Ctx} {get:Operand->Option SV} {t n:Nat} {ps:Array (Nat×Operand)} {r:Core} (ho:o.op=.buildSlice t n ps) (h:buildC C get t n ps=some r) (hg:Gets E a get o) (hm:Mod N E a g):CoreOk C.P N g E a o r:=by
 unfold buildC at h
 split at h
 ·rename_i et ht
  split at h
  ·rename_i e m z he hm' hz
   split at h
   ·rename_i l h1 h2 h3 hw
    injection h with h;subst h
    have h1:m=e.size:=by simpa using h1
    subst h1
    exact build_ok ho hg ht hm' hw (by simpa using h2) hz (by have:=Nat.le_of_ble_eq_true h3;omega) hm
   ·cases h
  ·cases h
 ·cases h
theorem rowsPs_mem {get:Operand->Option SV}:∀{ps:List (Nat×Operand)} {p:Nat×Operand} {s:SV},p ∈ ps->get p.2=some s->∀r ∈ rowsS s,r ∈ rowsPs get ps
 | q ::l,p,s,hp,hs,r,hr=>by
  simp only[rowsPs]
  rcases List.mem_cons.1 hp with rfl | hp
  ·rw[hs];exact List.mem_append_left _ hr
  ·split
   ·exact List.mem_append_right _ (rowsPs_mem hp hs r hr)
   ·exact rowsPs_mem hp hs r hr
theorem buildTC_ok {C:Ctx} {get:Operand->Option SV} {rk:Rk} {t n:Nat} {ps:Array (Nat×Operand)} {r:Core} (ho:o.op=.buildSlice t n ps) (h:buildTC C get rk t n ps=some r) (hp:allB r.p=true) (hg:Gets E a get o) (hm:Mod N E a g) (hrk:∀i r,rk i=some r->g.r i=some r):CoreOk C.P N g E a o r:=by
 unfold buildTC at h
 split at h
 ·cases h
 ·rename_i q u hu
  split at h
  ·rename_i sv p hb
   injection h with h;subst h
   have hlv:=liveR_ok (allB_append hp).1
   refine (show CoreOk C.P N g E a o ⟨sv,.rkill (q ::u),p⟩ from CoreOk.thaw hm fun hmz=>buildC_ok ho hb (fun x s hx hs=>?_) hmz)
   unfold getW at hs
   split at hs
   ·rename_i s' hs'
    injection hs with hs
    subst hs
    refine thawS_rel hm hrk hlv (hg x s' hx hs') fun r hr=>?_
    have hx':∃i,(i,x) ∈ ps:=by
     rw[ho] at hx
     simpa [Op.operands] using hx
    obtain ⟨i,hx'⟩:=hx'
    rw[<-hu]
    exact rowsPs_mem (p:=(i,x)) (by simpa using hx') hs' r hr
   ·cases hs
  ·cases h
theorem evalConst (a:Act) (v:Value):a.eval (.const v)=v:=rfl
theorem eqNilC_ok {P:Program} {get:Operand->Option SV} {r:Core} (h:eqNilC P get o=some r) (hg:Gets E a get o) (hm:Mod N E a g):CoreOk P N g E a o r:=by
 have key:∀{x:Operand} {e:Sh} {l:List e.T},x ∈ o.op.operands->get x=some (.c false [.sn e l])->∃ad m c,a.eval x=.slice (some ad) m c:=fun hx hs=>by
  obtain ⟨cs,hv,hr,_⟩:=hg _ _ hx hs
  match cs,hr with
  | [z],hr =>
   obtain ⟨⟨ad,m,c,hz⟩,_⟩:=hr.1
   exact ⟨ad,m,c,by rw[hv,hz];rfl⟩
 unfold eqNilC at h
 split at h
 ·rename_i t x t' ho
  split at h
  ·rename_i e l et hx ht
   injection h with h
   subst h
   obtain ⟨ad,m,c,hv⟩:=key (by simp[ho,Op.operands]) hx
   refine CoreOk.value (E':=E) (v:=.bool false) ?_ rfl (Keep.refl E) hm ⟨[_],rfl,⟨rfl,trivial⟩,fun _=>rfl⟩
   simp only[execOp,ho,hv,evalConst]
   simp[eqGuard,binOp,run_equal_slice_nil _ t et (some ad) m c (elemT_eq ht)]
  ·cases h
 ·rename_i t x t' ho
  split at h
  ·rename_i e l et hx ht
   injection h with h
   subst h
   obtain ⟨ad,m,c,hv⟩:=key (by simp[ho,Op.operands]) hx
   refine CoreOk.value (E':=E) (v:=.bool true) ?_ rfl (Keep.refl E) hm ⟨[_],rfl,⟨rfl,trivial⟩,fun _=>rfl⟩
   simp only[execOp,ho,hv,evalConst]
   simp[eqGuard,run_neq_slice_nil _ t et (some ad) m c (elemT_eq ht)]
  ·cases h
 ·cases h
theorem evalCore_ok {C:Ctx} (_:E.P=C.P) {get:Operand->Option SV} {bk:Nat->Option (List At)} {rk:Rk} {b:Nat} {r:Core} (h:evalCore C get bk rk b o=some r) (hp:allB r.p=true) (hg:Gets E a get o) (hm:Mod N E a g)
  (hbk:∀i l,bk i=some l->g.h i=some l) (hb:bk b=none->g.h b=none) (hrk:metaOp o=false->∀i r,rk i=some r->g.r i=some r) (hrm:∀i ri,rk i=some (.some ri)->∃rj,g.r i=some (.some rj)/\rj.e=ri.e/\rj.n=ri.n) (hrb:rk b=none->g.r b=none):CoreOk C.P N g E a o r:=by
 unfold evalCore at h
 split at h
 case h_1 x ho =>
  unfold sameC at h
  split at h
  ·rename_i s hs
   injection h with h;subst h
   exact moveC_ok (.inl ho) (hg x s (by rw[ho];simp[Op.operands]) hs) hm
  ·cases h
 case h_2 x ho =>
  unfold sameC at h
  split at h
  ·rename_i s hs
   injection h with h;subst h
   exact moveC_ok (.inr ho) (hg x s (by rw[ho];simp[Op.operands]) hs) hm
  ·cases h
 case h_3 x ix ho =>
  unfold extractC at h
  split at h
  ·rename_i l hl
   split at h
   ·rename_i c hc
    injection h with h;subst h
    exact extractC_ok ho (hg x _ (by rw[ho];simp[Op.operands]) hl) hc hm
   ·cases h
  ·cases h
 case h_4 t x ho =>
  unfold loadC at h
  split at h
  ·rename_i i off hx
   split at h
   ·rename_i l hl
    split at h
    ·rename_i s hs
     injection h with h;subst h
     exact loadPtr_ok ho (hg x _ (by rw[ho];simp[Op.operands]) hx) (hbk i l hl) hs hm
    ·cases h
   ·cases h
  ·rename_i sh d off hx
   split at h
   ·rename_i s hs
    injection h with h;subst h
    exact loadRf_ok ho (hg x _ (by rw[ho];simp[Op.operands]) hx) hs hm
   ·cases h
  ·rename_i b' off e n i d hx
   split at h
   ·rename_i l hl
    split at h
    ·rename_i xs hxs
     split at h
     ·rename_i s hs
      injection h with h;subst h
      exact loadAe_ok ho (hg x _ (by rw[ho];simp[Op.operands]) hx) (hbk _ l hl) hxs hs hm (Nat.blt_eq.mp hp)
     ·cases h
    ·cases h
   ·cases h
  ·rename_i q i sz off hx
   split at h
   ·rename_i ri hri
    split at h
    ·rename_i s hsz hs
     injection h with h;subst h
     have hsz:sz=ri.e.size:=by simpa using hsz
     subst hsz
     exact loadRe_ok ho (hg x _ (by rw[ho];simp[Op.operands]) hx) (hrk (by simp[metaOp,ho]) q _ hri) hs hm (Nat.blt_eq.mp hp)
    ·cases h
   ·cases h
  ·cases h
 case h_5 t x y ho =>
  unfold storeC at h
  split at h
  ·rename_i i off ag l' hx hy
   split at h
   ·rename_i l n hl hn
    split at h
    ·rename_i h1 h2 h3
     injection h with h;subst h
     exact store_ok ho (hg x _ (by rw[ho];simp[Op.operands]) hx) (hg y _ (by rw[ho];simp[Op.operands]) hy) (hbk i l hl) hn h1 h2 h3 hm
    ·cases h
   ·cases h
  ·rename_i b' off e n i d ag l' hx hy
   split at h
   ·rename_i l m hl hmz
    split at h
    ·rename_i xs h1 h2 h3 h4 hxs
     split at h
     ·rename_i z hz
      injection h with h;subst h
      exact storeAe_ok ho (hg x _ (by rw[ho];simp[Op.operands]) hx) (hg y _ (by rw[ho];simp[Op.operands]) hy) (hbk _ l hl) hmz h2 h3 h4 h1 hxs hz hm (Nat.blt_eq.mp hp)
     ·cases h
    ·cases h
   ·cases h
  ·rename_i q i sz off ag l' hx hy
   split at h
   ·rename_i ri n hri hn
    split at h
    ·rename_i z h1 h2 h3 h4 hz
     injection h with h;subst h
     have h4:sz=ri.e.size:=by simpa using h4
     subst h4
     exact storeRe_ok ho (hg x _ (by rw[ho];simp[Op.operands]) hx) (hg y _ (by rw[ho];simp[Op.operands]) hy) (hrk (by simp[metaOp,ho]) q _ hri) hn h1 h2 h3 hz hm (Nat.blt_eq.mp hp)
    ·cases h
   ·cases h
  ·cases h
 case h_6 t ho =>
  unfold allocC at h
  split at h
  ·rename_i cs hz hbn
   injection h with h;subst h
   exact alloc_ok ho hz (hb hbn) hm
  ·cases h
 case h_7 t x ho =>
  unfold boxC at h
  split at h
  ·rename_i ag l hx hbn
   split at h
   ·rename_i hl
    injection h with h;subst h
    exact box_ok ho (hg x _ (by rw[ho];simp[Op.operands]) hx) hl (hb hbn) hm
   ·cases h
  ·cases h
 case h_8 t x f ho =>
  unfold fieldC at h
  split at h
  ·rename_i i off d hx hd
   injection h with h;subst h
   exact fieldPtr_ok ho (hg x _ (by rw[ho];simp[Op.operands]) hx) hd hm
  ·rename_i sh y off d hx hd
   injection h with h;subst h
   exact fieldRf_ok ho (hg x _ (by rw[ho];simp[Op.operands]) hx) hd hm
  ·rename_i q i sz off d hx hd
   injection h with h;subst h
   exact fieldRe_ok ho (hg x _ (by rw[ho];simp[Op.operands]) hx) hd hm
  ·rename_i b' off e n i d0 d hx hd
   injection h with h;subst h
   exact fieldAe_ok ho (hg x _ (by rw[ho];simp[Op.operands]) hx) hd hm
  ·cases h
 case h_9 t x y ho =>
  split at h
  ·rename_i r' hr'
   injection h with h;subst h
   exact indexArrC_ok ho hr' hp hg hm
  unfold indexC at h
  split at h
  ·rename_i e l k i et hx hy ht
   split at h
   ·rename_i n hn
    split at h
    ·rename_i hne
     injection h with h;subst h
     have hne:n=e.size:=by simpa using hne
     subst hne
     exact indexSl_ok ho (hg x _ (by rw[ho];simp[Op.operands]) hx) (hg y _ (by rw[ho];simp[Op.operands]) hy) ht hn hm (inB_iff.1 hp)
    ·cases h
   ·cases h
  ·rename_i q k i et hx hy ht
   split at h
   ·rename_i n ri hn hri
    split at h
    ·rename_i hne
     injection h with h;subst h
     have hne:n=ri.e.size:=by simpa using hne
     subst hne
     exact indexRow_ok ho (hg x _ (by rw[ho];simp[Op.operands]) hx) (hg y _ (by rw[ho];simp[Op.operands]) hy) ht hn (hrm q _ hri) hm (inB_iff.1 hp)
    ·cases h
   ·cases h
  ·cases h
 case h_10 t x lo hi ho =>
  split at h
  ·rename_i r' hr'
   injection h with h;subst h
   exact sliceC_ok ho hr' hp hg hm
  ·split at h
   ·exact cutC_ok ho h hp hg hm (hrk (by simp[metaOp,ho])) hrb
   ·exact sliceRC_ok ho h hp hg hm (hrk (by simp[metaOp,ho]))
 case h_11 t n ps ho =>
  split at h
  ·rename_i r' hr'
   injection h with h;subst h
   exact buildTC_ok ho hr' hp hg hm (hrk (by simp[metaOp,ho]))
  rename_i hno
  clear hno
  unfold build0C at h
  split at h
  ·rename_i et hps hbn ht
   split at h
   ·rename_i e m he hz
    split at h
    ·rename_i hne
     injection h with h;subst h
     have hne:m=e.size:=by simpa using hne
     subst hne
     exact build0_ok ho (by rw[<-Array.toArray_toList (xs:=ps),hps]) ht hz (hrb hbn) hm
    ·cases h
   ·cases h
  exact buildC_ok ho h hg hm
 case h_12 t x y ho=>exact orPure_ok h hp hg hm fun r' hr' hp'=>indexVC_ok ho hr' hp' hg hm
 case h_13 t x f ho=>exact orPure_ok h hp hg hm fun r' hr' hp'=>fieldVC_ok ho hr' hg hm
 case h_14 t ps ho=>exact orPure_ok h hp hg hm fun r' hr' hp'=>buildStC_ok ho hr' hg hm
 case h_15 t l c ho=>exact makeC_ok ho h hp hg hm hrb
 case h_16=>exact divC_ok h hg hm hp
 case h_17=>exact divC_ok h hg hm hp
 case h_18=>exact shiftC_ok h hg hm hp
 case h_19=>exact shiftC_ok h hg hm hp
 case h_20=>exact eqC_ok h hg hm
 case h_21=>exact eqC_ok h hg hm
 case h_22=>exact funcC_ok h hg hm
 case h_23 xs ts ho =>
  unfold lenC at h
  split at h
  ·rename_i x t hxs hts
   have hxs:xs=#[x]:=by rw[<-Array.toArray_toList (xs:=xs),hxs]
   subst hxs
   split at h
   ·rename_i e l et hx ht
    injection h with h;subst h
    exact lenSl_ok ho hts ht (hg x _ (by rw[ho];simp[Op.operands,Call.operands]) hx) hm
   ·rename_i q et hx ht
    split at h
    ·rename_i ri hri
     injection h with h;subst h
     exact lenRow_ok ho hts ht (hg x _ (by rw[ho];simp[Op.operands,Call.operands]) hx) (hrm q _ hri) hm
    ·cases h
   ·exact pureC_ok h hg hm
  ·cases h
 case h_24 xs ts ho =>
  split at h
  ·rename_i r' hr'
   injection h with h;subst h
   exact appendZC_ok ho hr' hp hg hm hrb
  ·exact appendC_ok ho h hg hm (hrk (by simp[metaOp,ho])) hrb hp
 case h_25 xs ts ho=>exact copyC_ok ho h hg hm (hrk (by simp[metaOp,ho])) hp
 case h_26=>exact pureC_ok h hg hm
theorem litP_ok {C:Ctx} {get:Operand->Option SV} {b t n:Nat} {ps:Array (Nat×Operand)} {ri:RowI} (ho:o.op=.buildSlice t n ps) (h:litP C get t n ps=some ri) (hg:Gets E a get o) (hm:Mod N E a g) (hb:g.r b=none) {p:List Bool}:CoreOk C.P N g E a o ⟨.c false [.row b],.row b ri none,p⟩:=by
 unfold litP at h
 split at h
 ·rename_i et ht
  split at h
  ·rename_i e m z he hm' hz
   split at h
   ·rename_i l h1 h2 h3 hw
    injection h with h;subst h
    have h1:m=e.size:=by simpa using h1
    subst h1
    exact buildRow_ok ho hg ht hm' hw (by simpa using h2) hz (by have:=Nat.le_of_ble_eq_true h3;omega) hm hb
   ·cases h
  ·cases h
 ·cases h
theorem litC_ok {C:Ctx} {get:Operand->Option SV} {rk:Rk} {b t n:Nat} {ps:Array (Nat×Operand)} {r:Core} (ho:o.op=.buildSlice t n ps) (h:litC C get rk b t n ps=some r) (hp:allB r.p=true) (hg:Gets E a get o) (hm:Mod N E a g) (hrk:∀i r,rk i=some r->g.r i=some r) (hb:rk b=none->g.r b=none):CoreOk C.P N g E a o r:=by
 unfold litC at h
 split at h
 ·rename_i hps hbn
  split at h
  ·rename_i ri hri
   injection h with h;subst h
   exact litP_ok ho hri hg hm (hb hbn)
  ·cases h
 ·rename_i q hps hbn
  split at h
  ·rename_i rq ri hq hri
   split at h
   ·rename_i hqb
    injection h with h;subst h
    have hne:q≠b:=fun e=>by rw[e] at hqb;simp at hqb
    have hlv:=liveR_ok hp
    refine CoreOk.thaw2 (u:=[q]) (e1:=.row b ri none) (p:=[]) hm ?_ fun hmz=>litP_ok ho hri (fun x s hx hs=>?_) hmz ?_
    ·simp only[Look.app,Look.setR]
     congr 1
     funext i
     by_cases h1:i=b
     ·simp[h1]
     ·by_cases h2:i=q
      ·simp[h2,hne]
      ·simp[h1,h2]
    ·unfold getW at hs
     split at hs
     ·rename_i s' hs'
      injection hs with hs
      subst hs
      refine thawS_rel hm hrk hlv (hg x s' hx hs') fun r hr=>?_
      have hx':∃i,(i,x) ∈ ps:=by
       rw[ho] at hx
       simpa [Op.operands] using hx
      obtain ⟨i,hx'⟩:=hx'
      rw[<-hps]
      exact rowsPs_mem (p:=(i,x)) (by simpa using hx') hs' r hr
     ·cases hs
    ·simp only[Look.app,List.mem_singleton]
     rw[if_neg (Ne.symm hne)]
     exact hb hbn
   ·cases h
  ·cases h
 ·cases h
theorem nilC_ok {P:Program} {get:Operand->Option SV} {x:Operand} {r:Core} (ho:o.op=.nilCheck x) (h:nilC get x=some r) (hg:Gets E a get o) (hm:Mod N E a g):CoreOk P N g E a o r:=by
 have hop:x ∈ o.op.operands:=by rw[ho];simp[Op.operands]
 unfold nilC at h
 split at h
 ·rename_i b off hx
  injection h with h;subst h
  have hv:=hg x _ hop hx
  obtain ⟨cs,hv',hr,h1⟩:=hv
  match cs,hr with
  | [v],hr =>
  obtain ⟨⟨g1,g2⟩,_⟩:=hr
  refine CoreOk.value (E':=E) (v:=v) ?_ rfl (Keep.refl E) hm ⟨[v],rfl,⟨⟨g1,g2⟩,trivial⟩,fun _=>rfl⟩
  have hv2:a.eval x=.pointer (some ⟨E.β b,off,none⟩):=by rw[hv',g1];rfl
  simp[execOp,ho,hv2,g1,ptrV]
 ·rename_i s d off hx
  injection h with h;subst h
  have hv:=hg x _ hop hx
  obtain ⟨cs,hv',hr,h1⟩:=hv
  match cs,hr with
  | [v],hr =>
  have hr1:=hr.1
  obtain ⟨ad,cs',g1,g2,g3,g4⟩:=hr1
  refine CoreOk.value (E':=E) (v:=v) ?_ rfl (Keep.refl E) hm ⟨[v],rfl,⟨hr.1,trivial⟩,fun _=>rfl⟩
  have hv2:a.eval x=.pointer (some (ad.add off)):=by rw[hv',g1];rfl
  simp[execOp,ho,hv2,g1]
 ·rename_i r i sz off hx
  injection h with h;subst h
  have hv:=hg x _ hop hx
  obtain ⟨cs,hv',hr,h1⟩:=hv
  match cs,hr with
  | [v],hr =>
  have hr1:=hr.1
  obtain ⟨ad,g1,g2,g3⟩:=hr1
  refine CoreOk.value (E':=E) (v:=v) ?_ rfl (Keep.refl E) hm ⟨[v],rfl,⟨hr.1,trivial⟩,fun _=>rfl⟩
  have hv2:a.eval x=.pointer (some ⟨ad,i*sz+off,none⟩):=by rw[hv',g2];rfl
  simp[execOp,ho,hv2,g2]
 ·cases h
theorem rowRel_u8 {w:World} {Z:Nat->Prop}:∀{l:List (Sh.int .u8).T} {xs:List Value},RowRel w Z (.int .u8) l xs->xs=List.map (Value.int .u8) l
 | [],_,h=>h
 | x ::l,xs,⟨c,r,h1,h2,h3⟩=>by
  have h2:c=[.int .u8 x]:=h2
  rw[h1,h2,rowRel_u8 h3]
  rfl
theorem bytesC_ok {P:Program} {get:Operand->Option SV} {rk:Rk} {s d:TypeId} {x:Operand} {r:Core} (ho:o.op=.convert s d x) (h:bytesC P get rk s d x=some r) (hg:Gets E a get o) (hm:Mod N E a g) (hrk:∀i r,rk i=some r->g.r i=some r):CoreOk P N g E a o r:=by
 unfold bytesC at h
 split at h
 ·rename_i et v ht hd hx
  split at h
  ·rename_i l hu hl
   injection h with h
   subst h
   obtain ⟨A,c,xs,hv,h1,h2,h3⟩:=src_rel hm hrk hl (hg x v (by rw[ho];simp[Op.operands]) hx)
   have hxs:=rowRel_u8 h1
   have key:(convert s d (a.eval x)).run P E.w=.ok (.string (bytesOf l)) E.w:=by
    rw[hv,run_convert_bytes_string E.w s d et A l.length c (elemT_eq ht) hu hd]
    cases A with
    | none =>
     have h0:l=[]:=h2 rfl
     subst h0
     rfl
    | some ad =>
     have hcell:=run_loadCells_list (P:=P) E.w ad xs (h3 ad rfl)
     have hlen:xs.length=l.length:=by rw[hxs,List.length_map]
     rw[hlen,hxs] at hcell
     exact run_bytesToString E.w ad l.length c l hcell
   refine CoreOk.value (E':=E) (v:=.string (bytesOf l)) ?_ rfl (Keep.refl E) hm ⟨[_],rfl,⟨rfl,trivial⟩,fun _=>rfl⟩
   simp[execOp,ho,key]
  ·cases h
 ·cases h
theorem evalX_ok {C:Ctx} {get:Operand->Option SV} {rk:Rk} {b:Nat} {r:Core} (h:evalX C get rk b o=some r) (hp:allB r.p=true) (hg:Gets E a get o) (hm:Mod N E a g) (hrk:metaOp o=false->∀i r,rk i=some r->g.r i=some r) (hrx:∀i x,rk i=some (.x x)->g.r i=some (.x x)) (hrb:rk b=none->g.r b=none):CoreOk C.P N g E a o r:=by
 unfold evalX at h
 split at h
 ·rename_i t ho;exact makeMapC_ok ho h hm hrb
 ·rename_i s d x ho;exact bytesC_ok ho h hg hm (hrk (by simp[metaOp,ho]))
 ·rename_i t m k x ho;exact mapUpdC_ok (.inl ho) h hg hm hrx
 ·rename_i t m k x ho;exact mapUpdC_ok (.inr ho) h hg hm hrx
 ·rename_i t m k ok ho;exact lookupC_ok ho h hg hm hrx
 ·rename_i x ts ho
  unfold or2 at h
  split at h
  ·rename_i r' hr
   injection h with h;subst h
   exact lenXC_ok ho hr hg hm hrx
  ·exact lenTC_ok ho h hp hg hm hrx
 ·rename_i xs ts ho
  unfold or2 at h
  split at h
  ·rename_i r' hr
   injection h with h;subst h
   exact appendIC_ok ho hr hp hg hm (hrk (by simp[metaOp,ho]))
  ·exact appendXC_ok ho h hp hg hm hrx hrb
 ·rename_i t n ps ho
  split at h
  ·exact litC_ok ho h hp hg hm (hrk (by simp[metaOp,ho])) hrb
  ·exact buildXC_ok ho h hg hm (hrk (by simp[metaOp,ho])) hrb
 ·rename_i t x y ho;exact indexTC_ok ho h hp hg hm hrx
 ·rename_i t x f ho;exact fieldTC_ok ho h hg hm
 ·rename_i t x ho;exact loadTC_ok ho h hp hg hm hrx
 ·rename_i t x y ho
  unfold or2 at h
  split at h
  ·rename_i r' hr
   injection h with h;subst h
   exact storeIC_ok ho hr hp hg hm hrx
  ·exact storeTC_ok ho h hp hg hm (hrk (by simp[metaOp,ho]))
 ·rename_i t l c ho;exact makeXC_ok ho h hp hg hm hrb
 ·cases h
theorem evalCor_ok {C:Ctx} (hC:C.ok) (hP:E.P=C.P) {get:Operand->Option SV} {bk:Nat->Option (List At)} {rk:Rk} {b:Nat} {r:Cor} (h:evalCor C get bk rk b o=some r) (hg:Gets E a get o) (hm:Mod N E a g)
  (hbk:∀i l,bk i=some l->g.h i=some l) (hb:bk b=none->g.h b=none) (hrk:metaOp o=false->∀i r,rk i=some r->g.r i=some r) (hrm:∀i ri,rk i=some (.some ri)->∃rj,g.r i=some (.some rj)/\rj.e=ri.e/\rj.n=ri.n) (hrx:∀i x,rk i=some (.x x)->g.r i=some (.x x)) (hrb:rk b=none->g.r b=none):CorOk C.P N g E a o r:=by
 unfold evalCor at h
 split at h
 ·rename_i f xs ts ho
  unfold callX at h
  split at h
  ·rename_i r' hr
   injection h with h;subst h
   rw[<-hP]
   exact callF_ok ho hr (getU_gets hg) hm
  ·split at h
   ·rename_i r' hr'
    injection h with h;subst h
    unfold callE at hr'
    split at hr'
    ·rename_i fv hfv
     split at hr'
     ·rename_i id hid
      intro hp
      have hfe:=fnOf_rel hid (getU_gets hg f fv (by rw[ho];simp[Op.operands,Call.operands]) hfv)
      exact carryC_ok ho (by simpa using hfe) hr' hp (getU_gets hg) hm
     ·cases hr'
    ·cases hr'
   ·exact callC_ok hC hP ho h (getU_gets hg) hm hbk (hrk (by simp[metaOp,ho])) hrb
 ·rename_i x ho
  unfold sameC at h
  split at h
  ·rename_i s hs
   injection h with h;subst h
   exact fun _=>moveC_ok (.inl ho) (hg x s (by rw[ho];simp[Op.operands]) hs) hm
  ·cases h
 ·rename_i x ho
  unfold sameC at h
  split at h
  ·rename_i s hs
   injection h with h;subst h
   exact fun _=>moveC_ok (.inr ho) (hg x s (by rw[ho];simp[Op.operands]) hs) hm
  ·cases h
 ·rename_i x ho
  unfold one? at h
  split at h
  ·rename_i r' hr
   injection h with h;subst h
   exact fun _=>nilC_ok ho hr hg hm
  ·cases h
 ·split at h
  ·rename_i r' hr'
   injection h with h;subst h
   exact fun hp=>evalX_ok hr' hp (getU_gets hg) hm hrk hrx hrb
  split at h
  ·rename_i r' hr'
   injection h with h;subst h
   exact fun _=>eqNilC_ok hr' hg hm
  unfold one? at h
  split at h
  ·rename_i r' hr
   injection h with h;subst h
   exact fun hp=>evalCore_ok hP hr hp (getU_gets hg) hm hbk hb hrk hrm hrb
  ·cases h
structure Plan where
 s:Option (Nat×SlotV)
 eff:Eff
def Look.plan (g:Look) (pl:Plan):Look:=match pl.s with
 | some (d,s)=>(g.app pl.eff).setS d (some s)
 | none=>g.app pl.eff
inductive Cond where
 | always
 | under (c:Bool)
 | bad
def guardC (ops:Array Oper) (sl:Nat->Option SlotV):Option (Nat×Bool)->Cond
 | none=>.always
 | some (j,want)=>match (ops[j]?).bind (·.dst) with
  | some d=>match sl d with
   | some ⟨none,.c false [.v (.bool h)]⟩=>.under (bif want then h else !h)
   | some ⟨some c,.c false [.v (.bool h)]⟩=>.under (c&&(bif want then h else !h))
   | _=>.bad
  | none=>.bad
def Cond.implies (k:Cond) (c:Bool):Bool:=match k with
 | .always=>c
 | .under q=>!q||c
 | .bad=>false
def getS (sl:Nat->Option SlotV) (x:Operand):Option SV:=match x with
 | .tmp t=>match sl t with
  | some s=>some s.s
  | none=>none
 | .const v=>some (ofV v)
 | .func f=>some (.c false [.v (.func (.func f) #[] #[])])
 | .global _=>none
def condS (sl:Nat->Option SlotV) (x:Operand):Option Bool:=match x with
 | .tmp t=>match sl t with
  | some s=>s.c
  | none=>none
 | _=>none
def needs (k:Cond) (sl:Nat->Option SlotV):List Operand->List Bool
 | []=>[]
 | x ::r=>match condS sl x with
  | none=>needs k sl r
  | some c=>k.implies c ::needs k sl r
theorem getS_rel (hm:Mod N E a g) {sl:Nat->Option SlotV} {x:Operand} (hsl:∀t,x=.tmp t->g.s t=sl t) {s:SV} (h:getS sl x=some s) (hc:∀c,condS sl x=some c->c=true):RelV E s (a.eval x):=by
 cases x with
 | tmp t =>
  simp only[getS] at h
  split at h
  ·rename_i sv hsv
   injection h with h;subst h
   obtain ⟨v,hv,hr⟩:=hm.slots t sv (by rw[hsl t rfl];exact hsv)
   have he:a.eval (.tmp t)=v:=by simp[Act.eval,hv]
   rw[he]
   unfold RelS at hr
   split at hr
   ·exact hr
   ·rename_i c hcc
    exact hr.1 (hc c (by simp only[condS,hsv];exact hcc))
  ·cases h
 | const v=>simp only[getS] at h;injection h with h;subst h;exact ofV_rel v
 | func f=>simp only[getS] at h;injection h with h;subst h;exact ⟨[_],rfl,⟨rfl,trivial⟩,fun _=>rfl⟩
 | global _=>cases h
theorem needs_all {k:Cond} {sl:Nat->Option SlotV}:∀{xs:List Operand},allB (needs k sl xs)=true->∀x ∈ xs,∀c,condS sl x=some c->k.implies c=true
 | y ::r,h,x,hx,c,hc=>by
  simp only[needs] at h
  rcases List.mem_cons.1 hx with rfl | hx
  ·rw[hc] at h;exact (allB_cons h).1
  ·split at h
   ·exact needs_all h x hx c hc
   ·exact needs_all (allB_cons h).2 x hx c hc
def pickSV (q:Bool):SV->SV->Option SV
 | .c false [.v (.bool x)],.c false [.v (.bool y)]=>some (.c false [.v (.bool (bif q then x else y))])
 | _,_=>none
def pickC (k:Cond) (sl:Nat->Option SlotV) (c x y:Operand):Option Core:=match getS sl c,getS sl x,getS sl y with
 | some (.c false [.v (.bool q)]),some s,some t=>match pickSV q s t with
  | some r=>some ⟨r,.none,needs k sl [c]++(match condS sl x with | none=>[] | some cx=>[!q||k.implies cx])++(match condS sl y with | none=>[] | some cy=>[q||k.implies cy])⟩
  | none=>none
 | _,_,_=>none
theorem pickC_ok {P:Program} (hm:Mod N E a g) {sl:Nat->Option SlotV} {c x y:Operand} (ho:o.op=.pick c x y) (hsl:∀t,(Operand.tmp t) ∈ o.op.operands->g.s t=sl t) {k:Cond} {r:Core} (h:pickC k sl c x y=some r)
  (hp:allB r.p=true) (hk:∀c,k.implies c=true->c=true):CoreOk P N g E a o r:=by
 unfold pickC at h
 split at h
 ·rename_i q s t hc hx hy
  split at h
  ·rename_i w hw
   injection h with h
   subst h
   obtain ⟨h12,h3⟩:=allB_append hp
   obtain ⟨h1,h2⟩:=allB_append h12
   have ec:a.eval c=.bool q:=toV_rel rfl (getS_rel hm (fun t e=>hsl t (by rw[ho,<-e];simp[Op.operands])) hc fun d hd=>hk d (needs_all h1 c (by simp) d hd))
   unfold pickSV at hw
   split at hw
   ·rename_i p1 p2
    injection hw with hw
    subst hw
    refine CoreOk.value (E':=E) (v:=.bool (bif q then p1 else p2)) ?_ rfl (Keep.refl E) hm ⟨[_],rfl,⟨rfl,trivial⟩,fun _=>rfl⟩
    cases q
    ·have e2:a.eval y=.bool p2:=toV_rel rfl (getS_rel hm (fun t e=>hsl t (by rw[ho,<-e];simp[Op.operands])) hy fun d hd=>hk d (by rw[hd] at h3;simpa [allB] using h3))
     simp[execOp,ho,ec,e2,asBool]
    ·have e1:a.eval x=.bool p1:=toV_rel rfl (getS_rel hm (fun t e=>hsl t (by rw[ho,<-e];simp[Op.operands])) hx fun d hd=>hk d (by rw[hd] at h2;simpa [allB] using h2))
     simp[execOp,ho,ec,e1,asBool]
   ·cases hw
  ·cases h
 ·cases h
def coreC (C:Ctx) (k:Cond) (sl:Nat->Option SlotV) (bk:Nat->Option (List At)) (rk:Rk) (b:Nat) (o:Oper):Option (List Bool×Cor):=match o.op with
 | .pick c x y=>match pickC k sl c x y with
  | some r=>some ([],.one r)
  | none=>none
 | _=>match evalCor C (getS sl) bk rk b o with
  | some r=>some (needs k sl o.op.operands.toList,r)
  | none=>none
def dstOk (N:Nat):Option Nat->Bool
 | none=>true
 | some d=>Nat.blt d N
inductive Stp where
 | one (p:List Bool) (pl:Plan)
 | call (p:List Bool) (T:Type) (m:Option T) (pl:T->Plan)
 | inl (p:List Bool) (id:FuncId) (args:List SV)
def stepOp (C:Ctx) (N:Nat) (ops:Array Oper) (sl:Nat->Option SlotV) (bk:Nat->Option (List At)) (rk:Rk) (b:Nat) (o:Oper):Option Stp:=match dstOk N o.dst with
 | false=>none
 | true=>match guardC ops sl o.guard with
  | .bad=>none
  | .always=>match coreC C .always sl bk rk b o with
   | some (p,.one r)=>some (.one (p++r.p) ⟨o.dst.map fun d=>(d,⟨none,r.sv⟩),r.eff⟩)
   | some (p,.call T _ m sv eff _)=>some (.call p T m fun t=>⟨o.dst.map fun d=>(d,⟨none,sv t⟩),eff t⟩)
   | some (p,.inl id args)=>some (.inl p id args)
   | none=>none
  | .under c=>match coreC C (.under c) sl bk rk b o with
   | some (p,.one r)=>match effNone r.eff with
    | true=>some (.one (p++r.p.map fun q=>!c||q) ⟨o.dst.map fun d=>(d,⟨some c,r.sv⟩),.none⟩)
    | false=>none
   | some (p,.call T d m sv _ pu)=>match pu with
    | true=>some (.call p T (bif c then m else some d) fun t=>⟨o.dst.map fun d=>(d,⟨some c,sv t⟩),.none⟩)
    | false=>none
   | _=>none
def StepP (C:Ctx) (N:Nat) (ops:Array Oper) (sl:Nat->Option SlotV) (bk:Nat->Option (List At)) (rk:Rk) (b:Nat) (o:Oper) (pl:Plan):Prop :=
 ∃st,stepOp C N ops sl bk rk b o=some st/\match st with
  | .one p pl'=>allB p=true/\pl=pl'
  | .call p _ m f=>allB p=true/\∃t,m=some t/\pl=f t
  | .inl ..=>False
theorem coreC_ok {C:Ctx} (hC:C.ok) (hP:E.P=C.P) {k:Cond} {sl:Nat->Option SlotV} {bk:Nat->Option (List At)} {rk:Rk} {b:Nat} {r:Cor} {p:List Bool} (h:coreC C k sl bk rk b o=some (p,r)) (hp:allB p=true) (hm:Mod N E a g)
  (hsl:∀t,(Operand.tmp t) ∈ o.op.operands->g.s t=sl t) (hbk:∀i l,bk i=some l->g.h i=some l) (hb:bk b=none->g.h b=none) (hrk:metaOp o=false->∀i r,rk i=some r->g.r i=some r) (hrm:∀i ri,rk i=some (.some ri)->∃rj,g.r i=some (.some rj)/\rj.e=ri.e/\rj.n=ri.n) (hrx:∀i x,rk i=some (.x x)->g.r i=some (.x x)) (hrb:rk b=none->g.r b=none) (hk:∀c,k.implies c=true->c=true):CorOk C.P N g E a o r:=by
 unfold coreC at h
 split at h
 ·rename_i c x y ho
  split at h
  ·rename_i r' hr
   simp only[Option.some.injEq,Prod.mk.injEq] at h
   obtain ⟨rfl,rfl⟩:=h
   exact fun hp=>pickC_ok hm ho hsl hr hp hk
  ·cases h
 ·split at h
  ·rename_i r' hr
   simp only[Option.some.injEq,Prod.mk.injEq] at h
   obtain ⟨rfl,rfl⟩:=h
   exact evalCor_ok hC hP hr (fun x s hx hs=>getS_rel hm (fun t e=>hsl t (by rw[<-e];exact hx)) hs fun c hc=>hk c (needs_all hp x (by simpa using hx) c hc)) hm hbk hb hrk hrm hrx hrb
  ·cases h
theorem looks_op {ops:Array Oper} {t:Nat} (h:(Operand.tmp t) ∈ o.op.operands):t ∈ o.looksAt ops :=
 List.mem_append_left _ (List.mem_filterMap.2 ⟨.tmp t,by simpa using h,rfl⟩)
theorem guard_look {ops:Array Oper} {j:Nat} {want:Bool} {d:Nat} (h:o.guard=some (j,want)) (hd:(ops[j]?).bind (·.dst)=some d):d ∈ o.looksAt ops:=by
 refine List.mem_append_right _ ?_
 simp[h,hd]
theorem guard_run (hm:Mod N E a g) {ops:Array Oper} {sl:Nat->Option SlotV} (hsl:∀t ∈ o.looksAt ops,g.s t=sl t) :
  match guardC ops sl o.guard with
  | .always=>Region.wanted o (yielded ops a.tmps)=true
  | .under c=>Region.wanted o (yielded ops a.tmps)=c
  | .bad=>True:=by
 cases hg:o.guard with
 | none=>simp[guardC,Region.wanted,hg]
 | some jw =>
  obtain ⟨j,want⟩:=jw
  simp only[guardC]
  cases hd:(ops[j]?).bind (·.dst) with
  | none=>trivial
  | some d =>
   have hl:=hsl d (guard_look hg hd)
   simp only
   split<;>rename_i hs
   ·split at hs<;>cases hs
   ·split at hs
    ·rename_i h hsd
     injection hs with hs
     subst hs
     obtain ⟨v,hv,hr⟩:=hm.slots d _ (hl.trans hsd)
     have hr':RelV E (.c false [.v (.bool h)]) v:=hr
     have hv':v=.bool h:=toV_rel rfl hr'
     subst hv'
     simp only[Region.wanted,hg,yielded,hd,Option.bind_some,hv]
     cases want<;>cases h<;>rfl
    ·rename_i c h hsd
     injection hs with hs
     subst hs
     obtain ⟨v,hv,hr⟩:=hm.slots d _ (hl.trans hsd)
     simp only[Region.wanted,hg,yielded,hd,Option.bind_some,hv]
     cases c with
     | true =>
      have hv':v=.bool h:=toV_rel rfl (hr.1 rfl)
      subst hv'
      cases want<;>cases h<;>rfl
     | false =>
      have hv':=hr.2 rfl
      subst hv'
      simp[undef]
    ·cases hs
   ·trivial
theorem put_plan {E':Env} {v:Value} {c:Option Bool} {sv:SV} {eff:Eff} (hdst:dstOk N o.dst=true) (hm:Mod N E' a (g.app eff)) (hv:∀d,o.dst=some d->RelS E' ⟨c,sv⟩ v) :
  Mod N E' (a.put o.dst v) (g.plan ⟨o.dst.map fun d=>(d,⟨c,sv⟩),eff⟩):=by
 cases hd:o.dst with
 | none=>exact hm
 | some d =>
  rw[hd] at hdst
  exact hm.put (by simp[dstOk,Nat.blt] at hdst;omega) (hv d hd)
theorem step_ok {C:Ctx} (hC:C.ok) (hP:E.P=C.P) {ops:Array Oper} {sl:Nat->Option SlotV} {bk:Nat->Option (List At)} {rk:Rk} {b:Nat} {pl:Plan} (h:StepP C N ops sl bk rk b o pl) (hm:Mod N E a g)
  (hsl:∀t ∈ o.looksAt ops,g.s t=sl t) (hbk:∀i l,bk i=some l->g.h i=some l) (hb:bk b=none->g.h b=none) (hrk:metaOp o=false->∀i r,rk i=some r->g.r i=some r) (hrm:∀i ri,rk i=some (.some ri)->∃rj,g.r i=some (.some rj)/\rj.e=ri.e/\rj.n=ri.n) (hrx:∀i x,rk i=some (.x x)->g.r i=some (.x x)) (hrb:rk b=none->g.r b=none) {K:Act->World->Prop} {Q:Exit->Act->World->Prop} {X:Prop}
  (hK:∀E' a',Same E E'->Keep E E'->Mod N E' a' (g.plan pl)->K a' E'.w) :
  if Region.wanted o (yielded ops a.tmps) then o.wp C.P a E.w K Q\/X else K (a.put o.dst undef) E.w:=by
 obtain ⟨st,h,hst⟩:=h
 unfold stepOp at h
 split at h
 ·cases h
 ·rename_i hdst
  have hgr:=guard_run hm hsl
  have hsl':∀t,(Operand.tmp t) ∈ o.op.operands->g.s t=sl t:=fun t ht=>hsl t (looks_op ht)
  split at h
  ·cases h
  ·rename_i hgc
   rw[hgc] at hgr
   simp only at hgr
   rw[if_pos hgr]
   split at h
   ·rename_i p r hr
    injection h with h
    subst h
    obtain ⟨hp,rfl⟩:=hst
    obtain ⟨hp1,hp2⟩:=allB_append hp
    exact .inl (coreC_ok hC hP hr hp1 hm hsl' hbk hb hrk hrm hrx hrb (fun c hc=>hc) hp2 K Q fun E' v h0 hkp hm' hv=>hK E' _ h0 hkp (put_plan hdst hm' fun _ _=>hv))
   ·rename_i p T d m sv eff _ hr
    injection h with h
    subst h
    obtain ⟨hp,t,ht,rfl⟩:=hst
    exact .inl ((coreC_ok hC hP hr hp hm hsl' hbk hb hrk hrm hrx hrb (fun c hc=>hc)).2 t ht K Q fun E' v h0 hkp hm' hv=>hK E' _ h0 hkp (put_plan hdst hm' fun _ _=>hv))
   ·injection h with h
    subst h
    exact hst.elim
   ·cases h
  ·rename_i c hgc
   rw[hgc] at hgr
   simp only at hgr
   have skip:∀sv,c=false->Mod N E (a.put o.dst undef) (g.plan ⟨o.dst.map fun d=>(d,⟨some c,sv⟩),.none⟩):=fun sv hc=>put_plan (eff:=.none) hdst hm fun _ _=>(show RelS E ⟨some c,sv⟩ undef from ⟨fun ht=>absurd ht (by rw[hc];decide),fun _=>rfl⟩)
   split at h
   ·rename_i p r hr
    split at h
    ·rename_i heff
     injection h with h
     subst h
     obtain ⟨hp,rfl⟩:=hst
     have he:r.eff=.none:=by
      cases hh:r.eff<;>rw[hh] at heff<;>first | rfl | cases heff
     by_cases hc:c=true
     ·rw[if_pos (by rw[hgr];exact hc)]
      obtain ⟨hp1,hp2'⟩:=allB_append hp
      have hp2:=allB_map hp2' hc
      refine .inl (coreC_ok hC hP hr hp1 hm hsl' hbk hb hrk hrm hrx hrb (fun d hd=>by simpa [Cond.implies,hc] using hd) hp2 K Q fun E' v h0 hkp hm' hv=>?_)
      rw[he] at hm'
      exact hK E' _ h0 hkp (put_plan hdst hm' fun _ _=>(show RelS E' ⟨some c,r.sv⟩ v from ⟨fun _=>hv,fun hf=>absurd hf (by rw[hc];decide)⟩))
     ·have hc:c=false:=by simpa using hc
      rw[if_neg (by rw[hgr,hc];simp)]
      exact hK E _ rfl (Keep.refl E) (skip r.sv hc)
    ·cases h
   ·rename_i p T d m sv eff pu hr
    split at h
    ·injection h with h
     subst h
     obtain ⟨hp,t,ht,rfl⟩:=hst
     by_cases hc:c=true
     ·rw[if_pos (by rw[hgr];exact hc)]
      rw[hc] at ht
      have hcc:=coreC_ok hC hP hr hp hm hsl' hbk hb hrk hrm hrx hrb (fun d hd=>by simpa [Cond.implies,hc] using hd)
      refine .inl (hcc.2 t ht K Q fun E' v h0 hkp hm' hv=>?_)
      simp only[hcc.1 rfl t] at hm'
      exact hK E' _ h0 hkp (put_plan hdst hm' fun _ _=>(show RelS E' ⟨some c,sv t⟩ v from ⟨fun _=>hv,fun hf=>absurd hf (by rw[hc];decide)⟩))
     ·have hc:c=false:=by simpa using hc
      rw[if_neg (by rw[hgr,hc];simp)]
      exact hK E _ rfl (Keep.refl E) (skip (sv t) hc)
    ·cases h
   ·cases h
end
end Dn
end Go.Proofs.YtlfdhaiigdllcaaGreatDoor
