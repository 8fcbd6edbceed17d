/- A part. -/
import Derived.Orders
import Derived.Laws.Sem
set_option linter.unusedSimpArgs false
set_option linter.unusedVariables false
section
namespace Go.AB
open Go
inductive AV where
 |undef
 |bool (b:Bool)
 |int (k:IntKind) (n:Int)
 |str (s:List UInt8)
 |fj
 |ref (b off:Nat)
 |lp (d off:Nat)
 |sp (cs:List AV)
 |loc (cs:List AV)
 |sl (own:Bool) (sz n:Nat) (cs:List AV)
 |arr (b off len cap:Nat)
 |agg (cs:List AV)
 |iL (vs:List AV)
 |fn (f:Nat) (first eF:List AV)
 |nX
 |mp (b:Nat)
 |se
 |when (b:Bool) (a:AV)
 |us (sz n:Nat) (cs:List AV)
 |one
 |ng (t:Nat)
 |lx
 |bb (t n:Nat) (cs:List AV)
 deriving Inhabited
inductive SO where
 |cells (cs:List AV)
 |map (es:List (AV×AV))
 deriving Inhabited
abbrev ae:=Nat->Option SO
def ae.set(s:ae)(b:Nat)(o:SO):ae:=fun i=>if i=b then some o else s i
def ae.del(s:ae)(b:Nat):ae:=fun i=>if i=b then none else s i
inductive mz where
 |int (k:IntKind)
 |str
 |bool
 |bytes (n:Nat)
 deriving Inhabited
inductive IX where
 |t (i:Nat)
 |c (a:AV)
 deriving Inhabited
inductive qN where
 |oj (tr:Bool) (x:IX)
 |pick (c x y:IX)
 |jS (zero:List AV)
 |mb (zero:List AV)
 |HF (n:Nat) (x:IX)
 |zy (n:Nat) (x:IX)
 |build (zero:List AV) (parts:List (Nat×Nat×IX))
 |ij (sz len:Nat) (zero:List AV) (parts:List (Nat×Nat×IX))
 |load (n:Nat) (multi:Bool) (x:IX)
 |store (n:Nat) (p v:IX)
 |nilCheck (x:IX)
 |bin (op:BinOp) (x y:IX)
 |WQ (ne:Bool) (x y:IX)
 |Tx (ne:Bool) (x y:IX)
 |Ty (ne:Bool) (x y:IX)
 |un (op:UnOp) (x:IX)
 |me (k:IntKind) (x:IX)
 |jU (x:IX)
 |iW (x:IX)
 |kY (x i:IX)
 |fieldAddr (off:Nat) (x:IX)
 |indexAddr (zero:List AV) (x i:IX)
 |iS (sz len:Nat) (x i:IX)
 |slice (sz:Nat) (x:IX) (lo hi mx:Option IX)
 |oS (x:IX) (lo hi:Option IX)
 |extract (x:IX) (k:Nat)
 |len (cls:Nat) (x:IX)
 |cap (x:IX)
 |nD (mx:Bool) (xs:List IX)
 |append (sz bytes:Nat) (x y:IX)
 |kT (sz bytes:Nat) (zero:List AV) (l c:IX)
 |makeMap
 |lookup (kk:mz) (zero:AV) (ok:Bool) (x k:IX)
 |mapUpdate (kk:mz) (x k v:IX)
 |ki (zero:List AV) (multi:Bool) (x:IX)
 |kJ (x:IX)
 |tS (x:IX)
 |call (f:Nat) (args:List IX)
 |iC (x:IX) (args:List IX)
 |sd (f:Nat) (first eF:List IX)
 |lR (sz len:Nat) (zero:List AV) (parts:List (Nat×Nat×IX))
 |nY (sz bytes:Nat) (zero:List AV) (x y:IX)
 |yZ (sz:Nat) (x y:IX)
 |rD (zero:List AV) (x:IX)
 |Ue (sz:Nat) (own:Bool) (x:IX)
 |mw (x:IX)
 |WR (ne:Bool) (x:IX)
 |yV (f i:Nat) (args:List IX)
 |oc (sz bytes:Nat) (zero:List AV) (x y:IX)
 |T9 (ne:Bool) (x:IX)
 |HG (sz n:Nat) (x:IX)
 |my (off:Nat) (j x:IX)
 |nA (k:IntKind) (x:IX)
 |Ua (ne:Bool) (x:IX)
 |zi (sz:Nat) (own:Bool) (x:IX)
 |HX (x:IX)
 |yW (f:Nat) (x:IX)
 |HW (u:Nat) (x:IX)
 |HH (n t j u:Nat) (x:IX)
 |n9 (t:Nat) (x y:IX)
 deriving Inhabited
structure aq where
 dst:Option Nat
 op:qN
 g:Option (Nat×Bool)
 deriving Inhabited
inductive IC where
 |skip
 |XH (q:Option Nat) (ops:List aq) (live:List Nat)
 |Sp (T:List Nat) (q:Nat) (ops:List aq) (live:List Nat)
 |OR (T:List Nat) (l:List (Nat×Nat×aq)) (live:List Nat)
 |Vw (gQ:List (List Bool)) (ops:List aq) (live:List Nat)
 |seq (a b:IC)
 |cond (c:IX) (a b:IC)
 |block (id:Nat) (b:IC)
 |loop (live:List (Nat×Bool)) (b:IC)
 |join (live:List (Nat×Bool)) (a b:IC)
 |exit (id:Nat)
 |scope (b:IC)
 |B7 (l:Nat) (live:List (Nat×Bool)) (a1 a2 a3 r:IC)
 |label (l:Nat)
 |goto (l:Nat)
 |ret
 |dead
 deriving Inhabited
structure St where
 e:List (Nat×AV)
 lp:List (Nat×Nat)
 s:ae
def look:List (Nat×AV)->Nat->AV
 |[],_=>.undef
 |(j,a)::l,i=>bif j==i then a else look l i
def St.x(E:St):IX->AV
 |.t i=>look E.e i
 |.c a=>a
def St.put(E:St)(d:Option Nat)(a:AV):St:=
 match d with
 |some d=>{E with e:=(d,a)::E.e}
 |none=>E
def dD:AV->AV
 |.lp _ _=>.undef
 |.when _ _=>.undef
 |a=>a
def St.vp(E:St)(live:List Nat):St:={e:=live.map fun i=>(i,dD (look E.e i)),lp:=[],s:=E.s}
def view:AV->AV
 |.sl _ sz n cs=>.sl false sz n cs
 |.us _ _ _=>.undef
 |.ng _=>.fj
 |.bb _ n cs=>.sl false 1 n cs
 |a=>a
def Tk(b:Bool)(a:AV):AV:=bif b then view a else a
def St.eQ(E:St)(live:List (Nat×Bool)):St:={e:=live.map fun p=>(p.1,Tk p.2 (dD (look E.e p.1))),lp:=[],s:=E.s}
def inner:AV->Bool
 |.loc _=>false
 |.when _ _=>false
 |_=>true
def tZ(g:Bool):AV->AV
 |.when b a=>bif((b==g)||b)&&inner a then a else .undef
 |a=>a
def QK:Int:=9223372036854775807
def dh:AV->Bool
 |.undef=>false
 |.lp _ _=>false
 |.loc _=>false
 |.iL _=>false
 |.when _ _=>false
 |.us _ _ _=>false
 |.ng _=>false
 |_=>true
def jx(k:IntKind)(n:Int):Int:=k.wrap n
inductive PR where
 |cQ (a:AV)
 |prt (c:Prop) (a:AV)
 |no
def Oq(k k':IntKind):Bool:=decide (k=k')
def kk(k k':IntKind)(r:PR):PR:=bif Oq k k' then r else .no
def rf(op:BinOp)(k k':IntKind)(a b:Int):PR:=
 match op with
 |.shl=>.prt (0<=b) (.int k (jx k (a*2^(min b.toNat k.bits))))
 |.shr=>.prt (0<=b) (.int k (a.fdiv (2^(min b.toNat k.bits))))
 |.add=>kk k k' (.cQ (.int k (jx k (a+b))))
 |.sub=>kk k k' (.cQ (.int k (jx k (a -b))))
 |.mul=>kk k k' (.cQ (.int k (jx k (a*b))))
 |.quo=>kk k k' (.prt (b≠0) (.int k (jx k (a.tdiv b))))
 |.rem=>kk k k' (.prt (b≠0) (.int k (a.tmod b)))
 |.and=>kk k k' (.cQ (.int k (k.wrap (BitVec.ofInt k.bits a&&&BitVec.ofInt k.bits b).toNat)))
 |.or=>kk k k' (.cQ (.int k (k.wrap (BitVec.ofInt k.bits a |||BitVec.ofInt k.bits b).toNat)))
 |.xor=>kk k k' (.cQ (.int k (k.wrap (BitVec.ofInt k.bits a^^^BitVec.ofInt k.bits b).toNat)))
 |.andNot=>kk k k' (.cQ (.int k (k.wrap (BitVec.ofInt k.bits a&&& ~~~BitVec.ofInt k.bits b).toNat)))
 |.eql=>kk k k' (.cQ (.bool (a==b)))
 |.neq=>kk k k' (.cQ (.bool (a !=b)))
 |.lss=>kk k k' (.cQ (.bool (decide (a<b))))
 |.leq=>kk k k' (.cQ (.bool (decide (a<=b))))
 |.gtr=>kk k k' (.cQ (.bool (decide (a>b))))
 |.geq=>kk k k' (.cQ (.bool (decide (a>=b))))
def HD(op:BinOp)(a b:List UInt8):PR:=
 match op with
 |.add=>.prt (((a.length+b.length:Nat):Int)<=QK) (.str (a++b))
 |.eql=>.cQ (.bool (a==b))
 |.neq=>.cQ (.bool (!(a==b)))
 |.lss=>.cQ (.bool (Op.bytesLess a b))
 |.leq=>.cQ (.bool (Op.bytesLess a b||a==b))
 |.gtr=>.cQ (.bool (!(Op.bytesLess a b||a==b)))
 |.geq=>.cQ (.bool (!Op.bytesLess a b))
 |_=>.no
def J9(op:BinOp)(x y:AV):PR:=
 match x,y with
 |.int k a,.int k' b=>rf op k k' a b
 |.str a,.str b=>HD op a b
 |_,_=>.no
def Ky(ne:Bool)(x y:AV):PR:=
 match x,y with
 |.bool a,.bool b=>.cQ (.bool ((a==b)!=ne))
 |_,_=>.no
def CP(ne:Bool)(x y:AV):PR:=
 match x,y with
 |.fj,.fj=>.cQ (.bool (!ne))
 |.ref _ _,.fj=>.cQ (.bool ne)
 |.fj,.ref _ _=>.cQ (.bool ne)
 |.ref b o,.ref b' o'=>bif b==b'&&o==o' then .cQ (.bool (!ne))else .no
 |_,_=>.no
def Qk(ne:Bool)(x y:AV):PR:=
 match x,y with
 |.sl _ _ (_+1) _,.sl _ _ 0 []=>.cQ (.bool ne)
 |.arr _ _ _ (_+1),.sl _ _ 0 []=>.cQ (.bool ne)
 |_,_=>.no
def L5:List AV->List AV->Bool
 |[],[]=>true
 |.int k _::r,.int k' _::s=>Oq k k'&&L5 r s
 |_,_=>false
def Qi:List AV->List AV->Bool
 |.int _ a::r,.int _ b::s=>(a==b)&&Qi r s
 |_,_=>true
def aiI(n:Nat)(ne:Bool)(x y:AV):PR:=
 match x,y with
 |.agg cs,.agg ds=>bif L5 cs ds&&cs.length==n then .cQ (.bool (Qi cs ds !=ne))else .no
 |_,_=>.no
def Il(ne:Bool):AV->PR
 |.lx=>.cQ (.bool (!ne))
 |_=>.no
def Ik(ne:Bool):AV->PR
 |.fn _ _ _=>.cQ (.bool ne)
 |.nX=>.cQ (.bool (!ne))
 |_=>.no
def cellsOf:AV->List AV
 |.agg cs=>cs
 |a=>[a]
def na(multi:Bool)(cs:List AV):AV:=match multi,cs with
 |true,cs=>.agg cs
 |false,a::_=>a
 |false,[]=>.undef
def sub(cs:List AV)(off n:Nat):List AV:=(cs.drop off).take n
def views(cs:List AV):List AV:=cs.map view
def bB:AV->List AV
 |.agg cs=>views cs
 |a=>[a]
def setAt(cs:List AV)(off:Nat)(news:List AV):List AV:=cs.take off++news++cs.drop (off+news.length)
def bx(b:Bool):AV->Option Bool
 |.bool x=>some x
 |.when b' (.bool x)=>bif(b'==b)||b' then some x else none
 |_=>none
def fill(f:IX->AV)(cells:List AV):List (Nat×Nat×IX)->Option (List AV)
 |[]=>some cells
 |(off,n,x)::r=>
  let c:=views (cellsOf (f x))
  bif dh (f x)&&(c.length==n&&decide (off+n<=cells.length))then fill f (setAt cells off c) r else none
def gj(n off:Nat)(cs:List AV):Option (List AV):=bif decide (off+n<=cs.length)then some (views (sub cs off n))else none
def lg(n off:Nat):AV->Option (List AV)
 |.loc cs=>gj n off cs
 |_=>none
def qF(n off:Nat):Option SO->Option (List AV)
 |some (.cells cs)=>gj n off cs
 |_=>none
def rd(E:St)(p:AV)(n:Nat):Option (List AV):=
 match p with
 |.loc cs=>gj n 0 cs
 |.lp d off=>lg n off (look E.e d)
 |.sp cs=>gj n 0 cs
 |.ref b off=>qF n off (E.s b)
 |_=>none
def Es(f:IX->AV)(o:Option IX)(agq:Int):Option Int:=
 match o with
 |none=>some agq
 |some x=>match f x with
  |.int _ n=>some n
  |_=>none
def I7(mx:Bool):Int->List AV->Option Int
 |a,[]=>some a
 |a,.int _ b::r=>I7 mx (bif mx then max a b else min a b) r
 |_,_=>none
def pw:AV->Bool
 |.agg _=>false
 |a=>dh a
def Fl(cs:List AV):Prop:=∀c∈cs,pw c=true
def DT(t:Nat)(cs:List AV):Prop:=∀c∈cs,pw c=true\/c=.ng t
def Oz(a:AV):PR:=bif dh a then .cQ (view a)else .no
def Qx:AV->Option (Bool×Bool)
 |.bool x=>some (true,x)
 |.when b (.bool x)=>some (b,x)
 |_=>none
def R6(b:Bool):Option (Bool×Bool)->Option (Bool×Bool)->PR
 |some (g1,p),some (g2,q)=>.prt ((b=true->g1=true)/\(b=false->g2=true)) (.bool (bif b then p else q))
 |_,_=>.no
def YC:AV->Option (Bool×Bool)
 |.iL []=>some (false,false)
 |a=>Qx a
def EM(x y:AV):AV->PR
 |.bool b=>R6 b (YC x) (YC y)
 |_=>.no
def WD(a:AV):PR:=bif dh a then .cQ a else .no
def ckP(c:Prop)(a:AV):PR:=bif dh a then .prt c a else .no
def XY:UnOp->AV->PR
 |.not,.bool b=>.cQ (.bool (!b))
 |.neg,.int k n=>.cQ (.int k (jx k (0 -n)))
 |_,_=>.no
def sL(k:IntKind):AV->PR
 |.int _ n=>.cQ (.int k (jx k n))
 |_=>.no
def agm:AV->PR
 |.str s=>.cQ (.str s)
 |_=>.no
def ju(multi:Bool):Option (List AV)->PR
 |some cs=>WD (na multi cs)
 |none=>.no
def agw(n:Nat)(multi:Bool)(off:Nat):AV->PR
 |.agg cs=>bif decide (off+n<=cs.length)then WD (view (na multi (sub cs off n)))else .no
 |_=>.no
def ag7(n:Nat)(multi:Bool)(len:Nat):AV->AV->PR
 |.agg cs,.int _ k=>bif len*n==cs.length then ckP (0<=k/\k<len) (view (na multi (sub cs (k.toNat*n) n)))else .no
 |_,_=>.no
def tq:AV->AV->PR
 |.str s,.int _ k=>.prt (0<=k/\k<s.length) (.int .u8 (s.getD k.toNat 0).toNat)
 |_,_=>.no
def lu:AV->PR
 |.ref b off=>.cQ (.ref b off)
 |_=>.no
def Ow(c:Prop)(off:Nat):IX->PR
 |.t i=>.prt (c) (.lp i off)
 |.c _=>.no
def gp(off:Nat)(x:IX):AV->PR
 |.lp d o=>.cQ (.lp d (o+off))
 |.sp cs=>bif decide (off<=cs.length)then .cQ (.sp (cs.drop off))else .no
 |.ref b o=>.cQ (.ref b (o+off))
 |.loc _=>Ow True off x
 |_=>.no
def pad(zero cs:List AV):List AV:=bif cs.length==zero.length then cs else zero
def jX(zero:List AV):AV->AV->PR
 |.sl _ s n cs,.int _ k=>bif s==zero.length then .prt (0<=k/\k<n) (.sp (pad zero (views (sub cs (k.toNat*zero.length) zero.length))))else .no
 |.arr b off n _,.int _ k=>.prt (0<=k/\k<n) (.ref b (off+k.toNat*zero.length))
 |_,_=>.no
def fS(sz len:Nat)(x:IX):AV->AV->PR
 |.lp d o,.int _ k=>.prt (0<=k/\k<len) (.lp d (o+k.toNat*sz))
 |.sp cs,.int _ k=>bif decide (len*sz<=cs.length)then .prt (0<=k/\k<len) (.sp (cs.drop (k.toNat*sz)))else .no
 |.ref b o,.int _ k=>.prt (0<=k/\k<len) (.ref b (o+k.toNat*sz))
 |.loc _,.int _ k=>Ow (0<=k/\k<len) (k.toNat*sz) x
 |_,_=>.no
def Aq(sz n:Nat)(cs:List AV):Option Int->Option Int->PR
 |some l,some h=>bif Nat.ble 1 sz then .prt (0<=l/\l<=h/\h<=n) (.sl false sz ((sub cs (l.toNat*sz) ((h -l).toNat*sz)).length/sz) (sub cs (l.toNat*sz) ((h -l).toNat*sz)))else .no
 |_,_=>.no
def iT(off cap l sz:Nat):Nat:=bif cap==l then off else off+l*sz
def xB(sz b off cap:Nat):Option Int->Option Int->PR
 |some l,some h=>.prt (0<=l/\l<=h/\h<=cap) (.arr b (iT off cap l.toNat sz) (h -l).toNat (cap -l.toNat))
 |_,_=>.no
def yK(sz b off cap:Nat):Option Int->Option Int->Option Int->PR
 |some l,some h,some m=>.prt (0<=l/\l<=h/\h<=m/\m<=cap) (.arr b (iT off m.toNat l.toNat sz) (h -l).toNat (m.toNat -l.toNat))
 |_,_,_=>.no
def oA(sz:Nat)(f:IX->AV)(lo hi:Option IX)(mx:IX):AV->PR
 |.arr b off _ cap=>yK sz b off cap (Es f lo 0) (bif hi.isSome then Es f hi 0 else none) (Es f (some mx) 0)
 |_=>.no
def Kh:AV->PR
 |.arr _ _ _ cap=>.cQ (.int .i64 cap)
 |_=>.no
def ss(sz:Nat)(f:IX->AV)(lo hi:Option IX):AV->PR
 |.sl _ s n cs=>bif s==sz then Aq sz n cs (Es f lo 0) (Es f hi n)else .no
 |.arr b off n cap=>xB sz b off cap (Es f lo 0) (Es f hi n)
 |_=>.no
def Cb(s:List UInt8):Option Int->Option Int->PR
 |some l,some h=>.prt (0<=l/\l<=h/\h<=s.length) (.str ((s.drop l.toNat).take (h -l).toNat))
 |_,_=>.no
def lG(f:IX->AV)(lo hi:Option IX):AV->PR
 |.str s=>Cb s (Es f lo 0) (Es f hi s.length)
 |_=>.no
def K8:Option SO->PR
 |some (.map es)=>.cQ (.int .i64 es.length)
 |_=>.no
def zR(s:ae):Nat->AV->PR
 |0,.sl _ _ n _=>.cQ (.int .i64 n)
 |0,.arr _ _ n _=>.cQ (.int .i64 n)
 |1,.str s=>.cQ (.int .i64 s.length)
 |2,.se=>.cQ (.int .i64 0)
 |2,.mp b=>K8 (s b)
 |_,_=>.no
def adI(k:IntKind):Option Int->PR
 |some m=>.cQ (.int k m)
 |none=>.no
def s8(mx:Bool):List AV->PR
 |.int k n::r=>adI k (I7 mx n r)
 |_=>.no
def Im:Option AV->PR
 |some a=>WD (view a)
 |none=>.no
def po(k:Nat):AV->PR
 |.iL vs=>Im vs[k]?
 |_=>.no
def byteOf:AV->Option UInt8
 |.int .u8 n=>if 0<=n/\n<256 then some (UInt8.ofNat n.toNat)else none
 |_=>none
def P1{α:Type}:Option α->Option (List α)->Option (List α)
 |some a,some l=>some (a::l)
 |_,_=>none
def bytesOf:List AV->Option (List UInt8)
 |[]=>some []
 |a::r=>P1 (byteOf a) (bytesOf r)
def XT:Option (List UInt8)->PR
 |some l=>.cQ (.str l)
 |none=>.no
def qk:AV->PR
 |.sl _ sz _ cs=>bif sz==1 then XT (bytesOf cs)else .no
 |_=>.no
def AH:Option (List AV)->PR
 |some cs=>.cQ (.agg cs)
 |none=>.no
def NI(a:AV):Option (List AV)->Option (List AV)
 |some l=>bif dh a then some (view a::l)else none
 |none=>none
def cF(f:IX->AV):List IX->Option (List AV)
 |[]=>some []
 |x::r=>NI (f x) (cF f r)
def s7(fi:Nat):Option (List AV)->Option (List AV)->PR
 |some a,some b=>.cQ (.fn fi a b)
 |_,_=>.no
def I1(zero:List AV)(multi:Bool)(off:Nat):Option SO->PR
 |some (.cells cs)=>ckP (off+zero.length<=cs.length) (na multi (pad zero (views (sub cs off zero.length))))
 |_=>.no
def Ey(zero:List AV)(multi:Bool)(s:ae):AV->PR
 |.ref b off=>I1 zero multi off (s b)
 |_=>.no
def La(k:IntKind)(off:Nat):Option SO->Prop
 |some (.cells cs)=>∃n,cs[off]? =some (.int k n)
 |_=>False
def intOf:Option AV->Int
 |some (.int _ n)=>n
 |_=>0
def Lc(off:Nat):Option SO->Int
 |some (.cells cs)=>intOf cs[off]?
 |_=>0
def yn(k:IntKind)(s:ae):AV->PR
 |.ref b off=>.prt (La k off (s b)) (.int k (Lc off (s b)))
 |_=>.no
def pv(o:qN)(f:IX->AV)(E:St):PR:=
 match o with
 |.oj false x=>Oz (f x)
 |.pick c x y=>EM (E.x x) (E.x y) (f c)
 |.bin op x y=>J9 op (f x) (f y)
 |.WQ ne x y=>Ky ne (f x) (f y)
 |.Tx ne x y=>CP ne (f x) (f y)
 |.Ty ne x (.c (.sl true z 0 []))=>Qk ne (f x) (.sl true z 0 [])
 |.un op x=>XY op (f x)
 |.me k x=>sL k (f x)
 |.load n multi x=>ju multi (rd E (f x) n)
 |.kY x i=>tq (f x) (f i)
 |.nilCheck x=>lu (f x)
 |.fieldAddr off x=>gp off x (f x)
 |.indexAddr zero x i=>jX zero (f x) (f i)
 |.iS sz len x i=>fS sz len x (f x) (f i)
 |.slice sz x lo hi none=>ss sz f lo hi (f x)
 |.oS x lo hi=>lG f lo hi (f x)
 |.len cls x=>zR E.s cls (f x)
 |.nD mx xs=>s8 mx (xs.map f)
 |.extract x k=>po k (f x)
 |.build zero parts=>AH (fill f zero parts)
 |.sd fi first eF=>s7 fi (cF f first) (cF f eF)
 |.jU x=>qk (f x)
 |.ki zero multi x=>Ey zero multi E.s (f x)
 |.nA k x=>yn k E.s (f x)
 |.slice sz x lo hi (some mx)=>oA sz f lo hi mx (f x)
 |.cap x=>Kh (f x)
 |.T9 ne x=>Ik ne (f x)
 |.Ua ne x=>Il ne (f x)
 |_=>.no
inductive c5 where
 |none
 |frame
 |slot (i j:Nat)
 |loc (i:Nat)
 |sh
 |cell (b j:Nat)
 |res (j:Nat)
 deriving DecidableEq
structure Gh where
 R:Nat->Nat
 O:Nat->c5
inductive VR(w:World)(R:Nat->Nat):AV->Value->Prop where
 |undef (v:Value):VR w R .undef v
 |bool (b:Bool):VR w R (.bool b) (.bool b)
 |int (k:IntKind) (n:Int):VR w R (.int k n) (.int k n)
 |str (s:List UInt8):VR w R (.str s) (.string ⟨s.toArray⟩)
 |fj:VR w R .fj (.pointer none)
 |ref (b off:Nat):VR w R (.ref b off) (.pointer (some ⟨b,off,none⟩))
 |sp (cs:List AV) (b off:Nat) (u:Nat->Value) (hf:Fl cs) (hR:off+cs.length<=R b)
   (hc:∀(j:Nat)(c:AV),cs[j]? =some c->w.cell? ⟨b,off+j,none⟩=some (u j)) (hr:∀(j:Nat)(c:AV),cs[j]? =some c->VR w R c (u j)):
   VR w R (.sp cs) (.pointer (some ⟨b,off,none⟩))
 |slnil (own:Bool) (sz:Nat):VR w R (.sl own sz 0 []) (.slice none 0 0)
 |sle (sz:Nat) (a:Addr) (cap:Nat):VR w R (.sl false sz 0 []) (.slice (some a) 0 cap)
 |sl (own:Bool) (sz n:Nat) (cs:List AV) (b off cap:Nat) (u:Nat->Value) (hf:Fl cs) (hl:cs.length=n*sz) (hR:off+cs.length<=R b) (fh:n<=cap)
   (hc:∀(j:Nat)(c:AV),cs[j]? =some c->w.cell? ⟨b,off+j,none⟩=some (u j)) (hr:∀(j:Nat)(c:AV),cs[j]? =some c->VR w R c (u j)):
   VR w R (.sl own sz n cs) (.slice (some ⟨b,off,none⟩) n cap)
 |arr (b off len cap:Nat):VR w R (.arr b off len cap) (.slice (some ⟨b,off,none⟩) len cap)
 |Fo (b off:Nat):VR w R (.arr b off 0 0) (.slice none 0 0)
 |agg (cs:List AV) (vs:Array Value) (hf:Fl cs) (hl:vs.size=cs.length) (hr:∀(j:Nat)(c:AV)(v:Value),cs[j]? =some c->vs[j]? =some v->VR w R c v):VR w R (.agg cs) (.agg vs)
 |iL (cs:List AV) (vs:Array Value) (hl:vs.size=cs.length) (hr:∀(j:Nat)(c:AV)(v:Value),cs[j]? =some c->vs[j]? =some v->VR w R c v):VR w R (.iL cs) (.tuple vs)
 |fn (f:Nat) (first eF:List AV) (vf vc:Array Value) (hl:vf.size=first.length) (hr:∀(j:Nat)(c:AV)(v:Value),first[j]? =some c->vf[j]? =some v->VR w R c v)
   (hl':vc.size=eF.length) (ve:∀(j:Nat)(c:AV)(v:Value),eF[j]? =some c->vc[j]? =some v->VR w R c v):VR w R (.fn f first eF) (.func (.func f) vf vc)
 |nX:VR w R .nX .nilFunc
 |mp (b:Nat):VR w R (.mp b) (.map (some b))
 |se:VR w R .se (.map none)
 |when (b:Bool) (a:AV) (v:Value) (h:b=true->VR w R a v):VR w R (.when b a) v
 |one (v:Value) (h:v.oneCell'=true):VR w R .one v
 |ng (t:Nat):VR w R (.ng t) (.pointer none)
 |lx:VR w R .lx .nilIface
 |bb (t n:Nat) (cs:List AV) (v:Value) (h:VR w R (.sl true 1 n cs) v) (h0:n=0->v=.slice none 0 0):VR w R (.bb t n cs) v
def dn(G:Gh)(w:World)(o:c5)(a:AV)(v:Value):Prop:=
 match a with
 |.sl true sz n _=>∀base m cap,v=.slice base m cap->(cap≠n\/0<n)->
   ∃b off c e fz,base=some ⟨b,off,none⟩/\G.O b=o/\G.R b=off+n*sz/\w.heap[b]? =some (.cells c e fz)/\c.size=off+cap*sz/\
    (∀k,k<c.size->¬(fz.1<=k/\k<fz.2))/\fz.1<=fz.2/\off=0/\(fz=(0,0)\/(0<n/\∃x,c[0]? =some (.int .u8 x)))/\
    ∀(k:Nat)(y:Value),off+n*sz<=k->c[k]? =some y->y.oneCell'=true
 |.bb e n _=>∀base m cap,v=.slice base m cap->(cap≠n\/0<n)->
   ∃b off c fz,base=some ⟨b,off,none⟩/\G.O b=o/\G.R b=off+n*1/\w.heap[b]? =some (.cells c e fz)/\c.size=off+cap*1/\
    (∀k,k<c.size->¬(fz.1<=k/\k<fz.2))/\fz.1<=fz.2/\off=0/\(fz=(0,0)\/(0<n/\∃x,c[0]? =some (.int .u8 x)))/\
    ∀(k:Nat)(y:Value),off+n*1<=k->c[k]? =some y->y.oneCell'=true
 |_=>True
def dt(G:Gh)(w:World)(o:Nat->c5)(cs:List AV)(c:Array Value):Prop:=c.size=cs.length/\∀(j:Nat)(x:AV)(y:Value),cs[j]? =some x->c[j]? =some y->VR w G.R x y/\dn G w (o j) x y
def UsR(G:Gh)(w:World)(o:c5)(sz n:Nat)(cs:List AV)(v:Value):Prop:=
 (n=0/\cs=[]/\(v=.slice none 0 0\/∃b off,v=.slice (some ⟨b,off,none⟩) 0 0))\/
 ∃b cap c t sp,0<cap/\n<=cap/\v=.slice (some ⟨b,0,none⟩) n cap/\G.O b=o/\G.R b=0/\w.heap[b]? =some (.cells c t (0,0))/\c.size=cap*sz/\cs.length=n*sz/\(cs++sp).length=cap*sz/\
  (∀(j:Nat)(x:AV)(u:Value),(cs++sp)[j]? =some x->c[j]? =some u->VR w G.R x u)/\Fl (cs++sp)/\views (cs++sp)=cs++sp
def du(G:Gh)(w:World)(e:List (Nat×AV))(tmps:Array Value)(i:Nat):AV->Value->Prop
 |.loc cs,v=>∃b c t,v=.pointer (some ⟨b,0,none⟩)/\G.O b=.loc i/\G.R b=0/\w.heap[b]? =some (.cells c t (0,0))/\dt G w (.cell b) cs c/\Fl cs
 |.lp d off,v=>∃b,v=.pointer (some ⟨b,off,none⟩)/\∀cs,look e d=.loc cs->tmps[d]? =some (.pointer (some ⟨b,0,none⟩))
 |.iL vs,v=>∃ys:Array Value,v=.tuple ys/\dt G w (fun j=>.slot i (j+1)) vs ys
 |.when b a,v=>(b=true->du G w e tmps i a v)/\(b=false->v=.tuple #[])
 |.us sz n cs,v=>UsR G w (.slot i 0) sz n cs v
 |a,v=>VR w G.R a v/\dn G w (.slot i 0) a v
def bG:AV->Nat->Prop
 |.lp d _,d'=>d=d'
 |.when _ a,d'=>bG a d'
 |_,_=>False
structure cq(G:Gh)(w:World):Prop where
 jJ:∀b,w.heap.size<=b->G.O b=.none
 kB:∀b,w.heap.size<=b->G.R b=0
def ab8(G:Gh)(w:World)(x:AV×AV)(y:MapEntry):Prop:=VR w G.R x.1 y.key/\VR w G.R x.2 y.val
def a8(G:Gh)(w:World)(s:ae):Prop:=
 ∀b o,s b=some o->G.O b=.sh/\G.R b=0/\match o with
  |.cells cs=>∃c t,w.heap[b]? =some (.cells c t (0,0))/\dt G w (.cell b) cs c/\DT t cs
  |.map es=>∃jm clock,w.heap[b]? =some (.map jm clock)/\jm.size=es.length/\∀(j:Nat)(x:AV×AV)(y:MapEntry),es[j]? =some x->jm[j]? =some y->ab8 G w x y
structure Inv(G:Gh)(n:Nat)(D:List Deferred)(E:St)(a:Act)(w:World):Prop where
 ba:cq G w
 store:a8 G w E.s
 size:a.tmps.size=n
 cu:∀(i:Nat)(v:Value),a.tmps[i]? =some v->du G w E.e a.tmps i (look E.e i) v
 CL:∀i,n<=i->look E.e i=.undef
 JY:∀i d,bG (look E.e i) d->(i,d)∈E.lp
 pn:a.defers=D
structure aG(G:Gh)(w:World)(G':Gh)(w':World):Prop where
 os:w'.os=w.os
 tape:w'.tape=w.tape
 output:w'.output=w.output
 drawn:w.drawn<=w'.drawn
 size:w.heap.size<=w'.heap.size
 mono:∀b,b<w.heap.size->G.R b<=G'.R b
 mj:∀b k,b<w.heap.size->k<G.R b->w'.cell? ⟨b,k,none⟩=w.cell? ⟨b,k,none⟩
 frame:∀b,b<w.heap.size->G.O b=.frame\/G.O b=.none->w'.heap[b]? =w.heap[b]?
 jy:∀b,b<w.heap.size->G.O b=.frame->G'.O b=.frame/\G'.R b=G.R b
 pN:∀b,b<w.heap.size->G.O b=.none->G'.O b=.none/\G'.R b=G.R b
def XJ(G:Gh)(w:World)(a:AV)(v:Value):Prop:=
 match a with
 |.us sz n cs=>UsR G w (.res 0) sz n cs v
 |a=>VR w G.R a v/\dn G w (.res 0) a v
def mB(G:Gh)(w:World)(rs:List AV)(v:Value):Prop:=
 match rs with
 |[a]=>XJ G w a v
 |rs=>∃ys:Array Value,v=.tuple ys/\dt G w (fun j=>.res j) rs ys
def vW(G:Gh):Prop:=∀b,G.O b=.none\/G.O b=.frame\/G.O b=.sh\/∃b' j,G.O b=.cell b' j/\G.O b'=.sh
def mn(w:World)(R:Nat->Nat)(args:List AV)(vs:Array Value):Prop:=vs.size=args.length/\∀(j:Nat)(a:AV)(v:Value),args[j]? =some a->vs[j]? =some v->VR w R a v
def FN(P:Program)(f:FuncId)(args:List AV)(s:ae)(Q:List AV->ae->Prop):Prop:=
 ∀(G:Gh)(w:World)(vs:Array Value),cq G w->vW G->a8 G w s->mn w G.R args vs->
  Calls P f vs w fun e w'=>∃v rs s' G',e=.returned v/\Q rs s'/\cq G' w'/\a8 G' w' s'/\mB G' w' rs v/\aG G w G' w'
theorem FN.mono{P:Program}{f:FuncId}{args:List AV}{s:ae}{Q Q':List AV->ae->Prop}(h:FN P f args s Q)(hq:∀rs s',Q rs s'->Q' rs s'):FN P f args s Q':=fun G w vs h1 h2 h3 h4=>(h G w vs h1 h2 h3 h4).mono fun _ _⟨v,rs,s',G',a,b,c⟩=>⟨v,rs,s',G',a,hq _ _ b,c⟩
def FE(P:Program)(f:FuncId)(args:List AV)(s:ae)(rs:List AV)(s':ae):Prop:=FN P f args s fun r t=>r=rs/\t=s'
theorem FE.app{P:Program}{f:FuncId}{args:List AV}{s s':ae}{rs:List AV}{Q:List AV->ae->Prop}(h:FE P f args s rs s')(hq:Q rs s'):FN P f args s Q:=FN.mono h fun _ _⟨h1,h2⟩=>by rw[h1,h2];exact hq
def fk:List AV->AV
 |[a]=>a
 |rs=>.iL rs
def room:Nat:=140737488355328
def lq(lp:List (Nat×Nat))(d:Option Nat):Bool:=match d with
 |some d=>lp.all fun x=>!Nat.beq x.2 d
 |none=>true
def St.drain(E:St)(x:IX):St:=match x with
 |.t i=>E.put (some i) (view (look E.e i))
 |.c _=>E
def fp(off:Nat)(news:List AV)(iJ:List AV):Option (List AV):=bif decide (off+news.length<=iJ.length)then some (setAt iJ off news)else none
def wrL(E:St)(d:Nat):Option (List AV)->Option St
 |some cs=>some (E.put (some d) (.loc cs))
 |none=>none
def wrS(E:St)(b:Nat):Option (List AV)->Option St
 |some cs=>some {E with s:=E.s.set b (.cells cs)}
 |none=>none
def Ny(E:St)(d off:Nat)(news:List AV):AV->Option St
 |.loc iJ=>wrL E d (fp off news iJ)
 |_=>none
def Tm(E:St)(b off:Nat)(news:List AV):Option SO->Option St
 |some (.cells iJ)=>wrS E b (fp off news iJ)
 |_=>none
def ae8(E:St)(news iJ:List AV):IX->Option St
 |.t d=>wrL E d (fp 0 news iJ)
 |.c _=>none
def JT(E:St)(p:AV)(i:IX)(news:List AV):Option St:=
 match p with
 |.loc iJ=>ae8 E news iJ i
 |.lp d off=>Ny E d off news (look E.e d)
 |.ref b off=>Tm E b off news (E.s b)
 |_=>none
def Ri:AV->AV->Bool
 |.int _ a,.int _ b=>a==b
 |.str a,.str b=>a==b
 |.bool a,.bool b=>a==b
 |_,_=>false
def qx:List AV->List AV->Bool
 |[],[]=>true
 |a::x,b::y=>Ri a b&&qx x y
 |_,_=>false
def wY(a b:AV):Bool:=qx (cellsOf a) (cellsOf b)
def fM(k:AV):List (AV×AV)->Option AV
 |[]=>none
 |x::r=>bif wY k x.1 then some x.2 else fM k r
def xu(k v:AV):List (AV×AV)->List (AV×AV)
 |[]=>[(k,v)]
 |x::r=>bif wY k x.1 then(k,v)::r else x::xu k v r
section
variable(P:Program)
def Rz(E:St)(x:IX)(d:Option Nat)(K:St->Prop)(a:AV):Prop:=dh a=true/\K ((E.drain x).put d a)
def Wv(n:Nat)(E:St)(d:Option Nat)(K:St->Prop)(a:AV):Prop:=dh a=true/\(cellsOf a).length=n/\K (E.put d (.loc (views (cellsOf a))))
def Wx(n:Nat)(E:St)(d:Option Nat)(K:St->Prop)(a:AV):Prop:=dh a=true/\(cellsOf a).length=n/\∀b,E.s b=none->K ({E with s:=E.s.set b (.cells (views (cellsOf a)))}.put d (.ref b 0))
def wj(sz n:Nat)(E:St)(d:Option Nat)(K:St->Prop):Option (List AV)->Prop
 |some cs=>cs.length=n*sz/\K (E.put d (.sl true sz n cs))
 |none=>False
def Pt(d:Option Nat)(K:St->Prop):Option St->Prop
 |some τ=>K (τ.put d (.iL []))
 |none=>False
def LM(n:Nat)(E:St)(p:IX)(v:IX)(d:Option Nat)(K:St->Prop)(a:AV):Prop:=dh a=true/\(bB a).length=n/\Pt d K (JT (E.drain v) (E.x p) p (bB a))
def lJ(sz bytes:Nat)(E:St)(x:IX)(d:Option Nat)(K:St->Prop):AV->AV->Prop
 |.sl true s n cs,.sl _ s' m ds=>s=sz/\(s'=sz\/m=0)/\(n+m)*bytes<=room/\K ((E.drain x).put d (.sl true sz (n+m) (cs++views ds)))
 |.sl true s n cs,.str ds=>s=sz/\sz=1/\(n+ds.length)*bytes<=room/\K ((E.drain x).put d (.sl true sz (n+ds.length) (cs++ds.map fun c=>.int .u8 c.toNat)))
 |_,_=>False
def Ah(E:St)(d:Option Nat)(K:St->Prop):AV->Prop
 |.sl _ sz _ cs=>sz=1/\∃s:List UInt8,cs=(s.map fun c=>.int .u8 c.toNat)/\K (E.put d (.str s))
 |_=>False
def U1:List UInt8->Bool
 |[]=>false
 |_::_=>true
def pk(E:St)(d:Option Nat)(K:St->Prop):AV->Prop
 |.str s=>K (E.put d (.sl (U1 s) 1 s.length (s.map fun c=>.int .u8 c.toNat)))
 |_=>False
def xc(bytes:Nat)(zero:List AV)(E:St)(d:Option Nat)(K:St->Prop):AV->AV->Prop
 |.int _ l,.int _ c=>0<=l/\l<=c/\c*bytes<=room/\
   ∀b,E.s b=none->K ({E with s:=E.s.set b (.cells ((List.replicate c.toNat zero).flatten))}.put d (.arr b 0 l.toNat c.toNat))
 |_,_=>False
def afw(sz bytes:Nat)(E:St)(d:Option Nat)(K:St->Prop):AV->Prop
 |.int _ c=>0<=c/\c*bytes<=room/\K (E.put d (.sl true sz 0 []))
 |_=>False
def Lk(ok:Bool)(a:AV)(b:Bool):AV:=match ok with
 |true=>.iL [a,.bool b]
 |false=>a
def Bo:AV->Bool
 |.int .u8 _=>true
 |_=>false
def ga:mz->AV->Bool
 |.int k,.int k' _=>Oq k k'
 |.str,.str _=>true
 |.bool,.bool _=>true
 |.bytes n,.agg cs=>cs.length==n&&cs.all Bo
 |_,_=>false
def nw(kk:mz)(es:List (AV×AV)):Bool:=es.all fun x=>ga kk x.1
def uz(zero:AV)(ok:Bool):Option AV->AV
 |some v=>Lk ok (view v) true
 |none=>Lk ok (view zero) false
def vG:AV->Bool
 |.iL _=>true
 |a=>dh a
def BT:Bool->AV->Bool
 |true,_=>true
 |false,a=>dh a
def Pl(ok:Bool)(c:Prop)(a:AV):PR:=bif BT ok a then .prt c a else .no
def sW(kk:mz)(zero:AV)(ok:Bool)(k:AV):Option SO->PR
 |some (.map es)=>Pl ok (ga kk k=true/\nw kk es=true) (uz zero ok (fM k es))
 |_=>.no
def jQ(kk:mz)(zero:AV)(ok:Bool)(s:ae)(k:AV):AV->PR
 |.mp b=>sW kk zero ok k (s b)
 |.se=>Pl ok (ga kk k=true) (Lk ok (view zero) false)
 |_=>.no
def z7:AV->PR
 |.sl true 1 (n+1) (.int .u8 x::cs)=>.cQ (.sl false 1 (n+1) (.int .u8 x::cs))
 |_=>.no
def Cp:AV->PR
 |.iL vs=>.cQ (.iL (views vs))
 |_=>.no
def OJ(E:St)(d:Option Nat)(K:St->Prop):PR->Prop
 |.cQ a=>K (E.put d a)
 |.prt c a=>c/\K (E.put d a)
 |.no=>False
def aaH(kk:mz)(b:Nat)(E:St)(k v:AV)(d:Option Nat)(K:St->Prop):Option SO->Prop
 |some (.map es)=>(dh v=true/\ga kk k=true/\nw kk es=true)/\K ({E with s:=E.s.set b (.map (xu (view k) (view v) es))}.put d (.iL []))
 |_=>False
def xd(kk:mz)(E:St)(k v:AV)(d:Option Nat)(K:St->Prop):AV->Prop
 |.mp b=>aaH kk b E k v d K (E.s b)
 |_=>False
def Rc:AV->Bool
 |.us _ _ _=>true
 |_=>false
def jA:List AV->Bool
 |[a]=>dh a||Rc a
 |_=>true
def Me(E:St)(d:Option Nat)(K:St->Prop)(rs:List AV)(s':ae):Prop:=jA rs=true/\K ({E with s:=s'}.put d (fk rs))
def ue(f:Nat)(E:St)(d:Option Nat)(K:St->Prop):Option (List AV)->Prop
 |some args=>FN P f args E.s (Me E d K)
 |none=>False
def tJ(f:FuncId):Bool:=match P.funcs[f]? with
 |some fn=>fn.name != "runtime.NumGoroutine" &&fn.body.isSome
 |none=>false
def PL(f:Nat)(first eF:List AV)(E:St)(d:Option Nat)(K:St->Prop):Option (List AV)->Prop
 |some args=>tJ P f=true/\FN P f (first++args++eF) E.s (Me E d K)
 |none=>False
def uW(E:St)(args:Option (List AV))(d:Option Nat)(K:St->Prop):AV->Prop
 |.fn f first eF=>PL P f first eF E d K args
 |_=>False
def xg(g:Bool)(E:St)(x:IX):AV:=tZ g (E.x x)
def XW(i:Nat)(E:St)(W:St->Prop):AV->Prop
 |.us sz n cs=>(∀b cap sp,E.s b=none->0<cap->n<=cap->(cs++sp).length=cap*sz->Fl (cs++sp)->views sp=sp->W ({E with s:=E.s.set b (.cells (cs++sp))}.put (some i) (.arr b 0 n cap)))/\
   (n=0->∀b off,W (E.put (some i) (.arr b off 0 0)))
 |_=>False
def vB(sz:Nat):AV->AV
 |.arr _ 0 0 0=>.sl true sz 0 []
 |a=>a
def JM(sz:Nat):AV->List AV
 |.agg cs=>(views cs).map (vB sz)
 |a=>[a]
def afZ(sz n:Nat)(E:St)(p:IX)(v:IX)(d:Option Nat)(K:St->Prop)(a:AV):Prop:=dh a=true/\(JM sz a).length=n/\Pt d K (JT (E.drain v) (E.x p) p (JM sz a))
def Ww(sz n:Nat)(E:St)(d:Option Nat)(K:St->Prop)(a:AV):Prop:=dh a=true/\(cellsOf a).length=n/\∀b,E.s b=none->K ({E with s:=E.s.set b (.cells ((views (cellsOf a)).map (vB sz)))}.put d (.ref b 0))
def xS(sz n:Nat)(E:St)(d:Option Nat)(K:St->Prop):Option (List AV)->Prop
 |some cs=>cs.length=n*sz/\∀b,E.s b=none->K ({E with s:=E.s.set b (.cells (views cs))}.put d (.arr b 0 n n))
 |none=>False
def jl(m sz off:Nat):Option SO->Option (Nat×List AV)
 |some (.cells cs)=>bif decide (off+m*sz<=cs.length)then some (m,views (sub cs off (m*sz)))else none
 |_=>none
def tV(s:ae)(sz:Nat):AV->Option (Nat×List AV)
 |.sl _ s' m ds=>bif s'==sz then some (m,views ds)else bif m==0 then some (0,[])else none
 |.str l=>bif sz==1 then some (l.length,l.map fun c=>.int .u8 c.toNat)else none
 |.arr b off m _=>bif m==0 then some (0,[])else jl m sz off (s b)
 |_=>none
def nH(s:ae)(sz b off n:Nat):Option (List AV):=bif n==0 then some []else(jl n sz off (s b)).map Prod.snd
def vK(sz b off cap:Nat):Option SO->Prop
 |some (.cells cs)=>off+cap*sz<=cs.length
 |_=>False
def setRow(s:ae)(b off:Nat)(news:List AV):Option SO->ae
 |some (.cells cs)=>s.set b (.cells (setAt cs off news))
 |_=>s
def NG(sz bytes:Nat)(zero:List AV)(E:St)(d:Option Nat)(K:St->Prop)(b off n cap m:Nat)(ds:List AV):Option (List AV)->Prop
 |some olds=>zero.length=sz/\(n+m<=cap->(m=0/\K (E.put d (.arr b off n cap)))\/(vK sz b off cap (E.s b)/\K ({E with s:=setRow E.s b (off+n*sz) ds (E.s b)}.put d (.arr b off (n+m) cap))))/\
   (cap<n+m->(n+m)*bytes<=room/\∀b' dp,E.s b'=none->n+m<=dp->K ({E with s:=E.s.set b' (.cells (olds++ds++(List.replicate (dp -(n+m)) zero).flatten))}.put d (.arr b' 0 (n+m) dp)))
 |none=>False
def dY(sz bytes:Nat)(zero:List AV)(E:St)(d:Option Nat)(K:St->Prop):AV->Option (Nat×List AV)->Prop
 |.arr b off n cap,some (m,ds)=>NG sz bytes zero E d K b off n cap m ds (nH E.s sz b off n)
 |_,_=>False
def wb(sz bytes:Nat)(zero:List AV)(E:St)(d:Option Nat)(K:St->Prop):AV->AV->Prop
 |.arr b off n cap,.int .i64 c=>0<=c/\cap<n+c.toNat/\views zero=zero/\NG sz bytes zero E d K b off n cap c.toNat (List.replicate c.toNat zero).flatten (nH E.s sz b off n)
 |_,_=>False
def xV(sz:Nat)(E:St)(d:Option Nat)(K:St->Prop):AV->Option (Nat×List AV)->Prop
 |.arr b off n _,some (m,ds)=>(min m n=0/\K (E.put d (.int .i64 0)))\/(vK sz b off n (E.s b)/\K ({E with s:=setRow E.s b off (ds.take (min m n*sz)) (E.s b)}.put d (.int .i64 (min m n:Nat))))
 |_,_=>False
def Ag(zero:List AV)(E:St)(d:Option Nat)(K:St->Prop):AV->Prop
 |.arr b off n _=>(n=0/\K (E.put d (.iL [])))\/(vK zero.length b off n (E.s b)/\views zero=zero/\K ({E with s:=setRow E.s b off (List.replicate n zero).flatten (E.s b)}.put d (.iL [])))
 |_=>False
def acb(P:Program)(f:FuncId):Prop:=∀(w:World)(a b:Nat)(oa la ca ob lb cb:Nat)(ta tb:TypeId)(x y:Array Value)(fa:Nat×Nat),a≠b->w.heap[a]? =some (.cells x ta fa)->x.size≠0->w.heap[b]? =some (.cells y tb (0,0))->y.size≠0->
 ∃w',(callFunc f #[.slice (some ⟨a,oa,none⟩) la ca,.slice (some ⟨b,ob,none⟩) lb cb]).run P w=.ok (.value (.bool false)) w'/\w'.heap=w.heap/\w'.os=w.os/\w'.tape=w.tape/\w'.output=w.output/\w.drawn<=w'.drawn
def cellsIn:Option SO->Prop
 |some (.cells (_::_))=>True
 |_=>False
def ajb(P:Program)(f:FuncId)(E:St)(d:Option Nat)(K:St->Prop):AV->AV->Prop
 |.sl _ _ (_+1) (_::_),.arr b' _ _ (_+1)=>acb P f/\cellsIn (E.s b')/\K (E.put d (.bool false))
 |_,_=>False
def wH(sz:Nat)(own:Bool)(E:St)(d:Option Nat)(K:St->Prop):AV->Prop
 |.arr b off n cap=>(cap=0/\n=0/\off=0/\K (E.put d (.sl own sz 0 [])))\/(0<cap/\n<=cap/\(own=true->off=0/\vK sz b off cap (E.s b)/\sizeV (off+cap*sz) (E.s b))/\frzK sz own E d K b n (jl n sz off (E.s b)))
 |_=>False
where
 sizeV (k:Nat):Option SO->Prop
  |some (.cells cs)=>cs.length=k
  |_=>False
 frzK (sz:Nat) (own:Bool) (E:St) (d:Option Nat) (K:St->Prop) (b n:Nat):Option (Nat×List AV)->Prop
  |some (_,cs)=>K ({E with s:=E.s.del b}.put d (.sl own sz n cs))
  |none=>False
def Uf(x:IX)(d:Option Nat)(τ:St):St:=match x,d with
 |.t i,some j=>match look τ.e j with
  |.sl _ sz n cs=>τ.put (some i) (.sl false sz n cs)
  |_=>τ
 |_,_=>τ
def K9(sz:Nat)(own:Bool)(E:St)(d:Option Nat)(K:St->Prop):Option (List AV)->Prop
 |some [a]=>dh a=true/\wH sz own E d K a
 |_=>False
def jM(off:Nat)(cs:List AV)(k:List AV->AV->Prop):Prop:=match cs[off]? with
 |some (.sl o sz n ds)=>k (setAt cs off [.sl false sz n ds]) (.sl o sz n ds)
 |some (.bb t n ds)=>k (setAt cs off [.sl false 1 n ds]) (.bb t n ds)
 |_=>False
def Co(off:Nat)(cs:List AV)(k:List AV->AV->Prop):Prop:=match cs[off]? with
 |some (.sl o sz n ds)=>k (setAt cs off [.sl false sz n ds]) (.sl o sz n ds)
 |_=>False
def qA(E:St)(d:Option Nat)(K:St->Prop):AV->Prop
 |.ref b off=>match E.s b with
  |some (.cells cs)=>jM off cs fun cs' a=>K ({E with s:=E.s.set b (.cells cs')}.put d a)
  |_=>False
 |.lp i off=>match look E.e i with
  |.loc cs=>d≠some i/\Co off cs fun cs' a=>K ((E.put (some i) (.loc cs')).put d a)
  |_=>False
 |_=>False
def Bl(j:IX)(off:Nat)(a:AV):Bool:=match j,a with
 |.t i,.lp i' o=>i'==i&&o==off
 |_,_=>false
def Qj(ne:Bool)(E:St)(d:Option Nat)(K:St->Prop):AV->Prop
 |.sl _ _ n _=>∀v:Bool,(v=!ne->n=0)->K (E.put d (.bool v))
 |.arr _ _ _ cap=>∀v:Bool,(v=!ne->cap=0)->K (E.put d (.bool v))
 |_=>False
def P4(d:Option Nat)(K:St->Prop)(E:St)(b off:Nat):Option SO->Prop
 |some (.cells cs)=>off<cs.length/\K (E.put d (.ref b off))
 |_=>False
def Mq(E:St)(d:Option Nat)(K:St->Prop):AV->Prop
 |.ref b off=>P4 d K E b off (E.s b)
 |_=>False
def I0(t cells off u:Nat):Bool:=liesAt P P.depth t (cells/P.cellsOf t) off u 1
def P3(u:Nat)(d:Option Nat)(K:St->Prop)(E:St)(b off:Nat):Option SO->Prop
 |some (.cells cs)=>∃t,cs[off]? =some (.ng t)/\I0 P t cs.length off u=true/\K (E.put d (.ref b off))
 |_=>False
def Mp(u:Nat)(E:St)(d:Option Nat)(K:St->Prop):AV->Prop
 |.ref b off=>P3 P u d K E b off (E.s b)
 |_=>False
def adg(f:Nat):Prop:=∀(x:Value)(w:World),(callFunc f #[x]).run P w=.ok (.value x) w
def Kg(f:Nat)(E:St)(d:Option Nat)(K:St->Prop)(a:AV):Prop:=dh a=true/\adg P f/\K (E.put d (view a))
def Wy(n t j u:Nat)(E:St)(d:Option Nat)(K:St->Prop)(a:AV):Prop:=dh a=true/\(cellsOf a).length=n/\(cellsOf a)[j]? =some .fj/\(cellsOf a)[j+1]? =some (.bb u 0 [])/\∀b,E.s b=none->K ({E with s:=E.s.set b (.cells (setAt (views (cellsOf a)) j [.ng t,.bb u 0 []]))}.put d (.ref b 0))
def ru(t:Nat)(E:St)(x:IX)(d:Option Nat)(K:St->Prop):AV->AV->Prop
 |.bb t' n cs,.sl _ s' m ds=>t=t'/\(s'=1\/m=0)/\(n+m)*1<=room/\K ((E.drain x).put d (.bb t (n+m) (cs++views ds)))
 |.bb t' n cs,.str ds=>t=t'/\(n+ds.length)*1<=room/\K ((E.drain x).put d (.bb t (n+ds.length) (cs++ds.map fun c=>.int .u8 c.toNat)))
 |_,_=>False
def iP(o:qN)(d:Option Nat)(E:St)(K:St->Prop):Prop:=
 match o with
 |.oj _ x=>Rz E x d K (E.x x)
 |.jS zero=>lq E.lp d=true/\K (E.put d (.loc zero))
 |.mb zero=>∀b,E.s b=none->K ({E with s:=E.s.set b (.cells zero)}.put d (.ref b 0))
 |.HF n x=>lq E.lp d=true/\Wv n E d K (E.x x)
 |.zy n x=>Wx n E d K (xg true E x)
 |.ij sz n zero parts=>wj sz n E d K (fill (xg true E) zero parts)
 |.store n p v=>LM n E p v d K (E.x v)
 |.append sz bytes x y=>lJ sz bytes E x d K (E.x x) (E.x y)
 |.jU x=>Ah E d K (xg true E x)
 |.iW x=>pk E d K (xg true E x)
 |.kT _ bytes zero l c=>xc bytes zero E d K (xg true E l) (xg true E c)
 |.makeMap=>∀b,E.s b=none->K ({E with s:=E.s.set b (.map [])}.put d (.mp b))
 |.call f args=>ue P f E d K (cF (xg true E) args)
 |.iC x args=>uW P E (cF (xg true E) args) d K (xg true E x)
 |.lookup kk zero ok x k=>OJ E d K (jQ kk zero ok E.s (xg true E k) (xg true E x))
 |.kJ x=>OJ E d K (z7 (xg true E x))
 |.tS x=>OJ E d K (Cp (xg true E x))
 |.mapUpdate kk x k v=>xd kk E (xg true E k) (xg true E v) d K (xg true E x)
 |.lR sz n zero parts=>xS sz n E d K (fill (xg true E) zero parts)
 |.nY sz bytes zero x y=>dY sz bytes zero E d K (E.x x) (tV E.s sz (E.x y))
 |.oc sz bytes zero x y=>wb sz bytes zero E d K (E.x x) (xg true E y)
 |.yZ sz x y=>xV sz E d K (E.x x) (tV E.s sz (E.x y))
 |.rD zero x=>Ag zero E d K (E.x x)
 |.Ue sz own x=>wH sz own E d (fun τ=>K (Uf x d τ)) (E.x x)
 |.zi sz own x=>K9 sz own E d K (rd E (xg true E x) 1)
 |.mw x=>qA E d K (E.x x)
 |.my off j x=>Bl j off (E.x x)=true/\qA E d K (E.x x)
 |.WR ne x=>Qj ne E d K (E.x x)
 |.HG sz n x=>Ww sz n E d K (E.x x)
 |.HH n t j u x=>Wy n t j u E d K (E.x x)
 |.n9 t x y=>ru t E x d K (E.x x) (E.x y)
 |.HX x=>Mq E d K (E.x x)
 |.yW f x=>Kg P f E d K (E.x x)
 |.HW u x=>Mp P u E d K (E.x x)
 |.yV f i args=>XW i E (fun τ=>ue P f τ d K (cF (xg true τ) args)) (look E.e i)
 |_=>False
def bZ(E:St):AV->Option Nat->St
 |.lp t _,some i=>{E with lp:=(i,t)::E.lp}
 |.when _ a,d=>bZ E a d
 |_,_=>E
def Xn(o:qN)(E:St)(d:Option Nat)(K:St->Prop):PR->Prop
 |.cQ a=>K ((bZ E a d).put d a)
 |.prt c a=>c/\K ((bZ E a d).put d a)
 |.no=>iP P o d E K
def owp(o:qN)(d:Option Nat)(E:St)(K:St->Prop):Prop:=Xn P o E d K (pv o (xg true E) E)
def Pr(g:Bool)(o:qN)(E:St)(d:Option Nat)(K:St->Prop):PR->Prop
 |.cQ a=>K ((bZ E a d).put d (.when g a))
 |.prt c a=>(g=true->c)/\K ((bZ E a d).put d (.when g a))
 |.no=>(g=true->owp P o d E K)/\(g=false->K (E.put d (.iL [])))
def x7(o:qN)(d:Option Nat)(t:Nat)(want:Bool)(E:St)(K:St->Prop):AV->Prop
 |.bool b=>Pr P (b==want) o E d K (pv o (xg (b==want) E) E)
 |.when b' (.bool b)=>Pr P (b'&&(b==want)) o E d K (pv o (xg (b'&&(b==want)) E) E)
 |.iL []=>K (E.put d (.iL []))
 |_=>False
def JX(o:aq)(E:St)(K:St->Prop):Prop:=
 match o.g with
 |none=>owp P o.op o.dst E K
 |some (t,want)=>x7 P o.op o.dst t want E K (look E.e t)
def swp:List aq->St->(St->Prop)->Prop
 |[],E,K=>K E
 |o::r,E,K=>JX P o E (fun τ=>swp r τ K)
def aeL(r:List aq)(K:St->Prop)(τ:St):Prop:=swp P r τ K
def bA:AV->Bool
 |.loc _=>false
 |_=>true
def Tl(g:Bool):PR->PR
 |.cQ a=>.cQ (.when g a)
 |.prt c a=>.prt (g=true->c) (.when g a)
 |.no=>.no
def rdO:qN->Bool
 |.ki _ _ _=>true
 |_=>false
def V6(r g:Bool):PR->PR
 |.cQ a=>.cQ (.when g a)
 |.prt c a=>.prt (g=true->c) (.when g a)
 |.no=>bif r then .prt (g=false) (.when g .undef)else .no
def Lx(o:qN)(want:Bool)(E:St):AV->PR
 |.bool b=>V6 (rdO o) (b==want) (pv o (xg (b==want) E) E)
 |.when g (.bool b)=>V6 (rdO o) (g&&(b==want)) (pv o (xg (g&&(b==want)) E) E)
 |_=>.no
def qv(o:aq)(E:St):PR:=match o.g with
 |none=>pv o.op (xg true E) E
 |some (t,want)=>Lx o.op want E (look E.e t)
def qK(E:St)(d:Option Nat)(K:St->Prop):PR->Prop
 |.cQ a=>bA a=true/\K ((bZ E a d).put d a)
 |.prt c a=>c/\bA a=true/\K ((bZ E a d).put d a)
 |.no=>False
def Sf(f:Nat)(E:St)(d:Option Nat)(K:St->Prop):Option (List AV)->Prop
 |some as=>∃rs,jA rs=true/\FE P f as E.s rs E.s/\K (E.put d (fk rs))
 |none=>False
def Nb(f:Nat)(first eF:List AV)(E:St)(d:Option Nat)(K:St->Prop):Option (List AV)->Prop
 |some as=>tJ P f=true/\∃rs,jA rs=true/\FE P f (first++as++eF) E.s rs E.s/\K (E.put d (fk rs))
 |none=>False
def Sg(E:St)(args:Option (List AV))(d:Option Nat)(K:St->Prop):AV->Prop
 |.fn f first eF=>Nb P f first eF E d K args
 |_=>False
def callee(x:IX)(args:List IX)(g:Bool)(E:St)(f:Nat)(as:List AV):Prop:=∃first eF xs,xg g E x=.fn f first eF/\cF (xg g E) args=some xs/\as=first++xs++eF
def GP(x:IX)(args:List IX)(want:Bool)(E:St)(d:Option Nat)(K:St->Prop):AV->Prop
 |.bool b=>∃rs,jA rs=true/\((b==want)=true->∃f as,callee x args (b==want) E f as/\tJ P f=true/\FE P f as E.s rs E.s)/\K (E.put d (.when (b==want) (fk rs)))
 |.when g (.bool b)=>∃rs,jA rs=true/\((g&&(b==want))=true->∃f as,callee x args (g&&(b==want)) E f as/\tJ P f=true/\FE P f as E.s rs E.s)/\K (E.put d (.when (g&&(b==want)) (fk rs)))
 |_=>False
def GO(f:Nat)(args:List IX)(want:Bool)(E:St)(d:Option Nat)(K:St->Prop):AV->Prop
 |.bool b=>∃rs,jA rs=true/\((b==want)=true->∃as,cF (xg (b==want) E) args=some as/\FE P f as E.s rs E.s)/\K (E.put d (.when (b==want) (fk rs)))
 |.when g (.bool b)=>∃rs,jA rs=true/\((g&&(b==want))=true->∃as,cF (xg (g&&(b==want)) E) args=some as/\FE P f as E.s rs E.s)/\K (E.put d (.when (g&&(b==want)) (fk rs)))
 |_=>False
def ahz(E:St)(d:Option Nat)(K:St->Prop):AV->Prop
 |.sl _ sz _ cs=>sz=1/\∃s:List UInt8,cs=(s.map fun c=>.int .u8 c.toNat)/\K (E.put d (.str s))
 |_=>False
def sK:AV->PR
 |.str s=>.cQ (.sl (U1 s) 1 s.length (s.map fun c=>.int .u8 c.toNat))
 |_=>.no
def ET(sz n:Nat):Option (List AV)->PR
 |some cs=>.prt (cs.length=n*sz) (.sl true sz n cs)
 |none=>.no
def qe(f:IX->AV)(s:ae):qN->PR
 |.iW x=>sK (f x)
 |.ij sz n zero parts=>ET sz n (fill f zero parts)
 |.lookup kk zero ok x k=>jQ kk zero ok s (f k) (f x)
 |.kJ x=>z7 (f x)
 |.tS x=>Cp (f x)
 |_=>.no
def Ps(o:qN)(want:Bool)(E:St):AV->PR
 |.bool b=>Tl (b==want) (qe (xg (b==want) E) E.s o)
 |.when g (.bool b)=>Tl (g&&(b==want)) (qe (xg (g&&(b==want)) E) E.s o)
 |_=>.no
def CB(o:aq)(E:St):PR:=match o.g with
 |none=>qe (xg true E) E.s o.op
 |some (t,want)=>Ps o.op want E (look E.e t)
def q1(o:aq)(E:St)(K:St->Prop):Prop:=
 match o with
 |⟨d,.call f args,none⟩=>Sf P f E d K (cF (xg true E) args)
 |⟨d,.oj true x,none⟩=>Rz E x d K (E.x x)
 |⟨d,.call f args,some (t,want)⟩=>GO P f args want E d K (look E.e t)
 |⟨d,.iC x args,none⟩=>Sg P E (cF (xg true E) args) d K (xg true E x)
 |⟨d,.iC x args,some (t,want)⟩=>GP P x args want E d K (look E.e t)
 |⟨d,.iW x,g⟩=>qK E d K (CB ⟨d,.iW x,g⟩ E)
 |⟨d,.ij sz n zero parts,g⟩=>qK E d K (CB ⟨d,.ij sz n zero parts,g⟩ E)
 |⟨d,.lookup kk zero ok x k,g⟩=>qK E d K (CB ⟨d,.lookup kk zero ok x k,g⟩ E)
 |⟨d,.kJ x,g⟩=>qK E d K (CB ⟨d,.kJ x,g⟩ E)
 |⟨d,.tS x,g⟩=>qK E d K (CB ⟨d,.tS x,g⟩ E)
 |o=>qK E o.dst K (qv o E)
def bp(E:St):Option Nat->Bool
 |some d=>bA (look E.e d)
 |none=>true
def XF:Nat->List aq->St->(St->Prop)->Prop
 |0,l,E,K=>swp P l E K
 |_+1,[],E,K=>K E
 |q+1,o::r,E,K=>bp E o.dst=true/\q1 P o E (fun τ=>XF q r τ K)
def aer(q:Nat)(r:List aq)(K:St->Prop)(τ:St):Prop:=XF P q r τ K
def nC(c:Nat):AV->Bool
 |.lp t _=>!Nat.beq t c
 |.when _ v=>nC c v
 |_=>true
def vz:List Nat->AV->Bool
 |[],_=>true
 |c::T,a=>nC c a&&vz T a
def jK(T:List Nat):List (Nat×AV)->Bool
 |[]=>true
 |p::e=>vz T p.2&&jK T e
def XE(n:Nat)(E:St)(c:Nat)(x:IX)(K:St->Prop):AV->Prop
 |.loc iJ=>iJ.length=n/\dh (E.x x)=true/\(bB (E.x x)).length=n/\K ((E.drain x).put (some c) (.loc (bB (E.x x))))
 |_=>False
def q2(o:aq)(E:St)(K:St->Prop):Prop:=
 match o with
 |⟨none,.store n (.t c) x,none⟩=>XE n E c x K (look E.e c)
 |⟨some d,.jS z,none⟩=>bA (look E.e d)=true/\lq E.lp (some d)=true/\K (E.put (some d) (.loc z))
 |⟨some d,.append sz bytes x y,none⟩=>bA (look E.e d)=true/\lJ sz bytes E x (some d) K (E.x x) (E.x y)
 |⟨some d,.my off (.t i) x,none⟩=>bA (look E.e d)=true/\Bl (.t i) off (E.x x)=true/\qA E (some d) K (E.x x)
 |⟨_,.store _ _ _,_⟩=>False
 |⟨_,.jS _,_⟩=>False
 |⟨_,.append _ _ _ _,_⟩=>False
 |⟨_,.my _ _ _,_⟩=>False
 |o=>bp E o.dst=true/\q1 P o E K
def DC(T:List Nat):Nat->List aq->St->(St->Prop)->Prop
 |0,l,E,K=>swp P l E K
 |_+1,[],E,K=>K E
 |q+1,o::r,E,K=>q2 P o E (fun τ=>jK T τ.e=true/\DC T q r τ K)
def XG(T:List Nat)(q:Nat)(r:List aq)(K:St->Prop)(τ:St):Prop:=jK T τ.e=true/\DC P T q r τ K
def nG:AV->Bool
 |.ref _ _=>false
 |.when _ a=>nG a
 |_=>true
def l4(o:aq)(E:St):Bool:=match o.op with
 |.load _ _ x=>nG (E.x x)
 |.ki _ _ _=>false
 |.nA _ _=>false
 |.lookup _ _ _ _ _=>false
 |.call _ _=>false
 |.iC _ _=>false
 |.len c _=>!Nat.beq c 2
 |_=>true
def xR(f:Nat)(s:ae)(C:AV->ae->Prop):Option (List AV)->Prop
 |some args=>FN P f args s (fun rs s'=>jA rs=true/\C (fk rs) s')
 |none=>False
def HI(f:Nat)(first eF:List AV)(s:ae)(C:AV->ae->Prop):Option (List AV)->Prop
 |some args=>tJ P f=true/\FN P f (first++args++eF) s (fun rs s'=>jA rs=true/\C (fk rs) s')
 |none=>False
def sI(args:Option (List AV))(s:ae)(C:AV->ae->Prop):AV->Prop
 |.fn f first eF=>HI P f first eF s C args
 |_=>False
def rB(bytes:Nat)(zero:List AV)(s:ae)(C:AV->ae->Prop):AV->AV->Prop
 |.int _ l,.int _ c=>0<=l/\l<=c/\c*bytes<=room/\∀b,s b=none->C (.arr b 0 l.toNat c.toNat) (s.set b (.cells ((List.replicate c.toNat zero).flatten)))
 |_,_=>False
def acp(n:Nat)(s:ae)(C:AV->ae->Prop)(a:AV):Prop:=dh a=true/\(cellsOf a).length=n/\∀b,s b=none->C (.ref b 0) (s.set b (.cells (views (cellsOf a))))
def L9(b off:Nat)(news:List AV)(s:ae)(C:AV->ae->Prop):Option SO->Prop
 |some (.cells iJ)=>off+news.length<=iJ.length/\C (.iL []) (s.set b (.cells (setAt iJ off news)))
 |_=>False
def Ja:AV->Bool
 |.sl true _ _ _=>false
 |.bb _ _ _=>false
 |_=>true
def od(n:Nat)(s:ae)(C:AV->ae->Prop)(v:AV):AV->Prop
 |.ref b off=>dh v=true/\Ja v=true/\(bB v).length=n/\L9 b off (bB v) s C (s b)
 |_=>False
def Kc(kk:mz)(b:Nat)(s:ae)(k v:AV)(C:AV->ae->Prop):Option SO->Prop
 |some (.map es)=>(dh v=true/\ga kk k=true/\nw kk es=true)/\C (.iL []) (s.set b (.map (xu (view k) (view v) es)))
 |_=>False
def DX(kk:mz)(s:ae)(k v:AV)(C:AV->ae->Prop):AV->Prop
 |.mp b=>Kc kk b s k v C (s b)
 |_=>False
def sJ(b off:Nat)(s:ae)(C:AV->ae->Prop):Option SO->Prop
 |some (.cells cs)=>jM off cs fun cs' a=>C a (s.set b (.cells cs'))
 |_=>False
def nf(s:ae)(C:AV->ae->Prop):AV->Prop
 |.ref b off=>sJ b off s C (s b)
 |_=>False
def rh(o:qN)(E:St)(C:AV->ae->Prop):Prop:=match o with
 |.call f args=>xR P f E.s C (cF (xg true E) args)
 |.iC x args=>sI P (cF (xg true E) args) E.s C (xg true E x)
 |.kT _ bytes zero l c=>rB bytes zero E.s C (xg true E l) (xg true E c)
 |.makeMap=>∀b,E.s b=none->C (.mp b) (E.s.set b (.map []))
 |.mb zero=>∀b,E.s b=none->C (.ref b 0) (E.s.set b (.cells zero))
 |.zy n x=>acp n E.s C (xg true E x)
 |.store n p v=>od n E.s C (E.x v) (E.x p)
 |.mapUpdate kk x k v=>DX kk E.s (xg true E k) (xg true E v) C (xg true E x)
 |.mw x=>nf E.s C (E.x x)
 |_=>False
def PB(E:St)(d:Option Nat)(K:St->Prop)(a:AV)(s':ae):Prop:=K ({E with s:=s'}.put d a)
def Tv(o:aq)(E:St)(K:St->Prop):Prop:=match o.g with
 |none=>bp E o.dst=true/\rh P o.op E (PB E o.dst K)
 |some _=>False
def JW(T:List Nat):List (Nat×Nat×aq)->St->(St->Prop)->Prop
 |[],E,K=>K E
 |(0,_,o)::r,E,K=>q2 P o E (fun τ=>jK T τ.e=true/\JW T r τ K)
 |(1,_,o)::r,E,K=>l4 o E=true/\q2 P o E (fun τ=>jK T τ.e=true/\JW T r τ K)
 |(2,_,o)::r,E,K=>Tv P o E (fun τ=>jK T τ.e=true/\JW T r τ K)
 |(_+3,_,o)::r,E,K=>JX P o E (fun τ=>jK T τ.e=true/\JW T r τ K)
def PH(T:List Nat)(r:List (Nat×Nat×aq))(K:St->Prop)(τ:St):Prop:=jK T τ.e=true/\JW P T r τ K
def ua:List Bool->List Bool->Bool
 |d::r,x::s=>(!d||x)&&ua r s
 |_,_=>true
def vR:List Bool->List Bool->List Bool
 |[],s=>s
 |x::p,s=>vR p (x::s)
def LW(done:List Bool):List (List Bool)->List Bool->List Bool->List aq->(aq->List Bool->Prop)->Prop
 |row::rows,pre,x::xs,o::r,F=>(bif !x&&ua row done then F o (vR pre (true::xs))else True)/\LW done rows (x::pre) xs r F
 |_,_,_,_,_=>True
def vQ:List aq->List Bool
 |[]=>[]
 |_::r=>false::vQ r
def Pj(gQ:List (List Bool))(ops:List aq)(K:St->Prop):List aq->List Bool->St->Prop
 |[],_,E=>K E
 |_::f,done,E=>LW done gQ [] done ops (fun o d=>JX P o E (fun τ=>Pj gQ ops K f d τ))
def afb(gQ:List (List Bool))(ops:List aq)(K:St->Prop)(f:List aq)(done:List Bool)(τ:St):Prop:=Pj P gQ ops K f done τ
def yE(live:List Nat)(Q:Exit->St->Prop)(τ:St):Prop:=Q .normal (τ.vp live)
def NM(id:Nat)(Q:Exit->St->Prop):Exit->St->Prop
 |.exit i,τ=>bif i==id then Q .normal τ else Q (.exit i) τ
 |x,τ=>Q x τ
def EA(live:List (Nat×Bool))(I:St->Prop)(μ:St->Nat)(m:Nat)(Q:Exit->St->Prop):Exit->St->Prop
 |.normal,ρ=>I (ρ.eQ live)/\μ (ρ.eQ live)<m
 |x,ρ=>Q x ρ
def og(live:List (Nat×Bool))(J:St->Prop)(Q:Exit->St->Prop):Exit->St->Prop
 |.normal,ρ=>J (ρ.eQ live)
 |x,ρ=>Q x ρ
def GY(live:List (Nat×Bool))(I:St->Prop)(Q:Exit->St->Prop):Exit->St->Prop
 |.normal,ρ=>I (ρ.eQ live)
 |.goto _,_=>False
 |x,ρ=>Q x ρ
def Gq(l:Nat)(live:List (Nat×Bool))(I:St->Prop)(Q:Exit->St->Prop):Exit->St->Prop
 |.goto l',ρ=>l'=l/\I (ρ.eQ live)
 |x,ρ=>Q x ρ
def fD:IC->(Exit->St->Prop)->St->Prop
 |.skip,Q,E=>Q .normal E
 |.XH q ops live,Q,E=>match q with
  |none=>swp P ops E (yE live Q)
  |some q=>XF P q ops E (yE live Q)
 |.Sp T q ops live,Q,E=>jK T E.e=true/\DC P T q ops E (yE live Q)
 |.OR T l live,Q,E=>jK T E.e=true/\JW P T l E (yE live Q)
 |.Vw gQ ops live,Q,E=>Pj P gQ ops (yE live Q) ops (vQ ops) E
 |.seq a b,Q,E=>fD a (fun x τ=>match x with|.normal=>fD b Q τ|x=>Q x τ) E
 |.cond c a b,Q,E=>match E.x c with
  |.bool v=>(v=true->fD a Q E)/\(v=false->fD b Q E)
  |_=>False
 |.block id b,Q,E=>fD b (NM id Q) E
 |.loop live b,Q,E=>∃(I:St->Prop)(μ:St->Nat),I (E.eQ live)/\∀τ,I τ->fD b (EA live I μ (μ τ) Q) τ
 |.join live a b,Q,E=>∃J:St->Prop,fD a (og live J Q) E/\∀τ,J τ->fD b Q τ
 |.exit id,Q,E=>Q (.exit id) E
 |.scope b,Q,E=>fD b (fun x τ=>match x with|.goto _=>False|x=>Q x τ) E
 |.B7 l live a1 a2 a3 r,Q,E=>
  let K:=GY live (fun ρ=>∃(I:St->Prop)(μ:St->Nat),I ρ/\∀τ,I τ->fD r (Gq l live (fun ρ'=>I ρ'/\μ ρ'<μ τ) Q) τ) Q
  fD a1 (fun x τ=>match x with|.normal=>fD a2 (fun x τ=>match x with|.normal=>fD a3 K τ|x=>K x τ) τ|x=>K x τ) E
 |.label _,Q,E=>Q .normal E
 |.goto l,Q,E=>Q (.goto l) E
 |.ret,Q,E=>Q .ret E
 |.dead,_,_=>False
def Tz(l:Nat)(live:List (Nat×Bool))(r:IC)(Q:Exit->St->Prop)(ρ:St):Prop:=∃(I:St->Prop)(μ:St->Nat),I ρ/\∀τ,I τ->fD P r (Gq l live (fun ρ'=>I ρ'/\μ ρ'<μ τ) Q) τ
def Aa(b:IC)(Q:Exit->St->Prop):Exit->St->Prop
 |.normal,τ=>fD P b Q τ
 |x,τ=>Q x τ
def vN(Q:Exit->St->Prop):Exit->St->Prop
 |.goto _,_=>False
 |x,τ=>Q x τ
def Mm(a b:IC)(Q:Exit->St->Prop)(E:St):AV->Prop
 |.bool v=>(v=true->fD P a Q E)/\(v=false->fD P b Q E)
 |_=>False
end
end Go.AB
end
