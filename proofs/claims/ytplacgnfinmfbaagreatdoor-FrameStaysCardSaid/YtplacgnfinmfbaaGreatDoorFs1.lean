/- A part. -/
import Derived.Orders
import Derived.Laws.Sem
set_option linter.unusedSimpArgs false
set_option linter.unusedVariables false
section
namespace Go.AB
open Go
inductive AV where
 |undef
 |bool (b:Bool)
 |int (k:IntKind) (n:Int)
 |str (s:List UInt8)
 |fj
 |ref (b off:Nat)
 |lp (d off:Nat)
 |sp (cs:List AV)
 |loc (cs:List AV)
 |sl (own:Bool) (sz n:Nat) (cs:List AV)
 |arr (b off len cap:Nat)
 |agg (cs:List AV)
 |iP (vs:List AV)
 |fn (f:Nat) (first gh:List AV)
 |py
 |mp (b:Nat)
 |ud
 |when (b:Bool) (a:AV)
 |us (sz n:Nat) (cs:List AV)
 |one
 |m6 (t:Nat)
 |kQ
 |bb (t n:Nat) (cs:List AV)
 deriving Inhabited
inductive SO where
 |cells (cs:List AV)
 |map (es:List (AV×AV))
 deriving Inhabited
abbrev ae:=Nat->Option SO
def ae.set(s:ae)(b:Nat)(o:SO):ae:=fun i=>if i=b then some o else s i
def ae.del(s:ae)(b:Nat):ae:=fun i=>if i=b then none else s i
inductive EF where
 |int (k:IntKind)
 |str
 |bool
 |bytes (n:Nat)
 deriving Inhabited
inductive IX where
 |t (i:Nat)
 |c (a:AV)
 deriving Inhabited
inductive rY where
 |oM (tr:Bool) (x:IX)
 |pick (c x y:IX)
 |jq (zero:List AV)
 |mC (zero:List AV)
 |Jw (n:Nat) (x:IX)
 |Bd (n:Nat) (x:IX)
 |build (zero:List AV) (parts:List (Nat×Nat×IX))
 |gr (sz len:Nat) (zero:List AV) (parts:List (Nat×Nat×IX))
 |load (n:Nat) (multi:Bool) (x:IX)
 |store (n:Nat) (p v:IX)
 |nilCheck (x:IX)
 |bin (op:BinOp) (x y:IX)
 |XD (ne:Bool) (x y:IX)
 |T5 (ne:Bool) (x y:IX)
 |T6 (ne:Bool) (x y:IX)
 |un (op:UnOp) (x:IX)
 |mF (k:IntKind) (x:IX)
 |jG (x:IX)
 |gy (x:IX)
 |kX (x i:IX)
 |fieldAddr (off:Nat) (x:IX)
 |indexAddr (zero:List AV) (x i:IX)
 |iQ (sz len:Nat) (x i:IX)
 |slice (sz:Nat) (x:IX) (lo hi mx:Option IX)
 |pC (x:IX) (lo hi:Option IX)
 |extract (x:IX) (k:Nat)
 |len (cls:Nat) (x:IX)
 |cap (x:IX)
 |nY (mx:Bool) (xs:List IX)
 |append (sz bytes:Nat) (x y:IX)
 |kP (sz bytes:Nat) (zero:List AV) (l c:IX)
 |kN (zero:List AV) (multi:Bool) (x:IX)
 |kz (x:IX)
 |qt (x:IX)
 |call (f:Nat) (args:List IX)
 |gw (x:IX) (args:List IX)
 |ub (f:Nat) (first gh:List IX)
 |ks (sz len:Nat) (zero:List AV) (parts:List (Nat×Nat×IX))
 |mZ (sz bytes:Nat) (zero:List AV) (x y:IX)
 |qU (zero:List AV) (x:IX)
 |T7 (sz:Nat) (own:Bool) (x:IX)
 |mh (x:IX)
 |UR (ne:Bool) (x:IX)
 |ye (f i:Nat) (args:List IX)
 |m4 (sz bytes:Nat) (zero:List AV) (x y:IX)
 |Ho (sz n:Nat) (x:IX)
 |mW (off:Nat) (j x:IX)
 |UQ (ne:Bool) (x:IX)
 |zd (sz:Nat) (own:Bool) (x:IX)
 |HD (x:IX)
 |yf (f:Nat) (x:IX)
 |HC (u:Nat) (x:IX)
 |Hp (n t j u:Nat) (x:IX)
 |m3 (t:Nat) (x y:IX)
 deriving Inhabited
structure au where
 dst:Option Nat
 op:rY
 g:Option (Nat×Bool)
 deriving Inhabited
inductive IC where
 |skip
 |Yo (q:Option Nat) (ops:List au) (live:List Nat)
 |S0 (T:List Nat) (q:Nat) (ops:List au) (live:List Nat)
 |SZ (T:List Nat) (l:List (Nat×Nat×au)) (live:List Nat)
 |Ta (fO:List (List Bool)) (ops:List au) (live:List Nat)
 |seq (a b:IC)
 |cond (c:IX) (a b:IC)
 |block (id:Nat) (b:IC)
 |loop (live:List (Nat×Bool)) (b:IC)
 |join (live:List (Nat×Bool)) (a b:IC)
 |exit (id:Nat)
 |scope (b:IC)
 |Ec (l:Nat) (live:List (Nat×Bool)) (a1 a2 a3 r:IC)
 |label (l:Nat)
 |goto (l:Nat)
 |ret
 |dead
 deriving Inhabited
structure St where
 e:List (Nat×AV)
 lp:List (Nat×Nat)
 s:ae
def look:List (Nat×AV)->Nat->AV
 |[],_=>.undef
 |(j,a)::l,i=>bif j==i then a else look l i
def St.x(E:St):IX->AV
 |.t i=>look E.e i
 |.c a=>a
def St.put(E:St)(d:Option Nat)(a:AV):St:=
 match d with
 |some d=>{E with e:=(d,a)::E.e}
 |none=>E
def dY:AV->AV
 |.lp _ _=>.undef
 |.when _ _=>.undef
 |a=>a
def St.vU(E:St)(live:List Nat):St:={e:=live.map fun i=>(i,dY (look E.e i)),lp:=[],s:=E.s}
def view:AV->AV
 |.sl _ sz n cs=>.sl false sz n cs
 |.us _ _ _=>.undef
 |.m6 _=>.fj
 |.bb _ n cs=>.sl false 1 n cs
 |a=>a
def TU(b:Bool)(a:AV):AV:=bif b then view a else a
def St.ed(E:St)(live:List (Nat×Bool)):St:={e:=live.map fun p=>(p.1,TU p.2 (dY (look E.e p.1))),lp:=[],s:=E.s}
def inner:AV->Bool
 |.loc _=>false
 |.when _ _=>false
 |_=>true
def xT(g:Bool):AV->AV
 |.when b a=>bif((b==g)||b)&&inner a then a else .undef
 |a=>a
def Ka:Int:=9223372036854775807
def dp:AV->Bool
 |.undef=>false
 |.lp _ _=>false
 |.loc _=>false
 |.iP _=>false
 |.when _ _=>false
 |.us _ _ _=>false
 |.m6 _=>false
 |_=>true
def jo(k:IntKind)(n:Int):Int:=k.wrap n
inductive PR where
 |dh (a:AV)
 |fw (c:Prop) (a:AV)
 |no
def Vz(k k':IntKind):Bool:=decide (k=k')
def kk(k k':IntKind)(r:PR):PR:=bif Vz k k' then r else .no
def sc(op:BinOp)(k k':IntKind)(a b:Int):PR:=
 match op with
 |.shl=>.fw (0<=b) (.int k (jo k (a*2^(min b.toNat k.bits))))
 |.shr=>.fw (0<=b) (.int k (a.fdiv (2^(min b.toNat k.bits))))
 |.add=>kk k k' (.dh (.int k (jo k (a+b))))
 |.sub=>kk k k' (.dh (.int k (jo k (a -b))))
 |.mul=>kk k k' (.dh (.int k (jo k (a*b))))
 |.quo=>kk k k' (.fw (b≠0) (.int k (jo k (a.tdiv b))))
 |.rem=>kk k k' (.fw (b≠0) (.int k (a.tmod b)))
 |.and=>kk k k' (.dh (.int k (k.wrap (BitVec.ofInt k.bits a&&&BitVec.ofInt k.bits b).toNat)))
 |.or=>kk k k' (.dh (.int k (k.wrap (BitVec.ofInt k.bits a |||BitVec.ofInt k.bits b).toNat)))
 |.xor=>kk k k' (.dh (.int k (k.wrap (BitVec.ofInt k.bits a^^^BitVec.ofInt k.bits b).toNat)))
 |.andNot=>kk k k' (.dh (.int k (k.wrap (BitVec.ofInt k.bits a&&& ~~~BitVec.ofInt k.bits b).toNat)))
 |.eql=>kk k k' (.dh (.bool (a==b)))
 |.neq=>kk k k' (.dh (.bool (a !=b)))
 |.lss=>kk k k' (.dh (.bool (decide (a<b))))
 |.leq=>kk k k' (.dh (.bool (decide (a<=b))))
 |.gtr=>kk k k' (.dh (.bool (decide (a>b))))
 |.geq=>kk k k' (.dh (.bool (decide (a>=b))))
def Ju(op:BinOp)(a b:List UInt8):PR:=
 match op with
 |.add=>.fw (((a.length+b.length:Nat):Int)<=Ka) (.str (a++b))
 |.eql=>.dh (.bool (a==b))
 |.neq=>.dh (.bool (!(a==b)))
 |.lss=>.dh (.bool (Op.bytesLess a b))
 |.leq=>.dh (.bool (Op.bytesLess a b||a==b))
 |.gtr=>.dh (.bool (!(Op.bytesLess a b||a==b)))
 |.geq=>.dh (.bool (!Op.bytesLess a b))
 |_=>.no
def LK(op:BinOp)(x y:AV):PR:=
 match x,y with
 |.int k a,.int k' b=>sc op k k' a b
 |.str a,.str b=>Ju op a b
 |_,_=>.no
def L7(ne:Bool)(x y:AV):PR:=
 match x,y with
 |.bool a,.bool b=>.dh (.bool ((a==b)!=ne))
 |_,_=>.no
def EL(ne:Bool)(x y:AV):PR:=
 match x,y with
 |.fj,.fj=>.dh (.bool (!ne))
 |.ref _ _,.fj=>.dh (.bool ne)
 |.fj,.ref _ _=>.dh (.bool ne)
 |.ref b o,.ref b' o'=>bif b==b'&&o==o' then .dh (.bool (!ne))else .no
 |_,_=>.no
def Q3(ne:Bool)(x y:AV):PR:=
 match x,y with
 |.sl _ _ (_+1) _,.sl _ _ 0 []=>.dh (.bool ne)
 |.arr _ _ _ (_+1),.sl _ _ 0 []=>.dh (.bool ne)
 |_,_=>.no
def Nk:List AV->List AV->Bool
 |[],[]=>true
 |.int k _::r,.int k' _::s=>Vz k k'&&Nk r s
 |_,_=>false
def Q2:List AV->List AV->Bool
 |.int _ a::r,.int _ b::s=>(a==b)&&Q2 r s
 |_,_=>true
def ajO(n:Nat)(ne:Bool)(x y:AV):PR:=
 match x,y with
 |.agg cs,.agg ds=>bif Nk cs ds&&cs.length==n then .dh (.bool (Q2 cs ds !=ne))else .no
 |_,_=>.no
def JX(ne:Bool):AV->PR
 |.kQ=>.dh (.bool (!ne))
 |_=>.no
def ajP(ne:Bool):AV->PR
 |.fn _ _ _=>.dh (.bool ne)
 |.py=>.dh (.bool (!ne))
 |_=>.no
def cellsOf:AV->List AV
 |.agg cs=>cs
 |a=>[a]
def ny(multi:Bool)(cs:List AV):AV:=match multi,cs with
 |true,cs=>.agg cs
 |false,a::_=>a
 |false,[]=>.undef
def sub(cs:List AV)(off n:Nat):List AV:=(cs.drop off).take n
def views(cs:List AV):List AV:=cs.map view
def bu:AV->List AV
 |.agg cs=>views cs
 |a=>[a]
def setAt(cs:List AV)(off:Nat)(news:List AV):List AV:=cs.take off++news++cs.drop (off+news.length)
def bx(b:Bool):AV->Option Bool
 |.bool x=>some x
 |.when b' (.bool x)=>bif(b'==b)||b' then some x else none
 |_=>none
def fill(f:IX->AV)(cells:List AV):List (Nat×Nat×IX)->Option (List AV)
 |[]=>some cells
 |(off,n,x)::r=>
  let c:=views (cellsOf (f x))
  bif dp (f x)&&(c.length==n&&decide (off+n<=cells.length))then fill f (setAt cells off c) r else none
def iq(n off:Nat)(cs:List AV):Option (List AV):=bif decide (off+n<=cs.length)then some (views (sub cs off n))else none
def lr(n off:Nat):AV->Option (List AV)
 |.loc cs=>iq n off cs
 |_=>none
def su(n off:Nat):Option SO->Option (List AV)
 |some (.cells cs)=>iq n off cs
 |_=>none
def rd(E:St)(p:AV)(n:Nat):Option (List AV):=
 match p with
 |.loc cs=>iq n 0 cs
 |.lp d off=>lr n off (look E.e d)
 |.sp cs=>iq n 0 cs
 |.ref b off=>su n off (E.s b)
 |_=>none
def EC(f:IX->AV)(o:Option IX)(ahO:Int):Option Int:=
 match o with
 |none=>some ahO
 |some x=>match f x with
  |.int _ n=>some n
  |_=>none
def KO(mx:Bool):Int->List AV->Option Int
 |a,[]=>some a
 |a,.int _ b::r=>KO mx (bif mx then max a b else min a b) r
 |_,_=>none
def pQ:AV->Bool
 |.agg _=>false
 |a=>dp a
def Fl(cs:List AV):Prop:=∀c∈cs,pQ c=true
def AK(t:Nat)(cs:List AV):Prop:=∀c∈cs,pQ c=true\/c=.m6 t
def Px(a:AV):PR:=bif dp a then .dh (view a)else .no
def Rf:AV->Option (Bool×Bool)
 |.bool x=>some (true,x)
 |.when b (.bool x)=>some (b,x)
 |_=>none
def SE(b:Bool):Option (Bool×Bool)->Option (Bool×Bool)->PR
 |some (g1,p),some (g2,q)=>.fw ((b=true->g1=true)/\(b=false->g2=true)) (.bool (bif b then p else q))
 |_,_=>.no
def Zm:AV->Option (Bool×Bool)
 |.iP []=>some (false,false)
 |a=>Rf a
def GP(x y:AV):AV->PR
 |.bool b=>SE b (Zm x) (Zm y)
 |_=>.no
def Xq(a:AV):PR:=bif dp a then .dh a else .no
def ckP(c:Prop)(a:AV):PR:=bif dp a then .fw c a else .no
def YD:UnOp->AV->PR
 |.not,.bool b=>.dh (.bool (!b))
 |.neg,.int k n=>.dh (.int k (jo k (0 -n)))
 |_,_=>.no
def uV(k:IntKind):AV->PR
 |.int _ n=>.dh (.int k (jo k n))
 |_=>.no
def ahK:AV->PR
 |.str s=>.dh (.str s)
 |_=>.no
def mi(multi:Bool):Option (List AV)->PR
 |some cs=>Xq (ny multi cs)
 |none=>.no
def ahS(n:Nat)(multi:Bool)(off:Nat):AV->PR
 |.agg cs=>bif decide (off+n<=cs.length)then Xq (view (ny multi (sub cs off n)))else .no
 |_=>.no
def aim(n:Nat)(multi:Bool)(len:Nat):AV->AV->PR
 |.agg cs,.int _ k=>bif len*n==cs.length then ckP (0<=k/\k<len) (view (ny multi (sub cs (k.toNat*n) n)))else .no
 |_,_=>.no
def vj:AV->AV->PR
 |.str s,.int _ k=>.fw (0<=k/\k<s.length) (.int .u8 (s.getD k.toNat 0).toNat)
 |_,_=>.no
def lD:AV->PR
 |.ref b off=>.dh (.ref b off)
 |_=>.no
def Pw(c:Prop)(off:Nat):IX->PR
 |.t i=>.fw (c) (.lp i off)
 |.c _=>.no
def gj(off:Nat)(x:IX):AV->PR
 |.lp d o=>.dh (.lp d (o+off))
 |.sp cs=>bif decide (off<=cs.length)then .dh (.sp (cs.drop off))else .no
 |.ref b o=>.dh (.ref b (o+off))
 |.loc _=>Pw True off x
 |_=>.no
def pad(zero cs:List AV):List AV:=bif cs.length==zero.length then cs else zero
def jJ(zero:List AV):AV->AV->PR
 |.sl _ s n cs,.int _ k=>bif s==zero.length then .fw (0<=k/\k<n) (.sp (pad zero (views (sub cs (k.toNat*zero.length) zero.length))))else .no
 |.arr b off n _,.int _ k=>.fw (0<=k/\k<n) (.ref b (off+k.toNat*zero.length))
 |_,_=>.no
def fT(sz len:Nat)(x:IX):AV->AV->PR
 |.lp d o,.int _ k=>.fw (0<=k/\k<len) (.lp d (o+k.toNat*sz))
 |.sp cs,.int _ k=>bif decide (len*sz<=cs.length)then .fw (0<=k/\k<len) (.sp (cs.drop (k.toNat*sz)))else .no
 |.ref b o,.int _ k=>.fw (0<=k/\k<len) (.ref b (o+k.toNat*sz))
 |.loc _,.int _ k=>Pw (0<=k/\k<len) (k.toNat*sz) x
 |_,_=>.no
def B4(sz n:Nat)(cs:List AV):Option Int->Option Int->PR
 |some l,some h=>bif Nat.ble 1 sz then .fw (0<=l/\l<=h/\h<=n) (.sl false sz ((sub cs (l.toNat*sz) ((h -l).toNat*sz)).length/sz) (sub cs (l.toNat*sz) ((h -l).toNat*sz)))else .no
 |_,_=>.no
def jF(off cap l sz:Nat):Nat:=bif cap==l then off else off+l*sz
def zw(sz b off cap:Nat):Option Int->Option Int->PR
 |some l,some h=>.fw (0<=l/\l<=h/\h<=cap) (.arr b (jF off cap l.toNat sz) (h -l).toNat (cap -l.toNat))
 |_,_=>.no
def AD(sz b off cap:Nat):Option Int->Option Int->Option Int->PR
 |some l,some h,some m=>.fw (0<=l/\l<=h/\h<=m/\m<=cap) (.arr b (jF off m.toNat l.toNat sz) (h -l).toNat (m.toNat -l.toNat))
 |_,_,_=>.no
def oT(sz:Nat)(f:IX->AV)(lo hi:Option IX)(mx:IX):AV->PR
 |.arr b off _ cap=>AD sz b off cap (EC f lo 0) (bif hi.isSome then EC f hi 0 else none) (EC f (some mx) 0)
 |_=>.no
def LQ:AV->PR
 |.arr _ _ _ cap=>.dh (.int .i64 cap)
 |_=>.no
def uv(sz:Nat)(f:IX->AV)(lo hi:Option IX):AV->PR
 |.sl _ s n cs=>bif s==sz then B4 sz n cs (EC f lo 0) (EC f hi n)else .no
 |.arr b off n cap=>zw sz b off cap (EC f lo 0) (EC f hi n)
 |_=>.no
def zx(s:List UInt8):Option Int->Option Int->PR
 |some l,some h=>.fw (0<=l/\l<=h/\h<=s.length) (.str ((s.drop l.toNat).take (h -l).toNat))
 |_,_=>.no
def lI(f:IX->AV)(lo hi:Option IX):AV->PR
 |.str s=>zx s (EC f lo 0) (EC f hi s.length)
 |_=>.no
def Mx:Option SO->PR
 |some (.map es)=>.dh (.int .i64 es.length)
 |_=>.no
def Bu(s:ae):Nat->AV->PR
 |0,.sl _ _ n _=>.dh (.int .i64 n)
 |0,.arr _ _ n _=>.dh (.int .i64 n)
 |1,.str s=>.dh (.int .i64 s.length)
 |2,.ud=>.dh (.int .i64 0)
 |2,.mp b=>Mx (s b)
 |_,_=>.no
def aeI(k:IntKind):Option Int->PR
 |some m=>.dh (.int k m)
 |none=>.no
def u5(mx:Bool):List AV->PR
 |.int k n::r=>aeI k (KO mx n r)
 |_=>.no
def JY:Option AV->PR
 |some a=>Xq (view a)
 |none=>.no
def pP(k:Nat):AV->PR
 |.iP vs=>JY vs[k]?
 |_=>.no
def byteOf:AV->Option UInt8
 |.int .u8 n=>if 0<=n/\n<256 then some (UInt8.ofNat n.toNat)else none
 |_=>none
def QK{α:Type}:Option α->Option (List α)->Option (List α)
 |some a,some l=>some (a::l)
 |_,_=>none
def bytesOf:List AV->Option (List UInt8)
 |[]=>some []
 |a::r=>QK (byteOf a) (bytesOf r)
def Tv:Option (List UInt8)->PR
 |some l=>.dh (.str l)
 |none=>.no
def qV:AV->PR
 |.sl _ sz _ cs=>bif sz==1 then Tv (bytesOf cs)else .no
 |_=>.no
def Ca:Option (List AV)->PR
 |some cs=>.dh (.agg cs)
 |none=>.no
def OT(a:AV):Option (List AV)->Option (List AV)
 |some l=>bif dp a then some (view a::l)else none
 |none=>none
def cq(f:IX->AV):List IX->Option (List AV)
 |[]=>some []
 |x::r=>OT (f x) (cq f r)
def uZ(fi:Nat):Option (List AV)->Option (List AV)->PR
 |some a,some b=>.dh (.fn fi a b)
 |_,_=>.no
def KI(zero:List AV)(multi:Bool)(off:Nat):Option SO->PR
 |some (.cells cs)=>ckP (off+zero.length<=cs.length) (ny multi (pad zero (views (sub cs off zero.length))))
 |_=>.no
def GC(zero:List AV)(multi:Bool)(s:ae):AV->PR
 |.ref b off=>KI zero multi off (s b)
 |_=>.no
def ZX(k:IntKind)(off:Nat):Option SO->Prop
 |some (.cells cs)=>∃n,cs[off]? =some (.int k n)
 |_=>False
def intOf:Option AV->Int
 |some (.int _ n)=>n
 |_=>0
def ZY(off:Nat):Option SO->Int
 |some (.cells cs)=>intOf cs[off]?
 |_=>0
def ais(k:IntKind)(s:ae):AV->PR
 |.ref b off=>.fw (ZX k off (s b)) (.int k (ZY off (s b)))
 |_=>.no
def pv(o:rY)(f:IX->AV)(E:St):PR:=
 match o with
 |.oM false x=>Px (f x)
 |.pick c x y=>GP (E.x x) (E.x y) (f c)
 |.bin op x y=>LK op (f x) (f y)
 |.XD ne x y=>L7 ne (f x) (f y)
 |.T5 ne x y=>EL ne (f x) (f y)
 |.T6 ne x (.c (.sl true z 0 []))=>Q3 ne (f x) (.sl true z 0 [])
 |.un op x=>YD op (f x)
 |.mF k x=>uV k (f x)
 |.load n multi x=>mi multi (rd E (f x) n)
 |.kX x i=>vj (f x) (f i)
 |.nilCheck x=>lD (f x)
 |.fieldAddr off x=>gj off x (f x)
 |.indexAddr zero x i=>jJ zero (f x) (f i)
 |.iQ sz len x i=>fT sz len x (f x) (f i)
 |.slice sz x lo hi none=>uv sz f lo hi (f x)
 |.pC x lo hi=>lI f lo hi (f x)
 |.len cls x=>Bu E.s cls (f x)
 |.nY mx xs=>u5 mx (xs.map f)
 |.extract x k=>pP k (f x)
 |.build zero parts=>Ca (fill f zero parts)
 |.ub fi first gh=>uZ fi (cq f first) (cq f gh)
 |.jG x=>qV (f x)
 |.kN zero multi x=>GC zero multi E.s (f x)
 |.slice sz x lo hi (some mx)=>oT sz f lo hi mx (f x)
 |.cap x=>LQ (f x)
 |.UQ ne x=>JX ne (f x)
 |_=>.no
inductive cZ where
 |none
 |frame
 |slot (i j:Nat)
 |loc (i:Nat)
 |sh
 |cell (b j:Nat)
 |res (j:Nat)
 deriving DecidableEq
structure Gh where
 R:Nat->Nat
 O:Nat->cZ
inductive VR(w:World)(R:Nat->Nat):AV->Value->Prop where
 |undef (v:Value):VR w R .undef v
 |bool (b:Bool):VR w R (.bool b) (.bool b)
 |int (k:IntKind) (n:Int):VR w R (.int k n) (.int k n)
 |str (s:List UInt8):VR w R (.str s) (.string ⟨s.toArray⟩)
 |fj:VR w R .fj (.pointer none)
 |ref (b off:Nat):VR w R (.ref b off) (.pointer (some ⟨b,off,none⟩))
 |sp (cs:List AV) (b off:Nat) (u:Nat->Value) (hf:Fl cs) (hR:off+cs.length<=R b)
   (hc:∀(j:Nat)(c:AV),cs[j]? =some c->w.cell? ⟨b,off+j,none⟩=some (u j)) (hr:∀(j:Nat)(c:AV),cs[j]? =some c->VR w R c (u j)):
   VR w R (.sp cs) (.pointer (some ⟨b,off,none⟩))
 |slnil (own:Bool) (sz:Nat):VR w R (.sl own sz 0 []) (.slice none 0 0)
 |sle (sz:Nat) (a:Addr) (cap:Nat):VR w R (.sl false sz 0 []) (.slice (some a) 0 cap)
 |sl (own:Bool) (sz n:Nat) (cs:List AV) (b off cap:Nat) (u:Nat->Value) (hf:Fl cs) (hl:cs.length=n*sz) (hR:off+cs.length<=R b) (fL:n<=cap)
   (hc:∀(j:Nat)(c:AV),cs[j]? =some c->w.cell? ⟨b,off+j,none⟩=some (u j)) (hr:∀(j:Nat)(c:AV),cs[j]? =some c->VR w R c (u j)):
   VR w R (.sl own sz n cs) (.slice (some ⟨b,off,none⟩) n cap)
 |arr (b off len cap:Nat):VR w R (.arr b off len cap) (.slice (some ⟨b,off,none⟩) len cap)
 |Hn (b off:Nat):VR w R (.arr b off 0 0) (.slice none 0 0)
 |agg (cs:List AV) (vs:Array Value) (hf:Fl cs) (hl:vs.size=cs.length) (hr:∀(j:Nat)(c:AV)(v:Value),cs[j]? =some c->vs[j]? =some v->VR w R c v):VR w R (.agg cs) (.agg vs)
 |iP (cs:List AV) (vs:Array Value) (hl:vs.size=cs.length) (hr:∀(j:Nat)(c:AV)(v:Value),cs[j]? =some c->vs[j]? =some v->VR w R c v):VR w R (.iP cs) (.tuple vs)
 |fn (f:Nat) (first gh:List AV) (vf vc:Array Value) (hl:vf.size=first.length) (hr:∀(j:Nat)(c:AV)(v:Value),first[j]? =some c->vf[j]? =some v->VR w R c v)
   (hl':vc.size=gh.length) (hr':∀(j:Nat)(c:AV)(v:Value),gh[j]? =some c->vc[j]? =some v->VR w R c v):VR w R (.fn f first gh) (.func (.func f) vf vc)
 |py:VR w R .py .nilFunc
 |mp (b:Nat):VR w R (.mp b) (.map (some b))
 |ud:VR w R .ud (.map none)
 |when (b:Bool) (a:AV) (v:Value) (h:b=true->VR w R a v):VR w R (.when b a) v
 |one (v:Value) (h:v.oneCell'=true):VR w R .one v
 |m6 (t:Nat):VR w R (.m6 t) (.pointer none)
 |kQ:VR w R .kQ .nilIface
 |bb (t n:Nat) (cs:List AV) (v:Value) (h:VR w R (.sl true 1 n cs) v) (h0:n=0->v=.slice none 0 0):VR w R (.bb t n cs) v
def dy(G:Gh)(w:World)(o:cZ)(a:AV)(v:Value):Prop:=
 match a with
 |.sl true sz n _=>∀base m cap,v=.slice base m cap->(cap≠n\/0<n)->
   ∃b off c e fz,base=some ⟨b,off,none⟩/\G.O b=o/\G.R b=off+n*sz/\w.heap[b]? =some (.cells c e fz)/\c.size=off+cap*sz/\
    (∀k,k<c.size->¬(fz.1<=k/\k<fz.2))/\fz.1<=fz.2/\off=0/\(fz=(0,0)\/(0<n/\∃x,c[0]? =some (.int .u8 x)))/\
    ∀(k:Nat)(y:Value),off+n*sz<=k->c[k]? =some y->y.oneCell'=true
 |.bb e n _=>∀base m cap,v=.slice base m cap->(cap≠n\/0<n)->
   ∃b off c fz,base=some ⟨b,off,none⟩/\G.O b=o/\G.R b=off+n*1/\w.heap[b]? =some (.cells c e fz)/\c.size=off+cap*1/\
    (∀k,k<c.size->¬(fz.1<=k/\k<fz.2))/\fz.1<=fz.2/\off=0/\(fz=(0,0)\/(0<n/\∃x,c[0]? =some (.int .u8 x)))/\
    ∀(k:Nat)(y:Value),off+n*1<=k->c[k]? =some y->y.oneCell'=true
 |_=>True
def dq(G:Gh)(w:World)(o:Nat->cZ)(cs:List AV)(c:Array Value):Prop:=c.size=cs.length/\∀(j:Nat)(x:AV)(y:Value),cs[j]? =some x->c[j]? =some y->VR w G.R x y/\dy G w (o j) x y
def UsR(G:Gh)(w:World)(o:cZ)(sz n:Nat)(cs:List AV)(v:Value):Prop:=
 (n=0/\cs=[]/\(v=.slice none 0 0\/∃b off,v=.slice (some ⟨b,off,none⟩) 0 0))\/
 ∃b cap c t sp,0<cap/\n<=cap/\v=.slice (some ⟨b,0,none⟩) n cap/\G.O b=o/\G.R b=0/\w.heap[b]? =some (.cells c t (0,0))/\c.size=cap*sz/\cs.length=n*sz/\(cs++sp).length=cap*sz/\
  (∀(j:Nat)(x:AV)(u:Value),(cs++sp)[j]? =some x->c[j]? =some u->VR w G.R x u)/\Fl (cs++sp)/\views (cs++sp)=cs++sp
def dc(G:Gh)(w:World)(e:List (Nat×AV))(tmps:Array Value)(i:Nat):AV->Value->Prop
 |.loc cs,v=>∃b c t,v=.pointer (some ⟨b,0,none⟩)/\G.O b=.loc i/\G.R b=0/\w.heap[b]? =some (.cells c t (0,0))/\dq G w (.cell b) cs c/\Fl cs
 |.lp d off,v=>∃b,v=.pointer (some ⟨b,off,none⟩)/\∀cs,look e d=.loc cs->tmps[d]? =some (.pointer (some ⟨b,0,none⟩))
 |.iP vs,v=>∃ys:Array Value,v=.tuple ys/\dq G w (fun j=>.slot i (j+1)) vs ys
 |.when b a,v=>(b=true->dc G w e tmps i a v)/\(b=false->v=.tuple #[])
 |.us sz n cs,v=>UsR G w (.slot i 0) sz n cs v
 |a,v=>VR w G.R a v/\dy G w (.slot i 0) a v
def bD:AV->Nat->Prop
 |.lp d _,d'=>d=d'
 |.when _ a,d'=>bD a d'
 |_,_=>False
structure cE(G:Gh)(w:World):Prop where
 k7:∀b,w.heap.size<=b->G.O b=.none
 mn:∀b,w.heap.size<=b->G.R b=0
def ahu(G:Gh)(w:World)(x:AV×AV)(y:MapEntry):Prop:=VR w G.R x.1 y.key/\VR w G.R x.2 y.val
def bc(G:Gh)(w:World)(s:ae):Prop:=
 ∀b o,s b=some o->G.O b=.sh/\G.R b=0/\match o with
  |.cells cs=>∃c t,w.heap[b]? =some (.cells c t (0,0))/\dq G w (.cell b) cs c/\AK t cs
  |.map es=>∃sP clock,w.heap[b]? =some (.map sP clock)/\sP.size=es.length/\∀(j:Nat)(x:AV×AV)(y:MapEntry),es[j]? =some x->sP[j]? =some y->ahu G w x y
structure Inv(G:Gh)(n:Nat)(D:List Deferred)(E:St)(a:Act)(w:World):Prop where
 bj:cE G w
 store:bc G w E.s
 size:a.tmps.size=n
 cm:∀(i:Nat)(v:Value),a.tmps[i]? =some v->dc G w E.e a.tmps i (look E.e i) v
 EI:∀i,n<=i->look E.e i=.undef
 LA:∀i d,bD (look E.e i) d->(i,d)∈E.lp
 pO:a.defers=D
structure aK(G:Gh)(w:World)(G':Gh)(w':World):Prop where
 os:w'.os=w.os
 tape:w'.tape=w.tape
 output:w'.output=w.output
 drawn:w.drawn<=w'.drawn
 size:w.heap.size<=w'.heap.size
 mono:∀b,b<w.heap.size->G.R b<=G'.R b
 mJ:∀b k,b<w.heap.size->k<G.R b->w'.cell? ⟨b,k,none⟩=w.cell? ⟨b,k,none⟩
 frame:∀b,b<w.heap.size->G.O b=.frame\/G.O b=.none->w'.heap[b]? =w.heap[b]?
 jr:∀b,b<w.heap.size->G.O b=.frame->G'.O b=.frame/\G'.R b=G.R b
 qu:∀b,b<w.heap.size->G.O b=.none->G'.O b=.none/\G'.R b=G.R b
def Yp(G:Gh)(w:World)(a:AV)(v:Value):Prop:=
 match a with
 |.us sz n cs=>UsR G w (.res 0) sz n cs v
 |a=>VR w G.R a v/\dy G w (.res 0) a v
def qP(G:Gh)(w:World)(rs:List AV)(v:Value):Prop:=
 match rs with
 |[a]=>Yp G w a v
 |rs=>∃ys:Array Value,v=.tuple ys/\dq G w (fun j=>.res j) rs ys
def xX(G:Gh):Prop:=∀b,G.O b=.none\/G.O b=.frame\/G.O b=.sh\/∃b' j,G.O b=.cell b' j/\G.O b'=.sh
def rL(w:World)(R:Nat->Nat)(args:List AV)(vs:Array Value):Prop:=vs.size=args.length/\∀(j:Nat)(a:AV)(v:Value),args[j]? =some a->vs[j]? =some v->VR w R a v
def FN(P:Program)(f:FuncId)(args:List AV)(s:ae)(Q:List AV->ae->Prop):Prop:=
 ∀(G:Gh)(w:World)(vs:Array Value),cE G w->xX G->bc G w s->rL w G.R args vs->
  Calls P f vs w fun e w'=>∃v rs s' G',e=.returned v/\Q rs s'/\cE G' w'/\bc G' w' s'/\qP G' w' rs v/\aK G w G' w'
theorem FN.mono{P:Program}{f:FuncId}{args:List AV}{s:ae}{Q Q':List AV->ae->Prop}(h:FN P f args s Q)(hq:∀rs s',Q rs s'->Q' rs s'):FN P f args s Q':=fun G w vs h1 h2 h3 h4=>(h G w vs h1 h2 h3 h4).mono fun _ _⟨v,rs,s',G',a,b,c⟩=>⟨v,rs,s',G',a,hq _ _ b,c⟩
def FE(P:Program)(f:FuncId)(args:List AV)(s:ae)(rs:List AV)(s':ae):Prop:=FN P f args s fun r t=>r=rs/\t=s'
theorem FE.app{P:Program}{f:FuncId}{args:List AV}{s s':ae}{rs:List AV}{Q:List AV->ae->Prop}(h:FE P f args s rs s')(hq:Q rs s'):FN P f args s Q:=FN.mono h fun _ _⟨h1,h2⟩=>by rw[h1,h2];exact hq
def e7:List AV->AV
 |[a]=>a
 |rs=>.iP rs
def room:Nat:=140737488355328
def kO(lp:List (Nat×Nat))(d:Option Nat):Bool:=match d with
 |some d=>lp.all fun x=>!Nat.beq x.2 d
 |none=>true
def St.drain(E:St)(x:IX):St:=match x with
 |.t i=>E.put (some i) (view (look E.e i))
 |.c _=>E
def gb(off:Nat)(news:List AV)(gN:List AV):Option (List AV):=bif decide (off+news.length<=gN.length)then some (setAt gN off news)else none
def wrL(E:St)(d:Nat):Option (List AV)->Option St
 |some cs=>some (E.put (some d) (.loc cs))
 |none=>none
def wrS(E:St)(b:Nat):Option (List AV)->Option St
 |some cs=>some {E with s:=E.s.set b (.cells cs)}
 |none=>none
def OL(E:St)(d off:Nat)(news:List AV):AV->Option St
 |.loc gN=>wrL E d (gb off news gN)
 |_=>none
def TV(E:St)(b off:Nat)(news:List AV):Option SO->Option St
 |some (.cells gN)=>wrS E b (gb off news gN)
 |_=>none
def agk(E:St)(news gN:List AV):IX->Option St
 |.t d=>wrL E d (gb 0 news gN)
 |.c _=>none
def Lw(E:St)(p:AV)(i:IX)(news:List AV):Option St:=
 match p with
 |.loc gN=>agk E news gN i
 |.lp d off=>OL E d off news (look E.e d)
 |.ref b off=>TV E b off news (E.s b)
 |_=>none
def aet:AV->AV->Bool
 |.int _ a,.int _ b=>a==b
 |.str a,.str b=>a==b
 |.bool a,.bool b=>a==b
 |_,_=>false
def RX:List AV->List AV->Bool
 |[],[]=>true
 |a::x,b::y=>aet a b&&RX x y
 |_,_=>false
def XT(a b:AV):Bool:=RX (cellsOf a) (cellsOf b)
def XF(k:AV):List (AV×AV)->Option AV
 |[]=>none
 |x::r=>bif XT k x.1 then some x.2 else XF k r
def aaL(k v:AV):List (AV×AV)->List (AV×AV)
 |[]=>[(k,v)]
 |x::r=>bif XT k x.1 then(k,v)::r else x::aaL k v r
section
variable(P:Program)
def Sf(E:St)(x:IX)(d:Option Nat)(K:St->Prop)(a:AV):Prop:=dp a=true/\K ((E.drain x).put d a)
def Xh(n:Nat)(E:St)(d:Option Nat)(K:St->Prop)(a:AV):Prop:=dp a=true/\(cellsOf a).length=n/\K (E.put d (.loc (views (cellsOf a))))
def Xi(n:Nat)(E:St)(d:Option Nat)(K:St->Prop)(a:AV):Prop:=dp a=true/\(cellsOf a).length=n/\∀b,E.s b=none->K ({E with s:=E.s.set b (.cells (views (cellsOf a)))}.put d (.ref b 0))
def yb(sz n:Nat)(E:St)(d:Option Nat)(K:St->Prop):Option (List AV)->Prop
 |some cs=>cs.length=n*sz/\K (E.put d (.sl true sz n cs))
 |none=>False
def Tr(d:Option Nat)(K:St->Prop):Option St->Prop
 |some τ=>K (τ.put d (.iP []))
 |none=>False
def I3(n:Nat)(E:St)(p:IX)(v:IX)(d:Option Nat)(K:St->Prop)(a:AV):Prop:=dp a=true/\(bu a).length=n/\Tr d K (Lw (E.drain v) (E.x p) p (bu a))
def kq(sz bytes:Nat)(E:St)(x:IX)(d:Option Nat)(K:St->Prop):AV->AV->Prop
 |.sl true s n cs,.sl _ s' m ds=>s=sz/\(s'=sz\/m=0)/\(n+m)*bytes<=room/\K ((E.drain x).put d (.sl true sz (n+m) (cs++views ds)))
 |.sl true s n cs,.str ds=>s=sz/\sz=1/\(n+ds.length)*bytes<=room/\K ((E.drain x).put d (.sl true sz (n+ds.length) (cs++ds.map fun c=>.int .u8 c.toNat)))
 |_,_=>False
def BP(E:St)(d:Option Nat)(K:St->Prop):AV->Prop
 |.sl _ sz _ cs=>sz=1/\∃s:List UInt8,cs=(s.map fun c=>.int .u8 c.toNat)/\K (E.put d (.str s))
 |_=>False
def Sm:List UInt8->Bool
 |[]=>false
 |_::_=>true
def pN(E:St)(d:Option Nat)(K:St->Prop):AV->Prop
 |.str s=>K (E.put d (.sl (Sm s) 1 s.length (s.map fun c=>.int .u8 c.toNat)))
 |_=>False
def ze(bytes:Nat)(zero:List AV)(E:St)(d:Option Nat)(K:St->Prop):AV->AV->Prop
 |.int _ l,.int _ c=>0<=l/\l<=c/\c*bytes<=room/\
   ∀b,E.s b=none->K ({E with s:=E.s.set b (.cells ((List.replicate c.toNat zero).flatten))}.put d (.arr b 0 l.toNat c.toNat))
 |_,_=>False
def agL(sz bytes:Nat)(E:St)(d:Option Nat)(K:St->Prop):AV->Prop
 |.int _ c=>0<=c/\c*bytes<=room/\K (E.put d (.sl true sz 0 []))
 |_=>False
def okV(ok:Bool)(a:AV)(b:Bool):AV:=match ok with
 |true=>.iP [a,.bool b]
 |false=>a
def ain:AV->Bool
 |.int .u8 _=>true
 |_=>false
def Du:EF->AV->Bool
 |.int k,.int k' _=>Vz k k'
 |.str,.str _=>true
 |.bool,.bool _=>true
 |.bytes n,.agg cs=>cs.length==n&&cs.all ain
 |_,_=>false
def Mu(kk:EF)(es:List (AV×AV)):Bool:=es.all fun x=>Du kk x.1
def aez(zero:AV)(ok:Bool):Option AV->AV
 |some v=>okV ok (view v) true
 |none=>okV ok (view zero) false
def DW:AV->Bool
 |.iP _=>true
 |a=>dp a
def aaK:Bool->AV->Bool
 |true,_=>true
 |false,a=>dp a
def ckL(ok:Bool)(c:Prop)(a:AV):PR:=bif aaK ok a then .fw c a else .no
def VG(kk:EF)(zero:AV)(ok:Bool)(k:AV):Option SO->PR
 |some (.map es)=>ckL ok (Du kk k=true/\Mu kk es=true) (aez zero ok (XF k es))
 |_=>.no
def agK(kk:EF)(zero:AV)(ok:Bool)(s:ae)(k:AV):AV->PR
 |.mp b=>VG kk zero ok k (s b)
 |.ud=>ckL ok (Du kk k=true) (okV ok (view zero) false)
 |_=>.no
def BF:AV->PR
 |.sl true 1 (n+1) (.int .u8 x::cs)=>.dh (.sl false 1 (n+1) (.int .u8 x::cs))
 |_=>.no
def AH:AV->PR
 |.iP vs=>.dh (.iP (views vs))
 |_=>.no
def SF(E:St)(d:Option Nat)(K:St->Prop):PR->Prop
 |.dh a=>K (E.put d a)
 |.fw c a=>c/\K (E.put d a)
 |.no=>False
def aiZ(kk:EF)(b:Nat)(E:St)(k v:AV)(d:Option Nat)(K:St->Prop):Option SO->Prop
 |some (.map es)=>(dp v=true/\Du kk k=true/\Mu kk es=true)/\K ({E with s:=E.s.set b (.map (aaL (view k) (view v) es))}.put d (.iP []))
 |_=>False
def VI(kk:EF)(E:St)(k v:AV)(d:Option Nat)(K:St->Prop):AV->Prop
 |.mp b=>aiZ kk b E k v d K (E.s b)
 |_=>False
def Vp:AV->Bool
 |.us _ _ _=>true
 |_=>false
def iX:List AV->Bool
 |[a]=>dp a||Vp a
 |_=>true
def Nq(E:St)(d:Option Nat)(K:St->Prop)(rs:List AV)(s':ae):Prop:=iX rs=true/\K ({E with s:=s'}.put d (e7 rs))
def sJ(f:Nat)(E:St)(d:Option Nat)(K:St->Prop):Option (List AV)->Prop
 |some args=>FN P f args E.s (Nq E d K)
 |none=>False
def vE(f:FuncId):Bool:=match P.funcs[f]? with
 |some fn=>fn.name != "runtime.NumGoroutine" &&fn.body.isSome
 |none=>false
def Qz(f:Nat)(first gh:List AV)(E:St)(d:Option Nat)(K:St->Prop):Option (List AV)->Prop
 |some args=>vE P f=true/\FN P f (first++args++gh) E.s (Nq E d K)
 |none=>False
def xb(E:St)(args:Option (List AV))(d:Option Nat)(K:St->Prop):AV->Prop
 |.fn f first gh=>Qz P f first gh E d K args
 |_=>False
def xg(g:Bool)(E:St)(x:IX):AV:=xT g (E.x x)
def TI(i:Nat)(E:St)(W:St->Prop):AV->Prop
 |.us sz n cs=>(∀b cap sp,E.s b=none->0<cap->n<=cap->(cs++sp).length=cap*sz->Fl (cs++sp)->views sp=sp->W ({E with s:=E.s.set b (.cells (cs++sp))}.put (some i) (.arr b 0 n cap)))/\
   (n=0->∀b off,W (E.put (some i) (.arr b off 0 0)))
 |_=>False
def Al(sz:Nat):AV->AV
 |.arr _ 0 0 0=>.sl true sz 0 []
 |a=>a
def Lm(sz:Nat):AV->List AV
 |.agg cs=>(views cs).map (Al sz)
 |a=>[a]
def ahe(sz n:Nat)(E:St)(p:IX)(v:IX)(d:Option Nat)(K:St->Prop)(a:AV):Prop:=dp a=true/\(Lm sz a).length=n/\Tr d K (Lw (E.drain v) (E.x p) p (Lm sz a))
def Qv(sz n:Nat)(E:St)(d:Option Nat)(K:St->Prop)(a:AV):Prop:=dp a=true/\(cellsOf a).length=n/\∀b,E.s b=none->K ({E with s:=E.s.set b (.cells ((views (cellsOf a)).map (Al sz)))}.put d (.ref b 0))
def uS(sz n:Nat)(E:St)(d:Option Nat)(K:St->Prop):Option (List AV)->Prop
 |some cs=>cs.length=n*sz/\∀b,E.s b=none->K ({E with s:=E.s.set b (.cells (views cs))}.put d (.arr b 0 n n))
 |none=>False
def jf(m sz off:Nat):Option SO->Option (Nat×List AV)
 |some (.cells cs)=>bif decide (off+m*sz<=cs.length)then some (m,views (sub cs off (m*sz)))else none
 |_=>none
def zy(s:ae)(sz:Nat):AV->Option (Nat×List AV)
 |.sl _ s' m ds=>bif s'==sz then some (m,views ds)else bif m==0 then some (0,[])else none
 |.str l=>bif sz==1 then some (l.length,l.map fun c=>.int .u8 c.toNat)else none
 |.arr b off m _=>bif m==0 then some (0,[])else jf m sz off (s b)
 |_=>none
def n9(s:ae)(sz b off n:Nat):Option (List AV):=bif n==0 then some []else(jf n sz off (s b)).map Prod.snd
def xM(sz b off cap:Nat):Option SO->Prop
 |some (.cells cs)=>off+cap*sz<=cs.length
 |_=>False
def setRow(s:ae)(b off:Nat)(news:List AV):Option SO->ae
 |some (.cells cs)=>s.set b (.cells (setAt cs off news))
 |_=>s
def OR(sz bytes:Nat)(zero:List AV)(E:St)(d:Option Nat)(K:St->Prop)(b off n cap m:Nat)(ds:List AV):Option (List AV)->Prop
 |some olds=>zero.length=sz/\(n+m<=cap->(m=0/\K (E.put d (.arr b off n cap)))\/(xM sz b off cap (E.s b)/\K ({E with s:=setRow E.s b (off+n*sz) ds (E.s b)}.put d (.arr b off (n+m) cap))))/\
   (cap<n+m->(n+m)*bytes<=room/\∀b' c6,E.s b'=none->n+m<=c6->K ({E with s:=E.s.set b' (.cells (olds++ds++(List.replicate (c6 -(n+m)) zero).flatten))}.put d (.arr b' 0 (n+m) c6)))
 |none=>False
def dG(sz bytes:Nat)(zero:List AV)(E:St)(d:Option Nat)(K:St->Prop):AV->Option (Nat×List AV)->Prop
 |.arr b off n cap,some (m,ds)=>OR sz bytes zero E d K b off n cap m ds (n9 E.s sz b off n)
 |_,_=>False
def sD(sz bytes:Nat)(zero:List AV)(E:St)(d:Option Nat)(K:St->Prop):AV->AV->Prop
 |.arr b off n cap,.int .i64 c=>0<=c/\cap<n+c.toNat/\views zero=zero/\OR sz bytes zero E d K b off n cap c.toNat (List.replicate c.toNat zero).flatten (n9 E.s sz b off n)
 |_,_=>False
def ahJ(sz:Nat)(E:St)(d:Option Nat)(K:St->Prop):AV->Option (Nat×List AV)->Prop
 |.arr b off n _,some (m,ds)=>(min m n=0/\K (E.put d (.int .i64 0)))\/(xM sz b off n (E.s b)/\K ({E with s:=setRow E.s b off (ds.take (min m n*sz)) (E.s b)}.put d (.int .i64 (min m n:Nat))))
 |_,_=>False
def yg(zero:List AV)(E:St)(d:Option Nat)(K:St->Prop):AV->Prop
 |.arr b off n _=>(n=0/\K (E.put d (.iP [])))\/(xM zero.length b off n (E.s b)/\views zero=zero/\K ({E with s:=setRow E.s b off (List.replicate n zero).flatten (E.s b)}.put d (.iP [])))
 |_=>False
def ac1(P:Program)(f:FuncId):Prop:=∀(w:World)(a b:Nat)(oa la ca ob lb cb:Nat)(ta tb:TypeId)(x y:Array Value)(fa:Nat×Nat),a≠b->w.heap[a]? =some (.cells x ta fa)->x.size≠0->w.heap[b]? =some (.cells y tb (0,0))->y.size≠0->
 ∃w',(callFunc f #[.slice (some ⟨a,oa,none⟩) la ca,.slice (some ⟨b,ob,none⟩) lb cb]).run P w=.ok (.value (.bool false)) w'/\w'.heap=w.heap/\w'.os=w.os/\w'.tape=w.tape/\w'.output=w.output/\w.drawn<=w'.drawn
def cellsIn:Option SO->Prop
 |some (.cells (_::_))=>True
 |_=>False
def aki(P:Program)(f:FuncId)(E:St)(d:Option Nat)(K:St->Prop):AV->AV->Prop
 |.sl _ _ (_+1) (_::_),.arr b' _ _ (_+1)=>ac1 P f/\cellsIn (E.s b')/\K (E.put d (.bool false))
 |_,_=>False
def vG(sz:Nat)(own:Bool)(E:St)(d:Option Nat)(K:St->Prop):AV->Prop
 |.arr b off n cap=>(cap=0/\n=0/\off=0/\K (E.put d (.sl own sz 0 [])))\/(0<cap/\n<=cap/\(own=true->off=0/\xM sz b off cap (E.s b)/\sizeV (off+cap*sz) (E.s b))/\frzK sz own E d K b n (jf n sz off (E.s b)))
 |_=>False
where
 sizeV (k:Nat):Option SO->Prop
  |some (.cells cs)=>cs.length=k
  |_=>False
 frzK (sz:Nat) (own:Bool) (E:St) (d:Option Nat) (K:St->Prop) (b n:Nat):Option (Nat×List AV)->Prop
  |some (_,cs)=>K ({E with s:=E.s.del b}.put d (.sl own sz n cs))
  |none=>False
def Ra(x:IX)(d:Option Nat)(τ:St):St:=match x,d with
 |.t i,some j=>match look τ.e j with
  |.sl _ sz n cs=>τ.put (some i) (.sl false sz n cs)
  |_=>τ
 |_,_=>τ
def Il(sz:Nat)(own:Bool)(E:St)(d:Option Nat)(K:St->Prop):Option (List AV)->Prop
 |some [a]=>dp a=true/\vG sz own E d K a
 |_=>False
def j9(off:Nat)(cs:List AV)(k:List AV->AV->Prop):Prop:=match cs[off]? with
 |some (.sl o sz n ds)=>k (setAt cs off [.sl false sz n ds]) (.sl o sz n ds)
 |some (.bb t n ds)=>k (setAt cs off [.sl false 1 n ds]) (.bb t n ds)
 |_=>False
def Ep(off:Nat)(cs:List AV)(k:List AV->AV->Prop):Prop:=match cs[off]? with
 |some (.sl o sz n ds)=>k (setAt cs off [.sl false sz n ds]) (.sl o sz n ds)
 |_=>False
def pw(E:St)(d:Option Nat)(K:St->Prop):AV->Prop
 |.ref b off=>match E.s b with
  |some (.cells cs)=>j9 off cs fun cs' a=>K ({E with s:=E.s.set b (.cells cs')}.put d a)
  |_=>False
 |.lp i off=>match look E.e i with
  |.loc cs=>d≠some i/\Ep off cs fun cs' a=>K ((E.put (some i) (.loc cs')).put d a)
  |_=>False
 |_=>False
def C7(j:IX)(off:Nat)(a:AV):Bool:=match j,a with
 |.t i,.lp i' o=>i'==i&&o==off
 |_,_=>false
def Ph(ne:Bool)(E:St)(d:Option Nat)(K:St->Prop):AV->Prop
 |.sl _ _ n _=>∀v:Bool,(v=!ne->n=0)->K (E.put d (.bool v))
 |.arr _ _ _ cap=>∀v:Bool,(v=!ne->cap=0)->K (E.put d (.bool v))
 |_=>False
def QN(d:Option Nat)(K:St->Prop)(E:St)(b off:Nat):Option SO->Prop
 |some (.cells cs)=>off<cs.length/\K (E.put d (.ref b off))
 |_=>False
def JJ(E:St)(d:Option Nat)(K:St->Prop):AV->Prop
 |.ref b off=>QN d K E b off (E.s b)
 |_=>False
def Dy(t cells off u:Nat):Bool:=liesAt P P.depth t (cells/P.cellsOf t) off u 1
def QM(u:Nat)(d:Option Nat)(K:St->Prop)(E:St)(b off:Nat):Option SO->Prop
 |some (.cells cs)=>∃t,cs[off]? =some (.m6 t)/\Dy P t cs.length off u=true/\K (E.put d (.ref b off))
 |_=>False
def JI(u:Nat)(E:St)(d:Option Nat)(K:St->Prop):AV->Prop
 |.ref b off=>QM P u d K E b off (E.s b)
 |_=>False
def ad9(f:Nat):Prop:=∀(x:Value)(w:World),(callFunc f #[x]).run P w=.ok (.value x) w
def Ht(f:Nat)(E:St)(d:Option Nat)(K:St->Prop)(a:AV):Prop:=dp a=true/\ad9 P f/\K (E.put d (view a))
def Qw(n t j u:Nat)(E:St)(d:Option Nat)(K:St->Prop)(a:AV):Prop:=dp a=true/\(cellsOf a).length=n/\(cellsOf a)[j]? =some .fj/\(cellsOf a)[j+1]? =some (.bb u 0 [])/\∀b,E.s b=none->K ({E with s:=E.s.set b (.cells (setAt (views (cellsOf a)) j [.m6 t,.bb u 0 []]))}.put d (.ref b 0))
def pL(t:Nat)(E:St)(x:IX)(d:Option Nat)(K:St->Prop):AV->AV->Prop
 |.bb t' n cs,.sl _ s' m ds=>t=t'/\(s'=1\/m=0)/\(n+m)*1<=room/\K ((E.drain x).put d (.bb t (n+m) (cs++views ds)))
 |.bb t' n cs,.str ds=>t=t'/\(n+ds.length)*1<=room/\K ((E.drain x).put d (.bb t (n+ds.length) (cs++ds.map fun c=>.int .u8 c.toNat)))
 |_,_=>False
def jl(o:rY)(d:Option Nat)(E:St)(K:St->Prop):Prop:=
 match o with
 |.oM _ x=>Sf E x d K (E.x x)
 |.jq zero=>kO E.lp d=true/\K (E.put d (.loc zero))
 |.mC zero=>∀b,E.s b=none->K ({E with s:=E.s.set b (.cells zero)}.put d (.ref b 0))
 |.Jw n x=>kO E.lp d=true/\Xh n E d K (E.x x)
 |.Bd n x=>Xi n E d K (xg true E x)
 |.gr sz n zero parts=>yb sz n E d K (fill (xg true E) zero parts)
 |.store n p v=>I3 n E p v d K (E.x v)
 |.append sz bytes x y=>kq sz bytes E x d K (E.x x) (E.x y)
 |.jG x=>BP E d K (xg true E x)
 |.gy x=>pN E d K (xg true E x)
 |.kP _ bytes zero l c=>ze bytes zero E d K (xg true E l) (xg true E c)
 |.call f args=>sJ P f E d K (cq (xg true E) args)
 |.gw x args=>xb P E (cq (xg true E) args) d K (xg true E x)
 |.kz x=>SF E d K (BF (xg true E x))
 |.qt x=>SF E d K (AH (xg true E x))
 |.ks sz n zero parts=>uS sz n E d K (fill (xg true E) zero parts)
 |.mZ sz bytes zero x y=>dG sz bytes zero E d K (E.x x) (zy E.s sz (E.x y))
 |.m4 sz bytes zero x y=>sD sz bytes zero E d K (E.x x) (xg true E y)
 |.qU zero x=>yg zero E d K (E.x x)
 |.T7 sz own x=>vG sz own E d (fun τ=>K (Ra x d τ)) (E.x x)
 |.zd sz own x=>Il sz own E d K (rd E (xg true E x) 1)
 |.mh x=>pw E d K (E.x x)
 |.mW off j x=>C7 j off (E.x x)=true/\pw E d K (E.x x)
 |.UR ne x=>Ph ne E d K (E.x x)
 |.Ho sz n x=>Qv sz n E d K (E.x x)
 |.Hp n t j u x=>Qw n t j u E d K (E.x x)
 |.m3 t x y=>pL t E x d K (E.x x) (E.x y)
 |.HD x=>JJ E d K (E.x x)
 |.yf f x=>Ht P f E d K (E.x x)
 |.HC u x=>JI P u E d K (E.x x)
 |.ye f i args=>TI i E (fun τ=>sJ P f τ d K (cq (xg true τ) args)) (look E.e i)
 |_=>False
def b9(E:St):AV->Option Nat->St
 |.lp t _,some i=>{E with lp:=(i,t)::E.lp}
 |.when _ a,d=>b9 E a d
 |_,_=>E
def Ua(o:rY)(E:St)(d:Option Nat)(K:St->Prop):PR->Prop
 |.dh a=>K ((b9 E a d).put d a)
 |.fw c a=>c/\K ((b9 E a d).put d a)
 |.no=>jl P o d E K
def owp(o:rY)(d:Option Nat)(E:St)(K:St->Prop):Prop:=Ua P o E d K (pv o (xg true E) E)
def Qk(g:Bool)(o:rY)(E:St)(d:Option Nat)(K:St->Prop):PR->Prop
 |.dh a=>K ((b9 E a d).put d (.when g a))
 |.fw c a=>(g=true->c)/\K ((b9 E a d).put d (.when g a))
 |.no=>(g=true->owp P o d E K)/\(g=false->K (E.put d (.iP [])))
def zN(o:rY)(d:Option Nat)(t:Nat)(want:Bool)(E:St)(K:St->Prop):AV->Prop
 |.bool b=>Qk P (b==want) o E d K (pv o (xg (b==want) E) E)
 |.when b' (.bool b)=>Qk P (b'&&(b==want)) o E d K (pv o (xg (b'&&(b==want)) E) E)
 |.iP []=>K (E.put d (.iP []))
 |_=>False
def Lz(o:au)(E:St)(K:St->Prop):Prop:=
 match o.g with
 |none=>owp P o.op o.dst E K
 |some (t,want)=>zN P o.op o.dst t want E K (look E.e t)
def Lo:List au->St->(St->Prop)->Prop
 |[],E,K=>K E
 |o::r,E,K=>Lz P o E (fun τ=>Lo r τ K)
def afX(r:List au)(K:St->Prop)(τ:St):Prop:=Lo P r τ K
def bw:AV->Bool
 |.loc _=>false
 |_=>true
def Qg(g:Bool):PR->PR
 |.dh a=>.dh (.when g a)
 |.fw c a=>.fw (g=true->c) (.when g a)
 |.no=>.no
def rdO:rY->Bool
 |.kN _ _ _=>true
 |_=>false
def WS(r g:Bool):PR->PR
 |.dh a=>.dh (.when g a)
 |.fw c a=>.fw (g=true->c) (.when g a)
 |.no=>bif r then .fw (g=false) (.when g .undef)else .no
def K5(o:rY)(want:Bool)(E:St):AV->PR
 |.bool b=>WS (rdO o) (b==want) (pv o (xg (b==want) E) E)
 |.when g (.bool b)=>WS (rdO o) (g&&(b==want)) (pv o (xg (g&&(b==want)) E) E)
 |_=>.no
def qv(o:au)(E:St):PR:=match o.g with
 |none=>pv o.op (xg true E) E
 |some (t,want)=>K5 o.op want E (look E.e t)
def qK(E:St)(d:Option Nat)(K:St->Prop):PR->Prop
 |.dh a=>bw a=true/\K ((b9 E a d).put d a)
 |.fw c a=>c/\bw a=true/\K ((b9 E a d).put d a)
 |.no=>False
def Oq(f:Nat)(E:St)(d:Option Nat)(K:St->Prop):Option (List AV)->Prop
 |some as=>∃rs,iX rs=true/\FE P f as E.s rs E.s/\K (E.put d (e7 rs))
 |none=>False
def II(f:Nat)(first gh:List AV)(E:St)(d:Option Nat)(K:St->Prop):Option (List AV)->Prop
 |some as=>vE P f=true/\∃rs,iX rs=true/\FE P f (first++as++gh) E.s rs E.s/\K (E.put d (e7 rs))
 |none=>False
def MS(E:St)(args:Option (List AV))(d:Option Nat)(K:St->Prop):AV->Prop
 |.fn f first gh=>II P f first gh E d K args
 |_=>False
def callee(x:IX)(args:List IX)(g:Bool)(E:St)(f:Nat)(as:List AV):Prop:=∃first gh xs,xg g E x=.fn f first gh/\cq (xg g E) args=some xs/\as=first++xs++gh
def BX(x:IX)(args:List IX)(want:Bool)(E:St)(d:Option Nat)(K:St->Prop):AV->Prop
 |.bool b=>∃rs,iX rs=true/\((b==want)=true->∃f as,callee x args (b==want) E f as/\vE P f=true/\FE P f as E.s rs E.s)/\K (E.put d (.when (b==want) (e7 rs)))
 |.when g (.bool b)=>∃rs,iX rs=true/\((g&&(b==want))=true->∃f as,callee x args (g&&(b==want)) E f as/\vE P f=true/\FE P f as E.s rs E.s)/\K (E.put d (.when (g&&(b==want)) (e7 rs)))
 |_=>False
def DY(f:Nat)(args:List IX)(want:Bool)(E:St)(d:Option Nat)(K:St->Prop):AV->Prop
 |.bool b=>∃rs,iX rs=true/\((b==want)=true->∃as,cq (xg (b==want) E) args=some as/\FE P f as E.s rs E.s)/\K (E.put d (.when (b==want) (e7 rs)))
 |.when g (.bool b)=>∃rs,iX rs=true/\((g&&(b==want))=true->∃as,cq (xg (g&&(b==want)) E) args=some as/\FE P f as E.s rs E.s)/\K (E.put d (.when (g&&(b==want)) (e7 rs)))
 |_=>False
def aiM(E:St)(d:Option Nat)(K:St->Prop):AV->Prop
 |.sl _ sz _ cs=>sz=1/\∃s:List UInt8,cs=(s.map fun c=>.int .u8 c.toNat)/\K (E.put d (.str s))
 |_=>False
def uT:AV->PR
 |.str s=>.dh (.sl (Sm s) 1 s.length (s.map fun c=>.int .u8 c.toNat))
 |_=>.no
def D7(sz n:Nat):Option (List AV)->PR
 |some cs=>.fw (cs.length=n*sz) (.sl true sz n cs)
 |none=>.no
def qe(f:IX->AV)(s:ae):rY->PR
 |.gy x=>uT (f x)
 |.gr sz n zero parts=>D7 sz n (fill f zero parts)
 |.kz x=>BF (f x)
 |.qt x=>AH (f x)
 |_=>.no
def Ot(o:rY)(want:Bool)(E:St):AV->PR
 |.bool b=>Qg (b==want) (qe (xg (b==want) E) E.s o)
 |.when g (.bool b)=>Qg (g&&(b==want)) (qe (xg (g&&(b==want)) E) E.s o)
 |_=>.no
def EE(o:au)(E:St):PR:=match o.g with
 |none=>qe (xg true E) E.s o.op
 |some (t,want)=>Ot o.op want E (look E.e t)
def q1(o:au)(E:St)(K:St->Prop):Prop:=
 match o with
 |⟨d,.call f args,none⟩=>Oq P f E d K (cq (xg true E) args)
 |⟨d,.oM true x,none⟩=>Sf E x d K (E.x x)
 |⟨d,.call f args,some (t,want)⟩=>DY P f args want E d K (look E.e t)
 |⟨d,.gw x args,none⟩=>MS P E (cq (xg true E) args) d K (xg true E x)
 |⟨d,.gw x args,some (t,want)⟩=>BX P x args want E d K (look E.e t)
 |⟨d,.gy x,g⟩=>qK E d K (EE ⟨d,.gy x,g⟩ E)
 |⟨d,.gr sz n zero parts,g⟩=>qK E d K (EE ⟨d,.gr sz n zero parts,g⟩ E)
 |⟨d,.kz x,g⟩=>qK E d K (EE ⟨d,.kz x,g⟩ E)
 |⟨d,.qt x,g⟩=>qK E d K (EE ⟨d,.qt x,g⟩ E)
 |o=>qK E o.dst K (qv o E)
def bn(E:St):Option Nat->Bool
 |some d=>bw (look E.e d)
 |none=>true
def Ud:Nat->List au->St->(St->Prop)->Prop
 |0,l,E,K=>Lo P l E K
 |_+1,[],E,K=>K E
 |q+1,o::r,E,K=>bn E o.dst=true/\q1 P o E (fun τ=>Ud q r τ K)
def afF(q:Nat)(r:List au)(K:St->Prop)(τ:St):Prop:=Ud P q r τ K
def oL(c:Nat):AV->Bool
 |.lp t _=>!Nat.beq t c
 |.when _ v=>oL c v
 |_=>true
def rq:List Nat->AV->Bool
 |[],_=>true
 |c::T,a=>oL c a&&rq T a
def gK(T:List Nat):List (Nat×AV)->Bool
 |[]=>true
 |p::e=>rq T p.2&&gK T e
def SP(n:Nat)(E:St)(c:Nat)(x:IX)(K:St->Prop):AV->Prop
 |.loc gN=>gN.length=n/\dp (E.x x)=true/\(bu (E.x x)).length=n/\K ((E.drain x).put (some c) (.loc (bu (E.x x))))
 |_=>False
def q2(o:au)(E:St)(K:St->Prop):Prop:=
 match o with
 |⟨none,.store n (.t c) x,none⟩=>SP n E c x K (look E.e c)
 |⟨some d,.jq z,none⟩=>bw (look E.e d)=true/\kO E.lp (some d)=true/\K (E.put (some d) (.loc z))
 |⟨some d,.append sz bytes x y,none⟩=>bw (look E.e d)=true/\kq sz bytes E x (some d) K (E.x x) (E.x y)
 |⟨some d,.mW off (.t i) x,none⟩=>bw (look E.e d)=true/\C7 (.t i) off (E.x x)=true/\pw E (some d) K (E.x x)
 |⟨_,.store _ _ _,_⟩=>False
 |⟨_,.jq _,_⟩=>False
 |⟨_,.append _ _ _ _,_⟩=>False
 |⟨_,.mW _ _ _,_⟩=>False
 |o=>bn E o.dst=true/\q1 P o E K
def D0(T:List Nat):Nat->List au->St->(St->Prop)->Prop
 |0,l,E,K=>Lo P l E K
 |_+1,[],E,K=>K E
 |q+1,o::r,E,K=>q2 P o E (fun τ=>gK T τ.e=true/\D0 T q r τ K)
def Yn(T:List Nat)(q:Nat)(r:List au)(K:St->Prop)(τ:St):Prop:=gK T τ.e=true/\D0 P T q r τ K
def lq:AV->Bool
 |.ref _ _=>false
 |.when _ a=>lq a
 |_=>true
def mr(o:au)(E:St):Bool:=match o.op with
 |.load _ _ x=>lq (E.x x)
 |.kN _ _ _=>false
 |.call _ _=>false
 |.gw _ _=>false
 |.len c _=>!Nat.beq c 2
 |_=>true
def zH(f:Nat)(s:ae)(C:AV->ae->Prop):Option (List AV)->Prop
 |some args=>FN P f args s (fun rs s'=>iX rs=true/\C (e7 rs) s')
 |none=>False
def Jx(f:Nat)(first gh:List AV)(s:ae)(C:AV->ae->Prop):Option (List AV)->Prop
 |some args=>vE P f=true/\FN P f (first++args++gh) s (fun rs s'=>iX rs=true/\C (e7 rs) s')
 |none=>False
def uQ(args:Option (List AV))(s:ae)(C:AV->ae->Prop):AV->Prop
 |.fn f first gh=>Jx P f first gh s C args
 |_=>False
def sH(bytes:Nat)(zero:List AV)(s:ae)(C:AV->ae->Prop):AV->AV->Prop
 |.int _ l,.int _ c=>0<=l/\l<=c/\c*bytes<=room/\∀b,s b=none->C (.arr b 0 l.toNat c.toNat) (s.set b (.cells ((List.replicate c.toNat zero).flatten)))
 |_,_=>False
def ade(n:Nat)(s:ae)(C:AV->ae->Prop)(a:AV):Prop:=dp a=true/\(cellsOf a).length=n/\∀b,s b=none->C (.ref b 0) (s.set b (.cells (views (cellsOf a))))
def Jz(b off:Nat)(news:List AV)(s:ae)(C:AV->ae->Prop):Option SO->Prop
 |some (.cells gN)=>off+news.length<=gN.length/\C (.iP []) (s.set b (.cells (setAt gN off news)))
 |_=>False
def KR:AV->Bool
 |.sl true _ _ _=>false
 |.bb _ _ _=>false
 |_=>true
def oB(n:Nat)(s:ae)(C:AV->ae->Prop)(v:AV):AV->Prop
 |.ref b off=>dp v=true/\KR v=true/\(bu v).length=n/\Jz b off (bu v) s C (s b)
 |_=>False
def YQ(kk:EF)(b:Nat)(s:ae)(k v:AV)(C:AV->ae->Prop):Option SO->Prop
 |some (.map es)=>(dp v=true/\Du kk k=true/\Mu kk es=true)/\C (.iP []) (s.set b (.map (aaL (view k) (view v) es)))
 |_=>False
def ajc(kk:EF)(s:ae)(k v:AV)(C:AV->ae->Prop):AV->Prop
 |.mp b=>YQ kk b s k v C (s b)
 |_=>False
def uR(b off:Nat)(s:ae)(C:AV->ae->Prop):Option SO->Prop
 |some (.cells cs)=>j9 off cs fun cs' a=>C a (s.set b (.cells cs'))
 |_=>False
def nC(s:ae)(C:AV->ae->Prop):AV->Prop
 |.ref b off=>uR b off s C (s b)
 |_=>False
def vB(o:rY)(E:St)(C:AV->ae->Prop):Prop:=match o with
 |.call f args=>zH P f E.s C (cq (xg true E) args)
 |.gw x args=>uQ P (cq (xg true E) args) E.s C (xg true E x)
 |.kP _ bytes zero l c=>sH bytes zero E.s C (xg true E l) (xg true E c)
 |.mC zero=>∀b,E.s b=none->C (.ref b 0) (E.s.set b (.cells zero))
 |.Bd n x=>ade n E.s C (xg true E x)
 |.store n p v=>oB n E.s C (E.x v) (E.x p)
 |.mh x=>nC E.s C (E.x x)
 |_=>False
def T0(E:St)(d:Option Nat)(K:St->Prop)(a:AV)(s':ae):Prop:=K ({E with s:=s'}.put d a)
def T4(o:au)(E:St)(K:St->Prop):Prop:=match o.g with
 |none=>bn E o.dst=true/\vB P o.op E (T0 E o.dst K)
 |some _=>False
def FX(T:List Nat):List (Nat×Nat×au)->St->(St->Prop)->Prop
 |[],E,K=>K E
 |(0,_,o)::r,E,K=>q2 P o E (fun τ=>gK T τ.e=true/\FX T r τ K)
 |(1,_,o)::r,E,K=>mr o E=true/\q2 P o E (fun τ=>gK T τ.e=true/\FX T r τ K)
 |(2,_,o)::r,E,K=>T4 P o E (fun τ=>gK T τ.e=true/\FX T r τ K)
 |(_+3,_,o)::r,E,K=>Lz P o E (fun τ=>gK T τ.e=true/\FX T r τ K)
def Qx(T:List Nat)(r:List (Nat×Nat×au))(K:St->Prop)(τ:St):Prop:=gK T τ.e=true/\FX P T r τ K
def we:List Bool->List Bool->Bool
 |d::r,x::s=>(!d||x)&&we r s
 |_,_=>true
def xR:List Bool->List Bool->List Bool
 |[],s=>s
 |x::p,s=>xR p (x::s)
def Nh(done:List Bool):List (List Bool)->List Bool->List Bool->List au->(au->List Bool->Prop)->Prop
 |row::rows,pre,x::xs,o::r,F=>(bif !x&&we row done then F o (xR pre (true::xs))else True)/\Nh done rows (x::pre) xs r F
 |_,_,_,_,_=>True
def uK:List au->List Bool
 |[]=>[]
 |_::r=>false::uK r
def ON(fO:List (List Bool))(ops:List au)(K:St->Prop):List au->List Bool->St->Prop
 |[],_,E=>K E
 |_::f,done,E=>Nh done fO [] done ops (fun o d=>Lz P o E (fun τ=>ON fO ops K f d τ))
def agm(fO:List (List Bool))(ops:List au)(K:St->Prop)(f:List au)(done:List Bool)(τ:St):Prop:=ON P fO ops K f done τ
def uk(live:List Nat)(Q:Exit->St->Prop)(τ:St):Prop:=Q .normal (τ.vU live)
def LL(id:Nat)(Q:Exit->St->Prop):Exit->St->Prop
 |.exit i,τ=>bif i==id then Q .normal τ else Q (.exit i) τ
 |x,τ=>Q x τ
def Sa(live:List (Nat×Bool))(I:St->Prop)(μ:St->Nat)(m:Nat)(Q:Exit->St->Prop):Exit->St->Prop
 |.normal,ρ=>I (ρ.ed live)/\μ (ρ.ed live)<m
 |x,ρ=>Q x ρ
def oJ(live:List (Nat×Bool))(J:St->Prop)(Q:Exit->St->Prop):Exit->St->Prop
 |.normal,ρ=>J (ρ.ed live)
 |x,ρ=>Q x ρ
def IU(live:List (Nat×Bool))(I:St->Prop)(Q:Exit->St->Prop):Exit->St->Prop
 |.normal,ρ=>I (ρ.ed live)
 |.goto _,_=>False
 |x,ρ=>Q x ρ
def Ib(l:Nat)(live:List (Nat×Bool))(I:St->Prop)(Q:Exit->St->Prop):Exit->St->Prop
 |.goto l',ρ=>l'=l/\I (ρ.ed live)
 |x,ρ=>Q x ρ
def fK:IC->(Exit->St->Prop)->St->Prop
 |.skip,Q,E=>Q .normal E
 |.Yo q ops live,Q,E=>match q with
  |none=>Lo P ops E (uk live Q)
  |some q=>Ud P q ops E (uk live Q)
 |.S0 T q ops live,Q,E=>gK T E.e=true/\D0 P T q ops E (uk live Q)
 |.SZ T l live,Q,E=>gK T E.e=true/\FX P T l E (uk live Q)
 |.Ta fO ops live,Q,E=>ON P fO ops (uk live Q) ops (uK ops) E
 |.seq a b,Q,E=>fK a (fun x τ=>match x with|.normal=>fK b Q τ|x=>Q x τ) E
 |.cond c a b,Q,E=>match E.x c with
  |.bool v=>(v=true->fK a Q E)/\(v=false->fK b Q E)
  |_=>False
 |.block id b,Q,E=>fK b (LL id Q) E
 |.loop live b,Q,E=>∃(I:St->Prop)(μ:St->Nat),I (E.ed live)/\∀τ,I τ->fK b (Sa live I μ (μ τ) Q) τ
 |.join live a b,Q,E=>∃J:St->Prop,fK a (oJ live J Q) E/\∀τ,J τ->fK b Q τ
 |.exit id,Q,E=>Q (.exit id) E
 |.scope b,Q,E=>fK b (fun x τ=>match x with|.goto _=>False|x=>Q x τ) E
 |.Ec l live a1 a2 a3 r,Q,E=>
  let K:=IU live (fun ρ=>∃(I:St->Prop)(μ:St->Nat),I ρ/\∀τ,I τ->fK r (Ib l live (fun ρ'=>I ρ'/\μ ρ'<μ τ) Q) τ) Q
  fK a1 (fun x τ=>match x with|.normal=>fK a2 (fun x τ=>match x with|.normal=>fK a3 K τ|x=>K x τ) τ|x=>K x τ) E
 |.label _,Q,E=>Q .normal E
 |.goto l,Q,E=>Q (.goto l) E
 |.ret,Q,E=>Q .ret E
 |.dead,_,_=>False
def T8(l:Nat)(live:List (Nat×Bool))(r:IC)(Q:Exit->St->Prop)(ρ:St):Prop:=∃(I:St->Prop)(μ:St->Nat),I ρ/\∀τ,I τ->fK P r (Ib l live (fun ρ'=>I ρ'/\μ ρ'<μ τ) Q) τ
def BG(b:IC)(Q:Exit->St->Prop):Exit->St->Prop
 |.normal,τ=>fK P b Q τ
 |x,τ=>Q x τ
def xN(Q:Exit->St->Prop):Exit->St->Prop
 |.goto _,_=>False
 |x,τ=>Q x τ
def Nw(a b:IC)(Q:Exit->St->Prop)(E:St):AV->Prop
 |.bool v=>(v=true->fK P a Q E)/\(v=false->fK P b Q E)
 |_=>False
end
end Go.AB
end
