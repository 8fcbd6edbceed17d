/- A part. -/
import Derived.Orders
import Derived.Laws.Sem
set_option linter.unusedSimpArgs false
set_option linter.unusedVariables false
section
namespace Go.AB
open Go
inductive AV where
 |undef
 |bool (b:Bool)
 |int (k:IntKind) (n:Int)
 |str (s:List UInt8)
 |cZ
 |ref (b off:Nat)
 |lp (d off:Nat)
 |sp (cs:List AV)
 |loc (cs:List AV)
 |sl (own:Bool) (sz n:Nat) (cs:List AV)
 |arr (b off len cap:Nat)
 |agg (cs:List AV)
 |gb (vs:List AV)
 |fn (f:Nat) (first dZ:List AV)
 |nn
 |mp (b:Nat)
 |sd
 |when (b:Bool) (a:AV)
 |us (sz n:Nat) (cs:List AV)
 |one
 |lW (t:Nat)
 |kp
 |bb (t n:Nat) (cs:List AV)
 deriving Inhabited
inductive SO where
 |cells (cs:List AV)
 |map (es:List (AV×AV))
 deriving Inhabited
abbrev ab:=Nat->Option SO
def ab.set(s:ab)(b:Nat)(o:SO):ab:=fun i=>if i=b then some o else s i
def ab.del(s:ab)(b:Nat):ab:=fun i=>if i=b then none else s i
inductive lE where
 |int (k:IntKind)
 |str
 |bool
 |bytes (n:Nat)
 deriving Inhabited
inductive IX where
 |t (i:Nat)
 |c (a:AV)
 deriving Inhabited
inductive qT where
 |iJ (tr:Bool) (x:IX)
 |pick (c x y:IX)
 |aA (zero:List AV)
 |gH (zero:List AV)
 |jf (n:Nat) (x:IX)
 |qE (n:Nat) (x:IX)
 |build (zero:List AV) (parts:List (Nat×Nat×IX))
 |bB (sz len:Nat) (zero:List AV) (parts:List (Nat×Nat×IX))
 |load (n:Nat) (multi:Bool) (x:IX)
 |store (n:Nat) (p v:IX)
 |nilCheck (x:IX)
 |bin (op:BinOp) (x y:IX)
 |RG (ne:Bool) (x y:IX)
 |HO (ne:Bool) (x y:IX)
 |un (op:UnOp) (x:IX)
 |cC (k:IntKind) (x:IX)
 |eP (x:IX)
 |gN (x:IX)
 |de (x i:IX)
 |fieldAddr (off:Nat) (x:IX)
 |indexAddr (zero:List AV) (x i:IX)
 |slice (sz:Nat) (x:IX) (lo hi mx:Option IX)
 |js (x:IX) (lo hi:Option IX)
 |extract (x:IX) (k:Nat)
 |len (cls:Nat) (x:IX)
 |cap (x:IX)
 |gT (mx:Bool) (xs:List IX)
 |append (sz bytes:Nat) (x y:IX)
 |gS (sz bytes:Nat) (zero:List AV) (l c:IX)
 |makeMap
 |lookup (kk:lE) (zero:AV) (ok:Bool) (x k:IX)
 |mapUpdate (kk:lE) (x k v:IX)
 |bM (zero:List AV) (multi:Bool) (x:IX)
 |jg (x:IX)
 |qP (x:IX)
 |call (f:Nat) (args:List IX)
 |dj (x:IX) (args:List IX)
 |lI (f:Nat) (first dZ:List IX)
 |jP (sz len:Nat) (zero:List AV) (parts:List (Nat×Nat×IX))
 |fL (sz bytes:Nat) (zero:List AV) (x y:IX)
 |vQ (sz:Nat) (x y:IX)
 |pI (zero:List AV) (x:IX)
 |NY (sz:Nat) (own:Bool) (x:IX)
 |lq (x:IX)
 |RH (ne:Bool) (x:IX)
 |Yh (f:Nat) (x y:IX)
 |vJ (f i:Nat) (args:List IX)
 |lV (sz bytes:Nat) (zero:List AV) (x y:IX)
 |Vi (ne:Bool) (x:IX)
 |zg (sz n:Nat) (p v:IX)
 |FQ (sz n:Nat) (x:IX)
 |lP (off:Nat) (j x:IX)
 |lQ (k:IntKind) (x:IX)
 |Q7 (ne:Bool) (x:IX)
 |ux (sz:Nat) (own:Bool) (x:IX)
 |F5 (x:IX)
 |vK (f:Nat) (x:IX)
 |F4 (u:Nat) (x:IX)
 |FR (n t j u:Nat) (x:IX)
 |lU (t:Nat) (x y:IX)
 deriving Inhabited
structure ai where
 dst:Option Nat
 op:qT
 g:Option (Nat×Bool)
 deriving Inhabited
inductive IC where
 |skip
 |bP (q:Option Nat) (ops:List ai) (live:List Nat)
 |C7 (T:List Nat) (q:Nat) (ops:List ai) (live:List Nat)
 |Az (T:List Nat) (l:List (Nat×Nat×ai)) (live:List Nat)
 |Nx (fB:List (List Bool)) (ops:List ai) (live:List Nat)
 |seq (a b:IC)
 |cond (c:IX) (a b:IC)
 |block (id:Nat) (b:IC)
 |loop (live:List (Nat×Bool)) (b:IC)
 |join (live:List (Nat×Bool)) (a b:IC)
 |exit (id:Nat)
 |scope (b:IC)
 |vu (l:Nat) (live:List (Nat×Bool)) (a1 a2 a3 r:IC)
 |label (l:Nat)
 |goto (l:Nat)
 |ret
 |dead
 deriving Inhabited
structure St where
 e:List (Nat×AV)
 lp:List (Nat×Nat)
 s:ab
def look:List (Nat×AV)->Nat->AV
 |[],_=>.undef
 |(j,a)::l,i=>bif j==i then a else look l i
def St.x(E:St):IX->AV
 |.t i=>look E.e i
 |.c a=>a
def St.put(E:St)(d:Option Nat)(a:AV):St:=
 match d with
 |some d=>{E with e:=(d,a)::E.e}
 |none=>E
def dc:AV->AV
 |.lp _ _=>.undef
 |.when _ _=>.undef
 |a=>a
def St.tG(E:St)(live:List Nat):St:={e:=live.map fun i=>(i,dc (look E.e i)),lp:=[],s:=E.s}
def view:AV->AV
 |.sl _ sz n cs=>.sl false sz n cs
 |.us _ _ _=>.undef
 |.lW _=>.cZ
 |.bb _ n cs=>.sl false 1 n cs
 |a=>a
def QX(b:Bool)(a:AV):AV:=bif b then view a else a
def St.df(E:St)(live:List (Nat×Bool)):St:={e:=live.map fun p=>(p.1,QX p.2 (dc (look E.e p.1))),lp:=[],s:=E.s}
def inner:AV->Bool
 |.loc _=>false
 |.when _ _=>false
 |_=>true
def vz(g:Bool):AV->AV
 |.when b a=>bif((b==g)||b)&&inner a then a else .undef
 |a=>a
def Kz:Int:=9223372036854775807
def cO:AV->Bool
 |.undef=>false
 |.lp _ _=>false
 |.loc _=>false
 |.gb _=>false
 |.when _ _=>false
 |.us _ _ _=>false
 |.lW _=>false
 |_=>true
def lS(k:IntKind)(n:Int):Int:=k.wrap n
inductive PR where
 |cT (a:AV)
 |prt (c:Prop) (a:AV)
 |no
def Nb(k k':IntKind):Bool:=decide (k=k')
def kk(k k':IntKind)(r:PR):PR:=bif Nb k k' then r else .no
def xM(op:BinOp)(k k':IntKind)(a b:Int):PR:=
 match op with
 |.shl=>.prt (0<=b) (.int k (lS k (a*2^(min b.toNat k.bits))))
 |.shr=>.prt (0<=b) (.int k (a.fdiv (2^(min b.toNat k.bits))))
 |.add=>kk k k' (.cT (.int k (lS k (a+b))))
 |.sub=>kk k k' (.cT (.int k (lS k (a -b))))
 |.mul=>kk k k' (.cT (.int k (lS k (a*b))))
 |.quo=>kk k k' (.prt (b≠0) (.int k (lS k (a.tdiv b))))
 |.rem=>kk k k' (.prt (b≠0) (.int k (a.tmod b)))
 |.and=>kk k k' (.cT (.int k (k.wrap (BitVec.ofInt k.bits a&&&BitVec.ofInt k.bits b).toNat)))
 |.or=>kk k k' (.cT (.int k (k.wrap (BitVec.ofInt k.bits a |||BitVec.ofInt k.bits b).toNat)))
 |.xor=>kk k k' (.cT (.int k (k.wrap (BitVec.ofInt k.bits a^^^BitVec.ofInt k.bits b).toNat)))
 |.andNot=>kk k k' (.cT (.int k (k.wrap (BitVec.ofInt k.bits a&&& ~~~BitVec.ofInt k.bits b).toNat)))
 |.eql=>kk k k' (.cT (.bool (a==b)))
 |.neq=>kk k k' (.cT (.bool (a !=b)))
 |.lss=>kk k k' (.cT (.bool (decide (a<b))))
 |.leq=>kk k k' (.cT (.bool (decide (a<=b))))
 |.gtr=>kk k k' (.cT (.bool (decide (a>b))))
 |.geq=>kk k k' (.cT (.bool (decide (a>=b))))
def HY(op:BinOp)(a b:List UInt8):PR:=
 match op with
 |.add=>.prt (((a.length+b.length:Nat):Int)<=Kz) (.str (a++b))
 |.eql=>.cT (.bool (a==b))
 |.neq=>.cT (.bool (!(a==b)))
 |.lss=>.cT (.bool (Op.bytesLess a b))
 |.leq=>.cT (.bool (Op.bytesLess a b||a==b))
 |.gtr=>.cT (.bool (!(Op.bytesLess a b||a==b)))
 |.geq=>.cT (.bool (!Op.bytesLess a b))
 |_=>.no
def J8(op:BinOp)(x y:AV):PR:=
 match x,y with
 |.int k a,.int k' b=>xM op k k' a b
 |.str a,.str b=>HY op a b
 |_,_=>.no
def Ku(ne:Bool)(x y:AV):PR:=
 match x,y with
 |.bool a,.bool b=>.cT (.bool ((a==b)!=ne))
 |_,_=>.no
def DJ(ne:Bool)(x y:AV):PR:=
 match x,y with
 |.cZ,.cZ=>.cT (.bool (!ne))
 |.ref _ _,.cZ=>.cT (.bool ne)
 |.cZ,.ref _ _=>.cT (.bool ne)
 |.ref b o,.ref b' o'=>bif b==b'&&o==o' then .cT (.bool (!ne))else .no
 |_,_=>.no
def ae8(ne:Bool)(x y:AV):PR:=
 match x,y with
 |.sl _ _ (_+1) _,.sl _ _ 0 []=>.cT (.bool ne)
 |.arr _ _ _ (_+1),.sl _ _ 0 []=>.cT (.bool ne)
 |_,_=>.no
def AU:List AV->List AV->Bool
 |[],[]=>true
 |.int k _::r,.int k' _::s=>Nb k k'&&AU r s
 |_,_=>false
def Kw:List AV->List AV->Bool
 |.int _ a::r,.int _ b::s=>(a==b)&&Kw r s
 |_,_=>true
def ae7(n:Nat)(ne:Bool)(x y:AV):PR:=
 match x,y with
 |.agg cs,.agg ds=>bif AU cs ds&&cs.length==n then .cT (.bool (Kw cs ds !=ne))else .no
 |_,_=>.no
def IA(ne:Bool):AV->PR
 |.kp=>.cT (.bool (!ne))
 |_=>.no
def Kv(ne:Bool):AV->PR
 |.fn _ _ _=>.cT (.bool ne)
 |.nn=>.cT (.bool (!ne))
 |_=>.no
def cellsOf:AV->List AV
 |.agg cs=>cs
 |a=>[a]
def oz(multi:Bool)(cs:List AV):AV:=match multi,cs with
 |true,cs=>.agg cs
 |false,a::_=>a
 |false,[]=>.undef
def sub(cs:List AV)(off n:Nat):List AV:=(cs.drop off).take n
def views(cs:List AV):List AV:=cs.map view
def aU:AV->List AV
 |.agg cs=>views cs
 |a=>[a]
def setAt(cs:List AV)(off:Nat)(news:List AV):List AV:=cs.take off++news++cs.drop (off+news.length)
def bx(b:Bool):AV->Option Bool
 |.bool x=>some x
 |.when b' (.bool x)=>bif(b'==b)||b' then some x else none
 |_=>none
def fill(f:IX->AV)(cells:List AV):List (Nat×Nat×IX)->Option (List AV)
 |[]=>some cells
 |(off,n,x)::r=>
  let c:=views (cellsOf (f x))
  bif cO (f x)&&(c.length==n&&decide (off+n<=cells.length))then fill f (setAt cells off c) r else none
def gL(n off:Nat)(cs:List AV):Option (List AV):=bif decide (off+n<=cs.length)then some (views (sub cs off n))else none
def kB(n off:Nat):AV->Option (List AV)
 |.loc cs=>gL n off cs
 |_=>none
def tL(n off:Nat):Option SO->Option (List AV)
 |some (.cells cs)=>gL n off cs
 |_=>none
def rd(E:St)(p:AV)(n:Nat):Option (List AV):=
 match p with
 |.loc cs=>gL n 0 cs
 |.lp d off=>kB n off (look E.e d)
 |.sp cs=>gL n 0 cs
 |.ref b off=>tL n off (E.s b)
 |_=>none
def Dx(f:IX->AV)(o:Option IX)(adn:Int):Option Int:=
 match o with
 |none=>some adn
 |some x=>match f x with
  |.int _ n=>some n
  |_=>none
def Jm(mx:Bool):Int->List AV->Option Int
 |a,[]=>some a
 |a,.int _ b::r=>Jm mx (bif mx then max a b else min a b) r
 |_,_=>none
def oE:AV->Bool
 |.agg _=>false
 |a=>cO a
def Fl(cs:List AV):Prop:=∀c∈cs,oE c=true
def xH(t:Nat)(cs:List AV):Prop:=∀c∈cs,oE c=true\/c=.lW t
def Ni(a:AV):PR:=bif cO a then .cT (view a)else .no
def O3:AV->Option (Bool×Bool)
 |.bool x=>some (true,x)
 |.when b (.bool x)=>some (b,x)
 |_=>none
def Qc(b:Bool):Option (Bool×Bool)->Option (Bool×Bool)->PR
 |some (g1,p),some (g2,q)=>.prt ((b=true->g1=true)/\(b=false->g2=true)) (.bool (bif b then p else q))
 |_,_=>.no
def Vn:AV->Option (Bool×Bool)
 |.gb []=>some (false,false)
 |a=>O3 a
def Fj(x y:AV):AV->PR
 |.bool b=>Qc b (Vn x) (Vn y)
 |_=>.no
def U3(a:AV):PR:=bif cO a then .cT a else .no
def Zg(c:Prop)(a:AV):PR:=bif cO a then .prt c a else .no
def UJ:UnOp->AV->PR
 |.not,.bool b=>.cT (.bool (!b))
 |.neg,.int k n=>.cT (.int k (lS k (0 -n)))
 |_,_=>.no
def sR(k:IntKind):AV->PR
 |.int _ n=>.cT (.int k (lS k n))
 |_=>.no
def adm:AV->PR
 |.str s=>.cT (.str s)
 |_=>.no
def iC(multi:Bool):Option (List AV)->PR
 |some cs=>U3 (oz multi cs)
 |none=>.no
def tj:AV->AV->PR
 |.str s,.int _ k=>.prt (0<=k/\k<s.length) (.int .u8 (s.getD k.toNat 0).toNat)
 |_,_=>.no
def kG:AV->PR
 |.ref b off=>.cT (.ref b off)
 |_=>.no
def Sg(c:Prop)(off:Nat):IX->PR
 |.t i=>.prt (c) (.lp i off)
 |.c _=>.no
def fC(off:Nat)(x:IX):AV->PR
 |.lp d o=>.cT (.lp d (o+off))
 |.sp cs=>bif decide (off<=cs.length)then .cT (.sp (cs.drop off))else .no
 |.ref b o=>.cT (.ref b (o+off))
 |.loc _=>Sg True off x
 |_=>.no
def pad(zero cs:List AV):List AV:=bif cs.length==zero.length then cs else zero
def ji(zero:List AV):AV->AV->PR
 |.sl _ s n cs,.int _ k=>bif s==zero.length then .prt (0<=k/\k<n) (.sp (pad zero (views (sub cs (k.toNat*zero.length) zero.length))))else .no
 |.arr b off n _,.int _ k=>.prt (0<=k/\k<n) (.ref b (off+k.toNat*zero.length))
 |_,_=>.no
def Bc(sz n:Nat)(cs:List AV):Option Int->Option Int->PR
 |some l,some h=>bif Nat.ble 1 sz then .prt (0<=l/\l<=h/\h<=n) (.sl false sz ((sub cs (l.toNat*sz) ((h -l).toNat*sz)).length/sz) (sub cs (l.toNat*sz) ((h -l).toNat*sz)))else .no
 |_,_=>.no
def iE(off cap l sz:Nat):Nat:=bif cap==l then off else off+l*sz
def xr(sz b off cap:Nat):Option Int->Option Int->PR
 |some l,some h=>.prt (0<=l/\l<=h/\h<=cap) (.arr b (iE off cap l.toNat sz) (h -l).toNat (cap -l.toNat))
 |_,_=>.no
def zc(sz b off cap:Nat):Option Int->Option Int->Option Int->PR
 |some l,some h,some m=>.prt (0<=l/\l<=h/\h<=m/\m<=cap) (.arr b (iE off m.toNat l.toNat sz) (h -l).toNat (m.toNat -l.toNat))
 |_,_,_=>.no
def qa(sz:Nat)(f:IX->AV)(lo hi:Option IX)(mx:IX):AV->PR
 |.arr b off _ cap=>zc sz b off cap (Dx f lo 0) (bif hi.isSome then Dx f hi 0 else none) (Dx f (some mx) 0)
 |_=>.no
def Kf:AV->PR
 |.arr _ _ _ cap=>.cT (.int .i64 cap)
 |_=>.no
def sv(sz:Nat)(f:IX->AV)(lo hi:Option IX):AV->PR
 |.sl _ s n cs=>bif s==sz then Bc sz n cs (Dx f lo 0) (Dx f hi n)else .no
 |.arr b off n cap=>xr sz b off cap (Dx f lo 0) (Dx f hi n)
 |_=>.no
def xt(s:List UInt8):Option Int->Option Int->PR
 |some l,some h=>.prt (0<=l/\l<=h/\h<=s.length) (.str ((s.drop l.toNat).take (h -l).toNat))
 |_,_=>.no
def kL(f:IX->AV)(lo hi:Option IX):AV->PR
 |.str s=>xt s (Dx f lo 0) (Dx f hi s.length)
 |_=>.no
def KQ:Option SO->PR
 |some (.map es)=>.cT (.int .i64 es.length)
 |_=>.no
def Al(s:ab):Nat->AV->PR
 |0,.sl _ _ n _=>.cT (.int .i64 n)
 |0,.arr _ _ n _=>.cT (.int .i64 n)
 |1,.str s=>.cT (.int .i64 s.length)
 |2,.sd=>.cT (.int .i64 0)
 |2,.mp b=>KQ (s b)
 |_,_=>.no
def aaA(k:IntKind):Option Int->PR
 |some m=>.cT (.int k m)
 |none=>.no
def tc(mx:Bool):List AV->PR
 |.int k n::r=>aaA k (Jm mx n r)
 |_=>.no
def IB:Option AV->PR
 |some a=>U3 (view a)
 |none=>.no
def oC(k:Nat):AV->PR
 |.gb vs=>IB vs[k]?
 |_=>.no
def byteOf:AV->Option UInt8
 |.int .u8 n=>if 0<=n/\n<256 then some (UInt8.ofNat n.toNat)else none
 |_=>none
def OF{α:Type}:Option α->Option (List α)->Option (List α)
 |some a,some l=>some (a::l)
 |_,_=>none
def bytesOf:List AV->Option (List UInt8)
 |[]=>some []
 |a::r=>OF (byteOf a) (bytesOf r)
def QK:Option (List UInt8)->PR
 |some l=>.cT (.str l)
 |none=>.no
def pJ:AV->PR
 |.sl _ sz _ cs=>bif sz==1 then QK (bytesOf cs)else .no
 |_=>.no
def Br:Option (List AV)->PR
 |some cs=>.cT (.agg cs)
 |none=>.no
def MH(a:AV):Option (List AV)->Option (List AV)
 |some l=>bif cO a then some (view a::l)else none
 |none=>none
def bQ(f:IX->AV):List IX->Option (List AV)
 |[]=>some []
 |x::r=>MH (f x) (bQ f r)
def s8(fi:Nat):Option (List AV)->Option (List AV)->PR
 |some a,some b=>.cT (.fn fi a b)
 |_,_=>.no
def Jh(zero:List AV)(multi:Bool)(off:Nat):Option SO->PR
 |some (.cells cs)=>Zg (off+zero.length<=cs.length) (oz multi (pad zero (views (sub cs off zero.length))))
 |_=>.no
def E4(zero:List AV)(multi:Bool)(s:ab):AV->PR
 |.ref b off=>Jh zero multi off (s b)
 |_=>.no
def GP(k:IntKind)(off:Nat):Option SO->Prop
 |some (.cells cs)=>∃n,cs[off]? =some (.int k n)
 |_=>False
def intOf:Option AV->Int
 |some (.int _ n)=>n
 |_=>0
def GQ(off:Nat):Option SO->Int
 |some (.cells cs)=>intOf cs[off]?
 |_=>0
def yn(k:IntKind)(s:ab):AV->PR
 |.ref b off=>.prt (GP k off (s b)) (.int k (GQ off (s b)))
 |_=>.no
def pv(o:qT)(f:IX->AV)(E:St):PR:=
 match o with
 |.iJ false x=>Ni (f x)
 |.pick c x y=>Fj (E.x x) (E.x y) (f c)
 |.bin op x y=>J8 op (f x) (f y)
 |.RG ne x y=>Ku ne (f x) (f y)
 |.HO ne x y=>DJ ne (f x) (f y)
 |.un op x=>UJ op (f x)
 |.cC k x=>sR k (f x)
 |.load n multi x=>iC multi (rd E (f x) n)
 |.de x i=>tj (f x) (f i)
 |.nilCheck x=>kG (f x)
 |.fieldAddr off x=>fC off x (f x)
 |.indexAddr zero x i=>ji zero (f x) (f i)
 |.slice sz x lo hi none=>sv sz f lo hi (f x)
 |.js x lo hi=>kL f lo hi (f x)
 |.len cls x=>Al E.s cls (f x)
 |.gT mx xs=>tc mx (xs.map f)
 |.extract x k=>oC k (f x)
 |.build zero parts=>Br (fill f zero parts)
 |.lI fi first dZ=>s8 fi (bQ f first) (bQ f dZ)
 |.eP x=>pJ (f x)
 |.bM zero multi x=>E4 zero multi E.s (f x)
 |.lQ k x=>yn k E.s (f x)
 |.slice sz x lo hi (some mx)=>qa sz f lo hi mx (f x)
 |.cap x=>Kf (f x)
 |.Vi ne x=>Kv ne (f x)
 |.Q7 ne x=>IA ne (f x)
 |_=>.no
inductive cD where
 |none
 |frame
 |slot (i j:Nat)
 |loc (i:Nat)
 |sh
 |cell (b j:Nat)
 |res (j:Nat)
 deriving DecidableEq
structure Gh where
 R:Nat->Nat
 O:Nat->cD
inductive VR(w:World)(R:Nat->Nat):AV->Value->Prop where
 |undef (v:Value):VR w R .undef v
 |bool (b:Bool):VR w R (.bool b) (.bool b)
 |int (k:IntKind) (n:Int):VR w R (.int k n) (.int k n)
 |str (s:List UInt8):VR w R (.str s) (.string ⟨s.toArray⟩)
 |cZ:VR w R .cZ (.pointer none)
 |ref (b off:Nat):VR w R (.ref b off) (.pointer (some ⟨b,off,none⟩))
 |sp (cs:List AV) (b off:Nat) (u:Nat->Value) (hf:Fl cs) (hR:off+cs.length<=R b)
   (hc:∀(j:Nat)(c:AV),cs[j]? =some c->w.cell? ⟨b,off+j,none⟩=some (u j)) (hr:∀(j:Nat)(c:AV),cs[j]? =some c->VR w R c (u j)):
   VR w R (.sp cs) (.pointer (some ⟨b,off,none⟩))
 |slnil (own:Bool) (sz:Nat):VR w R (.sl own sz 0 []) (.slice none 0 0)
 |sle (sz:Nat) (a:Addr) (cap:Nat):VR w R (.sl false sz 0 []) (.slice (some a) 0 cap)
 |sl (own:Bool) (sz n:Nat) (cs:List AV) (b off cap:Nat) (u:Nat->Value) (hf:Fl cs) (hl:cs.length=n*sz) (hR:off+cs.length<=R b) (fQ:n<=cap)
   (hc:∀(j:Nat)(c:AV),cs[j]? =some c->w.cell? ⟨b,off+j,none⟩=some (u j)) (hr:∀(j:Nat)(c:AV),cs[j]? =some c->VR w R c (u j)):
   VR w R (.sl own sz n cs) (.slice (some ⟨b,off,none⟩) n cap)
 |arr (b off len cap:Nat):VR w R (.arr b off len cap) (.slice (some ⟨b,off,none⟩) len cap)
 |FM (b off:Nat):VR w R (.arr b off 0 0) (.slice none 0 0)
 |agg (cs:List AV) (vs:Array Value) (hf:Fl cs) (hl:vs.size=cs.length) (hr:∀(j:Nat)(c:AV)(v:Value),cs[j]? =some c->vs[j]? =some v->VR w R c v):VR w R (.agg cs) (.agg vs)
 |gb (cs:List AV) (vs:Array Value) (hl:vs.size=cs.length) (hr:∀(j:Nat)(c:AV)(v:Value),cs[j]? =some c->vs[j]? =some v->VR w R c v):VR w R (.gb cs) (.tuple vs)
 |fn (f:Nat) (first dZ:List AV) (vf vc:Array Value) (hl:vf.size=first.length) (hr:∀(j:Nat)(c:AV)(v:Value),first[j]? =some c->vf[j]? =some v->VR w R c v)
   (hl':vc.size=dZ.length) (hr':∀(j:Nat)(c:AV)(v:Value),dZ[j]? =some c->vc[j]? =some v->VR w R c v):VR w R (.fn f first dZ) (.func (.func f) vf vc)
 |nn:VR w R .nn .nilFunc
 |mp (b:Nat):VR w R (.mp b) (.map (some b))
 |sd:VR w R .sd (.map none)
 |when (b:Bool) (a:AV) (v:Value) (h:b=true->VR w R a v):VR w R (.when b a) v
 |one (v:Value) (h:v.oneCell'=true):VR w R .one v
 |lW (t:Nat):VR w R (.lW t) (.pointer none)
 |kp:VR w R .kp .nilIface
 |bb (t n:Nat) (cs:List AV) (v:Value) (h:VR w R (.sl true 1 n cs) v) (h0:n=0->v=.slice none 0 0):VR w R (.bb t n cs) v
def cQ(G:Gh)(w:World)(o:cD)(a:AV)(v:Value):Prop:=
 match a with
 |.sl true sz n _=>∀base m cap,v=.slice base m cap->(cap≠n\/0<n)->
   ∃b off c e fz,base=some ⟨b,off,none⟩/\G.O b=o/\G.R b=off+n*sz/\w.heap[b]? =some (.cells c e fz)/\c.size=off+cap*sz/\
    (∀k,k<c.size->¬(fz.1<=k/\k<fz.2))/\fz.1<=fz.2/\off=0/\(fz=(0,0)\/(0<n/\∃x,c[0]? =some (.int .u8 x)))/\
    ∀(k:Nat)(y:Value),off+n*sz<=k->c[k]? =some y->y.oneCell'=true
 |.bb e n _=>∀base m cap,v=.slice base m cap->(cap≠n\/0<n)->
   ∃b off c fz,base=some ⟨b,off,none⟩/\G.O b=o/\G.R b=off+n*1/\w.heap[b]? =some (.cells c e fz)/\c.size=off+cap*1/\
    (∀k,k<c.size->¬(fz.1<=k/\k<fz.2))/\fz.1<=fz.2/\off=0/\(fz=(0,0)\/(0<n/\∃x,c[0]? =some (.int .u8 x)))/\
    ∀(k:Nat)(y:Value),off+n*1<=k->c[k]? =some y->y.oneCell'=true
 |_=>True
def cP(G:Gh)(w:World)(o:Nat->cD)(cs:List AV)(c:Array Value):Prop:=c.size=cs.length/\∀(j:Nat)(x:AV)(y:Value),cs[j]? =some x->c[j]? =some y->VR w G.R x y/\cQ G w (o j) x y
def UsR(G:Gh)(w:World)(o:cD)(sz n:Nat)(cs:List AV)(v:Value):Prop:=
 (n=0/\cs=[]/\(v=.slice none 0 0\/∃b off,v=.slice (some ⟨b,off,none⟩) 0 0))\/
 ∃b cap c t sp,0<cap/\n<=cap/\v=.slice (some ⟨b,0,none⟩) n cap/\G.O b=o/\G.R b=0/\w.heap[b]? =some (.cells c t (0,0))/\c.size=cap*sz/\cs.length=n*sz/\(cs++sp).length=cap*sz/\
  (∀(j:Nat)(x:AV)(u:Value),(cs++sp)[j]? =some x->c[j]? =some u->VR w G.R x u)/\Fl (cs++sp)/\views (cs++sp)=cs++sp
def cN(G:Gh)(w:World)(e:List (Nat×AV))(tmps:Array Value)(i:Nat):AV->Value->Prop
 |.loc cs,v=>∃b c t,v=.pointer (some ⟨b,0,none⟩)/\G.O b=.loc i/\G.R b=0/\w.heap[b]? =some (.cells c t (0,0))/\cP G w (.cell b) cs c/\Fl cs
 |.lp d off,v=>∃b,v=.pointer (some ⟨b,off,none⟩)/\∀cs,look e d=.loc cs->tmps[d]? =some (.pointer (some ⟨b,0,none⟩))
 |.gb vs,v=>∃ys:Array Value,v=.tuple ys/\cP G w (fun j=>.slot i (j+1)) vs ys
 |.when b a,v=>(b=true->cN G w e tmps i a v)/\(b=false->v=.tuple #[])
 |.us sz n cs,v=>UsR G w (.slot i 0) sz n cs v
 |a,v=>VR w G.R a v/\cQ G w (.slot i 0) a v
def bd:AV->Nat->Prop
 |.lp d _,d'=>d=d'
 |.when _ a,d'=>bd a d'
 |_,_=>False
structure bR(G:Gh)(w:World):Prop where
 ik:∀b,w.heap.size<=b->G.O b=.none
 iT:∀b,w.heap.size<=b->G.R b=0
def YW(G:Gh)(w:World)(x:AV×AV)(y:MapEntry):Prop:=VR w G.R x.1 y.key/\VR w G.R x.2 y.val
def aO(G:Gh)(w:World)(s:ab):Prop:=
 ∀b o,s b=some o->G.O b=.sh/\G.R b=0/\match o with
  |.cells cs=>∃c t,w.heap[b]? =some (.cells c t (0,0))/\cP G w (.cell b) cs c/\xH t cs
  |.map es=>∃gM clock,w.heap[b]? =some (.map gM clock)/\gM.size=es.length/\∀(j:Nat)(x:AV×AV)(y:MapEntry),es[j]? =some x->gM[j]? =some y->YW G w x y
structure Inv(G:Gh)(n:Nat)(D:List Deferred)(E:St)(a:Act)(w:World):Prop where
 aJ:bR G w
 store:aO G w E.s
 size:a.tmps.size=n
 bO:∀(i:Nat)(v:Value),a.tmps[i]? =some v->cN G w E.e a.tmps i (look E.e i) v
 DE:∀i,n<=i->look E.e i=.undef
 JX:∀i d,bd (look E.e i) d->(i,d)∈E.lp
 qG:a.defers=D
structure az(G:Gh)(w:World)(G':Gh)(w':World):Prop where
 os:w'.os=w.os
 tape:w'.tape=w.tape
 output:w'.output=w.output
 drawn:w.drawn<=w'.drawn
 size:w.heap.size<=w'.heap.size
 mono:∀b,b<w.heap.size->G.R b<=G'.R b
 lK:∀b k,b<w.heap.size->k<G.R b->w'.cell? ⟨b,k,none⟩=w.cell? ⟨b,k,none⟩
 frame:∀b,b<w.heap.size->G.O b=.frame\/G.O b=.none->w'.heap[b]? =w.heap[b]?
 iG:∀b,b<w.heap.size->G.O b=.frame->G'.O b=.frame/\G'.R b=G.R b
 pd:∀b,b<w.heap.size->G.O b=.none->G'.O b=.none/\G'.R b=G.R b
def Qu(G:Gh)(w:World)(a:AV)(v:Value):Prop:=
 match a with
 |.us sz n cs=>UsR G w (.res 0) sz n cs v
 |a=>VR w G.R a v/\cQ G w (.res 0) a v
def nj(G:Gh)(w:World)(rs:List AV)(v:Value):Prop:=
 match rs with
 |[a]=>Qu G w a v
 |rs=>∃ys:Array Value,v=.tuple ys/\cP G w (fun j=>.res j) rs ys
def zq(G:Gh):Prop:=∀b,G.O b=.none\/G.O b=.frame\/G.O b=.sh\/∃b' j,G.O b=.cell b' j/\G.O b'=.sh
def nq(w:World)(R:Nat->Nat)(args:List AV)(vs:Array Value):Prop:=vs.size=args.length/\∀(j:Nat)(a:AV)(v:Value),args[j]? =some a->vs[j]? =some v->VR w R a v
def FN(P:Program)(f:FuncId)(args:List AV)(s:ab)(Q:List AV->ab->Prop):Prop:=
 ∀(G:Gh)(w:World)(vs:Array Value),bR G w->zq G->aO G w s->nq w G.R args vs->
  Calls P f vs w fun e w'=>∃v rs s' G',e=.returned v/\Q rs s'/\bR G' w'/\aO G' w' s'/\nj G' w' rs v/\az G w G' w'
theorem FN.mono{P:Program}{f:FuncId}{args:List AV}{s:ab}{Q Q':List AV->ab->Prop}(h:FN P f args s Q)(hq:∀rs s',Q rs s'->Q' rs s'):FN P f args s Q':=fun G w vs h1 h2 h3 h4=>(h G w vs h1 h2 h3 h4).mono fun _ _⟨v,rs,s',G',a,b,c⟩=>⟨v,rs,s',G',a,hq _ _ b,c⟩
def FE(P:Program)(f:FuncId)(args:List AV)(s:ab)(rs:List AV)(s':ab):Prop:=FN P f args s fun r t=>r=rs/\t=s'
theorem FE.app{P:Program}{f:FuncId}{args:List AV}{s s':ab}{rs:List AV}{Q:List AV->ab->Prop}(h:FE P f args s rs s')(hq:Q rs s'):FN P f args s Q:=FN.mono h fun _ _⟨h1,h2⟩=>by rw[h1,h2];exact hq
def dX:List AV->AV
 |[a]=>a
 |rs=>.gb rs
def room:Nat:=140737488355328
def j5(lp:List (Nat×Nat))(d:Option Nat):Bool:=match d with
 |some d=>lp.all fun x=>!Nat.beq x.2 d
 |none=>true
def St.drain(E:St)(x:IX):St:=match x with
 |.t i=>E.put (some i) (view (look E.e i))
 |.c _=>E
def dt(off:Nat)(news:List AV)(dJ:List AV):Option (List AV):=bif decide (off+news.length<=dJ.length)then some (setAt dJ off news)else none
def Tk(E:St)(d:Nat):Option (List AV)->Option St
 |some cs=>some (E.put (some d) (.loc cs))
 |none=>none
def Tl(E:St)(b:Nat):Option (List AV)->Option St
 |some cs=>some {E with s:=E.s.set b (.cells cs)}
 |none=>none
def FD(E:St)(d off:Nat)(news:List AV):AV->Option St
 |.loc dJ=>Tk E d (dt off news dJ)
 |_=>none
def Lr(E:St)(b off:Nat)(news:List AV):Option SO->Option St
 |some (.cells dJ)=>Tl E b (dt off news dJ)
 |_=>none
def abZ(E:St)(news dJ:List AV):IX->Option St
 |.t d=>Tk E d (dt 0 news dJ)
 |.c _=>none
def Ex(E:St)(p:AV)(i:IX)(news:List AV):Option St:=
 match p with
 |.loc dJ=>abZ E news dJ i
 |.lp d off=>FD E d off news (look E.e d)
 |.ref b off=>Lr E b off news (E.s b)
 |_=>none
def PJ:AV->AV->Bool
 |.int _ a,.int _ b=>a==b
 |.str a,.str b=>a==b
 |.bool a,.bool b=>a==b
 |_,_=>false
def pQ:List AV->List AV->Bool
 |[],[]=>true
 |a::x,b::y=>PJ a b&&pQ x y
 |_,_=>false
def rW(a b:AV):Bool:=pQ (cellsOf a) (cellsOf b)
def eY(k:AV):List (AV×AV)->Option AV
 |[]=>none
 |x::r=>bif rW k x.1 then some x.2 else eY k r
def xi(k v:AV):List (AV×AV)->List (AV×AV)
 |[]=>[(k,v)]
 |x::r=>bif rW k x.1 then(k,v)::r else x::xi k v r
section
variable(P:Program)
def Nj(E:St)(x:IX)(d:Option Nat)(K:St->Prop)(a:AV):Prop:=cO a=true/\K ((E.drain x).put d a)
def TC(n:Nat)(E:St)(d:Option Nat)(K:St->Prop)(a:AV):Prop:=cO a=true/\(cellsOf a).length=n/\K (E.put d (.loc (views (cellsOf a))))
def TD(n:Nat)(E:St)(d:Option Nat)(K:St->Prop)(a:AV):Prop:=cO a=true/\(cellsOf a).length=n/\∀b,E.s b=none->K ({E with s:=E.s.set b (.cells (views (cellsOf a)))}.put d (.ref b 0))
def vH(sz n:Nat)(E:St)(d:Option Nat)(K:St->Prop):Option (List AV)->Prop
 |some cs=>cs.length=n*sz/\K (E.put d (.sl true sz n cs))
 |none=>False
def JY(d:Option Nat)(K:St->Prop):Option St->Prop
 |some τ=>K (τ.put d (.gb []))
 |none=>False
def HI(n:Nat)(E:St)(p:IX)(v:IX)(d:Option Nat)(K:St->Prop)(a:AV):Prop:=cO a=true/\(aU a).length=n/\JY d K (Ex (E.drain v) (E.x p) p (aU a))
def jN(sz bytes:Nat)(E:St)(x:IX)(d:Option Nat)(K:St->Prop):AV->AV->Prop
 |.sl true s n cs,.sl _ s' m ds=>s=sz/\(s'=sz\/m=0)/\(n+m)*bytes<=room/\K ((E.drain x).put d (.sl true sz (n+m) (cs++views ds)))
 |.sl true s n cs,.str ds=>s=sz/\sz=1/\(n+ds.length)*bytes<=room/\K ((E.drain x).put d (.sl true sz (n+ds.length) (cs++ds.map fun c=>.int .u8 c.toNat)))
 |_,_=>False
def AY(E:St)(d:Option Nat)(K:St->Prop):AV->Prop
 |.sl _ sz _ cs=>sz=1/\∃s:List UInt8,cs=(s.map fun c=>.int .u8 c.toNat)/\K (E.put d (.str s))
 |_=>False
def Sm:List UInt8->Bool
 |[]=>false
 |_::_=>true
def oB(E:St)(d:Option Nat)(K:St->Prop):AV->Prop
 |.str s=>K (E.put d (.sl (Sm s) 1 s.length (s.map fun c=>.int .u8 c.toNat)))
 |_=>False
def wV(bytes:Nat)(zero:List AV)(E:St)(d:Option Nat)(K:St->Prop):AV->AV->Prop
 |.int _ l,.int _ c=>0<=l/\l<=c/\c*bytes<=room/\
   ∀b,E.s b=none->K ({E with s:=E.s.set b (.cells ((List.replicate c.toNat zero).flatten))}.put d (.arr b 0 l.toNat c.toNat))
 |_,_=>False
def KZ(ok:Bool)(a:AV)(b:Bool):AV:=match ok with
 |true=>.gb [a,.bool b]
 |false=>a
def BX:AV->Bool
 |.int .u8 _=>true
 |_=>false
def fw:lE->AV->Bool
 |.int k,.int k' _=>Nb k k'
 |.str,.str _=>true
 |.bool,.bool _=>true
 |.bytes n,.agg cs=>cs.length==n&&cs.all BX
 |_,_=>false
def mQ(kk:lE)(es:List (AV×AV)):Bool:=es.all fun x=>fw kk x.1
def uy(zero:AV)(ok:Bool):Option AV->AV
 |some v=>KZ ok (view v) true
 |none=>KZ ok (view zero) false
def vk:AV->Bool
 |.gb _=>true
 |a=>cO a
def CK:Bool->AV->Bool
 |true,_=>true
 |false,a=>cO a
def NW(ok:Bool)(c:Prop)(a:AV):PR:=bif CK ok a then .prt c a else .no
def s5(kk:lE)(zero:AV)(ok:Bool)(k:AV):Option SO->PR
 |some (.map es)=>NW ok (fw kk k=true/\mQ kk es=true) (uy zero ok (eY k es))
 |_=>.no
def ij(kk:lE)(zero:AV)(ok:Bool)(s:ab)(k:AV):AV->PR
 |.mp b=>s5 kk zero ok k (s b)
 |.sd=>NW ok (fw kk k=true) (KZ ok (view zero) false)
 |_=>.no
def AA:AV->PR
 |.sl true 1 (n+1) (.int .u8 x::cs)=>.cT (.sl false 1 (n+1) (.int .u8 x::cs))
 |_=>.no
def zk:AV->PR
 |.gb vs=>.cT (.gb (views vs))
 |_=>.no
def K6(E:St)(d:Option Nat)(K:St->Prop):PR->Prop
 |.cT a=>K (E.put d a)
 |.prt c a=>c/\K (E.put d a)
 |.no=>False
def Xn(kk:lE)(b:Nat)(E:St)(k v:AV)(d:Option Nat)(K:St->Prop):Option SO->Prop
 |some (.map es)=>(cO v=true/\fw kk k=true/\mQ kk es=true)/\K ({E with s:=E.s.set b (.map (xi (view k) (view v) es))}.put d (.gb []))
 |_=>False
def s9(kk:lE)(E:St)(k v:AV)(d:Option Nat)(K:St->Prop):AV->Prop
 |.mp b=>Xn kk b E k v d K (E.s b)
 |_=>False
def PD:AV->Bool
 |.us _ _ _=>true
 |_=>false
def iw:List AV->Bool
 |[a]=>cO a||PD a
 |_=>true
def LA(E:St)(d:Option Nat)(K:St->Prop)(rs:List AV)(s':ab):Prop:=iw rs=true/\K ({E with s:=s'}.put d (dX rs))
def re(f:Nat)(E:St)(d:Option Nat)(K:St->Prop):Option (List AV)->Prop
 |some args=>FN P f args E.s (LA E d K)
 |none=>False
def uQ(f:FuncId):Bool:=match P.funcs[f]? with
 |some fn=>fn.name != "runtime.NumGoroutine" &&fn.body.isSome
 |none=>false
def Ow(f:Nat)(first dZ:List AV)(E:St)(d:Option Nat)(K:St->Prop):Option (List AV)->Prop
 |some args=>uQ P f=true/\FN P f (first++args++dZ) E.s (LA E d K)
 |none=>False
def uK(E:St)(args:Option (List AV))(d:Option Nat)(K:St->Prop):AV->Prop
 |.fn f first dZ=>Ow P f first dZ E d K args
 |_=>False
def xg(g:Bool)(E:St)(x:IX):AV:=vz g (E.x x)
def QR(i:Nat)(E:St)(W:St->Prop):AV->Prop
 |.us sz n cs=>(∀b cap sp,E.s b=none->0<cap->n<=cap->(cs++sp).length=cap*sz->Fl (cs++sp)->views sp=sp->W ({E with s:=E.s.set b (.cells (cs++sp))}.put (some i) (.arr b 0 n cap)))/\
   (n=0->∀b off,W (E.put (some i) (.arr b off 0 0)))
 |_=>False
def wY(sz:Nat):AV->AV
 |.arr _ 0 0 0=>.sl true sz 0 []
 |a=>a
def b7(sz:Nat):AV->List AV
 |.agg cs=>(views cs).map (wY sz)
 |a=>[a]
def My(sz n:Nat)(E:St)(p:IX)(v:IX)(d:Option Nat)(K:St->Prop)(a:AV):Prop:=cO a=true/\(b7 sz a).length=n/\JY d K (Ex (E.drain v) (E.x p) p (b7 sz a))
def Oq(sz n:Nat)(E:St)(d:Option Nat)(K:St->Prop)(a:AV):Prop:=cO a=true/\(cellsOf a).length=n/\∀b,E.s b=none->K ({E with s:=E.s.set b (.cells ((views (cellsOf a)).map (wY sz)))}.put d (.ref b 0))
def sO(sz n:Nat)(E:St)(d:Option Nat)(K:St->Prop):Option (List AV)->Prop
 |some cs=>cs.length=n*sz/\∀b,E.s b=none->K ({E with s:=E.s.set b (.cells (views cs))}.put d (.arr b 0 n n))
 |none=>False
def iZ(m sz off:Nat):Option SO->Option (Nat×List AV)
 |some (.cells cs)=>bif decide (off+m*sz<=cs.length)then some (m,views (sub cs off (m*sz)))else none
 |_=>none
def tO(s:ab)(sz:Nat):AV->Option (Nat×List AV)
 |.sl _ s' m ds=>bif s'==sz then some (m,views ds)else bif m==0 then some (0,[])else none
 |.str l=>bif sz==1 then some (l.length,l.map fun c=>.int .u8 c.toNat)else none
 |.arr b off m _=>bif m==0 then some (0,[])else iZ m sz off (s b)
 |_=>none
def mU(s:ab)(sz b off n:Nat):Option (List AV):=bif n==0 then some []else(iZ n sz off (s b)).map Prod.snd
def yF(sz b off cap:Nat):Option SO->Prop
 |some (.cells cs)=>off+cap*sz<=cs.length
 |_=>False
def setRow(s:ab)(b off:Nat)(news:List AV):Option SO->ab
 |some (.cells cs)=>s.set b (.cells (setAt cs off news))
 |_=>s
def MF(sz bytes:Nat)(zero:List AV)(E:St)(d:Option Nat)(K:St->Prop)(b off n cap m:Nat)(ds:List AV):Option (List AV)->Prop
 |some olds=>zero.length=sz/\(n+m<=cap->(m=0/\K (E.put d (.arr b off n cap)))\/(yF sz b off cap (E.s b)/\K ({E with s:=setRow E.s b (off+n*sz) ds (E.s b)}.put d (.arr b off (n+m) cap))))/\
   (cap<n+m->(n+m)*bytes<=room/\∀b' dL,E.s b'=none->n+m<=dL->K ({E with s:=E.s.set b' (.cells (olds++ds++(List.replicate (dL -(n+m)) zero).flatten))}.put d (.arr b' 0 (n+m) dL)))
 |none=>False
def dK(sz bytes:Nat)(zero:List AV)(E:St)(d:Option Nat)(K:St->Prop):AV->Option (Nat×List AV)->Prop
 |.arr b off n cap,some (m,ds)=>MF sz bytes zero E d K b off n cap m ds (mU E.s sz b off n)
 |_,_=>False
def qW(sz bytes:Nat)(zero:List AV)(E:St)(d:Option Nat)(K:St->Prop):AV->AV->Prop
 |.arr b off n cap,.int .i64 c=>0<=c/\cap<n+c.toNat/\views zero=zero/\MF sz bytes zero E d K b off n cap c.toNat (List.replicate c.toNat zero).flatten (mU E.s sz b off n)
 |_,_=>False
def uM(sz:Nat)(E:St)(d:Option Nat)(K:St->Prop):AV->Option (Nat×List AV)->Prop
 |.arr b off n _,some (m,ds)=>(min m n=0/\K (E.put d (.int .i64 0)))\/(yF sz b off n (E.s b)/\K ({E with s:=setRow E.s b off (ds.take (min m n*sz)) (E.s b)}.put d (.int .i64 (min m n:Nat))))
 |_,_=>False
def vM(zero:List AV)(E:St)(d:Option Nat)(K:St->Prop):AV->Prop
 |.arr b off n _=>(n=0/\K (E.put d (.gb [])))\/(yF zero.length b off n (E.s b)/\views zero=zero/\K ({E with s:=setRow E.s b off (List.replicate n zero).flatten (E.s b)}.put d (.gb [])))
 |_=>False
def YY(P:Program)(f:FuncId):Prop:=∀(w:World)(a b:Nat)(oa la ca ob lb cb:Nat)(ta tb:TypeId)(x y:Array Value)(fa:Nat×Nat),a≠b->w.heap[a]? =some (.cells x ta fa)->x.size≠0->w.heap[b]? =some (.cells y tb (0,0))->y.size≠0->
 ∃w',(callFunc f #[.slice (some ⟨a,oa,none⟩) la ca,.slice (some ⟨b,ob,none⟩) lb cb]).run P w=.ok (.value (.bool false)) w'/\w'.heap=w.heap/\w'.os=w.os/\w'.tape=w.tape/\w'.output=w.output/\w.drawn<=w'.drawn
def cellsIn:Option SO->Prop
 |some (.cells (_::_))=>True
 |_=>False
def Wy(P:Program)(f:FuncId)(E:St)(d:Option Nat)(K:St->Prop):AV->AV->Prop
 |.sl _ _ (_+1) (_::_),.arr b' _ _ (_+1)=>YY P f/\cellsIn (E.s b')/\K (E.put d (.bool false))
 |_,_=>False
def zZ(sz:Nat)(own:Bool)(E:St)(d:Option Nat)(K:St->Prop):AV->Prop
 |.arr b off n cap=>(cap=0/\n=0/\off=0/\K (E.put d (.sl own sz 0 [])))\/(0<cap/\n<=cap/\(own=true->off=0/\yF sz b off cap (E.s b)/\sizeV (off+cap*sz) (E.s b))/\frzK sz own E d K b n (iZ n sz off (E.s b)))
 |_=>False
where
 sizeV (k:Nat):Option SO->Prop
  |some (.cells cs)=>cs.length=k
  |_=>False
 frzK (sz:Nat) (own:Bool) (E:St) (d:Option Nat) (K:St->Prop) (b n:Nat):Option (Nat×List AV)->Prop
  |some (_,cs)=>K ({E with s:=E.s.del b}.put d (.sl own sz n cs))
  |none=>False
def GO(sz:Nat)(own:Bool)(E:St)(d:Option Nat)(K:St->Prop):Option (List AV)->Prop
 |some [a]=>cO a=true/\zZ sz own E d K a
 |_=>False
def iD(off:Nat)(cs:List AV)(k:List AV->AV->Prop):Prop:=match cs[off]? with
 |some (.sl o sz n ds)=>k (setAt cs off [.sl false sz n ds]) (.sl o sz n ds)
 |some (.bb t n ds)=>k (setAt cs off [.sl false 1 n ds]) (.bb t n ds)
 |_=>False
def Dr(off:Nat)(cs:List AV)(k:List AV->AV->Prop):Prop:=match cs[off]? with
 |some (.sl o sz n ds)=>k (setAt cs off [.sl false sz n ds]) (.sl o sz n ds)
 |_=>False
def nX(E:St)(d:Option Nat)(K:St->Prop):AV->Prop
 |.ref b off=>match E.s b with
  |some (.cells cs)=>iD off cs fun cs' a=>K ({E with s:=E.s.set b (.cells cs')}.put d a)
  |_=>False
 |.lp i off=>match look E.e i with
  |.loc cs=>d≠some i/\Dr off cs fun cs' a=>K ((E.put (some i) (.loc cs')).put d a)
  |_=>False
 |_=>False
def BW(j:IX)(off:Nat)(a:AV):Bool:=match j,a with
 |.t i,.lp i' o=>i'==i&&o==off
 |_,_=>false
def M7(ne:Bool)(E:St)(d:Option Nat)(K:St->Prop):AV->Prop
 |.sl _ _ n _=>∀v:Bool,(v=!ne->n=0)->K (E.put d (.bool v))
 |.arr _ _ _ cap=>∀v:Bool,(v=!ne->cap=0)->K (E.put d (.bool v))
 |_=>False
def OI(d:Option Nat)(K:St->Prop)(E:St)(b off:Nat):Option SO->Prop
 |some (.cells cs)=>off<cs.length/\K (E.put d (.ref b off))
 |_=>False
def Im(E:St)(d:Option Nat)(K:St->Prop):AV->Prop
 |.ref b off=>OI d K E b off (E.s b)
 |_=>False
def Jg(t cells off u:Nat):Bool:=liesAt P P.depth t (cells/P.cellsOf t) off u 1
def OH(u:Nat)(d:Option Nat)(K:St->Prop)(E:St)(b off:Nat):Option SO->Prop
 |some (.cells cs)=>∃t,cs[off]? =some (.lW t)/\Jg P t cs.length off u=true/\K (E.put d (.ref b off))
 |_=>False
def Il(u:Nat)(E:St)(d:Option Nat)(K:St->Prop):AV->Prop
 |.ref b off=>OH P u d K E b off (E.s b)
 |_=>False
def ZZ(f:Nat):Prop:=∀(x:Value)(w:World),(callFunc f #[x]).run P w=.ok (.value x) w
def FV(f:Nat)(E:St)(d:Option Nat)(K:St->Prop)(a:AV):Prop:=cO a=true/\ZZ P f/\K (E.put d (view a))
def Ot(n t j u:Nat)(E:St)(d:Option Nat)(K:St->Prop)(a:AV):Prop:=cO a=true/\(cellsOf a).length=n/\(cellsOf a)[j]? =some .cZ/\(cellsOf a)[j+1]? =some (.bb u 0 [])/\∀b,E.s b=none->K ({E with s:=E.s.set b (.cells (setAt (views (cellsOf a)) j [.lW t,.bb u 0 []]))}.put d (.ref b 0))
def oA(t:Nat)(E:St)(x:IX)(d:Option Nat)(K:St->Prop):AV->AV->Prop
 |.bb t' n cs,.sl _ s' m ds=>t=t'/\(s'=1\/m=0)/\(n+m)*1<=room/\K ((E.drain x).put d (.bb t (n+m) (cs++views ds)))
 |.bb t' n cs,.str ds=>t=t'/\(n+ds.length)*1<=room/\K ((E.drain x).put d (.bb t (n+ds.length) (cs++ds.map fun c=>.int .u8 c.toNat)))
 |_,_=>False
def gz(o:qT)(d:Option Nat)(E:St)(K:St->Prop):Prop:=
 match o with
 |.iJ _ x=>Nj E x d K (E.x x)
 |.aA zero=>j5 E.lp d=true/\K (E.put d (.loc zero))
 |.gH zero=>∀b,E.s b=none->K ({E with s:=E.s.set b (.cells zero)}.put d (.ref b 0))
 |.jf n x=>j5 E.lp d=true/\TC n E d K (E.x x)
 |.qE n x=>TD n E d K (xg true E x)
 |.bB sz n zero parts=>vH sz n E d K (fill (xg true E) zero parts)
 |.store n p v=>HI n E p v d K (E.x v)
 |.append sz bytes x y=>jN sz bytes E x d K (E.x x) (E.x y)
 |.eP x=>AY E d K (xg true E x)
 |.gN x=>oB E d K (xg true E x)
 |.gS _ bytes zero l c=>wV bytes zero E d K (xg true E l) (xg true E c)
 |.makeMap=>∀b,E.s b=none->K ({E with s:=E.s.set b (.map [])}.put d (.mp b))
 |.call f args=>re P f E d K (bQ (xg true E) args)
 |.dj x args=>uK P E (bQ (xg true E) args) d K (xg true E x)
 |.lookup kk zero ok x k=>K6 E d K (ij kk zero ok E.s (xg true E k) (xg true E x))
 |.jg x=>K6 E d K (AA (xg true E x))
 |.qP x=>K6 E d K (zk (xg true E x))
 |.mapUpdate kk x k v=>s9 kk E (xg true E k) (xg true E v) d K (xg true E x)
 |.jP sz n zero parts=>sO sz n E d K (fill (xg true E) zero parts)
 |.fL sz bytes zero x y=>dK sz bytes zero E d K (E.x x) (tO E.s sz (E.x y))
 |.lV sz bytes zero x y=>qW sz bytes zero E d K (E.x x) (xg true E y)
 |.vQ sz x y=>uM sz E d K (E.x x) (tO E.s sz (E.x y))
 |.pI zero x=>vM zero E d K (E.x x)
 |.NY sz own x=>zZ sz own E d K (E.x x)
 |.ux sz own x=>GO sz own E d K (rd E (xg true E x) 1)
 |.lq x=>nX E d K (E.x x)
 |.lP off j x=>BW j off (E.x x)=true/\nX E d K (E.x x)
 |.RH ne x=>M7 ne E d K (E.x x)
 |.Yh f x y=>Wy P f E d K (E.x x) (E.x y)
 |.zg sz n p v=>My sz n E p v d K (E.x v)
 |.FQ sz n x=>Oq sz n E d K (E.x x)
 |.FR n t j u x=>Ot n t j u E d K (E.x x)
 |.lU t x y=>oA t E x d K (E.x x) (E.x y)
 |.F5 x=>Im E d K (E.x x)
 |.vK f x=>FV P f E d K (E.x x)
 |.F4 u x=>Il P u E d K (E.x x)
 |.vJ f i args=>QR i E (fun τ=>re P f τ d K (bQ (xg true τ) args)) (look E.e i)
 |_=>False
def bI(E:St):AV->Option Nat->St
 |.lp t _,some i=>{E with lp:=(i,t)::E.lp}
 |.when _ a,d=>bI E a d
 |_,_=>E
def Ra(o:qT)(E:St)(d:Option Nat)(K:St->Prop):PR->Prop
 |.cT a=>K ((bI E a d).put d a)
 |.prt c a=>c/\K ((bI E a d).put d a)
 |.no=>gz P o d E K
def Yi(o:qT)(d:Option Nat)(E:St)(K:St->Prop):Prop:=Ra P o E d K (pv o (xg true E) E)
def N4(g:Bool)(o:qT)(E:St)(d:Option Nat)(K:St->Prop):PR->Prop
 |.cT a=>K ((bI E a d).put d (.when g a))
 |.prt c a=>(g=true->c)/\K ((bI E a d).put d (.when g a))
 |.no=>(g=true->Yi P o d E K)/\(g=false->K (E.put d (.gb [])))
def xY(o:qT)(d:Option Nat)(t:Nat)(want:Bool)(E:St)(K:St->Prop):AV->Prop
 |.bool b=>N4 P (b==want) o E d K (pv o (xg (b==want) E) E)
 |.when b' (.bool b)=>N4 P (b'&&(b==want)) o E d K (pv o (xg (b'&&(b==want)) E) E)
 |.gb []=>K (E.put d (.gb []))
 |_=>False
def JW(o:ai)(E:St)(K:St->Prop):Prop:=
 match o.g with
 |none=>Yi P o.op o.dst E K
 |some (t,want)=>xY P o.op o.dst t want E K (look E.e t)
def swp:List ai->St->(St->Prop)->Prop
 |[],E,K=>K E
 |o::r,E,K=>JW P o E (fun τ=>swp r τ K)
def abD(r:List ai)(K:St->Prop)(τ:St):Prop:=swp P r τ K
def aZ:AV->Bool
 |.loc _=>false
 |_=>true
def J0(g:Bool):PR->PR
 |.cT a=>.cT (.when g a)
 |.prt c a=>.prt (g=true->c) (.when g a)
 |.no=>.no
def W0:qT->Bool
 |.bM _ _ _=>true
 |_=>false
def N5(r g:Bool):PR->PR
 |.cT a=>.cT (.when g a)
 |.prt c a=>.prt (g=true->c) (.when g a)
 |.no=>bif r then .prt (g=false) (.when g .undef)else .no
def JB(o:qT)(want:Bool)(E:St):AV->PR
 |.bool b=>N5 (W0 o) (b==want) (pv o (xg (b==want) E) E)
 |.when g (.bool b)=>N5 (W0 o) (g&&(b==want)) (pv o (xg (g&&(b==want)) E) E)
 |_=>.no
def qv(o:ai)(E:St):PR:=match o.g with
 |none=>pv o.op (xg true E) E
 |some (t,want)=>JB o.op want E (look E.e t)
def qK(E:St)(d:Option Nat)(K:St->Prop):PR->Prop
 |.cT a=>aZ a=true/\K ((bI E a d).put d a)
 |.prt c a=>c/\aZ a=true/\K ((bI E a d).put d a)
 |.no=>False
def Mo(f:Nat)(E:St)(d:Option Nat)(K:St->Prop):Option (List AV)->Prop
 |some as=>∃rs,iw rs=true/\FE P f as E.s rs E.s/\K (E.put d (dX rs))
 |none=>False
def Hk(f:Nat)(first dZ:List AV)(E:St)(d:Option Nat)(K:St->Prop):Option (List AV)->Prop
 |some as=>uQ P f=true/\∃rs,iw rs=true/\FE P f (first++as++dZ) E.s rs E.s/\K (E.put d (dX rs))
 |none=>False
def Lc(E:St)(args:Option (List AV))(d:Option Nat)(K:St->Prop):AV->Prop
 |.fn f first dZ=>Hk P f first dZ E d K args
 |_=>False
def callee(x:IX)(args:List IX)(g:Bool)(E:St)(f:Nat)(as:List AV):Prop:=∃first dZ xs,xg g E x=.fn f first dZ/\bQ (xg g E) args=some xs/\as=first++xs++dZ
def Ba(x:IX)(args:List IX)(want:Bool)(E:St)(d:Option Nat)(K:St->Prop):AV->Prop
 |.bool b=>∃rs,iw rs=true/\((b==want)=true->∃f as,callee x args (b==want) E f as/\uQ P f=true/\FE P f as E.s rs E.s)/\K (E.put d (.when (b==want) (dX rs)))
 |.when g (.bool b)=>∃rs,iw rs=true/\((g&&(b==want))=true->∃f as,callee x args (g&&(b==want)) E f as/\uQ P f=true/\FE P f as E.s rs E.s)/\K (E.put d (.when (g&&(b==want)) (dX rs)))
 |_=>False
def CO(f:Nat)(args:List IX)(want:Bool)(E:St)(d:Option Nat)(K:St->Prop):AV->Prop
 |.bool b=>∃rs,iw rs=true/\((b==want)=true->∃as,bQ (xg (b==want) E) args=some as/\FE P f as E.s rs E.s)/\K (E.put d (.when (b==want) (dX rs)))
 |.when g (.bool b)=>∃rs,iw rs=true/\((g&&(b==want))=true->∃as,bQ (xg (g&&(b==want)) E) args=some as/\FE P f as E.s rs E.s)/\K (E.put d (.when (g&&(b==want)) (dX rs)))
 |_=>False
def aef(E:St)(d:Option Nat)(K:St->Prop):AV->Prop
 |.sl _ sz _ cs=>sz=1/\∃s:List UInt8,cs=(s.map fun c=>.int .u8 c.toNat)/\K (E.put d (.str s))
 |_=>False
def sP:AV->PR
 |.str s=>.cT (.sl (Sm s) 1 s.length (s.map fun c=>.int .u8 c.toNat))
 |_=>.no
def C9(sz n:Nat):Option (List AV)->PR
 |some cs=>.prt (cs.length=n*sz) (.sl true sz n cs)
 |none=>.no
def qe(f:IX->AV)(s:ab):qT->PR
 |.gN x=>sP (f x)
 |.bB sz n zero parts=>C9 sz n (fill f zero parts)
 |.lookup kk zero ok x k=>ij kk zero ok s (f k) (f x)
 |.jg x=>AA (f x)
 |.qP x=>zk (f x)
 |_=>.no
def Mp(o:qT)(want:Bool)(E:St):AV->PR
 |.bool b=>J0 (b==want) (qe (xg (b==want) E) E.s o)
 |.when g (.bool b)=>J0 (g&&(b==want)) (qe (xg (g&&(b==want)) E) E.s o)
 |_=>.no
def CP(o:ai)(E:St):PR:=match o.g with
 |none=>qe (xg true E) E.s o.op
 |some (t,want)=>Mp o.op want E (look E.e t)
def q1(o:ai)(E:St)(K:St->Prop):Prop:=
 match o with
 |⟨d,.call f args,none⟩=>Mo P f E d K (bQ (xg true E) args)
 |⟨d,.iJ true x,none⟩=>Nj E x d K (E.x x)
 |⟨d,.call f args,some (t,want)⟩=>CO P f args want E d K (look E.e t)
 |⟨d,.dj x args,none⟩=>Lc P E (bQ (xg true E) args) d K (xg true E x)
 |⟨d,.dj x args,some (t,want)⟩=>Ba P x args want E d K (look E.e t)
 |⟨d,.gN x,g⟩=>qK E d K (CP ⟨d,.gN x,g⟩ E)
 |⟨d,.bB sz n zero parts,g⟩=>qK E d K (CP ⟨d,.bB sz n zero parts,g⟩ E)
 |⟨d,.lookup kk zero ok x k,g⟩=>qK E d K (CP ⟨d,.lookup kk zero ok x k,g⟩ E)
 |⟨d,.jg x,g⟩=>qK E d K (CP ⟨d,.jg x,g⟩ E)
 |⟨d,.qP x,g⟩=>qK E d K (CP ⟨d,.qP x,g⟩ E)
 |o=>qK E o.dst K (qv o E)
def aX(E:St):Option Nat->Bool
 |some d=>aZ (look E.e d)
 |none=>true
def Re:Nat->List ai->St->(St->Prop)->Prop
 |0,l,E,K=>swp P l E K
 |_+1,[],E,K=>K E
 |q+1,o::r,E,K=>aX E o.dst=true/\q1 P o E (fun τ=>Re q r τ K)
def abi(q:Nat)(r:List ai)(K:St->Prop)(τ:St):Prop:=Re P q r τ K
def nE(c:Nat):AV->Bool
 |.lp t _=>!Nat.beq t c
 |.when _ v=>nE c v
 |_=>true
def pV:List Nat->AV->Bool
 |[],_=>true
 |c::T,a=>nE c a&&pV T a
def fW(T:List Nat):List (Nat×AV)->Bool
 |[]=>true
 |p::e=>pV T p.2&&fW T e
def Qj(n:Nat)(E:St)(c:Nat)(x:IX)(K:St->Prop):AV->Prop
 |.loc dJ=>dJ.length=n/\cO (E.x x)=true/\(aU (E.x x)).length=n/\K ((E.drain x).put (some c) (.loc (aU (E.x x))))
 |_=>False
def q2(o:ai)(E:St)(K:St->Prop):Prop:=
 match o with
 |⟨none,.store n (.t c) x,none⟩=>Qj n E c x K (look E.e c)
 |⟨some d,.aA z,none⟩=>aZ (look E.e d)=true/\j5 E.lp (some d)=true/\K (E.put (some d) (.loc z))
 |⟨some d,.append sz bytes x y,none⟩=>aZ (look E.e d)=true/\jN sz bytes E x (some d) K (E.x x) (E.x y)
 |⟨some d,.lP off (.t i) x,none⟩=>aZ (look E.e d)=true/\BW (.t i) off (E.x x)=true/\nX E (some d) K (E.x x)
 |⟨_,.store _ _ _,_⟩=>False
 |⟨_,.aA _,_⟩=>False
 |⟨_,.append _ _ _ _,_⟩=>False
 |⟨_,.lP _ _ _,_⟩=>False
 |o=>aX E o.dst=true/\q1 P o E K
def CR(T:List Nat):Nat->List ai->St->(St->Prop)->Prop
 |0,l,E,K=>swp P l E K
 |_+1,[],E,K=>K E
 |q+1,o::r,E,K=>q2 P o E (fun τ=>fW T τ.e=true/\CR T q r τ K)
def Uu(T:List Nat)(q:Nat)(r:List ai)(K:St->Prop)(τ:St):Prop:=fW T τ.e=true/\CR P T q r τ K
def lx:AV->Bool
 |.ref _ _=>false
 |.when _ a=>lx a
 |_=>true
def lz(o:ai)(E:St):Bool:=match o.op with
 |.load _ _ x=>lx (E.x x)
 |.bM _ _ _=>false
 |.lQ _ _=>false
 |.lookup _ _ _ _ _=>false
 |.call _ _=>false
 |.dj _ _=>false
 |.len c _=>!Nat.beq c 2
 |_=>true
def xN(f:Nat)(s:ab)(C:AV->ab->Prop):Option (List AV)->Prop
 |some args=>FN P f args s (fun rs s'=>iw rs=true/\C (dX rs) s')
 |none=>False
def H8(f:Nat)(first dZ:List AV)(s:ab)(C:AV->ab->Prop):Option (List AV)->Prop
 |some args=>uQ P f=true/\FN P f (first++args++dZ) s (fun rs s'=>iw rs=true/\C (dX rs) s')
 |none=>False
def sN(args:Option (List AV))(s:ab)(C:AV->ab->Prop):AV->Prop
 |.fn f first dZ=>H8 P f first dZ s C args
 |_=>False
def qY(bytes:Nat)(zero:List AV)(s:ab)(C:AV->ab->Prop):AV->AV->Prop
 |.int _ l,.int _ c=>0<=l/\l<=c/\c*bytes<=room/\∀b,s b=none->C (.arr b 0 l.toNat c.toNat) (s.set b (.cells ((List.replicate c.toNat zero).flatten)))
 |_,_=>False
def Y8(n:Nat)(s:ab)(C:AV->ab->Prop)(a:AV):Prop:=cO a=true/\(cellsOf a).length=n/\∀b,s b=none->C (.ref b 0) (s.set b (.cells (views (cellsOf a))))
def Ia(b off:Nat)(news:List AV)(s:ab)(C:AV->ab->Prop):Option SO->Prop
 |some (.cells dJ)=>off+news.length<=dJ.length/\C (.gb []) (s.set b (.cells (setAt dJ off news)))
 |_=>False
def Mg:AV->Bool
 |.sl true _ _ _=>false
 |.bb _ _ _=>false
 |_=>true
def ns(n:Nat)(s:ab)(C:AV->ab->Prop)(v:AV):AV->Prop
 |.ref b off=>cO v=true/\Mg v=true/\(aU v).length=n/\Ia b off (aU v) s C (s b)
 |_=>False
def Kc(kk:lE)(b:Nat)(s:ab)(k v:AV)(C:AV->ab->Prop):Option SO->Prop
 |some (.map es)=>(cO v=true/\fw kk k=true/\mQ kk es=true)/\C (.gb []) (s.set b (.map (xi (view k) (view v) es)))
 |_=>False
def EB(kk:lE)(s:ab)(k v:AV)(C:AV->ab->Prop):AV->Prop
 |.mp b=>Kc kk b s k v C (s b)
 |_=>False
def vF(b off:Nat)(s:ab)(C:AV->ab->Prop):Option SO->Prop
 |some (.cells cs)=>iD off cs fun cs' a=>C a (s.set b (.cells cs'))
 |_=>False
def qZ(s:ab)(C:AV->ab->Prop):AV->Prop
 |.ref b off=>vF b off s C (s b)
 |_=>False
def qF(o:qT)(E:St)(C:AV->ab->Prop):Prop:=match o with
 |.call f args=>xN P f E.s C (bQ (xg true E) args)
 |.dj x args=>sN P (bQ (xg true E) args) E.s C (xg true E x)
 |.gS _ bytes zero l c=>qY bytes zero E.s C (xg true E l) (xg true E c)
 |.makeMap=>∀b,E.s b=none->C (.mp b) (E.s.set b (.map []))
 |.gH zero=>∀b,E.s b=none->C (.ref b 0) (E.s.set b (.cells zero))
 |.qE n x=>Y8 n E.s C (xg true E x)
 |.store n p v=>ns n E.s C (E.x v) (E.x p)
 |.mapUpdate kk x k v=>EB kk E.s (xg true E k) (xg true E v) C (xg true E x)
 |.lq x=>qZ E.s C (E.x x)
 |_=>False
def Oj(E:St)(d:Option Nat)(K:St->Prop)(a:AV)(s':ab):Prop:=K ({E with s:=s'}.put d a)
def Q5(o:ai)(E:St)(K:St->Prop):Prop:=match o.g with
 |none=>aX E o.dst=true/\qF P o.op E (Oj E o.dst K)
 |some _=>False
def EC(T:List Nat):List (Nat×Nat×ai)->St->(St->Prop)->Prop
 |[],E,K=>K E
 |(0,_,o)::r,E,K=>q2 P o E (fun τ=>fW T τ.e=true/\EC T r τ K)
 |(1,_,o)::r,E,K=>lz o E=true/\q2 P o E (fun τ=>fW T τ.e=true/\EC T r τ K)
 |(2,_,o)::r,E,K=>Q5 P o E (fun τ=>fW T τ.e=true/\EC T r τ K)
 |(_+3,_,o)::r,E,K=>JW P o E (fun τ=>fW T τ.e=true/\EC T r τ K)
def Ou(T:List Nat)(r:List (Nat×Nat×ai))(K:St->Prop)(τ:St):Prop:=fW T τ.e=true/\EC P T r τ K
def xC:List Bool->List Bool->Bool
 |d::r,x::s=>(!d||x)&&xC r s
 |_,_=>true
def zn:List Bool->List Bool->List Bool
 |[],s=>s
 |x::p,s=>zn p (x::s)
def Lt(done:List Bool):List (List Bool)->List Bool->List Bool->List ai->(ai->List Bool->Prop)->Prop
 |row::rows,pre,x::xs,o::r,F=>(bif !x&&xC row done then F o (zn pre (true::xs))else True)/\Lt done rows (x::pre) xs r F
 |_,_,_,_,_=>True
def sH:List ai->List Bool
 |[]=>[]
 |_::r=>false::sH r
def NS(fB:List (List Bool))(ops:List ai)(K:St->Prop):List ai->List Bool->St->Prop
 |[],_,E=>K E
 |_::f,done,E=>Lt done fB [] done ops (fun o d=>JW P o E (fun τ=>NS fB ops K f d τ))
def ab2(fB:List (List Bool))(ops:List ai)(K:St->Prop)(f:List ai)(done:List Bool)(τ:St):Prop:=NS P fB ops K f done τ
def sr(live:List Nat)(Q:Exit->St->Prop)(τ:St):Prop:=Q .normal (τ.tG live)
def J9(id:Nat)(Q:Exit->St->Prop):Exit->St->Prop
 |.exit i,τ=>bif i==id then Q .normal τ else Q (.exit i) τ
 |x,τ=>Q x τ
def E6(live:List (Nat×Bool))(I:St->Prop)(μ:St->Nat)(m:Nat)(Q:Exit->St->Prop):Exit->St->Prop
 |.normal,ρ=>I (ρ.df live)/\μ (ρ.df live)<m
 |x,ρ=>Q x ρ
def nA(live:List (Nat×Bool))(J:St->Prop)(Q:Exit->St->Prop):Exit->St->Prop
 |.normal,ρ=>J (ρ.df live)
 |x,ρ=>Q x ρ
def JL(live:List (Nat×Bool))(I:St->Prop)(Q:Exit->St->Prop):Exit->St->Prop
 |.normal,ρ=>I (ρ.df live)
 |.goto _,_=>False
 |x,ρ=>Q x ρ
def KL(l:Nat)(live:List (Nat×Bool))(I:St->Prop)(Q:Exit->St->Prop):Exit->St->Prop
 |.goto l',ρ=>l'=l/\I (ρ.df live)
 |x,ρ=>Q x ρ
def fN:IC->(Exit->St->Prop)->St->Prop
 |.skip,Q,E=>Q .normal E
 |.bP q ops live,Q,E=>match q with
  |none=>swp P ops E (sr live Q)
  |some q=>Re P q ops E (sr live Q)
 |.C7 T q ops live,Q,E=>fW T E.e=true/\CR P T q ops E (sr live Q)
 |.Az T l live,Q,E=>fW T E.e=true/\EC P T l E (sr live Q)
 |.Nx fB ops live,Q,E=>NS P fB ops (sr live Q) ops (sH ops) E
 |.seq a b,Q,E=>fN a (fun x τ=>match x with|.normal=>fN b Q τ|x=>Q x τ) E
 |.cond c a b,Q,E=>match E.x c with
  |.bool v=>(v=true->fN a Q E)/\(v=false->fN b Q E)
  |_=>False
 |.block id b,Q,E=>fN b (J9 id Q) E
 |.loop live b,Q,E=>∃(I:St->Prop)(μ:St->Nat),I (E.df live)/\∀τ,I τ->fN b (E6 live I μ (μ τ) Q) τ
 |.join live a b,Q,E=>∃J:St->Prop,fN a (nA live J Q) E/\∀τ,J τ->fN b Q τ
 |.exit id,Q,E=>Q (.exit id) E
 |.scope b,Q,E=>fN b (fun x τ=>match x with|.goto _=>False|x=>Q x τ) E
 |.vu l live a1 a2 a3 r,Q,E=>
  let K:=JL live (fun ρ=>∃(I:St->Prop)(μ:St->Nat),I ρ/\∀τ,I τ->fN r (KL l live (fun ρ'=>I ρ'/\μ ρ'<μ τ) Q) τ) Q
  fN a1 (fun x τ=>match x with|.normal=>fN a2 (fun x τ=>match x with|.normal=>fN a3 K τ|x=>K x τ) τ|x=>K x τ) E
 |.label _,Q,E=>Q .normal E
 |.goto l,Q,E=>Q (.goto l) E
 |.ret,Q,E=>Q .ret E
 |.dead,_,_=>False
def Sc(l:Nat)(live:List (Nat×Bool))(r:IC)(Q:Exit->St->Prop)(ρ:St):Prop:=∃(I:St->Prop)(μ:St->Nat),I ρ/\∀τ,I τ->fN P r (KL l live (fun ρ'=>I ρ'/\μ ρ'<μ τ) Q) τ
def AO(b:IC)(Q:Exit->St->Prop):Exit->St->Prop
 |.normal,τ=>fN P b Q τ
 |x,τ=>Q x τ
def Lh(Q:Exit->St->Prop):Exit->St->Prop
 |.goto _,_=>False
 |x,τ=>Q x τ
def LI(a b:IC)(Q:Exit->St->Prop)(E:St):AV->Prop
 |.bool v=>(v=true->fN P a Q E)/\(v=false->fN P b Q E)
 |_=>False
end
end Go.AB
end
