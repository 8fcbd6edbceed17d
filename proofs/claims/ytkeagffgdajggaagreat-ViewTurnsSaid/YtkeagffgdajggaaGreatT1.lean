/- A part of the proof: Ab1, Ab2. -/
import Derived.Orders
import Derived.Laws.Sem
set_option linter.unusedSimpArgs false
set_option linter.unusedVariables false
section
namespace Go.AB
open Go
inductive AV where
 |undef
 |bool (b:Bool)
 |int (k:IntKind) (n:Int)
 |str (s:List UInt8)
 |dq
 |ref (b off:Nat)
 |lp (d off:Nat)
 |sp (cs:List AV)
 |loc (cs:List AV)
 |sl (own:Bool) (sz n:Nat) (cs:List AV)
 |arr (b off len cap:Nat)
 |agg (cs:List AV)
 |fE (vs:List AV)
 |fn (f:Nat) (first caps:List AV)
 |mU
 |mp (b:Nat)
 |mV
 |when (b:Bool) (a:AV)
 |us (sz n:Nat) (cs:List AV)
 |one
 |oe (t:Nat)
 |wW
 |bb (t n:Nat) (cs:List AV)
 deriving Inhabited
inductive SO where
 |cells (cs:List AV)
 |map (es:List (AV×AV))
 deriving Inhabited
abbrev ab:=Nat→Option SO
def ab.set(s:ab)(b:Nat)(o:SO):ab:=fun i=>if i=b then some o else s i
def ab.del(s:ab)(b:Nat):ab:=fun i=>if i=b then none else s i
inductive jQ where
 |int (k:IntKind)
 |str
 |bool
 |bytes (n:Nat)
 deriving Inhabited
inductive IX where
 |t (i:Nat)
 |c (a:AV)
 deriving Inhabited
inductive sT where
 |iR (tr:Bool) (x:IX)
 |pick (c x y:IX)
 |aq (zero:List AV)
 |fJ (zero:List AV)
 |cW (n:Nat) (x:IX)
 |mP (n:Nat) (x:IX)
 |build (zero:List AV) (parts:List (Nat×Nat×IX))
 |aY (sz len:Nat) (zero:List AV) (parts:List (Nat×Nat×IX))
 |load (n:Nat) (multi:Bool) (x:IX)
 |store (n:Nat) (p v:IX)
 |nilCheck (x:IX)
 |bin (op:BinOp) (x y:IX)
 |Pa (ne:Bool) (x y:IX)
 |M4 (ne:Bool) (x y:IX)
 |VA (ne:Bool) (x y:IX)
 |un (op:UnOp) (x:IX)
 |mj (k:IntKind) (x:IX)
 |eF (x:IX)
 |fK (x:IX)
 |EK (x:IX)
 |field (n:Nat) (multi:Bool) (off:Nat) (x:IX)
 |index (n:Nat) (multi:Bool) (len:Nat) (x i:IX)
 |gR (x i:IX)
 |fieldAddr (off:Nat) (x:IX)
 |indexAddr (zero:List AV) (x i:IX)
 |jf (sz len:Nat) (x i:IX)
 |slice (sz:Nat) (x:IX) (lo hi mx:Option IX)
 |pC (x:IX) (lo hi:Option IX)
 |extract (x:IX) (k:Nat)
 |len (cls:Nat) (x:IX)
 |Rl (n:Nat)
 |cap (x:IX)
 |eX (mx:Bool) (xs:List IX)
 |append (sz bytes:Nat) (x y:IX)
 |js (sz bytes:Nat) (zero:List AV) (l c:IX)
 |BK (sz bytes:Nat) (c:IX)
 |makeMap
 |lookup (kk:jQ) (zero:AV) (ok:Bool) (x k:IX)
 |mapUpdate (kk:jQ) (x k v:IX)
 |aU (zero:List AV) (multi:Bool) (x:IX)
 |jg (x:IX)
 |ql (x:IX)
 |call (f:Nat) (args:List IX)
 |b6 (x:IX) (args:List IX)
 |jr (f:Nat) (first caps:List IX)
 |iQ (sz len:Nat) (zero:List AV) (parts:List (Nat×Nat×IX))
 |ee (sz bytes:Nat) (zero:List AV) (x y:IX)
 |fV (sz:Nat) (x y:IX)
 |kZ (zero:List AV) (x:IX)
 |RP (sz:Nat) (own:Bool) (x:IX)
 |gW (x:IX)
 |U2 (ne:Bool) (x:IX)
 |SJ (f:Nat) (x y:IX)
 |tq (f i:Nat) (args:List IX)
 |YT (n:Nat) (ne:Bool) (x y:IX)
 |j4 (sz bytes:Nat) (zero:List AV) (x y:IX)
 |Vz (ne:Bool) (x:IX)
 |pD (sz n:Nat) (p v:IX)
 |Er (sz n:Nat) (x:IX)
 |mA (off:Nat) (j x:IX)
 |kL (k:IntKind) (x:IX)
 |YU (ne:Bool) (x:IX)
 |xJ (sz:Nat) (own:Bool) (x:IX)
 |Rz (x:IX)
 |Jx (f:Nat) (x:IX)
 |Ry (u:Nat) (x:IX)
 |KC (n t j u:Nat) (x:IX)
 |vZ (t:Nat) (x y:IX)
 deriving Inhabited
structure ah where
 dst:Option Nat
 op:sT
 g:Option (Nat×Bool)
 deriving Inhabited
inductive IC where
 |skip
 |bD (q:Option Nat) (ops:List ah) (live:List Nat)
 |wY (T:List Nat) (q:Nat) (ops:List ah) (live:List Nat)
 |IP (T:List Nat) (l:List (Nat×Nat×ah)) (live:List Nat)
 |Sl (deps:List (List Bool)) (ops:List ah) (live:List Nat)
 |seq (a b:IC)
 |cond (c:IX) (a b:IC)
 |block (id:Nat) (b:IC)
 |loop (live:List (Nat×Bool)) (b:IC)
 |join (live:List (Nat×Bool)) (a b:IC)
 |exit (id:Nat)
 |scope (b:IC)
 |B8 (l:Nat) (live:List (Nat×Bool)) (a1 a2 a3 r:IC)
 |label (l:Nat)
 |goto (l:Nat)
 |ret
 |dead
 deriving Inhabited
structure St where
 e:List (Nat×AV)
 lp:List (Nat×Nat)
 s:ab
def look:List (Nat×AV)→Nat→AV
 |[],_=>.undef
 |(j,a)::l,i=>bif j==i then a else look l i
def St.x(σ:St):IX→AV
 |.t i=>look σ.e i
 |.c a=>a
def St.put(σ:St)(d:Option Nat)(a:AV):St:=
 match d with
 |some d=>{σ with e:=(d,a)::σ.e}
 |none=>σ
def dx:AV→AV
 |.lp _ _=>.undef
 |.when _ _=>.undef
 |a=>a
def St.yW(σ:St)(live:List Nat):St:={e:=live.map fun i=>(i,dx (look σ.e i)),lp:=[],s:=σ.s}
def view:AV→AV
 |.sl _ sz n cs=>.sl false sz n cs
 |.us _ _ _=>.undef
 |.oe _=>.dq
 |.bb _ n cs=>.sl false 1 n cs
 |a=>a
def UO(b:Bool)(a:AV):AV:=bif b then view a else a
def St.dN(σ:St)(live:List (Nat×Bool)):St:={e:=live.map fun p=>(p.1,UO p.2 (dx (look σ.e p.1))),lp:=[],s:=σ.s}
def inner:AV→Bool
 |.loc _=>false
 |.when _ _=>false
 |_=>true
def zm(g:Bool):AV→AV
 |.when b a=>bif((b==g)||b)&&inner a then a else .undef
 |a=>a
def rm:Int:=9223372036854775807
def cU:AV→Bool
 |.undef=>false
 |.lp _ _=>false
 |.loc _=>false
 |.fE _=>false
 |.when _ _=>false
 |.us _ _ _=>false
 |.oe _=>false
 |_=>true
def mg(k:IntKind)(n:Int):Int:=k.wrap n
inductive PR where
 |cY (a:AV)
 |prt (c:Prop) (a:AV)
 |no
def QU(k k':IntKind):Bool:=decide (k=k')
def kk(k k':IntKind)(r:PR):PR:=bif QU k k' then r else .no
def zu(op:BinOp)(k k':IntKind)(a b:Int):PR:=
 match op with
 |.shl=>.prt (0≤b) (.int k (mg k (a*2^(min b.toNat k.bits))))
 |.shr=>.prt (0≤b) (.int k (a.fdiv (2^(min b.toNat k.bits))))
 |.add=>kk k k' (.cY (.int k (mg k (a+b))))
 |.sub=>kk k k' (.cY (.int k (mg k (a -b))))
 |.mul=>kk k k' (.cY (.int k (mg k (a*b))))
 |.quo=>kk k k' (.prt (b≠0) (.int k (mg k (a.tdiv b))))
 |.rem=>kk k k' (.prt (b≠0) (.int k (a.tmod b)))
 |.and=>kk k k' (.cY (.int k (k.wrap (BitVec.ofInt k.bits a&&&BitVec.ofInt k.bits b).toNat)))
 |.or=>kk k k' (.cY (.int k (k.wrap (BitVec.ofInt k.bits a |||BitVec.ofInt k.bits b).toNat)))
 |.xor=>kk k k' (.cY (.int k (k.wrap (BitVec.ofInt k.bits a^^^BitVec.ofInt k.bits b).toNat)))
 |.andNot=>kk k k' (.cY (.int k (k.wrap (BitVec.ofInt k.bits a&&& ~~~BitVec.ofInt k.bits b).toNat)))
 |.eql=>kk k k' (.cY (.bool (a==b)))
 |.neq=>kk k k' (.cY (.bool (a !=b)))
 |.lss=>kk k k' (.cY (.bool (decide (a<b))))
 |.leq=>kk k k' (.cY (.bool (decide (a≤b))))
 |.gtr=>kk k k' (.cY (.bool (decide (a>b))))
 |.geq=>kk k k' (.cY (.bool (decide (a≥b))))
def MH(op:BinOp)(a b:List UInt8):PR:=
 match op with
 |.add=>.prt (((a.length+b.length:Nat):Int)≤rm) (.str (a++b))
 |.eql=>.cY (.bool (a==b))
 |.neq=>.cY (.bool (!(a==b)))
 |.lss=>.cY (.bool (Op.bytesLess a b))
 |.leq=>.cY (.bool (Op.bytesLess a b||a==b))
 |.gtr=>.cY (.bool (!(Op.bytesLess a b||a==b)))
 |.geq=>.cY (.bool (!Op.bytesLess a b))
 |_=>.no
def OM(op:BinOp)(x y:AV):PR:=
 match x,y with
 |.int k a,.int k' b=>zu op k k' a b
 |.str a,.str b=>MH op a b
 |_,_=>.no
def Pb(ne:Bool)(x y:AV):PR:=
 match x,y with
 |.bool a,.bool b=>.cY (.bool ((a==b)!=ne))
 |_,_=>.no
def M5(ne:Bool)(x y:AV):PR:=
 match x,y with
 |.dq,.dq=>.cY (.bool (!ne))
 |.ref _ _,.dq=>.cY (.bool ne)
 |.dq,.ref _ _=>.cY (.bool ne)
 |.ref b o,.ref b' o'=>bif b==b'&&o==o' then .cY (.bool (!ne))else .no
 |_,_=>.no
def Tw(ne:Bool)(x y:AV):PR:=
 match x,y with
 |.sl _ _ (_+1) _,.sl _ _ 0 []=>.cY (.bool ne)
 |.arr _ _ _ (_+1),.sl _ _ 0 []=>.cY (.bool ne)
 |_,_=>.no
def jY:List AV→List AV→Bool
 |[],[]=>true
 |.int k _::r,.int k' _::s=>QU k k'&&jY r s
 |_,_=>false
def tE:List AV→List AV→Bool
 |.int _ a::r,.int _ b::s=>(a==b)&&tE r s
 |_,_=>true
def Tv(n:Nat)(ne:Bool)(x y:AV):PR:=
 match x,y with
 |.agg cs,.agg ds=>bif jY cs ds&&cs.length==n then .cY (.bool (tE cs ds !=ne))else .no
 |_,_=>.no
def RL(ne:Bool):AV→PR
 |.wW=>.cY (.bool (!ne))
 |_=>.no
def M3(ne:Bool):AV→PR
 |.fn _ _ _=>.cY (.bool ne)
 |.mU=>.cY (.bool (!ne))
 |_=>.no
def cellsOf:AV→List AV
 |.agg cs=>cs
 |a=>[a]
def mq(multi:Bool)(cs:List AV):AV:=match multi,cs with
 |true,cs=>.agg cs
 |false,a::_=>a
 |false,[]=>.undef
def sub(cs:List AV)(off n:Nat):List AV:=(cs.drop off).take n
def views(cs:List AV):List AV:=cs.map view
def aR:AV→List AV
 |.agg cs=>views cs
 |a=>[a]
def setAt(cs:List AV)(off:Nat)(news:List AV):List AV:=cs.take off++news++cs.drop (off+news.length)
def bx(b:Bool):AV→Option Bool
 |.bool x=>some x
 |.when b' (.bool x)=>bif(b'==b)||b' then some x else none
 |_=>none
def fill(f:IX→AV)(cells:List AV):List (Nat×Nat×IX)→Option (List AV)
 |[]=>some cells
 |(off,n,x)::r=>
  let c:=views (cellsOf (f x))
  bif cU (f x)&&(c.length==n&&decide (off+n≤cells.length))then fill f (setAt cells off c) r else none
def fF(n off:Nat)(cs:List AV):Option (List AV):=bif decide (off+n≤cs.length)then some (views (sub cs off n))else none
def kN(n off:Nat):AV→Option (List AV)
 |.loc cs=>fF n off cs
 |_=>none
def Ay(n off:Nat):Option SO→Option (List AV)
 |some (.cells cs)=>fF n off cs
 |_=>none
def rd(σ:St)(p:AV)(n:Nat):Option (List AV):=
 match p with
 |.loc cs=>fF n 0 cs
 |.lp d off=>kN n off (look σ.e d)
 |.sp cs=>fF n 0 cs
 |.ref b off=>Ay n off (σ.s b)
 |_=>none
def Hf(f:IX→AV)(o:Option IX)(dflt:Int):Option Int:=
 match o with
 |none=>some dflt
 |some x=>match f x with
  |.int _ n=>some n
  |_=>none
def NQ(mx:Bool):Int→List AV→Option Int
 |a,[]=>some a
 |a,.int _ b::r=>NQ mx (bif mx then max a b else min a b) r
 |_,_=>none
def pR:AV→Bool
 |.agg _=>false
 |a=>cU a
def Fl(cs:List AV):Prop:=∀c∈cs,pR c=true
def Co(t:Nat)(cs:List AV):Prop:=∀c∈cs,pR c=true∨c=.oe t
def R5(a:AV):PR:=bif cU a then .cY (view a)else .no
def TE:AV→Option (Bool×Bool)
 |.bool x=>some (true,x)
 |.when b (.bool x)=>some (b,x)
 |_=>none
def Ua(b:Bool):Option (Bool×Bool)→Option (Bool×Bool)→PR
 |some (g1,p),some (g2,q)=>.prt ((b=true→g1=true)∧(b=false→g2=true)) (.bool (bif b then p else q))
 |_,_=>.no
def YY:AV→Option (Bool×Bool)
 |.fE []=>some (false,false)
 |a=>TE a
def Ke(x y:AV):AV→PR
 |.bool b=>Ua b (YY x) (YY y)
 |_=>.no
def XB(a:AV):PR:=bif cU a then .cY a else .no
def XA(c:Prop)(a:AV):PR:=bif cU a then .prt c a else .no
def Yl:UnOp→AV→PR
 |.not,.bool b=>.cY (.bool (!b))
 |.neg,.int k n=>.cY (.int k (mg k (0 -n)))
 |_,_=>.no
def wi(k:IntKind):AV→PR
 |.int _ n=>.cY (.int k (mg k n))
 |_=>.no
def Bd:AV→PR
 |.str s=>.cY (.str s)
 |_=>.no
def mB(multi:Bool):Option (List AV)→PR
 |some cs=>XB (mq multi cs)
 |none=>.no
def Bf(n:Nat)(multi:Bool)(off:Nat):AV→PR
 |.agg cs=>bif decide (off+n≤cs.length)then XB (view (mq multi (sub cs off n)))else .no
 |_=>.no
def Bm(n:Nat)(multi:Bool)(len:Nat):AV→AV→PR
 |.agg cs,.int _ k=>bif len*n==cs.length then XA (0≤k∧k<len) (view (mq multi (sub cs (k.toNat*n) n)))else .no
 |_,_=>.no
def wE:AV→AV→PR
 |.str s,.int _ k=>.prt (0≤k∧k<s.length) (.int .u8 (s.getD k.toNat 0).toNat)
 |_,_=>.no
def lq:AV→PR
 |.ref b off=>.cY (.ref b off)
 |_=>.no
def R1(c:Prop)(off:Nat):IX→PR
 |.t i=>.prt (c) (.lp i off)
 |.c _=>.no
def fy(off:Nat)(x:IX):AV→PR
 |.lp d o=>.cY (.lp d (o+off))
 |.sp cs=>bif decide (off≤cs.length)then .cY (.sp (cs.drop off))else .no
 |.ref b o=>.cY (.ref b (o+off))
 |.loc _=>R1 True off x
 |_=>.no
def pad(zero cs:List AV):List AV:=bif cs.length==zero.length then cs else zero
def jk(zero:List AV):AV→AV→PR
 |.sl _ s n cs,.int _ k=>bif s==zero.length then .prt (0≤k∧k<n) (.sp (pad zero (views (sub cs (k.toNat*zero.length) zero.length))))else .no
 |.arr b off n _,.int _ k=>.prt (0≤k∧k<n) (.ref b (off+k.toNat*zero.length))
 |_,_=>.no
def e9(sz len:Nat)(x:IX):AV→AV→PR
 |.lp d o,.int _ k=>.prt (0≤k∧k<len) (.lp d (o+k.toNat*sz))
 |.sp cs,.int _ k=>bif decide (len*sz≤cs.length)then .prt (0≤k∧k<len) (.sp (cs.drop (k.toNat*sz)))else .no
 |.ref b o,.int _ k=>.prt (0≤k∧k<len) (.ref b (o+k.toNat*sz))
 |.loc _,.int _ k=>R1 (0≤k∧k<len) (k.toNat*sz) x
 |_,_=>.no
def Ee(sz n:Nat)(cs:List AV):Option Int→Option Int→PR
 |some l,some h=>bif Nat.ble 1 sz then .prt (0≤l∧l≤h∧h≤n) (.sl false sz ((sub cs (l.toNat*sz) ((h -l).toNat*sz)).length/sz) (sub cs (l.toNat*sz) ((h -l).toNat*sz)))else .no
 |_,_=>.no
def hE(off cap l sz:Nat):Nat:=bif cap==l then off else off+l*sz
def AP(sz b off cap:Nat):Option Int→Option Int→PR
 |some l,some h=>.prt (0≤l∧l≤h∧h≤cap) (.arr b (hE off cap l.toNat sz) (h -l).toNat (cap -l.toNat))
 |_,_=>.no
def Ca(sz b off cap:Nat):Option Int→Option Int→Option Int→PR
 |some l,some h,some m=>.prt (0≤l∧l≤h∧h≤m∧m≤cap) (.arr b (hE off m.toNat l.toNat sz) (h -l).toNat (m.toNat -l.toNat))
 |_,_,_=>.no
def oW(sz:Nat)(f:IX→AV)(lo hi:Option IX)(mx:IX):AV→PR
 |.arr b off _ cap=>Ca sz b off cap (Hf f lo 0) (bif hi.isSome then Hf f hi 0 else none) (Hf f (some mx) 0)
 |_=>.no
def OR:AV→PR
 |.arr _ _ _ cap=>.cY (.int .i64 cap)
 |_=>.no
def vG(sz:Nat)(f:IX→AV)(lo hi:Option IX):AV→PR
 |.sl _ s n cs=>bif s==sz then Ee sz n cs (Hf f lo 0) (Hf f hi n)else .no
 |.arr b off n cap=>AP sz b off cap (Hf f lo 0) (Hf f hi n)
 |_=>.no
def AQ(s:List UInt8):Option Int→Option Int→PR
 |some l,some h=>.prt (0≤l∧l≤h∧h≤s.length) (.str ((s.drop l.toNat).take (h -l).toNat))
 |_,_=>.no
def lz(f:IX→AV)(lo hi:Option IX):AV→PR
 |.str s=>AQ s (Hf f lo 0) (Hf f hi s.length)
 |_=>.no
def PH:Option SO→PR
 |some (.map es)=>.cY (.int .i64 es.length)
 |_=>.no
def DA(s:ab):Nat→AV→PR
 |0,.sl _ _ n _=>.cY (.int .i64 n)
 |0,.arr _ _ n _=>.cY (.int .i64 n)
 |1,.str s=>.cY (.int .i64 s.length)
 |2,.mV=>.cY (.int .i64 0)
 |2,.mp b=>PH (s b)
 |_,_=>.no
def ac3(k:IntKind):Option Int→PR
 |some m=>.cY (.int k m)
 |none=>.no
def wy(mx:Bool):List AV→PR
 |.int k n::r=>ac3 k (NQ mx n r)
 |_=>.no
def M6:Option AV→PR
 |some a=>XB (view a)
 |none=>.no
def pP(k:Nat):AV→PR
 |.fE vs=>M6 vs[k]?
 |_=>.no
def byteOf:AV→Option UInt8
 |.int .u8 n=>if 0≤n∧n<256 then some (UInt8.ofNat n.toNat)else none
 |_=>none
def Tg{α:Type}:Option α→Option (List α)→Option (List α)
 |some a,some l=>some (a::l)
 |_,_=>none
def bytesOf:List AV→Option (List UInt8)
 |[]=>some []
 |a::r=>Tg (byteOf a) (bytesOf r)
def UG:Option (List UInt8)→PR
 |some l=>.cY (.str l)
 |none=>.no
def rj:AV→PR
 |.sl _ sz _ cs=>bif sz==1 then UG (bytesOf cs)else .no
 |_=>.no
def Eu:Option (List AV)→PR
 |some cs=>.cY (.agg cs)
 |none=>.no
def Rp(a:AV):Option (List AV)→Option (List AV)
 |some l=>bif cU a then some (view a::l)else none
 |none=>none
def bJ(f:IX→AV):List IX→Option (List AV)
 |[]=>some []
 |x::r=>Rp (f x) (bJ f r)
def wv(fi:Nat):Option (List AV)→Option (List AV)→PR
 |some a,some b=>.cY (.fn fi a b)
 |_,_=>.no
def NL(zero:List AV)(multi:Bool)(off:Nat):Option SO→PR
 |some (.cells cs)=>XA (off+zero.length≤cs.length) (mq multi (pad zero (views (sub cs off zero.length))))
 |_=>.no
def J1(zero:List AV)(multi:Bool)(s:ab):AV→PR
 |.ref b off=>NL zero multi off (s b)
 |_=>.no
def FQ(k:IntKind)(off:Nat):Option SO→Prop
 |some (.cells cs)=>∃n,cs[off]? =some (.int k n)
 |_=>False
def intOf:Option AV→Int
 |some (.int _ n)=>n
 |_=>0
def FR(off:Nat):Option SO→Int
 |some (.cells cs)=>intOf cs[off]?
 |_=>0
def BG(k:IntKind)(s:ab):AV→PR
 |.ref b off=>.prt (FQ k off (s b)) (.int k (FR off (s b)))
 |_=>.no
def pv(o:sT)(f:IX→AV)(σ:St):PR:=
 match o with
 |.iR false x=>R5 (f x)
 |.pick c x y=>Ke (σ.x x) (σ.x y) (f c)
 |.bin op x y=>OM op (f x) (f y)
 |.Pa ne x y=>Pb ne (f x) (f y)
 |.M4 ne x y=>M5 ne (f x) (f y)
 |.VA ne x (.c (.sl true z 0 []))=>Tw ne (f x) (.sl true z 0 [])
 |.un op x=>Yl op (f x)
 |.mj k x=>wi k (f x)
 |.EK x=>Bd (f x)
 |.load n multi x=>mB multi (rd σ (f x) n)
 |.field n multi off x=>Bf n multi off (f x)
 |.index n multi len x i=>Bm n multi len (f x) (f i)
 |.gR x i=>wE (f x) (f i)
 |.nilCheck x=>lq (f x)
 |.fieldAddr off x=>fy off x (f x)
 |.indexAddr zero x i=>jk zero (f x) (f i)
 |.jf sz len x i=>e9 sz len x (f x) (f i)
 |.slice sz x lo hi none=>vG sz f lo hi (f x)
 |.pC x lo hi=>lz f lo hi (f x)
 |.len cls x=>DA σ.s cls (f x)
 |.Rl n=>.cY (.int .i64 n)
 |.eX mx xs=>wy mx (xs.map f)
 |.extract x k=>pP k (f x)
 |.build zero parts=>Eu (fill f zero parts)
 |.jr fi first caps=>wv fi (bJ f first) (bJ f caps)
 |.eF x=>rj (f x)
 |.aU zero multi x=>J1 zero multi σ.s (f x)
 |.kL k x=>BG k σ.s (f x)
 |.slice sz x lo hi (some mx)=>oW sz f lo hi mx (f x)
 |.cap x=>OR (f x)
 |.YT n ne x y=>Tv n ne (f x) (f y)
 |.Vz ne x=>M3 ne (f x)
 |.YU ne x=>RL ne (f x)
 |_=>.no
end Go.AB
end
section
namespace Go.AB
open Go
inductive cy where
 |none
 |frame
 |slot (i j:Nat)
 |loc (i:Nat)
 |sh
 |cell (b j:Nat)
 |res (j:Nat)
 deriving DecidableEq
structure Gh where
 R:Nat→Nat
 O:Nat→cy
inductive VR(w:World)(R:Nat→Nat):AV→Value→Prop where
 |undef (v:Value):VR w R .undef v
 |bool (b:Bool):VR w R (.bool b) (.bool b)
 |int (k:IntKind) (n:Int):VR w R (.int k n) (.int k n)
 |str (s:List UInt8):VR w R (.str s) (.string ⟨s.toArray⟩)
 |dq:VR w R .dq (.pointer none)
 |ref (b off:Nat):VR w R (.ref b off) (.pointer (some ⟨b,off,none⟩))
 |sp (cs:List AV) (b off:Nat) (u:Nat→Value) (hf:Fl cs) (hR:off+cs.length≤R b)
   (hc:∀(j:Nat)(c:AV),cs[j]? =some c→w.cell? ⟨b,off+j,none⟩=some (u j)) (hr:∀(j:Nat)(c:AV),cs[j]? =some c→VR w R c (u j)):
   VR w R (.sp cs) (.pointer (some ⟨b,off,none⟩))
 |slnil (own:Bool) (sz:Nat):VR w R (.sl own sz 0 []) (.slice none 0 0)
 |sle (sz:Nat) (a:Addr) (cap:Nat):VR w R (.sl false sz 0 []) (.slice (some a) 0 cap)
 |sl (own:Bool) (sz n:Nat) (cs:List AV) (b off cap:Nat) (u:Nat→Value) (hf:Fl cs) (hl:cs.length=n*sz) (hR:off+cs.length≤R b) (hcap:n≤cap)
   (hc:∀(j:Nat)(c:AV),cs[j]? =some c→w.cell? ⟨b,off+j,none⟩=some (u j)) (hr:∀(j:Nat)(c:AV),cs[j]? =some c→VR w R c (u j)):
   VR w R (.sl own sz n cs) (.slice (some ⟨b,off,none⟩) n cap)
 |arr (b off len cap:Nat):VR w R (.arr b off len cap) (.slice (some ⟨b,off,none⟩) len cap)
 |KA (b off:Nat):VR w R (.arr b off 0 0) (.slice none 0 0)
 |agg (cs:List AV) (vs:Array Value) (hf:Fl cs) (hl:vs.size=cs.length) (hr:∀(j:Nat)(c:AV)(v:Value),cs[j]? =some c→vs[j]? =some v→VR w R c v):VR w R (.agg cs) (.agg vs)
 |fE (cs:List AV) (vs:Array Value) (hl:vs.size=cs.length) (hr:∀(j:Nat)(c:AV)(v:Value),cs[j]? =some c→vs[j]? =some v→VR w R c v):VR w R (.fE cs) (.tuple vs)
 |fn (f:Nat) (first caps:List AV) (vf vc:Array Value) (hl:vf.size=first.length) (hr:∀(j:Nat)(c:AV)(v:Value),first[j]? =some c→vf[j]? =some v→VR w R c v)
   (hl':vc.size=caps.length) (hr':∀(j:Nat)(c:AV)(v:Value),caps[j]? =some c→vc[j]? =some v→VR w R c v):VR w R (.fn f first caps) (.func (.func f) vf vc)
 |mU:VR w R .mU .nilFunc
 |mp (b:Nat):VR w R (.mp b) (.map (some b))
 |mV:VR w R .mV (.map none)
 |when (b:Bool) (a:AV) (v:Value) (h:b=true→VR w R a v):VR w R (.when b a) v
 |one (v:Value) (h:v.oneCell'=true):VR w R .one v
 |oe (t:Nat):VR w R (.oe t) (.pointer none)
 |wW:VR w R .wW .nilIface
 |bb (t n:Nat) (cs:List AV) (v:Value) (h:VR w R (.sl true 1 n cs) v) (h0:n=0→v=.slice none 0 0):VR w R (.bb t n cs) v
def c7(G:Gh)(w:World)(o:cy)(a:AV)(v:Value):Prop:=
 match a with
 |.sl true sz n _=>∀base m cap,v=.slice base m cap→(cap≠n∨0<n)→
   ∃b off c e fz,base=some ⟨b,off,none⟩∧G.O b=o∧G.R b=off+n*sz∧w.heap[b]? =some (.cells c e fz)∧c.size=off+cap*sz∧
    (∀k,k<c.size→¬(fz.1≤k∧k<fz.2))∧fz.1≤fz.2∧off=0∧(fz=(0,0)∨(0<n∧∃x,c[0]? =some (.int .u8 x)))∧
    ∀(k:Nat)(y:Value),off+n*sz≤k→c[k]? =some y→y.oneCell'=true
 |.bb e n _=>∀base m cap,v=.slice base m cap→(cap≠n∨0<n)→
   ∃b off c fz,base=some ⟨b,off,none⟩∧G.O b=o∧G.R b=off+n*1∧w.heap[b]? =some (.cells c e fz)∧c.size=off+cap*1∧
    (∀k,k<c.size→¬(fz.1≤k∧k<fz.2))∧fz.1≤fz.2∧off=0∧(fz=(0,0)∨(0<n∧∃x,c[0]? =some (.int .u8 x)))∧
    ∀(k:Nat)(y:Value),off+n*1≤k→c[k]? =some y→y.oneCell'=true
 |_=>True
def da(G:Gh)(w:World)(o:Nat→cy)(cs:List AV)(c:Array Value):Prop:=c.size=cs.length∧∀(j:Nat)(x:AV)(y:Value),cs[j]? =some x→c[j]? =some y→VR w G.R x y∧c7 G w (o j) x y
def UsR(G:Gh)(w:World)(o:cy)(sz n:Nat)(cs:List AV)(v:Value):Prop:=
 (n=0∧cs=[]∧(v=.slice none 0 0∨∃b off,v=.slice (some ⟨b,off,none⟩) 0 0))∨
 ∃b cap c t sp,0<cap∧n≤cap∧v=.slice (some ⟨b,0,none⟩) n cap∧G.O b=o∧G.R b=0∧w.heap[b]? =some (.cells c t (0,0))∧c.size=cap*sz∧cs.length=n*sz∧(cs++sp).length=cap*sz∧
  (∀(j:Nat)(x:AV)(u:Value),(cs++sp)[j]? =some x→c[j]? =some u→VR w G.R x u)∧Fl (cs++sp)∧views (cs++sp)=cs++sp
def c5(G:Gh)(w:World)(e:List (Nat×AV))(tmps:Array Value)(i:Nat):AV→Value→Prop
 |.loc cs,v=>∃b c t,v=.pointer (some ⟨b,0,none⟩)∧G.O b=.loc i∧G.R b=0∧w.heap[b]? =some (.cells c t (0,0))∧da G w (.cell b) cs c∧Fl cs
 |.lp d off,v=>∃b,v=.pointer (some ⟨b,off,none⟩)∧∀cs,look e d=.loc cs→tmps[d]? =some (.pointer (some ⟨b,0,none⟩))
 |.fE vs,v=>∃ys:Array Value,v=.tuple ys∧da G w (fun j=>.slot i (j+1)) vs ys
 |.when b a,v=>(b=true→c5 G w e tmps i a v)∧(b=false→v=.tuple #[])
 |.us sz n cs,v=>UsR G w (.slot i 0) sz n cs v
 |a,v=>VR w G.R a v∧c7 G w (.slot i 0) a v
def ba:AV→Nat→Prop
 |.lp d _,d'=>d=d'
 |.when _ a,d'=>ba a d'
 |_,_=>False
structure bM(G:Gh)(w:World):Prop where
 iS:∀b,w.heap.size≤b→G.O b=.none
 iT:∀b,w.heap.size≤b→G.R b=0
def abU(G:Gh)(w:World)(x:AV×AV)(y:MapEntry):Prop:=VR w G.R x.1 y.key∧VR w G.R x.2 y.val
def aL(G:Gh)(w:World)(s:ab):Prop:=
 ∀b o,s b=some o→G.O b=.sh∧G.R b=0∧match o with
  |.cells cs=>∃c t,w.heap[b]? =some (.cells c t (0,0))∧da G w (.cell b) cs c∧Co t cs
  |.map es=>∃ents clock,w.heap[b]? =some (.map ents clock)∧ents.size=es.length∧∀(j:Nat)(x:AV×AV)(y:MapEntry),es[j]? =some x→ents[j]? =some y→abU G w x y
structure Inv(G:Gh)(n:Nat)(D:List Deferred)(σ:St)(a:Act)(w:World):Prop where
 aG:bM G w
 store:aL G w σ.s
 size:a.tmps.size=n
 bW:∀(i:Nat)(v:Value),a.tmps[i]? =some v→c5 G w σ.e a.tmps i (look σ.e i) v
 Hs:∀i,n≤i→look σ.e i=.undef
 OE:∀i d,ba (look σ.e i) d→(i,d)∈σ.lp
 sV:a.defers=D
structure ax(G:Gh)(w:World)(G':Gh)(w':World):Prop where
 os:w'.os=w.os
 tape:w'.tape=w.tape
 output:w'.output=w.output
 drawn:w.drawn≤w'.drawn
 size:w.heap.size≤w'.heap.size
 mono:∀b,b<w.heap.size→G.R b≤G'.R b
 mn:∀b k,b<w.heap.size→k<G.R b→w'.cell? ⟨b,k,none⟩=w.cell? ⟨b,k,none⟩
 frame:∀b,b<w.heap.size→G.O b=.frame∨G.O b=.none→w'.heap[b]? =w.heap[b]?
 ji:∀b,b<w.heap.size→G.O b=.frame→G'.O b=.frame∧G'.R b=G.R b
 oE:∀b,b<w.heap.size→G.O b=.none→G'.O b=.none∧G'.R b=G.R b
def Uv(G:Gh)(w:World)(a:AV)(v:Value):Prop:=
 match a with
 |.us sz n cs=>UsR G w (.res 0) sz n cs v
 |a=>VR w G.R a v∧c7 G w (.res 0) a v
def nk(G:Gh)(w:World)(rs:List AV)(v:Value):Prop:=
 match rs with
 |[a]=>Uv G w a v
 |rs=>∃ys:Array Value,v=.tuple ys∧da G w (fun j=>.res j) rs ys
def Cq(G:Gh):Prop:=∀b,G.O b=.none∨G.O b=.frame∨G.O b=.sh∨∃b' j,G.O b=.cell b' j∧G.O b'=.sh
def kF(w:World)(R:Nat→Nat)(args:List AV)(vs:Array Value):Prop:=vs.size=args.length∧∀(j:Nat)(a:AV)(v:Value),args[j]? =some a→vs[j]? =some v→VR w R a v
def FN(P:Program)(f:FuncId)(args:List AV)(s:ab)(Q:List AV→ab→Prop):Prop:=
 ∀(G:Gh)(w:World)(vs:Array Value),bM G w→Cq G→aL G w s→kF w G.R args vs→
  Calls P f vs w fun e w'=>∃v rs s' G',e=.returned v∧Q rs s'∧bM G' w'∧aL G' w' s'∧nk G' w' rs v∧ax G w G' w'
theorem FN.mono{P:Program}{f:FuncId}{args:List AV}{s:ab}{Q Q':List AV→ab→Prop}(h:FN P f args s Q)(hq:∀rs s',Q rs s'→Q' rs s'):FN P f args s Q':=fun G w vs h1 h2 h3 h4=>(h G w vs h1 h2 h3 h4).mono fun _ _⟨v,rs,s',G',a,b,c⟩=>⟨v,rs,s',G',a,hq _ _ b,c⟩
def FE(P:Program)(f:FuncId)(args:List AV)(s:ab)(rs:List AV)(s':ab):Prop:=FN P f args s fun r t=>r=rs∧t=s'
theorem FE.app{P:Program}{f:FuncId}{args:List AV}{s s':ab}{rs:List AV}{Q:List AV→ab→Prop}(h:FE P f args s rs s')(hq:Q rs s'):FN P f args s Q:=FN.mono h fun _ _⟨h1,h2⟩=>by rw[h1,h2];exact hq
def eC:List AV→AV
 |[a]=>a
 |rs=>.fE rs
def room:Nat:=140737488355328
def ki(lp:List (Nat×Nat))(d:Option Nat):Bool:=match d with
 |some d=>lp.all fun x=>!Nat.beq x.2 d
 |none=>true
def St.drain(σ:St)(x:IX):St:=match x with
 |.t i=>σ.put (some i) (view (look σ.e i))
 |.c _=>σ
def dG(off:Nat)(news:List AV)(dQ:List AV):Option (List AV):=bif decide (off+news.length≤dQ.length)then some (setAt dQ off news)else none
def WN(σ:St)(d:Nat):Option (List AV)→Option St
 |some cs=>some (σ.put (some d) (.loc cs))
 |none=>none
def WO(σ:St)(b:Nat):Option (List AV)→Option St
 |some cs=>some {σ with s:=σ.s.set b (.cells cs)}
 |none=>none
def Ks(σ:St)(d off:Nat)(news:List AV):AV→Option St
 |.loc dQ=>WN σ d (dG off news dQ)
 |_=>none
def Qm(σ:St)(b off:Nat)(news:List AV):Option SO→Option St
 |some (.cells dQ)=>WO σ b (dG off news dQ)
 |_=>none
def aee(σ:St)(news dQ:List AV):IX→Option St
 |.t d=>WN σ d (dG 0 news dQ)
 |.c _=>none
def Jr(σ:St)(p:AV)(i:IX)(news:List AV):Option St:=
 match p with
 |.loc dQ=>aee σ news dQ i
 |.lp d off=>Ks σ d off news (look σ.e d)
 |.ref b off=>Qm σ b off news (σ.s b)
 |_=>none
def TO:AV→AV→Bool
 |.int _ a,.int _ b=>a==b
 |.str a,.str b=>a==b
 |.bool a,.bool b=>a==b
 |_,_=>false
def rq:List AV→List AV→Bool
 |[],[]=>true
 |a::x,b::y=>TO a b&&rq x y
 |_,_=>false
def kc(a b:AV):Bool:=rq (cellsOf a) (cellsOf b)
def ey(k:AV):List (AV×AV)→Option AV
 |[]=>none
 |x::r=>bif kc k x.1 then some x.2 else ey k r
def uQ(k v:AV):List (AV×AV)→List (AV×AV)
 |[]=>[(k,v)]
 |x::r=>bif kc k x.1 then(k,v)::r else x::uQ k v r
section
variable(P:Program)
def TX(σ:St)(x:IX)(d:Option Nat)(K:St→Prop)(a:AV):Prop:=cU a=true∧K ((σ.drain x).put d a)
def W6(n:Nat)(σ:St)(d:Option Nat)(K:St→Prop)(a:AV):Prop:=cU a=true∧(cellsOf a).length=n∧K (σ.put d (.loc (views (cellsOf a))))
def W7(n:Nat)(σ:St)(d:Option Nat)(K:St→Prop)(a:AV):Prop:=cU a=true∧(cellsOf a).length=n∧∀b,σ.s b=none→K ({σ with s:=σ.s.set b (.cells (views (cellsOf a)))}.put d (.ref b 0))
def zz(sz n:Nat)(σ:St)(d:Option Nat)(K:St→Prop):Option (List AV)→Prop
 |some cs=>cs.length=n*sz∧K (σ.put d (.sl true sz n cs))
 |none=>False
def OG(d:Option Nat)(K:St→Prop):Option St→Prop
 |some τ=>K (τ.put d (.fE []))
 |none=>False
def L5(n:Nat)(σ:St)(p:IX)(v:IX)(d:Option Nat)(K:St→Prop)(a:AV):Prop:=cU a=true∧(aR a).length=n∧OG d K (Jr (σ.drain v) (σ.x p) p (aR a))
def jZ(sz bytes:Nat)(σ:St)(x:IX)(d:Option Nat)(K:St→Prop):AV→AV→Prop
 |.sl true s n cs,.sl _ s' m ds=>s=sz∧(s'=sz∨m=0)∧(n+m)*bytes≤room∧K ((σ.drain x).put d (.sl true sz (n+m) (cs++views ds)))
 |.sl true s n cs,.str ds=>s=sz∧sz=1∧(n+ds.length)*bytes≤room∧K ((σ.drain x).put d (.sl true sz (n+ds.length) (cs++ds.map fun c=>.int .u8 c.toNat)))
 |_,_=>False
def D3(σ:St)(d:Option Nat)(K:St→Prop):AV→Prop
 |.sl _ sz _ cs=>sz=1∧∃s:List UInt8,cs=(s.map fun c=>.int .u8 c.toNat)∧K (σ.put d (.str s))
 |_=>False
def VV:List UInt8→Bool
 |[]=>false
 |_::_=>true
def pO(σ:St)(d:Option Nat)(K:St→Prop):AV→Prop
 |.str s=>K (σ.put d (.sl (VV s) 1 s.length (s.map fun c=>.int .u8 c.toNat)))
 |_=>False
def Ao(bytes:Nat)(zero:List AV)(σ:St)(d:Option Nat)(K:St→Prop):AV→AV→Prop
 |.int _ l,.int _ c=>0≤l∧l≤c∧c*bytes≤room∧
   ∀b,σ.s b=none→K ({σ with s:=σ.s.set b (.cells ((List.replicate c.toNat zero).flatten))}.put d (.arr b 0 l.toNat c.toNat))
 |_,_=>False
def Ea(sz bytes:Nat)(σ:St)(d:Option Nat)(K:St→Prop):AV→Prop
 |.int _ c=>0≤c∧c*bytes≤room∧K (σ.put d (.sl true sz 0 []))
 |_=>False
def Hh(ok:Bool)(a:AV)(b:Bool):AV:=match ok with
 |true=>.fE [a,.bool b]
 |false=>a
def Fb:AV→Bool
 |.int .u8 _=>true
 |_=>false
def eh:jQ→AV→Bool
 |.int k,.int k' _=>QU k k'
 |.str,.str _=>true
 |.bool,.bool _=>true
 |.bytes n,.agg cs=>cs.length==n&&cs.all Fb
 |_,_=>false
def jq(kk:jQ)(es:List (AV×AV)):Bool:=es.all fun x=>eh kk x.1
def uG(zero:AV)(ok:Bool):Option AV→AV
 |some v=>Hh ok (view v) true
 |none=>Hh ok (view zero) false
def y8:AV→Bool
 |.fE _=>true
 |a=>cU a
def y7:Bool→AV→Bool
 |true,_=>true
 |false,a=>cU a
def MO(ok:Bool)(c:Prop)(a:AV):PR:=bif y7 ok a then .prt c a else .no
def mT(kk:jQ)(zero:AV)(ok:Bool)(k:AV):Option SO→PR
 |some (.map es)=>MO ok (eh kk k=true∧jq kk es=true) (uG zero ok (ey k es))
 |_=>.no
def gX(kk:jQ)(zero:AV)(ok:Bool)(s:ab)(k:AV):AV→PR
 |.mp b=>mT kk zero ok k (s b)
 |.mV=>MO ok (eh kk k=true) (Hh ok (view zero) false)
 |_=>.no
def DL:AV→PR
 |.sl true 1 (n+1) (.int .u8 x::cs)=>.cY (.sl false 1 (n+1) (.int .u8 x::cs))
 |_=>.no
def Ce:AV→PR
 |.fE vs=>.cY (.fE (views vs))
 |_=>.no
def P4(σ:St)(d:Option Nat)(K:St→Prop):PR→Prop
 |.cY a=>K (σ.put d a)
 |.prt c a=>c∧K (σ.put d a)
 |.no=>False
def SD(kk:jQ)(b:Nat)(σ:St)(k v:AV)(d:Option Nat)(K:St→Prop):Option SO→Prop
 |some (.map es)=>(cU v=true∧eh kk k=true∧jq kk es=true)∧K ({σ with s:=σ.s.set b (.map (uQ (view k) (view v) es))}.put d (.fE []))
 |_=>False
def wx(kk:jQ)(σ:St)(k v:AV)(d:Option Nat)(K:St→Prop):AV→Prop
 |.mp b=>SD kk b σ k v d K (σ.s b)
 |_=>False
def TL:AV→Bool
 |.us _ _ _=>true
 |_=>false
def iO:List AV→Bool
 |[a]=>cU a||TL a
 |_=>true
def MN(σ:St)(d:Option Nat)(K:St→Prop)(rs:List AV)(s':ab):Prop:=iO rs=true∧K ({σ with s:=s'}.put d (eC rs))
def tu(f:Nat)(σ:St)(d:Option Nat)(K:St→Prop):Option (List AV)→Prop
 |some args=>FN P f args σ.s (MN σ d K)
 |none=>False
def ny(f:FuncId):Bool:=match P.funcs[f]? with
 |some fn=>fn.name != "runtime.NumGoroutine" &&fn.body.isSome
 |none=>false
def S8(f:Nat)(first caps:List AV)(σ:St)(d:Option Nat)(K:St→Prop):Option (List AV)→Prop
 |some args=>ny P f=true∧FN P f (first++args++caps) σ.s (MN σ d K)
 |none=>False
def yz(σ:St)(args:Option (List AV))(d:Option Nat)(K:St→Prop):AV→Prop
 |.fn f first caps=>S8 P f first caps σ d K args
 |_=>False
def xg(g:Bool)(σ:St)(x:IX):AV:=zm g (σ.x x)
def UJ(i:Nat)(σ:St)(W:St→Prop):AV→Prop
 |.us sz n cs=>(∀b cap sp,σ.s b=none→0<cap→n≤cap→(cs++sp).length=cap*sz→Fl (cs++sp)→views sp=sp→W ({σ with s:=σ.s.set b (.cells (cs++sp))}.put (some i) (.arr b 0 n cap)))∧
   (n=0→∀b off,W (σ.put (some i) (.arr b off 0 0)))
 |_=>False
def uI(sz:Nat):AV→AV
 |.arr _ 0 0 0=>.sl true sz 0 []
 |a=>a
def cd(sz:Nat):AV→List AV
 |.agg cs=>(views cs).map (uI sz)
 |a=>[a]
def L4(sz n:Nat)(σ:St)(p:IX)(v:IX)(d:Option Nat)(K:St→Prop)(a:AV):Prop:=cU a=true∧(cd sz a).length=n∧OG d K (Jr (σ.drain v) (σ.x p) p (cd sz a))
def S4(sz n:Nat)(σ:St)(d:Option Nat)(K:St→Prop)(a:AV):Prop:=cU a=true∧(cellsOf a).length=n∧∀b,σ.s b=none→K ({σ with s:=σ.s.set b (.cells ((views (cellsOf a)).map (uI sz)))}.put d (.ref b 0))
def we(sz n:Nat)(σ:St)(d:Option Nat)(K:St→Prop):Option (List AV)→Prop
 |some cs=>cs.length=n*sz∧∀b,σ.s b=none→K ({σ with s:=σ.s.set b (.cells (views cs))}.put d (.arr b 0 n n))
 |none=>False
def ja(m sz off:Nat):Option SO→Option (Nat×List AV)
 |some (.cells cs)=>bif decide (off+m*sz≤cs.length)then some (m,views (sub cs off (m*sz)))else none
 |_=>none
def s5(s:ab)(sz:Nat):AV→Option (Nat×List AV)
 |.sl _ s' m ds=>bif s'==sz then some (m,views ds)else bif m==0 then some (0,[])else none
 |.str l=>bif sz==1 then some (l.length,l.map fun c=>.int .u8 c.toNat)else none
 |.arr b off m _=>bif m==0 then some (0,[])else ja m sz off (s b)
 |_=>none
def nO(s:ab)(sz b off n:Nat):Option (List AV):=bif n==0 then some []else(ja n sz off (s b)).map Prod.snd
def B4(sz b off cap:Nat):Option SO→Prop
 |some (.cells cs)=>off+cap*sz≤cs.length
 |_=>False
def setRow(s:ab)(b off:Nat)(news:List AV):Option SO→ab
 |some (.cells cs)=>s.set b (.cells (setAt cs off news))
 |_=>s
def Rn(sz bytes:Nat)(zero:List AV)(σ:St)(d:Option Nat)(K:St→Prop)(b off n cap m:Nat)(ds:List AV):Option (List AV)→Prop
 |some olds=>zero.length=sz∧(n+m≤cap→(m=0∧K (σ.put d (.arr b off n cap)))∨(B4 sz b off cap (σ.s b)∧K ({σ with s:=setRow σ.s b (off+n*sz) ds (σ.s b)}.put d (.arr b off (n+m) cap))))∧
   (cap<n+m→(n+m)*bytes≤room∧∀b' cap',σ.s b'=none→n+m≤cap'→K ({σ with s:=σ.s.set b' (.cells (olds++ds++(List.replicate (cap' -(n+m)) zero).flatten))}.put d (.arr b' 0 (n+m) cap')))
 |none=>False
def dX(sz bytes:Nat)(zero:List AV)(σ:St)(d:Option Nat)(K:St→Prop):AV→Option (Nat×List AV)→Prop
 |.arr b off n cap,some (m,ds)=>Rn sz bytes zero σ d K b off n cap m ds (nO σ.s sz b off n)
 |_,_=>False
def th(sz bytes:Nat)(zero:List AV)(σ:St)(d:Option Nat)(K:St→Prop):AV→AV→Prop
 |.arr b off n cap,.int .i64 c=>0≤c∧cap<n+c.toNat∧views zero=zero∧Rn sz bytes zero σ d K b off n cap c.toNat (List.replicate c.toNat zero).flatten (nO σ.s sz b off n)
 |_,_=>False
def yD(sz:Nat)(σ:St)(d:Option Nat)(K:St→Prop):AV→Option (Nat×List AV)→Prop
 |.arr b off n _,some (m,ds)=>(min m n=0∧K (σ.put d (.int .i64 0)))∨(B4 sz b off n (σ.s b)∧K ({σ with s:=setRow σ.s b off (ds.take (min m n*sz)) (σ.s b)}.put d (.int .i64 (min m n:Nat))))
 |_,_=>False
def wh(zero:List AV)(σ:St)(d:Option Nat)(K:St→Prop):AV→Prop
 |.arr b off n _=>(n=0∧K (σ.put d (.fE [])))∨(B4 zero.length b off n (σ.s b)∧views zero=zero∧K ({σ with s:=setRow σ.s b off (List.replicate n zero).flatten (σ.s b)}.put d (.fE [])))
 |_=>False
def MC(P:Program)(f:FuncId):Prop:=∀(w:World)(a b:Nat)(oa la ca ob lb cb:Nat)(ta tb:TypeId)(x y:Array Value)(fa:Nat×Nat),a≠b→w.heap[a]? =some (.cells x ta fa)→x.size≠0→w.heap[b]? =some (.cells y tb (0,0))→y.size≠0→
 ∃w',(callFunc f #[.slice (some ⟨a,oa,none⟩) la ca,.slice (some ⟨b,ob,none⟩) lb cb]).run P w=.ok (.value (.bool false)) w'∧w'.heap=w.heap∧w'.os=w.os∧w'.tape=w.tape∧w'.output=w.output∧w.drawn≤w'.drawn
def cellsIn:Option SO→Prop
 |some (.cells (_::_))=>True
 |_=>False
def T4(P:Program)(f:FuncId)(σ:St)(d:Option Nat)(K:St→Prop):AV→AV→Prop
 |.sl _ _ (_+1) (_::_),.arr b' _ _ (_+1)=>MC P f∧cellsIn (σ.s b')∧K (σ.put d (.bool false))
 |_,_=>False
def Df(sz:Nat)(own:Bool)(σ:St)(d:Option Nat)(K:St→Prop):AV→Prop
 |.arr b off n cap=>(cap=0∧n=0∧off=0∧K (σ.put d (.sl own sz 0 [])))∨(0<cap∧n≤cap∧(own=true→off=0∧B4 sz b off cap (σ.s b)∧sizeV (off+cap*sz) (σ.s b))∧frzK sz own σ d K b n (ja n sz off (σ.s b)))
 |_=>False
where
 sizeV (k:Nat):Option SO→Prop
  |some (.cells cs)=>cs.length=k
  |_=>False
 frzK (sz:Nat) (own:Bool) (σ:St) (d:Option Nat) (K:St→Prop) (b n:Nat):Option (Nat×List AV)→Prop
  |some (_,cs)=>K ({σ with s:=σ.s.del b}.put d (.sl own sz n cs))
  |none=>False
def Lr(sz:Nat)(own:Bool)(σ:St)(d:Option Nat)(K:St→Prop):Option (List AV)→Prop
 |some [a]=>cU a=true∧Df sz own σ d K a
 |_=>False
def qR(off:Nat)(cs:List AV)(k:List AV→AV→Prop):Prop:=match cs[off]? with
 |some (.sl o sz n ds)=>k (setAt cs off [.sl false sz n ds]) (.sl o sz n ds)
 |some (.bb t n ds)=>k (setAt cs off [.sl false 1 n ds]) (.bb t n ds)
 |_=>False
def oZ(off:Nat)(cs:List AV)(k:List AV→AV→Prop):Prop:=match cs[off]? with
 |some (.sl o sz n ds)=>k (setAt cs off [.sl false sz n ds]) (.sl o sz n ds)
 |_=>False
def nK(σ:St)(d:Option Nat)(K:St→Prop):AV→Prop
 |.ref b off=>match σ.s b with
  |some (.cells cs)=>qR off cs fun cs' a=>K ({σ with s:=σ.s.set b (.cells cs')}.put d a)
  |_=>False
 |.lp i off=>match look σ.e i with
  |.loc cs=>d≠some i∧oZ off cs fun cs' a=>K ((σ.put (some i) (.loc cs')).put d a)
  |_=>False
 |_=>False
def Fa(j:IX)(off:Nat)(a:AV):Bool:=match j,a with
 |.t i,.lp i' o=>i'==i&&o==off
 |_,_=>false
def RM(ne:Bool)(σ:St)(d:Option Nat)(K:St→Prop):AV→Prop
 |.sl _ _ n _=>∀v:Bool,(v=!ne→n=0)→K (σ.put d (.bool v))
 |.arr _ _ _ cap=>∀v:Bool,(v=!ne→cap=0)→K (σ.put d (.bool v))
 |_=>False
def Ti(d:Option Nat)(K:St→Prop)(σ:St)(b off:Nat):Option SO→Prop
 |some (.cells cs)=>off<cs.length∧K (σ.put d (.ref b off))
 |_=>False
def QG(σ:St)(d:Option Nat)(K:St→Prop):AV→Prop
 |.ref b off=>Ti d K σ b off (σ.s b)
 |_=>False
def acT(t cells off u:Nat):Bool:=liesAt P P.depth t (cells/P.cellsOf t) off u 1
def Th(u:Nat)(d:Option Nat)(K:St→Prop)(σ:St)(b off:Nat):Option SO→Prop
 |some (.cells cs)=>∃t,cs[off]? =some (.oe t)∧acT P t cs.length off u=true∧K (σ.put d (.ref b off))
 |_=>False
def QF(u:Nat)(σ:St)(d:Option Nat)(K:St→Prop):AV→Prop
 |.ref b off=>Th P u d K σ b off (σ.s b)
 |_=>False
def afx(f:Nat):Prop:=∀(x:Value)(w:World),(callFunc f #[x]).run P w=.ok (.value x) w
def OQ(f:Nat)(σ:St)(d:Option Nat)(K:St→Prop)(a:AV):Prop:=cU a=true∧afx P f∧K (σ.put d (view a))
def S5(n t j u:Nat)(σ:St)(d:Option Nat)(K:St→Prop)(a:AV):Prop:=cU a=true∧(cellsOf a).length=n∧(cellsOf a)[j]? =some .dq∧(cellsOf a)[j+1]? =some (.bb u 0 [])∧∀b,σ.s b=none→K ({σ with s:=σ.s.set b (.cells (setAt (views (cellsOf a)) j [.oe t,.bb u 0 []]))}.put d (.ref b 0))
def tg(t:Nat)(σ:St)(x:IX)(d:Option Nat)(K:St→Prop):AV→AV→Prop
 |.bb t' n cs,.sl _ s' m ds=>t=t'∧(s'=1∨m=0)∧(n+m)*1≤room∧K ((σ.drain x).put d (.bb t (n+m) (cs++views ds)))
 |.bb t' n cs,.str ds=>t=t'∧(n+ds.length)*1≤room∧K ((σ.drain x).put d (.bb t (n+ds.length) (cs++ds.map fun c=>.int .u8 c.toNat)))
 |_,_=>False
def gM(o:sT)(d:Option Nat)(σ:St)(K:St→Prop):Prop:=
 match o with
 |.iR _ x=>TX σ x d K (σ.x x)
 |.aq zero=>ki σ.lp d=true∧K (σ.put d (.loc zero))
 |.fJ zero=>∀b,σ.s b=none→K ({σ with s:=σ.s.set b (.cells zero)}.put d (.ref b 0))
 |.cW n x=>ki σ.lp d=true∧W6 n σ d K (σ.x x)
 |.mP n x=>W7 n σ d K (xg true σ x)
 |.aY sz n zero parts=>zz sz n σ d K (fill (xg true σ) zero parts)
 |.store n p v=>L5 n σ p v d K (σ.x v)
 |.append sz bytes x y=>jZ sz bytes σ x d K (σ.x x) (σ.x y)
 |.eF x=>D3 σ d K (xg true σ x)
 |.fK x=>pO σ d K (xg true σ x)
 |.js _ bytes zero l c=>Ao bytes zero σ d K (xg true σ l) (xg true σ c)
 |.BK sz bytes c=>Ea sz bytes σ d K (xg true σ c)
 |.makeMap=>∀b,σ.s b=none→K ({σ with s:=σ.s.set b (.map [])}.put d (.mp b))
 |.call f args=>tu P f σ d K (bJ (xg true σ) args)
 |.b6 x args=>yz P σ (bJ (xg true σ) args) d K (xg true σ x)
 |.lookup kk zero ok x k=>P4 σ d K (gX kk zero ok σ.s (xg true σ k) (xg true σ x))
 |.jg x=>P4 σ d K (DL (xg true σ x))
 |.ql x=>P4 σ d K (Ce (xg true σ x))
 |.mapUpdate kk x k v=>wx kk σ (xg true σ k) (xg true σ v) d K (xg true σ x)
 |.iQ sz n zero parts=>we sz n σ d K (fill (xg true σ) zero parts)
 |.ee sz bytes zero x y=>dX sz bytes zero σ d K (σ.x x) (s5 σ.s sz (σ.x y))
 |.j4 sz bytes zero x y=>th sz bytes zero σ d K (σ.x x) (xg true σ y)
 |.fV sz x y=>yD sz σ d K (σ.x x) (s5 σ.s sz (σ.x y))
 |.kZ zero x=>wh zero σ d K (σ.x x)
 |.RP sz own x=>Df sz own σ d K (σ.x x)
 |.xJ sz own x=>Lr sz own σ d K (rd σ (xg true σ x) 1)
 |.gW x=>nK σ d K (σ.x x)
 |.mA off j x=>Fa j off (σ.x x)=true∧nK σ d K (σ.x x)
 |.U2 ne x=>RM ne σ d K (σ.x x)
 |.SJ f x y=>T4 P f σ d K (σ.x x) (σ.x y)
 |.pD sz n p v=>L4 sz n σ p v d K (σ.x v)
 |.Er sz n x=>S4 sz n σ d K (σ.x x)
 |.KC n t j u x=>S5 n t j u σ d K (σ.x x)
 |.vZ t x y=>tg t σ x d K (σ.x x) (σ.x y)
 |.Rz x=>QG σ d K (σ.x x)
 |.Jx f x=>OQ P f σ d K (σ.x x)
 |.Ry u x=>QF P u σ d K (σ.x x)
 |.tq f i args=>UJ i σ (fun τ=>tu P f τ d K (bJ (xg true τ) args)) (look σ.e i)
 |_=>False
def bB(σ:St):AV→Option Nat→St
 |.lp t _,some i=>{σ with lp:=(i,t)::σ.lp}
 |.when _ a,d=>bB σ a d
 |_,_=>σ
def U5(o:sT)(σ:St)(d:Option Nat)(K:St→Prop):PR→Prop
 |.cY a=>K ((bB σ a d).put d a)
 |.prt c a=>c∧K ((bB σ a d).put d a)
 |.no=>gM P o d σ K
def owp(o:sT)(d:Option Nat)(σ:St)(K:St→Prop):Prop:=U5 P o σ d K (pv o (xg true σ) σ)
def SI(g:Bool)(o:sT)(σ:St)(d:Option Nat)(K:St→Prop):PR→Prop
 |.cY a=>K ((bB σ a d).put d (.when g a))
 |.prt c a=>(g=true→c)∧K ((bB σ a d).put d (.when g a))
 |.no=>(g=true→owp P o d σ K)∧(g=false→K (σ.put d (.fE [])))
def Bk(o:sT)(d:Option Nat)(t:Nat)(want:Bool)(σ:St)(K:St→Prop):AV→Prop
 |.bool b=>SI P (b==want) o σ d K (pv o (xg (b==want) σ) σ)
 |.when b' (.bool b)=>SI P (b'&&(b==want)) o σ d K (pv o (xg (b'&&(b==want)) σ) σ)
 |.fE []=>K (σ.put d (.fE []))
 |_=>False
def OD(o:ah)(σ:St)(K:St→Prop):Prop:=
 match o.g with
 |none=>owp P o.op o.dst σ K
 |some (t,want)=>Bk P o.op o.dst t want σ K (look σ.e t)
def swp:List ah→St→(St→Prop)→Prop
 |[],σ,K=>K σ
 |o::r,σ,K=>OD P o σ (fun τ=>swp r τ K)
def adY(r:List ah)(K:St→Prop)(τ:St):Prop:=swp P r τ K
def aW:AV→Bool
 |.loc _=>false
 |_=>true
def OA(g:Bool):PR→PR
 |.cY a=>.cY (.when g a)
 |.prt c a=>.prt (g=true→c) (.when g a)
 |.no=>.no
def Z8:sT→Bool
 |.aU _ _ _=>true
 |_=>false
def SL(r g:Bool):PR→PR
 |.cY a=>.cY (.when g a)
 |.prt c a=>.prt (g=true→c) (.when g a)
 |.no=>bif r then .prt (g=false) (.when g .undef)else .no
def N8(o:sT)(want:Bool)(σ:St):AV→PR
 |.bool b=>SL (Z8 o) (b==want) (pv o (xg (b==want) σ) σ)
 |.when g (.bool b)=>SL (Z8 o) (g&&(b==want)) (pv o (xg (g&&(b==want)) σ) σ)
 |_=>.no
def qv(o:ah)(σ:St):PR:=match o.g with
 |none=>pv o.op (xg true σ) σ
 |some (t,want)=>N8 o.op want σ (look σ.e t)
def qK(σ:St)(d:Option Nat)(K:St→Prop):PR→Prop
 |.cY a=>aW a=true∧K ((bB σ a d).put d a)
 |.prt c a=>c∧aW a=true∧K ((bB σ a d).put d a)
 |.no=>False
def Q3(f:Nat)(σ:St)(d:Option Nat)(K:St→Prop):Option (List AV)→Prop
 |some as=>∃rs,iO rs=true∧FE P f as σ.s rs σ.s∧K (σ.put d (eC rs))
 |none=>False
def Wm(f:Nat)(first caps:List AV)(σ:St)(d:Option Nat)(K:St→Prop):Option (List AV)→Prop
 |some as=>ny P f=true∧∃rs,iO rs=true∧FE P f (first++as++caps) σ.s rs σ.s∧K (σ.put d (eC rs))
 |none=>False
def Z5(σ:St)(args:Option (List AV))(d:Option Nat)(K:St→Prop):AV→Prop
 |.fn f first caps=>Wm P f first caps σ d K args
 |_=>False
def callee(x:IX)(args:List IX)(g:Bool)(σ:St)(f:Nat)(as:List AV):Prop:=∃first caps xs,xg g σ x=.fn f first caps∧bJ (xg g σ) args=some xs∧as=first++xs++caps
def Ed(x:IX)(args:List IX)(want:Bool)(σ:St)(d:Option Nat)(K:St→Prop):AV→Prop
 |.bool b=>∃rs,iO rs=true∧((b==want)=true→∃f as,callee x args (b==want) σ f as∧ny P f=true∧FE P f as σ.s rs σ.s)∧K (σ.put d (.when (b==want) (eC rs)))
 |.when g (.bool b)=>∃rs,iO rs=true∧((g&&(b==want))=true→∃f as,callee x args (g&&(b==want)) σ f as∧ny P f=true∧FE P f as σ.s rs σ.s)∧K (σ.put d (.when (g&&(b==want)) (eC rs)))
 |_=>False
def Ga(f:Nat)(args:List IX)(want:Bool)(σ:St)(d:Option Nat)(K:St→Prop):AV→Prop
 |.bool b=>∃rs,iO rs=true∧((b==want)=true→∃as,bJ (xg (b==want) σ) args=some as∧FE P f as σ.s rs σ.s)∧K (σ.put d (.when (b==want) (eC rs)))
 |.when g (.bool b)=>∃rs,iO rs=true∧((g&&(b==want))=true→∃as,bJ (xg (g&&(b==want)) σ) args=some as∧FE P f as σ.s rs σ.s)∧K (σ.put d (.when (g&&(b==want)) (eC rs)))
 |_=>False
def afU(σ:St)(d:Option Nat)(K:St→Prop):AV→Prop
 |.sl _ sz _ cs=>sz=1∧∃s:List UInt8,cs=(s.map fun c=>.int .u8 c.toNat)∧K (σ.put d (.str s))
 |_=>False
def wg:AV→PR
 |.str s=>.cY (.sl (VV s) 1 s.length (s.map fun c=>.int .u8 c.toNat))
 |_=>.no
def GI(sz n:Nat):Option (List AV)→PR
 |some cs=>.prt (cs.length=n*sz) (.sl true sz n cs)
 |none=>.no
def qe(f:IX→AV)(s:ab):sT→PR
 |.fK x=>wg (f x)
 |.aY sz n zero parts=>GI sz n (fill f zero parts)
 |.lookup kk zero ok x k=>gX kk zero ok s (f k) (f x)
 |.jg x=>DL (f x)
 |.ql x=>Ce (f x)
 |_=>.no
def OF(o:sT)(want:Bool)(σ:St):AV→PR
 |.bool b=>OA (b==want) (qe (xg (b==want) σ) σ.s o)
 |.when g (.bool b)=>OA (g&&(b==want)) (qe (xg (g&&(b==want)) σ) σ.s o)
 |_=>.no
def CS(o:ah)(σ:St):PR:=match o.g with
 |none=>qe (xg true σ) σ.s o.op
 |some (t,want)=>OF o.op want σ (look σ.e t)
def q1(o:ah)(σ:St)(K:St→Prop):Prop:=
 match o with
 |⟨d,.call f args,none⟩=>Q3 P f σ d K (bJ (xg true σ) args)
 |⟨d,.iR true x,none⟩=>TX σ x d K (σ.x x)
 |⟨d,.call f args,some (t,want)⟩=>Ga P f args want σ d K (look σ.e t)
 |⟨d,.b6 x args,none⟩=>Z5 P σ (bJ (xg true σ) args) d K (xg true σ x)
 |⟨d,.b6 x args,some (t,want)⟩=>Ed P x args want σ d K (look σ.e t)
 |⟨d,.fK x,g⟩=>qK σ d K (CS ⟨d,.fK x,g⟩ σ)
 |⟨d,.aY sz n zero parts,g⟩=>qK σ d K (CS ⟨d,.aY sz n zero parts,g⟩ σ)
 |⟨d,.lookup kk zero ok x k,g⟩=>qK σ d K (CS ⟨d,.lookup kk zero ok x k,g⟩ σ)
 |⟨d,.jg x,g⟩=>qK σ d K (CS ⟨d,.jg x,g⟩ σ)
 |⟨d,.ql x,g⟩=>qK σ d K (CS ⟨d,.ql x,g⟩ σ)
 |o=>qK σ o.dst K (qv o σ)
def aO(σ:St):Option Nat→Bool
 |some d=>aW (look σ.e d)
 |none=>true
def U9:Nat→List ah→St→(St→Prop)→Prop
 |0,l,σ,K=>swp P l σ K
 |_+1,[],σ,K=>K σ
 |q+1,o::r,σ,K=>aO σ o.dst=true∧q1 P o σ (fun τ=>U9 q r τ K)
def adE(q:Nat)(r:List ah)(K:St→Prop)(τ:St):Prop:=U9 P q r τ K
def mC(c:Nat):AV→Bool
 |.lp t _=>!Nat.beq t c
 |.when _ v=>mC c v
 |_=>true
def rv:List Nat→AV→Bool
 |[],_=>true
 |c::T,a=>mC c a&&rv T a
def fO(T:List Nat):List (Nat×AV)→Bool
 |[]=>true
 |p::e=>rv T p.2&&fO T e
def Um(n:Nat)(σ:St)(c:Nat)(x:IX)(K:St→Prop):AV→Prop
 |.loc dQ=>dQ.length=n∧cU (σ.x x)=true∧(aR (σ.x x)).length=n∧K ((σ.drain x).put (some c) (.loc (aR (σ.x x))))
 |_=>False
def q2(o:ah)(σ:St)(K:St→Prop):Prop:=
 match o with
 |⟨none,.store n (.t c) x,none⟩=>Um n σ c x K (look σ.e c)
 |⟨some d,.aq z,none⟩=>aW (look σ.e d)=true∧ki σ.lp (some d)=true∧K (σ.put (some d) (.loc z))
 |⟨some d,.append sz bytes x y,none⟩=>aW (look σ.e d)=true∧jZ sz bytes σ x (some d) K (σ.x x) (σ.x y)
 |⟨some d,.mA off (.t i) x,none⟩=>aW (look σ.e d)=true∧Fa (.t i) off (σ.x x)=true∧nK σ (some d) K (σ.x x)
 |⟨_,.store _ _ _,_⟩=>False
 |⟨_,.aq _,_⟩=>False
 |⟨_,.append _ _ _ _,_⟩=>False
 |⟨_,.mA _ _ _,_⟩=>False
 |o=>aO σ o.dst=true∧q1 P o σ K
def Gc(T:List Nat):Nat→List ah→St→(St→Prop)→Prop
 |0,l,σ,K=>swp P l σ K
 |_+1,[],σ,K=>K σ
 |q+1,o::r,σ,K=>q2 P o σ (fun τ=>fO T τ.e=true∧Gc T q r τ K)
def X9(T:List Nat)(q:Nat)(r:List ah)(K:St→Prop)(τ:St):Prop:=fO T τ.e=true∧Gc P T q r τ K
def lX:AV→Bool
 |.ref _ _=>false
 |.when _ a=>lX a
 |_=>true
def mc(o:ah)(σ:St):Bool:=match o.op with
 |.load _ _ x=>lX (σ.x x)
 |.aU _ _ _=>false
 |.kL _ _=>false
 |.lookup _ _ _ _ _=>false
 |.call _ _=>false
 |.b6 _ _=>false
 |.len c _=>!Nat.beq c 2
 |_=>true
def A9(f:Nat)(s:ab)(C:AV→ab→Prop):Option (List AV)→Prop
 |some args=>FN P f args s (fun rs s'=>iO rs=true∧C (eC rs) s')
 |none=>False
def MI(f:Nat)(first caps:List AV)(s:ab)(C:AV→ab→Prop):Option (List AV)→Prop
 |some args=>ny P f=true∧FN P f (first++args++caps) s (fun rs s'=>iO rs=true∧C (eC rs) s')
 |none=>False
def wc(args:Option (List AV))(s:ab)(C:AV→ab→Prop):AV→Prop
 |.fn f first caps=>MI P f first caps s C args
 |_=>False
def Es(bytes:Nat)(zero:List AV)(s:ab)(C:AV→ab→Prop):AV→AV→Prop
 |.int _ l,.int _ c=>0≤l∧l≤c∧c*bytes≤room∧∀b,s b=none→C (.arr b 0 l.toNat c.toNat) (s.set b (.cells ((List.replicate c.toNat zero).flatten)))
 |_,_=>False
def ab8(n:Nat)(s:ab)(C:AV→ab→Prop)(a:AV):Prop:=cU a=true∧(cellsOf a).length=n∧∀b,s b=none→C (.ref b 0) (s.set b (.cells (views (cellsOf a))))
def MK(b off:Nat)(news:List AV)(s:ab)(C:AV→ab→Prop):Option SO→Prop
 |some (.cells dQ)=>off+news.length≤dQ.length∧C (.fE []) (s.set b (.cells (setAt dQ off news)))
 |_=>False
def NT:AV→Bool
 |.sl true _ _ _=>false
 |.bb _ _ _=>false
 |_=>true
def og(n:Nat)(s:ab)(C:AV→ab→Prop)(v:AV):AV→Prop
 |.ref b off=>cU v=true∧NT v=true∧(aR v).length=n∧MK b off (aR v) s C (s b)
 |_=>False
def OO(kk:jQ)(b:Nat)(s:ab)(k v:AV)(C:AV→ab→Prop):Option SO→Prop
 |some (.map es)=>(cU v=true∧eh kk k=true∧jq kk es=true)∧C (.fE []) (s.set b (.map (uQ (view k) (view v) es)))
 |_=>False
def Jv(kk:jQ)(s:ab)(k v:AV)(C:AV→ab→Prop):AV→Prop
 |.mp b=>OO kk b s k v C (s b)
 |_=>False
def zw(b off:Nat)(s:ab)(C:AV→ab→Prop):Option SO→Prop
 |some (.cells cs)=>qR off cs fun cs' a=>C a (s.set b (.cells cs'))
 |_=>False
def tk(s:ab)(C:AV→ab→Prop):AV→Prop
 |.ref b off=>zw b off s C (s b)
 |_=>False
def zx(o:sT)(σ:St)(C:AV→ab→Prop):Prop:=match o with
 |.call f args=>A9 P f σ.s C (bJ (xg true σ) args)
 |.b6 x args=>wc P (bJ (xg true σ) args) σ.s C (xg true σ x)
 |.js _ bytes zero l c=>Es bytes zero σ.s C (xg true σ l) (xg true σ c)
 |.makeMap=>∀b,σ.s b=none→C (.mp b) (σ.s.set b (.map []))
 |.fJ zero=>∀b,σ.s b=none→C (.ref b 0) (σ.s.set b (.cells zero))
 |.mP n x=>ab8 n σ.s C (xg true σ x)
 |.store n p v=>og n σ.s C (σ.x v) (σ.x p)
 |.mapUpdate kk x k v=>Jv kk σ.s (xg true σ k) (xg true σ v) C (xg true σ x)
 |.gW x=>tk σ.s C (σ.x x)
 |_=>False
def SV(σ:St)(d:Option Nat)(K:St→Prop)(a:AV)(s':ab):Prop:=K ({σ with s:=s'}.put d a)
def U0(o:ah)(σ:St)(K:St→Prop):Prop:=match o.g with
 |none=>aO σ o.dst=true∧zx P o.op σ (SV σ o.dst K)
 |some _=>False
def Jw(T:List Nat):List (Nat×Nat×ah)→St→(St→Prop)→Prop
 |[],σ,K=>K σ
 |(0,_,o)::r,σ,K=>q2 P o σ (fun τ=>fO T τ.e=true∧Jw T r τ K)
 |(1,_,o)::r,σ,K=>mc o σ=true∧q2 P o σ (fun τ=>fO T τ.e=true∧Jw T r τ K)
 |(2,_,o)::r,σ,K=>U0 P o σ (fun τ=>fO T τ.e=true∧Jw T r τ K)
 |(_+3,_,o)::r,σ,K=>OD P o σ (fun τ=>fO T τ.e=true∧Jw T r τ K)
def S6(T:List Nat)(r:List (Nat×Nat×ah))(K:St→Prop)(τ:St):Prop:=fO T τ.e=true∧Jw P T r τ K
def A0:List Bool→List Bool→Bool
 |d::r,x::s=>(!d||x)&&A0 r s
 |_,_=>true
def Cn:List Bool→List Bool→List Bool
 |[],s=>s
 |x::p,s=>Cn p (x::s)
def Qo(done:List Bool):List (List Bool)→List Bool→List Bool→List ah→(ah→List Bool→Prop)→Prop
 |row::rows,pre,x::xs,o::r,F=>(bif !x&&A0 row done then F o (Cn pre (true::xs))else True)∧Qo done rows (x::pre) xs r F
 |_,_,_,_,_=>True
def vU:List ah→List Bool
 |[]=>[]
 |_::r=>false::vU r
def SF(deps:List (List Bool))(ops:List ah)(K:St→Prop):List ah→List Bool→St→Prop
 |[],_,σ=>K σ
 |_::f,done,σ=>Qo done deps [] done ops (fun o d=>OD P o σ (fun τ=>SF deps ops K f d τ))
def aeh(deps:List (List Bool))(ops:List ah)(K:St→Prop)(f:List ah)(done:List Bool)(τ:St):Prop:=SF P deps ops K f done τ
def uS(live:List Nat)(Q:Exit→St→Prop)(τ:St):Prop:=Q .normal (τ.yW live)
def Rs(id:Nat)(Q:Exit→St→Prop):Exit→St→Prop
 |.exit i,τ=>bif i==id then Q .normal τ else Q (.exit i) τ
 |x,τ=>Q x τ
def J4(live:List (Nat×Bool))(I:St→Prop)(μ:St→Nat)(m:Nat)(Q:Exit→St→Prop):Exit→St→Prop
 |.normal,ρ=>I (ρ.dN live)∧μ (ρ.dN live)<m
 |x,ρ=>Q x ρ
def xI(live:List (Nat×Bool))(J:St→Prop)(Q:Exit→St→Prop):Exit→St→Prop
 |.normal,ρ=>J (ρ.dN live)
 |x,ρ=>Q x ρ
def Oj(live:List (Nat×Bool))(I:St→Prop)(Q:Exit→St→Prop):Exit→St→Prop
 |.normal,ρ=>I (ρ.dN live)
 |.goto _,_=>False
 |x,ρ=>Q x ρ
def RX(l:Nat)(live:List (Nat×Bool))(I:St→Prop)(Q:Exit→St→Prop):Exit→St→Prop
 |.goto l',ρ=>l'=l∧I (ρ.dN live)
 |x,ρ=>Q x ρ
def gK:IC→(Exit→St→Prop)→St→Prop
 |.skip,Q,σ=>Q .normal σ
 |.bD q ops live,Q,σ=>match q with
  |none=>swp P ops σ (uS live Q)
  |some q=>U9 P q ops σ (uS live Q)
 |.wY T q ops live,Q,σ=>fO T σ.e=true∧Gc P T q ops σ (uS live Q)
 |.IP T l live,Q,σ=>fO T σ.e=true∧Jw P T l σ (uS live Q)
 |.Sl deps ops live,Q,σ=>SF P deps ops (uS live Q) ops (vU ops) σ
 |.seq a b,Q,σ=>gK a (fun x τ=>match x with|.normal=>gK b Q τ|x=>Q x τ) σ
 |.cond c a b,Q,σ=>match σ.x c with
  |.bool v=>(v=true→gK a Q σ)∧(v=false→gK b Q σ)
  |_=>False
 |.block id b,Q,σ=>gK b (Rs id Q) σ
 |.loop live b,Q,σ=>∃(I:St→Prop)(μ:St→Nat),I (σ.dN live)∧∀τ,I τ→gK b (J4 live I μ (μ τ) Q) τ
 |.join live a b,Q,σ=>∃J:St→Prop,gK a (xI live J Q) σ∧∀τ,J τ→gK b Q τ
 |.exit id,Q,σ=>Q (.exit id) σ
 |.scope b,Q,σ=>gK b (fun x τ=>match x with|.goto _=>False|x=>Q x τ) σ
 |.B8 l live a1 a2 a3 r,Q,σ=>
  let K:=Oj live (fun ρ=>∃(I:St→Prop)(μ:St→Nat),I ρ∧∀τ,I τ→gK r (RX l live (fun ρ'=>I ρ'∧μ ρ'<μ τ) Q) τ) Q
  gK a1 (fun x τ=>match x with|.normal=>gK a2 (fun x τ=>match x with|.normal=>gK a3 K τ|x=>K x τ) τ|x=>K x τ) σ
 |.label _,Q,σ=>Q .normal σ
 |.goto l,Q,σ=>Q (.goto l) σ
 |.ret,Q,σ=>Q .ret σ
 |.dead,_,_=>False
def XI(l:Nat)(live:List (Nat×Bool))(r:IC)(Q:Exit→St→Prop)(ρ:St):Prop:=∃(I:St→Prop)(μ:St→Nat),I ρ∧∀τ,I τ→gK P r (RX l live (fun ρ'=>I ρ'∧μ ρ'<μ τ) Q) τ
def DQ(b:IC)(Q:Exit→St→Prop):Exit→St→Prop
 |.normal,τ=>gK P b Q τ
 |x,τ=>Q x τ
def zg(Q:Exit→St→Prop):Exit→St→Prop
 |.goto _,_=>False
 |x,τ=>Q x τ
def QE(a b:IC)(Q:Exit→St→Prop)(σ:St):AV→Prop
 |.bool v=>(v=true→gK P a Q σ)∧(v=false→gK P b Q σ)
 |_=>False
end
end Go.AB
end
