/- A part of the proof: Ab1, Ab2. -/
import Derived.Orders
import Derived.Laws.Sem
set_option linter.unusedSimpArgs false
set_option linter.unusedVariables false
section
namespace Go.AB
open Go
inductive AV where
 |undef
 |bool (b:Bool)
 |int (k:IntKind) (n:Int)
 |str (s:List UInt8)
 |dG
 |ref (b off:Nat)
 |lp (d off:Nat)
 |sp (cs:List AV)
 |loc (cs:List AV)
 |sl (own:Bool) (sz n:Nat) (cs:List AV)
 |arr (b off len cap:Nat)
 |agg (cs:List AV)
 |gu (vs:List AV)
 |fn (f:Nat) (first caps:List AV)
 |nj
 |mp (b:Nat)
 |sq
 |when (b:Bool) (a:AV)
 |us (sz n:Nat) (cs:List AV)
 |one
 |l1 (t:Nat)
 |jX
 |bb (t n:Nat) (cs:List AV)
 deriving Inhabited
inductive SO where
 |cells (cs:List AV)
 |map (es:List (AV×AV))
 deriving Inhabited
abbrev ab:=Nat→Option SO
def ab.set(s:ab)(b:Nat)(o:SO):ab:=fun i=>if i=b then some o else s i
def ab.del(s:ab)(b:Nat):ab:=fun i=>if i=b then none else s i
inductive ly where
 |int (k:IntKind)
 |str
 |bool
 |bytes (n:Nat)
 deriving Inhabited
inductive IX where
 |t (i:Nat)
 |c (a:AV)
 deriving Inhabited
inductive rh where
 |iT (tr:Bool) (x:IX)
 |pick (c x y:IX)
 |aQ (zero:List AV)
 |gV (zero:List AV)
 |lZ (n:Nat) (x:IX)
 |qU (n:Nat) (x:IX)
 |build (zero:List AV) (parts:List (Nat×Nat×IX))
 |b5 (sz len:Nat) (zero:List AV) (parts:List (Nat×Nat×IX))
 |load (n:Nat) (multi:Bool) (x:IX)
 |store (n:Nat) (p v:IX)
 |nilCheck (x:IX)
 |bin (op:BinOp) (x y:IX)
 |QO (ne:Bool) (x y:IX)
 |F4 (ne:Bool) (x y:IX)
 |OS (ne:Bool) (x y:IX)
 |un (op:UnOp) (x:IX)
 |dN (k:IntKind) (x:IX)
 |fA (x:IX)
 |hE (x:IX)
 |AQ (x:IX)
 |field (n:Nat) (multi:Bool) (off:Nat) (x:IX)
 |index (n:Nat) (multi:Bool) (len:Nat) (x i:IX)
 |dJ (x i:IX)
 |fieldAddr (off:Nat) (x:IX)
 |indexAddr (zero:List AV) (x i:IX)
 |jh (sz len:Nat) (x i:IX)
 |slice (sz:Nat) (x:IX) (lo hi mx:Option IX)
 |jq (x:IX) (lo hi:Option IX)
 |extract (x:IX) (k:Nat)
 |len (cls:Nat) (x:IX)
 |KD (n:Nat)
 |cap (x:IX)
 |hZ (mx:Bool) (xs:List IX)
 |append (sz bytes:Nat) (x y:IX)
 |gE (sz bytes:Nat) (zero:List AV) (l c:IX)
 |xZ (sz bytes:Nat) (c:IX)
 |makeMap
 |lookup (kk:ly) (zero:AV) (ok:Bool) (x k:IX)
 |mapUpdate (kk:ly) (x k v:IX)
 |bW (zero:List AV) (multi:Bool) (x:IX)
 |ji (x:IX)
 |re (x:IX)
 |call (f:Nat) (args:List IX)
 |eC (x:IX) (args:List IX)
 |lC (f:Nat) (first caps:List IX)
 |jE (sz len:Nat) (zero:List AV) (parts:List (Nat×Nat×IX))
 |gh (sz bytes:Nat) (zero:List AV) (x y:IX)
 |vP (sz:Nat) (x y:IX)
 |pJ (zero:List AV) (x:IX)
 |K7 (sz:Nat) (own:Bool) (x:IX)
 |kZ (x:IX)
 |OR (ne:Bool) (x:IX)
 |UK (f:Nat) (x y:IX)
 |vI (f i:Nat) (args:List IX)
 |R8 (n:Nat) (ne:Bool) (x y:IX)
 |lY (sz bytes:Nat) (zero:List AV) (x y:IX)
 |R9 (ne:Bool) (x:IX)
 |yl (sz n:Nat) (p v:IX)
 |Ey (sz n:Nat) (x:IX)
 |lM (off:Nat) (j x:IX)
 |lN (k:IntKind) (x:IX)
 |Ol (ne:Bool) (x:IX)
 |ug (sz:Nat) (own:Bool) (x:IX)
 |EH (x:IX)
 |vJ (f:Nat) (x:IX)
 |EG (u:Nat) (x:IX)
 |Ez (n t j u:Nat) (x:IX)
 |lX (t:Nat) (x y:IX)
 deriving Inhabited
structure aq where
 dst:Option Nat
 op:rh
 g:Option (Nat×Bool)
 deriving Inhabited
inductive IC where
 |skip
 |cU (q:Option Nat) (ops:List aq) (live:List Nat)
 |FJ (T:List Nat) (q:Nat) (ops:List aq) (live:List Nat)
 |FI (T:List Nat) (l:List (Nat×Nat×aq)) (live:List Nat)
 |Lz (deps:List (List Bool)) (ops:List aq) (live:List Nat)
 |seq (a b:IC)
 |cond (c:IX) (a b:IC)
 |block (id:Nat) (b:IC)
 |loop (live:List (Nat×Bool)) (b:IC)
 |join (live:List (Nat×Bool)) (a b:IC)
 |exit (id:Nat)
 |scope (b:IC)
 |vt (l:Nat) (live:List (Nat×Bool)) (a1 a2 a3 r:IC)
 |label (l:Nat)
 |goto (l:Nat)
 |ret
 |dead
 deriving Inhabited
structure St where
 e:List (Nat×AV)
 lp:List (Nat×Nat)
 s:ab
def look:List (Nat×AV)→Nat→AV
 |[],_=>.undef
 |(j,a)::l,i=>bif j==i then a else look l i
def St.x(σ:St):IX→AV
 |.t i=>look σ.e i
 |.c a=>a
def St.put(σ:St)(d:Option Nat)(a:AV):St:=
 match d with
 |some d=>{σ with e:=(d,a)::σ.e}
 |none=>σ
def dI:AV→AV
 |.lp _ _=>.undef
 |.when _ _=>.undef
 |a=>a
def St.vb(σ:St)(live:List Nat):St:={e:=live.map fun i=>(i,dI (look σ.e i)),lp:=[],s:=σ.s}
def view:AV→AV
 |.sl _ sz n cs=>.sl false sz n cs
 |.us _ _ _=>.undef
 |.l1 _=>.dG
 |.bb _ n cs=>.sl false 1 n cs
 |a=>a
def Od(b:Bool)(a:AV):AV:=bif b then view a else a
def St.dS(σ:St)(live:List (Nat×Bool)):St:={e:=live.map fun p=>(p.1,Od p.2 (dI (look σ.e p.1))),lp:=[],s:=σ.s}
def inner:AV→Bool
 |.loc _=>false
 |.when _ _=>false
 |_=>true
def vy(g:Bool):AV→AV
 |.when b a=>bif((b==g)||b)&&inner a then a else .undef
 |a=>a
def II:Int:=9223372036854775807
def c9:AV→Bool
 |.undef=>false
 |.lp _ _=>false
 |.loc _=>false
 |.gu _=>false
 |.when _ _=>false
 |.us _ _ _=>false
 |.l1 _=>false
 |_=>true
def lV(k:IntKind)(n:Int):Int:=k.wrap n
inductive PR where
 |c8 (a:AV)
 |prt (c:Prop) (a:AV)
 |no
def Kb(k k':IntKind):Bool:=decide (k=k')
def kk(k k':IntKind)(r:PR):PR:=bif Kb k k' then r else .no
def y6(op:BinOp)(k k':IntKind)(a b:Int):PR:=
 match op with
 |.shl=>.prt (0≤b) (.int k (lV k (a*2^(min b.toNat k.bits))))
 |.shr=>.prt (0≤b) (.int k (a.fdiv (2^(min b.toNat k.bits))))
 |.add=>kk k k' (.c8 (.int k (lV k (a+b))))
 |.sub=>kk k k' (.c8 (.int k (lV k (a -b))))
 |.mul=>kk k k' (.c8 (.int k (lV k (a*b))))
 |.quo=>kk k k' (.prt (b≠0) (.int k (lV k (a.tdiv b))))
 |.rem=>kk k k' (.prt (b≠0) (.int k (a.tmod b)))
 |.and=>kk k k' (.c8 (.int k (k.wrap (BitVec.ofInt k.bits a&&&BitVec.ofInt k.bits b).toNat)))
 |.or=>kk k k' (.c8 (.int k (k.wrap (BitVec.ofInt k.bits a |||BitVec.ofInt k.bits b).toNat)))
 |.xor=>kk k k' (.c8 (.int k (k.wrap (BitVec.ofInt k.bits a^^^BitVec.ofInt k.bits b).toNat)))
 |.andNot=>kk k k' (.c8 (.int k (k.wrap (BitVec.ofInt k.bits a&&& ~~~BitVec.ofInt k.bits b).toNat)))
 |.eql=>kk k k' (.c8 (.bool (a==b)))
 |.neq=>kk k k' (.c8 (.bool (a !=b)))
 |.lss=>kk k k' (.c8 (.bool (decide (a<b))))
 |.leq=>kk k k' (.c8 (.bool (decide (a≤b))))
 |.gtr=>kk k k' (.c8 (.bool (decide (a>b))))
 |.geq=>kk k k' (.c8 (.bool (decide (a≥b))))
def Gf(op:BinOp)(a b:List UInt8):PR:=
 match op with
 |.add=>.prt (((a.length+b.length:Nat):Int)≤II) (.str (a++b))
 |.eql=>.c8 (.bool (a==b))
 |.neq=>.c8 (.bool (!(a==b)))
 |.lss=>.c8 (.bool (Op.bytesLess a b))
 |.leq=>.c8 (.bool (Op.bytesLess a b||a==b))
 |.gtr=>.c8 (.bool (!(Op.bytesLess a b||a==b)))
 |.geq=>.c8 (.bool (!Op.bytesLess a b))
 |_=>.no
def H8(op:BinOp)(x y:AV):PR:=
 match x,y with
 |.int k a,.int k' b=>y6 op k k' a b
 |.str a,.str b=>Gf op a b
 |_,_=>.no
def IB(ne:Bool)(x y:AV):PR:=
 match x,y with
 |.bool a,.bool b=>.c8 (.bool ((a==b)!=ne))
 |_,_=>.no
def CJ(ne:Bool)(x y:AV):PR:=
 match x,y with
 |.dG,.dG=>.c8 (.bool (!ne))
 |.ref _ _,.dG=>.c8 (.bool ne)
 |.dG,.ref _ _=>.c8 (.bool ne)
 |.ref b o,.ref b' o'=>bif b==b'&&o==o' then .c8 (.bool (!ne))else .no
 |_,_=>.no
def MD(ne:Bool)(x y:AV):PR:=
 match x,y with
 |.sl _ _ (_+1) _,.sl _ _ 0 []=>.c8 (.bool ne)
 |.arr _ _ _ (_+1),.sl _ _ 0 []=>.c8 (.bool ne)
 |_,_=>.no
def jB:List AV→List AV→Bool
 |[],[]=>true
 |.int k _::r,.int k' _::s=>Kb k k'&&jB r s
 |_,_=>false
def rC:List AV→List AV→Bool
 |.int _ a::r,.int _ b::s=>(a==b)&&rC r s
 |_,_=>true
def MC(n:Nat)(ne:Bool)(x y:AV):PR:=
 match x,y with
 |.agg cs,.agg ds=>bif jB cs ds&&cs.length==n then .c8 (.bool (rC cs ds !=ne))else .no
 |_,_=>.no
def GB(ne:Bool):AV→PR
 |.jX=>.c8 (.bool (!ne))
 |_=>.no
def ID(ne:Bool):AV→PR
 |.fn _ _ _=>.c8 (.bool ne)
 |.nj=>.c8 (.bool (!ne))
 |_=>.no
def cellsOf:AV→List AV
 |.agg cs=>cs
 |a=>[a]
def lF(multi:Bool)(cs:List AV):AV:=match multi,cs with
 |true,cs=>.agg cs
 |false,a::_=>a
 |false,[]=>.undef
def sub(cs:List AV)(off n:Nat):List AV:=(cs.drop off).take n
def views(cs:List AV):List AV:=cs.map view
def bp:AV→List AV
 |.agg cs=>views cs
 |a=>[a]
def setAt(cs:List AV)(off:Nat)(news:List AV):List AV:=cs.take off++news++cs.drop (off+news.length)
def bx(b:Bool):AV→Option Bool
 |.bool x=>some x
 |.when b' (.bool x)=>bif(b'==b)||b' then some x else none
 |_=>none
def fill(f:IX→AV)(cells:List AV):List (Nat×Nat×IX)→Option (List AV)
 |[]=>some cells
 |(off,n,x)::r=>
  let c:=views (cellsOf (f x))
  bif c9 (f x)&&(c.length==n&&decide (off+n≤cells.length))then fill f (setAt cells off c) r else none
def gZ(n off:Nat)(cs:List AV):Option (List AV):=bif decide (off+n≤cs.length)then some (views (sub cs off n))else none
def ka(n off:Nat):AV→Option (List AV)
 |.loc cs=>gZ n off cs
 |_=>none
def tK(n off:Nat):Option SO→Option (List AV)
 |some (.cells cs)=>gZ n off cs
 |_=>none
def rd(σ:St)(p:AV)(n:Nat):Option (List AV):=
 match p with
 |.loc cs=>gZ n 0 cs
 |.lp d off=>ka n off (look σ.e d)
 |.sp cs=>gZ n 0 cs
 |.ref b off=>tK n off (σ.s b)
 |_=>none
def CB(f:IX→AV)(o:Option IX)(dflt:Int):Option Int:=
 match o with
 |none=>some dflt
 |some x=>match f x with
  |.int _ n=>some n
  |_=>none
def Hg(mx:Bool):Int→List AV→Option Int
 |a,[]=>some a
 |a,.int _ b::r=>Hg mx (bif mx then max a b else min a b) r
 |_,_=>none
def oH:AV→Bool
 |.agg _=>false
 |a=>c9 a
def Fl(cs:List AV):Prop:=∀c∈cs,oH c=true
def xn(t:Nat)(cs:List AV):Prop:=∀c∈cs,oH c=true∨c=.l1 t
def Lj(a:AV):PR:=bif c9 a then .c8 (view a)else .no
def MJ:AV→Option (Bool×Bool)
 |.bool x=>some (true,x)
 |.when b (.bool x)=>some (b,x)
 |_=>none
def Np(b:Bool):Option (Bool×Bool)→Option (Bool×Bool)→PR
 |some (g1,p),some (g2,q)=>.prt ((b=true→g1=true)∧(b=false→g2=true)) (.bool (bif b then p else q))
 |_,_=>.no
def Sg:AV→Option (Bool×Bool)
 |.gu []=>some (false,false)
 |a=>MJ a
def Ea(x y:AV):AV→PR
 |.bool b=>Np b (Sg x) (Sg y)
 |_=>.no
def QH(a:AV):PR:=bif c9 a then .c8 a else .no
def QG(c:Prop)(a:AV):PR:=bif c9 a then .prt c a else .no
def RC:UnOp→AV→PR
 |.not,.bool b=>.c8 (.bool (!b))
 |.neg,.int k n=>.c8 (.int k (lV k (0 -n)))
 |_,_=>.no
def tf(k:IntKind):AV→PR
 |.int _ n=>.c8 (.int k (lV k n))
 |_=>.no
def xy:AV→PR
 |.str s=>.c8 (.str s)
 |_=>.no
def iI(multi:Bool):Option (List AV)→PR
 |some cs=>QH (lF multi cs)
 |none=>.no
def xA(n:Nat)(multi:Bool)(off:Nat):AV→PR
 |.agg cs=>bif decide (off+n≤cs.length)then QH (view (lF multi (sub cs off n)))else .no
 |_=>.no
def xG(n:Nat)(multi:Bool)(len:Nat):AV→AV→PR
 |.agg cs,.int _ k=>bif len*n==cs.length then QG (0≤k∧k<len) (view (lF multi (sub cs (k.toNat*n) n)))else .no
 |_,_=>.no
def tB:AV→AV→PR
 |.str s,.int _ k=>.prt (0≤k∧k<s.length) (.int .u8 (s.getD k.toNat 0).toNat)
 |_,_=>.no
def ku:AV→PR
 |.ref b off=>.c8 (.ref b off)
 |_=>.no
def Lg(c:Prop)(off:Nat):IX→PR
 |.t i=>.prt (c) (.lp i off)
 |.c _=>.no
def fQ(off:Nat)(x:IX):AV→PR
 |.lp d o=>.c8 (.lp d (o+off))
 |.sp cs=>bif decide (off≤cs.length)then .c8 (.sp (cs.drop off))else .no
 |.ref b o=>.c8 (.ref b (o+off))
 |.loc _=>Lg True off x
 |_=>.no
def pad(zero cs:List AV):List AV:=bif cs.length==zero.length then cs else zero
def jk(zero:List AV):AV→AV→PR
 |.sl _ s n cs,.int _ k=>bif s==zero.length then .prt (0≤k∧k<n) (.sp (pad zero (views (sub cs (k.toNat*zero.length) zero.length))))else .no
 |.arr b off n _,.int _ k=>.prt (0≤k∧k<n) (.ref b (off+k.toNat*zero.length))
 |_,_=>.no
def fE(sz len:Nat)(x:IX):AV→AV→PR
 |.lp d o,.int _ k=>.prt (0≤k∧k<len) (.lp d (o+k.toNat*sz))
 |.sp cs,.int _ k=>bif decide (len*sz≤cs.length)then .prt (0≤k∧k<len) (.sp (cs.drop (k.toNat*sz)))else .no
 |.ref b o,.int _ k=>.prt (0≤k∧k<len) (.ref b (o+k.toNat*sz))
 |.loc _,.int _ k=>Lg (0≤k∧k<len) (k.toNat*sz) x
 |_,_=>.no
def Aq(sz n:Nat)(cs:List AV):Option Int→Option Int→PR
 |some l,some h=>bif Nat.ble 1 sz then .prt (0≤l∧l≤h∧h≤n) (.sl false sz ((sub cs (l.toNat*sz) ((h -l).toNat*sz)).length/sz) (sub cs (l.toNat*sz) ((h -l).toNat*sz)))else .no
 |_,_=>.no
def iK(off cap l sz:Nat):Nat:=bif cap==l then off else off+l*sz
def xa(sz b off cap:Nat):Option Int→Option Int→PR
 |some l,some h=>.prt (0≤l∧l≤h∧h≤cap) (.arr b (iK off cap l.toNat sz) (h -l).toNat (cap -l.toNat))
 |_,_=>.no
def yi(sz b off cap:Nat):Option Int→Option Int→Option Int→PR
 |some l,some h,some m=>.prt (0≤l∧l≤h∧h≤m∧m≤cap) (.arr b (iK off m.toNat l.toNat sz) (h -l).toNat (m.toNat -l.toNat))
 |_,_,_=>.no
def qc(sz:Nat)(f:IX→AV)(lo hi:Option IX)(mx:IX):AV→PR
 |.arr b off _ cap=>yi sz b off cap (CB f lo 0) (bif hi.isSome then CB f hi 0 else none) (CB f (some mx) 0)
 |_=>.no
def Ih:AV→PR
 |.arr _ _ _ cap=>.c8 (.int .i64 cap)
 |_=>.no
def sP(sz:Nat)(f:IX→AV)(lo hi:Option IX):AV→PR
 |.sl _ s n cs=>bif s==sz then Aq sz n cs (CB f lo 0) (CB f hi n)else .no
 |.arr b off n cap=>xa sz b off cap (CB f lo 0) (CB f hi n)
 |_=>.no
def xb(s:List UInt8):Option Int→Option Int→PR
 |some l,some h=>.prt (0≤l∧l≤h∧h≤s.length) (.str ((s.drop l.toNat).take (h -l).toNat))
 |_,_=>.no
def kC(f:IX→AV)(lo hi:Option IX):AV→PR
 |.str s=>xb s (CB f lo 0) (CB f hi s.length)
 |_=>.no
def I3:Option SO→PR
 |some (.map es)=>.c8 (.int .i64 es.length)
 |_=>.no
def zn(s:ab):Nat→AV→PR
 |0,.sl _ _ n _=>.c8 (.int .i64 n)
 |0,.arr _ _ n _=>.c8 (.int .i64 n)
 |1,.str s=>.c8 (.int .i64 s.length)
 |2,.sq=>.c8 (.int .i64 0)
 |2,.mp b=>I3 (s b)
 |_,_=>.no
def Ww(k:IntKind):Option Int→PR
 |some m=>.c8 (.int k m)
 |none=>.no
def tu(mx:Bool):List AV→PR
 |.int k n::r=>Ww k (Hg mx n r)
 |_=>.no
def GC:Option AV→PR
 |some a=>QH (view a)
 |none=>.no
def oF(k:Nat):AV→PR
 |.gu vs=>GC vs[k]?
 |_=>.no
def byteOf:AV→Option UInt8
 |.int .u8 n=>if 0≤n∧n<256 then some (UInt8.ofNat n.toNat)else none
 |_=>none
def Mp{α:Type}:Option α→Option (List α)→Option (List α)
 |some a,some l=>some (a::l)
 |_,_=>none
def bytesOf:List AV→Option (List UInt8)
 |[]=>some []
 |a::r=>Mp (byteOf a) (bytesOf r)
def N3:Option (List UInt8)→PR
 |some l=>.c8 (.str l)
 |none=>.no
def pK:AV→PR
 |.sl _ sz _ cs=>bif sz==1 then N3 (bytesOf cs)else .no
 |_=>.no
def AF:Option (List AV)→PR
 |some cs=>.c8 (.agg cs)
 |none=>.no
def KH(a:AV):Option (List AV)→Option (List AV)
 |some l=>bif c9 a then some (view a::l)else none
 |none=>none
def cc(f:IX→AV):List IX→Option (List AV)
 |[]=>some []
 |x::r=>KH (f x) (cc f r)
def tm(fi:Nat):Option (List AV)→Option (List AV)→PR
 |some a,some b=>.c8 (.fn fi a b)
 |_,_=>.no
def G9(zero:List AV)(multi:Bool)(off:Nat):Option SO→PR
 |some (.cells cs)=>QG (off+zero.length≤cs.length) (lF multi (pad zero (views (sub cs off zero.length))))
 |_=>.no
def DW(zero:List AV)(multi:Bool)(s:ab):AV→PR
 |.ref b off=>G9 zero multi off (s b)
 |_=>.no
def Ff(k:IntKind)(off:Nat):Option SO→Prop
 |some (.cells cs)=>∃n,cs[off]? =some (.int k n)
 |_=>False
def intOf:Option AV→Int
 |some (.int _ n)=>n
 |_=>0
def Fg(off:Nat):Option SO→Int
 |some (.cells cs)=>intOf cs[off]?
 |_=>0
def xV(k:IntKind)(s:ab):AV→PR
 |.ref b off=>.prt (Ff k off (s b)) (.int k (Fg off (s b)))
 |_=>.no
def pv(o:rh)(f:IX→AV)(σ:St):PR:=
 match o with
 |.iT false x=>Lj (f x)
 |.pick c x y=>Ea (σ.x x) (σ.x y) (f c)
 |.bin op x y=>H8 op (f x) (f y)
 |.QO ne x y=>IB ne (f x) (f y)
 |.F4 ne x y=>CJ ne (f x) (f y)
 |.OS ne x (.c (.sl true z 0 []))=>MD ne (f x) (.sl true z 0 [])
 |.un op x=>RC op (f x)
 |.dN k x=>tf k (f x)
 |.AQ x=>xy (f x)
 |.load n multi x=>iI multi (rd σ (f x) n)
 |.field n multi off x=>xA n multi off (f x)
 |.index n multi len x i=>xG n multi len (f x) (f i)
 |.dJ x i=>tB (f x) (f i)
 |.nilCheck x=>ku (f x)
 |.fieldAddr off x=>fQ off x (f x)
 |.indexAddr zero x i=>jk zero (f x) (f i)
 |.jh sz len x i=>fE sz len x (f x) (f i)
 |.slice sz x lo hi none=>sP sz f lo hi (f x)
 |.jq x lo hi=>kC f lo hi (f x)
 |.len cls x=>zn σ.s cls (f x)
 |.KD n=>.c8 (.int .i64 n)
 |.hZ mx xs=>tu mx (xs.map f)
 |.extract x k=>oF k (f x)
 |.build zero parts=>AF (fill f zero parts)
 |.lC fi first caps=>tm fi (cc f first) (cc f caps)
 |.fA x=>pK (f x)
 |.bW zero multi x=>DW zero multi σ.s (f x)
 |.lN k x=>xV k σ.s (f x)
 |.slice sz x lo hi (some mx)=>qc sz f lo hi mx (f x)
 |.cap x=>Ih (f x)
 |.R8 n ne x y=>MC n ne (f x) (f y)
 |.R9 ne x=>ID ne (f x)
 |.Ol ne x=>GB ne (f x)
 |_=>.no
end Go.AB
end
section
namespace Go.AB
open Go
inductive cY where
 |none
 |frame
 |slot (i j:Nat)
 |loc (i:Nat)
 |sh
 |cell (b j:Nat)
 |res (j:Nat)
 deriving DecidableEq
structure Gh where
 R:Nat→Nat
 O:Nat→cY
inductive VR(w:World)(R:Nat→Nat):AV→Value→Prop where
 |undef (v:Value):VR w R .undef v
 |bool (b:Bool):VR w R (.bool b) (.bool b)
 |int (k:IntKind) (n:Int):VR w R (.int k n) (.int k n)
 |str (s:List UInt8):VR w R (.str s) (.string ⟨s.toArray⟩)
 |dG:VR w R .dG (.pointer none)
 |ref (b off:Nat):VR w R (.ref b off) (.pointer (some ⟨b,off,none⟩))
 |sp (cs:List AV) (b off:Nat) (u:Nat→Value) (hf:Fl cs) (hR:off+cs.length≤R b)
   (hc:∀(j:Nat)(c:AV),cs[j]? =some c→w.cell? ⟨b,off+j,none⟩=some (u j)) (hr:∀(j:Nat)(c:AV),cs[j]? =some c→VR w R c (u j)):
   VR w R (.sp cs) (.pointer (some ⟨b,off,none⟩))
 |slnil (own:Bool) (sz:Nat):VR w R (.sl own sz 0 []) (.slice none 0 0)
 |sle (sz:Nat) (a:Addr) (cap:Nat):VR w R (.sl false sz 0 []) (.slice (some a) 0 cap)
 |sl (own:Bool) (sz n:Nat) (cs:List AV) (b off cap:Nat) (u:Nat→Value) (hf:Fl cs) (hl:cs.length=n*sz) (hR:off+cs.length≤R b) (hcap:n≤cap)
   (hc:∀(j:Nat)(c:AV),cs[j]? =some c→w.cell? ⟨b,off+j,none⟩=some (u j)) (hr:∀(j:Nat)(c:AV),cs[j]? =some c→VR w R c (u j)):
   VR w R (.sl own sz n cs) (.slice (some ⟨b,off,none⟩) n cap)
 |arr (b off len cap:Nat):VR w R (.arr b off len cap) (.slice (some ⟨b,off,none⟩) len cap)
 |Ex (b off:Nat):VR w R (.arr b off 0 0) (.slice none 0 0)
 |agg (cs:List AV) (vs:Array Value) (hf:Fl cs) (hl:vs.size=cs.length) (hr:∀(j:Nat)(c:AV)(v:Value),cs[j]? =some c→vs[j]? =some v→VR w R c v):VR w R (.agg cs) (.agg vs)
 |gu (cs:List AV) (vs:Array Value) (hl:vs.size=cs.length) (hr:∀(j:Nat)(c:AV)(v:Value),cs[j]? =some c→vs[j]? =some v→VR w R c v):VR w R (.gu cs) (.tuple vs)
 |fn (f:Nat) (first caps:List AV) (vf vc:Array Value) (hl:vf.size=first.length) (hr:∀(j:Nat)(c:AV)(v:Value),first[j]? =some c→vf[j]? =some v→VR w R c v)
   (hl':vc.size=caps.length) (hr':∀(j:Nat)(c:AV)(v:Value),caps[j]? =some c→vc[j]? =some v→VR w R c v):VR w R (.fn f first caps) (.func (.func f) vf vc)
 |nj:VR w R .nj .nilFunc
 |mp (b:Nat):VR w R (.mp b) (.map (some b))
 |sq:VR w R .sq (.map none)
 |when (b:Bool) (a:AV) (v:Value) (h:b=true→VR w R a v):VR w R (.when b a) v
 |one (v:Value) (h:v.oneCell'=true):VR w R .one v
 |l1 (t:Nat):VR w R (.l1 t) (.pointer none)
 |jX:VR w R .jX .nilIface
 |bb (t n:Nat) (cs:List AV) (v:Value) (h:VR w R (.sl true 1 n cs) v) (h0:n=0→v=.slice none 0 0):VR w R (.bb t n cs) v
def df(G:Gh)(w:World)(o:cY)(a:AV)(v:Value):Prop:=
 match a with
 |.sl true sz n _=>∀base m cap,v=.slice base m cap→(cap≠n∨0<n)→
   ∃b off c e fz,base=some ⟨b,off,none⟩∧G.O b=o∧G.R b=off+n*sz∧w.heap[b]? =some (.cells c e fz)∧c.size=off+cap*sz∧
    (∀k,k<c.size→¬(fz.1≤k∧k<fz.2))∧fz.1≤fz.2∧off=0∧(fz=(0,0)∨(0<n∧∃x,c[0]? =some (.int .u8 x)))∧
    ∀(k:Nat)(y:Value),off+n*sz≤k→c[k]? =some y→y.oneCell'=true
 |.bb e n _=>∀base m cap,v=.slice base m cap→(cap≠n∨0<n)→
   ∃b off c fz,base=some ⟨b,off,none⟩∧G.O b=o∧G.R b=off+n*1∧w.heap[b]? =some (.cells c e fz)∧c.size=off+cap*1∧
    (∀k,k<c.size→¬(fz.1≤k∧k<fz.2))∧fz.1≤fz.2∧off=0∧(fz=(0,0)∨(0<n∧∃x,c[0]? =some (.int .u8 x)))∧
    ∀(k:Nat)(y:Value),off+n*1≤k→c[k]? =some y→y.oneCell'=true
 |_=>True
def db(G:Gh)(w:World)(o:Nat→cY)(cs:List AV)(c:Array Value):Prop:=c.size=cs.length∧∀(j:Nat)(x:AV)(y:Value),cs[j]? =some x→c[j]? =some y→VR w G.R x y∧df G w (o j) x y
def ZF(G:Gh)(w:World)(o:cY)(sz n:Nat)(cs:List AV)(v:Value):Prop:=
 (n=0∧cs=[]∧(v=.slice none 0 0∨∃b off,v=.slice (some ⟨b,off,none⟩) 0 0))∨
 ∃b cap c t sp,0<cap∧n≤cap∧v=.slice (some ⟨b,0,none⟩) n cap∧G.O b=o∧G.R b=0∧w.heap[b]? =some (.cells c t (0,0))∧c.size=cap*sz∧cs.length=n*sz∧(cs++sp).length=cap*sz∧
  (∀(j:Nat)(x:AV)(u:Value),(cs++sp)[j]? =some x→c[j]? =some u→VR w G.R x u)∧Fl (cs++sp)∧views (cs++sp)=cs++sp
def da(G:Gh)(w:World)(e:List (Nat×AV))(tmps:Array Value)(i:Nat):AV→Value→Prop
 |.loc cs,v=>∃b c t,v=.pointer (some ⟨b,0,none⟩)∧G.O b=.loc i∧G.R b=0∧w.heap[b]? =some (.cells c t (0,0))∧db G w (.cell b) cs c∧Fl cs
 |.lp d off,v=>∃b,v=.pointer (some ⟨b,off,none⟩)∧∀cs,look e d=.loc cs→tmps[d]? =some (.pointer (some ⟨b,0,none⟩))
 |.gu vs,v=>∃ys:Array Value,v=.tuple ys∧db G w (fun j=>.slot i (j+1)) vs ys
 |.when b a,v=>(b=true→da G w e tmps i a v)∧(b=false→v=.tuple #[])
 |.us sz n cs,v=>ZF G w (.slot i 0) sz n cs v
 |a,v=>VR w G.R a v∧df G w (.slot i 0) a v
def bH:AV→Nat→Prop
 |.lp d _,d'=>d=d'
 |.when _ a,d'=>bH a d'
 |_,_=>False
structure b9(G:Gh)(w:World):Prop where
 iA:∀b,w.heap.size≤b→G.O b=.none
 iU:∀b,w.heap.size≤b→G.R b=0
def Vp(G:Gh)(w:World)(x:AV×AV)(y:MapEntry):Prop:=VR w G.R x.1 y.key∧VR w G.R x.2 y.val
def aW(G:Gh)(w:World)(s:ab):Prop:=
 ∀b o,s b=some o→G.O b=.sh∧G.R b=0∧match o with
  |.cells cs=>∃c t,w.heap[b]? =some (.cells c t (0,0))∧db G w (.cell b) cs c∧xn t cs
  |.map es=>∃ents clock,w.heap[b]? =some (.map ents clock)∧ents.size=es.length∧∀(j:Nat)(x:AV×AV)(y:MapEntry),es[j]? =some x→ents[j]? =some y→Vp G w x y
structure Inv(G:Gh)(n:Nat)(D:List Deferred)(σ:St)(a:Act)(w:World):Prop where
 aO:b9 G w
 store:aW G w σ.s
 size:a.tmps.size=n
 ch:∀(i:Nat)(v:Value),a.tmps[i]? =some v→da G w σ.e a.tmps i (look σ.e i) v
 CG:∀i,n≤i→look σ.e i=.undef
 HR:∀i d,bH (look σ.e i) d→(i,d)∈σ.lp
 qW:a.defers=D
structure aG(G:Gh)(w:World)(G':Gh)(w':World):Prop where
 os:w'.os=w.os
 tape:w'.tape=w.tape
 output:w'.output=w.output
 drawn:w.drawn≤w'.drawn
 size:w.heap.size≤w'.heap.size
 mono:∀b,b<w.heap.size→G.R b≤G'.R b
 lD:∀b k,b<w.heap.size→k<G.R b→w'.cell? ⟨b,k,none⟩=w.cell? ⟨b,k,none⟩
 frame:∀b,b<w.heap.size→G.O b=.frame∨G.O b=.none→w'.heap[b]? =w.heap[b]?
 jG:∀b,b<w.heap.size→G.O b=.frame→G'.O b=.frame∧G'.R b=G.R b
 oY:∀b,b<w.heap.size→G.O b=.none→G'.O b=.none∧G'.R b=G.R b
def NN(G:Gh)(w:World)(a:AV)(v:Value):Prop:=
 match a with
 |.us sz n cs=>ZF G w (.res 0) sz n cs v
 |a=>VR w G.R a v∧df G w (.res 0) a v
def ni(G:Gh)(w:World)(rs:List AV)(v:Value):Prop:=
 match rs with
 |[a]=>NN G w a v
 |rs=>∃ys:Array Value,v=.tuple ys∧db G w (fun j=>.res j) rs ys
def yu(G:Gh):Prop:=∀b,G.O b=.none∨G.O b=.frame∨G.O b=.sh∨∃b' j,G.O b=.cell b' j∧G.O b'=.sh
def nk(w:World)(R:Nat→Nat)(args:List AV)(vs:Array Value):Prop:=vs.size=args.length∧∀(j:Nat)(a:AV)(v:Value),args[j]? =some a→vs[j]? =some v→VR w R a v
def FN(P:Program)(f:FuncId)(args:List AV)(s:ab)(Q:List AV→ab→Prop):Prop:=
 ∀(G:Gh)(w:World)(vs:Array Value),b9 G w→yu G→aW G w s→nk w G.R args vs→
  Calls P f vs w fun e w'=>∃v rs s' G',e=.returned v∧Q rs s'∧b9 G' w'∧aW G' w' s'∧ni G' w' rs v∧aG G w G' w'
theorem FN.mono{P:Program}{f:FuncId}{args:List AV}{s:ab}{Q Q':List AV→ab→Prop}(h:FN P f args s Q)(hq:∀rs s',Q rs s'→Q' rs s'):FN P f args s Q':=fun G w vs h1 h2 h3 h4=>(h G w vs h1 h2 h3 h4).mono fun _ _⟨v,rs,s',G',a,b,c⟩=>⟨v,rs,s',G',a,hq _ _ b,c⟩
def FE(P:Program)(f:FuncId)(args:List AV)(s:ab)(rs:List AV)(s':ab):Prop:=FN P f args s fun r t=>r=rs∧t=s'
theorem FE.app{P:Program}{f:FuncId}{args:List AV}{s s':ab}{rs:List AV}{Q:List AV→ab→Prop}(h:FE P f args s rs s')(hq:Q rs s'):FN P f args s Q:=FN.mono h fun _ _⟨h1,h2⟩=>by rw[h1,h2];exact hq
def eR:List AV→AV
 |[a]=>a
 |rs=>.gu rs
def room:Nat:=140737488355328
def jL(lp:List (Nat×Nat))(d:Option Nat):Bool:=match d with
 |some d=>lp.all fun x=>!Nat.beq x.2 d
 |none=>true
def St.drain(σ:St)(x:IX):St:=match x with
 |.t i=>σ.put (some i) (view (look σ.e i))
 |.c _=>σ
def dQ(off:Nat)(news:List AV)(ez:List AV):Option (List AV):=bif decide (off+news.length≤ez.length)then some (setAt ez off news)else none
def Qj(σ:St)(d:Nat):Option (List AV)→Option St
 |some cs=>some (σ.put (some d) (.loc cs))
 |none=>none
def Qk(σ:St)(b:Nat):Option (List AV)→Option St
 |some cs=>some {σ with s:=σ.s.set b (.cells cs)}
 |none=>none
def Er(σ:St)(d off:Nat)(news:List AV):AV→Option St
 |.loc ez=>Qj σ d (dQ off news ez)
 |_=>none
def JF(σ:St)(b off:Nat)(news:List AV):Option SO→Option St
 |some (.cells ez)=>Qk σ b (dQ off news ez)
 |_=>none
def XP(σ:St)(news ez:List AV):IX→Option St
 |.t d=>Qj σ d (dQ 0 news ez)
 |.c _=>none
def Dt(σ:St)(p:AV)(i:IX)(news:List AV):Option St:=
 match p with
 |.loc ez=>XP σ news ez i
 |.lp d off=>Er σ d off news (look σ.e d)
 |.ref b off=>JF σ b off news (σ.s b)
 |_=>none
def MW:AV→AV→Bool
 |.int _ a,.int _ b=>a==b
 |.str a,.str b=>a==b
 |.bool a,.bool b=>a==b
 |_,_=>false
def pR:List AV→List AV→Bool
 |[],[]=>true
 |a::x,b::y=>MW a b&&pR x y
 |_,_=>false
def sf(a b:AV):Bool:=pR (cellsOf a) (cellsOf b)
def fw(k:AV):List (AV×AV)→Option AV
 |[]=>none
 |x::r=>bif sf k x.1 then some x.2 else fw k r
def wT(k v:AV):List (AV×AV)→List (AV×AV)
 |[]=>[(k,v)]
 |x::r=>bif sf k x.1 then(k,v)::r else x::wT k v r
section
variable(P:Program)
def M6(σ:St)(x:IX)(d:Option Nat)(K:St→Prop)(a:AV):Prop:=c9 a=true∧K ((σ.drain x).put d a)
def Qx(n:Nat)(σ:St)(d:Option Nat)(K:St→Prop)(a:AV):Prop:=c9 a=true∧(cellsOf a).length=n∧K (σ.put d (.loc (views (cellsOf a))))
def Qy(n:Nat)(σ:St)(d:Option Nat)(K:St→Prop)(a:AV):Prop:=c9 a=true∧(cellsOf a).length=n∧∀b,σ.s b=none→K ({σ with s:=σ.s.set b (.cells (views (cellsOf a)))}.put d (.ref b 0))
def vG(sz n:Nat)(σ:St)(d:Option Nat)(K:St→Prop):Option (List AV)→Prop
 |some cs=>cs.length=n*sz∧K (σ.put d (.sl true sz n cs))
 |none=>False
def HS(d:Option Nat)(K:St→Prop):Option St→Prop
 |some τ=>K (τ.put d (.gu []))
 |none=>False
def FX(n:Nat)(σ:St)(p:IX)(v:IX)(d:Option Nat)(K:St→Prop)(a:AV):Prop:=c9 a=true∧(bp a).length=n∧HS d K (Dt (σ.drain v) (σ.x p) p (bp a))
def jD(sz bytes:Nat)(σ:St)(x:IX)(d:Option Nat)(K:St→Prop):AV→AV→Prop
 |.sl true s n cs,.sl _ s' m ds=>s=sz∧(s'=sz∨m=0)∧(n+m)*bytes≤room∧K ((σ.drain x).put d (.sl true sz (n+m) (cs++views ds)))
 |.sl true s n cs,.str ds=>s=sz∧sz=1∧(n+ds.length)*bytes≤room∧K ((σ.drain x).put d (.sl true sz (n+ds.length) (cs++ds.map fun c=>.int .u8 c.toNat)))
 |_,_=>False
def Ae(σ:St)(d:Option Nat)(K:St→Prop):AV→Prop
 |.sl _ sz _ cs=>sz=1∧∃s:List UInt8,cs=(s.map fun c=>.int .u8 c.toNat)∧K (σ.put d (.str s))
 |_=>False
def Pj:List UInt8→Bool
 |[]=>false
 |_::_=>true
def oE(σ:St)(d:Option Nat)(K:St→Prop):AV→Prop
 |.str s=>K (σ.put d (.sl (Pj s) 1 s.length (s.map fun c=>.int .u8 c.toNat)))
 |_=>False
def wG(bytes:Nat)(zero:List AV)(σ:St)(d:Option Nat)(K:St→Prop):AV→AV→Prop
 |.int _ l,.int _ c=>0≤l∧l≤c∧c*bytes≤room∧
   ∀b,σ.s b=none→K ({σ with s:=σ.s.set b (.cells ((List.replicate c.toNat zero).flatten))}.put d (.arr b 0 l.toNat c.toNat))
 |_,_=>False
def Ak(sz bytes:Nat)(σ:St)(d:Option Nat)(K:St→Prop):AV→Prop
 |.int _ c=>0≤c∧c*bytes≤room∧K (σ.put d (.sl true sz 0 []))
 |_=>False
def Jc(ok:Bool)(a:AV)(b:Bool):AV:=match ok with
 |true=>.gu [a,.bool b]
 |false=>a
def A8:AV→Bool
 |.int .u8 _=>true
 |_=>false
def fL:ly→AV→Bool
 |.int k,.int k' _=>Kb k k'
 |.str,.str _=>true
 |.bool,.bool _=>true
 |.bytes n,.agg cs=>cs.length==n&&cs.all A8
 |_,_=>false
def mO(kk:ly)(es:List (AV×AV)):Bool:=es.all fun x=>fL kk x.1
def uh(zero:AV)(ok:Bool):Option AV→AV
 |some v=>Jc ok (view v) true
 |none=>Jc ok (view zero) false
def vh:AV→Bool
 |.gu _=>true
 |a=>c9 a
def BJ:Bool→AV→Bool
 |true,_=>true
 |false,a=>c9 a
def LS(ok:Bool)(c:Prop)(a:AV):PR:=bif BJ ok a then .prt c a else .no
def tk(kk:ly)(zero:AV)(ok:Bool)(k:AV):Option SO→PR
 |some (.map es)=>LS ok (fL kk k=true∧mO kk es=true) (uh zero ok (fw k es))
 |_=>.no
def iw(kk:ly)(zero:AV)(ok:Bool)(s:ab)(k:AV):AV→PR
 |.mp b=>tk kk zero ok k (s b)
 |.sq=>LS ok (fL kk k=true) (Jc ok (view zero) false)
 |_=>.no
def zz:AV→PR
 |.sl true 1 (n+1) (.int .u8 x::cs)=>.c8 (.sl false 1 (n+1) (.int .u8 x::cs))
 |_=>.no
def yn:AV→PR
 |.gu vs=>.c8 (.gu (views vs))
 |_=>.no
def Jn(σ:St)(d:Option Nat)(K:St→Prop):PR→Prop
 |.c8 a=>K (σ.put d a)
 |.prt c a=>c∧K (σ.put d a)
 |.no=>False
def TL(kk:ly)(b:Nat)(σ:St)(k v:AV)(d:Option Nat)(K:St→Prop):Option SO→Prop
 |some (.map es)=>(c9 v=true∧fL kk k=true∧mO kk es=true)∧K ({σ with s:=σ.s.set b (.map (wT (view k) (view v) es))}.put d (.gu []))
 |_=>False
def tq(kk:ly)(σ:St)(k v:AV)(d:Option Nat)(K:St→Prop):AV→Prop
 |.mp b=>TL kk b σ k v d K (σ.s b)
 |_=>False
def MS:AV→Bool
 |.us _ _ _=>true
 |_=>false
def iO:List AV→Bool
 |[a]=>c9 a||MS a
 |_=>true
def JO(σ:St)(d:Option Nat)(K:St→Prop)(rs:List AV)(s':ab):Prop:=iO rs=true∧K ({σ with s:=s'}.put d (eR rs))
def rv(f:Nat)(σ:St)(d:Option Nat)(K:St→Prop):Option (List AV)→Prop
 |some args=>FN P f args σ.s (JO σ d K)
 |none=>False
def vS(f:FuncId):Bool:=match P.funcs[f]? with
 |some fn=>fn.name != "runtime.NumGoroutine" &&fn.body.isSome
 |none=>false
def Mi(f:Nat)(first caps:List AV)(σ:St)(d:Option Nat)(K:St→Prop):Option (List AV)→Prop
 |some args=>vS P f=true∧FN P f (first++args++caps) σ.s (JO σ d K)
 |none=>False
def uL(σ:St)(args:Option (List AV))(d:Option Nat)(K:St→Prop):AV→Prop
 |.fn f first caps=>Mi P f first caps σ d K args
 |_=>False
def xg(g:Bool)(σ:St)(x:IX):AV:=vy g (σ.x x)
def N7(i:Nat)(σ:St)(W:St→Prop):AV→Prop
 |.us sz n cs=>(∀b cap sp,σ.s b=none→0<cap→n≤cap→(cs++sp).length=cap*sz→Fl (cs++sp)→views sp=sp→W ({σ with s:=σ.s.set b (.cells (cs++sp))}.put (some i) (.arr b 0 n cap)))∧
   (n=0→∀b off,W (σ.put (some i) (.arr b off 0 0)))
 |_=>False
def wJ(sz:Nat):AV→AV
 |.arr _ 0 0 0=>.sl true sz 0 []
 |a=>a
def cz(sz:Nat):AV→List AV
 |.agg cs=>(views cs).map (wJ sz)
 |a=>[a]
def Kx(sz n:Nat)(σ:St)(p:IX)(v:IX)(d:Option Nat)(K:St→Prop)(a:AV):Prop:=c9 a=true∧(cz sz a).length=n∧HS d K (Dt (σ.drain v) (σ.x p) p (cz sz a))
def Me(sz n:Nat)(σ:St)(d:Option Nat)(K:St→Prop)(a:AV):Prop:=c9 a=true∧(cellsOf a).length=n∧∀b,σ.s b=none→K ({σ with s:=σ.s.set b (.cells ((views (cellsOf a)).map (wJ sz)))}.put d (.ref b 0))
def tc(sz n:Nat)(σ:St)(d:Option Nat)(K:St→Prop):Option (List AV)→Prop
 |some cs=>cs.length=n*sz∧∀b,σ.s b=none→K ({σ with s:=σ.s.set b (.cells (views cs))}.put d (.arr b 0 n n))
 |none=>False
def ja(m sz off:Nat):Option SO→Option (Nat×List AV)
 |some (.cells cs)=>bif decide (off+m*sz≤cs.length)then some (m,views (sub cs off (m*sz)))else none
 |_=>none
def tL(s:ab)(sz:Nat):AV→Option (Nat×List AV)
 |.sl _ s' m ds=>bif s'==sz then some (m,views ds)else bif m==0 then some (0,[])else none
 |.str l=>bif sz==1 then some (l.length,l.map fun c=>.int .u8 c.toNat)else none
 |.arr b off m _=>bif m==0 then some (0,[])else ja m sz off (s b)
 |_=>none
def mR(s:ab)(sz b off n:Nat):Option (List AV):=bif n==0 then some []else(ja n sz off (s b)).map Prod.snd
def yc(sz b off cap:Nat):Option SO→Prop
 |some (.cells cs)=>off+cap*sz≤cs.length
 |_=>False
def setRow(s:ab)(b off:Nat)(news:List AV):Option SO→ab
 |some (.cells cs)=>s.set b (.cells (setAt cs off news))
 |_=>s
def KF(sz bytes:Nat)(zero:List AV)(σ:St)(d:Option Nat)(K:St→Prop)(b off n cap m:Nat)(ds:List AV):Option (List AV)→Prop
 |some olds=>zero.length=sz∧(n+m≤cap→(m=0∧K (σ.put d (.arr b off n cap)))∨(yc sz b off cap (σ.s b)∧K ({σ with s:=setRow σ.s b (off+n*sz) ds (σ.s b)}.put d (.arr b off (n+m) cap))))∧
   (cap<n+m→(n+m)*bytes≤room∧∀b' cap',σ.s b'=none→n+m≤cap'→K ({σ with s:=σ.s.set b' (.cells (olds++ds++(List.replicate (cap' -(n+m)) zero).flatten))}.put d (.arr b' 0 (n+m) cap')))
 |none=>False
def eA(sz bytes:Nat)(zero:List AV)(σ:St)(d:Option Nat)(K:St→Prop):AV→Option (Nat×List AV)→Prop
 |.arr b off n cap,some (m,ds)=>KF sz bytes zero σ d K b off n cap m ds (mR σ.s sz b off n)
 |_,_=>False
def rk(sz bytes:Nat)(zero:List AV)(σ:St)(d:Option Nat)(K:St→Prop):AV→AV→Prop
 |.arr b off n cap,.int .i64 c=>0≤c∧cap<n+c.toNat∧views zero=zero∧KF sz bytes zero σ d K b off n cap c.toNat (List.replicate c.toNat zero).flatten (mR σ.s sz b off n)
 |_,_=>False
def uO(sz:Nat)(σ:St)(d:Option Nat)(K:St→Prop):AV→Option (Nat×List AV)→Prop
 |.arr b off n _,some (m,ds)=>(min m n=0∧K (σ.put d (.int .i64 0)))∨(yc sz b off n (σ.s b)∧K ({σ with s:=setRow σ.s b off (ds.take (min m n*sz)) (σ.s b)}.put d (.int .i64 (min m n:Nat))))
 |_,_=>False
def vM(zero:List AV)(σ:St)(d:Option Nat)(K:St→Prop):AV→Prop
 |.arr b off n _=>(n=0∧K (σ.put d (.gu [])))∨(yc zero.length b off n (σ.s b)∧views zero=zero∧K ({σ with s:=setRow σ.s b off (List.replicate n zero).flatten (σ.s b)}.put d (.gu [])))
 |_=>False
def Vr(P:Program)(f:FuncId):Prop:=∀(w:World)(a b:Nat)(oa la ca ob lb cb:Nat)(ta tb:TypeId)(x y:Array Value)(fa:Nat×Nat),a≠b→w.heap[a]? =some (.cells x ta fa)→x.size≠0→w.heap[b]? =some (.cells y tb (0,0))→y.size≠0→
 ∃w',(callFunc f #[.slice (some ⟨a,oa,none⟩) la ca,.slice (some ⟨b,ob,none⟩) lb cb]).run P w=.ok (.value (.bool false)) w'∧w'.heap=w.heap∧w'.os=w.os∧w'.tape=w.tape∧w'.output=w.output∧w.drawn≤w'.drawn
def cellsIn:Option SO→Prop
 |some (.cells (_::_))=>True
 |_=>False
def SZ(P:Program)(f:FuncId)(σ:St)(d:Option Nat)(K:St→Prop):AV→AV→Prop
 |.sl _ _ (_+1) (_::_),.arr b' _ _ (_+1)=>Vr P f∧cellsIn (σ.s b')∧K (σ.put d (.bool false))
 |_,_=>False
def y8(sz:Nat)(own:Bool)(σ:St)(d:Option Nat)(K:St→Prop):AV→Prop
 |.arr b off n cap=>(cap=0∧n=0∧off=0∧K (σ.put d (.sl own sz 0 [])))∨(0<cap∧n≤cap∧(own=true→off=0∧yc sz b off cap (σ.s b)∧sizeV (off+cap*sz) (σ.s b))∧frzK sz own σ d K b n (ja n sz off (σ.s b)))
 |_=>False
where
 sizeV (k:Nat):Option SO→Prop
  |some (.cells cs)=>cs.length=k
  |_=>False
 frzK (sz:Nat) (own:Bool) (σ:St) (d:Option Nat) (K:St→Prop) (b n:Nat):Option (Nat×List AV)→Prop
  |some (_,cs)=>K ({σ with s:=σ.s.del b}.put d (.sl own sz n cs))
  |none=>False
def Fe(sz:Nat)(own:Bool)(σ:St)(d:Option Nat)(K:St→Prop):Option (List AV)→Prop
 |some [a]=>c9 a=true∧y8 sz own σ d K a
 |_=>False
def iJ(off:Nat)(cs:List AV)(k:List AV→AV→Prop):Prop:=match cs[off]? with
 |some (.sl o sz n ds)=>k (setAt cs off [.sl false sz n ds]) (.sl o sz n ds)
 |some (.bb t n ds)=>k (setAt cs off [.sl false 1 n ds]) (.bb t n ds)
 |_=>False
def Cu(off:Nat)(cs:List AV)(k:List AV→AV→Prop):Prop:=match cs[off]? with
 |some (.sl o sz n ds)=>k (setAt cs off [.sl false sz n ds]) (.sl o sz n ds)
 |_=>False
def og(σ:St)(d:Option Nat)(K:St→Prop):AV→Prop
 |.ref b off=>match σ.s b with
  |some (.cells cs)=>iJ off cs fun cs' a=>K ({σ with s:=σ.s.set b (.cells cs')}.put d a)
  |_=>False
 |.lp i off=>match look σ.e i with
  |.loc cs=>d≠some i∧Cu off cs fun cs' a=>K ((σ.put (some i) (.loc cs')).put d a)
  |_=>False
 |_=>False
def A7(j:IX)(off:Nat)(a:AV):Bool:=match j,a with
 |.t i,.lp i' o=>i'==i&&o==off
 |_,_=>false
def K6(ne:Bool)(σ:St)(d:Option Nat)(K:St→Prop):AV→Prop
 |.sl _ _ n _=>∀v:Bool,(v=!ne→n=0)→K (σ.put d (.bool v))
 |.arr _ _ _ cap=>∀v:Bool,(v=!ne→cap=0)→K (σ.put d (.bool v))
 |_=>False
def Ms(d:Option Nat)(K:St→Prop)(σ:St)(b off:Nat):Option SO→Prop
 |some (.cells cs)=>off<cs.length∧K (σ.put d (.ref b off))
 |_=>False
def Gq(σ:St)(d:Option Nat)(K:St→Prop):AV→Prop
 |.ref b off=>Ms d K σ b off (σ.s b)
 |_=>False
def G8(t cells off u:Nat):Bool:=liesAt P P.depth t (cells/P.cellsOf t) off u 1
def Mr(u:Nat)(d:Option Nat)(K:St→Prop)(σ:St)(b off:Nat):Option SO→Prop
 |some (.cells cs)=>∃t,cs[off]? =some (.l1 t)∧G8 P t cs.length off u=true∧K (σ.put d (.ref b off))
 |_=>False
def Gp(u:Nat)(σ:St)(d:Option Nat)(K:St→Prop):AV→Prop
 |.ref b off=>Mr P u d K σ b off (σ.s b)
 |_=>False
def VY(f:Nat):Prop:=∀(x:Value)(w:World),(callFunc f #[x]).run P w=.ok (.value x) w
def EB(f:Nat)(σ:St)(d:Option Nat)(K:St→Prop)(a:AV):Prop:=c9 a=true∧VY P f∧K (σ.put d (view a))
def Mf(n t j u:Nat)(σ:St)(d:Option Nat)(K:St→Prop)(a:AV):Prop:=c9 a=true∧(cellsOf a).length=n∧(cellsOf a)[j]? =some .dG∧(cellsOf a)[j+1]? =some (.bb u 0 [])∧∀b,σ.s b=none→K ({σ with s:=σ.s.set b (.cells (setAt (views (cellsOf a)) j [.l1 t,.bb u 0 []]))}.put d (.ref b 0))
def oC(t:Nat)(σ:St)(x:IX)(d:Option Nat)(K:St→Prop):AV→AV→Prop
 |.bb t' n cs,.sl _ s' m ds=>t=t'∧(s'=1∨m=0)∧(n+m)*1≤room∧K ((σ.drain x).put d (.bb t (n+m) (cs++views ds)))
 |.bb t' n cs,.str ds=>t=t'∧(n+ds.length)*1≤room∧K ((σ.drain x).put d (.bb t (n+ds.length) (cs++ds.map fun c=>.int .u8 c.toNat)))
 |_,_=>False
def gH(o:rh)(d:Option Nat)(σ:St)(K:St→Prop):Prop:=
 match o with
 |.iT _ x=>M6 σ x d K (σ.x x)
 |.aQ zero=>jL σ.lp d=true∧K (σ.put d (.loc zero))
 |.gV zero=>∀b,σ.s b=none→K ({σ with s:=σ.s.set b (.cells zero)}.put d (.ref b 0))
 |.lZ n x=>jL σ.lp d=true∧Qx n σ d K (σ.x x)
 |.qU n x=>Qy n σ d K (xg true σ x)
 |.b5 sz n zero parts=>vG sz n σ d K (fill (xg true σ) zero parts)
 |.store n p v=>FX n σ p v d K (σ.x v)
 |.append sz bytes x y=>jD sz bytes σ x d K (σ.x x) (σ.x y)
 |.fA x=>Ae σ d K (xg true σ x)
 |.hE x=>oE σ d K (xg true σ x)
 |.gE _ bytes zero l c=>wG bytes zero σ d K (xg true σ l) (xg true σ c)
 |.xZ sz bytes c=>Ak sz bytes σ d K (xg true σ c)
 |.makeMap=>∀b,σ.s b=none→K ({σ with s:=σ.s.set b (.map [])}.put d (.mp b))
 |.call f args=>rv P f σ d K (cc (xg true σ) args)
 |.eC x args=>uL P σ (cc (xg true σ) args) d K (xg true σ x)
 |.lookup kk zero ok x k=>Jn σ d K (iw kk zero ok σ.s (xg true σ k) (xg true σ x))
 |.ji x=>Jn σ d K (zz (xg true σ x))
 |.re x=>Jn σ d K (yn (xg true σ x))
 |.mapUpdate kk x k v=>tq kk σ (xg true σ k) (xg true σ v) d K (xg true σ x)
 |.jE sz n zero parts=>tc sz n σ d K (fill (xg true σ) zero parts)
 |.gh sz bytes zero x y=>eA sz bytes zero σ d K (σ.x x) (tL σ.s sz (σ.x y))
 |.lY sz bytes zero x y=>rk sz bytes zero σ d K (σ.x x) (xg true σ y)
 |.vP sz x y=>uO sz σ d K (σ.x x) (tL σ.s sz (σ.x y))
 |.pJ zero x=>vM zero σ d K (σ.x x)
 |.K7 sz own x=>y8 sz own σ d K (σ.x x)
 |.ug sz own x=>Fe sz own σ d K (rd σ (xg true σ x) 1)
 |.kZ x=>og σ d K (σ.x x)
 |.lM off j x=>A7 j off (σ.x x)=true∧og σ d K (σ.x x)
 |.OR ne x=>K6 ne σ d K (σ.x x)
 |.UK f x y=>SZ P f σ d K (σ.x x) (σ.x y)
 |.yl sz n p v=>Kx sz n σ p v d K (σ.x v)
 |.Ey sz n x=>Me sz n σ d K (σ.x x)
 |.Ez n t j u x=>Mf n t j u σ d K (σ.x x)
 |.lX t x y=>oC t σ x d K (σ.x x) (σ.x y)
 |.EH x=>Gq σ d K (σ.x x)
 |.vJ f x=>EB P f σ d K (σ.x x)
 |.EG u x=>Gp P u σ d K (σ.x x)
 |.vI f i args=>N7 i σ (fun τ=>rv P f τ d K (cc (xg true τ) args)) (look σ.e i)
 |_=>False
def bV(σ:St):AV→Option Nat→St
 |.lp t _,some i=>{σ with lp:=(i,t)::σ.lp}
 |.when _ a,d=>bV σ a d
 |_,_=>σ
def Oo(o:rh)(σ:St)(d:Option Nat)(K:St→Prop):PR→Prop
 |.c8 a=>K ((bV σ a d).put d a)
 |.prt c a=>c∧K ((bV σ a d).put d a)
 |.no=>gH P o d σ K
def UL(o:rh)(d:Option Nat)(σ:St)(K:St→Prop):Prop:=Oo P o σ d K (pv o (xg true σ) σ)
def LX(g:Bool)(o:rh)(σ:St)(d:Option Nat)(K:St→Prop):PR→Prop
 |.c8 a=>K ((bV σ a d).put d (.when g a))
 |.prt c a=>(g=true→c)∧K ((bV σ a d).put d (.when g a))
 |.no=>(g=true→UL P o d σ K)∧(g=false→K (σ.put d (.gu [])))
def xE(o:rh)(d:Option Nat)(t:Nat)(want:Bool)(σ:St)(K:St→Prop):AV→Prop
 |.bool b=>LX P (b==want) o σ d K (pv o (xg (b==want) σ) σ)
 |.when b' (.bool b)=>LX P (b'&&(b==want)) o σ d K (pv o (xg (b'&&(b==want)) σ) σ)
 |.gu []=>K (σ.put d (.gu []))
 |_=>False
def HQ(o:aq)(σ:St)(K:St→Prop):Prop:=
 match o.g with
 |none=>UL P o.op o.dst σ K
 |some (t,want)=>xE P o.op o.dst t want σ K (look σ.e t)
def swp:List aq→St→(St→Prop)→Prop
 |[],σ,K=>K σ
 |o::r,σ,K=>HQ P o σ (fun τ=>swp r τ K)
def Xw(r:List aq)(K:St→Prop)(τ:St):Prop:=swp P r τ K
def bA:AV→Bool
 |.loc _=>false
 |_=>true
def HT(g:Bool):PR→PR
 |.c8 a=>.c8 (.when g a)
 |.prt c a=>.prt (g=true→c) (.when g a)
 |.no=>.no
def Tx:rh→Bool
 |.bW _ _ _=>true
 |_=>false
def LY(r g:Bool):PR→PR
 |.c8 a=>.c8 (.when g a)
 |.prt c a=>.prt (g=true→c) (.when g a)
 |.no=>bif r then .prt (g=false) (.when g .undef)else .no
def Ht(o:rh)(want:Bool)(σ:St):AV→PR
 |.bool b=>LY (Tx o) (b==want) (pv o (xg (b==want) σ) σ)
 |.when g (.bool b)=>LY (Tx o) (g&&(b==want)) (pv o (xg (g&&(b==want)) σ) σ)
 |_=>.no
def qv(o:aq)(σ:St):PR:=match o.g with
 |none=>pv o.op (xg true σ) σ
 |some (t,want)=>Ht o.op want σ (look σ.e t)
def qK(σ:St)(d:Option Nat)(K:St→Prop):PR→Prop
 |.c8 a=>bA a=true∧K ((bV σ a d).put d a)
 |.prt c a=>c∧bA a=true∧K ((bV σ a d).put d a)
 |.no=>False
def Km(f:Nat)(σ:St)(d:Option Nat)(K:St→Prop):Option (List AV)→Prop
 |some as=>∃rs,iO rs=true∧FE P f as σ.s rs σ.s∧K (σ.put d (eR rs))
 |none=>False
def PX(f:Nat)(first caps:List AV)(σ:St)(d:Option Nat)(K:St→Prop):Option (List AV)→Prop
 |some as=>vS P f=true∧∃rs,iO rs=true∧FE P f (first++as++caps) σ.s rs σ.s∧K (σ.put d (eR rs))
 |none=>False
def Tq(σ:St)(args:Option (List AV))(d:Option Nat)(K:St→Prop):AV→Prop
 |.fn f first caps=>PX P f first caps σ d K args
 |_=>False
def callee(x:IX)(args:List IX)(g:Bool)(σ:St)(f:Nat)(as:List AV):Prop:=∃first caps xs,xg g σ x=.fn f first caps∧cc (xg g σ) args=some xs∧as=first++xs++caps
def Ao(x:IX)(args:List IX)(want:Bool)(σ:St)(d:Option Nat)(K:St→Prop):AV→Prop
 |.bool b=>∃rs,iO rs=true∧((b==want)=true→∃f as,callee x args (b==want) σ f as∧vS P f=true∧FE P f as σ.s rs σ.s)∧K (σ.put d (.when (b==want) (eR rs)))
 |.when g (.bool b)=>∃rs,iO rs=true∧((g&&(b==want))=true→∃f as,callee x args (g&&(b==want)) σ f as∧vS P f=true∧FE P f as σ.s rs σ.s)∧K (σ.put d (.when (g&&(b==want)) (eR rs)))
 |_=>False
def BL(f:Nat)(args:List IX)(want:Bool)(σ:St)(d:Option Nat)(K:St→Prop):AV→Prop
 |.bool b=>∃rs,iO rs=true∧((b==want)=true→∃as,cc (xg (b==want) σ) args=some as∧FE P f as σ.s rs σ.s)∧K (σ.put d (.when (b==want) (eR rs)))
 |.when g (.bool b)=>∃rs,iO rs=true∧((g&&(b==want))=true→∃as,cc (xg (g&&(b==want)) σ) args=some as∧FE P f as σ.s rs σ.s)∧K (σ.put d (.when (g&&(b==want)) (eR rs)))
 |_=>False
def Zm(σ:St)(d:Option Nat)(K:St→Prop):AV→Prop
 |.sl _ sz _ cs=>sz=1∧∃s:List UInt8,cs=(s.map fun c=>.int .u8 c.toNat)∧K (σ.put d (.str s))
 |_=>False
def td:AV→PR
 |.str s=>.c8 (.sl (Pj s) 1 s.length (s.map fun c=>.int .u8 c.toNat))
 |_=>.no
def B6(sz n:Nat):Option (List AV)→PR
 |some cs=>.prt (cs.length=n*sz) (.sl true sz n cs)
 |none=>.no
def qe(f:IX→AV)(s:ab):rh→PR
 |.hE x=>td (f x)
 |.b5 sz n zero parts=>B6 sz n (fill f zero parts)
 |.lookup kk zero ok x k=>iw kk zero ok s (f k) (f x)
 |.ji x=>zz (f x)
 |.re x=>yn (f x)
 |_=>.no
def Kn(o:rh)(want:Bool)(σ:St):AV→PR
 |.bool b=>HT (b==want) (qe (xg (b==want) σ) σ.s o)
 |.when g (.bool b)=>HT (g&&(b==want)) (qe (xg (g&&(b==want)) σ) σ.s o)
 |_=>.no
def BM(o:aq)(σ:St):PR:=match o.g with
 |none=>qe (xg true σ) σ.s o.op
 |some (t,want)=>Kn o.op want σ (look σ.e t)
def q1(o:aq)(σ:St)(K:St→Prop):Prop:=
 match o with
 |⟨d,.call f args,none⟩=>Km P f σ d K (cc (xg true σ) args)
 |⟨d,.iT true x,none⟩=>M6 σ x d K (σ.x x)
 |⟨d,.call f args,some (t,want)⟩=>BL P f args want σ d K (look σ.e t)
 |⟨d,.eC x args,none⟩=>Tq P σ (cc (xg true σ) args) d K (xg true σ x)
 |⟨d,.eC x args,some (t,want)⟩=>Ao P x args want σ d K (look σ.e t)
 |⟨d,.hE x,g⟩=>qK σ d K (BM ⟨d,.hE x,g⟩ σ)
 |⟨d,.b5 sz n zero parts,g⟩=>qK σ d K (BM ⟨d,.b5 sz n zero parts,g⟩ σ)
 |⟨d,.lookup kk zero ok x k,g⟩=>qK σ d K (BM ⟨d,.lookup kk zero ok x k,g⟩ σ)
 |⟨d,.ji x,g⟩=>qK σ d K (BM ⟨d,.ji x,g⟩ σ)
 |⟨d,.re x,g⟩=>qK σ d K (BM ⟨d,.re x,g⟩ σ)
 |o=>qK σ o.dst K (qv o σ)
def bB(σ:St):Option Nat→Bool
 |some d=>bA (look σ.e d)
 |none=>true
def Ov:Nat→List aq→St→(St→Prop)→Prop
 |0,l,σ,K=>swp P l σ K
 |_+1,[],σ,K=>K σ
 |q+1,o::r,σ,K=>bB σ o.dst=true∧q1 P o σ (fun τ=>Ov q r τ K)
def Xa(q:Nat)(r:List aq)(K:St→Prop)(τ:St):Prop:=Ov P q r τ K
def nE(c:Nat):AV→Bool
 |.lp t _=>!Nat.beq t c
 |.when _ v=>nE c v
 |_=>true
def pV:List Nat→AV→Bool
 |[],_=>true
 |c::T,a=>nE c a&&pV T a
def gq(T:List Nat):List (Nat×AV)→Bool
 |[]=>true
 |p::e=>pV T p.2&&gq T e
def NB(n:Nat)(σ:St)(c:Nat)(x:IX)(K:St→Prop):AV→Prop
 |.loc ez=>ez.length=n∧c9 (σ.x x)=true∧(bp (σ.x x)).length=n∧K ((σ.drain x).put (some c) (.loc (bp (σ.x x))))
 |_=>False
def q2(o:aq)(σ:St)(K:St→Prop):Prop:=
 match o with
 |⟨none,.store n (.t c) x,none⟩=>NB n σ c x K (look σ.e c)
 |⟨some d,.aQ z,none⟩=>bA (look σ.e d)=true∧jL σ.lp (some d)=true∧K (σ.put (some d) (.loc z))
 |⟨some d,.append sz bytes x y,none⟩=>bA (look σ.e d)=true∧jD sz bytes σ x (some d) K (σ.x x) (σ.x y)
 |⟨some d,.lM off (.t i) x,none⟩=>bA (look σ.e d)=true∧A7 (.t i) off (σ.x x)=true∧og σ (some d) K (σ.x x)
 |⟨_,.store _ _ _,_⟩=>False
 |⟨_,.aQ _,_⟩=>False
 |⟨_,.append _ _ _ _,_⟩=>False
 |⟨_,.lM _ _ _,_⟩=>False
 |o=>bB σ o.dst=true∧q1 P o σ K
def BO(T:List Nat):Nat→List aq→St→(St→Prop)→Prop
 |0,l,σ,K=>swp P l σ K
 |_+1,[],σ,K=>K σ
 |q+1,o::r,σ,K=>q2 P o σ (fun τ=>gq T τ.e=true∧BO T q r τ K)
def Rn(T:List Nat)(q:Nat)(r:List aq)(K:St→Prop)(τ:St):Prop:=gq T τ.e=true∧BO P T q r τ K
def lh:AV→Bool
 |.ref _ _=>false
 |.when _ a=>lh a
 |_=>true
def lu(o:aq)(σ:St):Bool:=match o.op with
 |.load _ _ x=>lh (σ.x x)
 |.bW _ _ _=>false
 |.lN _ _=>false
 |.lookup _ _ _ _ _=>false
 |.call _ _=>false
 |.eC _ _=>false
 |.len c _=>!Nat.beq c 2
 |_=>true
def xt(f:Nat)(s:ab)(C:AV→ab→Prop):Option (List AV)→Prop
 |some args=>FN P f args s (fun rs s'=>iO rs=true∧C (eR rs) s')
 |none=>False
def Gg(f:Nat)(first caps:List AV)(s:ab)(C:AV→ab→Prop):Option (List AV)→Prop
 |some args=>vS P f=true∧FN P f (first++args++caps) s (fun rs s'=>iO rs=true∧C (eR rs) s')
 |none=>False
def s9(args:Option (List AV))(s:ab)(C:AV→ab→Prop):AV→Prop
 |.fn f first caps=>Gg P f first caps s C args
 |_=>False
def rn(bytes:Nat)(zero:List AV)(s:ab)(C:AV→ab→Prop):AV→AV→Prop
 |.int _ l,.int _ c=>0≤l∧l≤c∧c*bytes≤room∧∀b,s b=none→C (.arr b 0 l.toNat c.toNat) (s.set b (.cells ((List.replicate c.toNat zero).flatten)))
 |_,_=>False
def Vy(n:Nat)(s:ab)(C:AV→ab→Prop)(a:AV):Prop:=c9 a=true∧(cellsOf a).length=n∧∀b,s b=none→C (.ref b 0) (s.set b (.cells (views (cellsOf a))))
def Gj(b off:Nat)(news:List AV)(s:ab)(C:AV→ab→Prop):Option SO→Prop
 |some (.cells ez)=>off+news.length≤ez.length∧C (.gu []) (s.set b (.cells (setAt ez off news)))
 |_=>False
def Kh:AV→Bool
 |.sl true _ _ _=>false
 |.bb _ _ _=>false
 |_=>true
def nq(n:Nat)(s:ab)(C:AV→ab→Prop)(v:AV):AV→Prop
 |.ref b off=>c9 v=true∧Kh v=true∧(bp v).length=n∧Gj b off (bp v) s C (s b)
 |_=>False
def Ie(kk:ly)(b:Nat)(s:ab)(k v:AV)(C:AV→ab→Prop):Option SO→Prop
 |some (.map es)=>(c9 v=true∧fL kk k=true∧mO kk es=true)∧C (.gu []) (s.set b (.map (wT (view k) (view v) es)))
 |_=>False
def Dv(kk:ly)(s:ab)(k v:AV)(C:AV→ab→Prop):AV→Prop
 |.mp b=>Ie kk b s k v C (s b)
 |_=>False
def vE(b off:Nat)(s:ab)(C:AV→ab→Prop):Option SO→Prop
 |some (.cells cs)=>iJ off cs fun cs' a=>C a (s.set b (.cells cs'))
 |_=>False
def rp(s:ab)(C:AV→ab→Prop):AV→Prop
 |.ref b off=>vE b off s C (s b)
 |_=>False
def qV(o:rh)(σ:St)(C:AV→ab→Prop):Prop:=match o with
 |.call f args=>xt P f σ.s C (cc (xg true σ) args)
 |.eC x args=>s9 P (cc (xg true σ) args) σ.s C (xg true σ x)
 |.gE _ bytes zero l c=>rn bytes zero σ.s C (xg true σ l) (xg true σ c)
 |.makeMap=>∀b,σ.s b=none→C (.mp b) (σ.s.set b (.map []))
 |.gV zero=>∀b,σ.s b=none→C (.ref b 0) (σ.s.set b (.cells zero))
 |.qU n x=>Vy n σ.s C (xg true σ x)
 |.store n p v=>nq n σ.s C (σ.x v) (σ.x p)
 |.mapUpdate kk x k v=>Dv kk σ.s (xg true σ k) (xg true σ v) C (xg true σ x)
 |.kZ x=>rp σ.s C (σ.x x)
 |_=>False
def Ma(σ:St)(d:Option Nat)(K:St→Prop)(a:AV)(s':ab):Prop:=K ({σ with s:=s'}.put d a)
def Oi(o:aq)(σ:St)(K:St→Prop):Prop:=match o.g with
 |none=>bB σ o.dst=true∧qV P o.op σ (Ma σ o.dst K)
 |some _=>False
def Dw(T:List Nat):List (Nat×Nat×aq)→St→(St→Prop)→Prop
 |[],σ,K=>K σ
 |(0,_,o)::r,σ,K=>q2 P o σ (fun τ=>gq T τ.e=true∧Dw T r τ K)
 |(1,_,o)::r,σ,K=>lu o σ=true∧q2 P o σ (fun τ=>gq T τ.e=true∧Dw T r τ K)
 |(2,_,o)::r,σ,K=>Oi P o σ (fun τ=>gq T τ.e=true∧Dw T r τ K)
 |(_+3,_,o)::r,σ,K=>HQ P o σ (fun τ=>gq T τ.e=true∧Dw T r τ K)
def Mg(T:List Nat)(r:List (Nat×Nat×aq))(K:St→Prop)(τ:St):Prop:=gq T τ.e=true∧Dw P T r τ K
def xh:List Bool→List Bool→Bool
 |d::r,x::s=>(!d||x)&&xh r s
 |_,_=>true
def yr:List Bool→List Bool→List Bool
 |[],s=>s
 |x::p,s=>yr p (x::s)
def JH(done:List Bool):List (List Bool)→List Bool→List Bool→List aq→(aq→List Bool→Prop)→Prop
 |row::rows,pre,x::xs,o::r,F=>(bif !x&&xh row done then F o (yr pre (true::xs))else True)∧JH done rows (x::pre) xs r F
 |_,_,_,_,_=>True
def sW:List aq→List Bool
 |[]=>[]
 |_::r=>false::sW r
def LP(deps:List (List Bool))(ops:List aq)(K:St→Prop):List aq→List Bool→St→Prop
 |[],_,σ=>K σ
 |_::f,done,σ=>JH done deps [] done ops (fun o d=>HQ P o σ (fun τ=>LP deps ops K f d τ))
def XT(deps:List (List Bool))(ops:List aq)(K:St→Prop)(f:List aq)(done:List Bool)(τ:St):Prop:=LP P deps ops K f done τ
def sw(live:List Nat)(Q:Exit→St→Prop)(τ:St):Prop:=Q .normal (τ.vb live)
def H9(id:Nat)(Q:Exit→St→Prop):Exit→St→Prop
 |.exit i,τ=>bif i==id then Q .normal τ else Q (.exit i) τ
 |x,τ=>Q x τ
def DY(live:List (Nat×Bool))(I:St→Prop)(μ:St→Nat)(m:Nat)(Q:Exit→St→Prop):Exit→St→Prop
 |.normal,ρ=>I (ρ.dS live)∧μ (ρ.dS live)<m
 |x,ρ=>Q x ρ
def oS(live:List (Nat×Bool))(J:St→Prop)(Q:Exit→St→Prop):Exit→St→Prop
 |.normal,ρ=>J (ρ.dS live)
 |x,ρ=>Q x ρ
def HH(live:List (Nat×Bool))(I:St→Prop)(Q:Exit→St→Prop):Exit→St→Prop
 |.normal,ρ=>I (ρ.dS live)
 |.goto _,_=>False
 |x,ρ=>Q x ρ
def IY(l:Nat)(live:List (Nat×Bool))(I:St→Prop)(Q:Exit→St→Prop):Exit→St→Prop
 |.goto l',ρ=>l'=l∧I (ρ.dS live)
 |x,ρ=>Q x ρ
def gP:IC→(Exit→St→Prop)→St→Prop
 |.skip,Q,σ=>Q .normal σ
 |.cU q ops live,Q,σ=>match q with
  |none=>swp P ops σ (sw live Q)
  |some q=>Ov P q ops σ (sw live Q)
 |.FJ T q ops live,Q,σ=>gq T σ.e=true∧BO P T q ops σ (sw live Q)
 |.FI T l live,Q,σ=>gq T σ.e=true∧Dw P T l σ (sw live Q)
 |.Lz deps ops live,Q,σ=>LP P deps ops (sw live Q) ops (sW ops) σ
 |.seq a b,Q,σ=>gP a (fun x τ=>match x with|.normal=>gP b Q τ|x=>Q x τ) σ
 |.cond c a b,Q,σ=>match σ.x c with
  |.bool v=>(v=true→gP a Q σ)∧(v=false→gP b Q σ)
  |_=>False
 |.block id b,Q,σ=>gP b (H9 id Q) σ
 |.loop live b,Q,σ=>∃(I:St→Prop)(μ:St→Nat),I (σ.dS live)∧∀τ,I τ→gP b (DY live I μ (μ τ) Q) τ
 |.join live a b,Q,σ=>∃J:St→Prop,gP a (oS live J Q) σ∧∀τ,J τ→gP b Q τ
 |.exit id,Q,σ=>Q (.exit id) σ
 |.scope b,Q,σ=>gP b (fun x τ=>match x with|.goto _=>False|x=>Q x τ) σ
 |.vt l live a1 a2 a3 r,Q,σ=>
  let K:=HH live (fun ρ=>∃(I:St→Prop)(μ:St→Nat),I ρ∧∀τ,I τ→gP r (IY l live (fun ρ'=>I ρ'∧μ ρ'<μ τ) Q) τ) Q
  gP a1 (fun x τ=>match x with|.normal=>gP a2 (fun x τ=>match x with|.normal=>gP a3 K τ|x=>K x τ) τ|x=>K x τ) σ
 |.label _,Q,σ=>Q .normal σ
 |.goto l,Q,σ=>Q (.goto l) σ
 |.ret,Q,σ=>Q .ret σ
 |.dead,_,_=>False
def O8(l:Nat)(live:List (Nat×Bool))(r:IC)(Q:Exit→St→Prop)(ρ:St):Prop:=∃(I:St→Prop)(μ:St→Nat),I ρ∧∀τ,I τ→gP P r (IY l live (fun ρ'=>I ρ'∧μ ρ'<μ τ) Q) τ
def zZ(b:IC)(Q:Exit→St→Prop):Exit→St→Prop
 |.normal,τ=>gP P b Q τ
 |x,τ=>Q x τ
def Jy(Q:Exit→St→Prop):Exit→St→Prop
 |.goto _,_=>False
 |x,τ=>Q x τ
def JV(a b:IC)(Q:Exit→St→Prop)(σ:St):AV→Prop
 |.bool v=>(v=true→gP P a Q σ)∧(v=false→gP P b Q σ)
 |_=>False
end
end Go.AB
end
