/- A part of the proof: Ab1, Ab2. -/
import Derived.Orders
import Derived.Laws.Sem
set_option linter.unusedSimpArgs false
set_option linter.unusedVariables false
section
namespace Go.AB
open Go
inductive AV where
 |undef
 |bool (b:Bool)
 |int (k:IntKind) (n:Int)
 |str (s:List UInt8)
 |dK
 |ref (b off:Nat)
 |lp (d off:Nat)
 |sp (cs:List AV)
 |loc (cs:List AV)
 |sl (own:Bool) (sz n:Nat) (cs:List AV)
 |arr (b off len cap:Nat)
 |agg (cs:List AV)
 |gw (vs:List AV)
 |fn (f:Nat) (first en:List AV)
 |oK
 |mp (b:Nat)
 |oL
 |when (b:Bool) (a:AV)
 |us (sz n:Nat) (cs:List AV)
 |one
 |qE (t:Nat)
 |A6
 |bb (t n:Nat) (cs:List AV)
 deriving Inhabited
inductive SO where
 |cells (cs:List AV)
 |map (es:List (AV×AV))
 deriving Inhabited
abbrev ab:=Nat->Option SO
def ab.set(s:ab)(b:Nat)(o:SO):ab:=fun i=>if i=b then some o else s i
def ab.del(s:ab)(b:Nat):ab:=fun i=>if i=b then none else s i
inductive k9 where
 |int (k:IntKind)
 |str
 |bool
 |bytes (n:Nat)
 deriving Inhabited
inductive IX where
 |t (i:Nat)
 |c (a:AV)
 deriving Inhabited
inductive ua where
 |jL (tr:Bool) (x:IX)
 |pick (c x y:IX)
 |aq (zero:List AV)
 |gC (zero:List AV)
 |dc (n:Nat) (x:IX)
 |oz (n:Nat) (x:IX)
 |build (zero:List AV) (parts:List (Nat×Nat×IX))
 |bq (sz len:Nat) (zero:List AV) (parts:List (Nat×Nat×IX))
 |load (n:Nat) (multi:Bool) (x:IX)
 |store (n:Nat) (p v:IX)
 |nilCheck (x:IX)
 |bin (op:BinOp) (x y:IX)
 |U4 (ne:Bool) (x y:IX)
 |Ov (ne:Bool) (x y:IX)
 |un (op:UnOp) (x:IX)
 |jI (k:IntKind) (x:IX)
 |fo (x:IX)
 |gD (x:IX)
 |iK (x i:IX)
 |fieldAddr (off:Nat) (x:IX)
 |indexAddr (zero:List AV) (x i:IX)
 |slice (sz:Nat) (x:IX) (lo hi mx:Option IX)
 |qW (x:IX) (lo hi:Option IX)
 |extract (x:IX) (k:Nat)
 |len (cls:Nat) (x:IX)
 |cap (x:IX)
 |fP (mx:Bool) (xs:List IX)
 |append (sz bytes:Nat) (x y:IX)
 |fO (sz bytes:Nat) (zero:List AV) (l c:IX)
 |makeMap
 |lookup (kk:k9) (zero:AV) (ok:Bool) (x k:IX)
 |mapUpdate (kk:k9) (x k v:IX)
 |bf (zero:List AV) (multi:Bool) (x:IX)
 |kc (x:IX)
 |rW (x:IX)
 |call (f:Nat) (args:List IX)
 |cu (x:IX) (args:List IX)
 |kq (f:Nat) (first en:List IX)
 |jR (sz len:Nat) (zero:List AV) (parts:List (Nat×Nat×IX))
 |eV (sz bytes:Nat) (zero:List AV) (x y:IX)
 |gN (sz:Nat) (x y:IX)
 |mo (zero:List AV) (x:IX)
 |T7 (sz:Nat) (own:Bool) (x:IX)
 |jh (x:IX)
 |YE (ne:Bool) (x:IX)
 |U7 (f:Nat) (x y:IX)
 |uI (f i:Nat) (args:List IX)
 |lz (sz bytes:Nat) (zero:List AV) (x y:IX)
 |Za (ne:Bool) (x:IX)
 |qX (sz n:Nat) (p v:IX)
 |Fq (sz n:Nat) (x:IX)
 |oq (off:Nat) (j x:IX)
 |mh (k:IntKind) (x:IX)
 |yq (sz:Nat) (own:Bool) (x:IX)
 |LC (n t j u:Nat) (x:IX)
 deriving Inhabited
structure ah where
 dst:Option Nat
 op:ua
 g:Option (Nat×Bool)
 deriving Inhabited
inductive IC where
 |skip
 |bN (q:Option Nat) (ops:List ah) (live:List Nat)
 |wq (T:List Nat) (q:Nat) (ops:List ah) (live:List Nat)
 |HM (T:List Nat) (l:List (Nat×Nat×ah)) (live:List Nat)
 |UH (gl:List (List Bool)) (ops:List ah) (live:List Nat)
 |seq (a b:IC)
 |cond (c:IX) (a b:IC)
 |block (id:Nat) (b:IC)
 |loop (live:List (Nat×Bool)) (b:IC)
 |join (live:List (Nat×Bool)) (a b:IC)
 |exit (id:Nat)
 |scope (b:IC)
 |CI (l:Nat) (live:List (Nat×Bool)) (a1 a2 a3 r:IC)
 |label (l:Nat)
 |goto (l:Nat)
 |ret
 |dead
 deriving Inhabited
structure St where
 e:List (Nat×AV)
 lp:List (Nat×Nat)
 s:ab
def look:List (Nat×AV)->Nat->AV
 |[],_=>.undef
 |(j,a)::l,i=>bif j==i then a else look l i
def St.x(E:St):IX->AV
 |.t i=>look E.e i
 |.c a=>a
def St.put(E:St)(d:Option Nat)(a:AV):St:=
 match d with
 |some d=>{E with e:=(d,a)::E.e}
 |none=>E
def dQ:AV->AV
 |.lp _ _=>.undef
 |.when _ _=>.undef
 |a=>a
def St.zm(E:St)(live:List Nat):St:={e:=live.map fun i=>(i,dQ (look E.e i)),lp:=[],s:=E.s}
def view:AV->AV
 |.sl _ sz n cs=>.sl false sz n cs
 |.us _ _ _=>.undef
 |.qE _=>.dK
 |.bb _ n cs=>.sl false 1 n cs
 |a=>a
def Ys(b:Bool)(a:AV):AV:=bif b then view a else a
def St.ep(E:St)(live:List (Nat×Bool)):St:={e:=live.map fun p=>(p.1,Ys p.2 (dQ (look E.e p.1))),lp:=[],s:=E.s}
def inner:AV->Bool
 |.loc _=>false
 |.when _ _=>false
 |_=>true
def zP(g:Bool):AV->AV
 |.when b a=>bif((b==g)||b)&&inner a then a else .undef
 |a=>a
def sH:Int:=9223372036854775807
def dt:AV->Bool
 |.undef=>false
 |.lp _ _=>false
 |.loc _=>false
 |.gw _=>false
 |.when _ _=>false
 |.us _ _ _=>false
 |.qE _=>false
 |_=>true
def nX(k:IntKind)(n:Int):Int:=k.wrap n
inductive PR where
 |dv (a:AV)
 |prt (c:Prop) (a:AV)
 |no
def Ui(k k':IntKind):Bool:=decide (k=k')
def kk(k k':IntKind)(r:PR):PR:=bif Ui k k' then r else .no
def z6(op:BinOp)(k k':IntKind)(a b:Int):PR:=
 match op with
 |.shl=>.prt (0<=b) (.int k (nX k (a*2^(min b.toNat k.bits))))
 |.shr=>.prt (0<=b) (.int k (a.fdiv (2^(min b.toNat k.bits))))
 |.add=>kk k k' (.dv (.int k (nX k (a+b))))
 |.sub=>kk k k' (.dv (.int k (nX k (a -b))))
 |.mul=>kk k k' (.dv (.int k (nX k (a*b))))
 |.quo=>kk k k' (.prt (b≠0) (.int k (nX k (a.tdiv b))))
 |.rem=>kk k k' (.prt (b≠0) (.int k (a.tmod b)))
 |.and=>kk k k' (.dv (.int k (k.wrap (BitVec.ofInt k.bits a&&&BitVec.ofInt k.bits b).toNat)))
 |.or=>kk k k' (.dv (.int k (k.wrap (BitVec.ofInt k.bits a |||BitVec.ofInt k.bits b).toNat)))
 |.xor=>kk k k' (.dv (.int k (k.wrap (BitVec.ofInt k.bits a^^^BitVec.ofInt k.bits b).toNat)))
 |.andNot=>kk k k' (.dv (.int k (k.wrap (BitVec.ofInt k.bits a&&& ~~~BitVec.ofInt k.bits b).toNat)))
 |.eql=>kk k k' (.dv (.bool (a==b)))
 |.neq=>kk k k' (.dv (.bool (a !=b)))
 |.lss=>kk k k' (.dv (.bool (decide (a<b))))
 |.leq=>kk k k' (.dv (.bool (decide (a<=b))))
 |.gtr=>kk k k' (.dv (.bool (decide (a>b))))
 |.geq=>kk k k' (.dv (.bool (decide (a>=b))))
def NY(op:BinOp)(a b:List UInt8):PR:=
 match op with
 |.add=>.prt (((a.length+b.length:Nat):Int)<=sH) (.str (a++b))
 |.eql=>.dv (.bool (a==b))
 |.neq=>.dv (.bool (!(a==b)))
 |.lss=>.dv (.bool (Op.bytesLess a b))
 |.leq=>.dv (.bool (Op.bytesLess a b||a==b))
 |.gtr=>.dv (.bool (!(Op.bytesLess a b||a==b)))
 |.geq=>.dv (.bool (!Op.bytesLess a b))
 |_=>.no
def QC(op:BinOp)(x y:AV):PR:=
 match x,y with
 |.int k a,.int k' b=>z6 op k k' a b
 |.str a,.str b=>NY op a b
 |_,_=>.no
def Q3(ne:Bool)(x y:AV):PR:=
 match x,y with
 |.bool a,.bool b=>.dv (.bool ((a==b)!=ne))
 |_,_=>.no
def Ow(ne:Bool)(x y:AV):PR:=
 match x,y with
 |.dK,.dK=>.dv (.bool (!ne))
 |.ref _ _,.dK=>.dv (.bool ne)
 |.dK,.ref _ _=>.dv (.bool ne)
 |.ref b o,.ref b' o'=>bif b==b'&&o==o' then .dv (.bool (!ne))else .no
 |_,_=>.no
def ami(ne:Bool)(x y:AV):PR:=
 match x,y with
 |.sl _ _ (_+1) _,.sl _ _ 0 []=>.dv (.bool ne)
 |.arr _ _ _ (_+1),.sl _ _ 0 []=>.dv (.bool ne)
 |_,_=>.no
def ES:List AV->List AV->Bool
 |[],[]=>true
 |.int k _::r,.int k' _::s=>Ui k k'&&ES r s
 |_,_=>false
def Q4:List AV->List AV->Bool
 |.int _ a::r,.int _ b::s=>(a==b)&&Q4 r s
 |_,_=>true
def amh(n:Nat)(ne:Bool)(x y:AV):PR:=
 match x,y with
 |.agg cs,.agg ds=>bif ES cs ds&&cs.length==n then .dv (.bool (Q4 cs ds !=ne))else .no
 |_,_=>.no
def Ot(ne:Bool):AV->PR
 |.fn _ _ _=>.dv (.bool ne)
 |.oK=>.dv (.bool (!ne))
 |_=>.no
def cellsOf:AV->List AV
 |.agg cs=>cs
 |a=>[a]
def rn(multi:Bool)(cs:List AV):AV:=match multi,cs with
 |true,cs=>.agg cs
 |false,a::_=>a
 |false,[]=>.undef
def sub(cs:List AV)(off n:Nat):List AV:=(cs.drop off).take n
def views(cs:List AV):List AV:=cs.map view
def aZ:AV->List AV
 |.agg cs=>views cs
 |a=>[a]
def setAt(cs:List AV)(off:Nat)(news:List AV):List AV:=cs.take off++news++cs.drop (off+news.length)
def bx(b:Bool):AV->Option Bool
 |.bool x=>some x
 |.when b' (.bool x)=>bif(b'==b)||b' then some x else none
 |_=>none
def fill(f:IX->AV)(cells:List AV):List (Nat×Nat×IX)->Option (List AV)
 |[]=>some cells
 |(off,n,x)::r=>
  let c:=views (cellsOf (f x))
  bif dt (f x)&&(c.length==n&&decide (off+n<=cells.length))then fill f (setAt cells off c) r else none
def gy(n off:Nat)(cs:List AV):Option (List AV):=bif decide (off+n<=cs.length)then some (views (sub cs off n))else none
def ml(n off:Nat):AV->Option (List AV)
 |.loc cs=>gy n off cs
 |_=>none
def wh(n off:Nat):Option SO->Option (List AV)
 |some (.cells cs)=>gy n off cs
 |_=>none
def rd(E:St)(p:AV)(n:Nat):Option (List AV):=
 match p with
 |.loc cs=>gy n 0 cs
 |.lp d off=>ml n off (look E.e d)
 |.sp cs=>gy n 0 cs
 |.ref b off=>wh n off (E.s b)
 |_=>none
def IB(f:IX->AV)(o:Option IX)(akz:Int):Option Int:=
 match o with
 |none=>some akz
 |some x=>match f x with
  |.int _ n=>some n
  |_=>none
def PF(mx:Bool):Int->List AV->Option Int
 |a,[]=>some a
 |a,.int _ b::r=>PF mx (bif mx then max a b else min a b) r
 |_,_=>none
def ry:AV->Bool
 |.agg _=>false
 |a=>dt a
def Fl(cs:List AV):Prop:=∀c∈cs,ry c=true
def CW(t:Nat)(cs:List AV):Prop:=∀c∈cs,ry c=true\/c=.qE t
def Us(a:AV):PR:=bif dt a then .dv (view a)else .no
def V4:AV->Option (Bool×Bool)
 |.bool x=>some (true,x)
 |.when b (.bool x)=>some (b,x)
 |_=>none
def XK(b:Bool):Option (Bool×Bool)->Option (Bool×Bool)->PR
 |some (g1,p),some (g2,q)=>.prt ((b=true->g1=true)/\(b=false->g2=true)) (.bool (bif b then p else q))
 |_,_=>.no
def gv2:AV->Option (Bool×Bool)
 |.gw []=>some (false,false)
 |a=>V4 a
def Lb(x y:AV):AV->PR
 |.bool b=>XK b (gv2 x) (gv2 y)
 |_=>.no
def ckV(a:AV):PR:=bif dt a then .dv a else .no
def ckP(c:Prop)(a:AV):PR:=bif dt a then .prt c a else .no
def unV:UnOp->AV->PR
 |.not,.bool b=>.dv (.bool (!b))
 |.neg,.int k n=>.dv (.int k (nX k (0 -n)))
 |_,_=>.no
def wW(k:IntKind):AV->PR
 |.int _ n=>.dv (.int k (nX k n))
 |_=>.no
def aky:AV->PR
 |.str s=>.dv (.str s)
 |_=>.no
def jF(multi:Bool):Option (List AV)->PR
 |some cs=>ckV (rn multi cs)
 |none=>.no
def xp:AV->AV->PR
 |.str s,.int _ k=>.prt (0<=k/\k<s.length) (.int .u8 (s.getD k.toNat 0).toNat)
 |_,_=>.no
def mD:AV->PR
 |.ref b off=>.dv (.ref b off)
 |_=>.no
def ZF(c:Prop)(off:Nat):IX->PR
 |.t i=>.prt (c) (.lp i off)
 |.c _=>.no
def gm(off:Nat)(x:IX):AV->PR
 |.lp d o=>.dv (.lp d (o+off))
 |.sp cs=>bif decide (off<=cs.length)then .dv (.sp (cs.drop off))else .no
 |.ref b o=>.dv (.ref b (o+off))
 |.loc _=>ZF True off x
 |_=>.no
def pad(zero cs:List AV):List AV:=bif cs.length==zero.length then cs else zero
def ki(zero:List AV):AV->AV->PR
 |.sl _ s n cs,.int _ k=>bif s==zero.length then .prt (0<=k/\k<n) (.sp (pad zero (views (sub cs (k.toNat*zero.length) zero.length))))else .no
 |.arr b off n _,.int _ k=>.prt (0<=k/\k<n) (.ref b (off+k.toNat*zero.length))
 |_,_=>.no
def E5(sz n:Nat)(cs:List AV):Option Int->Option Int->PR
 |some l,some h=>bif Nat.ble 1 sz then .prt (0<=l/\l<=h/\h<=n) (.sl false sz ((sub cs (l.toNat*sz) ((h -l).toNat*sz)).length/sz) (sub cs (l.toNat*sz) ((h -l).toNat*sz)))else .no
 |_,_=>.no
def iY(off cap l sz:Nat):Nat:=bif cap==l then off else off+l*sz
def Bm(sz b off cap:Nat):Option Int->Option Int->PR
 |some l,some h=>.prt (0<=l/\l<=h/\h<=cap) (.arr b (iY off cap l.toNat sz) (h -l).toNat (cap -l.toNat))
 |_,_=>.no
def CK(sz b off cap:Nat):Option Int->Option Int->Option Int->PR
 |some l,some h,some m=>.prt (0<=l/\l<=h/\h<=m/\m<=cap) (.arr b (iY off m.toNat l.toNat sz) (h -l).toNat (m.toNat -l.toNat))
 |_,_,_=>.no
def qw(sz:Nat)(f:IX->AV)(lo hi:Option IX)(mx:IX):AV->PR
 |.arr b off _ cap=>CK sz b off cap (IB f lo 0) (bif hi.isSome then IB f hi 0 else none) (IB f (some mx) 0)
 |_=>.no
def QJ:AV->PR
 |.arr _ _ _ cap=>.dv (.int .i64 cap)
 |_=>.no
def wx(sz:Nat)(f:IX->AV)(lo hi:Option IX):AV->PR
 |.sl _ s n cs=>bif s==sz then E5 sz n cs (IB f lo 0) (IB f hi n)else .no
 |.arr b off n cap=>Bm sz b off cap (IB f lo 0) (IB f hi n)
 |_=>.no
def Bo(s:List UInt8):Option Int->Option Int->PR
 |some l,some h=>.prt (0<=l/\l<=h/\h<=s.length) (.str ((s.drop l.toNat).take (h -l).toNat))
 |_,_=>.no
def mN(f:IX->AV)(lo hi:Option IX):AV->PR
 |.str s=>Bo s (IB f lo 0) (IB f hi s.length)
 |_=>.no
def Rt:Option SO->PR
 |some (.map es)=>.dv (.int .i64 es.length)
 |_=>.no
def D7(s:ab):Nat->AV->PR
 |0,.sl _ _ n _=>.dv (.int .i64 n)
 |0,.arr _ _ n _=>.dv (.int .i64 n)
 |1,.str s=>.dv (.int .i64 s.length)
 |2,.oL=>.dv (.int .i64 0)
 |2,.mp b=>Rt (s b)
 |_,_=>.no
def ahR(k:IntKind):Option Int->PR
 |some m=>.dv (.int k m)
 |none=>.no
def xc(mx:Bool):List AV->PR
 |.int k n::r=>ahR k (PF mx n r)
 |_=>.no
def Ox:Option AV->PR
 |some a=>ckV (view a)
 |none=>.no
def ru(k:Nat):AV->PR
 |.gw vs=>Ox vs[k]?
 |_=>.no
def byteOf:AV->Option UInt8
 |.int .u8 n=>if 0<=n/\n<256 then some (UInt8.ofNat n.toNat)else none
 |_=>none
def VC{α:Type}:Option α->Option (List α)->Option (List α)
 |some a,some l=>some (a::l)
 |_,_=>none
def bytesOf:List AV->Option (List UInt8)
 |[]=>some []
 |a::r=>VC (byteOf a) (bytesOf r)
def Yi:Option (List UInt8)->PR
 |some l=>.dv (.str l)
 |none=>.no
def sA:AV->PR
 |.sl _ sz _ cs=>bif sz==1 then Yi (bytesOf cs)else .no
 |_=>.no
def Ft:Option (List AV)->PR
 |some cs=>.dv (.agg cs)
 |none=>.no
def TJ(a:AV):Option (List AV)->Option (List AV)
 |some l=>bif dt a then some (view a::l)else none
 |none=>none
def bZ(f:IX->AV):List IX->Option (List AV)
 |[]=>some []
 |x::r=>TJ (f x) (bZ f r)
def w9(fi:Nat):Option (List AV)->Option (List AV)->PR
 |some a,some b=>.dv (.fn fi a b)
 |_,_=>.no
def Pu(zero:List AV)(multi:Bool)(off:Nat):Option SO->PR
 |some (.cells cs)=>ckP (off+zero.length<=cs.length) (rn multi (pad zero (views (sub cs off zero.length))))
 |_=>.no
def KW(zero:List AV)(multi:Bool)(s:ab):AV->PR
 |.ref b off=>Pu zero multi off (s b)
 |_=>.no
def GW(k:IntKind)(off:Nat):Option SO->Prop
 |some (.cells cs)=>∃n,cs[off]? =some (.int k n)
 |_=>False
def intOf:Option AV->Int
 |some (.int _ n)=>n
 |_=>0
def GX(off:Nat):Option SO->Int
 |some (.cells cs)=>intOf cs[off]?
 |_=>0
def Ck(k:IntKind)(s:ab):AV->PR
 |.ref b off=>.prt (GW k off (s b)) (.int k (GX off (s b)))
 |_=>.no
def pv(o:ua)(f:IX->AV)(E:St):PR:=
 match o with
 |.jL false x=>Us (f x)
 |.pick c x y=>Lb (E.x x) (E.x y) (f c)
 |.bin op x y=>QC op (f x) (f y)
 |.U4 ne x y=>Q3 ne (f x) (f y)
 |.Ov ne x y=>Ow ne (f x) (f y)
 |.un op x=>unV op (f x)
 |.jI k x=>wW k (f x)
 |.load n multi x=>jF multi (rd E (f x) n)
 |.iK x i=>xp (f x) (f i)
 |.nilCheck x=>mD (f x)
 |.fieldAddr off x=>gm off x (f x)
 |.indexAddr zero x i=>ki zero (f x) (f i)
 |.slice sz x lo hi none=>wx sz f lo hi (f x)
 |.qW x lo hi=>mN f lo hi (f x)
 |.len cls x=>D7 E.s cls (f x)
 |.fP mx xs=>xc mx (xs.map f)
 |.extract x k=>ru k (f x)
 |.build zero parts=>Ft (fill f zero parts)
 |.kq fi first en=>w9 fi (bZ f first) (bZ f en)
 |.fo x=>sA (f x)
 |.bf zero multi x=>KW zero multi E.s (f x)
 |.mh k x=>Ck k E.s (f x)
 |.slice sz x lo hi (some mx)=>qw sz f lo hi mx (f x)
 |.cap x=>QJ (f x)
 |.Za ne x=>Ot ne (f x)
 |_=>.no
end Go.AB
end
section
namespace Go.AB
open Go
inductive cS where
 |none
 |frame
 |slot (i j:Nat)
 |loc (i:Nat)
 |sh
 |cell (b j:Nat)
 |res (j:Nat)
 deriving DecidableEq
structure Gh where
 R:Nat->Nat
 O:Nat->cS
inductive VR(w:World)(R:Nat->Nat):AV->Value->Prop where
 |undef (v:Value):VR w R .undef v
 |bool (b:Bool):VR w R (.bool b) (.bool b)
 |int (k:IntKind) (n:Int):VR w R (.int k n) (.int k n)
 |str (s:List UInt8):VR w R (.str s) (.string ⟨s.toArray⟩)
 |dK:VR w R .dK (.pointer none)
 |ref (b off:Nat):VR w R (.ref b off) (.pointer (some ⟨b,off,none⟩))
 |sp (cs:List AV) (b off:Nat) (u:Nat->Value) (hf:Fl cs) (hR:off+cs.length<=R b)
   (hc:∀(j:Nat)(c:AV),cs[j]? =some c->w.cell? ⟨b,off+j,none⟩=some (u j)) (hr:∀(j:Nat)(c:AV),cs[j]? =some c->VR w R c (u j)):
   VR w R (.sp cs) (.pointer (some ⟨b,off,none⟩))
 |slnil (own:Bool) (sz:Nat):VR w R (.sl own sz 0 []) (.slice none 0 0)
 |sle (sz:Nat) (a:Addr) (cap:Nat):VR w R (.sl false sz 0 []) (.slice (some a) 0 cap)
 |sl (own:Bool) (sz n:Nat) (cs:List AV) (b off cap:Nat) (u:Nat->Value) (hf:Fl cs) (hl:cs.length=n*sz) (hR:off+cs.length<=R b) (gZ:n<=cap)
   (hc:∀(j:Nat)(c:AV),cs[j]? =some c->w.cell? ⟨b,off+j,none⟩=some (u j)) (hr:∀(j:Nat)(c:AV),cs[j]? =some c->VR w R c (u j)):
   VR w R (.sl own sz n cs) (.slice (some ⟨b,off,none⟩) n cap)
 |arr (b off len cap:Nat):VR w R (.arr b off len cap) (.slice (some ⟨b,off,none⟩) len cap)
 |LB (b off:Nat):VR w R (.arr b off 0 0) (.slice none 0 0)
 |agg (cs:List AV) (vs:Array Value) (hf:Fl cs) (hl:vs.size=cs.length) (hr:∀(j:Nat)(c:AV)(v:Value),cs[j]? =some c->vs[j]? =some v->VR w R c v):VR w R (.agg cs) (.agg vs)
 |gw (cs:List AV) (vs:Array Value) (hl:vs.size=cs.length) (hr:∀(j:Nat)(c:AV)(v:Value),cs[j]? =some c->vs[j]? =some v->VR w R c v):VR w R (.gw cs) (.tuple vs)
 |fn (f:Nat) (first en:List AV) (vf vc:Array Value) (hl:vf.size=first.length) (hr:∀(j:Nat)(c:AV)(v:Value),first[j]? =some c->vf[j]? =some v->VR w R c v)
   (hl':vc.size=en.length) (hr':∀(j:Nat)(c:AV)(v:Value),en[j]? =some c->vc[j]? =some v->VR w R c v):VR w R (.fn f first en) (.func (.func f) vf vc)
 |oK:VR w R .oK .nilFunc
 |mp (b:Nat):VR w R (.mp b) (.map (some b))
 |oL:VR w R .oL (.map none)
 |when (b:Bool) (a:AV) (v:Value) (h:b=true->VR w R a v):VR w R (.when b a) v
 |one (v:Value) (h:v.oneCell'=true):VR w R .one v
 |qE (t:Nat):VR w R (.qE t) (.pointer none)
 |A6:VR w R .A6 .nilIface
 |bb (t n:Nat) (cs:List AV) (v:Value) (h:VR w R (.sl true 1 n cs) v) (h0:n=0->v=.slice none 0 0):VR w R (.bb t n cs) v
def dm(G:Gh)(w:World)(o:cS)(a:AV)(v:Value):Prop:=
 match a with
 |.sl true sz n _=>∀base m cap,v=.slice base m cap->(cap≠n\/0<n)->
   ∃b off c e fz,base=some ⟨b,off,none⟩/\G.O b=o/\G.R b=off+n*sz/\w.heap[b]? =some (.cells c e fz)/\c.size=off+cap*sz/\
    (∀k,k<c.size->¬(fz.1<=k/\k<fz.2))/\fz.1<=fz.2/\off=0/\(fz=(0,0)\/(0<n/\∃x,c[0]? =some (.int .u8 x)))/\
    ∀(k:Nat)(y:Value),off+n*sz<=k->c[k]? =some y->y.oneCell'=true
 |.bb e n _=>∀base m cap,v=.slice base m cap->(cap≠n\/0<n)->
   ∃b off c fz,base=some ⟨b,off,none⟩/\G.O b=o/\G.R b=off+n*1/\w.heap[b]? =some (.cells c e fz)/\c.size=off+cap*1/\
    (∀k,k<c.size->¬(fz.1<=k/\k<fz.2))/\fz.1<=fz.2/\off=0/\(fz=(0,0)\/(0<n/\∃x,c[0]? =some (.int .u8 x)))/\
    ∀(k:Nat)(y:Value),off+n*1<=k->c[k]? =some y->y.oneCell'=true
 |_=>True
def du(G:Gh)(w:World)(o:Nat->cS)(cs:List AV)(c:Array Value):Prop:=c.size=cs.length/\∀(j:Nat)(x:AV)(y:Value),cs[j]? =some x->c[j]? =some y->VR w G.R x y/\dm G w (o j) x y
def UsR(G:Gh)(w:World)(o:cS)(sz n:Nat)(cs:List AV)(v:Value):Prop:=
 (n=0/\cs=[]/\(v=.slice none 0 0\/∃b off,v=.slice (some ⟨b,off,none⟩) 0 0))\/
 ∃b cap c t sp,0<cap/\n<=cap/\v=.slice (some ⟨b,0,none⟩) n cap/\G.O b=o/\G.R b=0/\w.heap[b]? =some (.cells c t (0,0))/\c.size=cap*sz/\cs.length=n*sz/\(cs++sp).length=cap*sz/\
  (∀(j:Nat)(x:AV)(u:Value),(cs++sp)[j]? =some x->c[j]? =some u->VR w G.R x u)/\Fl (cs++sp)/\views (cs++sp)=cs++sp
def dg(G:Gh)(w:World)(e:List (Nat×AV))(tmps:Array Value)(i:Nat):AV->Value->Prop
 |.loc cs,v=>∃b c t,v=.pointer (some ⟨b,0,none⟩)/\G.O b=.loc i/\G.R b=0/\w.heap[b]? =some (.cells c t (0,0))/\du G w (.cell b) cs c/\Fl cs
 |.lp d off,v=>∃b,v=.pointer (some ⟨b,off,none⟩)/\∀cs,look e d=.loc cs->tmps[d]? =some (.pointer (some ⟨b,0,none⟩))
 |.gw vs,v=>∃ys:Array Value,v=.tuple ys/\du G w (fun j=>.slot i (j+1)) vs ys
 |.when b a,v=>(b=true->dg G w e tmps i a v)/\(b=false->v=.tuple #[])
 |.us sz n cs,v=>UsR G w (.slot i 0) sz n cs v
 |a,v=>VR w G.R a v/\dm G w (.slot i 0) a v
def bB:AV->Nat->Prop
 |.lp d _,d'=>d=d'
 |.when _ a,d'=>bB a d'
 |_,_=>False
structure b9(G:Gh)(w:World):Prop where
 jM:∀b,w.heap.size<=b->G.O b=.none
 jU:∀b,w.heap.size<=b->G.R b=0
def agb(G:Gh)(w:World)(x:AV×AV)(y:MapEntry):Prop:=VR w G.R x.1 y.key/\VR w G.R x.2 y.val
def aP(G:Gh)(w:World)(s:ab):Prop:=
 ∀b o,s b=some o->G.O b=.sh/\G.R b=0/\match o with
  |.cells cs=>∃c t,w.heap[b]? =some (.cells c t (0,0))/\du G w (.cell b) cs c/\CW t cs
  |.map es=>∃iu clock,w.heap[b]? =some (.map iu clock)/\iu.size=es.length/\∀(j:Nat)(x:AV×AV)(y:MapEntry),es[j]? =some x->iu[j]? =some y->agb G w x y
structure Inv(G:Gh)(n:Nat)(D:List Deferred)(E:St)(a:Act)(w:World):Prop where
 aS:b9 G w
 store:aP G w E.s
 size:a.tmps.size=n
 ch:∀(i:Nat)(v:Value),a.tmps[i]? =some v->dg G w E.e a.tmps i (look E.e i) v
 IT:∀i,n<=i->look E.e i=.undef
 Qs:∀i d,bB (look E.e i) d->(i,d)∈E.lp
 ue:a.defers=D
structure ax(G:Gh)(w:World)(G':Gh)(w':World):Prop where
 os:w'.os=w.os
 tape:w'.tape=w.tape
 output:w'.output=w.output
 drawn:w.drawn<=w'.drawn
 size:w.heap.size<=w'.heap.size
 mono:∀b,b<w.heap.size->G.R b<=G'.R b
 mP:∀b k,b<w.heap.size->k<G.R b->w'.cell? ⟨b,k,none⟩=w.cell? ⟨b,k,none⟩
 frame:∀b,b<w.heap.size->G.O b=.frame\/G.O b=.none->w'.heap[b]? =w.heap[b]?
 jJ:∀b,b<w.heap.size->G.O b=.frame->G'.O b=.frame/\G'.R b=G.R b
 pP:∀b,b<w.heap.size->G.O b=.none->G'.O b=.none/\G'.R b=G.R b
def X4(G:Gh)(w:World)(a:AV)(v:Value):Prop:=
 match a with
 |.us sz n cs=>UsR G w (.res 0) sz n cs v
 |a=>VR w G.R a v/\dm G w (.res 0) a v
def pb(G:Gh)(w:World)(rs:List AV)(v:Value):Prop:=
 match rs with
 |[a]=>X4 G w a v
 |rs=>∃ys:Array Value,v=.tuple ys/\du G w (fun j=>.res j) rs ys
def zT(G:Gh):Prop:=∀b,G.O b=.none\/G.O b=.frame\/G.O b=.sh\/∃b' j,G.O b=.cell b' j/\G.O b'=.sh
def kH(w:World)(R:Nat->Nat)(args:List AV)(vs:Array Value):Prop:=vs.size=args.length/\∀(j:Nat)(a:AV)(v:Value),args[j]? =some a->vs[j]? =some v->VR w R a v
def FN(P:Program)(f:FuncId)(args:List AV)(s:ab)(Q:List AV->ab->Prop):Prop:=
 ∀(G:Gh)(w:World)(vs:Array Value),b9 G w->zT G->aP G w s->kH w G.R args vs->
  Calls P f vs w fun e w'=>∃v rs s' G',e=.returned v/\Q rs s'/\b9 G' w'/\aP G' w' s'/\pb G' w' rs v/\ax G w G' w'
theorem FN.mono{P:Program}{f:FuncId}{args:List AV}{s:ab}{Q Q':List AV->ab->Prop}(h:FN P f args s Q)(hq:∀rs s',Q rs s'->Q' rs s'):FN P f args s Q':=fun G w vs h1 h2 h3 h4=>(h G w vs h1 h2 h3 h4).mono fun _ _⟨v,rs,s',G',a,b,c⟩=>⟨v,rs,s',G',a,hq _ _ b,c⟩
def FE(P:Program)(f:FuncId)(args:List AV)(s:ab)(rs:List AV)(s':ab):Prop:=FN P f args s fun r t=>r=rs/\t=s'
theorem FE.app{P:Program}{f:FuncId}{args:List AV}{s s':ab}{rs:List AV}{Q:List AV->ab->Prop}(h:FE P f args s rs s')(hq:Q rs s'):FN P f args s Q:=FN.mono h fun _ _⟨h1,h2⟩=>by rw[h1,h2];exact hq
def fj:List AV->AV
 |[a]=>a
 |rs=>.gw rs
def room:Nat:=140737488355328
def lN(lp:List (Nat×Nat))(d:Option Nat):Bool:=match d with
 |some d=>lp.all fun x=>!Nat.beq x.2 d
 |none=>true
def St.drain(E:St)(x:IX):St:=match x with
 |.t i=>E.put (some i) (view (look E.e i))
 |.c _=>E
def eb(off:Nat)(news:List AV)(ez:List AV):Option (List AV):=bif decide (off+news.length<=ez.length)then some (setAt ez off news)else none
def wrL(E:St)(d:Nat):Option (List AV)->Option St
 |some cs=>some (E.put (some d) (.loc cs))
 |none=>none
def wrS(E:St)(b:Nat):Option (List AV)->Option St
 |some cs=>some {E with s:=E.s.set b (.cells cs)}
 |none=>none
def Lr(E:St)(d off:Nat)(news:List AV):AV->Option St
 |.loc ez=>wrL E d (eb off news ez)
 |_=>none
def Si(E:St)(b off:Nat)(news:List AV):Option SO->Option St
 |some (.cells ez)=>wrS E b (eb off news ez)
 |_=>none
def ajd(E:St)(news ez:List AV):IX->Option St
 |.t d=>wrL E d (eb 0 news ez)
 |.c _=>none
def Ke(E:St)(p:AV)(i:IX)(news:List AV):Option St:=
 match p with
 |.loc ez=>ajd E news ez i
 |.lp d off=>Lr E d off news (look E.e d)
 |.ref b off=>Si E b off news (E.s b)
 |_=>none
def WH:AV->AV->Bool
 |.int _ a,.int _ b=>a==b
 |.str a,.str b=>a==b
 |.bool a,.bool b=>a==b
 |_,_=>false
def sN:List AV->List AV->Bool
 |[],[]=>true
 |a::x,b::y=>WH a b&&sN x y
 |_,_=>false
def lK(a b:AV):Bool:=sN (cellsOf a) (cellsOf b)
def fc(k:AV):List (AV×AV)->Option AV
 |[]=>none
 |x::r=>bif lK k x.1 then some x.2 else fc k r
def wg(k v:AV):List (AV×AV)->List (AV×AV)
 |[]=>[(k,v)]
 |x::r=>bif lK k x.1 then(k,v)::r else x::wg k v r
section
variable(P:Program)
def WW(E:St)(x:IX)(d:Option Nat)(K:St->Prop)(a:AV):Prop:=dt a=true/\K ((E.drain x).put d a)
def aa5(n:Nat)(E:St)(d:Option Nat)(K:St->Prop)(a:AV):Prop:=dt a=true/\(cellsOf a).length=n/\K (E.put d (.loc (views (cellsOf a))))
def aa6(n:Nat)(E:St)(d:Option Nat)(K:St->Prop)(a:AV):Prop:=dt a=true/\(cellsOf a).length=n/\∀b,E.s b=none->K ({E with s:=E.s.set b (.cells (views (cellsOf a)))}.put d (.ref b 0))
def Aa(sz n:Nat)(E:St)(d:Option Nat)(K:St->Prop):Option (List AV)->Prop
 |some cs=>cs.length=n*sz/\K (E.put d (.sl true sz n cs))
 |none=>False
def Qv(d:Option Nat)(K:St->Prop):Option St->Prop
 |some U=>K (U.put d (.gw []))
 |none=>False
def Np(n:Nat)(E:St)(p:IX)(v:IX)(d:Option Nat)(K:St->Prop)(a:AV):Prop:=dt a=true/\(aZ a).length=n/\Qv d K (Ke (E.drain v) (E.x p) p (aZ a))
def ly(sz bytes:Nat)(E:St)(x:IX)(d:Option Nat)(K:St->Prop):AV->AV->Prop
 |.sl true s n cs,.sl _ s' m ds=>s=sz/\(s'=sz\/m=0)/\(n+m)*bytes<=room/\K ((E.drain x).put d (.sl true sz (n+m) (cs++views ds)))
 |.sl true s n cs,.str ds=>s=sz/\sz=1/\(n+ds.length)*bytes<=room/\K ((E.drain x).put d (.sl true sz (n+ds.length) (cs++ds.map fun c=>.int .u8 c.toNat)))
 |_,_=>False
def EU(E:St)(d:Option Nat)(K:St->Prop):AV->Prop
 |.sl _ sz _ cs=>sz=1/\∃s:List UInt8,cs=(s.map fun c=>.int .u8 c.toNat)/\K (E.put d (.str s))
 |_=>False
def ZQ:List UInt8->Bool
 |[]=>false
 |_::_=>true
def rq(E:St)(d:Option Nat)(K:St->Prop):AV->Prop
 |.str s=>K (E.put d (.sl (ZQ s) 1 s.length (s.map fun c=>.int .u8 c.toNat)))
 |_=>False
def xa(bytes:Nat)(zero:List AV)(E:St)(d:Option Nat)(K:St->Prop):AV->AV->Prop
 |.int _ l,.int _ c=>0<=l/\l<=c/\c*bytes<=room/\
   ∀b,E.s b=none->K ({E with s:=E.s.set b (.cells ((List.replicate c.toNat zero).flatten))}.put d (.arr b 0 l.toNat c.toNat))
 |_,_=>False
def ID(ok:Bool)(a:AV)(b:Bool):AV:=match ok with
 |true=>.gw [a,.bool b]
 |false=>a
def Gk:AV->Bool
 |.int .u8 _=>true
 |_=>false
def eX:k9->AV->Bool
 |.int k,.int k' _=>Ui k k'
 |.str,.str _=>true
 |.bool,.bool _=>true
 |.bytes n,.agg cs=>cs.length==n&&cs.all Gk
 |_,_=>false
def kp(kk:k9)(es:List (AV×AV)):Bool:=es.all fun x=>eX kk x.1
def vT(zero:AV)(ok:Bool):Option AV->AV
 |some v=>ID ok (view v) true
 |none=>ID ok (view zero) false
def zy:AV->Bool
 |.gw _=>true
 |a=>dt a
def zx:Bool->AV->Bool
 |true,_=>true
 |false,a=>dt a
def N9(ok:Bool)(c:Prop)(a:AV):PR:=bif zx ok a then .prt c a else .no
def oJ(kk:k9)(zero:AV)(ok:Bool)(k:AV):Option SO->PR
 |some (.map es)=>N9 ok (eX kk k=true/\kp kk es=true) (vT zero ok (fc k es))
 |_=>.no
def iT(kk:k9)(zero:AV)(ok:Bool)(s:ab)(k:AV):AV->PR
 |.mp b=>oJ kk zero ok k (s b)
 |.oL=>N9 ok (eX kk k=true) (ID ok (view zero) false)
 |_=>.no
def Eg:AV->PR
 |.sl true 1 (n+1) (.int .u8 x::cs)=>.dv (.sl false 1 (n+1) (.int .u8 x::cs))
 |_=>.no
def CO:AV->PR
 |.gw vs=>.dv (.gw (views vs))
 |_=>.no
def RR(E:St)(d:Option Nat)(K:St->Prop):PR->Prop
 |.dv a=>K (E.put d a)
 |.prt c a=>c/\K (E.put d a)
 |.no=>False
def U0(kk:k9)(b:Nat)(E:St)(k v:AV)(d:Option Nat)(K:St->Prop):Option SO->Prop
 |some (.map es)=>(dt v=true/\eX kk k=true/\kp kk es=true)/\K ({E with s:=E.s.set b (.map (wg (view k) (view v) es))}.put d (.gw []))
 |_=>False
def xb(kk:k9)(E:St)(k v:AV)(d:Option Nat)(K:St->Prop):AV->Prop
 |.mp b=>U0 kk b E k v d K (E.s b)
 |_=>False
def WB:AV->Bool
 |.us _ _ _=>true
 |_=>false
def jO:List AV->Bool
 |[a]=>dt a||WB a
 |_=>true
def N8(E:St)(d:Option Nat)(K:St->Prop)(rs:List AV)(s':ab):Prop:=jO rs=true/\K ({E with s:=s'}.put d (fj rs))
def uJ(f:Nat)(E:St)(d:Option Nat)(K:St->Prop):Option (List AV)->Prop
 |some args=>FN P f args E.s (N8 E d K)
 |none=>False
def pz(f:FuncId):Bool:=match P.funcs[f]? with
 |some fn=>fn.name != "runtime.NumGoroutine" &&fn.body.isSome
 |none=>false
def Vs(f:Nat)(first en:List AV)(E:St)(d:Option Nat)(K:St->Prop):Option (List AV)->Prop
 |some args=>pz P f=true/\FN P f (first++args++en) E.s (N8 E d K)
 |none=>False
def yM(E:St)(args:Option (List AV))(d:Option Nat)(K:St->Prop):AV->Prop
 |.fn f first en=>Vs P f first en E d K args
 |_=>False
def xg(g:Bool)(E:St)(x:IX):AV:=zP g (E.x x)
def Yn(i:Nat)(E:St)(W:St->Prop):AV->Prop
 |.us sz n cs=>(∀b cap sp,E.s b=none->0<cap->n<=cap->(cs++sp).length=cap*sz->Fl (cs++sp)->views sp=sp->W ({E with s:=E.s.set b (.cells (cs++sp))}.put (some i) (.arr b 0 n cap)))/\
   (n=0->∀b off,W (E.put (some i) (.arr b off 0 0)))
 |_=>False
def vW(sz:Nat):AV->AV
 |.arr _ 0 0 0=>.sl true sz 0 []
 |a=>a
def cC(sz:Nat):AV->List AV
 |.agg cs=>(views cs).map (vW sz)
 |a=>[a]
def No(sz n:Nat)(E:St)(p:IX)(v:IX)(d:Option Nat)(K:St->Prop)(a:AV):Prop:=dt a=true/\(cC sz a).length=n/\Qv d K (Ke (E.drain v) (E.x p) p (cC sz a))
def Vo(sz n:Nat)(E:St)(d:Option Nat)(K:St->Prop)(a:AV):Prop:=dt a=true/\(cellsOf a).length=n/\∀b,E.s b=none->K ({E with s:=E.s.set b (.cells ((views (cellsOf a)).map (vW sz)))}.put d (.ref b 0))
def wT(sz n:Nat)(E:St)(d:Option Nat)(K:St->Prop):Option (List AV)->Prop
 |some cs=>cs.length=n*sz/\∀b,E.s b=none->K ({E with s:=E.s.set b (.cells (views cs))}.put d (.arr b 0 n n))
 |none=>False
def j5(m sz off:Nat):Option SO->Option (Nat×List AV)
 |some (.cells cs)=>bif decide (off+m*sz<=cs.length)then some (m,views (sub cs off (m*sz)))else none
 |_=>none
def ur(s:ab)(sz:Nat):AV->Option (Nat×List AV)
 |.sl _ s' m ds=>bif s'==sz then some (m,views ds)else bif m==0 then some (0,[])else none
 |.str l=>bif sz==1 then some (l.length,l.map fun c=>.int .u8 c.toNat)else none
 |.arr b off m _=>bif m==0 then some (0,[])else j5 m sz off (s b)
 |_=>none
def pQ(s:ab)(sz b off n:Nat):Option (List AV):=bif n==0 then some []else(j5 n sz off (s b)).map Prod.snd
def CE(sz b off cap:Nat):Option SO->Prop
 |some (.cells cs)=>off+cap*sz<=cs.length
 |_=>False
def setRow(s:ab)(b off:Nat)(news:List AV):Option SO->ab
 |some (.cells cs)=>s.set b (.cells (setAt cs off news))
 |_=>s
def TH(sz bytes:Nat)(zero:List AV)(E:St)(d:Option Nat)(K:St->Prop)(b off n cap m:Nat)(ds:List AV):Option (List AV)->Prop
 |some olds=>zero.length=sz/\(n+m<=cap->(m=0/\K (E.put d (.arr b off n cap)))\/(CE sz b off cap (E.s b)/\K ({E with s:=setRow E.s b (off+n*sz) ds (E.s b)}.put d (.arr b off (n+m) cap))))/\
   (cap<n+m->(n+m)*bytes<=room/\∀b' dn,E.s b'=none->n+m<=dn->K ({E with s:=E.s.set b' (.cells (olds++ds++(List.replicate (dn -(n+m)) zero).flatten))}.put d (.arr b' 0 (n+m) dn)))
 |none=>False
def eN(sz bytes:Nat)(zero:List AV)(E:St)(d:Option Nat)(K:St->Prop):AV->Option (Nat×List AV)->Prop
 |.arr b off n cap,some (m,ds)=>TH sz bytes zero E d K b off n cap m ds (pQ E.s sz b off n)
 |_,_=>False
def uE(sz bytes:Nat)(zero:List AV)(E:St)(d:Option Nat)(K:St->Prop):AV->AV->Prop
 |.arr b off n cap,.int .i64 c=>0<=c/\cap<n+c.toNat/\views zero=zero/\TH sz bytes zero E d K b off n cap c.toNat (List.replicate c.toNat zero).flatten (pQ E.s sz b off n)
 |_,_=>False
def yQ(sz:Nat)(E:St)(d:Option Nat)(K:St->Prop):AV->Option (Nat×List AV)->Prop
 |.arr b off n _,some (m,ds)=>(min m n=0/\K (E.put d (.int .i64 0)))\/(CE sz b off n (E.s b)/\K ({E with s:=setRow E.s b off (ds.take (min m n*sz)) (E.s b)}.put d (.int .i64 (min m n:Nat))))
 |_,_=>False
def wV(zero:List AV)(E:St)(d:Option Nat)(K:St->Prop):AV->Prop
 |.arr b off n _=>(n=0/\K (E.put d (.gw [])))\/(CE zero.length b off n (E.s b)/\views zero=zero/\K ({E with s:=setRow E.s b off (List.replicate n zero).flatten (E.s b)}.put d (.gw [])))
 |_=>False
def NO(P:Program)(f:FuncId):Prop:=∀(w:World)(a b:Nat)(oa la ca ob lb cb:Nat)(ta tb:TypeId)(x y:Array Value)(fa:Nat×Nat),a≠b->w.heap[a]? =some (.cells x ta fa)->x.size≠0->w.heap[b]? =some (.cells y tb (0,0))->y.size≠0->
 ∃w',(callFunc f #[.slice (some ⟨a,oa,none⟩) la ca,.slice (some ⟨b,ob,none⟩) lb cb]).run P w=.ok (.value (.bool false)) w'/\w'.heap=w.heap/\w'.os=w.os/\w'.tape=w.tape/\w'.output=w.output/\w.drawn<=w'.drawn
def cellsIn:Option SO->Prop
 |some (.cells (_::_))=>True
 |_=>False
def XC(P:Program)(f:FuncId)(E:St)(d:Option Nat)(K:St->Prop):AV->AV->Prop
 |.sl _ _ (_+1) (_::_),.arr b' _ _ (_+1)=>NO P f/\cellsIn (E.s b')/\K (E.put d (.bool false))
 |_,_=>False
def DJ(sz:Nat)(own:Bool)(E:St)(d:Option Nat)(K:St->Prop):AV->Prop
 |.arr b off n cap=>(cap=0/\n=0/\off=0/\K (E.put d (.sl own sz 0 [])))\/(0<cap/\n<=cap/\(own=true->off=0/\CE sz b off cap (E.s b)/\sizeV (off+cap*sz) (E.s b))/\frzK sz own E d K b n (j5 n sz off (E.s b)))
 |_=>False
where
 sizeV (k:Nat):Option SO->Prop
  |some (.cells cs)=>cs.length=k
  |_=>False
 frzK (sz:Nat) (own:Bool) (E:St) (d:Option Nat) (K:St->Prop) (b n:Nat):Option (Nat×List AV)->Prop
  |some (_,cs)=>K ({E with s:=E.s.del b}.put d (.sl own sz n cs))
  |none=>False
def MC(sz:Nat)(own:Bool)(E:St)(d:Option Nat)(K:St->Prop):Option (List AV)->Prop
 |some [a]=>dt a=true/\DJ sz own E d K a
 |_=>False
def si(off:Nat)(cs:List AV)(k:List AV->AV->Prop):Prop:=match cs[off]? with
 |some (.sl o sz n ds)=>k (setAt cs off [.sl false sz n ds]) (.sl o sz n ds)
 |some (.bb t n ds)=>k (setAt cs off [.sl false 1 n ds]) (.bb t n ds)
 |_=>False
def qy(off:Nat)(cs:List AV)(k:List AV->AV->Prop):Prop:=match cs[off]? with
 |some (.sl o sz n ds)=>k (setAt cs off [.sl false sz n ds]) (.sl o sz n ds)
 |_=>False
def pL(E:St)(d:Option Nat)(K:St->Prop):AV->Prop
 |.ref b off=>match E.s b with
  |some (.cells cs)=>si off cs fun cs' a=>K ({E with s:=E.s.set b (.cells cs')}.put d a)
  |_=>False
 |.lp i off=>match look E.e i with
  |.loc cs=>d≠some i/\qy off cs fun cs' a=>K ((E.put (some i) (.loc cs')).put d a)
  |_=>False
 |_=>False
def Gj(j:IX)(off:Nat)(a:AV):Bool:=match j,a with
 |.t i,.lp i' o=>i'==i&&o==off
 |_,_=>false
def T3(ne:Bool)(E:St)(d:Option Nat)(K:St->Prop):AV->Prop
 |.sl _ _ n _=>∀v:Bool,(v=!ne->n=0)->K (E.put d (.bool v))
 |.arr _ _ _ cap=>∀v:Bool,(v=!ne->cap=0)->K (E.put d (.bool v))
 |_=>False
def agB(d:Option Nat)(K:St->Prop)(E:St)(b off:Nat):Option SO->Prop
 |some (.cells cs)=>off<cs.length/\K (E.put d (.ref b off))
 |_=>False
def alX(E:St)(d:Option Nat)(K:St->Prop):AV->Prop
 |.ref b off=>agB d K E b off (E.s b)
 |_=>False
def Vp(n t j u:Nat)(E:St)(d:Option Nat)(K:St->Prop)(a:AV):Prop:=dt a=true/\(cellsOf a).length=n/\(cellsOf a)[j]? =some .dK/\(cellsOf a)[j+1]? =some (.bb u 0 [])/\∀b,E.s b=none->K ({E with s:=E.s.set b (.cells (setAt (views (cellsOf a)) j [.qE t,.bb u 0 []]))}.put d (.ref b 0))
def jf(o:ua)(d:Option Nat)(E:St)(K:St->Prop):Prop:=
 match o with
 |.jL _ x=>WW E x d K (E.x x)
 |.aq zero=>lN E.lp d=true/\K (E.put d (.loc zero))
 |.gC zero=>∀b,E.s b=none->K ({E with s:=E.s.set b (.cells zero)}.put d (.ref b 0))
 |.dc n x=>lN E.lp d=true/\aa5 n E d K (E.x x)
 |.oz n x=>aa6 n E d K (xg true E x)
 |.bq sz n zero parts=>Aa sz n E d K (fill (xg true E) zero parts)
 |.store n p v=>Np n E p v d K (E.x v)
 |.append sz bytes x y=>ly sz bytes E x d K (E.x x) (E.x y)
 |.fo x=>EU E d K (xg true E x)
 |.gD x=>rq E d K (xg true E x)
 |.fO _ bytes zero l c=>xa bytes zero E d K (xg true E l) (xg true E c)
 |.makeMap=>∀b,E.s b=none->K ({E with s:=E.s.set b (.map [])}.put d (.mp b))
 |.call f args=>uJ P f E d K (bZ (xg true E) args)
 |.cu x args=>yM P E (bZ (xg true E) args) d K (xg true E x)
 |.lookup kk zero ok x k=>RR E d K (iT kk zero ok E.s (xg true E k) (xg true E x))
 |.kc x=>RR E d K (Eg (xg true E x))
 |.rW x=>RR E d K (CO (xg true E x))
 |.mapUpdate kk x k v=>xb kk E (xg true E k) (xg true E v) d K (xg true E x)
 |.jR sz n zero parts=>wT sz n E d K (fill (xg true E) zero parts)
 |.eV sz bytes zero x y=>eN sz bytes zero E d K (E.x x) (ur E.s sz (E.x y))
 |.lz sz bytes zero x y=>uE sz bytes zero E d K (E.x x) (xg true E y)
 |.gN sz x y=>yQ sz E d K (E.x x) (ur E.s sz (E.x y))
 |.mo zero x=>wV zero E d K (E.x x)
 |.T7 sz own x=>DJ sz own E d K (E.x x)
 |.yq sz own x=>MC sz own E d K (rd E (xg true E x) 1)
 |.jh x=>pL E d K (E.x x)
 |.oq off j x=>Gj j off (E.x x)=true/\pL E d K (E.x x)
 |.YE ne x=>T3 ne E d K (E.x x)
 |.U7 f x y=>XC P f E d K (E.x x) (E.x y)
 |.qX sz n p v=>No sz n E p v d K (E.x v)
 |.Fq sz n x=>Vo sz n E d K (E.x x)
 |.LC n t j u x=>Vp n t j u E d K (E.x x)
 |.uI f i args=>Yn i E (fun U=>uJ P f U d K (bZ (xg true U) args)) (look E.e i)
 |_=>False
def bQ(E:St):AV->Option Nat->St
 |.lp t _,some i=>{E with lp:=(i,t)::E.lp}
 |.when _ a,d=>bQ E a d
 |_,_=>E
def YG(o:ua)(E:St)(d:Option Nat)(K:St->Prop):PR->Prop
 |.dv a=>K ((bQ E a d).put d a)
 |.prt c a=>c/\K ((bQ E a d).put d a)
 |.no=>jf P o d E K
def owp(o:ua)(d:Option Nat)(E:St)(K:St->Prop):Prop:=YG P o E d K (pv o (xg true E) E)
def U6(g:Bool)(o:ua)(E:St)(d:Option Nat)(K:St->Prop):PR->Prop
 |.dv a=>K ((bQ E a d).put d (.when g a))
 |.prt c a=>(g=true->c)/\K ((bQ E a d).put d (.when g a))
 |.no=>(g=true->owp P o d E K)/\(g=false->K (E.put d (.gw [])))
def BQ(o:ua)(d:Option Nat)(t:Nat)(want:Bool)(E:St)(K:St->Prop):AV->Prop
 |.bool b=>U6 P (b==want) o E d K (pv o (xg (b==want) E) E)
 |.when b' (.bool b)=>U6 P (b'&&(b==want)) o E d K (pv o (xg (b'&&(b==want)) E) E)
 |.gw []=>K (E.put d (.gw []))
 |_=>False
def Qr(o:ah)(E:St)(K:St->Prop):Prop:=
 match o.g with
 |none=>owp P o.op o.dst E K
 |some (t,want)=>BQ P o.op o.dst t want E K (look E.e t)
def swp:List ah->St->(St->Prop)->Prop
 |[],E,K=>K E
 |o::r,E,K=>Qr P o E (fun U=>swp r U K)
def aiW(r:List ah)(K:St->Prop)(U:St):Prop:=swp P r U K
def bg:AV->Bool
 |.loc _=>false
 |_=>true
def Qo(g:Bool):PR->PR
 |.dv a=>.dv (.when g a)
 |.prt c a=>.prt (g=true->c) (.when g a)
 |.no=>.no
def rdO:ua->Bool
 |.bf _ _ _=>true
 |_=>false
def U9(r g:Bool):PR->PR
 |.dv a=>.dv (.when g a)
 |.prt c a=>.prt (g=true->c) (.when g a)
 |.no=>bif r then .prt (g=false) (.when g .undef)else .no
def PW(o:ua)(want:Bool)(E:St):AV->PR
 |.bool b=>U9 (rdO o) (b==want) (pv o (xg (b==want) E) E)
 |.when g (.bool b)=>U9 (rdO o) (g&&(b==want)) (pv o (xg (g&&(b==want)) E) E)
 |_=>.no
def qv(o:ah)(E:St):PR:=match o.g with
 |none=>pv o.op (xg true E) E
 |some (t,want)=>PW o.op want E (look E.e t)
def qK(E:St)(d:Option Nat)(K:St->Prop):PR->Prop
 |.dv a=>bg a=true/\K ((bQ E a d).put d a)
 |.prt c a=>c/\bg a=true/\K ((bQ E a d).put d a)
 |.no=>False
def Th(f:Nat)(E:St)(d:Option Nat)(K:St->Prop):Option (List AV)->Prop
 |some as=>∃rs,jO rs=true/\FE P f as E.s rs E.s/\K (E.put d (fj rs))
 |none=>False
def aal(f:Nat)(first en:List AV)(E:St)(d:Option Nat)(K:St->Prop):Option (List AV)->Prop
 |some as=>pz P f=true/\∃rs,jO rs=true/\FE P f (first++as++en) E.s rs E.s/\K (E.put d (fj rs))
 |none=>False
def aee(E:St)(args:Option (List AV))(d:Option Nat)(K:St->Prop):AV->Prop
 |.fn f first en=>aal P f first en E d K args
 |_=>False
def callee(x:IX)(args:List IX)(g:Bool)(E:St)(f:Nat)(as:List AV):Prop:=∃first en xs,xg g E x=.fn f first en/\bZ (xg g E) args=some xs/\as=first++xs++en
def E4(x:IX)(args:List IX)(want:Bool)(E:St)(d:Option Nat)(K:St->Prop):AV->Prop
 |.bool b=>∃rs,jO rs=true/\((b==want)=true->∃f as,callee x args (b==want) E f as/\pz P f=true/\FE P f as E.s rs E.s)/\K (E.put d (.when (b==want) (fj rs)))
 |.when g (.bool b)=>∃rs,jO rs=true/\((g&&(b==want))=true->∃f as,callee x args (g&&(b==want)) E f as/\pz P f=true/\FE P f as E.s rs E.s)/\K (E.put d (.when (g&&(b==want)) (fj rs)))
 |_=>False
def Hr(f:Nat)(args:List IX)(want:Bool)(E:St)(d:Option Nat)(K:St->Prop):AV->Prop
 |.bool b=>∃rs,jO rs=true/\((b==want)=true->∃as,bZ (xg (b==want) E) args=some as/\FE P f as E.s rs E.s)/\K (E.put d (.when (b==want) (fj rs)))
 |.when g (.bool b)=>∃rs,jO rs=true/\((g&&(b==want))=true->∃as,bZ (xg (g&&(b==want)) E) args=some as/\FE P f as E.s rs E.s)/\K (E.put d (.when (g&&(b==want)) (fj rs)))
 |_=>False
def alz(E:St)(d:Option Nat)(K:St->Prop):AV->Prop
 |.sl _ sz _ cs=>sz=1/\∃s:List UInt8,cs=(s.map fun c=>.int .u8 c.toNat)/\K (E.put d (.str s))
 |_=>False
def wU:AV->PR
 |.str s=>.dv (.sl (ZQ s) 1 s.length (s.map fun c=>.int .u8 c.toNat))
 |_=>.no
def HP(sz n:Nat):Option (List AV)->PR
 |some cs=>.prt (cs.length=n*sz) (.sl true sz n cs)
 |none=>.no
def qe(f:IX->AV)(s:ab):ua->PR
 |.gD x=>wU (f x)
 |.bq sz n zero parts=>HP sz n (fill f zero parts)
 |.lookup kk zero ok x k=>iT kk zero ok s (f k) (f x)
 |.kc x=>Eg (f x)
 |.rW x=>CO (f x)
 |_=>.no
def Qt(o:ua)(want:Bool)(E:St):AV->PR
 |.bool b=>Qo (b==want) (qe (xg (b==want) E) E.s o)
 |.when g (.bool b)=>Qo (g&&(b==want)) (qe (xg (g&&(b==want)) E) E.s o)
 |_=>.no
def Dv(o:ah)(E:St):PR:=match o.g with
 |none=>qe (xg true E) E.s o.op
 |some (t,want)=>Qt o.op want E (look E.e t)
def q1(o:ah)(E:St)(K:St->Prop):Prop:=
 match o with
 |⟨d,.call f args,none⟩=>Th P f E d K (bZ (xg true E) args)
 |⟨d,.jL true x,none⟩=>WW E x d K (E.x x)
 |⟨d,.call f args,some (t,want)⟩=>Hr P f args want E d K (look E.e t)
 |⟨d,.cu x args,none⟩=>aee P E (bZ (xg true E) args) d K (xg true E x)
 |⟨d,.cu x args,some (t,want)⟩=>E4 P x args want E d K (look E.e t)
 |⟨d,.gD x,g⟩=>qK E d K (Dv ⟨d,.gD x,g⟩ E)
 |⟨d,.bq sz n zero parts,g⟩=>qK E d K (Dv ⟨d,.bq sz n zero parts,g⟩ E)
 |⟨d,.lookup kk zero ok x k,g⟩=>qK E d K (Dv ⟨d,.lookup kk zero ok x k,g⟩ E)
 |⟨d,.kc x,g⟩=>qK E d K (Dv ⟨d,.kc x,g⟩ E)
 |⟨d,.rW x,g⟩=>qK E d K (Dv ⟨d,.rW x,g⟩ E)
 |o=>qK E o.dst K (qv o E)
def aR(E:St):Option Nat->Bool
 |some d=>bg (look E.e d)
 |none=>true
def YK:Nat->List ah->St->(St->Prop)->Prop
 |0,l,E,K=>swp P l E K
 |_+1,[],E,K=>K E
 |q+1,o::r,E,K=>aR E o.dst=true/\q1 P o E (fun U=>YK q r U K)
def aiB(q:Nat)(r:List ah)(K:St->Prop)(U:St):Prop:=YK P q r U K
def nI(c:Nat):AV->Bool
 |.lp t _=>!Nat.beq t c
 |.when _ v=>nI c v
 |_=>true
def sR:List Nat->AV->Bool
 |[],_=>true
 |c::T,a=>nI c a&&sR T a
def gI(T:List Nat):List (Nat×AV)->Bool
 |[]=>true
 |p::e=>sR T p.2&&gI T e
def XV(n:Nat)(E:St)(c:Nat)(x:IX)(K:St->Prop):AV->Prop
 |.loc ez=>ez.length=n/\dt (E.x x)=true/\(aZ (E.x x)).length=n/\K ((E.drain x).put (some c) (.loc (aZ (E.x x))))
 |_=>False
def q2(o:ah)(E:St)(K:St->Prop):Prop:=
 match o with
 |⟨none,.store n (.t c) x,none⟩=>XV n E c x K (look E.e c)
 |⟨some d,.aq z,none⟩=>bg (look E.e d)=true/\lN E.lp (some d)=true/\K (E.put (some d) (.loc z))
 |⟨some d,.append sz bytes x y,none⟩=>bg (look E.e d)=true/\ly sz bytes E x (some d) K (E.x x) (E.x y)
 |⟨some d,.oq off (.t i) x,none⟩=>bg (look E.e d)=true/\Gj (.t i) off (E.x x)=true/\pL E (some d) K (E.x x)
 |⟨_,.store _ _ _,_⟩=>False
 |⟨_,.aq _,_⟩=>False
 |⟨_,.append _ _ _ _,_⟩=>False
 |⟨_,.oq _ _ _,_⟩=>False
 |o=>aR E o.dst=true/\q1 P o E K
def Ht(T:List Nat):Nat->List ah->St->(St->Prop)->Prop
 |0,l,E,K=>swp P l E K
 |_+1,[],E,K=>K E
 |q+1,o::r,E,K=>q2 P o E (fun U=>gI T U.e=true/\Ht T q r U K)
def abY(T:List Nat)(q:Nat)(r:List ah)(K:St->Prop)(U:St):Prop:=gI T U.e=true/\Ht P T q r U K
def mj:AV->Bool
 |.ref _ _=>false
 |.when _ a=>mj a
 |_=>true
def nS(o:ah)(E:St):Bool:=match o.op with
 |.load _ _ x=>mj (E.x x)
 |.bf _ _ _=>false
 |.mh _ _=>false
 |.lookup _ _ _ _ _=>false
 |.call _ _=>false
 |.cu _ _=>false
 |.len c _=>!Nat.beq c 2
 |_=>true
def BH(f:Nat)(s:ab)(C:AV->ab->Prop):Option (List AV)->Prop
 |some args=>FN P f args s (fun rs s'=>jO rs=true/\C (fj rs) s')
 |none=>False
def NZ(f:Nat)(first en:List AV)(s:ab)(C:AV->ab->Prop):Option (List AV)->Prop
 |some args=>pz P f=true/\FN P f (first++args++en) s (fun rs s'=>jO rs=true/\C (fj rs) s')
 |none=>False
def wS(args:Option (List AV))(s:ab)(C:AV->ab->Prop):AV->Prop
 |.fn f first en=>NZ P f first en s C args
 |_=>False
def su(bytes:Nat)(zero:List AV)(s:ab)(C:AV->ab->Prop):AV->AV->Prop
 |.int _ l,.int _ c=>0<=l/\l<=c/\c*bytes<=room/\∀b,s b=none->C (.arr b 0 l.toNat c.toNat) (s.set b (.cells ((List.replicate c.toNat zero).flatten)))
 |_,_=>False
def agq(n:Nat)(s:ab)(C:AV->ab->Prop)(a:AV):Prop:=dt a=true/\(cellsOf a).length=n/\∀b,s b=none->C (.ref b 0) (s.set b (.cells (views (cellsOf a))))
def N5(b off:Nat)(news:List AV)(s:ab)(C:AV->ab->Prop):Option SO->Prop
 |some (.cells ez)=>off+news.length<=ez.length/\C (.gw []) (s.set b (.cells (setAt ez off news)))
 |_=>False
def PI:AV->Bool
 |.sl true _ _ _=>false
 |.bb _ _ _=>false
 |_=>true
def qd(n:Nat)(s:ab)(C:AV->ab->Prop)(v:AV):AV->Prop
 |.ref b off=>dt v=true/\PI v=true/\(aZ v).length=n/\N5 b off (aZ v) s C (s b)
 |_=>False
def QE(kk:k9)(b:Nat)(s:ab)(k v:AV)(C:AV->ab->Prop):Option SO->Prop
 |some (.map es)=>(dt v=true/\eX kk k=true/\kp kk es=true)/\C (.gw []) (s.set b (.map (wg (view k) (view v) es)))
 |_=>False
def Ki(kk:k9)(s:ab)(k v:AV)(C:AV->ab->Prop):AV->Prop
 |.mp b=>QE kk b s k v C (s b)
 |_=>False
def z7(b off:Nat)(s:ab)(C:AV->ab->Prop):Option SO->Prop
 |some (.cells cs)=>si off cs fun cs' a=>C a (s.set b (.cells cs'))
 |_=>False
def uG(s:ab)(C:AV->ab->Prop):AV->Prop
 |.ref b off=>z7 b off s C (s b)
 |_=>False
def ud(o:ua)(E:St)(C:AV->ab->Prop):Prop:=match o with
 |.call f args=>BH P f E.s C (bZ (xg true E) args)
 |.cu x args=>wS P (bZ (xg true E) args) E.s C (xg true E x)
 |.fO _ bytes zero l c=>su bytes zero E.s C (xg true E l) (xg true E c)
 |.makeMap=>∀b,E.s b=none->C (.mp b) (E.s.set b (.map []))
 |.gC zero=>∀b,E.s b=none->C (.ref b 0) (E.s.set b (.cells zero))
 |.oz n x=>agq n E.s C (xg true E x)
 |.store n p v=>qd n E.s C (E.x v) (E.x p)
 |.mapUpdate kk x k v=>Ki kk E.s (xg true E k) (xg true E v) C (xg true E x)
 |.jh x=>uG E.s C (E.x x)
 |_=>False
def U3(E:St)(d:Option Nat)(K:St->Prop)(a:AV)(s':ab):Prop:=K ({E with s:=s'}.put d a)
def Vj(o:ah)(E:St)(K:St->Prop):Prop:=match o.g with
 |none=>aR E o.dst=true/\ud P o.op E (U3 E o.dst K)
 |some _=>False
def Kj(T:List Nat):List (Nat×Nat×ah)->St->(St->Prop)->Prop
 |[],E,K=>K E
 |(0,_,o)::r,E,K=>q2 P o E (fun U=>gI T U.e=true/\Kj T r U K)
 |(1,_,o)::r,E,K=>nS o E=true/\q2 P o E (fun U=>gI T U.e=true/\Kj T r U K)
 |(2,_,o)::r,E,K=>Vj P o E (fun U=>gI T U.e=true/\Kj T r U K)
 |(_+3,_,o)::r,E,K=>Qr P o E (fun U=>gI T U.e=true/\Kj T r U K)
def Vq(T:List Nat)(r:List (Nat×Nat×ah))(K:St->Prop)(U:St):Prop:=gI T U.e=true/\Kj P T r U K
def Bw:List Bool->List Bool->Bool
 |d::r,x::s=>(!d||x)&&Bw r s
 |_,_=>true
def CV:List Bool->List Bool->List Bool
 |[],s=>s
 |x::p,s=>CV p (x::s)
def Sk(done:List Bool):List (List Bool)->List Bool->List Bool->List ah->(ah->List Bool->Prop)->Prop
 |row::rows,pre,x::xs,o::r,F=>(bif !x&&Bw row done then F o (CV pre (true::xs))else True)/\Sk done rows (x::pre) xs r F
 |_,_,_,_,_=>True
def wM:List ah->List Bool
 |[]=>[]
 |_::r=>false::wM r
def U1(gl:List (List Bool))(ops:List ah)(K:St->Prop):List ah->List Bool->St->Prop
 |[],_,E=>K E
 |_::f,done,E=>Sk done gl [] done ops (fun o d=>Qr P o E (fun U=>U1 gl ops K f d U))
def ajg(gl:List (List Bool))(ops:List ah)(K:St->Prop)(f:List ah)(done:List Bool)(U:St):Prop:=U1 P gl ops K f done U
def wo(live:List Nat)(Q:Exit->St->Prop)(U:St):Prop:=Q .normal (U.zm live)
def TL(id:Nat)(Q:Exit->St->Prop):Exit->St->Prop
 |.exit i,U=>bif i==id then Q .normal U else Q (.exit i) U
 |x,U=>Q x U
def KY(live:List (Nat×Bool))(I:St->Prop)(μ:St->Nat)(m:Nat)(Q:Exit->St->Prop):Exit->St->Prop
 |.normal,ρ=>I (ρ.ep live)/\μ (ρ.ep live)<m
 |x,ρ=>Q x ρ
def tV(live:List (Nat×Bool))(J:St->Prop)(Q:Exit->St->Prop):Exit->St->Prop
 |.normal,ρ=>J (ρ.ep live)
 |x,ρ=>Q x ρ
def P9(live:List (Nat×Bool))(I:St->Prop)(Q:Exit->St->Prop):Exit->St->Prop
 |.normal,ρ=>I (ρ.ep live)
 |.goto _,_=>False
 |x,ρ=>Q x ρ
def Uh(l:Nat)(live:List (Nat×Bool))(I:St->Prop)(Q:Exit->St->Prop):Exit->St->Prop
 |.goto l',ρ=>l'=l/\I (ρ.ep live)
 |x,ρ=>Q x ρ
def gO:IC->(Exit->St->Prop)->St->Prop
 |.skip,Q,E=>Q .normal E
 |.bN q ops live,Q,E=>match q with
  |none=>swp P ops E (wo live Q)
  |some q=>YK P q ops E (wo live Q)
 |.wq T q ops live,Q,E=>gI T E.e=true/\Ht P T q ops E (wo live Q)
 |.HM T l live,Q,E=>gI T E.e=true/\Kj P T l E (wo live Q)
 |.UH gl ops live,Q,E=>U1 P gl ops (wo live Q) ops (wM ops) E
 |.seq a b,Q,E=>gO a (fun x U=>match x with|.normal=>gO b Q U|x=>Q x U) E
 |.cond c a b,Q,E=>match E.x c with
  |.bool v=>(v=true->gO a Q E)/\(v=false->gO b Q E)
  |_=>False
 |.block id b,Q,E=>gO b (TL id Q) E
 |.loop live b,Q,E=>∃(I:St->Prop)(μ:St->Nat),I (E.ep live)/\∀U,I U->gO b (KY live I μ (μ U) Q) U
 |.join live a b,Q,E=>∃J:St->Prop,gO a (tV live J Q) E/\∀U,J U->gO b Q U
 |.exit id,Q,E=>Q (.exit id) E
 |.scope b,Q,E=>gO b (fun x U=>match x with|.goto _=>False|x=>Q x U) E
 |.CI l live a1 a2 a3 r,Q,E=>
  let K:=P9 live (fun ρ=>∃(I:St->Prop)(μ:St->Nat),I ρ/\∀U,I U->gO r (Uh l live (fun ρ'=>I ρ'/\μ ρ'<μ U) Q) U) Q
  gO a1 (fun x U=>match x with|.normal=>gO a2 (fun x U=>match x with|.normal=>gO a3 K U|x=>K x U) U|x=>K x U) E
 |.label _,Q,E=>Q .normal E
 |.goto l,Q,E=>Q (.goto l) E
 |.ret,Q,E=>Q .ret E
 |.dead,_,_=>False
def jlp(l:Nat)(live:List (Nat×Bool))(r:IC)(Q:Exit->St->Prop)(ρ:St):Prop:=∃(I:St->Prop)(μ:St->Nat),I ρ/\∀U,I U->gO P r (Uh l live (fun ρ'=>I ρ'/\μ ρ'<μ U) Q) U
def Ek(b:IC)(Q:Exit->St->Prop):Exit->St->Prop
 |.normal,U=>gO P b Q U
 |x,U=>Q x U
def zH(Q:Exit->St->Prop):Exit->St->Prop
 |.goto _,_=>False
 |x,U=>Q x U
def SF(a b:IC)(Q:Exit->St->Prop)(E:St):AV->Prop
 |.bool v=>(v=true->gO P a Q E)/\(v=false->gO P b Q E)
 |_=>False
end
end Go.AB
end
