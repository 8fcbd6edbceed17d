/- A part of the proof. -/
import Derived.Orders
import Derived.Laws.Sem
set_option linter.unusedSimpArgs false
set_option linter.unusedVariables false
section
namespace Go.AB
open Go
inductive AV where
 |undef
 |bool (b:Bool)
 |int (k:IntKind) (n:Int)
 |str (s:List UInt8)
 |dV
 |ref (b off:Nat)
 |lp (d off:Nat)
 |sp (cs:List AV)
 |loc (cs:List AV)
 |sl (own:Bool) (sz n:Nat) (cs:List AV)
 |arr (b off len cap:Nat)
 |agg (cs:List AV)
 |gK (vs:List AV)
 |fn (f:Nat) (first eG:List AV)
 |ph
 |mp (b:Nat)
 |pj
 |when (b:Bool) (a:AV)
 |us (sz n:Nat) (cs:List AV)
 |one
 |ri (t:Nat)
 |BD
 |bb (t n:Nat) (cs:List AV)
 deriving Inhabited
inductive SO where
 |cells (cs:List AV)
 |map (es:List (AV×AV))
 deriving Inhabited
abbrev ab:=Nat->Option SO
def ab.set(s:ab)(b:Nat)(o:SO):ab:=fun i=>if i=b then some o else s i
def ab.del(s:ab)(b:Nat):ab:=fun i=>if i=b then none else s i
inductive lI where
 |int (k:IntKind)
 |str
 |bool
 |bytes (n:Nat)
 deriving Inhabited
inductive IX where
 |t (i:Nat)
 |c (a:AV)
 deriving Inhabited
inductive uC where
 |ib (tr:Bool) (x:IX)
 |pick (c x y:IX)
 |an (zero:List AV)
 |gR (zero:List AV)
 |b8 (n:Nat) (x:IX)
 |oU (n:Nat) (x:IX)
 |build (zero:List AV) (parts:List (Nat×Nat×IX))
 |aN (sz len:Nat) (zero:List AV) (parts:List (Nat×Nat×IX))
 |load (n:Nat) (multi:Bool) (x:IX)
 |store (n:Nat) (p v:IX)
 |nilCheck (x:IX)
 |bin (op:BinOp) (x y:IX)
 |VA (ne:Bool) (x y:IX)
 |Pq (ne:Bool) (x y:IX)
 |un (op:UnOp) (x:IX)
 |ot (k:IntKind) (x:IX)
 |fF (x:IX)
 |gS (x:IX)
 |jh (x i:IX)
 |fieldAddr (off:Nat) (x:IX)
 |indexAddr (zero:List AV) (x i:IX)
 |slice (sz:Nat) (x:IX) (lo hi mx:Option IX)
 |rL (x:IX) (lo hi:Option IX)
 |extract (x:IX) (k:Nat)
 |len (cls:Nat) (x:IX)
 |cap (x:IX)
 |gb (mx:Bool) (xs:List IX)
 |append (sz bytes:Nat) (x y:IX)
 |kN (sz bytes:Nat) (zero:List AV) (l c:IX)
 |makeMap
 |lookup (kk:lI) (zero:AV) (ok:Bool) (x k:IX)
 |mapUpdate (kk:lI) (x k v:IX)
 |bw (zero:List AV) (multi:Bool) (x:IX)
 |kz (x:IX)
 |sH (x:IX)
 |call (f:Nat) (args:List IX)
 |cG (x:IX) (args:List IX)
 |kL (f:Nat) (first eG:List IX)
 |j9 (sz len:Nat) (zero:List AV) (parts:List (Nat×Nat×IX))
 |fk (sz bytes:Nat) (zero:List AV) (x y:IX)
 |ik (sz:Nat) (x y:IX)
 |mS (zero:List AV) (x:IX)
 |UB (sz:Nat) (own:Bool) (x:IX)
 |jq (x:IX)
 |YI (ne:Bool) (x:IX)
 |VD (f:Nat) (x y:IX)
 |uX (f i:Nat) (args:List IX)
 |lR (sz bytes:Nat) (zero:List AV) (x y:IX)
 |Zf (ne:Bool) (x:IX)
 |qw (sz n:Nat) (p v:IX)
 |FV (sz n:Nat) (x:IX)
 |mL (off:Nat) (j x:IX)
 |mM (k:IntKind) (x:IX)
 |yU (sz:Nat) (own:Bool) (x:IX)
 |Mc (n t j u:Nat) (x:IX)
 deriving Inhabited
structure ai where
 dst:Option Nat
 op:uC
 g:Option (Nat×Bool)
 deriving Inhabited
inductive IC where
 |skip
 |bJ (q:Option Nat) (ops:List ai) (live:List Nat)
 |oG (T:List Nat) (q:Nat) (ops:List ai) (live:List Nat)
 |NK (T:List Nat) (l:List (Nat×Nat×ai)) (live:List Nat)
 |Vd (gE:List (List Bool)) (ops:List ai) (live:List Nat)
 |seq (a b:IC)
 |cond (c:IX) (a b:IC)
 |block (id:Nat) (b:IC)
 |loop (live:List (Nat×Bool)) (b:IC)
 |join (live:List (Nat×Bool)) (a b:IC)
 |exit (id:Nat)
 |scope (b:IC)
 |Dj (l:Nat) (live:List (Nat×Bool)) (a1 a2 a3 r:IC)
 |label (l:Nat)
 |goto (l:Nat)
 |ret
 |dead
 deriving Inhabited
structure St where
 e:List (Nat×AV)
 lp:List (Nat×Nat)
 s:ab
def look:List (Nat×AV)->Nat->AV
 |[],_=>.undef
 |(j,a)::l,i=>bif j==i then a else look l i
def St.x(E:St):IX->AV
 |.t i=>look E.e i
 |.c a=>a
def St.put(E:St)(d:Option Nat)(a:AV):St:=
 match d with
 |some d=>{E with e:=(d,a)::E.e}
 |none=>E
def eb:AV->AV
 |.lp _ _=>.undef
 |.when _ _=>.undef
 |a=>a
def St.zR(E:St)(live:List Nat):St:={e:=live.map fun i=>(i,eb (look E.e i)),lp:=[],s:=E.s}
def view:AV->AV
 |.sl _ sz n cs=>.sl false sz n cs
 |.us _ _ _=>.undef
 |.ri _=>.dV
 |.bb _ n cs=>.sl false 1 n cs
 |a=>a
def Yv(b:Bool)(a:AV):AV:=bif b then view a else a
def St.eP(E:St)(live:List (Nat×Bool)):St:={e:=live.map fun p=>(p.1,Yv p.2 (eb (look E.e p.1))),lp:=[],s:=E.s}
def inner:AV->Bool
 |.loc _=>false
 |.when _ _=>false
 |_=>true
def Ak(g:Bool):AV->AV
 |.when b a=>bif((b==g)||b)&&inner a then a else .undef
 |a=>a
def tq:Int:=9223372036854775807
def dF:AV->Bool
 |.undef=>false
 |.lp _ _=>false
 |.loc _=>false
 |.gK _=>false
 |.when _ _=>false
 |.us _ _ _=>false
 |.ri _=>false
 |_=>true
def oo(k:IntKind)(n:Int):Int:=k.wrap n
inductive PR where
 |dI (a:AV)
 |prt (c:Prop) (a:AV)
 |no
def UM(k k':IntKind):Bool:=decide (k=k')
def kk(k k':IntKind)(r:PR):PR:=bif UM k k' then r else .no
def As(op:BinOp)(k k':IntKind)(a b:Int):PR:=
 match op with
 |.shl=>.prt (0<=b) (.int k (oo k (a*2^(min b.toNat k.bits))))
 |.shr=>.prt (0<=b) (.int k (a.fdiv (2^(min b.toNat k.bits))))
 |.add=>kk k k' (.dI (.int k (oo k (a+b))))
 |.sub=>kk k k' (.dI (.int k (oo k (a -b))))
 |.mul=>kk k k' (.dI (.int k (oo k (a*b))))
 |.quo=>kk k k' (.prt (b≠0) (.int k (oo k (a.tdiv b))))
 |.rem=>kk k k' (.prt (b≠0) (.int k (a.tmod b)))
 |.and=>kk k k' (.dI (.int k (k.wrap (BitVec.ofInt k.bits a&&&BitVec.ofInt k.bits b).toNat)))
 |.or=>kk k k' (.dI (.int k (k.wrap (BitVec.ofInt k.bits a |||BitVec.ofInt k.bits b).toNat)))
 |.xor=>kk k k' (.dI (.int k (k.wrap (BitVec.ofInt k.bits a^^^BitVec.ofInt k.bits b).toNat)))
 |.andNot=>kk k k' (.dI (.int k (k.wrap (BitVec.ofInt k.bits a&&& ~~~BitVec.ofInt k.bits b).toNat)))
 |.eql=>kk k k' (.dI (.bool (a==b)))
 |.neq=>kk k k' (.dI (.bool (a !=b)))
 |.lss=>kk k k' (.dI (.bool (decide (a<b))))
 |.leq=>kk k k' (.dI (.bool (decide (a<=b))))
 |.gtr=>kk k k' (.dI (.bool (decide (a>b))))
 |.geq=>kk k k' (.dI (.bool (decide (a>=b))))
def OY(op:BinOp)(a b:List UInt8):PR:=
 match op with
 |.add=>.prt (((a.length+b.length:Nat):Int)<=tq) (.str (a++b))
 |.eql=>.dI (.bool (a==b))
 |.neq=>.dI (.bool (!(a==b)))
 |.lss=>.dI (.bool (Op.bytesLess a b))
 |.leq=>.dI (.bool (Op.bytesLess a b||a==b))
 |.gtr=>.dI (.bool (!(Op.bytesLess a b||a==b)))
 |.geq=>.dI (.bool (!Op.bytesLess a b))
 |_=>.no
def Rq(op:BinOp)(x y:AV):PR:=
 match x,y with
 |.int k a,.int k' b=>As op k k' a b
 |.str a,.str b=>OY op a b
 |_,_=>.no
def RP(ne:Bool)(x y:AV):PR:=
 match x,y with
 |.bool a,.bool b=>.dI (.bool ((a==b)!=ne))
 |_,_=>.no
def Pr(ne:Bool)(x y:AV):PR:=
 match x,y with
 |.dV,.dV=>.dI (.bool (!ne))
 |.ref _ _,.dV=>.dI (.bool ne)
 |.dV,.ref _ _=>.dI (.bool ne)
 |.ref b o,.ref b' o'=>bif b==b'&&o==o' then .dI (.bool (!ne))else .no
 |_,_=>.no
def alP(ne:Bool)(x y:AV):PR:=
 match x,y with
 |.sl _ _ (_+1) _,.sl _ _ 0 []=>.dI (.bool ne)
 |.arr _ _ _ (_+1),.sl _ _ 0 []=>.dI (.bool ne)
 |_,_=>.no
def Fj:List AV->List AV->Bool
 |[],[]=>true
 |.int k _::r,.int k' _::s=>UM k k'&&Fj r s
 |_,_=>false
def RQ:List AV->List AV->Bool
 |.int _ a::r,.int _ b::s=>(a==b)&&RQ r s
 |_,_=>true
def alO(n:Nat)(ne:Bool)(x y:AV):PR:=
 match x,y with
 |.agg cs,.agg ds=>bif Fj cs ds&&cs.length==n then .dI (.bool (RQ cs ds !=ne))else .no
 |_,_=>.no
def Po(ne:Bool):AV->PR
 |.fn _ _ _=>.dI (.bool ne)
 |.ph=>.dI (.bool (!ne))
 |_=>.no
def cellsOf:AV->List AV
 |.agg cs=>cs
 |a=>[a]
def rV(multi:Bool)(cs:List AV):AV:=match multi,cs with
 |true,cs=>.agg cs
 |false,a::_=>a
 |false,[]=>.undef
def sub(cs:List AV)(off n:Nat):List AV:=(cs.drop off).take n
def views(cs:List AV):List AV:=cs.map view
def bg:AV->List AV
 |.agg cs=>views cs
 |a=>[a]
def setAt(cs:List AV)(off:Nat)(news:List AV):List AV:=cs.take off++news++cs.drop (off+news.length)
def bx(b:Bool):AV->Option Bool
 |.bool x=>some x
 |.when b' (.bool x)=>bif(b'==b)||b' then some x else none
 |_=>none
def fill(f:IX->AV)(cells:List AV):List (Nat×Nat×IX)->Option (List AV)
 |[]=>some cells
 |(off,n,x)::r=>
  let c:=views (cellsOf (f x))
  bif dF (f x)&&(c.length==n&&decide (off+n<=cells.length))then fill f (setAt cells off c) r else none
def gN(n off:Nat)(cs:List AV):Option (List AV):=bif decide (off+n<=cs.length)then some (views (sub cs off n))else none
def mO(n off:Nat):AV->Option (List AV)
 |.loc cs=>gN n off cs
 |_=>none
def BM(n off:Nat):Option SO->Option (List AV)
 |some (.cells cs)=>gN n off cs
 |_=>none
def rd(E:St)(p:AV)(n:Nat):Option (List AV):=
 match p with
 |.loc cs=>gN n 0 cs
 |.lp d off=>mO n off (look E.e d)
 |.sp cs=>gN n 0 cs
 |.ref b off=>BM n off (E.s b)
 |_=>none
def I4(f:IX->AV)(o:Option IX)(aj4:Int):Option Int:=
 match o with
 |none=>some aj4
 |some x=>match f x with
  |.int _ n=>some n
  |_=>none
def Qm(mx:Bool):Int->List AV->Option Int
 |a,[]=>some a
 |a,.int _ b::r=>Qm mx (bif mx then max a b else min a b) r
 |_,_=>none
def sc:AV->Bool
 |.agg _=>false
 |a=>dF a
def Fl(cs:List AV):Prop:=∀c∈cs,sc c=true
def Dy(t:Nat)(cs:List AV):Prop:=∀c∈cs,sc c=true\/c=.ri t
def UX(a:AV):PR:=bif dF a then .dI (view a)else .no
def Wz:AV->Option (Bool×Bool)
 |.bool x=>some (true,x)
 |.when b (.bool x)=>some (b,x)
 |_=>none
def XL(b:Bool):Option (Bool×Bool)->Option (Bool×Bool)->PR
 |some (g1,p),some (g2,q)=>.prt ((b=true->g1=true)/\(b=false->g2=true)) (.bool (bif b then p else q))
 |_,_=>.no
def gv2:AV->Option (Bool×Bool)
 |.gK []=>some (false,false)
 |a=>Wz a
def LL(x y:AV):AV->PR
 |.bool b=>XL b (gv2 x) (gv2 y)
 |_=>.no
def ckV(a:AV):PR:=bif dF a then .dI a else .no
def ckP(c:Prop)(a:AV):PR:=bif dF a then .prt c a else .no
def unV:UnOp->AV->PR
 |.not,.bool b=>.dI (.bool (!b))
 |.neg,.int k n=>.dI (.int k (oo k (0 -n)))
 |_,_=>.no
def xp(k:IntKind):AV->PR
 |.int _ n=>.dI (.int k (oo k n))
 |_=>.no
def aj3:AV->PR
 |.str s=>.dI (.str s)
 |_=>.no
def oQ(multi:Bool):Option (List AV)->PR
 |some cs=>ckV (rV multi cs)
 |none=>.no
def xJ:AV->AV->PR
 |.str s,.int _ k=>.prt (0<=k/\k<s.length) (.int .u8 (s.getD k.toNat 0).toNat)
 |_,_=>.no
def na:AV->PR
 |.ref b off=>.dI (.ref b off)
 |_=>.no
def ZF(c:Prop)(off:Nat):IX->PR
 |.t i=>.prt (c) (.lp i off)
 |.c _=>.no
def gF(off:Nat)(x:IX):AV->PR
 |.lp d o=>.dI (.lp d (o+off))
 |.sp cs=>bif decide (off<=cs.length)then .dI (.sp (cs.drop off))else .no
 |.ref b o=>.dI (.ref b (o+off))
 |.loc _=>ZF True off x
 |_=>.no
def pad(zero cs:List AV):List AV:=bif cs.length==zero.length then cs else zero
def kG(zero:List AV):AV->AV->PR
 |.sl _ s n cs,.int _ k=>bif s==zero.length then .prt (0<=k/\k<n) (.sp (pad zero (views (sub cs (k.toNat*zero.length) zero.length))))else .no
 |.arr b off n _,.int _ k=>.prt (0<=k/\k<n) (.ref b (off+k.toNat*zero.length))
 |_,_=>.no
def FA(sz n:Nat)(cs:List AV):Option Int->Option Int->PR
 |some l,some h=>bif Nat.ble 1 sz then .prt (0<=l/\l<=h/\h<=n) (.sl false sz ((sub cs (l.toNat*sz) ((h -l).toNat*sz)).length/sz) (sub cs (l.toNat*sz) ((h -l).toNat*sz)))else .no
 |_,_=>.no
def jy(off cap l sz:Nat):Nat:=bif cap==l then off else off+l*sz
def BX(sz b off cap:Nat):Option Int->Option Int->PR
 |some l,some h=>.prt (0<=l/\l<=h/\h<=cap) (.arr b (jy off cap l.toNat sz) (h -l).toNat (cap -l.toNat))
 |_,_=>.no
def Dl(sz b off cap:Nat):Option Int->Option Int->Option Int->PR
 |some l,some h,some m=>.prt (0<=l/\l<=h/\h<=m/\m<=cap) (.arr b (jy off m.toNat l.toNat sz) (h -l).toNat (m.toNat -l.toNat))
 |_,_,_=>.no
def qW(sz:Nat)(f:IX->AV)(lo hi:Option IX)(mx:IX):AV->PR
 |.arr b off _ cap=>Dl sz b off cap (I4 f lo 0) (bif hi.isSome then I4 f hi 0 else none) (I4 f (some mx) 0)
 |_=>.no
def Rx:AV->PR
 |.arr _ _ _ cap=>.dI (.int .i64 cap)
 |_=>.no
def wS(sz:Nat)(f:IX->AV)(lo hi:Option IX):AV->PR
 |.sl _ s n cs=>bif s==sz then FA sz n cs (I4 f lo 0) (I4 f hi n)else .no
 |.arr b off n cap=>BX sz b off cap (I4 f lo 0) (I4 f hi n)
 |_=>.no
def BZ(s:List UInt8):Option Int->Option Int->PR
 |some l,some h=>.prt (0<=l/\l<=h/\h<=s.length) (.str ((s.drop l.toNat).take (h -l).toNat))
 |_,_=>.no
def nk(f:IX->AV)(lo hi:Option IX):AV->PR
 |.str s=>BZ s (I4 f lo 0) (I4 f hi s.length)
 |_=>.no
def Se:Option SO->PR
 |some (.map es)=>.dI (.int .i64 es.length)
 |_=>.no
def ER(s:ab):Nat->AV->PR
 |0,.sl _ _ n _=>.dI (.int .i64 n)
 |0,.arr _ _ n _=>.dI (.int .i64 n)
 |1,.str s=>.dI (.int .i64 s.length)
 |2,.pj=>.dI (.int .i64 0)
 |2,.mp b=>Se (s b)
 |_,_=>.no
def ahs(k:IntKind):Option Int->PR
 |some m=>.dI (.int k m)
 |none=>.no
def xA(mx:Bool):List AV->PR
 |.int k n::r=>ahs k (Qm mx n r)
 |_=>.no
def Ps:Option AV->PR
 |some a=>ckV (view a)
 |none=>.no
def rY(k:Nat):AV->PR
 |.gK vs=>Ps vs[k]?
 |_=>.no
def byteOf:AV->Option UInt8
 |.int .u8 n=>if 0<=n/\n<256 then some (UInt8.ofNat n.toNat)else none
 |_=>none
def V9{α:Type}:Option α->Option (List α)->Option (List α)
 |some a,some l=>some (a::l)
 |_,_=>none
def bytesOf:List AV->Option (List UInt8)
 |[]=>some []
 |a::r=>V9 (byteOf a) (bytesOf r)
def Yl:Option (List UInt8)->PR
 |some l=>.dI (.str l)
 |none=>.no
def tf:AV->PR
 |.sl _ sz _ cs=>bif sz==1 then Yl (bytesOf cs)else .no
 |_=>.no
def FY:Option (List AV)->PR
 |some cs=>.dI (.agg cs)
 |none=>.no
def Ue(a:AV):Option (List AV)->Option (List AV)
 |some l=>bif dF a then some (view a::l)else none
 |none=>none
def b7(f:IX->AV):List IX->Option (List AV)
 |[]=>some []
 |x::r=>Ue (f x) (b7 f r)
def xy(fi:Nat):Option (List AV)->Option (List AV)->PR
 |some a,some b=>.dI (.fn fi a b)
 |_,_=>.no
def Qf(zero:List AV)(multi:Bool)(off:Nat):Option SO->PR
 |some (.cells cs)=>ckP (off+zero.length<=cs.length) (rV multi (pad zero (views (sub cs off zero.length))))
 |_=>.no
def Lv(zero:List AV)(multi:Bool)(s:ab):AV->PR
 |.ref b off=>Qf zero multi off (s b)
 |_=>.no
def Hz(k:IntKind)(off:Nat):Option SO->Prop
 |some (.cells cs)=>∃n,cs[off]? =some (.int k n)
 |_=>False
def intOf:Option AV->Int
 |some (.int _ n)=>n
 |_=>0
def HA(off:Nat):Option SO->Int
 |some (.cells cs)=>intOf cs[off]?
 |_=>0
def CR(k:IntKind)(s:ab):AV->PR
 |.ref b off=>.prt (Hz k off (s b)) (.int k (HA off (s b)))
 |_=>.no
def pv(o:uC)(f:IX->AV)(E:St):PR:=
 match o with
 |.ib false x=>UX (f x)
 |.pick c x y=>LL (E.x x) (E.x y) (f c)
 |.bin op x y=>Rq op (f x) (f y)
 |.VA ne x y=>RP ne (f x) (f y)
 |.Pq ne x y=>Pr ne (f x) (f y)
 |.un op x=>unV op (f x)
 |.ot k x=>xp k (f x)
 |.load n multi x=>oQ multi (rd E (f x) n)
 |.jh x i=>xJ (f x) (f i)
 |.nilCheck x=>na (f x)
 |.fieldAddr off x=>gF off x (f x)
 |.indexAddr zero x i=>kG zero (f x) (f i)
 |.slice sz x lo hi none=>wS sz f lo hi (f x)
 |.rL x lo hi=>nk f lo hi (f x)
 |.len cls x=>ER E.s cls (f x)
 |.gb mx xs=>xA mx (xs.map f)
 |.extract x k=>rY k (f x)
 |.build zero parts=>FY (fill f zero parts)
 |.kL fi first eG=>xy fi (b7 f first) (b7 f eG)
 |.fF x=>tf (f x)
 |.bw zero multi x=>Lv zero multi E.s (f x)
 |.mM k x=>CR k E.s (f x)
 |.slice sz x lo hi (some mx)=>qW sz f lo hi mx (f x)
 |.cap x=>Rx (f x)
 |.Zf ne x=>Po ne (f x)
 |_=>.no
end Go.AB
end
section
namespace Go.AB
open Go
inductive c7 where
 |none
 |frame
 |slot (i j:Nat)
 |loc (i:Nat)
 |sh
 |cell (b j:Nat)
 |res (j:Nat)
 deriving DecidableEq
structure Gh where
 R:Nat->Nat
 O:Nat->c7
inductive VR(w:World)(R:Nat->Nat):AV->Value->Prop where
 |undef (v:Value):VR w R .undef v
 |bool (b:Bool):VR w R (.bool b) (.bool b)
 |int (k:IntKind) (n:Int):VR w R (.int k n) (.int k n)
 |str (s:List UInt8):VR w R (.str s) (.string ⟨s.toArray⟩)
 |dV:VR w R .dV (.pointer none)
 |ref (b off:Nat):VR w R (.ref b off) (.pointer (some ⟨b,off,none⟩))
 |sp (cs:List AV) (b off:Nat) (u:Nat->Value) (hf:Fl cs) (hR:off+cs.length<=R b)
   (hc:∀(j:Nat)(c:AV),cs[j]? =some c->w.cell? ⟨b,off+j,none⟩=some (u j)) (hr:∀(j:Nat)(c:AV),cs[j]? =some c->VR w R c (u j)):
   VR w R (.sp cs) (.pointer (some ⟨b,off,none⟩))
 |slnil (own:Bool) (sz:Nat):VR w R (.sl own sz 0 []) (.slice none 0 0)
 |sle (sz:Nat) (a:Addr) (cap:Nat):VR w R (.sl false sz 0 []) (.slice (some a) 0 cap)
 |sl (own:Bool) (sz n:Nat) (cs:List AV) (b off cap:Nat) (u:Nat->Value) (hf:Fl cs) (hl:cs.length=n*sz) (hR:off+cs.length<=R b) (iG:n<=cap)
   (hc:∀(j:Nat)(c:AV),cs[j]? =some c->w.cell? ⟨b,off+j,none⟩=some (u j)) (hr:∀(j:Nat)(c:AV),cs[j]? =some c->VR w R c (u j)):
   VR w R (.sl own sz n cs) (.slice (some ⟨b,off,none⟩) n cap)
 |arr (b off len cap:Nat):VR w R (.arr b off len cap) (.slice (some ⟨b,off,none⟩) len cap)
 |Ma (b off:Nat):VR w R (.arr b off 0 0) (.slice none 0 0)
 |agg (cs:List AV) (vs:Array Value) (hf:Fl cs) (hl:vs.size=cs.length) (hr:∀(j:Nat)(c:AV)(v:Value),cs[j]? =some c->vs[j]? =some v->VR w R c v):VR w R (.agg cs) (.agg vs)
 |gK (cs:List AV) (vs:Array Value) (hl:vs.size=cs.length) (hr:∀(j:Nat)(c:AV)(v:Value),cs[j]? =some c->vs[j]? =some v->VR w R c v):VR w R (.gK cs) (.tuple vs)
 |fn (f:Nat) (first eG:List AV) (vf vc:Array Value) (hl:vf.size=first.length) (hr:∀(j:Nat)(c:AV)(v:Value),first[j]? =some c->vf[j]? =some v->VR w R c v)
   (hl':vc.size=eG.length) (hr':∀(j:Nat)(c:AV)(v:Value),eG[j]? =some c->vc[j]? =some v->VR w R c v):VR w R (.fn f first eG) (.func (.func f) vf vc)
 |ph:VR w R .ph .nilFunc
 |mp (b:Nat):VR w R (.mp b) (.map (some b))
 |pj:VR w R .pj (.map none)
 |when (b:Bool) (a:AV) (v:Value) (h:b=true->VR w R a v):VR w R (.when b a) v
 |one (v:Value) (h:v.oneCell'=true):VR w R .one v
 |ri (t:Nat):VR w R (.ri t) (.pointer none)
 |BD:VR w R .BD .nilIface
 |bb (t n:Nat) (cs:List AV) (v:Value) (h:VR w R (.sl true 1 n cs) v) (h0:n=0->v=.slice none 0 0):VR w R (.bb t n cs) v
def dx(G:Gh)(w:World)(o:c7)(a:AV)(v:Value):Prop:=
 match a with
 |.sl true sz n _=>∀base m cap,v=.slice base m cap->(cap≠n\/0<n)->
   ∃b off c e fz,base=some ⟨b,off,none⟩/\G.O b=o/\G.R b=off+n*sz/\w.heap[b]? =some (.cells c e fz)/\c.size=off+cap*sz/\
    (∀k,k<c.size->¬(fz.1<=k/\k<fz.2))/\fz.1<=fz.2/\off=0/\(fz=(0,0)\/(0<n/\∃x,c[0]? =some (.int .u8 x)))/\
    ∀(k:Nat)(y:Value),off+n*sz<=k->c[k]? =some y->y.oneCell'=true
 |.bb e n _=>∀base m cap,v=.slice base m cap->(cap≠n\/0<n)->
   ∃b off c fz,base=some ⟨b,off,none⟩/\G.O b=o/\G.R b=off+n*1/\w.heap[b]? =some (.cells c e fz)/\c.size=off+cap*1/\
    (∀k,k<c.size->¬(fz.1<=k/\k<fz.2))/\fz.1<=fz.2/\off=0/\(fz=(0,0)\/(0<n/\∃x,c[0]? =some (.int .u8 x)))/\
    ∀(k:Nat)(y:Value),off+n*1<=k->c[k]? =some y->y.oneCell'=true
 |_=>True
def dG(G:Gh)(w:World)(o:Nat->c7)(cs:List AV)(c:Array Value):Prop:=c.size=cs.length/\∀(j:Nat)(x:AV)(y:Value),cs[j]? =some x->c[j]? =some y->VR w G.R x y/\dx G w (o j) x y
def UsR(G:Gh)(w:World)(o:c7)(sz n:Nat)(cs:List AV)(v:Value):Prop:=
 (n=0/\cs=[]/\(v=.slice none 0 0\/∃b off,v=.slice (some ⟨b,off,none⟩) 0 0))\/
 ∃b cap c t sp,0<cap/\n<=cap/\v=.slice (some ⟨b,0,none⟩) n cap/\G.O b=o/\G.R b=0/\w.heap[b]? =some (.cells c t (0,0))/\c.size=cap*sz/\cs.length=n*sz/\(cs++sp).length=cap*sz/\
  (∀(j:Nat)(x:AV)(u:Value),(cs++sp)[j]? =some x->c[j]? =some u->VR w G.R x u)/\Fl (cs++sp)/\views (cs++sp)=cs++sp
def dt(G:Gh)(w:World)(e:List (Nat×AV))(tmps:Array Value)(i:Nat):AV->Value->Prop
 |.loc cs,v=>∃b c t,v=.pointer (some ⟨b,0,none⟩)/\G.O b=.loc i/\G.R b=0/\w.heap[b]? =some (.cells c t (0,0))/\dG G w (.cell b) cs c/\Fl cs
 |.lp d off,v=>∃b,v=.pointer (some ⟨b,off,none⟩)/\∀cs,look e d=.loc cs->tmps[d]? =some (.pointer (some ⟨b,0,none⟩))
 |.gK vs,v=>∃ys:Array Value,v=.tuple ys/\dG G w (fun j=>.slot i (j+1)) vs ys
 |.when b a,v=>(b=true->dt G w e tmps i a v)/\(b=false->v=.tuple #[])
 |.us sz n cs,v=>UsR G w (.slot i 0) sz n cs v
 |a,v=>VR w G.R a v/\dx G w (.slot i 0) a v
def bD:AV->Nat->Prop
 |.lp d _,d'=>d=d'
 |.when _ a,d'=>bD a d'
 |_,_=>False
structure cw(G:Gh)(w:World):Prop where
 kS:∀b,w.heap.size<=b->G.O b=.none
 kU:∀b,w.heap.size<=b->G.R b=0
def afU(G:Gh)(w:World)(x:AV×AV)(y:MapEntry):Prop:=VR w G.R x.1 y.key/\VR w G.R x.2 y.val
def aW(G:Gh)(w:World)(s:ab):Prop:=
 ∀b o,s b=some o->G.O b=.sh/\G.R b=0/\match o with
  |.cells cs=>∃c t,w.heap[b]? =some (.cells c t (0,0))/\dG G w (.cell b) cs c/\Dy t cs
  |.map es=>∃js clock,w.heap[b]? =some (.map js clock)/\js.size=es.length/\∀(j:Nat)(x:AV×AV)(y:MapEntry),es[j]? =some x->js[j]? =some y->afU G w x y
structure Inv(G:Gh)(n:Nat)(D:List Deferred)(E:St)(a:Act)(w:World):Prop where
 aV:cw G w
 store:aW G w E.s
 size:a.tmps.size=n
 cy:∀(i:Nat)(v:Value),a.tmps[i]? =some v->dt G w E.e a.tmps i (look E.e i) v
 Jj:∀i,n<=i->look E.e i=.undef
 Rj:∀i d,bD (look E.e i) d->(i,d)∈E.lp
 uE:a.defers=D
structure aC(G:Gh)(w:World)(G':Gh)(w':World):Prop where
 os:w'.os=w.os
 tape:w'.tape=w.tape
 output:w'.output=w.output
 drawn:w.drawn<=w'.drawn
 size:w.heap.size<=w'.heap.size
 mono:∀b,b<w.heap.size->G.R b<=G'.R b
 oH:∀b k,b<w.heap.size->k<G.R b->w'.cell? ⟨b,k,none⟩=w.cell? ⟨b,k,none⟩
 frame:∀b,b<w.heap.size->G.O b=.frame\/G.O b=.none->w'.heap[b]? =w.heap[b]?
 kD:∀b,b<w.heap.size->G.O b=.frame->G'.O b=.frame/\G'.R b=G.R b
 qP:∀b,b<w.heap.size->G.O b=.none->G'.O b=.none/\G'.R b=G.R b
def X4(G:Gh)(w:World)(a:AV)(v:Value):Prop:=
 match a with
 |.us sz n cs=>UsR G w (.res 0) sz n cs v
 |a=>VR w G.R a v/\dx G w (.res 0) a v
def pH(G:Gh)(w:World)(rs:List AV)(v:Value):Prop:=
 match rs with
 |[a]=>X4 G w a v
 |rs=>∃ys:Array Value,v=.tuple ys/\dG G w (fun j=>.res j) rs ys
def Dz(G:Gh):Prop:=∀b,G.O b=.none\/G.O b=.frame\/G.O b=.sh\/∃b' j,G.O b=.cell b' j/\G.O b'=.sh
def mE(w:World)(R:Nat->Nat)(args:List AV)(vs:Array Value):Prop:=vs.size=args.length/\∀(j:Nat)(a:AV)(v:Value),args[j]? =some a->vs[j]? =some v->VR w R a v
def FN(P:Program)(f:FuncId)(args:List AV)(s:ab)(Q:List AV->ab->Prop):Prop:=
 ∀(G:Gh)(w:World)(vs:Array Value),cw G w->Dz G->aW G w s->mE w G.R args vs->
  Calls P f vs w fun e w'=>∃v rs s' G',e=.returned v/\Q rs s'/\cw G' w'/\aW G' w' s'/\pH G' w' rs v/\aC G w G' w'
theorem FN.mono{P:Program}{f:FuncId}{args:List AV}{s:ab}{Q Q':List AV->ab->Prop}(h:FN P f args s Q)(hq:∀rs s',Q rs s'->Q' rs s'):FN P f args s Q':=fun G w vs h1 h2 h3 h4=>(h G w vs h1 h2 h3 h4).mono fun _ _⟨v,rs,s',G',a,b,c⟩=>⟨v,rs,s',G',a,hq _ _ b,c⟩
def FE(P:Program)(f:FuncId)(args:List AV)(s:ab)(rs:List AV)(s':ab):Prop:=FN P f args s fun r t=>r=rs/\t=s'
theorem FE.app{P:Program}{f:FuncId}{args:List AV}{s s':ab}{rs:List AV}{Q:List AV->ab->Prop}(h:FE P f args s rs s')(hq:Q rs s'):FN P f args s Q:=FN.mono h fun _ _⟨h1,h2⟩=>by rw[h1,h2];exact hq
def fD:List AV->AV
 |[a]=>a
 |rs=>.gK rs
def room:Nat:=140737488355328
def mf(lp:List (Nat×Nat))(d:Option Nat):Bool:=match d with
 |some d=>lp.all fun x=>!Nat.beq x.2 d
 |none=>true
def St.drain(E:St)(x:IX):St:=match x with
 |.t i=>E.put (some i) (view (look E.e i))
 |.c _=>E
def eA(off:Nat)(news:List AV)(eR:List AV):Option (List AV):=bif decide (off+news.length<=eR.length)then some (setAt eR off news)else none
def wrL(E:St)(d:Nat):Option (List AV)->Option St
 |some cs=>some (E.put (some d) (.loc cs))
 |none=>none
def wrS(E:St)(b:Nat):Option (List AV)->Option St
 |some cs=>some {E with s:=E.s.set b (.cells cs)}
 |none=>none
def L3(E:St)(d off:Nat)(news:List AV):AV->Option St
 |.loc eR=>wrL E d (eA off news eR)
 |_=>none
def S4(E:St)(b off:Nat)(news:List AV):Option SO->Option St
 |some (.cells eR)=>wrS E b (eA off news eR)
 |_=>none
def aiO(E:St)(news eR:List AV):IX->Option St
 |.t d=>wrL E d (eA 0 news eR)
 |.c _=>none
def KP(E:St)(p:AV)(i:IX)(news:List AV):Option St:=
 match p with
 |.loc eR=>aiO E news eR i
 |.lp d off=>L3 E d off news (look E.e d)
 |.ref b off=>S4 E b off news (E.s b)
 |_=>none
def Xf:AV->AV->Bool
 |.int _ a,.int _ b=>a==b
 |.str a,.str b=>a==b
 |.bool a,.bool b=>a==b
 |_,_=>false
def tz:List AV->List AV->Bool
 |[],[]=>true
 |a::x,b::y=>Xf a b&&tz x y
 |_,_=>false
def mb(a b:AV):Bool:=tz (cellsOf a) (cellsOf b)
def fA(k:AV):List (AV×AV)->Option AV
 |[]=>none
 |x::r=>bif mb k x.1 then some x.2 else fA k r
def wL(k v:AV):List (AV×AV)->List (AV×AV)
 |[]=>[(k,v)]
 |x::r=>bif mb k x.1 then(k,v)::r else x::wL k v r
section
variable(P:Program)
def Xq(E:St)(x:IX)(d:Option Nat)(K:St->Prop)(a:AV):Prop:=dF a=true/\K ((E.drain x).put d a)
def aa2(n:Nat)(E:St)(d:Option Nat)(K:St->Prop)(a:AV):Prop:=dF a=true/\(cellsOf a).length=n/\K (E.put d (.loc (views (cellsOf a))))
def aa3(n:Nat)(E:St)(d:Option Nat)(K:St->Prop)(a:AV):Prop:=dF a=true/\(cellsOf a).length=n/\∀b,E.s b=none->K ({E with s:=E.s.set b (.cells (views (cellsOf a)))}.put d (.ref b 0))
def Ax(sz n:Nat)(E:St)(d:Option Nat)(K:St->Prop):Option (List AV)->Prop
 |some cs=>cs.length=n*sz/\K (E.put d (.sl true sz n cs))
 |none=>False
def Rl(d:Option Nat)(K:St->Prop):Option St->Prop
 |some U=>K (U.put d (.gK []))
 |none=>False
def N5(n:Nat)(E:St)(p:IX)(v:IX)(d:Option Nat)(K:St->Prop)(a:AV):Prop:=dF a=true/\(bg a).length=n/\Rl d K (KP (E.drain v) (E.x p) p (bg a))
def lQ(sz bytes:Nat)(E:St)(x:IX)(d:Option Nat)(K:St->Prop):AV->AV->Prop
 |.sl true s n cs,.sl _ s' m ds=>s=sz/\(s'=sz\/m=0)/\(n+m)*bytes<=room/\K ((E.drain x).put d (.sl true sz (n+m) (cs++views ds)))
 |.sl true s n cs,.str ds=>s=sz/\sz=1/\(n+ds.length)*bytes<=room/\K ((E.drain x).put d (.sl true sz (n+ds.length) (cs++ds.map fun c=>.int .u8 c.toNat)))
 |_,_=>False
def Fm(E:St)(d:Option Nat)(K:St->Prop):AV->Prop
 |.sl _ sz _ cs=>sz=1/\∃s:List UInt8,cs=(s.map fun c=>.int .u8 c.toNat)/\K (E.put d (.str s))
 |_=>False
def ZN:List UInt8->Bool
 |[]=>false
 |_::_=>true
def rX(E:St)(d:Option Nat)(K:St->Prop):AV->Prop
 |.str s=>K (E.put d (.sl (ZN s) 1 s.length (s.map fun c=>.int .u8 c.toNat)))
 |_=>False
def BA(bytes:Nat)(zero:List AV)(E:St)(d:Option Nat)(K:St->Prop):AV->AV->Prop
 |.int _ l,.int _ c=>0<=l/\l<=c/\c*bytes<=room/\
   ∀b,E.s b=none->K ({E with s:=E.s.set b (.cells ((List.replicate c.toNat zero).flatten))}.put d (.arr b 0 l.toNat c.toNat))
 |_,_=>False
def I5(ok:Bool)(a:AV)(b:Bool):AV:=match ok with
 |true=>.gK [a,.bool b]
 |false=>a
def GP:AV->Bool
 |.int .u8 _=>true
 |_=>false
def fo:lI->AV->Bool
 |.int k,.int k' _=>UM k k'
 |.str,.str _=>true
 |.bool,.bool _=>true
 |.bytes n,.agg cs=>cs.length==n&&cs.all GP
 |_,_=>false
def kK(kk:lI)(es:List (AV×AV)):Bool:=es.all fun x=>fo kk x.1
def wB(zero:AV)(ok:Bool):Option AV->AV
 |some v=>I5 ok (view v) true
 |none=>I5 ok (view zero) false
def z6:AV->Bool
 |.gK _=>true
 |a=>dF a
def zZ:Bool->AV->Bool
 |true,_=>true
 |false,a=>dF a
def O6(ok:Bool)(c:Prop)(a:AV):PR:=bif zZ ok a then .prt c a else .no
def pd(kk:lI)(zero:AV)(ok:Bool)(k:AV):Option SO->PR
 |some (.map es)=>O6 ok (fo kk k=true/\kK kk es=true) (wB zero ok (fA k es))
 |_=>.no
def jr(kk:lI)(zero:AV)(ok:Bool)(s:ab)(k:AV):AV->PR
 |.mp b=>pd kk zero ok k (s b)
 |.pj=>O6 ok (fo kk k=true) (I5 ok (view zero) false)
 |_=>.no
def E2:AV->PR
 |.sl true 1 (n+1) (.int .u8 x::cs)=>.dI (.sl false 1 (n+1) (.int .u8 x::cs))
 |_=>.no
def Dq:AV->PR
 |.gK vs=>.dI (.gK (views vs))
 |_=>.no
def SC(E:St)(d:Option Nat)(K:St->Prop):PR->Prop
 |.dI a=>K (E.put d a)
 |.prt c a=>c/\K (E.put d a)
 |.no=>False
def Vw(kk:lI)(b:Nat)(E:St)(k v:AV)(d:Option Nat)(K:St->Prop):Option SO->Prop
 |some (.map es)=>(dF v=true/\fo kk k=true/\kK kk es=true)/\K ({E with s:=E.s.set b (.map (wL (view k) (view v) es))}.put d (.gK []))
 |_=>False
def xz(kk:lI)(E:St)(k v:AV)(d:Option Nat)(K:St->Prop):AV->Prop
 |.mp b=>Vw kk b E k v d K (E.s b)
 |_=>False
def Xa:AV->Bool
 |.us _ _ _=>true
 |_=>false
def j7:List AV->Bool
 |[a]=>dF a||Xa a
 |_=>true
def O5(E:St)(d:Option Nat)(K:St->Prop)(rs:List AV)(s':ab):Prop:=j7 rs=true/\K ({E with s:=s'}.put d (fD rs))
def uY(f:Nat)(E:St)(d:Option Nat)(K:St->Prop):Option (List AV)->Prop
 |some args=>FN P f args E.s (O5 E d K)
 |none=>False
def pR(f:FuncId):Bool:=match P.funcs[f]? with
 |some fn=>fn.name != "runtime.NumGoroutine" &&fn.body.isSome
 |none=>false
def V0(f:Nat)(first eG:List AV)(E:St)(d:Option Nat)(K:St->Prop):Option (List AV)->Prop
 |some args=>pR P f=true/\FN P f (first++args++eG) E.s (O5 E d K)
 |none=>False
def zj(E:St)(args:Option (List AV))(d:Option Nat)(K:St->Prop):AV->Prop
 |.fn f first eG=>V0 P f first eG E d K args
 |_=>False
def xg(g:Bool)(E:St)(x:IX):AV:=Ak g (E.x x)
def Yq(i:Nat)(E:St)(W:St->Prop):AV->Prop
 |.us sz n cs=>(∀b cap sp,E.s b=none->0<cap->n<=cap->(cs++sp).length=cap*sz->Fl (cs++sp)->views sp=sp->W ({E with s:=E.s.set b (.cells (cs++sp))}.put (some i) (.arr b 0 n cap)))/\
   (n=0->∀b off,W (E.put (some i) (.arr b off 0 0)))
 |_=>False
def wD(sz:Nat):AV->AV
 |.arr _ 0 0 0=>.sl true sz 0 []
 |a=>a
def cL(sz:Nat):AV->List AV
 |.agg cs=>(views cs).map (wD sz)
 |a=>[a]
def N4(sz n:Nat)(E:St)(p:IX)(v:IX)(d:Option Nat)(K:St->Prop)(a:AV):Prop:=dF a=true/\(cL sz a).length=n/\Rl d K (KP (E.drain v) (E.x p) p (cL sz a))
def VW(sz n:Nat)(E:St)(d:Option Nat)(K:St->Prop)(a:AV):Prop:=dF a=true/\(cellsOf a).length=n/\∀b,E.s b=none->K ({E with s:=E.s.set b (.cells ((views (cellsOf a)).map (wD sz)))}.put d (.ref b 0))
def xl(sz n:Nat)(E:St)(d:Option Nat)(K:St->Prop):Option (List AV)->Prop
 |some cs=>cs.length=n*sz/\∀b,E.s b=none->K ({E with s:=E.s.set b (.cells (views cs))}.put d (.arr b 0 n n))
 |none=>False
def ki(m sz off:Nat):Option SO->Option (Nat×List AV)
 |some (.cells cs)=>bif decide (off+m*sz<=cs.length)then some (m,views (sub cs off (m*sz)))else none
 |_=>none
def uL(s:ab)(sz:Nat):AV->Option (Nat×List AV)
 |.sl _ s' m ds=>bif s'==sz then some (m,views ds)else bif m==0 then some (0,[])else none
 |.str l=>bif sz==1 then some (l.length,l.map fun c=>.int .u8 c.toNat)else none
 |.arr b off m _=>bif m==0 then some (0,[])else ki m sz off (s b)
 |_=>none
def qh(s:ab)(sz b off n:Nat):Option (List AV):=bif n==0 then some []else(ki n sz off (s b)).map Prod.snd
def Df(sz b off cap:Nat):Option SO->Prop
 |some (.cells cs)=>off+cap*sz<=cs.length
 |_=>False
def setRow(s:ab)(b off:Nat)(news:List AV):Option SO->ab
 |some (.cells cs)=>s.set b (.cells (setAt cs off news))
 |_=>s
def Uc(sz bytes:Nat)(zero:List AV)(E:St)(d:Option Nat)(K:St->Prop)(b off n cap m:Nat)(ds:List AV):Option (List AV)->Prop
 |some olds=>zero.length=sz/\(n+m<=cap->(m=0/\K (E.put d (.arr b off n cap)))\/(Df sz b off cap (E.s b)/\K ({E with s:=setRow E.s b (off+n*sz) ds (E.s b)}.put d (.arr b off (n+m) cap))))/\
   (cap<n+m->(n+m)*bytes<=room/\∀b' dy,E.s b'=none->n+m<=dy->K ({E with s:=E.s.set b' (.cells (olds++ds++(List.replicate (dy -(n+m)) zero).flatten))}.put d (.arr b' 0 (n+m) dy)))
 |none=>False
def eY(sz bytes:Nat)(zero:List AV)(E:St)(d:Option Nat)(K:St->Prop):AV->Option (Nat×List AV)->Prop
 |.arr b off n cap,some (m,ds)=>Uc sz bytes zero E d K b off n cap m ds (qh E.s sz b off n)
 |_,_=>False
def uS(sz bytes:Nat)(zero:List AV)(E:St)(d:Option Nat)(K:St->Prop):AV->AV->Prop
 |.arr b off n cap,.int .i64 c=>0<=c/\cap<n+c.toNat/\views zero=zero/\Uc sz bytes zero E d K b off n cap c.toNat (List.replicate c.toNat zero).flatten (qh E.s sz b off n)
 |_,_=>False
def zo(sz:Nat)(E:St)(d:Option Nat)(K:St->Prop):AV->Option (Nat×List AV)->Prop
 |.arr b off n _,some (m,ds)=>(min m n=0/\K (E.put d (.int .i64 0)))\/(Df sz b off n (E.s b)/\K ({E with s:=setRow E.s b off (ds.take (min m n*sz)) (E.s b)}.put d (.int .i64 (min m n:Nat))))
 |_,_=>False
def xn(zero:List AV)(E:St)(d:Option Nat)(K:St->Prop):AV->Prop
 |.arr b off n _=>(n=0/\K (E.put d (.gK [])))\/(Df zero.length b off n (E.s b)/\views zero=zero/\K ({E with s:=setRow E.s b off (List.replicate n zero).flatten (E.s b)}.put d (.gK [])))
 |_=>False
def OR(P:Program)(f:FuncId):Prop:=∀(w:World)(a b:Nat)(oa la ca ob lb cb:Nat)(ta tb:TypeId)(x y:Array Value)(fa:Nat×Nat),a≠b->w.heap[a]? =some (.cells x ta fa)->x.size≠0->w.heap[b]? =some (.cells y tb (0,0))->y.size≠0->
 ∃w',(callFunc f #[.slice (some ⟨a,oa,none⟩) la ca,.slice (some ⟨b,ob,none⟩) lb cb]).run P w=.ok (.value (.bool false)) w'/\w'.heap=w.heap/\w'.os=w.os/\w'.tape=w.tape/\w'.output=w.output/\w.drawn<=w'.drawn
def cellsIn:Option SO->Prop
 |some (.cells (_::_))=>True
 |_=>False
def XC(P:Program)(f:FuncId)(E:St)(d:Option Nat)(K:St->Prop):AV->AV->Prop
 |.sl _ _ (_+1) (_::_),.arr b' _ _ (_+1)=>OR P f/\cellsIn (E.s b')/\K (E.put d (.bool false))
 |_,_=>False
def Et(sz:Nat)(own:Bool)(E:St)(d:Option Nat)(K:St->Prop):AV->Prop
 |.arr b off n cap=>(cap=0/\n=0/\off=0/\K (E.put d (.sl own sz 0 [])))\/(0<cap/\n<=cap/\(own=true->off=0/\Df sz b off cap (E.s b)/\sizeV (off+cap*sz) (E.s b))/\frzK sz own E d K b n (ki n sz off (E.s b)))
 |_=>False
where
 sizeV (k:Nat):Option SO->Prop
  |some (.cells cs)=>cs.length=k
  |_=>False
 frzK (sz:Nat) (own:Bool) (E:St) (d:Option Nat) (K:St->Prop) (b n:Nat):Option (Nat×List AV)->Prop
  |some (_,cs)=>K ({E with s:=E.s.del b}.put d (.sl own sz n cs))
  |none=>False
def Nb(sz:Nat)(own:Bool)(E:St)(d:Option Nat)(K:St->Prop):Option (List AV)->Prop
 |some [a]=>dF a=true/\Et sz own E d K a
 |_=>False
def sQ(off:Nat)(cs:List AV)(k:List AV->AV->Prop):Prop:=match cs[off]? with
 |some (.sl o sz n ds)=>k (setAt cs off [.sl false sz n ds]) (.sl o sz n ds)
 |some (.bb t n ds)=>k (setAt cs off [.sl false 1 n ds]) (.bb t n ds)
 |_=>False
def qY(off:Nat)(cs:List AV)(k:List AV->AV->Prop):Prop:=match cs[off]? with
 |some (.sl o sz n ds)=>k (setAt cs off [.sl false sz n ds]) (.sl o sz n ds)
 |_=>False
def oz(E:St)(d:Option Nat)(K:St->Prop):AV->Prop
 |.ref b off=>match E.s b with
  |some (.cells cs)=>sQ off cs fun cs' a=>K ({E with s:=E.s.set b (.cells cs')}.put d a)
  |_=>False
 |.lp i off=>match look E.e i with
  |.loc cs=>d≠some i/\qY off cs fun cs' a=>K ((E.put (some i) (.loc cs')).put d a)
  |_=>False
 |_=>False
def zE(j:IX)(off:Nat)(a:AV):Bool:=match j,a with
 |.t i,.lp i' o=>i'==i&&o==off
 |_,_=>false
def Uy(ne:Bool)(E:St)(d:Option Nat)(K:St->Prop):AV->Prop
 |.sl _ _ n _=>∀v:Bool,(v=!ne->n=0)->K (E.put d (.bool v))
 |.arr _ _ _ cap=>∀v:Bool,(v=!ne->cap=0)->K (E.put d (.bool v))
 |_=>False
def agh(d:Option Nat)(K:St->Prop)(E:St)(b off:Nat):Option SO->Prop
 |some (.cells cs)=>off<cs.length/\K (E.put d (.ref b off))
 |_=>False
def alw(E:St)(d:Option Nat)(K:St->Prop):AV->Prop
 |.ref b off=>agh d K E b off (E.s b)
 |_=>False
def VX(n t j u:Nat)(E:St)(d:Option Nat)(K:St->Prop)(a:AV):Prop:=dF a=true/\(cellsOf a).length=n/\(cellsOf a)[j]? =some .dV/\(cellsOf a)[j+1]? =some (.bb u 0 [])/\∀b,E.s b=none->K ({E with s:=E.s.set b (.cells (setAt (views (cellsOf a)) j [.ri t,.bb u 0 []]))}.put d (.ref b 0))
def jB(o:uC)(d:Option Nat)(E:St)(K:St->Prop):Prop:=
 match o with
 |.ib _ x=>Xq E x d K (E.x x)
 |.an zero=>mf E.lp d=true/\K (E.put d (.loc zero))
 |.gR zero=>∀b,E.s b=none->K ({E with s:=E.s.set b (.cells zero)}.put d (.ref b 0))
 |.b8 n x=>mf E.lp d=true/\aa2 n E d K (E.x x)
 |.oU n x=>aa3 n E d K (xg true E x)
 |.aN sz n zero parts=>Ax sz n E d K (fill (xg true E) zero parts)
 |.store n p v=>N5 n E p v d K (E.x v)
 |.append sz bytes x y=>lQ sz bytes E x d K (E.x x) (E.x y)
 |.fF x=>Fm E d K (xg true E x)
 |.gS x=>rX E d K (xg true E x)
 |.kN _ bytes zero l c=>BA bytes zero E d K (xg true E l) (xg true E c)
 |.makeMap=>∀b,E.s b=none->K ({E with s:=E.s.set b (.map [])}.put d (.mp b))
 |.call f args=>uY P f E d K (b7 (xg true E) args)
 |.cG x args=>zj P E (b7 (xg true E) args) d K (xg true E x)
 |.lookup kk zero ok x k=>SC E d K (jr kk zero ok E.s (xg true E k) (xg true E x))
 |.kz x=>SC E d K (E2 (xg true E x))
 |.sH x=>SC E d K (Dq (xg true E x))
 |.mapUpdate kk x k v=>xz kk E (xg true E k) (xg true E v) d K (xg true E x)
 |.j9 sz n zero parts=>xl sz n E d K (fill (xg true E) zero parts)
 |.fk sz bytes zero x y=>eY sz bytes zero E d K (E.x x) (uL E.s sz (E.x y))
 |.lR sz bytes zero x y=>uS sz bytes zero E d K (E.x x) (xg true E y)
 |.ik sz x y=>zo sz E d K (E.x x) (uL E.s sz (E.x y))
 |.mS zero x=>xn zero E d K (E.x x)
 |.UB sz own x=>Et sz own E d K (E.x x)
 |.yU sz own x=>Nb sz own E d K (rd E (xg true E x) 1)
 |.jq x=>oz E d K (E.x x)
 |.mL off j x=>zE j off (E.x x)=true/\oz E d K (E.x x)
 |.YI ne x=>Uy ne E d K (E.x x)
 |.VD f x y=>XC P f E d K (E.x x) (E.x y)
 |.qw sz n p v=>N4 sz n E p v d K (E.x v)
 |.FV sz n x=>VW sz n E d K (E.x x)
 |.Mc n t j u x=>VX n t j u E d K (E.x x)
 |.uX f i args=>Yq i E (fun U=>uY P f U d K (b7 (xg true U) args)) (look E.e i)
 |_=>False
def bU(E:St):AV->Option Nat->St
 |.lp t _,some i=>{E with lp:=(i,t)::E.lp}
 |.when _ a,d=>bU E a d
 |_,_=>E
def YK(o:uC)(E:St)(d:Option Nat)(K:St->Prop):PR->Prop
 |.dI a=>K ((bU E a d).put d a)
 |.prt c a=>c/\K ((bU E a d).put d a)
 |.no=>jB P o d E K
def owp(o:uC)(d:Option Nat)(E:St)(K:St->Prop):Prop:=YK P o E d K (pv o (xg true E) E)
def VC(g:Bool)(o:uC)(E:St)(d:Option Nat)(K:St->Prop):PR->Prop
 |.dI a=>K ((bU E a d).put d (.when g a))
 |.prt c a=>(g=true->c)/\K ((bU E a d).put d (.when g a))
 |.no=>(g=true->owp P o d E K)/\(g=false->K (E.put d (.gK [])))
def Cs(o:uC)(d:Option Nat)(t:Nat)(want:Bool)(E:St)(K:St->Prop):AV->Prop
 |.bool b=>VC P (b==want) o E d K (pv o (xg (b==want) E) E)
 |.when b' (.bool b)=>VC P (b'&&(b==want)) o E d K (pv o (xg (b'&&(b==want)) E) E)
 |.gK []=>K (E.put d (.gK []))
 |_=>False
def Ri(o:ai)(E:St)(K:St->Prop):Prop:=
 match o.g with
 |none=>owp P o.op o.dst E K
 |some (t,want)=>Cs P o.op o.dst t want E K (look E.e t)
def swp:List ai->St->(St->Prop)->Prop
 |[],E,K=>K E
 |o::r,E,K=>Ri P o E (fun U=>swp r U K)
def aix(r:List ai)(K:St->Prop)(U:St):Prop:=swp P r U K
def bq:AV->Bool
 |.loc _=>false
 |_=>true
def Re(g:Bool):PR->PR
 |.dI a=>.dI (.when g a)
 |.prt c a=>.prt (g=true->c) (.when g a)
 |.no=>.no
def rdO:uC->Bool
 |.bw _ _ _=>true
 |_=>false
def VE(r g:Bool):PR->PR
 |.dI a=>.dI (.when g a)
 |.prt c a=>.prt (g=true->c) (.when g a)
 |.no=>bif r then .prt (g=false) (.when g .undef)else .no
def Qy(o:uC)(want:Bool)(E:St):AV->PR
 |.bool b=>VE (rdO o) (b==want) (pv o (xg (b==want) E) E)
 |.when g (.bool b)=>VE (rdO o) (g&&(b==want)) (pv o (xg (g&&(b==want)) E) E)
 |_=>.no
def qv(o:ai)(E:St):PR:=match o.g with
 |none=>pv o.op (xg true E) E
 |some (t,want)=>Qy o.op want E (look E.e t)
def qK(E:St)(d:Option Nat)(K:St->Prop):PR->Prop
 |.dI a=>bq a=true/\K ((bU E a d).put d a)
 |.prt c a=>c/\bq a=true/\K ((bU E a d).put d a)
 |.no=>False
def TP(f:Nat)(E:St)(d:Option Nat)(K:St->Prop):Option (List AV)->Prop
 |some as=>∃rs,j7 rs=true/\FE P f as E.s rs E.s/\K (E.put d (fD rs))
 |none=>False
def aaj(f:Nat)(first eG:List AV)(E:St)(d:Option Nat)(K:St->Prop):Option (List AV)->Prop
 |some as=>pR P f=true/\∃rs,j7 rs=true/\FE P f (first++as++eG) E.s rs E.s/\K (E.put d (fD rs))
 |none=>False
def ad2(E:St)(args:Option (List AV))(d:Option Nat)(K:St->Prop):AV->Prop
 |.fn f first eG=>aaj P f first eG E d K args
 |_=>False
def callee(x:IX)(args:List IX)(g:Bool)(E:St)(f:Nat)(as:List AV):Prop:=∃first eG xs,xg g E x=.fn f first eG/\b7 (xg g E) args=some xs/\as=first++xs++eG
def Fy(x:IX)(args:List IX)(want:Bool)(E:St)(d:Option Nat)(K:St->Prop):AV->Prop
 |.bool b=>∃rs,j7 rs=true/\((b==want)=true->∃f as,callee x args (b==want) E f as/\pR P f=true/\FE P f as E.s rs E.s)/\K (E.put d (.when (b==want) (fD rs)))
 |.when g (.bool b)=>∃rs,j7 rs=true/\((g&&(b==want))=true->∃f as,callee x args (g&&(b==want)) E f as/\pR P f=true/\FE P f as E.s rs E.s)/\K (E.put d (.when (g&&(b==want)) (fD rs)))
 |_=>False
def HW(f:Nat)(args:List IX)(want:Bool)(E:St)(d:Option Nat)(K:St->Prop):AV->Prop
 |.bool b=>∃rs,j7 rs=true/\((b==want)=true->∃as,b7 (xg (b==want) E) args=some as/\FE P f as E.s rs E.s)/\K (E.put d (.when (b==want) (fD rs)))
 |.when g (.bool b)=>∃rs,j7 rs=true/\((g&&(b==want))=true->∃as,b7 (xg (g&&(b==want)) E) args=some as/\FE P f as E.s rs E.s)/\K (E.put d (.when (g&&(b==want)) (fD rs)))
 |_=>False
def ak3(E:St)(d:Option Nat)(K:St->Prop):AV->Prop
 |.sl _ sz _ cs=>sz=1/\∃s:List UInt8,cs=(s.map fun c=>.int .u8 c.toNat)/\K (E.put d (.str s))
 |_=>False
def xm:AV->PR
 |.str s=>.dI (.sl (ZN s) 1 s.length (s.map fun c=>.int .u8 c.toNat))
 |_=>.no
def ID(sz n:Nat):Option (List AV)->PR
 |some cs=>.prt (cs.length=n*sz) (.sl true sz n cs)
 |none=>.no
def qe(f:IX->AV)(s:ab):uC->PR
 |.gS x=>xm (f x)
 |.aN sz n zero parts=>ID sz n (fill f zero parts)
 |.lookup kk zero ok x k=>jr kk zero ok s (f k) (f x)
 |.kz x=>E2 (f x)
 |.sH x=>Dq (f x)
 |_=>.no
def Rk(o:uC)(want:Bool)(E:St):AV->PR
 |.bool b=>Re (b==want) (qe (xg (b==want) E) E.s o)
 |.when g (.bool b)=>Re (g&&(b==want)) (qe (xg (g&&(b==want)) E) E.s o)
 |_=>.no
def Ed(o:ai)(E:St):PR:=match o.g with
 |none=>qe (xg true E) E.s o.op
 |some (t,want)=>Rk o.op want E (look E.e t)
def q1(o:ai)(E:St)(K:St->Prop):Prop:=
 match o with
 |⟨d,.call f args,none⟩=>TP P f E d K (b7 (xg true E) args)
 |⟨d,.ib true x,none⟩=>Xq E x d K (E.x x)
 |⟨d,.call f args,some (t,want)⟩=>HW P f args want E d K (look E.e t)
 |⟨d,.cG x args,none⟩=>ad2 P E (b7 (xg true E) args) d K (xg true E x)
 |⟨d,.cG x args,some (t,want)⟩=>Fy P x args want E d K (look E.e t)
 |⟨d,.gS x,g⟩=>qK E d K (Ed ⟨d,.gS x,g⟩ E)
 |⟨d,.aN sz n zero parts,g⟩=>qK E d K (Ed ⟨d,.aN sz n zero parts,g⟩ E)
 |⟨d,.lookup kk zero ok x k,g⟩=>qK E d K (Ed ⟨d,.lookup kk zero ok x k,g⟩ E)
 |⟨d,.kz x,g⟩=>qK E d K (Ed ⟨d,.kz x,g⟩ E)
 |⟨d,.sH x,g⟩=>qK E d K (Ed ⟨d,.sH x,g⟩ E)
 |o=>qK E o.dst K (qv o E)
def aZ(E:St):Option Nat->Bool
 |some d=>bq (look E.e d)
 |none=>true
def YO:Nat->List ai->St->(St->Prop)->Prop
 |0,l,E,K=>swp P l E K
 |_+1,[],E,K=>K E
 |q+1,o::r,E,K=>aZ E o.dst=true/\q1 P o E (fun U=>YO q r U K)
def aib(q:Nat)(r:List ai)(K:St->Prop)(U:St):Prop:=YO P q r U K
def mN(c:Nat):AV->Bool
 |.lp t _=>!Nat.beq t c
 |.when _ v=>mN c v
 |_=>true
def tC:List Nat->AV->Bool
 |[],_=>true
 |c::T,a=>mN c a&&tC T a
def gY(T:List Nat):List (Nat×AV)->Bool
 |[]=>true
 |p::e=>tC T p.2&&gY T e
def XV(n:Nat)(E:St)(c:Nat)(x:IX)(K:St->Prop):AV->Prop
 |.loc eR=>eR.length=n/\dF (E.x x)=true/\(bg (E.x x)).length=n/\K ((E.drain x).put (some c) (.loc (bg (E.x x))))
 |_=>False
def q2(o:ai)(E:St)(K:St->Prop):Prop:=
 match o with
 |⟨none,.store n (.t c) x,none⟩=>XV n E c x K (look E.e c)
 |⟨some d,.an z,none⟩=>bq (look E.e d)=true/\mf E.lp (some d)=true/\K (E.put (some d) (.loc z))
 |⟨some d,.append sz bytes x y,none⟩=>bq (look E.e d)=true/\lQ sz bytes E x (some d) K (E.x x) (E.x y)
 |⟨some d,.mL off (.t i) x,none⟩=>bq (look E.e d)=true/\zE (.t i) off (E.x x)=true/\oz E (some d) K (E.x x)
 |⟨_,.store _ _ _,_⟩=>False
 |⟨_,.an _,_⟩=>False
 |⟨_,.append _ _ _ _,_⟩=>False
 |⟨_,.mL _ _ _,_⟩=>False
 |o=>aZ E o.dst=true/\q1 P o E K
def HY(T:List Nat):Nat->List ai->St->(St->Prop)->Prop
 |0,l,E,K=>swp P l E K
 |_+1,[],E,K=>K E
 |q+1,o::r,E,K=>q2 P o E (fun U=>gY T U.e=true/\HY T q r U K)
def abS(T:List Nat)(q:Nat)(r:List ai)(K:St->Prop)(U:St):Prop:=gY T U.e=true/\HY P T q r U K
def nV:AV->Bool
 |.ref _ _=>false
 |.when _ a=>nV a
 |_=>true
def od(o:ai)(E:St):Bool:=match o.op with
 |.load _ _ x=>nV (E.x x)
 |.bw _ _ _=>false
 |.mM _ _=>false
 |.lookup _ _ _ _ _=>false
 |.call _ _=>false
 |.cG _ _=>false
 |.len c _=>!Nat.beq c 2
 |_=>true
def Cj(f:Nat)(s:ab)(C:AV->ab->Prop):Option (List AV)->Prop
 |some args=>FN P f args s (fun rs s'=>j7 rs=true/\C (fD rs) s')
 |none=>False
def OZ(f:Nat)(first eG:List AV)(s:ab)(C:AV->ab->Prop):Option (List AV)->Prop
 |some args=>pR P f=true/\FN P f (first++args++eG) s (fun rs s'=>j7 rs=true/\C (fD rs) s')
 |none=>False
def xj(args:Option (List AV))(s:ab)(C:AV->ab->Prop):AV->Prop
 |.fn f first eG=>OZ P f first eG s C args
 |_=>False
def FW(bytes:Nat)(zero:List AV)(s:ab)(C:AV->ab->Prop):AV->AV->Prop
 |.int _ l,.int _ c=>0<=l/\l<=c/\c*bytes<=room/\∀b,s b=none->C (.arr b 0 l.toNat c.toNat) (s.set b (.cells ((List.replicate c.toNat zero).flatten)))
 |_,_=>False
def af8(n:Nat)(s:ab)(C:AV->ab->Prop)(a:AV):Prop:=dF a=true/\(cellsOf a).length=n/\∀b,s b=none->C (.ref b 0) (s.set b (.cells (views (cellsOf a))))
def O1(b off:Nat)(news:List AV)(s:ab)(C:AV->ab->Prop):Option SO->Prop
 |some (.cells eR)=>off+news.length<=eR.length/\C (.gK []) (s.set b (.cells (setAt eR off news)))
 |_=>False
def Qo:AV->Bool
 |.sl true _ _ _=>false
 |.bb _ _ _=>false
 |_=>true
def qB(n:Nat)(s:ab)(C:AV->ab->Prop)(v:AV):AV->Prop
 |.ref b off=>dF v=true/\Qo v=true/\(bg v).length=n/\O1 b off (bg v) s C (s b)
 |_=>False
def Rs(kk:lI)(b:Nat)(s:ab)(k v:AV)(C:AV->ab->Prop):Option SO->Prop
 |some (.map es)=>(dF v=true/\fo kk k=true/\kK kk es=true)/\C (.gK []) (s.set b (.map (wL (view k) (view v) es)))
 |_=>False
def KT(kk:lI)(s:ab)(k v:AV)(C:AV->ab->Prop):AV->Prop
 |.mp b=>Rs kk b s k v C (s b)
 |_=>False
def Au(b off:Nat)(s:ab)(C:AV->ab->Prop):Option SO->Prop
 |some (.cells cs)=>sQ off cs fun cs' a=>C a (s.set b (.cells cs'))
 |_=>False
def uV(s:ab)(C:AV->ab->Prop):AV->Prop
 |.ref b off=>Au b off s C (s b)
 |_=>False
def Av(o:uC)(E:St)(C:AV->ab->Prop):Prop:=match o with
 |.call f args=>Cj P f E.s C (b7 (xg true E) args)
 |.cG x args=>xj P (b7 (xg true E) args) E.s C (xg true E x)
 |.kN _ bytes zero l c=>FW bytes zero E.s C (xg true E l) (xg true E c)
 |.makeMap=>∀b,E.s b=none->C (.mp b) (E.s.set b (.map []))
 |.gR zero=>∀b,E.s b=none->C (.ref b 0) (E.s.set b (.cells zero))
 |.oU n x=>af8 n E.s C (xg true E x)
 |.store n p v=>qB n E.s C (E.x v) (E.x p)
 |.mapUpdate kk x k v=>KT kk E.s (xg true E k) (xg true E v) C (xg true E x)
 |.jq x=>uV E.s C (E.x x)
 |_=>False
def VQ(E:St)(d:Option Nat)(K:St->Prop)(a:AV)(s':ab):Prop:=K ({E with s:=s'}.put d a)
def YG(o:ai)(E:St)(K:St->Prop):Prop:=match o.g with
 |none=>aZ E o.dst=true/\Av P o.op E (VQ E o.dst K)
 |some _=>False
def KU(T:List Nat):List (Nat×Nat×ai)->St->(St->Prop)->Prop
 |[],E,K=>K E
 |(0,_,o)::r,E,K=>q2 P o E (fun U=>gY T U.e=true/\KU T r U K)
 |(1,_,o)::r,E,K=>od o E=true/\q2 P o E (fun U=>gY T U.e=true/\KU T r U K)
 |(2,_,o)::r,E,K=>YG P o E (fun U=>gY T U.e=true/\KU T r U K)
 |(_+3,_,o)::r,E,K=>Ri P o E (fun U=>gY T U.e=true/\KU T r U K)
def VY(T:List Nat)(r:List (Nat×Nat×ai))(K:St->Prop)(U:St):Prop:=gY T U.e=true/\KU P T r U K
def Cb:List Bool->List Bool->Bool
 |d::r,x::s=>(!d||x)&&Cb r s
 |_,_=>true
def Dx:List Bool->List Bool->List Bool
 |[],s=>s
 |x::p,s=>Dx p (x::s)
def S6(done:List Bool):List (List Bool)->List Bool->List Bool->List ai->(ai->List Bool->Prop)->Prop
 |row::rows,pre,x::xs,o::r,F=>(bif !x&&Cb row done then F o (Dx pre (true::xs))else True)/\S6 done rows (x::pre) xs r F
 |_,_,_,_,_=>True
def xc:List ai->List Bool
 |[]=>[]
 |_::r=>false::xc r
def Vy(gE:List (List Bool))(ops:List ai)(K:St->Prop):List ai->List Bool->St->Prop
 |[],_,E=>K E
 |_::f,done,E=>S6 done gE [] done ops (fun o d=>Ri P o E (fun U=>Vy gE ops K f d U))
def aiR(gE:List (List Bool))(ops:List ai)(K:St->Prop)(f:List ai)(done:List Bool)(U:St):Prop:=Vy P gE ops K f done U
def wP(live:List Nat)(Q:Exit->St->Prop)(U:St):Prop:=Q .normal (U.zR live)
def Uh(id:Nat)(Q:Exit->St->Prop):Exit->St->Prop
 |.exit i,U=>bif i==id then Q .normal U else Q (.exit i) U
 |x,U=>Q x U
def Lx(live:List (Nat×Bool))(I:St->Prop)(μ:St->Nat)(m:Nat)(Q:Exit->St->Prop):Exit->St->Prop
 |.normal,ρ=>I (ρ.eP live)/\μ (ρ.eP live)<m
 |x,ρ=>Q x ρ
def yT(live:List (Nat×Bool))(J:St->Prop)(Q:Exit->St->Prop):Exit->St->Prop
 |.normal,ρ=>J (ρ.eP live)
 |x,ρ=>Q x ρ
def QO(live:List (Nat×Bool))(I:St->Prop)(Q:Exit->St->Prop):Exit->St->Prop
 |.normal,ρ=>I (ρ.eP live)
 |.goto _,_=>False
 |x,ρ=>Q x ρ
def UL(l:Nat)(live:List (Nat×Bool))(I:St->Prop)(Q:Exit->St->Prop):Exit->St->Prop
 |.goto l',ρ=>l'=l/\I (ρ.eP live)
 |x,ρ=>Q x ρ
def iU:IC->(Exit->St->Prop)->St->Prop
 |.skip,Q,E=>Q .normal E
 |.bJ q ops live,Q,E=>match q with
  |none=>swp P ops E (wP live Q)
  |some q=>YO P q ops E (wP live Q)
 |.oG T q ops live,Q,E=>gY T E.e=true/\HY P T q ops E (wP live Q)
 |.NK T l live,Q,E=>gY T E.e=true/\KU P T l E (wP live Q)
 |.Vd gE ops live,Q,E=>Vy P gE ops (wP live Q) ops (xc ops) E
 |.seq a b,Q,E=>iU a (fun x U=>match x with|.normal=>iU b Q U|x=>Q x U) E
 |.cond c a b,Q,E=>match E.x c with
  |.bool v=>(v=true->iU a Q E)/\(v=false->iU b Q E)
  |_=>False
 |.block id b,Q,E=>iU b (Uh id Q) E
 |.loop live b,Q,E=>∃(I:St->Prop)(μ:St->Nat),I (E.eP live)/\∀U,I U->iU b (Lx live I μ (μ U) Q) U
 |.join live a b,Q,E=>∃J:St->Prop,iU a (yT live J Q) E/\∀U,J U->iU b Q U
 |.exit id,Q,E=>Q (.exit id) E
 |.scope b,Q,E=>iU b (fun x U=>match x with|.goto _=>False|x=>Q x U) E
 |.Dj l live a1 a2 a3 r,Q,E=>
  let K:=QO live (fun ρ=>∃(I:St->Prop)(μ:St->Nat),I ρ/\∀U,I U->iU r (UL l live (fun ρ'=>I ρ'/\μ ρ'<μ U) Q) U) Q
  iU a1 (fun x U=>match x with|.normal=>iU a2 (fun x U=>match x with|.normal=>iU a3 K U|x=>K x U) U|x=>K x U) E
 |.label _,Q,E=>Q .normal E
 |.goto l,Q,E=>Q (.goto l) E
 |.ret,Q,E=>Q .ret E
 |.dead,_,_=>False
def jlp(l:Nat)(live:List (Nat×Bool))(r:IC)(Q:Exit->St->Prop)(ρ:St):Prop:=∃(I:St->Prop)(μ:St->Nat),I ρ/\∀U,I U->iU P r (UL l live (fun ρ'=>I ρ'/\μ ρ'<μ U) Q) U
def E6(b:IC)(Q:Exit->St->Prop):Exit->St->Prop
 |.normal,U=>iU P b Q U
 |x,U=>Q x U
def Ae(Q:Exit->St->Prop):Exit->St->Prop
 |.goto _,_=>False
 |x,U=>Q x U
def Tm(a b:IC)(Q:Exit->St->Prop)(E:St):AV->Prop
 |.bool v=>(v=true->iU P a Q E)/\(v=false->iU P b Q E)
 |_=>False
end
end Go.AB
end
