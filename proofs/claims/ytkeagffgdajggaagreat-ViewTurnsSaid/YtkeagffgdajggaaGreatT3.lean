/- A part of the proof: Ab5, Ab6, Ab7, Ab8. -/
import Derived.Test.YtkeagffgdajggaaGreatT2
import Derived.Laws.Cells
import Derived.Laws.Strings
import Derived.Laws.Pointers
import Derived.Laws.Small
import Derived.LaidEqlPtr
import Derived.Laws.Concat
set_option linter.unusedSimpArgs false
set_option linter.unusedVariables false
section
namespace Go.AB
open Go
def cR:Value→AV→Bool
 |.bool a,.bool b=>a==b
 |.int k n,.int k' m=>decide (k=k')&&n==m
 |.string s,.str t=>s.data.toList==t
 |.pointer none,.dq=>true
 |.slice none 0 0,.sl _ _ 0 []=>true
 |.slice none 0 0,.arr _ _ 0 0=>true
 |.slice none 0 0,.bb _ 0 []=>true
 |.map none,.mV=>true
 |.nilFunc,.mU=>true
 |.nilIface,.wW=>true
 |_,_=>false
def OP:List Value→List AV→Bool
 |[],[]=>true
 |v::vs,a::as=>cR v a&&OP vs as
 |_,_=>false
def aX:Operand→IX→Bool
 |.tmp t,.t i=>t==i
 |.const (.agg vs),.c (.agg cs)=>OP vs.toList cs
 |.const v,.c a=>cR v a
 |.func f,.c (.fn g [] [])=>f==g
 |_,_=>false
def fD:List Operand→List IX→Bool
 |[],[]=>true
 |o::os,x::xs=>aX o x&&fD os xs
 |_,_=>false
def Hr:Option Operand→Option IX→Bool
 |none,none=>true
 |some o,some x=>aX o x
 |_,_=>false
section
variable(P:Program)
def ch(t:TypeId)(n:Nat):Bool:=match P.info? t with
 |some i=>i.size==n
 |none=>false
def iY(t:TypeId)(n:Nat):Bool:=match P.info? t with
 |some i=>i.bytes==n
 |none=>false
def mo(t:TypeId)(multi:Bool):Bool:=match P.underlying t with
 |some (.struct _)|some (.array _ _)=>multi
 |some _=>!multi
 |none=>false
def od(t:TypeId)(z:List AV):Bool:=match P.info? t with
 |some i=>(match i.zero with
  |some v=>OP v.cells.toList z&&i.size==z.length
  |none=>false)
 |none=>false
def b7(t:TypeId):Option TypeId:=match P.underlying t with
 |some (.slice e)=>some e
 |_=>none
def BS(fs:Array Field):List (Nat×Operand)→List (Nat×Nat×IX)→Bool
 |[],[]=>true
 |(i,o)::r,(off,n,x)::s=>(match fs[i]? with
  |some f=>f.offset==off&&ch P f.type n
  |none=>false)&&aX o x&&BS fs r s
 |_,_=>false
def uP(sz:Nat):List (Nat×Operand)→List (Nat×Nat×IX)→Bool
 |[],[]=>true
 |(i,o)::r,(off,n,x)::s=>i*sz==off&&n==sz&&aX o x&&uP sz r s
 |_,_=>false
def VG(t:TypeId):Bool:=match P.underlying t with
 |some (.int _)=>true
 |_=>false
def W1(t:TypeId):Bool:=match P.underlying t with
 |some .bool=>true
 |_=>false
def Qg(t:TypeId):Bool:=match P.underlying t with
 |some .string=>true
 |_=>false
def adg(t:TypeId):Bool:=match P.underlying t with
 |some (.pointer e)=>(P.info? e).isSome
 |_=>false
def rO(e:TypeId)(sz:Nat):Bool:=match P.info? e with
 |some i=>(match i.zero with
  |some v=>v.cells.size==sz&&v.cells.toList.all Value.oneCell'
  |none=>false)
 |none=>false
def Rq(b:Builtin)(c:Call):Option (List Operand×List TypeId):=match c.callee with
 |.builtin b'=>if b'=b then some (c.args.toList,c.argTypes.toList)else none
 |_=>none
def acS(t:TypeId)(cls:Nat):Bool:=match P.underlying t with
 |some (.slice _)=>cls==0
 |some .string=>cls==1
 |some (.map _ _)=>cls==2
 |_=>false
def SR(t:TypeId)(n:Nat):Bool:=match P.underlying t with
 |some (.array m _)=>n==m
 |_=>false
def PD(t:TypeId):jQ→Bool
 |.int k=>(match P.underlying t with|some (.int k')=>QU k k'|_=>false)
 |.str=>(match P.underlying t with|some .string=>true|_=>false)
 |.bool=>(match P.underlying t with|some .bool=>true|_=>false)
 |.bytes n=>(match P.underlying t with
  |some (.array m e)=>m==n&&(match P.underlying e with|some (.int .u8)=>true|_=>false)&&ch P e 1
  |_=>false)
def Qp(t:TypeId)(z:AV):Bool:=match P.info? t with
 |some i=>(match i.zero with
  |some v=>(match z,v with
   |.agg cs,.agg vs=>OP vs.toList cs
   |z,v=>cR v z)
  |none=>false)
 |none=>false
def wm:List Field→Nat→Bool
 |[],_=>true
 |f::r,k=>f.name != "_" &&f.offset==k&&VG P f.type&&mo P f.type false&&wm r (k+1)
def GX(t:TypeId)(n:Nat):Bool:=match P.underlying t with
 |some (.struct fs)=>wm P fs.toList 0&&fs.size==n&&!P.stoodInHeld t&&!P.eqGuardType P.depth t
 |_=>false
def al(op:Op)(_ty:TypeId)(o:sT):Bool:=
 match o,op with
 |.iR _ x,.move y=>aX y x
 |.iR _ x,.assign y=>aX y x
 |.pick c x y,.pick c' x' y'=>aX c' c&&aX x' x&&aX y' y
 |.aq z,.alloc t=>od P t z
 |.fJ z,.alloc t=>od P t z
 |.cW n x,.box t y=>ch P t n&&aX y x
 |.mP n x,.box t y=>ch P t n&&aX y x
 |.build z ps,.build t qs=>od P t z&&(match P.underlying t with
  |some (.struct fs)=>BS P fs qs.toList ps&&fs.all fun f=>(P.info? f.type).isSome
  |some (.array _ e)=>(match P.info? e with
   |some i=>uP i.size qs.toList ps
   |none=>false)
  |_=>false)
 |.aY sz n z ps,.buildSlice t m qs=>n==m&&(match b7 P t with
  |some e=>ch P e sz&&decide (0<sz)&&uP sz qs.toList ps&&decide (n*sz≤2^24)&&(match P.info? e with
   |some i=>(match i.zero with
    |some v=>OP ((List.replicate n v.cells.toList).flatten) z&&v.cells.size==sz
    |none=>false)
   |none=>false)
  |none=>false)
 |.kL _ x,.load t y=>ch P t 1&&mo P t false&&aX y x
 |.aU z multi x,.load t y=>ch P t z.length&&mo P t multi&&(multi||z.length==1)&&aX y x
 |.lookup kk z ok x k,.lookup t y j ok'=>aX y x&&aX j k&&ok==ok'&&(match P.underlying t with
  |some (.map kt et)=>PD P kt kk&&Qp P et z
  |_=>false)
 |.mapUpdate kk x k v,.mapUpdate t y j u=>aX y x&&aX j k&&aX u v&&(match P.underlying t with
  |some (.map kt _)=>PD P kt kk
  |_=>false)
 |.ql x,.move y=>aX y x
 |.ql x,.assign y=>aX y x
 |.jg (.t i),.convert s t y=>aX y (.t i)&&s==t&&(match P.underlying s with
  |some (.slice e)=>(match P.underlying e with|some (.int .u8)=>true|_=>false)
  |_=>false)
 |.load n multi x,.load t y=>ch P t n&&mo P t multi&&(multi||n==1)&&aX y x
 |.store n p v,.store t q u=>ch P t n&&aX q p&&aX u v
 |.nilCheck x,.nilCheck y=>aX y x
 |.bin bo x y,.binOp b _ u v _=>decide (bo=b)&&aX u x&&aX v y
 |.Pa ne x y,.binOp b t u v _=>decide (b=if ne then .neq else .eql)&&aX u x&&aX v y&&W1 P t
 |.M4 ne x y,.binOp b t u v _=>decide (b=if ne then .neq else .eql)&&aX u x&&aX v y&&adg P t
 |.VA ne x y,.binOp b t u v _=>decide (b=if ne then .neq else .eql)&&aX u x&&aX v y&&(b7 P t).isSome
 |.un uo x,.unOp u _ y=>decide (uo=u)&&aX y x
 |.mj k x,.convert s t y=>aX y x&&(match P.underlying s,P.underlying t with
  |some (.int _),some (.int k')=>decide (k=k')
  |_,_=>false)
 |.eF x,.convert s t y=>aX y x&&(match P.underlying s,P.underlying t with
  |some (.slice e),some .string=>(match P.underlying e with|some (.int .u8)=>true|_=>false)
  |_,_=>false)
 |.fK x,.convert s t y=>aX y x&&(match P.underlying s,P.underlying t with
  |some .string,some (.slice e)=>(match P.underlying e with|some (.int .u8)=>true|_=>false)
  |_,_=>false)
 |.EK x,.convert s t y=>aX y x&&(match P.underlying s,P.underlying t with
  |some .string,some .string=>true
  |_,_=>false)
 |.field n multi off x,.field t y i=>aX y x&&(match P.underlying t with
  |some (.struct fs)=>(match fs[i]? with
   |some f=>f.offset==off&&ch P f.type n&&mo P f.type multi&&(multi||n==1)
   |none=>false)
  |_=>false)
 |.index n multi len x i,.index t y j=>aX y x&&aX j i&&(match P.underlying t with
  |some (.array l e)=>l==len&&ch P e n&&mo P e multi&&(multi||n==1)
  |_=>false)
 |.gR x i,.index t y j=>aX y x&&aX j i&&Qg P t
 |.fieldAddr off x,.fieldAddr t y i=>aX y x&&(match P.underlying t with
  |some (.struct fs)=>(match fs[i]? with
   |some f=>f.offset==off&&(match P.info? f.type with|some j=>decide (0<j.size)|none=>false)
   |none=>false)
  |_=>false)
 |.indexAddr z x i,.indexAddr t y j=>aX y x&&aX j i&&(match b7 P t with
  |some e=>ch P e z.length
  |none=>false)
 |.jf sz len x i,.indexAddr t y j=>aX y x&&aX j i&&(match P.underlying t with
  |some (.array l e)=>l==len&&ch P e sz
  |_=>false)
 |.slice sz x lo hi mx,.slice t y l h m=>aX y x&&Hr l lo&&Hr h hi&&Hr m mx&&(match b7 P t with
  |some e=>ch P e sz
  |none=>false)
 |.pC x lo hi,.slice t y l h none=>aX y x&&Hr l lo&&Hr h hi&&Qg P t
 |.extract x k,.extract y j=>aX y x&&k==j
 |.len cls x,.call c=>(match Rq .len c with
  |some (y::_,t::_)=>aX y x&&acS P t cls
  |_=>false)
 |.Rl n,.call c=>(match Rq .len c with
  |some (_::_,t::_)=>SR P t n
  |_=>false)
 |.cap x,.call c=>(match Rq .cap c with
  |some (y::_,t::_)=>aX y x&&(b7 P t).isSome
  |_=>false)
 |.eX true xs,.call c=>(match Rq .max c with
  |some (ys,_)=>fD ys xs
  |_=>false)
 |.eX false xs,.call c=>(match Rq .min c with
  |some (ys,_)=>fD ys xs
  |_=>false)
 |.append sz by' x y,.call c=>(match Rq .append c with
  |some ([u,v],[t,t'])=>aX u x&&aX v y&&(match b7 P t with
   |some e=>ch P e sz&&iY P e by'&&decide (0<sz)&&decide (0<by')&&rO P e sz&&((b7 P t').isSome||Qg P t')
   |none=>false)
  |_=>false)
 |.js sz by' z l c,.makeSlice t l' c'=>aX l' l&&aX c' c&&(match b7 P t with
  |some e=>ch P e sz&&iY P e by'&&od P e z&&decide (0<sz)&&decide (0<by')
  |none=>false)
 |.BK sz by' c,.makeSlice t l' c'=>(match l' with|.const (.int .i64 0)=>true|_=>false)&&aX c' c&&(match b7 P t with
  |some e=>ch P e sz&&iY P e by'&&rO P e sz&&decide (0<sz)&&decide (0<by')
  |none=>false)
 |.makeMap,.makeMap _ none=>true
 |.call f args,.call c=>(match c.callee with
  |.value (.func g)=>f==g&&fD c.args.toList args&&(match P.funcs[f]? with
   |some fn=>fn.name != "runtime.NumGoroutine" &&fn.body.isSome
   |none=>false)
  |_=>false)
 |.b6 x args,.call c=>(match c.callee with
  |.value y=>aX y x&&fD c.args.toList args
  |_=>false)
 |.jr f a b,.makeFunc (.func g) c d=>f==g&&fD c.toList a&&fD d.toList b
 |.iQ sz n z ps,.buildSlice t m qs=>n==m&&(match b7 P t with
  |some e=>ch P e sz&&decide (0<sz)&&uP sz qs.toList ps&&decide (n*sz≤2^24)&&(match P.info? e with
   |some i=>(match i.zero with
    |some v=>OP ((List.replicate n v.cells.toList).flatten) z&&v.cells.size==sz
    |none=>false)
   |none=>false)
  |none=>false)
 |.ee sz by' z x y,.call c=>(match Rq .append c with
  |some ([u,v],[t,t'])=>aX u x&&aX v y&&(match b7 P t with
   |some e=>ch P e sz&&iY P e by'&&decide (0<sz)&&decide (0<by')&&rO P e sz&&od P e z&&((b7 P t').isSome||Qg P t')
   |none=>false)
  |_=>false)
 |.j4 sz by' z x y,.call c=>(match Rq .append c with
  |some ([u,v],[t,t'])=>aX u x&&aX v y&&VG P t'&&(match b7 P t with
   |some e=>ch P e sz&&iY P e by'&&decide (0<sz)&&decide (0<by')&&od P e z
   |none=>false)
  |_=>false)
 |.fV sz x y,.call c=>(match Rq .copy c with
  |some ([u,v],[t,_])=>aX u x&&aX v y&&(match b7 P t with
   |some e=>ch P e sz
   |none=>false)
  |_=>false)
 |.kZ z x,.call c=>(match Rq .clear c with
  |some (u::_,t::_)=>aX u x&&(match b7 P t with
   |some e=>od P e z
   |none=>false)
  |_=>false)
 |.xJ _ _ x,.load t y=>ch P t 1&&mo P t false&&aX y x
 |.RP _ _ x,.move y=>aX y x
 |.RP _ _ x,.assign y=>aX y x
 |.gW x,.load t y=>(b7 P t).isSome&&ch P t 1&&mo P t false&&aX y x
 |.mA _ _ x,.load t y=>(b7 P t).isSome&&ch P t 1&&mo P t false&&aX y x
 |.U2 ne x,.binOp b t u v _=>decide (b=if ne then .neq else .eql)&&aX u x&&(match v with|.const (.slice none 0 0)=>true|_=>false)&&(b7 P t).isSome
 |.tq f i args,.call c=>args.any (fun x=>match x with|.t j=>j==i|_=>false)&&(match c.callee with
  |.value (.func g)=>f==g&&fD c.args.toList args&&(match P.funcs[f]? with
   |some fn=>fn.name != "runtime.NumGoroutine" &&fn.body.isSome
   |none=>false)
  |_=>false)
 |.YT n ne x y,.binOp b t u v _=>decide (b=if ne then .neq else .eql)&&aX u x&&aX v y&&GX P t n
 |.Vz ne x,.binOp b t u v _=>decide (b=if ne then .neq else .eql)&&aX u x&&(match v with|.const .nilFunc=>true|_=>false)&&(match P.underlying t with|some (.func _ _ _)=>true|_=>false)
 |.YU ne x,.binOp b t u v _=>decide (b=if ne then .neq else .eql)&&aX u x&&(match v with|.const .nilIface=>true|_=>false)&&(match P.underlying t with|some (.interface _)=>true|_=>false)
 |.Rz x,.convert s t y=>aX y x&&(match P.underlying s with|some (.pointer e)=>(match P.info? e with|some j=>j.size !=0|none=>false)|_=>false)&&(match P.underlying t with|some .unsafePointer=>true|_=>false)
 |.Ry u x,.convert s t y=>aX y x&&(match P.underlying s with|some .unsafePointer=>true|_=>false)&&(match P.underlying t with|some (.pointer e)=>e==u&&(P.info? e).isSome|_=>false)
 |.Jx f x,.call c=>(match c.callee with
  |.value (.func g)=>f==g&&fD c.args.toList [x]
  |_=>false)
 |.KC n t j u x,.box t' y=>t==t'&&ch P t n&&aX y x
 |.vZ u x y,.call c=>(match Rq .append c with
  |some ([p,q],[t,t'])=>aX p x&&aX q y&&(match b7 P t with
   |some e=>ch P e 1&&iY P e 1&&rO P e 1&&((b7 P t').isSome||Qg P t')&&e==u
   |none=>false)
  |_=>false)
 |.pD _ n p v,.store t q u=>ch P t n&&aX q p&&aX u v
 |.Er _ n x,.box t y=>ch P t n&&aX y x
 |.SJ f x y,.call c=>(match c.callee with
  |.value (.func g)=>f==g&&fD c.args.toList [x,y]
  |_=>false)
 |_,_=>false
def Vq(ops:Array Oper):Option (Nat×Bool)→Option (Nat×Bool)→Bool
 |none,none=>true
 |some (j,w),some (t,w')=>w==w'&&((ops[j]?).bind (·.dst))==some t
 |_,_=>false
def aN(n:Nat):Option Nat→Bool
 |none=>true
 |some d=>decide (d<n)
def gh(n:Nat)(ops:Array Oper)(o:Oper)(o':ah):Bool:=o.dst==o'.dst&&aN n o'.dst&&Vq ops o.guard o'.g&&al P o.op o.type o'.op
def bN(n:Nat)(ops:Array Oper):List Oper→List ah→Bool
 |[],[]=>true
 |o::r,o'::r'=>gh P n ops o o'&&bN n ops r r'
 |_,_=>false
def oX:Option IX→List IX
 |some x=>[x]
 |none=>[]
def cD:sT→List IX
 |.iR _ x|.cW _ x|.mP _ x|.load _ _ x|.nilCheck x|.un _ x|.mj _ x|.eF x|.fK x|.EK x|.field _ _ _ x|.fieldAddr _ x|.extract x _|.len _ x|.cap x|.BK _ _ x|.aU _ _ x|.jg x|.ql x|.kZ _ x|.RP _ _ x|.xJ _ _ x|.gW x|.U2 _ x|.Vz _ x|.YU _ x|.Rz x|.Jx _ x|.Ry _ x|.KC _ _ _ _ x|.Er _ _ x|.kL _ x=>[x]
 |.mA _ j x=>[j,x]
 |.pick c x y=>[c,x,y]
 |.aq _|.fJ _|.Rl _|.makeMap=>[]
 |.build _ ps|.aY _ _ _ ps|.iQ _ _ _ ps=>ps.map fun p=>p.2.2
 |.store _ x y|.bin _ x y|.Pa _ x y|.M4 _ x y|.VA _ x y|.index _ _ _ x y|.gR x y|.indexAddr _ x y|.jf _ _ x y|.append _ _ x y|.vZ _ x y|.js _ _ _ x y|.lookup _ _ _ x y|.ee _ _ _ x y|.j4 _ _ _ x y|.fV _ x y|.SJ _ x y|.pD _ _ x y|.YT _ _ x y=>[x,y]
 |.slice _ x lo hi mx=>x::(oX lo++(oX hi++oX mx))
 |.pC x lo hi=>x::(oX lo++oX hi)
 |.eX _ xs=>xs
 |.mapUpdate _ x y z=>[x,y,z]
 |.call _ xs|.tq _ _ xs=>xs
 |.b6 x xs=>x::xs
 |.jr _ xs ys=>xs++ys
def D8:List IX→List Nat
 |[]=>[]
 |.t i::r=>i::D8 r
 |.c _::r=>D8 r
def YW:Option (Nat×Bool)→List Nat
 |some (t,_)=>[t]
 |none=>[]
def bW(o:ah):List Nat:=YW o.g++D8 (cD o.op)
def fP(d:Option Nat)(l:List Nat):Bool:=match d with
 |some d=>!l.contains d
 |none=>true
def gj(o:ah)(i:Nat):Bool:=match o.op with
 |.iR true (.t j)=>j==i
 |_=>false
def TZ(x y:ah):Bool:=(bW y).all fun i=>!gj x i
def ap(x y:ah):Bool:=(TZ x y&&TZ y x)&&fP x.dst (bW y)&&fP y.dst (bW x)&&(match x.dst,y.dst with
 |some i,some j=>i !=j
 |_,_=>true)
def ga(ops:Array Oper)(j i:Nat):Bool:=match ops[j]? with
 |some o=>o.after.any fun e=>Region.binds .any e&&e.on==i
 |none=>false
def Qx(ops:Array Oper)(q:Nat):Bool:=(List.range q).all fun k=>match ops[k]? with
 |some o=>o.after.all fun e=>!Region.binds .any e||decide (e.on<k)
 |none=>false
def Jy(ops:Array Oper)(q:Nat):Bool:=q==ops.size||(List.range q).all fun k=>(List.range (q+1)).any fun m=>decide (k<m)&&ga ops m k
def ab0(iops:List ah)(i j:Nat):Bool:=match iops[i]?,iops[j]? with
 |some x,some y=>ap x y
 |_,_=>false
def Xz(ops:Array Oper)(q:Nat)(iops:List ah):Bool:=(List.range q).all fun j=>(List.range j).all fun i=>ga ops j i||ab0 iops i j
def ri(ops:Array Oper):Nat→Nat→Array Bool→Bool
 |0,_,listed=>(Region.ready .any ops listed).isEmpty
 |fuel+1,k,listed=>Region.ready .any ops listed==[k]&&ri ops fuel (k+1) (listed.setIfInBounds k true)
def pH(size q:Nat):Array Bool:=(Array.range size).map fun i=>decide (i<q)
def Qw(ops:Array Oper)(q:Nat)(iops:List ah):Bool:=decide (q≤ops.size)&&(Qx ops q&&(Jy ops q&&(Xz ops q iops&&ri ops (ops.size -q) q (pH ops.size q))))
def qZ(o:ah):Option Nat:=match o with
 |⟨none,.store _ (.t c) _,none⟩=>some c
 |o=>o.dst
def fk(o:ah)(i:Nat):Bool:=match o.op with
 |.iR true (.t j)=>j==i
 |.store _ _ (.t j)=>j==i
 |.append _ _ (.t j) _=>j==i
 |.mA _ (.t j) _=>j==i
 |_=>false
def CR(x y:ah):Bool:=(bW y).all fun i=>!fk x i
def Yz(o:ah):Bool:=(cD o.op).all fun x=>match x with
 |.c (.lp _ _)=>false
 |.c (.when _ _)=>false
 |_=>true
def WX(x y:ah):Bool:=(Yz x&&Yz y)&&(CR x y&&CR y x)&&fP (qZ x) (bW y)&&fP (qZ y) (bW x)&&(match qZ x,qZ y with
 |some i,some j=>i !=j
 |_,_=>true)
def WY(iops:List ah)(i j:Nat):Bool:=match iops[i]?,iops[j]? with
 |some x,some y=>WX x y
 |_,_=>false
def Ta(ops:Array Oper)(q:Nat)(iops:List ah):Bool:=(List.range q).all fun j=>(List.range j).all fun i=>ga ops j i||WY iops i j
def TS:sT→Bool
 |.store _ _ _=>true
 |.aq _=>true
 |.append _ _ _ _=>true
 |.mA _ _ _=>true
 |_=>false
def S9(T:List Nat)(iops:List ah)(q:Nat):Bool:=(iops.take q).all fun o=>match o with
 |⟨none,.store _ (.t c) _,none⟩=>T.contains c
 |⟨some d,.aq _,none⟩=>T.contains d
 |_=>true
def KF(T:List Nat)(ops:Array Oper)(q:Nat)(iops:List ah):Bool:=decide (q≤ops.size)&&(Qx ops q&&(Jy ops q&&(Ta ops q iops&&(S9 T iops q&&ri ops (ops.size -q) q (pH ops.size q)))))
abbrev Item:=Nat×Nat×ah
def FY(acc:List Nat)(o:Oper):Nat:=o.after.toList.foldl (fun s e=>bif Region.binds .any e then s |||(1<<<e.on)|||acc.getD e.on 0 else s) 0
def J6:List Oper→List Nat→List Nat
 |[],acc=>acc
 |o::r,acc=>J6 r (acc++[FY acc o])
def apB(y x:ah):Bool:=CR y x&&fP (qZ y) (bW x)&&fP x.dst (bW y)&&(match qZ y,x.dst with
 |some i,some j=>i !=j
 |_,_=>true)
def XK(k k':Nat)(x y:ah):Bool:=match k,k' with
 |0,0|0,1|1,0|1,1=>WX x y
 |1,2=>apB x y
 |_,_=>false
def Av(ops:Array Oper)(ms:List Nat)(x y:Item):Bool:=!ga ops x.2.1 y.2.1&&(x.2.1 !=y.2.1&&((ms.getD y.2.1 0).testBit x.2.1||
 XK x.1 y.1 x.2.2 y.2.2))
def LC(ops:Array Oper)(ms:List Nat):List Item→Bool
 |[]=>true
 |x::r=>r.all (Av ops ms x)&&LC ops ms r
def FK(T:List Nat)(n:Nat)(ops:Array Oper)(x:Item):Bool:=(match ops[x.2.1]? with
 |some o=>gh P n ops o x.2.2&&o.after.all fun e=>!Region.binds .any e||(decide (e.on<ops.size)&&e.on !=x.2.1)
 |none=>false)&&(match x.2.2 with
 |⟨none,.store _ (.t c) _,none⟩=>decide (2≤x.1)||T.contains c
 |⟨some d,.aq _,none⟩=>T.contains d
 |_=>true)
def YD(T:List Nat)(n:Nat)(ops:Array Oper)(l:List Item):Bool:=(l.length==ops.size&&(List.range ops.size).all fun k=>l.any fun x=>x.2.1==k)&&(l.all (FK P T n ops)&&LC ops (J6 ops.toList []) l)
def Qy(ops:Array Oper)(deps:List (List Bool)):Bool:=deps.length==ops.size&&(List.range ops.size).all fun j=>
 ((deps.getD j []).length==ops.size&&(List.range ops.size).all fun i=>!((deps.getD j []).getD i false)||ga ops j i)&&(match ops[j]? with
 |some o=>o.after.all fun e=>!Region.binds .any e||decide (e.on<j)
 |none=>false)
def Cc:Code→Nat→Option (List Code×Code)
 |.seq (.label m) r,l=>if m==l then some ([],r)else none
 |.seq s c,l=>if(findLabel s l).isNone then(Cc c l).map fun p=>(s::p.1,p.2)else none
 |_,_=>none
def yK:IC→Bool
 |.skip=>true
 |_=>false
def kH(n:Nat):Code→IC→Bool
 |.skip,.skip=>true
 |.region _ ops draw,.bD q iops _=>bN P n ops ops.toList iops&&(match q with
  |none=>!draw
  |some q=>!draw||Qw ops q iops)
 |.region _ ops draw,.wY T q iops _=>bN P n ops ops.toList iops&&(!draw||KF T ops q iops)
 |.region _ ops draw,.IP T l _=>draw&&YD P T n ops l
 |.region _ ops draw,.Sl deps iops _=>draw&&(bN P n ops ops.toList iops&&Qy ops deps)
 |.seq a b,.seq a' b'=>kH n a a'&&kH n b b'
 |.seq a b,.join _ a' b'=>kH n a a'&&kH n b b'
 |.cond c a b,.cond c' a' b'=>aX c c'&&kH n a a'&&kH n b b'
 |.block i b,.block j b'=>i==j&&kH n b b'
 |.loop b,.loop _ b'=>kH n b b'
 |.exit i,.exit j=>i==j
 |.scope c,.B8 l _ a1 a2 a3 r'=>match Cc c l with
  |some ([],r)=>yK a1&&(yK a2&&(yK a3&&kH n r r'))
  |some ([s1],r)=>kH n s1 a1&&(yK a2&&(yK a3&&kH n r r'))
  |some ([s1,s2],r)=>kH n s1 a1&&(kH n s2 a2&&(yK a3&&kH n r r'))
  |some ([s1,s2,s3],r)=>kH n s1 a1&&(kH n s2 a2&&(kH n s3 a3&&kH n r r'))
  |_=>false
 |.scope b,.scope b'=>kH n b b'
 |.label l,.label l'=>l==l'
 |.goto l,.goto l'=>l==l'
 |.ret,.ret=>true
 |_,.dead=>true
 |_,_=>false
end
end Go.AB
end
section
namespace Go.AB
open Go
theorem tm{v:Value}{a:AV}(h:cR v a=true)(w:World)(R:Nat→Nat):VR w R a v:=by
 unfold cR at h
 split at h
 ·obtain rfl:=beq_iff_eq.1 h;exact .bool _
 ·rw[Bool.and_eq_true]at h;obtain⟨h1,h2⟩:=h;obtain rfl:=of_decide_eq_true h1;obtain rfl:=beq_iff_eq.1 h2;exact .int _ _
 ·obtain rfl:=beq_iff_eq.1 h
  rename_i s
  have:∀b:ByteArray,b=⟨b.data.toList.toArray⟩:=fun b=>by cases b;simp
  conv=>rhs;rw[this s]
  exact .str _
 ·exact .dq
 ·exact .slnil _ _
 ·exact .KA _ _
 ·exact .bb _ _ _ _ (.slnil _ _) (fun _=>rfl)
 ·exact .mV
 ·exact .mU
 ·exact .wW
 ·cases h
theorem S7{v:Value}{a:AV}(h:cR v a=true):cU a=true:=by
 unfold cR at h
 split at h<;>first|rfl|cases h
theorem D2{vs:List Value}{as:List AV}(h:OP vs as=true):vs.length=as.length∧∀(j:Nat)(c:AV)(v:Value),as[j]? =some c→vs[j]? =some v→cR v c=true:=by
 induction vs generalizing as with
 |nil=>cases as with
  |nil=>exact⟨rfl,fun j c v hc=>by simp at hc⟩
  |cons=>simp[OP]at h
 |cons v vs ih=>cases as with
  |nil=>simp[OP]at h
  |cons a as=>
   simp only[OP,Bool.and_eq_true]at h
   obtain⟨h1,h2⟩:=ih h.2
   refine⟨by simp[h1],fun j c u hc hu=>?_⟩
   cases j with
   |zero=>simp at hc hu;subst hc;subst hu;exact h.1
   |succ j=>exact h2 j c u (by simpa using hc) (by simpa using hu)
theorem Vl{v:Value}{a:AV}(h:cR v a=true):pR a=true:=by
 unfold cR at h
 split at h<;>first|rfl|cases h
theorem EC:∀{vs:List Value}{as:List AV},OP vs as=true→Fl as
 |[],[],_=>Fl.nil
 |v::vs,a::as,h=>by
  simp only[OP,Bool.and_eq_true]at h
  intro c hc
  rcases List.mem_cons.1 hc with rfl|hc
  ·exact Vl h.1
  ·exact EC h.2 c hc
 |[],_::_,h=>by simp[OP]at h
 |_::_,[],h=>by simp[OP]at h
theorem Qv{vs:Array Value}{cs:List AV}(h:OP vs.toList cs=true)(w:World)(R:Nat→Nat):VR w R (.agg cs) (.agg vs):=by
 obtain⟨h1,h2⟩:=D2 h
 exact .agg cs vs (EC h) (by simpa using h1) fun j c v hc hv=>tm (h2 j c v hc (by simpa using hv)) w R
theorem EB{v:Value}{a:AV}(h:cR v a=true)(G:Gh)(w:World)(o:cy):c7 G w o a v:=by
 unfold cR at h
 split at h<;>first|(cases h;done)|trivial|skip
 ·rename_i own sz
  cases own with
  |false=>trivial
  |true=>intro base m cap hv hc;injection hv with _ h2 h3;omega
 ·intro base m cap hv hc;injection hv with _ h2 h3;omega
section
variable{P:Program}{G:Gh}{n:Nat}{D:List Deferred}{σ:St}{a:Act}{w:World}
def BR(G:Gh)(w:World)(σ:St)(a:Act)(x:IX):AV→Value→Prop
 |.loc cs,v=>∃i b c t,x=.t i∧look σ.e i=.loc cs∧a.tmps[i]? =some v∧v=.pointer (some ⟨b,0,none⟩)∧G.O b=.loc i∧G.R b=0∧w.heap[b]? =some (.cells c t (0,0))∧da G w (.cell b) cs c∧Fl cs
 |.lp d off,v=>∃b,v=.pointer (some ⟨b,off,none⟩)∧∀cs,look σ.e d=.loc cs→a.tmps[d]? =some (.pointer (some ⟨b,0,none⟩))
 |.when _ _,_=>True
 |.us _ _ _,_=>True
 |av,v=>VR w G.R av v
def XR(G:Gh)(w:World)(σ:St)(a:Act)(x:IX):AV→Value→Prop
 |.when b av,v=>b=true→inner av=true→BR G w σ a x av v
 |av,v=>BR G w σ a x av v
theorem BR.vr{x:IX}{av:AV}{v:Value}(h:cU av=true)(hv:BR G w σ a x av v):VR w G.R av v:=by cases av<;>simp_all [cU,BR]
theorem XR.br{x:IX}{av:AV}{v:Value}(hv:XR G w σ a x av v):BR G w σ a x (zm true av) v:=by
 cases av<;>try exact hv
 rename_i b av
 cases b with
 |false=>
  have:zm true (.when false av)=.undef:=by simp[zm]
  rw[this];exact VR.undef v
 |true=>
  cases hi:inner av with
  |false=>
   have:zm true (.when true av)=.undef:=by simp[zm,hi]
   rw[this];exact VR.undef v
  |true=>
   have:zm true (.when true av)=av:=by simp[zm,hi]
   rw[this];exact hv rfl hi
theorem XR.VX{i:Nat}(hi:a.tmps[i]? =some (a.eval (.tmp i))){av:AV}(hl:look σ.e i=av)(h:c5 G w σ.e a.tmps i av (a.eval (.tmp i))):XR G w σ a (.t i) av (a.eval (.tmp i)):=by
 have base:∀av:AV,(∀cs,av=.loc cs→look σ.e i=.loc cs)→c5 G w σ.e a.tmps i av (a.eval (.tmp i))→BR G w σ a (.t i) av (a.eval (.tmp i)):=by
  intro av hl h
  cases av with
  |loc cs=>
   obtain⟨b,c,t,h1,h2,h3,h4,h5⟩:=h
   exact⟨i,b,c,t,rfl,hl cs rfl,hi,h1,h2,h3,h4,h5⟩
  |lp d off=>exact h
  |fE vs=>
   obtain⟨ys,h1,h2⟩:=h
   rw[h1]
   exact VR.fE vs ys h2.1 fun j c u hc hu=>(h2.2 j c u hc hu).1
  | «when» b av=>trivial
  |us sz m cs=>trivial
  |_=>exact h.1
 cases av with
 | «when» b av=>exact fun hb hin=>base av (fun cs hcs=>by subst hcs;cases hin) (h.1 hb)
 |_=>exact base _ (fun cs hcs=>by rw[hl,hcs]) h
theorem gL{i:Nat}(hi:i<a.tmps.size):a.tmps[i]? =some (a.eval (.tmp i)):=by simp[Act.eval,Array.getD_eq_getD_getElem?,hi]
theorem XR.aB(h:Inv G n D σ a w){o:Operand}{x:IX}(hx:aX o x=true):XR G w σ a x (σ.x x) (a.eval o):=by
 unfold aX at hx
 split at hx
 ·rename_i t i
  obtain rfl:=beq_iff_eq.1 hx
  rcases Nat.lt_or_ge t n with ht|ht
  ·have hs:t<a.tmps.size:=by rw[h.size];exact ht
   exact XR.VX (gL hs) rfl (h.bW t _ (gL hs))
  ·have:σ.x (.t t)=.undef:=h.Hs t ht
   rw[this];exact VR.undef _
 ·exact Qv hx w G.R
 ·rename_i v av _
  have hv:=tm hx w G.R
  have hi:=S7 hx
  show XR G w σ a _ av v
  cases av<;>first|exact hv|(simp[cU]at hi)
 ·rename_i f g
  obtain rfl:=beq_iff_eq.1 hx
  exact VR.fn f [] [] #[] #[] rfl (fun j c v hc=>by simp at hc) rfl (fun j c v hc=>by simp at hc)
 ·cases hx
theorem BR.aB(h:Inv G n D σ a w){o:Operand}{x:IX}(hx:aX o x=true):BR G w σ a x (xg true σ x) (a.eval o):=(XR.aB h hx).br
def NR(G:Gh)(w:World)(σ:St)(a:Act)(av:AV)(v:Value):Prop:=
 match av with
 |.lp d off=>∃b,v=.pointer (some ⟨b,off,none⟩)∧∀cs,look σ.e d=.loc cs→a.tmps[d]? =some (.pointer (some ⟨b,0,none⟩))
 |av=>cU av=true∧VR w G.R av v∧view av=av
end
end Go.AB
end
section
namespace Go.AB
open Go
def er(r:PR)(av:AV):Prop:=r=.cY av∨∃c,r=.prt c av∧c
theorem er.cY{a av:AV}(h:er (.cY a) av):av=a:=by
 rcases h with h|⟨c,h,_⟩
 ·injection h with h;exact h.symm
 ·cases h
theorem er.prt{c:Prop}{a av:AV}(h:er (.prt c a) av):av=a∧c:=by
 rcases h with h|⟨c',h,hc⟩
 ·cases h
 ·injection h with h1 h2;exact⟨h2.symm,h1▸hc⟩
theorem er.no{av:AV}(h:er .no av):False:=by rcases h with h|⟨c',h,hc⟩<;>cases h
theorem kb{a:AV}(h:cU a=true):cU (view a)=true:=by cases a<;>simp_all [cU,view]
theorem iK(a:AV):view (view a)=view a:=by cases a<;>rfl
section
variable{P:Program}{G:Gh}{n:Nat}{D:List Deferred}{σ:St}{a:Act}{w:World}
theorem NR.view{av:AV}{v:Value}(hi:cU av=true)(h:VR w G.R av v):NR G w σ a (view av) v:=by
 have:cU (AB.view av)=true∧VR w G.R (AB.view av) v∧AB.view (AB.view av)=AB.view av:=⟨kb hi,h.view,iK _⟩
 cases av<;>first|exact this|(simp[cU]at hi)
theorem NR.mk{av:AV}{v:Value}(hi:cU av=true)(h:VR w G.R av v)(hv:AB.view av=av):NR G w σ a av v:=hv▸NR.view hi h
theorem VR.fq{R:Nat→Nat}{b:Bool}{v:Value}(h:VR w R (.bool b) v):v=.bool b:=by cases h;rfl
theorem VR.bk{R:Nat→Nat}{k:IntKind}{m:Int}{v:Value}(h:VR w R (.int k m) v):v=.int k m:=by cases h;rfl
theorem VR.dL{R:Nat→Nat}{s:List UInt8}{v:Value}(h:VR w R (.str s) v):v=.string ⟨s.toArray⟩:=by cases h;rfl
theorem VR.tG{R:Nat→Nat}{v:Value}(h:VR w R .dq v):v=.pointer none:=by cases h;rfl
theorem VR.gp{R:Nat→Nat}{b o:Nat}{v:Value}(h:VR w R (.ref b o) v):v=.pointer (some ⟨b,o,none⟩):=by cases h;rfl
theorem VR.bQ{R:Nat→Nat}{b o l c:Nat}{v:Value}(h:VR w R (.arr b o l c) v):v=.slice (some ⟨b,o,none⟩) l c∨(l=0∧c=0∧v=.slice none 0 0):=by
 cases h with
 |arr=>exact .inl rfl
 |KA=>exact .inr ⟨rfl,rfl,rfl⟩
theorem VR.oj{R:Nat→Nat}{b o l c:Nat}{v:Value}(h:VR w R (.arr b o l c) v)(hc:0<c):v=.slice (some ⟨b,o,none⟩) l c:=by
 rcases h.bQ with h|⟨_,h,_⟩
 ·exact h
 ·omega
theorem VR.Pj{R:Nat→Nat}{b:Nat}{v:Value}(h:VR w R (.mp b) v):v=.map (some b):=by cases h;rfl
theorem VR.Nl{R:Nat→Nat}{v:Value}(h:VR w R .mV v):v=.map none:=by cases h;rfl
theorem VR.lD{R:Nat→Nat}{cs:List AV}{v:Value}(h:VR w R (.agg cs) v):∃vs:Array Value,v=.agg vs∧vs.size=cs.length∧(∀(j:Nat)(c:AV)(u:Value),cs[j]? =some c→vs[j]? =some u→VR w R c u)∧Fl cs:=by cases h with|agg _ vs hf hl hr=>exact⟨vs,rfl,hl,hr,hf⟩
theorem VR.QP{R:Nat→Nat}{cs:List AV}{v:Value}(h:VR w R (.fE cs) v):∃vs:Array Value,v=.tuple vs∧vs.size=cs.length∧∀(j:Nat)(c:AV)(u:Value),cs[j]? =some c→vs[j]? =some u→VR w R c u:=by cases h with|fE _ vs hl hr=>exact⟨vs,rfl,hl,hr⟩
def At(w:World)(R:Nat→Nat)(b off:Nat)(cs:List AV):Prop:=∃u:Nat→Value,(∀(j:Nat)(c:AV),cs[j]? =some c→w.cell? ⟨b,off+j,none⟩=some (u j))∧(∀(j:Nat)(c:AV),cs[j]? =some c→VR w R c (u j))∧Fl cs
theorem VR.Pk{R:Nat→Nat}{cs:List AV}{v:Value}(h:VR w R (.sp cs) v):∃b off,v=.pointer (some ⟨b,off,none⟩)∧off+cs.length≤R b∧At w R b off cs:=by cases h with|sp _ b off u hf hR hc hr=>exact⟨b,off,rfl,hR,u,hc,hr,hf⟩
def zo(own:Bool)(v:Value):Prop:=v=.slice none 0 0∨(own=false∧∃a cap,v=.slice (some a) 0 cap)
theorem zo.own{v:Value}(h:zo true v):v=.slice none 0 0:=h.elim id fun h=>by cases h.1
theorem zo.ex{own:Bool}{v:Value}(h:zo own v):∃base cap,v=.slice base 0 cap:=by
 rcases h with h|⟨_,a,cap,h⟩
 ·exact⟨_,_,h⟩
 ·exact⟨_,_,h⟩
theorem VR.fA{R:Nat→Nat}{own:Bool}{sz m:Nat}{cs:List AV}{v:Value}(h:VR w R (.sl own sz m cs) v):
 (zo own v∧m=0∧cs=[])∨∃b off cap,v=.slice (some ⟨b,off,none⟩) m cap∧cs.length=m*sz∧off+cs.length≤R b∧m≤cap∧At w R b off cs:=by
 cases h with
 |slnil=>exact .inl ⟨.inl rfl,rfl,rfl⟩
 |sle=>exact .inl ⟨.inr ⟨rfl,_,_,rfl⟩,rfl,rfl⟩
 |sl _ _ _ _ b off cap u hf hl hR hcap hc hr=>exact .inr ⟨b,off,cap,rfl,hl,hR,hcap,u,hc,hr,hf⟩
theorem VR.Ph{R:Nat→Nat}{f:Nat}{x y:List AV}{v:Value}(h:VR w R (.fn f x y) v):∃vf vc:Array Value,v=.func (.func f) vf vc∧vf.size=x.length∧(∀(j:Nat)(c:AV)(u:Value),x[j]? =some c→vf[j]? =some u→VR w R c u)∧
 vc.size=y.length∧(∀(j:Nat)(c:AV)(u:Value),y[j]? =some c→vc[j]? =some u→VR w R c u):=by
 cases h with|fn _ _ _ vf vc h1 h2 h3 h4=>exact⟨vf,vc,rfl,h1,h2,h3,h4⟩
def runs(P:Program)(a:Act)(op:Op)(ty:TypeId)(w:World)(v:Value):Prop:=∀(d:Option Tmp)(pos:String)(after:Array Edge)(g:Option (Nat×Bool)),(execOp a.eval ⟨d,op,ty,pos,after,g⟩).run P w=.ok (.value v) w
theorem ZR(h:Inv G n D σ a w){op:Op}{ty:TypeId}{x:IX}(hc:al P op ty (.iR false x)=true){av:AV}(hv:er (pv (.iR false x) (xg true σ) σ) av):
 ∃v,runs P a op ty w v∧NR G w σ a av v:=by
 have key:∀y,aX y x=true→NR G w σ a av (a.eval y):=fun y hy=>by
  have hb:=BR.aB h hy
  have hv':er (R5 (xg true σ x)) av:=hv
  unfold R5 at hv'
  cases hi:cU (xg true σ x)with
  |false=>rw[hi]at hv';exact hv'.no.elim
  |true=>
   rw[hi]at hv'
   rw[hv'.cY]
   exact NR.view hi (hb.vr hi)
 cases op<;>first|(simp[al]at hc;done)|skip
 ·rename_i y
  exact⟨a.eval y,fun _ _ _ _=>rfl,key y hc⟩
 ·rename_i y
  exact⟨a.eval y,fun _ _ _ _=>rfl,key y hc⟩
theorem acy{g:Bool}{x:IX}{v:Value}{p:Bool}(hg:g=true)(hx:XR G w σ a x (σ.x x) v)(h:TE (σ.x x)=some (g,p)):v=.bool p:=by
 subst hg
 generalize σ.x x=av at*
 unfold TE at h
 split at h
 ·injection h with h;injection h with _ h;subst h;cases hx;rfl
 ·injection h with h;injection h with h1 h2;subst h1;subst h2
  have:=hx rfl rfl
  cases this;rfl
 ·cases h
theorem TF{g:Bool}{x:IX}{v:Value}{p:Bool}(hg:g=true)(hx:XR G w σ a x (σ.x x) v)(h:YY (σ.x x)=some (g,p)):v=.bool p:=by
 refine acy hg hx ?_
 unfold YY at h
 split at h
 ·injection h with h;injection h with h1 _;rw[hg]at h1;cases h1
 ·exact h
theorem Wc(h:Inv G n D σ a w){op:Op}{ty:TypeId}{c x y:IX}(hc:al P op ty (.pick c x y)=true){av:AV}(hv:er (pv (.pick c x y) (xg true σ) σ) av):
 ∃v,runs P a op ty w v∧NR G w σ a av v:=by
 cases op<;>first|(simp[al]at hc;done)|skip
 rename_i c' x' y'
 simp only[al,Bool.and_eq_true]at hc
 have hbc:=BR.aB h hc.1.1
 have hbx:=XR.aB h hc.1.2
 have hby:=XR.aB h hc.2
 have hv':er (Ke (σ.x x) (σ.x y) (xg true σ c)) av:=hv
 generalize xg true σ c=cv at hbc hv'
 unfold Ke at hv'
 split at hv'
 ·rename_i b
  have hcv:a.eval c'=.bool b:=VR.fq hbc
  unfold Ua at hv'
  split at hv'
  ·rename_i g1 p g2 q hp hq
   rcases hv' with hv'|⟨c1,hv',hc1⟩
   ·cases hv'
   injection hv' with h1 h2
   subst h1 h2
   refine⟨.bool (bif b then p else q),fun _ _ _ _=>?_,NR.mk rfl (.bool _) rfl⟩
   cases b with
   |true=>
    have:=TF (hc1.1 rfl) hbx hp
    simp[execOp,hcv,asBool,this]
   |false=>
    have:=TF (hc1.2 rfl) hby hq
    simp[execOp,hcv,asBool,this]
  ·exact hv'.no.elim
 ·exact hv'.no.elim
theorem adk(h:Inv G n D σ a w){op:Op}{ty:TypeId}{uo:UnOp}{x:IX}(hc:al P op ty (.un uo x)=true){av:AV}(hv:er (pv (.un uo x) (xg true σ) σ) av):
 ∃v,runs P a op ty w v∧NR G w σ a av v:=by
 cases op<;>first|(simp[al]at hc;done)|skip
 rename_i u t y
 simp only[al,Bool.and_eq_true,decide_eq_true_eq]at hc
 obtain⟨rfl,hy⟩:=hc
 have hb:=BR.aB h hy
 have hv':er (Yl uo (xg true σ x)) av:=hv
 generalize xg true σ x=xv at hb hv'
 unfold Yl at hv'
 split at hv'
 ·rename_i b
  have e:a.eval y=.bool b:=VR.fq hb
  rw[hv'.cY]
  exact⟨.bool (!b),fun _ _ _ _=>by simp[execOp,e,Op.unary],NR.mk rfl (.bool _) rfl⟩
 ·rename_i k m
  have e:a.eval y=.int k m:=VR.bk hb
  rw[hv'.cY]
  exact⟨.int k (k.wrap (0 -m)),fun _ _ _ _=>by simp[execOp,e,Op.unary,Op.intArith],NR.mk rfl (.int _ _) rfl⟩
 ·exact hv'.no.elim
theorem R9(h:Inv G n D σ a w){op:Op}{ty:TypeId}{k:IntKind}{x:IX}(hc:al P op ty (.mj k x)=true){av:AV}(hv:er (pv (.mj k x) (xg true σ) σ) av):
 ∃v,runs P a op ty w v∧NR G w σ a av v:=by
 cases op<;>first|(simp[al]at hc;done)|skip
 rename_i s t y
 simp only[al,Bool.and_eq_true]at hc
 obtain⟨hy,hc2⟩:=hc
 split at hc2
 ·rename_i k1 k2 hs ht
  have:=of_decide_eq_true hc2
  subst this
  have hb:=BR.aB h hy
  have hv':er (wi k (xg true σ x)) av:=hv
  generalize xg true σ x=xv at hb hv'
  unfold wi at hv'
  split at hv'
  ·rename_i k' m
   have e:a.eval y=.int k' m:=VR.bk hb
   rw[hv'.cY]
   exact⟨.int k (k.wrap m),fun _ _ _ _=>by simp[execOp,e,convert,underlying,hs,ht,Conv.intToInt],NR.mk rfl (.int _ _) rfl⟩
  ·exact hv'.no.elim
 ·cases hc2
theorem Uf(h:Inv G n D σ a w){op:Op}{ty:TypeId}{x:IX}(hc:al P op ty (.EK x)=true){av:AV}(hv:er (pv (.EK x) (xg true σ) σ) av):
 ∃v,runs P a op ty w v∧NR G w σ a av v:=by
 cases op<;>first|(simp[al]at hc;done)|skip
 rename_i s t y
 simp only[al,Bool.and_eq_true]at hc
 obtain⟨hy,hc2⟩:=hc
 split at hc2
 ·rename_i hs ht
  have hb:=BR.aB h hy
  have hv':er (Bd (xg true σ x)) av:=hv
  generalize xg true σ x=xv at hb hv'
  unfold Bd at hv'
  split at hv'
  ·rename_i m
   have e:a.eval y=.string ⟨m.toArray⟩:=VR.dL hb
   rw[hv'.cY]
   exact⟨.string ⟨m.toArray⟩,fun _ _ _ _=>by simp[execOp,e,convert,underlying,hs,ht],NR.mk rfl (.str _) rfl⟩
  ·exact hv'.no.elim
 ·cases hc2
theorem N7(h:Inv G n D σ a w){op:Op}{ty:TypeId}{x:IX}(hc:al P op ty (.nilCheck x)=true){av:AV}(hv:er (pv (.nilCheck x) (xg true σ) σ) av):
 ∃v,runs P a op ty w v∧NR G w σ a av v:=by
 cases op<;>first|(simp[al]at hc;done)|skip
 rename_i y
 have hb:=BR.aB h hc
 have hv':er (lq (xg true σ x)) av:=hv
 generalize xg true σ x=xv at hb hv'
 unfold lq at hv'
 split at hv'
 ·rename_i b o
  have e:a.eval y=.pointer (some ⟨b,o,none⟩):=VR.gp hb
  rw[hv'.cY]
  exact⟨_,fun _ _ _ _=>by simp[execOp,e],NR.mk rfl (.ref _ _) rfl⟩
 ·exact hv'.no.elim
theorem ZH(h:Inv G n D σ a w){op:Op}{ty:TypeId}{bo:BinOp}{x y:IX}(hc:al P op ty (.bin bo x y)=true){av:AV}(hv:er (pv (.bin bo x y) (xg true σ) σ) av):
 ∃v,runs P a op ty w v∧NR G w σ a av v:=by
 cases op<;>first|(simp[al]at hc;done)|skip
 rename_i b t u v yt
 simp only[al,Bool.and_eq_true,decide_eq_true_eq]at hc
 obtain⟨⟨rfl,hx⟩,hy⟩:=hc
 have hbx:=BR.aB h hx
 have hby:=BR.aB h hy
 have hv':er (OM bo (xg true σ x) (xg true σ y)) av:=hv
 generalize xg true σ x=xv at hbx hv'
 generalize xg true σ y=yv at hby hv'
 unfold OM at hv'
 split at hv'
 ·rename_i k p k' q
  have e1:a.eval u=.int k p:=VR.bk hbx
  have e2:a.eval v=.int k' q:=VR.bk hby
  have fin:∀(V:AV)(r:Value),cU V=true→AB.view V=V→VR w G.R V r→er (kk k k' (.cY V)) av→(k=k'→runs P a (.binOp bo t u v yt) ty w r)→∃v',runs P a (.binOp bo t u v yt) ty w v'∧NR G w σ a av v':=by
   intro V r h1 h2 h3 h4 h5
   unfold kk QU at h4
   by_cases hk:k=k'
   ·rw[decide_eq_true hk]at h4
    rw[h4.cY]
    exact⟨r,h5 hk,NR.mk h1 h3 h2⟩
   ·rw[decide_eq_false hk]at h4;exact h4.no.elim
  cases bo
  case shl=>
   obtain⟨rfl,h0⟩:=er.prt hv'
   exact⟨_,fun _ _ _ _=>by simp[execOp,e1,e2,eqGuard,binOp,Op.shift,Int.not_lt.2 h0,mg],NR.mk rfl (.int _ _) rfl⟩
  case shr=>
   obtain⟨rfl,h0⟩:=er.prt hv'
   exact⟨_,fun _ _ _ _=>by simp[execOp,e1,e2,eqGuard,binOp,Op.shift,Int.not_lt.2 h0],NR.mk rfl (.int _ _) rfl⟩
  case quo=>
   have hv'':er (kk k k' (.prt (q≠0) (.int k (mg k (p.tdiv q))))) av:=hv'
   unfold kk QU at hv''
   by_cases hk:k=k'
   ·rw[decide_eq_true hk]at hv''
    obtain⟨rfl,h0⟩:=er.prt hv''
    subst hk
    exact⟨_,fun _ _ _ _=>by simp[execOp,e1,e2,eqGuard,binOp,Op.intDiv,h0,mg],NR.mk rfl (.int _ _) rfl⟩
   ·rw[decide_eq_false hk]at hv'';exact hv''.no.elim
  case rem=>
   have hv'':er (kk k k' (.prt (q≠0) (.int k (p.tmod q)))) av:=hv'
   unfold kk QU at hv''
   by_cases hk:k=k'
   ·rw[decide_eq_true hk]at hv''
    obtain⟨rfl,h0⟩:=er.prt hv''
    subst hk
    exact⟨_,fun _ _ _ _=>by simp[execOp,e1,e2,eqGuard,binOp,Op.intDiv,h0],NR.mk rfl (.int _ _) rfl⟩
   ·rw[decide_eq_false hk]at hv'';exact hv''.no.elim
  case add=>exact fin _ _ rfl rfl (.int _ _) hv' fun hk _ _ _ _=>by subst hk;simp[execOp,e1,e2,eqGuard,binOp,Op.intArith,mg]
  case sub=>exact fin _ _ rfl rfl (.int _ _) hv' fun hk _ _ _ _=>by subst hk;simp[execOp,e1,e2,eqGuard,binOp,Op.intArith,mg]
  case mul=>exact fin _ _ rfl rfl (.int _ _) hv' fun hk _ _ _ _=>by subst hk;simp[execOp,e1,e2,eqGuard,binOp,Op.intArith,mg]
  case and=>exact fin _ _ rfl rfl (.int _ _) hv' fun hk _ _ _ _=>by subst hk;simp[execOp,e1,e2,eqGuard,binOp,Op.intBits]
  case or=>exact fin _ _ rfl rfl (.int _ _) hv' fun hk _ _ _ _=>by subst hk;simp[execOp,e1,e2,eqGuard,binOp,Op.intBits]
  case xor=>exact fin _ _ rfl rfl (.int _ _) hv' fun hk _ _ _ _=>by subst hk;simp[execOp,e1,e2,eqGuard,binOp,Op.intBits]
  case andNot=>exact fin _ _ rfl rfl (.int _ _) hv' fun hk _ _ _ _=>by subst hk;simp[execOp,e1,e2,eqGuard,binOp,Op.intBits]
  case eql=>exact fin _ _ rfl rfl (.bool _) hv' fun hk _ _ _ _=>by subst hk;simp[execOp,e1,e2,eqGuard,binOp,Op.intCmp]
  case neq=>exact fin _ _ rfl rfl (.bool _) hv' fun hk _ _ _ _=>by subst hk;simp[execOp,e1,e2,eqGuard,binOp,Op.intCmp]
  case lss=>exact fin _ _ rfl rfl (.bool _) hv' fun hk _ _ _ _=>by subst hk;simp[execOp,e1,e2,eqGuard,binOp,Op.intCmp]
  case leq=>exact fin _ _ rfl rfl (.bool _) hv' fun hk _ _ _ _=>by subst hk;simp[execOp,e1,e2,eqGuard,binOp,Op.intCmp]
  case gtr=>exact fin _ _ rfl rfl (.bool _) hv' fun hk _ _ _ _=>by subst hk;simp[execOp,e1,e2,eqGuard,binOp,Op.intCmp]
  case geq=>exact fin _ _ rfl rfl (.bool _) hv' fun hk _ _ _ _=>by subst hk;simp[execOp,e1,e2,eqGuard,binOp,Op.intCmp]
 ·rename_i p q
  have e1:a.eval u=.string ⟨p.toArray⟩:=VR.dL hbx
  have e2:a.eval v=.string ⟨q.toArray⟩:=VR.dL hby
  have tl:∀l:List UInt8,(ByteArray.mk l.toArray).toList=l:=fun l=>by rw[ByteArray.toList_eq]
  cases bo<;>first|exact(er.no hv').elim|skip
  case add=>
   obtain⟨rfl,h0⟩:=er.prt hv'
   have h0':p.length+q.length≤9223372036854775807:=by
    have:((p.length+q.length:Nat):Int)≤9223372036854775807:=h0
    omega
   refine⟨.string ⟨(p++q).toArray⟩,fun _ _ _ _=>?_,NR.mk rfl (.str _) rfl⟩
   have hr:=run_string_add_sum (P:=P) w ⟨p.toArray⟩ ⟨q.toArray⟩ (by simpa[ByteArray.size]using h0')
   rw[ByteArray.mk_append_mk]at hr
   simp[execOp,e1,e2,eqGuard,binOp,hr]
  all_goals
   rw[er.cY hv']
   exact⟨.bool _,fun _ _ _ _=>by simp[execOp,e1,e2,eqGuard,binOp,Op.stringOp,tl],NR.mk rfl (.bool _) rfl⟩
 ·exact hv'.no.elim
theorem ZL(h:Inv G n D σ a w){op:Op}{ty:TypeId}{ne:Bool}{x y:IX}(hc:al P op ty (.Pa ne x y)=true){av:AV}(hv:er (pv (.Pa ne x y) (xg true σ) σ) av):
 ∃v,runs P a op ty w v∧NR G w σ a av v:=by
 cases op<;>first|(simp[al]at hc;done)|skip
 rename_i b t u v yt
 simp only[al,Bool.and_eq_true,decide_eq_true_eq]at hc
 obtain⟨⟨⟨rfl,hx⟩,hy⟩,ht⟩:=hc
 have hbx:=BR.aB h hx
 have hby:=BR.aB h hy
 have hv':er (Pb ne (xg true σ x) (xg true σ y)) av:=hv
 generalize xg true σ x=xv at hbx hv'
 generalize xg true σ y=yv at hby hv'
 have htb:P.underlying t=some .bool:=by
  unfold W1 at ht
  split at ht
  ·assumption
  ·cases ht
 unfold Pb at hv'
 split at hv'
 ·rename_i p q
  have e1:a.eval u=.bool p:=VR.fq hbx
  have e2:a.eval v=.bool q:=VR.fq hby
  rw[hv'.cY]
  refine⟨.bool ((p==q)!=ne),fun _ _ _ _=>?_,NR.mk rfl (.bool _) rfl⟩
  cases ne<;>simp[execOp,e1,e2,eqGuard,binOp,run_equal_bool w t p q htb]
 ·exact hv'.no.elim
theorem B6{w:World}(d:Nat){t e:TypeId}(hte:P.underlying t=some (.pointer e))(p q:Option Addr)(hpq:p=none∨q=none):
 (Op.equalIn (d+1) t (.pointer p) (.pointer q)).run P w=.ok (p.isNone&&q.isNone) w:=by
 rcases hpq with rfl|rfl
 ·simp[Op.equalIn,run_underlying hte]
 ·cases p<;>simp[Op.equalIn,run_underlying hte]
theorem oV{w:World}(d:Nat){t e:TypeId}(hte:P.underlying t=some (.slice e))(b:Addr)(l c:Nat):
 (Op.equalIn (d+1) t (.slice (some b) l c) (.slice none 0 0)).run P w=.ok false w:=by
 simp[Op.equalIn,run_underlying hte]
theorem ZO(h:Inv G n D σ a w){op:Op}{ty:TypeId}{ne:Bool}{x y:IX}(hc:al P op ty (.M4 ne x y)=true){av:AV}(hv:er (pv (.M4 ne x y) (xg true σ) σ) av):
 ∃v,runs P a op ty w v∧NR G w σ a av v:=by
 cases op<;>first|(simp[al]at hc;done)|skip
 rename_i b t u v yt
 simp only[al,Bool.and_eq_true,decide_eq_true_eq]at hc
 obtain⟨⟨⟨rfl,hx⟩,hy⟩,ht⟩:=hc
 have hbx:=BR.aB h hx
 have hby:=BR.aB h hy
 have hv':er (M5 ne (xg true σ x) (xg true σ y)) av:=hv
 generalize xg true σ x=xv at hbx hv'
 generalize xg true σ y=yv at hby hv'
 have htb:∃e j,P.underlying t=some (.pointer e)∧P.info? e=some j:=by
  unfold adg at ht
  split at ht
  ·rename_i e he
   obtain⟨j,hj⟩:=Option.isSome_iff_exists.1 ht
   exact⟨e,j,he,hj⟩
  ·cases ht
 obtain⟨e,je,hte,hje⟩:=htb
 have eqn:∀p q:Option Addr,(p=none∨q=none)→(Op.equal t (.pointer p) (.pointer q)).run P w=.ok (p.isNone&&q.isNone) w:=by exact fun p q hpq=>B6 9999 hte p q hpq
 have fin:∀p q:Option Addr,a.eval u=.pointer p→a.eval v=.pointer q→(p=none∨q=none)→runs P a (.binOp (if ne=true then .neq else .eql) t u v yt) ty w (.bool ((p.isNone&&q.isNone)!=ne)):=by
  intro p q e1 e2 hpq _ _ _ _
  cases ne<;>simp[execOp,e1,e2,eqGuard,binOp,eqn p q hpq]
 unfold M5 at hv'
 split at hv'
 ·rw[hv'.cY]
  refine⟨_,fin _ _ (VR.tG hbx) (VR.tG hby) (.inl rfl),NR.mk rfl ?_ rfl⟩
  cases ne<;>exact .bool _
 ·rw[hv'.cY]
  refine⟨_,fin _ _ (VR.gp hbx) (VR.tG hby) (.inr rfl),NR.mk rfl ?_ rfl⟩
  cases ne<;>exact .bool _
 ·rw[hv'.cY]
  refine⟨_,fin _ _ (VR.tG hbx) (VR.gp hby) (.inl rfl),NR.mk rfl ?_ rfl⟩
  cases ne<;>exact .bool _
 ·rename_i b o b' o'
  by_cases hbo:b=b'∧o=o'
  ·obtain⟨rfl,rfl⟩:=hbo
   simp only[beq_self_eq_true,Bool.and_self,cond_true]at hv'
   rw[hv'.cY]
   have e1:=VR.gp hbx
   have e2:=VR.gp hby
   have hq:(Op.equal t (.pointer (some ⟨b,o,none⟩)) (.pointer (some ⟨b,o,none⟩))).run P w=.ok true w:=by
    have hd:∀d:Nat,(Op.equalIn (d+1) t (.pointer (some ⟨b,o,none⟩)) (.pointer (some ⟨b,o,none⟩))).run P w=.ok true w:=fun d=>by simp[Op.equalIn,run_underlying hte,sizeOf,typeInfo,hje,run_sameAddr_same]
    exact hd 9999
   refine⟨.bool (!ne),fun _ _ _ _=>?_,NR.mk rfl (.bool _) rfl⟩
   cases ne<;>simp[execOp,e1,e2,eqGuard,binOp,hq]
  ·have:(b==b'&&o==o')=false:=by
    cases hh:(b==b'&&o==o')with
    |false=>rfl
    |true=>simp at hh;exact absurd hh hbo
   rw[this]at hv'
   exact hv'.no.elim
 ·exact hv'.no.elim
theorem ZP(h:Inv G n D σ a w){op:Op}{ty:TypeId}{ne:Bool}{x y:IX}(hc:al P op ty (.VA ne x y)=true){av:AV}(hv:er (pv (.VA ne x y) (xg true σ) σ) av):
 ∃v,runs P a op ty w v∧NR G w σ a av v:=by
 cases op<;>first|(simp[al]at hc;done)|skip
 rename_i b t u v yt
 simp only[al,Bool.and_eq_true,decide_eq_true_eq]at hc
 obtain⟨⟨⟨rfl,hx⟩,hy⟩,ht⟩:=hc
 have hbx:=BR.aB h hx
 obtain⟨e,hte⟩:∃e,P.underlying t=some (.slice e):=by
  unfold b7 at ht
  split at ht
  ·exact⟨_,by assumption⟩
  ·cases ht
 have fin:∀(d:Addr)(l c:Nat),a.eval u=.slice (some d) l c→a.eval v=.slice none 0 0→runs P a (.binOp (if ne=true then .neq else .eql) t u v yt) ty w (.bool ne):=by
  intro d l c e1 e2 _ _ _ _
  have:(Op.equal t (.slice (some d) l c) (.slice none 0 0)).run P w=.ok false w:=oV 9999 hte d l c
  cases ne<;>simp[execOp,e1,e2,eqGuard,binOp,this]
 cases y with
 |t i=>exact(er.no hv).elim
 |c yv=>
  by_cases hyv:∃z,yv=.sl true z 0 []
  ·obtain⟨z,rfl⟩:=hyv
   have e2:a.eval v=.slice none 0 0:=by
    unfold aX at hy
    cases v<;>simp at hy
    rename_i c
    show c=_
    unfold cR at hy
    split at hy<;>simp_all
   have hv':er (Tw ne (xg true σ x) (.sl true z 0 [])) av:=hv
   generalize xg true σ x=xv at hbx hv'
   unfold Tw at hv'
   split at hv'
   ·rename_i o z' m cs _ _ _
    rw[hv'.cY]
    rcases VR.fA hbx with⟨_,h0,_⟩|⟨b,off,cap,e1,_⟩
    ·cases h0
    ·exact⟨_,fin _ _ _ e1 e2,NR.mk rfl (.bool _) rfl⟩
   ·rw[hv'.cY]
    exact⟨_,fin _ _ _ (VR.oj hbx (Nat.succ_pos _)) e2,NR.mk rfl (.bool _) rfl⟩
   ·exact hv'.no.elim
  ·have:pv (.VA ne x (.c yv)) (xg true σ) σ=.no:=by
    unfold pv
    split<;>first|rfl|(rename_i hh;cases hh;exact absurd ⟨_,rfl⟩ hyv)|(rename_i hh;cases hh)
   rw[this]at hv
   exact hv.no.elim
end
end Go.AB
end
section
namespace Go.AB
open Go
theorem add_eq(b off i:Nat):(⟨b,off,none⟩:Addr).add i=⟨b,off+i,none⟩:=by
 unfold Addr.add
 by_cases h:i=0<;>simp[h]
theorem cell_of_row(w:World){b:Nat}{c:Array Value}{t:TypeId}{fr:Nat×Nat}(hg:w.heap[b]? =some (.cells c t fr))(j:Nat):w.cell? ⟨b,j,none⟩=c[j]? :=by
 unfold World.cell?
 rw[hg];simp
theorem AS(cs:List AV)(off n j:Nat):(sub cs off n)[j]? =if j<n then cs[off+j]? else none:=by
 unfold sub
 rw[List.getElem?_take]
 split
 ·rw[List.getElem?_drop]
 ·rfl
theorem dU(cs:List AV)(j:Nat):(views cs)[j]? =(cs[j]?).map view:=by simp[views]
section
variable{P:Program}{G:Gh}{n:Nat}{D:List Deferred}{σ:St}{a:Act}{w:World}
theorem At.views{R:Nat→Nat}{b off:Nat}{cs:List AV}(h:At w R b off cs):At w R b off (views cs):=by
 obtain⟨u,h1,h2,hf⟩:=h
 refine⟨u,fun j c hj=>?_,fun j c hj=>?_,hf.views⟩<;>rw[dU]at hj<;>cases hc:cs[j]? <;>rw[hc]at hj<;>simp at hj
 ·exact h1 j _ hc
 ·rw[←hj];exact(h2 j _ hc).view
theorem At.sub{R:Nat→Nat}{b off:Nat}{cs:List AV}(h:At w R b off cs)(o n:Nat):At w R b (off+o) (sub cs o n):=by
 obtain⟨u,h1,h2,hf⟩:=h
 refine⟨fun j=>u (o+j),fun j c hj=>?_,fun j c hj=>?_,hf.sub o n⟩<;>rw[AS]at hj<;>split at hj<;>try(cases hj;done)
 ·rw[Nat.add_assoc];exact h1 _ c hj
 ·exact h2 _ c hj
theorem At.NU{b:Nat}{cs:List AV}{c:Array Value}{t:TypeId}{fr:Nat×Nat}{o:Nat→cy}(hh:w.heap[b]? =some (.cells c t fr))(hc:da G w o cs c)(hf:Fl cs):At w G.R b 0 cs:=by
 refine⟨fun j=>c.getD j undef,fun j x hj=>?_,fun j x hj=>?_,hf⟩
 all_goals
  have hlt:j<c.size:=by rw[hc.1];exact(List.getElem?_eq_some_iff.1 hj).1
  have hcj:c[j]? =some (c.getD j undef):=by simp[Array.getD_eq_getD_getElem?,hlt]
 ·rw[Nat.zero_add,cell_of_row w hh,hcj]
 ·exact(hc.2 j x _ hj hcj).1
theorem Kr(cs:List AV)(off n:Nat):AB.sub (AB.views cs) off n=AB.views (AB.sub cs off n):=by simp[AB.sub,AB.views,List.map_drop,List.map_take]
theorem At.J9{b:Nat}{cs:List AV}{c:Array Value}{t t':TypeId}{fr:Nat×Nat}{o:Nat→cy}(hh:w.heap[b]? =some (.cells c t fr))(hc:da G w o cs c)(hf:Co t' cs):At w G.R b 0 (AB.views cs):=by
 refine⟨fun j=>c.getD j undef,fun j x hj=>?_,fun j x hj=>?_,hf.views⟩
 all_goals
  have hlt:j<c.size:=by rw[hc.1];have:=(List.getElem?_eq_some_iff.1 hj).1;simpa[AB.views]using this
  have hcj:c[j]? =some (c.getD j undef):=by simp[Array.getD_eq_getD_getElem?,hlt]
 ·rw[Nat.zero_add,cell_of_row w hh,hcj]
 ·have hlt':j<cs.length:=by rw[←hc.1];exact hlt
  have hx:AB.view cs[j]=x:=by
   simp only[AB.views,List.getElem?_map,List.getElem?_eq_getElem hlt',Option.map_some]at hj
   injection hj
  rw[←hx]
  exact(hc.2 j cs[j] _ (List.getElem?_eq_getElem hlt') hcj).1.view
theorem rD{n off:Nat}{cs ds:List AV}(h:fF n off cs=some ds):off+n≤cs.length∧ds=views (sub cs off n):=by
 unfold fF at h
 by_cases hl:off+n≤cs.length
 ·rw[decide_eq_true hl]at h;injection h with h;exact⟨hl,h.symm⟩
 ·rw[decide_eq_false hl]at h;cases h
theorem iC{cs:List AV}{off n:Nat}(h:off+n≤cs.length):(AB.sub cs off n).length=n:=by unfold AB.sub;simp;omega
theorem Gf(h:Inv G n D σ a w){x:IX}{p:AV}{v:Value}(hb:BR G w σ a x p v){m:Nat}{cs:List AV}(hr:rd σ p m=some cs):
 ∃b off,v=.pointer (some ⟨b,off,none⟩)∧cs.length=m∧At w G.R b off cs∧views cs=cs:=by
 have vv:∀l:List AV,views (views l)=views l:=fun l=>by simp[views,iK,Function.comp_def]
 unfold rd at hr
 split at hr
 ·rename_i ds
  obtain⟨hl,rfl⟩:=rD hr
  obtain⟨i,b,c,t,_,_,_,hv,_,_,hh,hc,hfl⟩:=hb
  have hat:=((At.NU hh hc hfl).sub 0 m).views
  simp only[Nat.add_zero]at hat
  exact⟨b,0,hv,by simp[AB.views,iC hl],hat,vv _⟩
 ·rename_i d off
  unfold kN at hr
  split at hr
  ·rename_i ds hd
   obtain⟨hl,rfl⟩:=rD hr
   obtain⟨b,hv,ht⟩:=hb
   have ht:=ht ds hd
   have hs:=h.bW d _ ht
   rw[hd]at hs
   obtain⟨b',c,t,h1,h2,h3,h4,h5,h6⟩:=hs
   injection h1 with h1;injection h1 with h1;injection h1 with h1 _ _
   subst h1
   have hat:=((At.NU h4 h5 h6).sub off m).views
   rw[Nat.zero_add]at hat
   exact⟨b,off,hv,by simp[AB.views,iC hl],hat,vv _⟩
  ·cases hr
 ·rename_i ds
  obtain⟨hl,rfl⟩:=rD hr
  obtain⟨b,off,hv,hR,hat⟩:=VR.Pk hb
  have hat:=(hat.sub 0 m).views
  exact⟨b,off,hv,by simp[AB.views,iC hl],hat,vv _⟩
 ·rename_i b off
  unfold Ay at hr
  split at hr
  ·rename_i ds hs
   obtain⟨hl,rfl⟩:=rD hr
   have hv:=VR.gp hb
   obtain⟨h1,h2,c,t,h3,h4,h5⟩:=h.store b _ hs
   have hat:=(At.J9 h3 h4 h5).sub off m
   rw[Nat.zero_add,Kr]at hat
   exact⟨b,off,hv,by simp[AB.views,iC hl],hat,vv _⟩
  ·cases hr
 ·cases hr
theorem iJ{t:TypeId}{m:Nat}(h:ch P t m=true):∃i,P.info? t=some i∧i.size=m:=by
 unfold ch at h
 split at h
 ·exact⟨_,by assumption,by simpa using h⟩
 ·cases h
theorem run_sizeOf{t:TypeId}{m:Nat}(h:ch P t m=true)(w:World):(sizeOf t).run P w=.ok m w:=by
 obtain⟨i,h1,h2⟩:=iJ h
 simp[sizeOf,typeInfo,h1,h2]
theorem jP{t:TypeId}{multi:Bool}(h:mo P t multi=true)(w:World):(isAgg t).run P w=.ok multi w:=by
 unfold mo at h
 split at h
 ·rename_i hh;subst h;simp[isAgg,underlying,hh]
 ·rename_i hh;subst h;simp[isAgg,underlying,hh]
 ·rename_i d h1 h2 hh
  have hm:multi=false:=by simpa using h
  subst hm
  simp only[isAgg,underlying,run_program,Sem.run_bind,Result.andThen_ok,hh,Sem.run_pure]
 ·cases h
theorem At.kE{R:Nat→Nat}{b off:Nat}{cs:List AV}(h:At w R b off cs):∃us:List Value,us.length=cs.length∧(∀(j:Nat)(v:Value),us[j]? =some v→w.cell? ((⟨b,off,none⟩:Addr).add j)=some v)∧
 (∀(j:Nat)(c:AV)(v:Value),cs[j]? =some c→us[j]? =some v→VR w R c v):=by
 obtain⟨u,h1,h2,_⟩:=h
 have key:∀(j:Nat)(v:Value),((List.range cs.length).map u)[j]? =some v→∃hj:j<cs.length,v=u j:=by
  intro j v hj
  rw[List.getElem?_map]at hj
  by_cases hlt:j<cs.length
  ·rw[List.getElem?_range hlt]at hj;simp at hj;exact⟨hlt,hj.symm⟩
  ·rw[List.getElem?_eq_none (by simpa using hlt)]at hj;simp at hj
 refine⟨(List.range cs.length).map u,by simp,fun j v hj=>?_,fun j c v hc hj=>?_⟩
 ·obtain⟨hlt,rfl⟩:=key j v hj
  rw[add_eq]
  exact h1 j cs[j] (List.getElem?_eq_getElem hlt)
 ·obtain⟨_,rfl⟩:=key j v hj
  exact h2 j c hc
theorem pq{R:Nat→Nat}{t:TypeId}{m:Nat}{multi:Bool}(hs:ch P t m=true)(hm:mo P t multi=true)(h1:(multi||m==1)=true){b off:Nat}{cs:List AV}(hl:cs.length=m)(hat:At w R b off cs):
 ∃v,(loadVar t ⟨b,off,none⟩).run P w=.ok v w∧VR w R (mq multi cs) v:=by
 have hfl:Fl cs:=by obtain⟨_,_,_,hf⟩:=hat;exact hf
 obtain⟨us,hul,hc,hv⟩:=hat.kE
 cases multi with
 |true=>
  have:=run_loadCells_list (P:=P) w ⟨b,off,none⟩ us hc
  rw[hul,hl]at this
  refine⟨.agg us.toArray,by simp[loadVar,jP hm,run_sizeOf hs,this],?_⟩
  show VR w R (.agg cs) _
  exact .agg cs us.toArray hfl (by simp[hul]) fun j c v hcj hvj=>hv j c v hcj (by simpa using hvj)
 |false=>
  have hm1:m=1:=by simpa using h1
  subst hm1
  match cs,hl with
  |[c],_=>
   match us,hul with
   |[u],_=>
    have h0:=hc 0 u rfl
    rw[add_eq]at h0
    refine⟨u,by simp[loadVar,jP hm,show(w.cell? ⟨b,off,none⟩)=some u from h0],hv 0 c u rfl rfl⟩
theorem OS{a av:AV}(h:er (XB a) av):av=a∧cU a=true:=by
 unfold XB at h
 cases hi:cU a with
 |true=>rw[hi]at h;exact⟨h.cY,rfl⟩
 |false=>rw[hi]at h;exact h.no.elim
theorem YE{c:Prop}{a av:AV}(h:er (XA c a) av):av=a∧cU a=true∧c:=by
 unfold XA at h
 cases hi:cU a with
 |true=>rw[hi]at h;exact⟨h.prt.1,rfl,h.prt.2⟩
 |false=>rw[hi]at h;exact h.no.elim
theorem G9{multi:Bool}{cs:List AV}(hv:views cs=cs):AB.view (mq multi cs)=mq multi cs:=by
 cases multi with
 |true=>rfl
 |false=>cases cs with
  |nil=>rfl
  |cons c l=>simp only[views,List.map_cons,List.cons.injEq]at hv;exact hv.1
theorem LH(h:Inv G n D σ a w){op:Op}{ty:TypeId}{m:Nat}{multi:Bool}{x:IX}(hc:al P op ty (.load m multi x)=true){av:AV}(hv:er (pv (.load m multi x) (xg true σ) σ) av):
 ∃v,runs P a op ty w v∧NR G w σ a av v:=by
 cases op<;>first|(simp[al]at hc;done)|skip
 rename_i t y
 simp only[al,Bool.and_eq_true]at hc
 obtain⟨⟨⟨hs,hm⟩,h1⟩,hy⟩:=hc
 have hb:=BR.aB h hy
 have hv':er (mB multi (rd σ (xg true σ x) m)) av:=hv
 cases hr:rd σ (xg true σ x) m with
 |none=>rw[hr]at hv';exact hv'.no.elim
 |some cs=>
  rw[hr]at hv'
  obtain⟨rfl,hi⟩:=OS hv'
  obtain⟨b,off,e,hl,hat,hvw⟩:=Gf h hb hr
  obtain⟨v,hrun,hvr⟩:=pq hs hm h1 hl hat
  exact⟨v,fun _ _ _ _=>by simp[execOp,e,Instr.loadAt,Instr.sureAddr,hrun],NR.mk hi hvr (G9 hvw)⟩
theorem F9{R:Nat→Nat}{t:TypeId}{m off:Nat}{multi:Bool}(hs:ch P t m=true)(hm:mo P t multi=true)(h1:(multi||m==1)=true){cs:List AV}{vs:Array Value}(hl:vs.size=cs.length)
 (hr:∀(j:Nat)(c:AV)(u:Value),cs[j]? =some c→vs[j]? =some u→VR w R c u)(hfl:Fl cs)(hfit:off+m≤cs.length):
 ∃v,(part t vs off).run P w=.ok v w∧VR w R (mq multi (AB.sub cs off m)) v:=by
 cases multi with
 |true=>
  refine⟨.agg (vs.extract off (off+m)),by simp[part,jP hm,run_sizeOf hs],?_⟩
  show VR w R (.agg _) _
  refine .agg _ _ (hfl.sub off m) (by rw[iC hfit];simp;omega) fun j c u hc hu=>?_
  rw[AS]at hc
  split at hc
  ·rename_i hj
   refine hr (off+j) c u hc ?_
   rw[Array.getElem?_extract]at hu
   split at hu
   ·exact hu
   ·cases hu
  ·cases hc
 |false=>
  have hm1:m=1:=by simpa using h1
  subst hm1
  have hlt:off<vs.size:=by omega
  have hlt':off<cs.length:=by omega
  refine⟨vs[off],by simp[part,jP hm,Array.getElem?_eq_getElem hlt],?_⟩
  have:AB.sub cs off 1=[cs[off]]:=by
   unfold AB.sub
   rw[List.drop_eq_getElem_cons hlt'];rfl
  rw[this]
  exact hr off _ _ (List.getElem?_eq_getElem hlt') (Array.getElem?_eq_getElem hlt)
theorem Ug(h:Inv G n D σ a w){op:Op}{ty:TypeId}{m off:Nat}{multi:Bool}{x:IX}(hc:al P op ty (.field m multi off x)=true){av:AV}(hv:er (pv (.field m multi off x) (xg true σ) σ) av):
 ∃v,runs P a op ty w v∧NR G w σ a av v:=by
 cases op<;>first|(simp[al]at hc;done)|skip
 rename_i t y i
 simp only[al,Bool.and_eq_true]at hc
 obtain⟨hy,hc⟩:=hc
 split at hc<;>try(cases hc;done)
 rename_i fs ht
 split at hc<;>try(cases hc;done)
 rename_i f hf
 simp only[Bool.and_eq_true,beq_iff_eq]at hc
 obtain⟨⟨⟨rfl,hs⟩,hm⟩,h1⟩:=hc
 have hb:=BR.aB h hy
 have hv':er (Bf m multi f.offset (xg true σ x)) av:=hv
 generalize xg true σ x=xv at hb hv'
 unfold Bf at hv'
 split at hv'
 ·rename_i cs
  by_cases hfit:f.offset+m≤cs.length
  ·rw[decide_eq_true hfit]at hv'
   obtain⟨rfl,hi⟩:=OS hv'
   obtain⟨vs,e,hl,hr,hfl⟩:=VR.lD hb
   obtain⟨v,hrun,hvr⟩:=F9 hs hm h1 hl hr hfl hfit
   refine⟨v,fun _ _ _ _=>by simp[execOp,e,Instr.field,underlying,ht,hf,asAgg,hrun],NR.mk hi hvr.view (iK _)⟩
  ·rw[decide_eq_false hfit]at hv';exact hv'.no.elim
 ·exact hv'.no.elim
theorem Uh(h:Inv G n D σ a w){op:Op}{ty:TypeId}{m len:Nat}{multi:Bool}{x i:IX}(hc:al P op ty (.index m multi len x i)=true){av:AV}(hv:er (pv (.index m multi len x i) (xg true σ) σ) av):
 ∃v,runs P a op ty w v∧NR G w σ a av v:=by
 cases op<;>first|(simp[al]at hc;done)|skip
 rename_i t y j
 simp only[al,Bool.and_eq_true]at hc
 obtain⟨⟨hy,hj⟩,hc⟩:=hc
 split at hc<;>try(cases hc;done)
 rename_i l e ht
 simp only[Bool.and_eq_true,beq_iff_eq]at hc
 obtain⟨⟨⟨rfl,hs⟩,hm⟩,h1⟩:=hc
 have hb:=BR.aB h hy
 have hbi:=BR.aB h hj
 have hv':er (Bm m multi l (xg true σ x) (xg true σ i)) av:=hv
 generalize xg true σ x=xv at hb hv'
 generalize xg true σ i=iv at hbi hv'
 unfold Bm at hv'
 split at hv'
 ·rename_i cs k q
  cases hcl:l*m==cs.length with
  |false=>rw[hcl]at hv';exact hv'.no.elim
  |true=>
   rw[hcl]at hv'
   obtain⟨rfl,hi,h0,hlt⟩:=YE hv'
   obtain⟨vs,e1,hl,hr,hfl⟩:=VR.lD hb
   have e2:a.eval j=.int k q:=VR.bk hbi
   have hfit:q.toNat*m+m≤cs.length:=by
    rw[←beq_iff_eq.1 hcl]
    have:q.toNat+1≤l:=by omega
    calc q.toNat*m+m=(q.toNat+1)*m:=by rw[Nat.add_mul,Nat.one_mul]
     _≤l*m:=Nat.mul_le_mul_right _ this
   obtain⟨v,hrun,hvr⟩:=F9 hs hm h1 hl hr hfl hfit
   refine⟨v,fun _ _ _ _=>by simp[execOp,e1,e2,Instr.index,underlying,ht,asIntOf,h0,hlt,run_sizeOf hs,hrun],NR.mk hi hvr.view (iK _)⟩
 ·exact hv'.no.elim
theorem AR{t:TypeId}(h:Qg P t=true):P.underlying t=some .string:=by
 unfold Qg at h
 split at h
 ·assumption
 ·cases h
theorem Sg(h:Inv G n D σ a w){op:Op}{ty:TypeId}{x i:IX}(hc:al P op ty (.gR x i)=true){av:AV}(hv:er (pv (.gR x i) (xg true σ) σ) av):
 ∃v,runs P a op ty w v∧NR G w σ a av v:=by
 cases op<;>first|(simp[al]at hc;done)|skip
 rename_i t y j
 simp only[al,Bool.and_eq_true]at hc
 obtain⟨⟨hy,hj⟩,ht⟩:=hc
 have ht:=AR ht
 have hb:=BR.aB h hy
 have hbi:=BR.aB h hj
 have hv':er (wE (xg true σ x) (xg true σ i)) av:=hv
 generalize xg true σ x=xv at hb hv'
 generalize xg true σ i=iv at hbi hv'
 unfold wE at hv'
 split at hv'
 ·rename_i s k q
  obtain⟨rfl,h0,hlt⟩:=hv'.prt
  have e1:a.eval y=.string ⟨s.toArray⟩:=VR.dL hb
  have e2:a.eval j=.int k q:=VR.bk hbi
  have hq:q.toNat<s.length:=by omega
  have hg:(ByteArray.mk s.toArray)[q.toNat]? =some (s.getD q.toNat 0):=by
   have hsz:q.toNat<(ByteArray.mk s.toArray).size:=by simpa[ByteArray.size]using hq
   rw[show(ByteArray.mk s.toArray)[q.toNat]? =some ((ByteArray.mk s.toArray)[q.toNat]'hsz) from getElem?_pos (ByteArray.mk s.toArray) q.toNat hsz]
   have:(ByteArray.mk s.toArray)[q.toNat]=s.toArray[q.toNat]'(by simpa using hq):=rfl
   rw[this]
   simp[List.getD_eq_getElem?_getD,List.getElem?_eq_getElem hq]
  refine⟨.int .u8 (s.getD q.toNat 0).toNat,fun _ _ _ _=>by simp[execOp,e1,e2,Instr.index,underlying,ht,asIntOf,h0,hg],NR.mk rfl (.int _ _) rfl⟩
 ·exact hv'.no.elim
theorem cz{t e:TypeId}(h:b7 P t=some e):P.underlying t=some (.slice e):=by
 unfold b7 at h
 split at h
 ·rename_i ht;injection h with h;subst h;exact ht
 ·cases h
theorem LF(h:Inv G n D σ a w){op:Op}{ty:TypeId}{off:Nat}{x:IX}(hc:al P op ty (.fieldAddr off x)=true){av:AV}(hv:er (pv (.fieldAddr off x) (xg true σ) σ) av):
 ∃v,runs P a op ty w v∧NR G w σ a av v:=by
 cases op<;>first|(simp[al]at hc;done)|skip
 rename_i t y i
 simp only[al,Bool.and_eq_true]at hc
 obtain⟨hy,hc⟩:=hc
 split at hc<;>try(cases hc;done)
 rename_i fs ht
 split at hc<;>try(cases hc;done)
 rename_i f hf
 simp only[Bool.and_eq_true,beq_iff_eq]at hc
 obtain⟨rfl,hsz⟩:=hc
 split at hsz<;>try(cases hsz;done)
 rename_i ti hti
 have hpos:ti.size≠0:=by have:=of_decide_eq_true hsz;omega
 have hb:=BR.aB h hy
 have hrun:∀b o,a.eval y=.pointer (some ⟨b,o,none⟩)→runs P a (.fieldAddr t y i) ty w (.pointer (some ⟨b,o+f.offset,none⟩)):=by
  intro b o e _ _ _ _
  simp[execOp,e,Instr.fieldAt,underlying,ht,hf,Instr.sureAddr,fieldPlace,sizeOf,typeInfo,hti,hpos,add_eq]
 have hv':er (fy f.offset x (xg true σ x)) av:=hv
 generalize hxv:xg true σ x=xv at hb hv'
 unfold fy at hv'
 split at hv'
 ·rename_i d o
  rw[hv'.cY]
  obtain⟨b,h1,h2⟩:=hb
  exact⟨_,hrun b o h1,b,rfl,h2⟩
 ·rename_i cs
  by_cases hfit:f.offset≤cs.length
  ·rw[decide_eq_true hfit]at hv'
   rw[hv'.cY]
   obtain⟨b,o,e,hR,u,h1,h2,hfl⟩:=VR.Pk hb
   refine⟨_,hrun b o e,NR.mk rfl (.sp _ b (o+f.offset) (fun j=>u (f.offset+j)) (hfl.drop _) (by simp;omega) (fun j c hj=>?_) (fun j c hj=>?_)) rfl⟩
   ·rw[List.getElem?_drop]at hj
    rw[Nat.add_assoc];exact h1 _ c hj
   ·rw[List.getElem?_drop]at hj
    exact h2 _ c hj
  ·rw[decide_eq_false hfit]at hv';exact hv'.no.elim
 ·rename_i b o
  rw[hv'.cY]
  exact⟨_,hrun b o (VR.gp hb),NR.mk rfl (.ref _ _) rfl⟩
 ·rename_i cs
  unfold R1 at hv'
  split at hv'
  ·rename_i j
   obtain⟨rfl,_⟩:=hv'.prt
   obtain⟨i',b,c,t',e1,hl,htm,hvv,_⟩:=hb
   injection e1 with e1
   subst e1
   exact⟨_,hrun b 0 hvv,b,by rw[Nat.zero_add],fun _ _=>by rw[htm,hvv]⟩
  ·exact hv'.no.elim
 ·exact hv'.no.elim
end
end Go.AB
end
