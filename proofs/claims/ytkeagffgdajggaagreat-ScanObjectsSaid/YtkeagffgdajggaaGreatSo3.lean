/- A part of the proof: Ab5, Ab6, Ab7, Ab8. -/
import Derived.Test.YtkeagffgdajggaaGreatSo2
import Derived.Laws.Cells
import Derived.Laws.Strings
import Derived.Laws.Pointers
import Derived.Laws.Small
import Derived.LaidEqlPtr
import Derived.Laws.Concat
set_option linter.unusedSimpArgs false
set_option linter.unusedVariables false
section
namespace Go.AB
open Go
def cR:Value→AV→Bool
 |.bool a,.bool b=>a==b
 |.int k n,.int k' m=>decide (k=k')&&n==m
 |.string s,.str t=>s.data.toList==t
 |.pointer none,.dG=>true
 |.slice none 0 0,.sl _ _ 0 []=>true
 |.slice none 0 0,.arr _ _ 0 0=>true
 |.slice none 0 0,.bb _ 0 []=>true
 |.map none,.sq=>true
 |.nilFunc,.nj=>true
 |.nilIface,.jX=>true
 |_,_=>false
def Ig:List Value→List AV→Bool
 |[],[]=>true
 |v::vs,a::as=>cR v a&&Ig vs as
 |_,_=>false
def bw:Operand→IX→Bool
 |.tmp t,.t i=>t==i
 |.const (.agg vs),.c (.agg cs)=>Ig vs.toList cs
 |.const v,.c a=>cR v a
 |.func f,.c (.fn g [] [])=>f==g
 |_,_=>false
def fZ:List Operand→List IX→Bool
 |[],[]=>true
 |o::os,x::xs=>bw o x&&fZ os xs
 |_,_=>false
def CF:Option Operand→Option IX→Bool
 |none,none=>true
 |some o,some x=>bw o x
 |_,_=>false
section
variable(P:Program)
def cy(t:TypeId)(n:Nat):Bool:=match P.info? t with
 |some i=>i.size==n
 |none=>false
def iY(t:TypeId)(n:Nat):Bool:=match P.info? t with
 |some i=>i.bytes==n
 |none=>false
def lE(t:TypeId)(multi:Bool):Bool:=match P.underlying t with
 |some (.struct _)|some (.array _ _)=>multi
 |some _=>!multi
 |none=>false
def nf(t:TypeId)(z:List AV):Bool:=match P.info? t with
 |some i=>(match i.zero with
  |some v=>Ig v.cells.toList z&&i.size==z.length
  |none=>false)
 |none=>false
def ct(t:TypeId):Option TypeId:=match P.underlying t with
 |some (.slice e)=>some e
 |_=>none
def ya(fs:Array Field):List (Nat×Operand)→List (Nat×Nat×IX)→Bool
 |[],[]=>true
 |(i,o)::r,(off,n,x)::s=>(match fs[i]? with
  |some f=>f.offset==off&&cy P f.type n
  |none=>false)&&bw o x&&ya fs r s
 |_,_=>false
def sv(sz:Nat):List (Nat×Operand)→List (Nat×Nat×IX)→Bool
 |[],[]=>true
 |(i,o)::r,(off,n,x)::s=>i*sz==off&&n==sz&&bw o x&&sv sz r s
 |_,_=>false
def O1(t:TypeId):Bool:=match P.underlying t with
 |some (.int _)=>true
 |_=>false
def Qw(t:TypeId):Bool:=match P.underlying t with
 |some .bool=>true
 |_=>false
def JC(t:TypeId):Bool:=match P.underlying t with
 |some .string=>true
 |_=>false
def WJ(t:TypeId):Bool:=match P.underlying t with
 |some (.pointer e)=>(P.info? e).isSome
 |_=>false
def qi(e:TypeId)(sz:Nat):Bool:=match P.info? e with
 |some i=>(match i.zero with
  |some v=>v.cells.size==sz&&v.cells.toList.all Value.oneCell'
  |none=>false)
 |none=>false
def KK(b:Builtin)(c:Call):Option (List Operand×List TypeId):=match c.callee with
 |.builtin b'=>if b'=b then some (c.args.toList,c.argTypes.toList)else none
 |_=>none
def Wn(t:TypeId)(cls:Nat):Bool:=match P.underlying t with
 |some (.slice _)=>cls==0
 |some .string=>cls==1
 |some (.map _ _)=>cls==2
 |_=>false
def L6(t:TypeId)(n:Nat):Bool:=match P.underlying t with
 |some (.array m _)=>n==m
 |_=>false
def IZ(t:TypeId):ly→Bool
 |.int k=>(match P.underlying t with|some (.int k')=>Kb k k'|_=>false)
 |.str=>(match P.underlying t with|some .string=>true|_=>false)
 |.bool=>(match P.underlying t with|some .bool=>true|_=>false)
 |.bytes n=>(match P.underlying t with
  |some (.array m e)=>m==n&&(match P.underlying e with|some (.int .u8)=>true|_=>false)&&cy P e 1
  |_=>false)
def JI(t:TypeId)(z:AV):Bool:=match P.info? t with
 |some i=>(match i.zero with
  |some v=>(match z,v with
   |.agg cs,.agg vs=>Ig vs.toList cs
   |z,v=>cR v z)
  |none=>false)
 |none=>false
def th:List Field→Nat→Bool
 |[],_=>true
 |f::r,k=>f.name != "_" &&f.offset==k&&O1 P f.type&&lE P f.type false&&th r (k+1)
def Ct(t:TypeId)(n:Nat):Bool:=match P.underlying t with
 |some (.struct fs)=>th P fs.toList 0&&fs.size==n&&!P.stoodInHeld t&&!P.eqGuardType P.depth t
 |_=>false
def au(op:Op)(_ty:TypeId)(o:rh):Bool:=
 match o,op with
 |.iT _ x,.move y=>bw y x
 |.iT _ x,.assign y=>bw y x
 |.pick c x y,.pick c' x' y'=>bw c' c&&bw x' x&&bw y' y
 |.aQ z,.alloc t=>nf P t z
 |.gV z,.alloc t=>nf P t z
 |.lZ n x,.box t y=>cy P t n&&bw y x
 |.qU n x,.box t y=>cy P t n&&bw y x
 |.build z ps,.build t qs=>nf P t z&&(match P.underlying t with
  |some (.struct fs)=>ya P fs qs.toList ps&&fs.all fun f=>(P.info? f.type).isSome
  |some (.array _ e)=>(match P.info? e with
   |some i=>sv i.size qs.toList ps
   |none=>false)
  |_=>false)
 |.b5 sz n z ps,.buildSlice t m qs=>n==m&&(match ct P t with
  |some e=>cy P e sz&&decide (0<sz)&&sv sz qs.toList ps&&decide (n*sz≤2^24)&&(match P.info? e with
   |some i=>(match i.zero with
    |some v=>Ig ((List.replicate n v.cells.toList).flatten) z&&v.cells.size==sz
    |none=>false)
   |none=>false)
  |none=>false)
 |.lN _ x,.load t y=>cy P t 1&&lE P t false&&bw y x
 |.bW z multi x,.load t y=>cy P t z.length&&lE P t multi&&(multi||z.length==1)&&bw y x
 |.lookup kk z ok x k,.lookup t y j ok'=>bw y x&&bw j k&&ok==ok'&&(match P.underlying t with
  |some (.map kt et)=>IZ P kt kk&&JI P et z
  |_=>false)
 |.mapUpdate kk x k v,.mapUpdate t y j u=>bw y x&&bw j k&&bw u v&&(match P.underlying t with
  |some (.map kt _)=>IZ P kt kk
  |_=>false)
 |.re x,.move y=>bw y x
 |.re x,.assign y=>bw y x
 |.ji (.t i),.convert s t y=>bw y (.t i)&&s==t&&(match P.underlying s with
  |some (.slice e)=>(match P.underlying e with|some (.int .u8)=>true|_=>false)
  |_=>false)
 |.load n multi x,.load t y=>cy P t n&&lE P t multi&&(multi||n==1)&&bw y x
 |.store n p v,.store t q u=>cy P t n&&bw q p&&bw u v
 |.nilCheck x,.nilCheck y=>bw y x
 |.bin bo x y,.binOp b _ u v _=>decide (bo=b)&&bw u x&&bw v y
 |.QO ne x y,.binOp b t u v _=>decide (b=if ne then .neq else .eql)&&bw u x&&bw v y&&Qw P t
 |.F4 ne x y,.binOp b t u v _=>decide (b=if ne then .neq else .eql)&&bw u x&&bw v y&&WJ P t
 |.OS ne x y,.binOp b t u v _=>decide (b=if ne then .neq else .eql)&&bw u x&&bw v y&&(ct P t).isSome
 |.un uo x,.unOp u _ y=>decide (uo=u)&&bw y x
 |.dN k x,.convert s t y=>bw y x&&(match P.underlying s,P.underlying t with
  |some (.int _),some (.int k')=>decide (k=k')
  |_,_=>false)
 |.fA x,.convert s t y=>bw y x&&(match P.underlying s,P.underlying t with
  |some (.slice e),some .string=>(match P.underlying e with|some (.int .u8)=>true|_=>false)
  |_,_=>false)
 |.hE x,.convert s t y=>bw y x&&(match P.underlying s,P.underlying t with
  |some .string,some (.slice e)=>(match P.underlying e with|some (.int .u8)=>true|_=>false)
  |_,_=>false)
 |.AQ x,.convert s t y=>bw y x&&(match P.underlying s,P.underlying t with
  |some .string,some .string=>true
  |_,_=>false)
 |.field n multi off x,.field t y i=>bw y x&&(match P.underlying t with
  |some (.struct fs)=>(match fs[i]? with
   |some f=>f.offset==off&&cy P f.type n&&lE P f.type multi&&(multi||n==1)
   |none=>false)
  |_=>false)
 |.index n multi len x i,.index t y j=>bw y x&&bw j i&&(match P.underlying t with
  |some (.array l e)=>l==len&&cy P e n&&lE P e multi&&(multi||n==1)
  |_=>false)
 |.dJ x i,.index t y j=>bw y x&&bw j i&&JC P t
 |.fieldAddr off x,.fieldAddr t y i=>bw y x&&(match P.underlying t with
  |some (.struct fs)=>(match fs[i]? with
   |some f=>f.offset==off&&(match P.info? f.type with|some j=>decide (0<j.size)|none=>false)
   |none=>false)
  |_=>false)
 |.indexAddr z x i,.indexAddr t y j=>bw y x&&bw j i&&(match ct P t with
  |some e=>cy P e z.length
  |none=>false)
 |.jh sz len x i,.indexAddr t y j=>bw y x&&bw j i&&(match P.underlying t with
  |some (.array l e)=>l==len&&cy P e sz
  |_=>false)
 |.slice sz x lo hi mx,.slice t y l h m=>bw y x&&CF l lo&&CF h hi&&CF m mx&&(match ct P t with
  |some e=>cy P e sz
  |none=>false)
 |.jq x lo hi,.slice t y l h none=>bw y x&&CF l lo&&CF h hi&&JC P t
 |.extract x k,.extract y j=>bw y x&&k==j
 |.len cls x,.call c=>(match KK .len c with
  |some (y::_,t::_)=>bw y x&&Wn P t cls
  |_=>false)
 |.KD n,.call c=>(match KK .len c with
  |some (_::_,t::_)=>L6 P t n
  |_=>false)
 |.cap x,.call c=>(match KK .cap c with
  |some (y::_,t::_)=>bw y x&&(ct P t).isSome
  |_=>false)
 |.hZ true xs,.call c=>(match KK .max c with
  |some (ys,_)=>fZ ys xs
  |_=>false)
 |.hZ false xs,.call c=>(match KK .min c with
  |some (ys,_)=>fZ ys xs
  |_=>false)
 |.append sz by' x y,.call c=>(match KK .append c with
  |some ([u,v],[t,t'])=>bw u x&&bw v y&&(match ct P t with
   |some e=>cy P e sz&&iY P e by'&&decide (0<sz)&&decide (0<by')&&qi P e sz&&((ct P t').isSome||JC P t')
   |none=>false)
  |_=>false)
 |.gE sz by' z l c,.makeSlice t l' c'=>bw l' l&&bw c' c&&(match ct P t with
  |some e=>cy P e sz&&iY P e by'&&nf P e z&&decide (0<sz)&&decide (0<by')
  |none=>false)
 |.xZ sz by' c,.makeSlice t l' c'=>(match l' with|.const (.int .i64 0)=>true|_=>false)&&bw c' c&&(match ct P t with
  |some e=>cy P e sz&&iY P e by'&&qi P e sz&&decide (0<sz)&&decide (0<by')
  |none=>false)
 |.makeMap,.makeMap _ none=>true
 |.call f args,.call c=>(match c.callee with
  |.value (.func g)=>f==g&&fZ c.args.toList args&&(match P.funcs[f]? with
   |some fn=>fn.name != "runtime.NumGoroutine" &&fn.body.isSome
   |none=>false)
  |_=>false)
 |.eC x args,.call c=>(match c.callee with
  |.value y=>bw y x&&fZ c.args.toList args
  |_=>false)
 |.lC f a b,.makeFunc (.func g) c d=>f==g&&fZ c.toList a&&fZ d.toList b
 |.jE sz n z ps,.buildSlice t m qs=>n==m&&(match ct P t with
  |some e=>cy P e sz&&decide (0<sz)&&sv sz qs.toList ps&&decide (n*sz≤2^24)&&(match P.info? e with
   |some i=>(match i.zero with
    |some v=>Ig ((List.replicate n v.cells.toList).flatten) z&&v.cells.size==sz
    |none=>false)
   |none=>false)
  |none=>false)
 |.gh sz by' z x y,.call c=>(match KK .append c with
  |some ([u,v],[t,t'])=>bw u x&&bw v y&&(match ct P t with
   |some e=>cy P e sz&&iY P e by'&&decide (0<sz)&&decide (0<by')&&qi P e sz&&nf P e z&&((ct P t').isSome||JC P t')
   |none=>false)
  |_=>false)
 |.lY sz by' z x y,.call c=>(match KK .append c with
  |some ([u,v],[t,t'])=>bw u x&&bw v y&&O1 P t'&&(match ct P t with
   |some e=>cy P e sz&&iY P e by'&&decide (0<sz)&&decide (0<by')&&nf P e z
   |none=>false)
  |_=>false)
 |.vP sz x y,.call c=>(match KK .copy c with
  |some ([u,v],[t,_])=>bw u x&&bw v y&&(match ct P t with
   |some e=>cy P e sz
   |none=>false)
  |_=>false)
 |.pJ z x,.call c=>(match KK .clear c with
  |some (u::_,t::_)=>bw u x&&(match ct P t with
   |some e=>nf P e z
   |none=>false)
  |_=>false)
 |.ug _ _ x,.load t y=>cy P t 1&&lE P t false&&bw y x
 |.K7 _ _ x,.move y=>bw y x
 |.K7 _ _ x,.assign y=>bw y x
 |.kZ x,.load t y=>(ct P t).isSome&&cy P t 1&&lE P t false&&bw y x
 |.lM _ _ x,.load t y=>(ct P t).isSome&&cy P t 1&&lE P t false&&bw y x
 |.OR ne x,.binOp b t u v _=>decide (b=if ne then .neq else .eql)&&bw u x&&(match v with|.const (.slice none 0 0)=>true|_=>false)&&(ct P t).isSome
 |.vI f i args,.call c=>args.any (fun x=>match x with|.t j=>j==i|_=>false)&&(match c.callee with
  |.value (.func g)=>f==g&&fZ c.args.toList args&&(match P.funcs[f]? with
   |some fn=>fn.name != "runtime.NumGoroutine" &&fn.body.isSome
   |none=>false)
  |_=>false)
 |.R8 n ne x y,.binOp b t u v _=>decide (b=if ne then .neq else .eql)&&bw u x&&bw v y&&Ct P t n
 |.R9 ne x,.binOp b t u v _=>decide (b=if ne then .neq else .eql)&&bw u x&&(match v with|.const .nilFunc=>true|_=>false)&&(match P.underlying t with|some (.func _ _ _)=>true|_=>false)
 |.Ol ne x,.binOp b t u v _=>decide (b=if ne then .neq else .eql)&&bw u x&&(match v with|.const .nilIface=>true|_=>false)&&(match P.underlying t with|some (.interface _)=>true|_=>false)
 |.EH x,.convert s t y=>bw y x&&(match P.underlying s with|some (.pointer e)=>(match P.info? e with|some j=>j.size !=0|none=>false)|_=>false)&&(match P.underlying t with|some .unsafePointer=>true|_=>false)
 |.EG u x,.convert s t y=>bw y x&&(match P.underlying s with|some .unsafePointer=>true|_=>false)&&(match P.underlying t with|some (.pointer e)=>e==u&&(P.info? e).isSome|_=>false)
 |.vJ f x,.call c=>(match c.callee with
  |.value (.func g)=>f==g&&fZ c.args.toList [x]
  |_=>false)
 |.Ez n t j u x,.box t' y=>t==t'&&cy P t n&&bw y x
 |.lX u x y,.call c=>(match KK .append c with
  |some ([p,q],[t,t'])=>bw p x&&bw q y&&(match ct P t with
   |some e=>cy P e 1&&iY P e 1&&qi P e 1&&((ct P t').isSome||JC P t')&&e==u
   |none=>false)
  |_=>false)
 |.yl _ n p v,.store t q u=>cy P t n&&bw q p&&bw u v
 |.Ey _ n x,.box t y=>cy P t n&&bw y x
 |.UK f x y,.call c=>(match c.callee with
  |.value (.func g)=>f==g&&fZ c.args.toList [x,y]
  |_=>false)
 |_,_=>false
def OJ(ops:Array Oper):Option (Nat×Bool)→Option (Nat×Bool)→Bool
 |none,none=>true
 |some (j,w),some (t,w')=>w==w'&&((ops[j]?).bind (·.dst))==some t
 |_,_=>false
def ba(n:Nat):Option Nat→Bool
 |none=>true
 |some d=>decide (d<n)
def gB(n:Nat)(ops:Array Oper)(o:Oper)(o':aq):Bool:=o.dst==o'.dst&&ba n o'.dst&&OJ ops o.guard o'.g&&au P o.op o.type o'.op
def cd(n:Nat)(ops:Array Oper):List Oper→List aq→Bool
 |[],[]=>true
 |o::r,o'::r'=>gB P n ops o o'&&cd n ops r r'
 |_,_=>false
def oX:Option IX→List IX
 |some x=>[x]
 |none=>[]
def cE:rh→List IX
 |.iT _ x|.lZ _ x|.qU _ x|.load _ _ x|.nilCheck x|.un _ x|.dN _ x|.fA x|.hE x|.AQ x|.field _ _ _ x|.fieldAddr _ x|.extract x _|.len _ x|.cap x|.xZ _ _ x|.bW _ _ x|.ji x|.re x|.pJ _ x|.K7 _ _ x|.ug _ _ x|.kZ x|.OR _ x|.R9 _ x|.Ol _ x|.EH x|.vJ _ x|.EG _ x|.Ez _ _ _ _ x|.Ey _ _ x|.lN _ x=>[x]
 |.lM _ j x=>[j,x]
 |.pick c x y=>[c,x,y]
 |.aQ _|.gV _|.KD _|.makeMap=>[]
 |.build _ ps|.b5 _ _ _ ps|.jE _ _ _ ps=>ps.map fun p=>p.2.2
 |.store _ x y|.bin _ x y|.QO _ x y|.F4 _ x y|.OS _ x y|.index _ _ _ x y|.dJ x y|.indexAddr _ x y|.jh _ _ x y|.append _ _ x y|.lX _ x y|.gE _ _ _ x y|.lookup _ _ _ x y|.gh _ _ _ x y|.lY _ _ _ x y|.vP _ x y|.UK _ x y|.yl _ _ x y|.R8 _ _ x y=>[x,y]
 |.slice _ x lo hi mx=>x::(oX lo++(oX hi++oX mx))
 |.jq x lo hi=>x::(oX lo++oX hi)
 |.hZ _ xs=>xs
 |.mapUpdate _ x y z=>[x,y,z]
 |.call _ xs|.vI _ _ xs=>xs
 |.eC x xs=>x::xs
 |.lC _ xs ys=>xs++ys
def Aj:List IX→List Nat
 |[]=>[]
 |.t i::r=>i::Aj r
 |.c _::r=>Aj r
def Sa:Option (Nat×Bool)→List Nat
 |some (t,_)=>[t]
 |none=>[]
def ch(o:aq):List Nat:=Sa o.g++Aj (cE o.op)
def ga(d:Option Nat)(l:List Nat):Bool:=match d with
 |some d=>!l.contains d
 |none=>true
def gD(o:aq)(i:Nat):Bool:=match o.op with
 |.iT true (.t j)=>j==i
 |_=>false
def Nb(x y:aq):Bool:=(ch y).all fun i=>!gD x i
def ap(x y:aq):Bool:=(Nb x y&&Nb y x)&&ga x.dst (ch y)&&ga y.dst (ch x)&&(match x.dst,y.dst with
 |some i,some j=>i !=j
 |_,_=>true)
def gA(ops:Array Oper)(j i:Nat):Bool:=match ops[j]? with
 |some o=>o.after.any fun e=>Region.binds .any e&&e.on==i
 |none=>false
def JQ(ops:Array Oper)(q:Nat):Bool:=(List.range q).all fun k=>match ops[k]? with
 |some o=>o.after.all fun e=>!Region.binds .any e||decide (e.on<k)
 |none=>false
def Dx(ops:Array Oper)(q:Nat):Bool:=q==ops.size||(List.range q).all fun k=>(List.range (q+1)).any fun m=>decide (k<m)&&gA ops m k
def Vt(iops:List aq)(i j:Nat):Bool:=match iops[i]?,iops[j]? with
 |some x,some y=>ap x y
 |_,_=>false
def QF(ops:Array Oper)(q:Nat)(iops:List aq):Bool:=(List.range q).all fun j=>(List.range j).all fun i=>gA ops j i||Vt iops i j
def pI(ops:Array Oper):Nat→Nat→Array Bool→Bool
 |0,_,listed=>(Region.ready .any ops listed).isEmpty
 |fuel+1,k,listed=>Region.ready .any ops listed==[k]&&pI ops fuel (k+1) (listed.setIfInBounds k true)
def oy(size q:Nat):Array Bool:=(Array.range size).map fun i=>decide (i<q)
def JP(ops:Array Oper)(q:Nat)(iops:List aq):Bool:=decide (q≤ops.size)&&(JQ ops q&&(Dx ops q&&(QF ops q iops&&pI ops (ops.size -q) q (oy ops.size q))))
def pA(o:aq):Option Nat:=match o with
 |⟨none,.store _ (.t c) _,none⟩=>some c
 |o=>o.dst
def fK(o:aq)(i:Nat):Bool:=match o.op with
 |.iT true (.t j)=>j==i
 |.store _ _ (.t j)=>j==i
 |.append _ _ (.t j) _=>j==i
 |.lM _ (.t j) _=>j==i
 |_=>false
def yL(x y:aq):Bool:=(ch y).all fun i=>!fK x i
def RQ(o:aq):Bool:=(cE o.op).all fun x=>match x with
 |.c (.lp _ _)=>false
 |.c (.when _ _)=>false
 |_=>true
def Qr(x y:aq):Bool:=(RQ x&&RQ y)&&(yL x y&&yL y x)&&ga (pA x) (ch y)&&ga (pA y) (ch x)&&(match pA x,pA y with
 |some i,some j=>i !=j
 |_,_=>true)
def Qs(iops:List aq)(i j:Nat):Bool:=match iops[i]?,iops[j]? with
 |some x,some y=>Qr x y
 |_,_=>false
def Mk(ops:Array Oper)(q:Nat)(iops:List aq):Bool:=(List.range q).all fun j=>(List.range j).all fun i=>gA ops j i||Qs iops i j
def M0:rh→Bool
 |.store _ _ _=>true
 |.aQ _=>true
 |.append _ _ _ _=>true
 |.lM _ _ _=>true
 |_=>false
def Mj(T:List Nat)(iops:List aq)(q:Nat):Bool:=(iops.take q).all fun o=>match o with
 |⟨none,.store _ (.t c) _,none⟩=>T.contains c
 |⟨some d,.aQ _,none⟩=>T.contains d
 |_=>true
def ED(T:List Nat)(ops:Array Oper)(q:Nat)(iops:List aq):Bool:=decide (q≤ops.size)&&(JQ ops q&&(Dx ops q&&(Mk ops q iops&&(Mj T iops q&&pI ops (ops.size -q) q (oy ops.size q)))))
abbrev Item:=Nat×Nat×aq
def Bz(acc:List Nat)(o:Oper):Nat:=o.after.toList.foldl (fun s e=>bif Region.binds .any e then s |||(1<<<e.on)|||acc.getD e.on 0 else s) 0
def D0:List Oper→List Nat→List Nat
 |[],acc=>acc
 |o::r,acc=>D0 r (acc++[Bz acc o])
def RJ(y x:aq):Bool:=yL y x&&ga (pA y) (ch x)&&ga x.dst (ch y)&&(match pA y,x.dst with
 |some i,some j=>i !=j
 |_,_=>true)
def GX:aq→aq→Bool
 |⟨_,.load _ _ _,none⟩,⟨_,.gE _ _ _ _ _,_⟩=>true
 |_,_=>false
def QU(k k':Nat)(x y:aq):Bool:=match k,k' with
 |0,0|0,1|1,0|1,1=>Qr x y
 |1,2=>RJ x y
 |0,2=>GX x y&&RJ x y
 |_,_=>false
def wQ(ops:Array Oper)(ms:List Nat)(x y:Item):Bool:=!gA ops x.2.1 y.2.1&&(x.2.1 !=y.2.1&&((ms.getD y.2.1 0).testBit x.2.1||
 QU x.1 y.1 x.2.2 y.2.2))
def Fu(ops:Array Oper)(ms:List Nat):List Item→Bool
 |[]=>true
 |x::r=>r.all (wQ ops ms x)&&Fu ops ms r
def Br(T:List Nat)(n:Nat)(ops:Array Oper)(x:Item):Bool:=(match ops[x.2.1]? with
 |some o=>gB P n ops o x.2.2&&o.after.all fun e=>!Region.binds .any e||(decide (e.on<ops.size)&&e.on !=x.2.1)
 |none=>false)&&(match x.2.2 with
 |⟨none,.store _ (.t c) _,none⟩=>decide (2≤x.1)||T.contains c
 |⟨some d,.aQ _,none⟩=>T.contains d
 |_=>true)
def RT(T:List Nat)(n:Nat)(ops:Array Oper)(l:List Item):Bool:=(l.length==ops.size&&(List.range ops.size).all fun k=>l.any fun x=>x.2.1==k)&&(l.all (Br P T n ops)&&Fu ops (D0 ops.toList []) l)
def JR(ops:Array Oper)(deps:List (List Bool)):Bool:=deps.length==ops.size&&(List.range ops.size).all fun j=>
 ((deps.getD j []).length==ops.size&&(List.range ops.size).all fun i=>!((deps.getD j []).getD i false)||gA ops j i)&&(match ops[j]? with
 |some o=>o.after.all fun e=>!Region.binds .any e||decide (e.on<j)
 |none=>false)
def yk:Code→Nat→Option (List Code×Code)
 |.seq (.label m) r,l=>if m==l then some ([],r)else none
 |.seq s c,l=>if(findLabel s l).isNone then(yk c l).map fun p=>(s::p.1,p.2)else none
 |_,_=>none
def uW:IC→Bool
 |.skip=>true
 |_=>false
def j7(n:Nat):Code→IC→Bool
 |.skip,.skip=>true
 |.region _ ops draw,.cU q iops _=>cd P n ops ops.toList iops&&(match q with
  |none=>!draw
  |some q=>!draw||JP ops q iops)
 |.region _ ops draw,.FJ T q iops _=>cd P n ops ops.toList iops&&(!draw||ED T ops q iops)
 |.region _ ops draw,.FI T l _=>draw&&RT P T n ops l
 |.region _ ops draw,.Lz deps iops _=>draw&&(cd P n ops ops.toList iops&&JR ops deps)
 |.seq a b,.seq a' b'=>j7 n a a'&&j7 n b b'
 |.seq a b,.join _ a' b'=>j7 n a a'&&j7 n b b'
 |.cond c a b,.cond c' a' b'=>bw c c'&&j7 n a a'&&j7 n b b'
 |.block i b,.block j b'=>i==j&&j7 n b b'
 |.loop b,.loop _ b'=>j7 n b b'
 |.exit i,.exit j=>i==j
 |.scope c,.vt l _ a1 a2 a3 r'=>match yk c l with
  |some ([],r)=>uW a1&&(uW a2&&(uW a3&&j7 n r r'))
  |some ([s1],r)=>j7 n s1 a1&&(uW a2&&(uW a3&&j7 n r r'))
  |some ([s1,s2],r)=>j7 n s1 a1&&(j7 n s2 a2&&(uW a3&&j7 n r r'))
  |some ([s1,s2,s3],r)=>j7 n s1 a1&&(j7 n s2 a2&&(j7 n s3 a3&&j7 n r r'))
  |_=>false
 |.scope b,.scope b'=>j7 n b b'
 |.label l,.label l'=>l==l'
 |.goto l,.goto l'=>l==l'
 |.ret,.ret=>true
 |_,.dead=>true
 |_,_=>false
end
end Go.AB
end
section
namespace Go.AB
open Go
theorem ru{v:Value}{a:AV}(h:cR v a=true)(w:World)(R:Nat→Nat):VR w R a v:=by
 unfold cR at h
 split at h
 ·obtain rfl:=beq_iff_eq.1 h;exact .bool _
 ·rw[Bool.and_eq_true]at h;obtain⟨h1,h2⟩:=h;obtain rfl:=of_decide_eq_true h1;obtain rfl:=beq_iff_eq.1 h2;exact .int _ _
 ·obtain rfl:=beq_iff_eq.1 h
  rename_i s
  have:∀b:ByteArray,b=⟨b.data.toList.toArray⟩:=fun b=>by cases b;simp
  conv=>rhs;rw[this s]
  exact .str _
 ·exact .dG
 ·exact .slnil _ _
 ·exact .Ex _ _
 ·exact .bb _ _ _ _ (.slnil _ _) (fun _=>rfl)
 ·exact .sq
 ·exact .nj
 ·exact .jX
 ·cases h
theorem Mh{v:Value}{a:AV}(h:cR v a=true):c9 a=true:=by
 unfold cR at h
 split at h<;>first|rfl|cases h
theorem Ac{vs:List Value}{as:List AV}(h:Ig vs as=true):vs.length=as.length∧∀(j:Nat)(c:AV)(v:Value),as[j]? =some c→vs[j]? =some v→cR v c=true:=by
 induction vs generalizing as with
 |nil=>cases as with
  |nil=>exact⟨rfl,fun j c v hc=>by simp at hc⟩
  |cons=>simp[Ig]at h
 |cons v vs ih=>cases as with
  |nil=>simp[Ig]at h
  |cons a as=>
   simp only[Ig,Bool.and_eq_true]at h
   obtain⟨h1,h2⟩:=ih h.2
   refine⟨by simp[h1],fun j c u hc hu=>?_⟩
   cases j with
   |zero=>simp at hc hu;subst hc;subst hu;exact h.1
   |succ j=>exact h2 j c u (by simpa using hc) (by simpa using hu)
theorem OE{v:Value}{a:AV}(h:cR v a=true):oH a=true:=by
 unfold cR at h
 split at h<;>first|rfl|cases h
theorem AM:∀{vs:List Value}{as:List AV},Ig vs as=true→Fl as
 |[],[],_=>Fl.nil
 |v::vs,a::as,h=>by
  simp only[Ig,Bool.and_eq_true]at h
  intro c hc
  rcases List.mem_cons.1 hc with rfl|hc
  ·exact OE h.1
  ·exact AM h.2 c hc
 |[],_::_,h=>by simp[Ig]at h
 |_::_,[],h=>by simp[Ig]at h
theorem JN{vs:Array Value}{cs:List AV}(h:Ig vs.toList cs=true)(w:World)(R:Nat→Nat):VR w R (.agg cs) (.agg vs):=by
 obtain⟨h1,h2⟩:=Ac h
 exact .agg cs vs (AM h) (by simpa using h1) fun j c v hc hv=>ru (h2 j c v hc (by simpa using hv)) w R
theorem AL{v:Value}{a:AV}(h:cR v a=true)(G:Gh)(w:World)(o:cY):df G w o a v:=by
 unfold cR at h
 split at h<;>first|(cases h;done)|trivial|skip
 ·rename_i own sz
  cases own with
  |false=>trivial
  |true=>intro base m cap hv hc;injection hv with _ h2 h3;omega
 ·intro base m cap hv hc;injection hv with _ h2 h3;omega
section
variable{P:Program}{G:Gh}{n:Nat}{D:List Deferred}{σ:St}{a:Act}{w:World}
def BR(G:Gh)(w:World)(σ:St)(a:Act)(x:IX):AV→Value→Prop
 |.loc cs,v=>∃i b c t,x=.t i∧look σ.e i=.loc cs∧a.tmps[i]? =some v∧v=.pointer (some ⟨b,0,none⟩)∧G.O b=.loc i∧G.R b=0∧w.heap[b]? =some (.cells c t (0,0))∧db G w (.cell b) cs c∧Fl cs
 |.lp d off,v=>∃b,v=.pointer (some ⟨b,off,none⟩)∧∀cs,look σ.e d=.loc cs→a.tmps[d]? =some (.pointer (some ⟨b,0,none⟩))
 |.when _ _,_=>True
 |.us _ _ _,_=>True
 |av,v=>VR w G.R av v
def XR(G:Gh)(w:World)(σ:St)(a:Act)(x:IX):AV→Value→Prop
 |.when b av,v=>b=true→inner av=true→BR G w σ a x av v
 |av,v=>BR G w σ a x av v
theorem BR.vr{x:IX}{av:AV}{v:Value}(h:c9 av=true)(hv:BR G w σ a x av v):VR w G.R av v:=by cases av<;>simp_all [c9,BR]
theorem XR.br{x:IX}{av:AV}{v:Value}(hv:XR G w σ a x av v):BR G w σ a x (vy true av) v:=by
 cases av<;>try exact hv
 rename_i b av
 cases b with
 |false=>
  have:vy true (.when false av)=.undef:=by simp[vy]
  rw[this];exact VR.undef v
 |true=>
  cases hi:inner av with
  |false=>
   have:vy true (.when true av)=.undef:=by simp[vy,hi]
   rw[this];exact VR.undef v
  |true=>
   have:vy true (.when true av)=av:=by simp[vy,hi]
   rw[this];exact hv rfl hi
theorem XR.Pu{i:Nat}(hi:a.tmps[i]? =some (a.eval (.tmp i))){av:AV}(hl:look σ.e i=av)(h:da G w σ.e a.tmps i av (a.eval (.tmp i))):XR G w σ a (.t i) av (a.eval (.tmp i)):=by
 have base:∀av:AV,(∀cs,av=.loc cs→look σ.e i=.loc cs)→da G w σ.e a.tmps i av (a.eval (.tmp i))→BR G w σ a (.t i) av (a.eval (.tmp i)):=by
  intro av hl h
  cases av with
  |loc cs=>
   obtain⟨b,c,t,h1,h2,h3,h4,h5⟩:=h
   exact⟨i,b,c,t,rfl,hl cs rfl,hi,h1,h2,h3,h4,h5⟩
  |lp d off=>exact h
  |gu vs=>
   obtain⟨ys,h1,h2⟩:=h
   rw[h1]
   exact VR.gu vs ys h2.1 fun j c u hc hu=>(h2.2 j c u hc hu).1
  | «when» b av=>trivial
  |us sz m cs=>trivial
  |_=>exact h.1
 cases av with
 | «when» b av=>exact fun hb hin=>base av (fun cs hcs=>by subst hcs;cases hin) (h.1 hb)
 |_=>exact base _ (fun cs hcs=>by rw[hl,hcs]) h
theorem gQ{i:Nat}(hi:i<a.tmps.size):a.tmps[i]? =some (a.eval (.tmp i)):=by simp[Act.eval,Array.getD_eq_getD_getElem?,hi]
theorem XR.aJ(h:Inv G n D σ a w){o:Operand}{x:IX}(hx:bw o x=true):XR G w σ a x (σ.x x) (a.eval o):=by
 unfold bw at hx
 split at hx
 ·rename_i t i
  obtain rfl:=beq_iff_eq.1 hx
  rcases Nat.lt_or_ge t n with ht|ht
  ·have hs:t<a.tmps.size:=by rw[h.size];exact ht
   exact XR.Pu (gQ hs) rfl (h.ch t _ (gQ hs))
  ·have:σ.x (.t t)=.undef:=h.CG t ht
   rw[this];exact VR.undef _
 ·exact JN hx w G.R
 ·rename_i v av _
  have hv:=ru hx w G.R
  have hi:=Mh hx
  show XR G w σ a _ av v
  cases av<;>first|exact hv|(simp[c9]at hi)
 ·rename_i f g
  obtain rfl:=beq_iff_eq.1 hx
  exact VR.fn f [] [] #[] #[] rfl (fun j c v hc=>by simp at hc) rfl (fun j c v hc=>by simp at hc)
 ·cases hx
theorem BR.aJ(h:Inv G n D σ a w){o:Operand}{x:IX}(hx:bw o x=true):BR G w σ a x (xg true σ x) (a.eval o):=(XR.aJ h hx).br
def NR(G:Gh)(w:World)(σ:St)(a:Act)(av:AV)(v:Value):Prop:=
 match av with
 |.lp d off=>∃b,v=.pointer (some ⟨b,off,none⟩)∧∀cs,look σ.e d=.loc cs→a.tmps[d]? =some (.pointer (some ⟨b,0,none⟩))
 |av=>c9 av=true∧VR w G.R av v∧view av=av
end
end Go.AB
end
section
namespace Go.AB
open Go
def eN(r:PR)(av:AV):Prop:=r=.c8 av∨∃c,r=.prt c av∧c
theorem eN.c8{a av:AV}(h:eN (.c8 a) av):av=a:=by
 rcases h with h|⟨c,h,_⟩
 ·injection h with h;exact h.symm
 ·cases h
theorem eN.prt{c:Prop}{a av:AV}(h:eN (.prt c a) av):av=a∧c:=by
 rcases h with h|⟨c',h,hc⟩
 ·cases h
 ·injection h with h1 h2;exact⟨h2.symm,h1▸hc⟩
theorem eN.no{av:AV}(h:eN .no av):False:=by rcases h with h|⟨c',h,hc⟩<;>cases h
theorem jI{a:AV}(h:c9 a=true):c9 (view a)=true:=by cases a<;>simp_all [c9,view]
theorem iH(a:AV):view (view a)=view a:=by cases a<;>rfl
section
variable{P:Program}{G:Gh}{n:Nat}{D:List Deferred}{σ:St}{a:Act}{w:World}
theorem NR.view{av:AV}{v:Value}(hi:c9 av=true)(h:VR w G.R av v):NR G w σ a (view av) v:=by
 have:c9 (AB.view av)=true∧VR w G.R (AB.view av) v∧AB.view (AB.view av)=AB.view av:=⟨jI hi,h.view,iH _⟩
 cases av<;>first|exact this|(simp[c9]at hi)
theorem NR.mk{av:AV}{v:Value}(hi:c9 av=true)(h:VR w G.R av v)(hv:AB.view av=av):NR G w σ a av v:=hv▸NR.view hi h
theorem VR.gm{R:Nat→Nat}{b:Bool}{v:Value}(h:VR w R (.bool b) v):v=.bool b:=by cases h;rfl
theorem VR.bO{R:Nat→Nat}{k:IntKind}{m:Int}{v:Value}(h:VR w R (.int k m) v):v=.int k m:=by cases h;rfl
theorem VR.eT{R:Nat→Nat}{s:List UInt8}{v:Value}(h:VR w R (.str s) v):v=.string ⟨s.toArray⟩:=by cases h;rfl
theorem VR.rG{R:Nat→Nat}{v:Value}(h:VR w R .dG v):v=.pointer none:=by cases h;rfl
theorem VR.gi{R:Nat→Nat}{b o:Nat}{v:Value}(h:VR w R (.ref b o) v):v=.pointer (some ⟨b,o,none⟩):=by cases h;rfl
theorem VR.cD{R:Nat→Nat}{b o l c:Nat}{v:Value}(h:VR w R (.arr b o l c) v):v=.slice (some ⟨b,o,none⟩) l c∨(l=0∧c=0∧v=.slice none 0 0):=by
 cases h with
 |arr=>exact .inl rfl
 |Ex=>exact .inr ⟨rfl,rfl,rfl⟩
theorem VR.nr{R:Nat→Nat}{b o l c:Nat}{v:Value}(h:VR w R (.arr b o l c) v)(hc:0<c):v=.slice (some ⟨b,o,none⟩) l c:=by
 rcases h.cD with h|⟨_,h,_⟩
 ·exact h
 ·omega
theorem VR.IM{R:Nat→Nat}{b:Nat}{v:Value}(h:VR w R (.mp b) v):v=.map (some b):=by cases h;rfl
theorem VR.GL{R:Nat→Nat}{v:Value}(h:VR w R .sq v):v=.map none:=by cases h;rfl
theorem VR.l6{R:Nat→Nat}{cs:List AV}{v:Value}(h:VR w R (.agg cs) v):∃vs:Array Value,v=.agg vs∧vs.size=cs.length∧(∀(j:Nat)(c:AV)(u:Value),cs[j]? =some c→vs[j]? =some u→VR w R c u)∧Fl cs:=by cases h with|agg _ vs hf hl hr=>exact⟨vs,rfl,hl,hr,hf⟩
theorem VR.J5{R:Nat→Nat}{cs:List AV}{v:Value}(h:VR w R (.gu cs) v):∃vs:Array Value,v=.tuple vs∧vs.size=cs.length∧∀(j:Nat)(c:AV)(u:Value),cs[j]? =some c→vs[j]? =some u→VR w R c u:=by cases h with|gu _ vs hl hr=>exact⟨vs,rfl,hl,hr⟩
def At(w:World)(R:Nat→Nat)(b off:Nat)(cs:List AV):Prop:=∃u:Nat→Value,(∀(j:Nat)(c:AV),cs[j]? =some c→w.cell? ⟨b,off+j,none⟩=some (u j))∧(∀(j:Nat)(c:AV),cs[j]? =some c→VR w R c (u j))∧Fl cs
theorem VR.IP{R:Nat→Nat}{cs:List AV}{v:Value}(h:VR w R (.sp cs) v):∃b off,v=.pointer (some ⟨b,off,none⟩)∧off+cs.length≤R b∧At w R b off cs:=by cases h with|sp _ b off u hf hR hc hr=>exact⟨b,off,rfl,hR,u,hc,hr,hf⟩
def vB(own:Bool)(v:Value):Prop:=v=.slice none 0 0∨(own=false∧∃a cap,v=.slice (some a) 0 cap)
theorem vB.own{v:Value}(h:vB true v):v=.slice none 0 0:=h.elim id fun h=>by cases h.1
theorem vB.ex{own:Bool}{v:Value}(h:vB own v):∃base cap,v=.slice base 0 cap:=by
 rcases h with h|⟨_,a,cap,h⟩
 ·exact⟨_,_,h⟩
 ·exact⟨_,_,h⟩
theorem VR.fR{R:Nat→Nat}{own:Bool}{sz m:Nat}{cs:List AV}{v:Value}(h:VR w R (.sl own sz m cs) v):
 (vB own v∧m=0∧cs=[])∨∃b off cap,v=.slice (some ⟨b,off,none⟩) m cap∧cs.length=m*sz∧off+cs.length≤R b∧m≤cap∧At w R b off cs:=by
 cases h with
 |slnil=>exact .inl ⟨.inl rfl,rfl,rfl⟩
 |sle=>exact .inl ⟨.inr ⟨rfl,_,_,rfl⟩,rfl,rfl⟩
 |sl _ _ _ _ b off cap u hf hl hR hcap hc hr=>exact .inr ⟨b,off,cap,rfl,hl,hR,hcap,u,hc,hr,hf⟩
theorem VR.IL{R:Nat→Nat}{f:Nat}{x y:List AV}{v:Value}(h:VR w R (.fn f x y) v):∃vf vc:Array Value,v=.func (.func f) vf vc∧vf.size=x.length∧(∀(j:Nat)(c:AV)(u:Value),x[j]? =some c→vf[j]? =some u→VR w R c u)∧
 vc.size=y.length∧(∀(j:Nat)(c:AV)(u:Value),y[j]? =some c→vc[j]? =some u→VR w R c u):=by
 cases h with|fn _ _ _ vf vc h1 h2 h3 h4=>exact⟨vf,vc,rfl,h1,h2,h3,h4⟩
def runs(P:Program)(a:Act)(op:Op)(ty:TypeId)(w:World)(v:Value):Prop:=∀(d:Option Tmp)(pos:String)(after:Array Edge)(g:Option (Nat×Bool)),(execOp a.eval ⟨d,op,ty,pos,after,g⟩).run P w=.ok (.value v) w
theorem Tf(h:Inv G n D σ a w){op:Op}{ty:TypeId}{x:IX}(hc:au P op ty (.iT false x)=true){av:AV}(hv:eN (pv (.iT false x) (xg true σ) σ) av):
 ∃v,runs P a op ty w v∧NR G w σ a av v:=by
 have key:∀y,bw y x=true→NR G w σ a av (a.eval y):=fun y hy=>by
  have hb:=BR.aJ h hy
  have hv':eN (Lj (xg true σ x)) av:=hv
  unfold Lj at hv'
  cases hi:c9 (xg true σ x)with
  |false=>rw[hi]at hv';exact hv'.no.elim
  |true=>
   rw[hi]at hv'
   rw[hv'.c8]
   exact NR.view hi (hb.vr hi)
 cases op<;>first|(simp[au]at hc;done)|skip
 ·rename_i y
  exact⟨a.eval y,fun _ _ _ _=>rfl,key y hc⟩
 ·rename_i y
  exact⟨a.eval y,fun _ _ _ _=>rfl,key y hc⟩
theorem VV{g:Bool}{x:IX}{v:Value}{p:Bool}(hg:g=true)(hx:XR G w σ a x (σ.x x) v)(h:MJ (σ.x x)=some (g,p)):v=.bool p:=by
 subst hg
 generalize σ.x x=av at*
 unfold MJ at h
 split at h
 ·injection h with h;injection h with _ h;subst h;cases hx;rfl
 ·injection h with h;injection h with h1 h2;subst h1;subst h2
  have:=hx rfl rfl
  cases this;rfl
 ·cases h
theorem MK{g:Bool}{x:IX}{v:Value}{p:Bool}(hg:g=true)(hx:XR G w σ a x (σ.x x) v)(h:Sg (σ.x x)=some (g,p)):v=.bool p:=by
 refine VV hg hx ?_
 unfold Sg at h
 split at h
 ·injection h with h;injection h with h1 _;rw[hg]at h1;cases h1
 ·exact h
theorem PM(h:Inv G n D σ a w){op:Op}{ty:TypeId}{c x y:IX}(hc:au P op ty (.pick c x y)=true){av:AV}(hv:eN (pv (.pick c x y) (xg true σ) σ) av):
 ∃v,runs P a op ty w v∧NR G w σ a av v:=by
 cases op<;>first|(simp[au]at hc;done)|skip
 rename_i c' x' y'
 simp only[au,Bool.and_eq_true]at hc
 have hbc:=BR.aJ h hc.1.1
 have hbx:=XR.aJ h hc.1.2
 have hby:=XR.aJ h hc.2
 have hv':eN (Ea (σ.x x) (σ.x y) (xg true σ c)) av:=hv
 generalize xg true σ c=cv at hbc hv'
 unfold Ea at hv'
 split at hv'
 ·rename_i b
  have hcv:a.eval c'=.bool b:=VR.gm hbc
  unfold Np at hv'
  split at hv'
  ·rename_i g1 p g2 q hp hq
   rcases hv' with hv'|⟨c1,hv',hc1⟩
   ·cases hv'
   injection hv' with h1 h2
   subst h1 h2
   refine⟨.bool (bif b then p else q),fun _ _ _ _=>?_,NR.mk rfl (.bool _) rfl⟩
   cases b with
   |true=>
    have:=MK (hc1.1 rfl) hbx hp
    simp[execOp,hcv,asBool,this]
   |false=>
    have:=MK (hc1.2 rfl) hby hq
    simp[execOp,hcv,asBool,this]
  ·exact hv'.no.elim
 ·exact hv'.no.elim
theorem WN(h:Inv G n D σ a w){op:Op}{ty:TypeId}{uo:UnOp}{x:IX}(hc:au P op ty (.un uo x)=true){av:AV}(hv:eN (pv (.un uo x) (xg true σ) σ) av):
 ∃v,runs P a op ty w v∧NR G w σ a av v:=by
 cases op<;>first|(simp[au]at hc;done)|skip
 rename_i u t y
 simp only[au,Bool.and_eq_true,decide_eq_true_eq]at hc
 obtain⟨rfl,hy⟩:=hc
 have hb:=BR.aJ h hy
 have hv':eN (RC uo (xg true σ x)) av:=hv
 generalize xg true σ x=xv at hb hv'
 unfold RC at hv'
 split at hv'
 ·rename_i b
  have e:a.eval y=.bool b:=VR.gm hb
  rw[hv'.c8]
  exact⟨.bool (!b),fun _ _ _ _=>by simp[execOp,e,Op.unary],NR.mk rfl (.bool _) rfl⟩
 ·rename_i k m
  have e:a.eval y=.int k m:=VR.bO hb
  rw[hv'.c8]
  exact⟨.int k (k.wrap (0 -m)),fun _ _ _ _=>by simp[execOp,e,Op.unary,Op.intArith],NR.mk rfl (.int _ _) rfl⟩
 ·exact hv'.no.elim
theorem Lp(h:Inv G n D σ a w){op:Op}{ty:TypeId}{k:IntKind}{x:IX}(hc:au P op ty (.dN k x)=true){av:AV}(hv:eN (pv (.dN k x) (xg true σ) σ) av):
 ∃v,runs P a op ty w v∧NR G w σ a av v:=by
 cases op<;>first|(simp[au]at hc;done)|skip
 rename_i s t y
 simp only[au,Bool.and_eq_true]at hc
 obtain⟨hy,hc2⟩:=hc
 split at hc2
 ·rename_i k1 k2 hs ht
  have:=of_decide_eq_true hc2
  subst this
  have hb:=BR.aJ h hy
  have hv':eN (tf k (xg true σ x)) av:=hv
  generalize xg true σ x=xv at hb hv'
  unfold tf at hv'
  split at hv'
  ·rename_i k' m
   have e:a.eval y=.int k' m:=VR.bO hb
   rw[hv'.c8]
   exact⟨.int k (k.wrap m),fun _ _ _ _=>by simp[execOp,e,convert,underlying,hs,ht,Conv.intToInt],NR.mk rfl (.int _ _) rfl⟩
  ·exact hv'.no.elim
 ·cases hc2
theorem Nu(h:Inv G n D σ a w){op:Op}{ty:TypeId}{x:IX}(hc:au P op ty (.AQ x)=true){av:AV}(hv:eN (pv (.AQ x) (xg true σ) σ) av):
 ∃v,runs P a op ty w v∧NR G w σ a av v:=by
 cases op<;>first|(simp[au]at hc;done)|skip
 rename_i s t y
 simp only[au,Bool.and_eq_true]at hc
 obtain⟨hy,hc2⟩:=hc
 split at hc2
 ·rename_i hs ht
  have hb:=BR.aJ h hy
  have hv':eN (xy (xg true σ x)) av:=hv
  generalize xg true σ x=xv at hb hv'
  unfold xy at hv'
  split at hv'
  ·rename_i m
   have e:a.eval y=.string ⟨m.toArray⟩:=VR.eT hb
   rw[hv'.c8]
   exact⟨.string ⟨m.toArray⟩,fun _ _ _ _=>by simp[execOp,e,convert,underlying,hs,ht],NR.mk rfl (.str _) rfl⟩
  ·exact hv'.no.elim
 ·cases hc2
theorem Hs(h:Inv G n D σ a w){op:Op}{ty:TypeId}{x:IX}(hc:au P op ty (.nilCheck x)=true){av:AV}(hv:eN (pv (.nilCheck x) (xg true σ) σ) av):
 ∃v,runs P a op ty w v∧NR G w σ a av v:=by
 cases op<;>first|(simp[au]at hc;done)|skip
 rename_i y
 have hb:=BR.aJ h hc
 have hv':eN (ku (xg true σ x)) av:=hv
 generalize xg true σ x=xv at hb hv'
 unfold ku at hv'
 split at hv'
 ·rename_i b o
  have e:a.eval y=.pointer (some ⟨b,o,none⟩):=VR.gi hb
  rw[hv'.c8]
  exact⟨_,fun _ _ _ _=>by simp[execOp,e],NR.mk rfl (.ref _ _) rfl⟩
 ·exact hv'.no.elim
theorem S5(h:Inv G n D σ a w){op:Op}{ty:TypeId}{bo:BinOp}{x y:IX}(hc:au P op ty (.bin bo x y)=true){av:AV}(hv:eN (pv (.bin bo x y) (xg true σ) σ) av):
 ∃v,runs P a op ty w v∧NR G w σ a av v:=by
 cases op<;>first|(simp[au]at hc;done)|skip
 rename_i b t u v yt
 simp only[au,Bool.and_eq_true,decide_eq_true_eq]at hc
 obtain⟨⟨rfl,hx⟩,hy⟩:=hc
 have hbx:=BR.aJ h hx
 have hby:=BR.aJ h hy
 have hv':eN (H8 bo (xg true σ x) (xg true σ y)) av:=hv
 generalize xg true σ x=xv at hbx hv'
 generalize xg true σ y=yv at hby hv'
 unfold H8 at hv'
 split at hv'
 ·rename_i k p k' q
  have e1:a.eval u=.int k p:=VR.bO hbx
  have e2:a.eval v=.int k' q:=VR.bO hby
  have fin:∀(V:AV)(r:Value),c9 V=true→AB.view V=V→VR w G.R V r→eN (kk k k' (.c8 V)) av→(k=k'→runs P a (.binOp bo t u v yt) ty w r)→∃v',runs P a (.binOp bo t u v yt) ty w v'∧NR G w σ a av v':=by
   intro V r h1 h2 h3 h4 h5
   unfold kk Kb at h4
   by_cases hk:k=k'
   ·rw[decide_eq_true hk]at h4
    rw[h4.c8]
    exact⟨r,h5 hk,NR.mk h1 h3 h2⟩
   ·rw[decide_eq_false hk]at h4;exact h4.no.elim
  cases bo
  case shl=>
   obtain⟨rfl,h0⟩:=eN.prt hv'
   exact⟨_,fun _ _ _ _=>by simp[execOp,e1,e2,eqGuard,binOp,Op.shift,Int.not_lt.2 h0,lV],NR.mk rfl (.int _ _) rfl⟩
  case shr=>
   obtain⟨rfl,h0⟩:=eN.prt hv'
   exact⟨_,fun _ _ _ _=>by simp[execOp,e1,e2,eqGuard,binOp,Op.shift,Int.not_lt.2 h0],NR.mk rfl (.int _ _) rfl⟩
  case quo=>
   have hv'':eN (kk k k' (.prt (q≠0) (.int k (lV k (p.tdiv q))))) av:=hv'
   unfold kk Kb at hv''
   by_cases hk:k=k'
   ·rw[decide_eq_true hk]at hv''
    obtain⟨rfl,h0⟩:=eN.prt hv''
    subst hk
    exact⟨_,fun _ _ _ _=>by simp[execOp,e1,e2,eqGuard,binOp,Op.intDiv,h0,lV],NR.mk rfl (.int _ _) rfl⟩
   ·rw[decide_eq_false hk]at hv'';exact hv''.no.elim
  case rem=>
   have hv'':eN (kk k k' (.prt (q≠0) (.int k (p.tmod q)))) av:=hv'
   unfold kk Kb at hv''
   by_cases hk:k=k'
   ·rw[decide_eq_true hk]at hv''
    obtain⟨rfl,h0⟩:=eN.prt hv''
    subst hk
    exact⟨_,fun _ _ _ _=>by simp[execOp,e1,e2,eqGuard,binOp,Op.intDiv,h0],NR.mk rfl (.int _ _) rfl⟩
   ·rw[decide_eq_false hk]at hv'';exact hv''.no.elim
  case add=>exact fin _ _ rfl rfl (.int _ _) hv' fun hk _ _ _ _=>by subst hk;simp[execOp,e1,e2,eqGuard,binOp,Op.intArith,lV]
  case sub=>exact fin _ _ rfl rfl (.int _ _) hv' fun hk _ _ _ _=>by subst hk;simp[execOp,e1,e2,eqGuard,binOp,Op.intArith,lV]
  case mul=>exact fin _ _ rfl rfl (.int _ _) hv' fun hk _ _ _ _=>by subst hk;simp[execOp,e1,e2,eqGuard,binOp,Op.intArith,lV]
  case and=>exact fin _ _ rfl rfl (.int _ _) hv' fun hk _ _ _ _=>by subst hk;simp[execOp,e1,e2,eqGuard,binOp,Op.intBits]
  case or=>exact fin _ _ rfl rfl (.int _ _) hv' fun hk _ _ _ _=>by subst hk;simp[execOp,e1,e2,eqGuard,binOp,Op.intBits]
  case xor=>exact fin _ _ rfl rfl (.int _ _) hv' fun hk _ _ _ _=>by subst hk;simp[execOp,e1,e2,eqGuard,binOp,Op.intBits]
  case andNot=>exact fin _ _ rfl rfl (.int _ _) hv' fun hk _ _ _ _=>by subst hk;simp[execOp,e1,e2,eqGuard,binOp,Op.intBits]
  case eql=>exact fin _ _ rfl rfl (.bool _) hv' fun hk _ _ _ _=>by subst hk;simp[execOp,e1,e2,eqGuard,binOp,Op.intCmp]
  case neq=>exact fin _ _ rfl rfl (.bool _) hv' fun hk _ _ _ _=>by subst hk;simp[execOp,e1,e2,eqGuard,binOp,Op.intCmp]
  case lss=>exact fin _ _ rfl rfl (.bool _) hv' fun hk _ _ _ _=>by subst hk;simp[execOp,e1,e2,eqGuard,binOp,Op.intCmp]
  case leq=>exact fin _ _ rfl rfl (.bool _) hv' fun hk _ _ _ _=>by subst hk;simp[execOp,e1,e2,eqGuard,binOp,Op.intCmp]
  case gtr=>exact fin _ _ rfl rfl (.bool _) hv' fun hk _ _ _ _=>by subst hk;simp[execOp,e1,e2,eqGuard,binOp,Op.intCmp]
  case geq=>exact fin _ _ rfl rfl (.bool _) hv' fun hk _ _ _ _=>by subst hk;simp[execOp,e1,e2,eqGuard,binOp,Op.intCmp]
 ·rename_i p q
  have e1:a.eval u=.string ⟨p.toArray⟩:=VR.eT hbx
  have e2:a.eval v=.string ⟨q.toArray⟩:=VR.eT hby
  have tl:∀l:List UInt8,(ByteArray.mk l.toArray).toList=l:=fun l=>by rw[ByteArray.toList_eq]
  cases bo<;>first|exact(eN.no hv').elim|skip
  case add=>
   obtain⟨rfl,h0⟩:=eN.prt hv'
   have h0':p.length+q.length≤9223372036854775807:=by
    have:((p.length+q.length:Nat):Int)≤9223372036854775807:=h0
    omega
   refine⟨.string ⟨(p++q).toArray⟩,fun _ _ _ _=>?_,NR.mk rfl (.str _) rfl⟩
   have hr:=run_string_add_sum (P:=P) w ⟨p.toArray⟩ ⟨q.toArray⟩ (by simpa[ByteArray.size]using h0')
   rw[ByteArray.mk_append_mk]at hr
   simp[execOp,e1,e2,eqGuard,binOp,hr]
  all_goals
   rw[eN.c8 hv']
   exact⟨.bool _,fun _ _ _ _=>by simp[execOp,e1,e2,eqGuard,binOp,Op.stringOp,tl],NR.mk rfl (.bool _) rfl⟩
 ·exact hv'.no.elim
theorem S9(h:Inv G n D σ a w){op:Op}{ty:TypeId}{ne:Bool}{x y:IX}(hc:au P op ty (.QO ne x y)=true){av:AV}(hv:eN (pv (.QO ne x y) (xg true σ) σ) av):
 ∃v,runs P a op ty w v∧NR G w σ a av v:=by
 cases op<;>first|(simp[au]at hc;done)|skip
 rename_i b t u v yt
 simp only[au,Bool.and_eq_true,decide_eq_true_eq]at hc
 obtain⟨⟨⟨rfl,hx⟩,hy⟩,ht⟩:=hc
 have hbx:=BR.aJ h hx
 have hby:=BR.aJ h hy
 have hv':eN (IB ne (xg true σ x) (xg true σ y)) av:=hv
 generalize xg true σ x=xv at hbx hv'
 generalize xg true σ y=yv at hby hv'
 have htb:P.underlying t=some .bool:=by
  unfold Qw at ht
  split at ht
  ·assumption
  ·cases ht
 unfold IB at hv'
 split at hv'
 ·rename_i p q
  have e1:a.eval u=.bool p:=VR.gm hbx
  have e2:a.eval v=.bool q:=VR.gm hby
  rw[hv'.c8]
  refine⟨.bool ((p==q)!=ne),fun _ _ _ _=>?_,NR.mk rfl (.bool _) rfl⟩
  cases ne<;>simp[execOp,e1,e2,eqGuard,binOp,run_equal_bool w t p q htb]
 ·exact hv'.no.elim
theorem ye{w:World}(d:Nat){t e:TypeId}(hte:P.underlying t=some (.pointer e))(p q:Option Addr)(hpq:p=none∨q=none):
 (Op.equalIn (d+1) t (.pointer p) (.pointer q)).run P w=.ok (p.isNone&&q.isNone) w:=by
 rcases hpq with rfl|rfl
 ·simp[Op.equalIn,run_underlying hte]
 ·cases p<;>simp[Op.equalIn,run_underlying hte]
theorem nV{w:World}(d:Nat){t e:TypeId}(hte:P.underlying t=some (.slice e))(b:Addr)(l c:Nat):
 (Op.equalIn (d+1) t (.slice (some b) l c) (.slice none 0 0)).run P w=.ok false w:=by
 simp[Op.equalIn,run_underlying hte]
theorem Tc(h:Inv G n D σ a w){op:Op}{ty:TypeId}{ne:Bool}{x y:IX}(hc:au P op ty (.F4 ne x y)=true){av:AV}(hv:eN (pv (.F4 ne x y) (xg true σ) σ) av):
 ∃v,runs P a op ty w v∧NR G w σ a av v:=by
 cases op<;>first|(simp[au]at hc;done)|skip
 rename_i b t u v yt
 simp only[au,Bool.and_eq_true,decide_eq_true_eq]at hc
 obtain⟨⟨⟨rfl,hx⟩,hy⟩,ht⟩:=hc
 have hbx:=BR.aJ h hx
 have hby:=BR.aJ h hy
 have hv':eN (CJ ne (xg true σ x) (xg true σ y)) av:=hv
 generalize xg true σ x=xv at hbx hv'
 generalize xg true σ y=yv at hby hv'
 have htb:∃e j,P.underlying t=some (.pointer e)∧P.info? e=some j:=by
  unfold WJ at ht
  split at ht
  ·rename_i e he
   obtain⟨j,hj⟩:=Option.isSome_iff_exists.1 ht
   exact⟨e,j,he,hj⟩
  ·cases ht
 obtain⟨e,je,hte,hje⟩:=htb
 have eqn:∀p q:Option Addr,(p=none∨q=none)→(Op.equal t (.pointer p) (.pointer q)).run P w=.ok (p.isNone&&q.isNone) w:=by exact fun p q hpq=>ye 9999 hte p q hpq
 have fin:∀p q:Option Addr,a.eval u=.pointer p→a.eval v=.pointer q→(p=none∨q=none)→runs P a (.binOp (if ne=true then .neq else .eql) t u v yt) ty w (.bool ((p.isNone&&q.isNone)!=ne)):=by
  intro p q e1 e2 hpq _ _ _ _
  cases ne<;>simp[execOp,e1,e2,eqGuard,binOp,eqn p q hpq]
 unfold CJ at hv'
 split at hv'
 ·rw[hv'.c8]
  refine⟨_,fin _ _ (VR.rG hbx) (VR.rG hby) (.inl rfl),NR.mk rfl ?_ rfl⟩
  cases ne<;>exact .bool _
 ·rw[hv'.c8]
  refine⟨_,fin _ _ (VR.gi hbx) (VR.rG hby) (.inr rfl),NR.mk rfl ?_ rfl⟩
  cases ne<;>exact .bool _
 ·rw[hv'.c8]
  refine⟨_,fin _ _ (VR.rG hbx) (VR.gi hby) (.inl rfl),NR.mk rfl ?_ rfl⟩
  cases ne<;>exact .bool _
 ·rename_i b o b' o'
  by_cases hbo:b=b'∧o=o'
  ·obtain⟨rfl,rfl⟩:=hbo
   simp only[beq_self_eq_true,Bool.and_self,cond_true]at hv'
   rw[hv'.c8]
   have e1:=VR.gi hbx
   have e2:=VR.gi hby
   have hq:(Op.equal t (.pointer (some ⟨b,o,none⟩)) (.pointer (some ⟨b,o,none⟩))).run P w=.ok true w:=by
    have hd:∀d:Nat,(Op.equalIn (d+1) t (.pointer (some ⟨b,o,none⟩)) (.pointer (some ⟨b,o,none⟩))).run P w=.ok true w:=fun d=>by simp[Op.equalIn,run_underlying hte,sizeOf,typeInfo,hje,run_sameAddr_same]
    exact hd 9999
   refine⟨.bool (!ne),fun _ _ _ _=>?_,NR.mk rfl (.bool _) rfl⟩
   cases ne<;>simp[execOp,e1,e2,eqGuard,binOp,hq]
  ·have:(b==b'&&o==o')=false:=by
    cases hh:(b==b'&&o==o')with
    |false=>rfl
    |true=>simp at hh;exact absurd hh hbo
   rw[this]at hv'
   exact hv'.no.elim
 ·exact hv'.no.elim
theorem Td(h:Inv G n D σ a w){op:Op}{ty:TypeId}{ne:Bool}{x y:IX}(hc:au P op ty (.OS ne x y)=true){av:AV}(hv:eN (pv (.OS ne x y) (xg true σ) σ) av):
 ∃v,runs P a op ty w v∧NR G w σ a av v:=by
 cases op<;>first|(simp[au]at hc;done)|skip
 rename_i b t u v yt
 simp only[au,Bool.and_eq_true,decide_eq_true_eq]at hc
 obtain⟨⟨⟨rfl,hx⟩,hy⟩,ht⟩:=hc
 have hbx:=BR.aJ h hx
 obtain⟨e,hte⟩:∃e,P.underlying t=some (.slice e):=by
  unfold ct at ht
  split at ht
  ·exact⟨_,by assumption⟩
  ·cases ht
 have fin:∀(d:Addr)(l c:Nat),a.eval u=.slice (some d) l c→a.eval v=.slice none 0 0→runs P a (.binOp (if ne=true then .neq else .eql) t u v yt) ty w (.bool ne):=by
  intro d l c e1 e2 _ _ _ _
  have:(Op.equal t (.slice (some d) l c) (.slice none 0 0)).run P w=.ok false w:=nV 9999 hte d l c
  cases ne<;>simp[execOp,e1,e2,eqGuard,binOp,this]
 cases y with
 |t i=>exact(eN.no hv).elim
 |c yv=>
  by_cases hyv:∃z,yv=.sl true z 0 []
  ·obtain⟨z,rfl⟩:=hyv
   have e2:a.eval v=.slice none 0 0:=by
    unfold bw at hy
    cases v<;>simp at hy
    rename_i c
    show c=_
    unfold cR at hy
    split at hy<;>simp_all
   have hv':eN (MD ne (xg true σ x) (.sl true z 0 [])) av:=hv
   generalize xg true σ x=xv at hbx hv'
   unfold MD at hv'
   split at hv'
   ·rename_i o z' m cs _ _ _
    rw[hv'.c8]
    rcases VR.fR hbx with⟨_,h0,_⟩|⟨b,off,cap,e1,_⟩
    ·cases h0
    ·exact⟨_,fin _ _ _ e1 e2,NR.mk rfl (.bool _) rfl⟩
   ·rw[hv'.c8]
    exact⟨_,fin _ _ _ (VR.nr hbx (Nat.succ_pos _)) e2,NR.mk rfl (.bool _) rfl⟩
   ·exact hv'.no.elim
  ·have:pv (.OS ne x (.c yv)) (xg true σ) σ=.no:=by
    unfold pv
    split<;>first|rfl|(rename_i hh;cases hh;exact absurd ⟨_,rfl⟩ hyv)|(rename_i hh;cases hh)
   rw[this]at hv
   exact hv.no.elim
end
end Go.AB
end
section
namespace Go.AB
open Go
theorem add_eq(b off i:Nat):(⟨b,off,none⟩:Addr).add i=⟨b,off+i,none⟩:=by
 unfold Addr.add
 by_cases h:i=0<;>simp[h]
theorem cell_of_row(w:World){b:Nat}{c:Array Value}{t:TypeId}{fr:Nat×Nat}(hg:w.heap[b]? =some (.cells c t fr))(j:Nat):w.cell? ⟨b,j,none⟩=c[j]? :=by
 unfold World.cell?
 rw[hg];simp
theorem xd(cs:List AV)(off n j:Nat):(sub cs off n)[j]? =if j<n then cs[off+j]? else none:=by
 unfold sub
 rw[List.getElem?_take]
 split
 ·rw[List.getElem?_drop]
 ·rfl
theorem eb(cs:List AV)(j:Nat):(views cs)[j]? =(cs[j]?).map view:=by simp[views]
section
variable{P:Program}{G:Gh}{n:Nat}{D:List Deferred}{σ:St}{a:Act}{w:World}
theorem At.views{R:Nat→Nat}{b off:Nat}{cs:List AV}(h:At w R b off cs):At w R b off (views cs):=by
 obtain⟨u,h1,h2,hf⟩:=h
 refine⟨u,fun j c hj=>?_,fun j c hj=>?_,hf.views⟩<;>rw[eb]at hj<;>cases hc:cs[j]? <;>rw[hc]at hj<;>simp at hj
 ·exact h1 j _ hc
 ·rw[←hj];exact(h2 j _ hc).view
theorem At.sub{R:Nat→Nat}{b off:Nat}{cs:List AV}(h:At w R b off cs)(o n:Nat):At w R b (off+o) (sub cs o n):=by
 obtain⟨u,h1,h2,hf⟩:=h
 refine⟨fun j=>u (o+j),fun j c hj=>?_,fun j c hj=>?_,hf.sub o n⟩<;>rw[xd]at hj<;>split at hj<;>try(cases hj;done)
 ·rw[Nat.add_assoc];exact h1 _ c hj
 ·exact h2 _ c hj
theorem At.Hj{b:Nat}{cs:List AV}{c:Array Value}{t:TypeId}{fr:Nat×Nat}{o:Nat→cY}(hh:w.heap[b]? =some (.cells c t fr))(hc:db G w o cs c)(hf:Fl cs):At w G.R b 0 cs:=by
 refine⟨fun j=>c.getD j undef,fun j x hj=>?_,fun j x hj=>?_,hf⟩
 all_goals
  have hlt:j<c.size:=by rw[hc.1];exact(List.getElem?_eq_some_iff.1 hj).1
  have hcj:c[j]? =some (c.getD j undef):=by simp[Array.getD_eq_getD_getElem?,hlt]
 ·rw[Nat.zero_add,cell_of_row w hh,hcj]
 ·exact(hc.2 j x _ hj hcj).1
theorem Ep(cs:List AV)(off n:Nat):AB.sub (AB.views cs) off n=AB.views (AB.sub cs off n):=by simp[AB.sub,AB.views,List.map_drop,List.map_take]
theorem At.D4{b:Nat}{cs:List AV}{c:Array Value}{t t':TypeId}{fr:Nat×Nat}{o:Nat→cY}(hh:w.heap[b]? =some (.cells c t fr))(hc:db G w o cs c)(hf:xn t' cs):At w G.R b 0 (AB.views cs):=by
 refine⟨fun j=>c.getD j undef,fun j x hj=>?_,fun j x hj=>?_,hf.views⟩
 all_goals
  have hlt:j<c.size:=by rw[hc.1];have:=(List.getElem?_eq_some_iff.1 hj).1;simpa[AB.views]using this
  have hcj:c[j]? =some (c.getD j undef):=by simp[Array.getD_eq_getD_getElem?,hlt]
 ·rw[Nat.zero_add,cell_of_row w hh,hcj]
 ·have hlt':j<cs.length:=by rw[←hc.1];exact hlt
  have hx:AB.view cs[j]=x:=by
   simp only[AB.views,List.getElem?_map,List.getElem?_eq_getElem hlt',Option.map_some]at hj
   injection hj
  rw[←hx]
  exact(hc.2 j cs[j] _ (List.getElem?_eq_getElem hlt') hcj).1.view
theorem p8{n off:Nat}{cs ds:List AV}(h:gZ n off cs=some ds):off+n≤cs.length∧ds=views (sub cs off n):=by
 unfold gZ at h
 by_cases hl:off+n≤cs.length
 ·rw[decide_eq_true hl]at h;injection h with h;exact⟨hl,h.symm⟩
 ·rw[decide_eq_false hl]at h;cases h
theorem im{cs:List AV}{off n:Nat}(h:off+n≤cs.length):(AB.sub cs off n).length=n:=by unfold AB.sub;simp;omega
theorem BQ(h:Inv G n D σ a w){x:IX}{p:AV}{v:Value}(hb:BR G w σ a x p v){m:Nat}{cs:List AV}(hr:rd σ p m=some cs):
 ∃b off,v=.pointer (some ⟨b,off,none⟩)∧cs.length=m∧At w G.R b off cs∧views cs=cs:=by
 have vv:∀l:List AV,views (views l)=views l:=fun l=>by simp[views,iH,Function.comp_def]
 unfold rd at hr
 split at hr
 ·rename_i ds
  obtain⟨hl,rfl⟩:=p8 hr
  obtain⟨i,b,c,t,_,_,_,hv,_,_,hh,hc,hfl⟩:=hb
  have hat:=((At.Hj hh hc hfl).sub 0 m).views
  simp only[Nat.add_zero]at hat
  exact⟨b,0,hv,by simp[AB.views,im hl],hat,vv _⟩
 ·rename_i d off
  unfold ka at hr
  split at hr
  ·rename_i ds hd
   obtain⟨hl,rfl⟩:=p8 hr
   obtain⟨b,hv,ht⟩:=hb
   have ht:=ht ds hd
   have hs:=h.ch d _ ht
   rw[hd]at hs
   obtain⟨b',c,t,h1,h2,h3,h4,h5,h6⟩:=hs
   injection h1 with h1;injection h1 with h1;injection h1 with h1 _ _
   subst h1
   have hat:=((At.Hj h4 h5 h6).sub off m).views
   rw[Nat.zero_add]at hat
   exact⟨b,off,hv,by simp[AB.views,im hl],hat,vv _⟩
  ·cases hr
 ·rename_i ds
  obtain⟨hl,rfl⟩:=p8 hr
  obtain⟨b,off,hv,hR,hat⟩:=VR.IP hb
  have hat:=(hat.sub 0 m).views
  exact⟨b,off,hv,by simp[AB.views,im hl],hat,vv _⟩
 ·rename_i b off
  unfold tK at hr
  split at hr
  ·rename_i ds hs
   obtain⟨hl,rfl⟩:=p8 hr
   have hv:=VR.gi hb
   obtain⟨h1,h2,c,t,h3,h4,h5⟩:=h.store b _ hs
   have hat:=(At.D4 h3 h4 h5).sub off m
   rw[Nat.zero_add,Ep]at hat
   exact⟨b,off,hv,by simp[AB.views,im hl],hat,vv _⟩
  ·cases hr
 ·cases hr
theorem iE{t:TypeId}{m:Nat}(h:cy P t m=true):∃i,P.info? t=some i∧i.size=m:=by
 unfold cy at h
 split at h
 ·exact⟨_,by assumption,by simpa using h⟩
 ·cases h
theorem run_sizeOf{t:TypeId}{m:Nat}(h:cy P t m=true)(w:World):(sizeOf t).run P w=.ok m w:=by
 obtain⟨i,h1,h2⟩:=iE h
 simp[sizeOf,typeInfo,h1,h2]
theorem jv{t:TypeId}{multi:Bool}(h:lE P t multi=true)(w:World):(isAgg t).run P w=.ok multi w:=by
 unfold lE at h
 split at h
 ·rename_i hh;subst h;simp[isAgg,underlying,hh]
 ·rename_i hh;subst h;simp[isAgg,underlying,hh]
 ·rename_i d h1 h2 hh
  have hm:multi=false:=by simpa using h
  subst hm
  simp only[isAgg,underlying,run_program,Sem.run_bind,Result.andThen_ok,hh,Sem.run_pure]
 ·cases h
theorem At.jZ{R:Nat→Nat}{b off:Nat}{cs:List AV}(h:At w R b off cs):∃us:List Value,us.length=cs.length∧(∀(j:Nat)(v:Value),us[j]? =some v→w.cell? ((⟨b,off,none⟩:Addr).add j)=some v)∧
 (∀(j:Nat)(c:AV)(v:Value),cs[j]? =some c→us[j]? =some v→VR w R c v):=by
 obtain⟨u,h1,h2,_⟩:=h
 have key:∀(j:Nat)(v:Value),((List.range cs.length).map u)[j]? =some v→∃hj:j<cs.length,v=u j:=by
  intro j v hj
  rw[List.getElem?_map]at hj
  by_cases hlt:j<cs.length
  ·rw[List.getElem?_range hlt]at hj;simp at hj;exact⟨hlt,hj.symm⟩
  ·rw[List.getElem?_eq_none (by simpa using hlt)]at hj;simp at hj
 refine⟨(List.range cs.length).map u,by simp,fun j v hj=>?_,fun j c v hc hj=>?_⟩
 ·obtain⟨hlt,rfl⟩:=key j v hj
  rw[add_eq]
  exact h1 j cs[j] (List.getElem?_eq_getElem hlt)
 ·obtain⟨_,rfl⟩:=key j v hj
  exact h2 j c hc
theorem oi{R:Nat→Nat}{t:TypeId}{m:Nat}{multi:Bool}(hs:cy P t m=true)(hm:lE P t multi=true)(h1:(multi||m==1)=true){b off:Nat}{cs:List AV}(hl:cs.length=m)(hat:At w R b off cs):
 ∃v,(loadVar t ⟨b,off,none⟩).run P w=.ok v w∧VR w R (lF multi cs) v:=by
 have hfl:Fl cs:=by obtain⟨_,_,_,hf⟩:=hat;exact hf
 obtain⟨us,hul,hc,hv⟩:=hat.jZ
 cases multi with
 |true=>
  have:=run_loadCells_list (P:=P) w ⟨b,off,none⟩ us hc
  rw[hul,hl]at this
  refine⟨.agg us.toArray,by simp[loadVar,jv hm,run_sizeOf hs,this],?_⟩
  show VR w R (.agg cs) _
  exact .agg cs us.toArray hfl (by simp[hul]) fun j c v hcj hvj=>hv j c v hcj (by simpa using hvj)
 |false=>
  have hm1:m=1:=by simpa using h1
  subst hm1
  match cs,hl with
  |[c],_=>
   match us,hul with
   |[u],_=>
    have h0:=hc 0 u rfl
    rw[add_eq]at h0
    refine⟨u,by simp[loadVar,jv hm,show(w.cell? ⟨b,off,none⟩)=some u from h0],hv 0 c u rfl rfl⟩
theorem Ii{a av:AV}(h:eN (QH a) av):av=a∧c9 a=true:=by
 unfold QH at h
 cases hi:c9 a with
 |true=>rw[hi]at h;exact⟨h.c8,rfl⟩
 |false=>rw[hi]at h;exact h.no.elim
theorem RU{c:Prop}{a av:AV}(h:eN (QG c a) av):av=a∧c9 a=true∧c:=by
 unfold QG at h
 cases hi:c9 a with
 |true=>rw[hi]at h;exact⟨h.prt.1,rfl,h.prt.2⟩
 |false=>rw[hi]at h;exact h.no.elim
theorem Cw{multi:Bool}{cs:List AV}(hv:views cs=cs):AB.view (lF multi cs)=lF multi cs:=by
 cases multi with
 |true=>rfl
 |false=>cases cs with
  |nil=>rfl
  |cons c l=>simp only[views,List.map_cons,List.cons.injEq]at hv;exact hv.1
theorem FA(h:Inv G n D σ a w){op:Op}{ty:TypeId}{m:Nat}{multi:Bool}{x:IX}(hc:au P op ty (.load m multi x)=true){av:AV}(hv:eN (pv (.load m multi x) (xg true σ) σ) av):
 ∃v,runs P a op ty w v∧NR G w σ a av v:=by
 cases op<;>first|(simp[au]at hc;done)|skip
 rename_i t y
 simp only[au,Bool.and_eq_true]at hc
 obtain⟨⟨⟨hs,hm⟩,h1⟩,hy⟩:=hc
 have hb:=BR.aJ h hy
 have hv':eN (iI multi (rd σ (xg true σ x) m)) av:=hv
 cases hr:rd σ (xg true σ x) m with
 |none=>rw[hr]at hv';exact hv'.no.elim
 |some cs=>
  rw[hr]at hv'
  obtain⟨rfl,hi⟩:=Ii hv'
  obtain⟨b,off,e,hl,hat,hvw⟩:=BQ h hb hr
  obtain⟨v,hrun,hvr⟩:=oi hs hm h1 hl hat
  exact⟨v,fun _ _ _ _=>by simp[execOp,e,Instr.loadAt,Instr.sureAddr,hrun],NR.mk hi hvr (Cw hvw)⟩
theorem BI{R:Nat→Nat}{t:TypeId}{m off:Nat}{multi:Bool}(hs:cy P t m=true)(hm:lE P t multi=true)(h1:(multi||m==1)=true){cs:List AV}{vs:Array Value}(hl:vs.size=cs.length)
 (hr:∀(j:Nat)(c:AV)(u:Value),cs[j]? =some c→vs[j]? =some u→VR w R c u)(hfl:Fl cs)(hfit:off+m≤cs.length):
 ∃v,(part t vs off).run P w=.ok v w∧VR w R (lF multi (AB.sub cs off m)) v:=by
 cases multi with
 |true=>
  refine⟨.agg (vs.extract off (off+m)),by simp[part,jv hm,run_sizeOf hs],?_⟩
  show VR w R (.agg _) _
  refine .agg _ _ (hfl.sub off m) (by rw[im hfit];simp;omega) fun j c u hc hu=>?_
  rw[xd]at hc
  split at hc
  ·rename_i hj
   refine hr (off+j) c u hc ?_
   rw[Array.getElem?_extract]at hu
   split at hu
   ·exact hu
   ·cases hu
  ·cases hc
 |false=>
  have hm1:m=1:=by simpa using h1
  subst hm1
  have hlt:off<vs.size:=by omega
  have hlt':off<cs.length:=by omega
  refine⟨vs[off],by simp[part,jv hm,Array.getElem?_eq_getElem hlt],?_⟩
  have:AB.sub cs off 1=[cs[off]]:=by
   unfold AB.sub
   rw[List.drop_eq_getElem_cons hlt'];rfl
  rw[this]
  exact hr off _ _ (List.getElem?_eq_getElem hlt') (Array.getElem?_eq_getElem hlt)
theorem Nv(h:Inv G n D σ a w){op:Op}{ty:TypeId}{m off:Nat}{multi:Bool}{x:IX}(hc:au P op ty (.field m multi off x)=true){av:AV}(hv:eN (pv (.field m multi off x) (xg true σ) σ) av):
 ∃v,runs P a op ty w v∧NR G w σ a av v:=by
 cases op<;>first|(simp[au]at hc;done)|skip
 rename_i t y i
 simp only[au,Bool.and_eq_true]at hc
 obtain⟨hy,hc⟩:=hc
 split at hc<;>try(cases hc;done)
 rename_i fs ht
 split at hc<;>try(cases hc;done)
 rename_i f hf
 simp only[Bool.and_eq_true,beq_iff_eq]at hc
 obtain⟨⟨⟨rfl,hs⟩,hm⟩,h1⟩:=hc
 have hb:=BR.aJ h hy
 have hv':eN (xA m multi f.offset (xg true σ x)) av:=hv
 generalize xg true σ x=xv at hb hv'
 unfold xA at hv'
 split at hv'
 ·rename_i cs
  by_cases hfit:f.offset+m≤cs.length
  ·rw[decide_eq_true hfit]at hv'
   obtain⟨rfl,hi⟩:=Ii hv'
   obtain⟨vs,e,hl,hr,hfl⟩:=VR.l6 hb
   obtain⟨v,hrun,hvr⟩:=BI hs hm h1 hl hr hfl hfit
   refine⟨v,fun _ _ _ _=>by simp[execOp,e,Instr.field,underlying,ht,hf,asAgg,hrun],NR.mk hi hvr.view (iH _)⟩
  ·rw[decide_eq_false hfit]at hv';exact hv'.no.elim
 ·exact hv'.no.elim
theorem Nw(h:Inv G n D σ a w){op:Op}{ty:TypeId}{m len:Nat}{multi:Bool}{x i:IX}(hc:au P op ty (.index m multi len x i)=true){av:AV}(hv:eN (pv (.index m multi len x i) (xg true σ) σ) av):
 ∃v,runs P a op ty w v∧NR G w σ a av v:=by
 cases op<;>first|(simp[au]at hc;done)|skip
 rename_i t y j
 simp only[au,Bool.and_eq_true]at hc
 obtain⟨⟨hy,hj⟩,hc⟩:=hc
 split at hc<;>try(cases hc;done)
 rename_i l e ht
 simp only[Bool.and_eq_true,beq_iff_eq]at hc
 obtain⟨⟨⟨rfl,hs⟩,hm⟩,h1⟩:=hc
 have hb:=BR.aJ h hy
 have hbi:=BR.aJ h hj
 have hv':eN (xG m multi l (xg true σ x) (xg true σ i)) av:=hv
 generalize xg true σ x=xv at hb hv'
 generalize xg true σ i=iv at hbi hv'
 unfold xG at hv'
 split at hv'
 ·rename_i cs k q
  cases hcl:l*m==cs.length with
  |false=>rw[hcl]at hv';exact hv'.no.elim
  |true=>
   rw[hcl]at hv'
   obtain⟨rfl,hi,h0,hlt⟩:=RU hv'
   obtain⟨vs,e1,hl,hr,hfl⟩:=VR.l6 hb
   have e2:a.eval j=.int k q:=VR.bO hbi
   have hfit:q.toNat*m+m≤cs.length:=by
    rw[←beq_iff_eq.1 hcl]
    have:q.toNat+1≤l:=by omega
    calc q.toNat*m+m=(q.toNat+1)*m:=by rw[Nat.add_mul,Nat.one_mul]
     _≤l*m:=Nat.mul_le_mul_right _ this
   obtain⟨v,hrun,hvr⟩:=BI hs hm h1 hl hr hfl hfit
   refine⟨v,fun _ _ _ _=>by simp[execOp,e1,e2,Instr.index,underlying,ht,asIntOf,h0,hlt,run_sizeOf hs,hrun],NR.mk hi hvr.view (iH _)⟩
 ·exact hv'.no.elim
theorem xc{t:TypeId}(h:JC P t=true):P.underlying t=some .string:=by
 unfold JC at h
 split at h
 ·assumption
 ·cases h
theorem Lv(h:Inv G n D σ a w){op:Op}{ty:TypeId}{x i:IX}(hc:au P op ty (.dJ x i)=true){av:AV}(hv:eN (pv (.dJ x i) (xg true σ) σ) av):
 ∃v,runs P a op ty w v∧NR G w σ a av v:=by
 cases op<;>first|(simp[au]at hc;done)|skip
 rename_i t y j
 simp only[au,Bool.and_eq_true]at hc
 obtain⟨⟨hy,hj⟩,ht⟩:=hc
 have ht:=xc ht
 have hb:=BR.aJ h hy
 have hbi:=BR.aJ h hj
 have hv':eN (tB (xg true σ x) (xg true σ i)) av:=hv
 generalize xg true σ x=xv at hb hv'
 generalize xg true σ i=iv at hbi hv'
 unfold tB at hv'
 split at hv'
 ·rename_i s k q
  obtain⟨rfl,h0,hlt⟩:=hv'.prt
  have e1:a.eval y=.string ⟨s.toArray⟩:=VR.eT hb
  have e2:a.eval j=.int k q:=VR.bO hbi
  have hq:q.toNat<s.length:=by omega
  have hg:(ByteArray.mk s.toArray)[q.toNat]? =some (s.getD q.toNat 0):=by
   have hsz:q.toNat<(ByteArray.mk s.toArray).size:=by simpa[ByteArray.size]using hq
   rw[show(ByteArray.mk s.toArray)[q.toNat]? =some ((ByteArray.mk s.toArray)[q.toNat]'hsz) from getElem?_pos (ByteArray.mk s.toArray) q.toNat hsz]
   have:(ByteArray.mk s.toArray)[q.toNat]=s.toArray[q.toNat]'(by simpa using hq):=rfl
   rw[this]
   simp[List.getD_eq_getElem?_getD,List.getElem?_eq_getElem hq]
  refine⟨.int .u8 (s.getD q.toNat 0).toNat,fun _ _ _ _=>by simp[execOp,e1,e2,Instr.index,underlying,ht,asIntOf,h0,hg],NR.mk rfl (.int _ _) rfl⟩
 ·exact hv'.no.elim
theorem cC{t e:TypeId}(h:ct P t=some e):P.underlying t=some (.slice e):=by
 unfold ct at h
 split at h
 ·rename_i ht;injection h with h;subst h;exact ht
 ·cases h
theorem Fy(h:Inv G n D σ a w){op:Op}{ty:TypeId}{off:Nat}{x:IX}(hc:au P op ty (.fieldAddr off x)=true){av:AV}(hv:eN (pv (.fieldAddr off x) (xg true σ) σ) av):
 ∃v,runs P a op ty w v∧NR G w σ a av v:=by
 cases op<;>first|(simp[au]at hc;done)|skip
 rename_i t y i
 simp only[au,Bool.and_eq_true]at hc
 obtain⟨hy,hc⟩:=hc
 split at hc<;>try(cases hc;done)
 rename_i fs ht
 split at hc<;>try(cases hc;done)
 rename_i f hf
 simp only[Bool.and_eq_true,beq_iff_eq]at hc
 obtain⟨rfl,hsz⟩:=hc
 split at hsz<;>try(cases hsz;done)
 rename_i ti hti
 have hpos:ti.size≠0:=by have:=of_decide_eq_true hsz;omega
 have hb:=BR.aJ h hy
 have hrun:∀b o,a.eval y=.pointer (some ⟨b,o,none⟩)→runs P a (.fieldAddr t y i) ty w (.pointer (some ⟨b,o+f.offset,none⟩)):=by
  intro b o e _ _ _ _
  simp[execOp,e,Instr.fieldAt,underlying,ht,hf,Instr.sureAddr,fieldPlace,sizeOf,typeInfo,hti,hpos,add_eq]
 have hv':eN (fQ f.offset x (xg true σ x)) av:=hv
 generalize hxv:xg true σ x=xv at hb hv'
 unfold fQ at hv'
 split at hv'
 ·rename_i d o
  rw[hv'.c8]
  obtain⟨b,h1,h2⟩:=hb
  exact⟨_,hrun b o h1,b,rfl,h2⟩
 ·rename_i cs
  by_cases hfit:f.offset≤cs.length
  ·rw[decide_eq_true hfit]at hv'
   rw[hv'.c8]
   obtain⟨b,o,e,hR,u,h1,h2,hfl⟩:=VR.IP hb
   refine⟨_,hrun b o e,NR.mk rfl (.sp _ b (o+f.offset) (fun j=>u (f.offset+j)) (hfl.drop _) (by simp;omega) (fun j c hj=>?_) (fun j c hj=>?_)) rfl⟩
   ·rw[List.getElem?_drop]at hj
    rw[Nat.add_assoc];exact h1 _ c hj
   ·rw[List.getElem?_drop]at hj
    exact h2 _ c hj
  ·rw[decide_eq_false hfit]at hv';exact hv'.no.elim
 ·rename_i b o
  rw[hv'.c8]
  exact⟨_,hrun b o (VR.gi hb),NR.mk rfl (.ref _ _) rfl⟩
 ·rename_i cs
  unfold Lg at hv'
  split at hv'
  ·rename_i j
   obtain⟨rfl,_⟩:=hv'.prt
   obtain⟨i',b,c,t',e1,hl,htm,hvv,_⟩:=hb
   injection e1 with e1
   subst e1
   exact⟨_,hrun b 0 hvv,b,by rw[Nat.zero_add],fun _ _=>by rw[htm,hvv]⟩
  ·exact hv'.no.elim
 ·exact hv'.no.elim
end
end Go.AB
end
