/- A part of the proof: Ab5, Ab6, Ab7, Ab8. -/
import Derived.Test.YtkeagffgdajggaaGreatNu2
import Derived.Laws.Cells
import Derived.Laws.Strings
import Derived.Laws.Pointers
import Derived.Laws.Small
import Derived.LaidEqlPtr
import Derived.Laws.Concat
set_option linter.unusedSimpArgs false
set_option linter.unusedVariables false
section
namespace Go.AB
open Go
def cR:Value->AV->Bool
 |.bool a,.bool b=>a==b
 |.int k n,.int k' m=>decide (k=k')&&n==m
 |.string s,.str t=>s.data.toList==t
 |.pointer none,.dK=>true
 |.slice none 0 0,.sl _ _ 0 []=>true
 |.slice none 0 0,.arr _ _ 0 0=>true
 |.slice none 0 0,.bb _ 0 []=>true
 |.map none,.oL=>true
 |.nilFunc,.oK=>true
 |.nilIface,.A6=>true
 |_,_=>false
def QI:List Value->List AV->Bool
 |[],[]=>true
 |v::vs,a::as=>cR v a&&QI vs as
 |_,_=>false
def bJ:Operand->IX->Bool
 |.tmp t,.t i=>t==i
 |.const (.agg vs),.c (.agg cs)=>QI vs.toList cs
 |.const v,.c a=>cR v a
 |.func f,.c (.fn g [] [])=>f==g
 |_,_=>false
def iL:List Operand->List IX->Bool
 |[],[]=>true
 |o::os,x::xs=>bJ o x&&iL os xs
 |_,_=>false
def IS:Option Operand->Option IX->Bool
 |none,none=>true
 |some o,some x=>bJ o x
 |_,_=>false
section
variable(P:Program)
def c8(t:TypeId)(n:Nat):Bool:=match P.info? t with
 |some i=>i.size==n
 |none=>false
def oE(t:TypeId)(n:Nat):Bool:=match P.info? t with
 |some i=>i.bytes==n
 |none=>false
def rm(t:TypeId)(multi:Bool):Bool:=match P.underlying t with
 |some (.struct _)|some (.array _ _)=>multi
 |some _=>!multi
 |none=>false
def qb(t:TypeId)(z:List AV):Bool:=match P.info? t with
 |some i=>(match i.zero with
  |some v=>QI v.cells.toList z&&i.size==z.length
  |none=>false)
 |none=>false
def dp(t:TypeId):Option TypeId:=match P.underlying t with
 |some (.slice e)=>some e
 |_=>none
def Cx(fs:Array Field):List (Nat×Operand)->List (Nat×Nat×IX)->Bool
 |[],[]=>true
 |(i,o)::r,(off,n,x)::s=>(match fs[i]? with
  |some f=>f.offset==off&&c8 P f.type n
  |none=>false)&&bJ o x&&Cx fs r s
 |_,_=>false
def we(sz:Nat):List (Nat×Operand)->List (Nat×Nat×IX)->Bool
 |[],[]=>true
 |(i,o)::r,(off,n,x)::s=>i*sz==off&&n==sz&&bJ o x&&we sz r s
 |_,_=>false
def Zu(t:TypeId):Bool:=match P.underlying t with
 |some (.int _)=>true
 |_=>false
def aa4(t:TypeId):Bool:=match P.underlying t with
 |some .bool=>true
 |_=>false
def UW(t:TypeId):Bool:=match P.underlying t with
 |some .string=>true
 |_=>false
def ah6(t:TypeId):Bool:=match P.underlying t with
 |some (.pointer e)=>(P.info? e).isSome
 |_=>false
def E8(e:TypeId)(sz:Nat):Bool:=match P.info? e with
 |some i=>(match i.zero with
  |some v=>v.cells.size==sz&&v.cells.toList.all Value.oneCell'
  |none=>false)
 |none=>false
def Vh(b:Builtin)(c:Call):Option (List Operand×List TypeId):=match c.callee with
 |.builtin b'=>if b'=b then some (c.args.toList,c.argTypes.toList)else none
 |_=>none
def ahH(t:TypeId)(cls:Nat):Bool:=match P.underlying t with
 |some (.slice _)=>cls==0
 |some .string=>cls==1
 |some (.map _ _)=>cls==2
 |_=>false
def aks(t:TypeId)(n:Nat):Bool:=match P.underlying t with
 |some (.array m _)=>n==m
 |_=>false
def Ro(t:TypeId):k9->Bool
 |.int k=>(match P.underlying t with|some (.int k')=>Ui k k'|_=>false)
 |.str=>(match P.underlying t with|some .string=>true|_=>false)
 |.bool=>(match P.underlying t with|some .bool=>true|_=>false)
 |.bytes n=>(match P.underlying t with
  |some (.array m e)=>m==n&&(match P.underlying e with|some (.int .u8)=>true|_=>false)&&c8 P e 1
  |_=>false)
def Sl(t:TypeId)(z:AV):Bool:=match P.info? t with
 |some i=>(match i.zero with
  |some v=>(match z,v with
   |.agg cs,.agg vs=>QI vs.toList cs
   |z,v=>cR v z)
  |none=>false)
 |none=>false
def Kq:List Field->Nat->Bool
 |[],_=>true
 |f::r,k=>f.name != "_" &&f.offset==k&&Zu P f.type&&rm P f.type false&&Kq r (k+1)
def aeu(t:TypeId)(n:Nat):Bool:=match P.underlying t with
 |some (.struct fs)=>Kq P fs.toList 0&&fs.size==n&&!P.stoodInHeld t&&!P.eqGuardType P.depth t
 |_=>false
def ao(op:Op)(_ty:TypeId)(o:ua):Bool:=
 match o,op with
 |.jL _ x,.move y=>bJ y x
 |.jL _ x,.assign y=>bJ y x
 |.pick c x y,.pick c' x' y'=>bJ c' c&&bJ x' x&&bJ y' y
 |.aq z,.alloc t=>qb P t z
 |.gC z,.alloc t=>qb P t z
 |.dc n x,.box t y=>c8 P t n&&bJ y x
 |.oz n x,.box t y=>c8 P t n&&bJ y x
 |.build z ps,.build t qs=>qb P t z&&(match P.underlying t with
  |some (.struct fs)=>Cx P fs qs.toList ps&&fs.all fun f=>(P.info? f.type).isSome
  |some (.array _ e)=>(match P.info? e with
   |some i=>we i.size qs.toList ps
   |none=>false)
  |_=>false)
 |.bq sz n z ps,.buildSlice t m qs=>n==m&&(match dp P t with
  |some e=>c8 P e sz&&decide (0<sz)&&we sz qs.toList ps&&decide (n*sz<=2^24)&&(match P.info? e with
   |some i=>(match i.zero with
    |some v=>QI ((List.replicate n v.cells.toList).flatten) z&&v.cells.size==sz
    |none=>false)
   |none=>false)
  |none=>false)
 |.mh _ x,.load t y=>c8 P t 1&&rm P t false&&bJ y x
 |.bf z multi x,.load t y=>c8 P t z.length&&rm P t multi&&(multi||z.length==1)&&bJ y x
 |.lookup kk z ok x k,.lookup t y j ok'=>bJ y x&&bJ j k&&ok==ok'&&(match P.underlying t with
  |some (.map kt et)=>Ro P kt kk&&Sl P et z
  |_=>false)
 |.mapUpdate kk x k v,.mapUpdate t y j u=>bJ y x&&bJ j k&&bJ u v&&(match P.underlying t with
  |some (.map kt _)=>Ro P kt kk
  |_=>false)
 |.rW x,.move y=>bJ y x
 |.rW x,.assign y=>bJ y x
 |.kc (.t i),.convert s t y=>bJ y (.t i)&&s==t&&(match P.underlying s with
  |some (.slice e)=>(match P.underlying e with|some (.int .u8)=>true|_=>false)
  |_=>false)
 |.load n multi x,.load t y=>c8 P t n&&rm P t multi&&(multi||n==1)&&bJ y x
 |.store n p v,.store t q u=>c8 P t n&&bJ q p&&bJ u v
 |.nilCheck x,.nilCheck y=>bJ y x
 |.bin bo x y,.binOp b _ u v _=>decide (bo=b)&&bJ u x&&bJ v y
 |.U4 ne x y,.binOp b t u v _=>decide (b=if ne then .neq else .eql)&&bJ u x&&bJ v y&&aa4 P t
 |.Ov ne x y,.binOp b t u v _=>decide (b=if ne then .neq else .eql)&&bJ u x&&bJ v y&&ah6 P t
 |.un uo x,.unOp u _ y=>decide (uo=u)&&bJ y x
 |.jI k x,.convert s t y=>bJ y x&&(match P.underlying s,P.underlying t with
  |some (.int _),some (.int k')=>decide (k=k')
  |_,_=>false)
 |.fo x,.convert s t y=>bJ y x&&(match P.underlying s,P.underlying t with
  |some (.slice e),some .string=>(match P.underlying e with|some (.int .u8)=>true|_=>false)
  |_,_=>false)
 |.gD x,.convert s t y=>bJ y x&&(match P.underlying s,P.underlying t with
  |some .string,some (.slice e)=>(match P.underlying e with|some (.int .u8)=>true|_=>false)
  |_,_=>false)
 |.iK x i,.index t y j=>bJ y x&&bJ j i&&UW P t
 |.fieldAddr off x,.fieldAddr t y i=>bJ y x&&(match P.underlying t with
  |some (.struct fs)=>(match fs[i]? with
   |some f=>f.offset==off&&(match P.info? f.type with|some j=>decide (0<j.size)|none=>false)
   |none=>false)
  |_=>false)
 |.indexAddr z x i,.indexAddr t y j=>bJ y x&&bJ j i&&(match dp P t with
  |some e=>c8 P e z.length
  |none=>false)
 |.slice sz x lo hi mx,.slice t y l h m=>bJ y x&&IS l lo&&IS h hi&&IS m mx&&(match dp P t with
  |some e=>c8 P e sz
  |none=>false)
 |.qW x lo hi,.slice t y l h none=>bJ y x&&IS l lo&&IS h hi&&UW P t
 |.extract x k,.extract y j=>bJ y x&&k==j
 |.len cls x,.call c=>(match Vh .len c with
  |some (y::_,t::_)=>bJ y x&&ahH P t cls
  |_=>false)
 |.cap x,.call c=>(match Vh .cap c with
  |some (y::_,t::_)=>bJ y x&&(dp P t).isSome
  |_=>false)
 |.fP true xs,.call c=>(match Vh .max c with
  |some (ys,_)=>iL ys xs
  |_=>false)
 |.fP false xs,.call c=>(match Vh .min c with
  |some (ys,_)=>iL ys xs
  |_=>false)
 |.append sz by' x y,.call c=>(match Vh .append c with
  |some ([u,v],[t,t'])=>bJ u x&&bJ v y&&(match dp P t with
   |some e=>c8 P e sz&&oE P e by'&&decide (0<sz)&&decide (0<by')&&E8 P e sz&&((dp P t').isSome||UW P t')
   |none=>false)
  |_=>false)
 |.fO sz by' z l c,.makeSlice t l' c'=>bJ l' l&&bJ c' c&&(match dp P t with
  |some e=>c8 P e sz&&oE P e by'&&qb P e z&&decide (0<sz)&&decide (0<by')
  |none=>false)
 |.makeMap,.makeMap _ none=>true
 |.call f args,.call c=>(match c.callee with
  |.value (.func g)=>f==g&&iL c.args.toList args&&(match P.funcs[f]? with
   |some fn=>fn.name != "runtime.NumGoroutine" &&fn.body.isSome
   |none=>false)
  |_=>false)
 |.cu x args,.call c=>(match c.callee with
  |.value y=>bJ y x&&iL c.args.toList args
  |_=>false)
 |.kq f a b,.makeFunc (.func g) c d=>f==g&&iL c.toList a&&iL d.toList b
 |.jR sz n z ps,.buildSlice t m qs=>n==m&&(match dp P t with
  |some e=>c8 P e sz&&decide (0<sz)&&we sz qs.toList ps&&decide (n*sz<=2^24)&&(match P.info? e with
   |some i=>(match i.zero with
    |some v=>QI ((List.replicate n v.cells.toList).flatten) z&&v.cells.size==sz
    |none=>false)
   |none=>false)
  |none=>false)
 |.eV sz by' z x y,.call c=>(match Vh .append c with
  |some ([u,v],[t,t'])=>bJ u x&&bJ v y&&(match dp P t with
   |some e=>c8 P e sz&&oE P e by'&&decide (0<sz)&&decide (0<by')&&E8 P e sz&&qb P e z&&((dp P t').isSome||UW P t')
   |none=>false)
  |_=>false)
 |.lz sz by' z x y,.call c=>(match Vh .append c with
  |some ([u,v],[t,t'])=>bJ u x&&bJ v y&&Zu P t'&&(match dp P t with
   |some e=>c8 P e sz&&oE P e by'&&decide (0<sz)&&decide (0<by')&&qb P e z
   |none=>false)
  |_=>false)
 |.gN sz x y,.call c=>(match Vh .copy c with
  |some ([u,v],[t,_])=>bJ u x&&bJ v y&&(match dp P t with
   |some e=>c8 P e sz
   |none=>false)
  |_=>false)
 |.mo z x,.call c=>(match Vh .clear c with
  |some (u::_,t::_)=>bJ u x&&(match dp P t with
   |some e=>qb P e z
   |none=>false)
  |_=>false)
 |.yq _ _ x,.load t y=>c8 P t 1&&rm P t false&&bJ y x
 |.T7 _ _ x,.move y=>bJ y x
 |.T7 _ _ x,.assign y=>bJ y x
 |.jh x,.load t y=>(dp P t).isSome&&c8 P t 1&&rm P t false&&bJ y x
 |.oq _ _ x,.load t y=>(dp P t).isSome&&c8 P t 1&&rm P t false&&bJ y x
 |.YE ne x,.binOp b t u v _=>decide (b=if ne then .neq else .eql)&&bJ u x&&(match v with|.const (.slice none 0 0)=>true|_=>false)&&(dp P t).isSome
 |.uI f i args,.call c=>args.any (fun x=>match x with|.t j=>j==i|_=>false)&&(match c.callee with
  |.value (.func g)=>f==g&&iL c.args.toList args&&(match P.funcs[f]? with
   |some fn=>fn.name != "runtime.NumGoroutine" &&fn.body.isSome
   |none=>false)
  |_=>false)
 |.Za ne x,.binOp b t u v _=>decide (b=if ne then .neq else .eql)&&bJ u x&&(match v with|.const .nilFunc=>true|_=>false)&&(match P.underlying t with|some (.func _ _ _)=>true|_=>false)
 |.LC n t j u x,.box t' y=>t==t'&&c8 P t n&&bJ y x
 |.qX _ n p v,.store t q u=>c8 P t n&&bJ q p&&bJ u v
 |.Fq _ n x,.box t y=>c8 P t n&&bJ y x
 |.U7 f x y,.call c=>(match c.callee with
  |.value (.func g)=>f==g&&iL c.args.toList [x,y]
  |_=>false)
 |_,_=>false
def Y1(ops:Array Oper):Option (Nat×Bool)->Option (Nat×Bool)->Bool
 |none,none=>true
 |some (j,w),some (t,w')=>w==w'&&((ops[j]?).bind (·.dst))==some t
 |_,_=>false
def bp(n:Nat):Option Nat->Bool
 |none=>true
 |some d=>decide (d<n)
def gV(n:Nat)(ops:Array Oper)(o:Oper)(o':ah):Bool:=o.dst==o'.dst&&bp n o'.dst&&Y1 ops o.guard o'.g&&ao P o.op o.type o'.op
def cc(n:Nat)(ops:Array Oper):List Oper->List ah->Bool
 |[],[]=>true
 |o::r,o'::r'=>gV P n ops o o'&&cc n ops r r'
 |_,_=>false
def oX:Option IX->List IX
 |some x=>[x]
 |none=>[]
def di:ua->List IX
 |.jL _ x|.dc _ x|.oz _ x|.load _ _ x|.nilCheck x|.un _ x|.jI _ x|.fo x|.gD x|.fieldAddr _ x|.extract x _|.len _ x|.cap x|.bf _ _ x|.kc x|.rW x|.mo _ x|.T7 _ _ x|.yq _ _ x|.jh x|.YE _ x|.Za _ x|.LC _ _ _ _ x|.Fq _ _ x|.mh _ x=>[x]
 |.oq _ j x=>[j,x]
 |.pick c x y=>[c,x,y]
 |.aq _|.gC _|.makeMap=>[]
 |.build _ ps|.bq _ _ _ ps|.jR _ _ _ ps=>ps.map fun p=>p.2.2
 |.store _ x y|.bin _ x y|.U4 _ x y|.Ov _ x y|.iK x y|.indexAddr _ x y|.append _ _ x y|.fO _ _ _ x y|.lookup _ _ _ x y|.eV _ _ _ x y|.lz _ _ _ x y|.gN _ x y|.U7 _ x y|.qX _ _ x y=>[x,y]
 |.slice _ x lo hi mx=>x::(oX lo++(oX hi++oX mx))
 |.qW x lo hi=>x::(oX lo++oX hi)
 |.fP _ xs=>xs
 |.mapUpdate _ x y z=>[x,y,z]
 |.call _ xs|.uI _ _ xs=>xs
 |.cu x xs=>x::xs
 |.kq _ xs ys=>xs++ys
def EZ:List IX->List Nat
 |[]=>[]
 |.t i::r=>i::EZ r
 |.c _::r=>EZ r
def acR:Option (Nat×Bool)->List Nat
 |some (t,_)=>[t]
 |none=>[]
def ch(o:ah):List Nat:=acR o.g++EZ (di o.op)
def gu(d:Option Nat)(l:List Nat):Bool:=match d with
 |some d=>!l.contains d
 |none=>true
def gX(o:ah)(i:Nat):Bool:=match o.op with
 |.jL true (.t j)=>j==i
 |_=>false
def W0(x y:ah):Bool:=(ch y).all fun i=>!gX x i
def ap(x y:ah):Bool:=(W0 x y&&W0 y x)&&gu x.dst (ch y)&&gu y.dst (ch x)&&(match x.dst,y.dst with
 |some i,some j=>i !=j
 |_,_=>true)
def gT(ops:Array Oper)(j i:Nat):Bool:=match ops[j]? with
 |some o=>o.after.any fun e=>Region.binds .any e&&e.on==i
 |none=>false
def Sx(ops:Array Oper)(q:Nat):Bool:=(List.range q).all fun k=>match ops[k]? with
 |some o=>o.after.all fun e=>!Region.binds .any e||decide (e.on<k)
 |none=>false
def Kk(ops:Array Oper)(q:Nat):Bool:=q==ops.size||(List.range q).all fun k=>(List.range (q+1)).any fun m=>decide (k<m)&&gT ops m k
def agi(bC:List ah)(i j:Nat):Bool:=match bC[i]?,bC[j]? with
 |some x,some y=>ap x y
 |_,_=>false
def abe(ops:Array Oper)(q:Nat)(bC:List ah):Bool:=(List.range q).all fun j=>(List.range j).all fun i=>gT ops j i||agi bC i j
def sy(ops:Array Oper):Nat->Nat->Array Bool->Bool
 |0,_,aJ=>(Region.ready .any ops aJ).isEmpty
 |fuel+1,k,aJ=>Region.ready .any ops aJ==[k]&&sy ops fuel (k+1) (aJ.setIfInBounds k true)
def re(size q:Nat):Array Bool:=(Array.range size).map fun i=>decide (i<q)
def Sw(ops:Array Oper)(q:Nat)(bC:List ah):Bool:=decide (q<=ops.size)&&(Sx ops q&&(Kk ops q&&(abe ops q bC&&sy ops (ops.size -q) q (re ops.size q))))
def sj(o:ah):Option Nat:=match o with
 |⟨none,.store _ (.t c) _,none⟩=>some c
 |o=>o.dst
def fW(o:ah)(i:Nat):Bool:=match o.op with
 |.jL true (.t j)=>j==i
 |.store _ _ (.t j)=>j==i
 |.append _ _ (.t j) _=>j==i
 |.oq _ (.t j) _=>j==i
 |_=>false
def Dt(x y:ah):Bool:=(ch y).all fun i=>!fW x i
def cOK(o:ah):Bool:=(di o.op).all fun x=>match x with
 |.c (.lp _ _)=>false
 |.c (.when _ _)=>false
 |_=>true
def ap2(x y:ah):Bool:=(cOK x&&cOK y)&&(Dt x y&&Dt y x)&&gu (sj x) (ch y)&&gu (sj y) (ch x)&&(match sj x,sj y with
 |some i,some j=>i !=j
 |_,_=>true)
def aa1(bC:List ah)(i j:Nat):Bool:=match bC[i]?,bC[j]? with
 |some x,some y=>ap2 x y
 |_,_=>false
def Vv(ops:Array Oper)(q:Nat)(bC:List ah):Bool:=(List.range q).all fun j=>(List.range j).all fun i=>gT ops j i||aa1 bC i j
def WQ:ua->Bool
 |.store _ _ _=>true
 |.aq _=>true
 |.append _ _ _ _=>true
 |.oq _ _ _=>true
 |_=>false
def Vu(T:List Nat)(bC:List ah)(q:Nat):Bool:=(bC.take q).all fun o=>match o with
 |⟨none,.store _ (.t c) _,none⟩=>T.contains c
 |⟨some d,.aq _,none⟩=>T.contains d
 |_=>true
def LH(T:List Nat)(ops:Array Oper)(q:Nat)(bC:List ah):Bool:=decide (q<=ops.size)&&(Sx ops q&&(Kk ops q&&(Vv ops q bC&&(Vu T bC q&&sy ops (ops.size -q) q (re ops.size q)))))
abbrev Item:=Nat×Nat×ah
def G8(acc:List Nat)(o:Oper):Nat:=o.after.toList.foldl (fun s e=>bif Region.binds .any e then s |||(1<<<e.on)|||acc.getD e.on 0 else s) 0
def K0:List Oper->List Nat->List Nat
 |[],acc=>acc
 |o::r,acc=>K0 r (acc++[G8 acc o])
def apB(y x:ah):Bool:=Dt y x&&gu (sj y) (ch x)&&gu x.dst (ch y)&&(match sj y,x.dst with
 |some i,some j=>i !=j
 |_,_=>true)
def Pb:ah->ah->Bool
 |⟨_,.load _ _ _,none⟩,⟨_,.fO _ _ _ _ _,_⟩=>true
 |_,_=>false
def aby(k k':Nat)(x y:ah):Bool:=match k,k' with
 |0,0|0,1|1,0|1,1=>ap2 x y
 |1,2=>apB x y
 |0,2=>Pb x y&&apB x y
 |_,_=>false
def Bd(ops:Array Oper)(ms:List Nat)(x y:Item):Bool:=!gT ops x.2.1 y.2.1&&(x.2.1 !=y.2.1&&((ms.getD y.2.1 0).testBit x.2.1||
 aby x.1 y.1 x.2.2 y.2.2))
def MN(ops:Array Oper)(ms:List Nat):List Item->Bool
 |[]=>true
 |x::r=>r.all (Bd ops ms x)&&MN ops ms r
def GO(T:List Nat)(n:Nat)(ops:Array Oper)(x:Item):Bool:=(match ops[x.2.1]? with
 |some o=>gV P n ops o x.2.2&&o.after.all fun e=>!Region.binds .any e||(decide (e.on<ops.size)&&e.on !=x.2.1)
 |none=>false)&&(match x.2.2 with
 |⟨none,.store _ (.t c) _,none⟩=>decide (2<=x.1)||T.contains c
 |⟨some d,.aq _,none⟩=>T.contains d
 |_=>true)
def acw(T:List Nat)(n:Nat)(ops:Array Oper)(l:List Item):Bool:=(l.length==ops.size&&(List.range ops.size).all fun k=>l.any fun x=>x.2.1==k)&&(l.all (GO P T n ops)&&MN ops (K0 ops.toList []) l)
def Sy(ops:Array Oper)(gl:List (List Bool)):Bool:=gl.length==ops.size&&(List.range ops.size).all fun j=>
 ((gl.getD j []).length==ops.size&&(List.range ops.size).all fun i=>!((gl.getD j []).getD i false)||gT ops j i)&&(match ops[j]? with
 |some o=>o.after.all fun e=>!Region.binds .any e||decide (e.on<j)
 |none=>false)
def CM:Code->Nat->Option (List Code×Code)
 |.seq (.label m) r,l=>if m==l then some ([],r)else none
 |.seq s c,l=>if(findLabel s l).isNone then(CM c l).map fun p=>(s::p.1,p.2)else none
 |_,_=>none
def y9:IC->Bool
 |.skip=>true
 |_=>false
def mb(n:Nat):Code->IC->Bool
 |.skip,.skip=>true
 |.region _ ops draw,.bN q bC _=>cc P n ops ops.toList bC&&(match q with
  |none=>!draw
  |some q=>!draw||Sw ops q bC)
 |.region _ ops draw,.wq T q bC _=>cc P n ops ops.toList bC&&(!draw||LH T ops q bC)
 |.region _ ops draw,.HM T l _=>draw&&acw P T n ops l
 |.region _ ops draw,.UH gl bC _=>draw&&(cc P n ops ops.toList bC&&Sy ops gl)
 |.seq a b,.seq a' b'=>mb n a a'&&mb n b b'
 |.seq a b,.join _ a' b'=>mb n a a'&&mb n b b'
 |.cond c a b,.cond c' a' b'=>bJ c c'&&mb n a a'&&mb n b b'
 |.block i b,.block j b'=>i==j&&mb n b b'
 |.loop b,.loop _ b'=>mb n b b'
 |.exit i,.exit j=>i==j
 |.scope c,.CI l _ a1 a2 a3 r'=>match CM c l with
  |some ([],r)=>y9 a1&&(y9 a2&&(y9 a3&&mb n r r'))
  |some ([s1],r)=>mb n s1 a1&&(y9 a2&&(y9 a3&&mb n r r'))
  |some ([s1,s2],r)=>mb n s1 a1&&(mb n s2 a2&&(y9 a3&&mb n r r'))
  |some ([s1,s2,s3],r)=>mb n s1 a1&&(mb n s2 a2&&(mb n s3 a3&&mb n r r'))
  |_=>false
 |.scope b,.scope b'=>mb n b b'
 |.label l,.label l'=>l==l'
 |.goto l,.goto l'=>l==l'
 |.ret,.ret=>true
 |_,.dead=>true
 |_,_=>false
end
end Go.AB
end
section
namespace Go.AB
open Go
theorem uH{v:Value}{a:AV}(h:cR v a=true)(w:World)(R:Nat->Nat):VR w R a v:=by
 unfold cR at h
 split at h
 ·obtain rfl:=beq_iff_eq.1 h;exact .bool _
 ·rw[Bool.and_eq_true]at h;obtain⟨h1,h2⟩:=h;obtain rfl:=of_decide_eq_true h1;obtain rfl:=beq_iff_eq.1 h2;exact .int _ _
 ·obtain rfl:=beq_iff_eq.1 h
  rename_i s
  have:∀b:ByteArray,b=⟨b.data.toList.toArray⟩:=fun b=>by cases b;simp
  conv=>rhs;rw[this s]
  exact .str _
 ·exact .dK
 ·exact .slnil _ _
 ·exact .LB _ _
 ·exact .bb _ _ _ _ (.slnil _ _) (fun _=>rfl)
 ·exact .oL
 ·exact .oK
 ·exact .A6
 ·cases h
theorem Vr{v:Value}{a:AV}(h:cR v a=true):dt a=true:=by
 unfold cR at h
 split at h<;>first|rfl|cases h
theorem ET{vs:List Value}{as:List AV}(h:QI vs as=true):vs.length=as.length/\∀(j:Nat)(c:AV)(v:Value),as[j]? =some c->vs[j]? =some v->cR v c=true:=by
 induction vs generalizing as with
 |nil=>cases as with
  |nil=>exact⟨rfl,fun j c v hc=>by simp at hc⟩
  |cons=>simp[QI]at h
 |cons v vs ih=>cases as with
  |nil=>simp[QI]at h
  |cons a as=>
   simp only[QI,Bool.and_eq_true]at h
   obtain⟨h1,h2⟩:=ih h.2
   refine⟨by simp[h1],fun j c u hc hu=>?_⟩
   cases j with
   |zero=>simp at hc hu;subst hc;subst hu;exact h.1
   |succ j=>exact h2 j c u (by simpa using hc) (by simpa using hu)
theorem YW{v:Value}{a:AV}(h:cR v a=true):ry a=true:=by
 unfold cR at h
 split at h<;>first|rfl|cases h
theorem FB:∀{vs:List Value}{as:List AV},QI vs as=true->Fl as
 |[],[],_=>Fl.nil
 |v::vs,a::as,h=>by
  simp only[QI,Bool.and_eq_true]at h
  intro c hc
  rcases List.mem_cons.1 hc with rfl|hc
  ·exact YW h.1
  ·exact FB h.2 c hc
 |[],_::_,h=>by simp[QI]at h
 |_::_,[],h=>by simp[QI]at h
theorem Sv{vs:Array Value}{cs:List AV}(h:QI vs.toList cs=true)(w:World)(R:Nat->Nat):VR w R (.agg cs) (.agg vs):=by
 obtain⟨h1,h2⟩:=ET h
 exact .agg cs vs (FB h) (by simpa using h1) fun j c v hc hv=>uH (h2 j c v hc (by simpa using hv)) w R
theorem FA{v:Value}{a:AV}(h:cR v a=true)(G:Gh)(w:World)(o:cS):dm G w o a v:=by
 unfold cR at h
 split at h<;>first|(cases h;done)|trivial|skip
 ·rename_i own sz
  cases own with
  |false=>trivial
  |true=>intro base m cap hv hc;injection hv with _ h2 h3;omega
 ·intro base m cap hv hc;injection hv with _ h2 h3;omega
section
variable{P:Program}{G:Gh}{n:Nat}{D:List Deferred}{E:St}{a:Act}{w:World}
def BR(G:Gh)(w:World)(E:St)(a:Act)(x:IX):AV->Value->Prop
 |.loc cs,v=>∃i b c t,x=.t i/\look E.e i=.loc cs/\a.tmps[i]? =some v/\v=.pointer (some ⟨b,0,none⟩)/\G.O b=.loc i/\G.R b=0/\w.heap[b]? =some (.cells c t (0,0))/\du G w (.cell b) cs c/\Fl cs
 |.lp d off,v=>∃b,v=.pointer (some ⟨b,off,none⟩)/\∀cs,look E.e d=.loc cs->a.tmps[d]? =some (.pointer (some ⟨b,0,none⟩))
 |.when _ _,_=>True
 |.us _ _ _,_=>True
 |av,v=>VR w G.R av v
def XR(G:Gh)(w:World)(E:St)(a:Act)(x:IX):AV->Value->Prop
 |.when b av,v=>b=true->inner av=true->BR G w E a x av v
 |av,v=>BR G w E a x av v
theorem BR.vr{x:IX}{av:AV}{v:Value}(h:dt av=true)(hv:BR G w E a x av v):VR w G.R av v:=by cases av<;>simp_all [dt,BR]
theorem XR.br{x:IX}{av:AV}{v:Value}(hv:XR G w E a x av v):BR G w E a x (zP true av) v:=by
 cases av<;>try exact hv
 rename_i b av
 cases b with
 |false=>
  have:zP true (.when false av)=.undef:=by simp[zP]
  rw[this];exact VR.undef v
 |true=>
  cases hi:inner av with
  |false=>
   have:zP true (.when true av)=.undef:=by simp[zP,hi]
   rw[this];exact VR.undef v
  |true=>
   have:zP true (.when true av)=av:=by simp[zP,hi]
   rw[this];exact hv rfl hi
theorem XR.ZT{i:Nat}(hi:a.tmps[i]? =some (a.eval (.tmp i))){av:AV}(hl:look E.e i=av)(h:dg G w E.e a.tmps i av (a.eval (.tmp i))):XR G w E a (.t i) av (a.eval (.tmp i)):=by
 have base:∀av:AV,(∀cs,av=.loc cs->look E.e i=.loc cs)->dg G w E.e a.tmps i av (a.eval (.tmp i))->BR G w E a (.t i) av (a.eval (.tmp i)):=by
  intro av hl h
  cases av with
  |loc cs=>
   obtain⟨b,c,t,h1,h2,h3,h4,h5⟩:=h
   exact⟨i,b,c,t,rfl,hl cs rfl,hi,h1,h2,h3,h4,h5⟩
  |lp d off=>exact h
  |gw vs=>
   obtain⟨ys,h1,h2⟩:=h
   rw[h1]
   exact VR.gw vs ys h2.1 fun j c u hc hu=>(h2.2 j c u hc hu).1
  | «when» b av=>trivial
  |us sz m cs=>trivial
  |_=>exact h.1
 cases av with
 | «when» b av=>exact fun hb hin=>base av (fun cs hcs=>by subst hcs;cases hin) (h.1 hb)
 |_=>exact base _ (fun cs hcs=>by rw[hl,hcs]) h
theorem iE{i:Nat}(hi:i<a.tmps.size):a.tmps[i]? =some (a.eval (.tmp i)):=by simp[Act.eval,Array.getD_eq_getD_getElem?,hi]
theorem XR.aN(h:Inv G n D E a w){o:Operand}{x:IX}(hx:bJ o x=true):XR G w E a x (E.x x) (a.eval o):=by
 unfold bJ at hx
 split at hx
 ·rename_i t i
  obtain rfl:=beq_iff_eq.1 hx
  rcases Nat.lt_or_ge t n with ht|ht
  ·have hs:t<a.tmps.size:=by rw[h.size];exact ht
   exact XR.ZT (iE hs) rfl (h.ch t _ (iE hs))
  ·have:E.x (.t t)=.undef:=h.IT t ht
   rw[this];exact VR.undef _
 ·exact Sv hx w G.R
 ·rename_i v av _
  have hv:=uH hx w G.R
  have hi:=Vr hx
  show XR G w E a _ av v
  cases av<;>first|exact hv|(simp[dt]at hi)
 ·rename_i f g
  obtain rfl:=beq_iff_eq.1 hx
  exact VR.fn f [] [] #[] #[] rfl (fun j c v hc=>by simp at hc) rfl (fun j c v hc=>by simp at hc)
 ·cases hx
theorem BR.aN(h:Inv G n D E a w){o:Operand}{x:IX}(hx:bJ o x=true):BR G w E a x (xg true E x) (a.eval o):=(XR.aN h hx).br
def NR(G:Gh)(w:World)(E:St)(a:Act)(av:AV)(v:Value):Prop:=
 match av with
 |.lp d off=>∃b,v=.pointer (some ⟨b,off,none⟩)/\∀cs,look E.e d=.loc cs->a.tmps[d]? =some (.pointer (some ⟨b,0,none⟩))
 |av=>dt av=true/\VR w G.R av v/\view av=av
end
end Go.AB
end
section
namespace Go.AB
open Go
def gx(r:PR)(av:AV):Prop:=r=.dv av\/∃c,r=.prt c av/\c
theorem gx.dv{a av:AV}(h:gx (.dv a) av):av=a:=by
 rcases h with h|⟨c,h,_⟩
 ·injection h with h;exact h.symm
 ·cases h
theorem gx.prt{c:Prop}{a av:AV}(h:gx (.prt c a) av):av=a/\c:=by
 rcases h with h|⟨c',h,hc⟩
 ·cases h
 ·injection h with h1 h2;exact⟨h2.symm,h1▸hc⟩
theorem gx.no{av:AV}(h:gx .no av):False:=by rcases h with h|⟨c',h,hc⟩<;>cases h
theorem lI{a:AV}(h:dt a=true):dt (view a)=true:=by cases a<;>simp_all [dt,view]
theorem mT(a:AV):view (view a)=view a:=by cases a<;>rfl
section
variable{P:Program}{G:Gh}{n:Nat}{D:List Deferred}{E:St}{a:Act}{w:World}
theorem NR.view{av:AV}{v:Value}(hi:dt av=true)(h:VR w G.R av v):NR G w E a (view av) v:=by
 have:dt (AB.view av)=true/\VR w G.R (AB.view av) v/\AB.view (AB.view av)=AB.view av:=⟨lI hi,h.view,mT _⟩
 cases av<;>first|exact this|(simp[dt]at hi)
theorem NR.mk{av:AV}{v:Value}(hi:dt av=true)(h:VR w G.R av v)(hv:AB.view av=av):NR G w E a av v:=hv▸NR.view hi h
theorem VR.fZ{R:Nat->Nat}{b:Bool}{v:Value}(h:VR w R (.bool b) v):v=.bool b:=by cases h;rfl
theorem VR.ct{R:Nat->Nat}{k:IntKind}{m:Int}{v:Value}(h:VR w R (.int k m) v):v=.int k m:=by cases h;rfl
theorem VR.eW{R:Nat->Nat}{s:List UInt8}{v:Value}(h:VR w R (.str s) v):v=.string ⟨s.toArray⟩:=by cases h;rfl
theorem VR.uU{R:Nat->Nat}{v:Value}(h:VR w R .dK v):v=.pointer none:=by cases h;rfl
theorem VR.iQ{R:Nat->Nat}{b o:Nat}{v:Value}(h:VR w R (.ref b o) v):v=.pointer (some ⟨b,o,none⟩):=by cases h;rfl
theorem VR.cd{R:Nat->Nat}{b o l c:Nat}{v:Value}(h:VR w R (.arr b o l c) v):v=.slice (some ⟨b,o,none⟩) l c\/(l=0/\c=0/\v=.slice none 0 0):=by
 cases h with
 |arr=>exact .inl rfl
 |LB=>exact .inr ⟨rfl,rfl,rfl⟩
theorem VR.sJ{R:Nat->Nat}{b o l c:Nat}{v:Value}(h:VR w R (.arr b o l c) v)(hc:0<c):v=.slice (some ⟨b,o,none⟩) l c:=by
 rcases h.cd with h|⟨_,h,_⟩
 ·exact h
 ·omega
theorem VR.Re{R:Nat->Nat}{b:Nat}{v:Value}(h:VR w R (.mp b) v):v=.map (some b):=by cases h;rfl
theorem VR.OT{R:Nat->Nat}{v:Value}(h:VR w R .oL v):v=.map none:=by cases h;rfl
theorem VR.sI{R:Nat->Nat}{cs:List AV}{v:Value}(h:VR w R (.agg cs) v):∃vs:Array Value,v=.agg vs/\vs.size=cs.length/\(∀(j:Nat)(c:AV)(u:Value),cs[j]? =some c->vs[j]? =some u->VR w R c u)/\Fl cs:=by cases h with|agg _ vs hf hl hr=>exact⟨vs,rfl,hl,hr,hf⟩
theorem VR.SV{R:Nat->Nat}{cs:List AV}{v:Value}(h:VR w R (.gw cs) v):∃vs:Array Value,v=.tuple vs/\vs.size=cs.length/\∀(j:Nat)(c:AV)(u:Value),cs[j]? =some c->vs[j]? =some u->VR w R c u:=by cases h with|gw _ vs hl hr=>exact⟨vs,rfl,hl,hr⟩
def At(w:World)(R:Nat->Nat)(b off:Nat)(cs:List AV):Prop:=∃u:Nat->Value,(∀(j:Nat)(c:AV),cs[j]? =some c->w.cell? ⟨b,off+j,none⟩=some (u j))/\(∀(j:Nat)(c:AV),cs[j]? =some c->VR w R c (u j))/\Fl cs
theorem VR.Ww{R:Nat->Nat}{cs:List AV}{v:Value}(h:VR w R (.sp cs) v):∃b off,v=.pointer (some ⟨b,off,none⟩)/\off+cs.length<=R b/\At w R b off cs:=by cases h with|sp _ b off u hf hR hc hr=>exact⟨b,off,rfl,hR,u,hc,hr,hf⟩
def zR(own:Bool)(v:Value):Prop:=v=.slice none 0 0\/(own=false/\∃a cap,v=.slice (some a) 0 cap)
theorem zR.own{v:Value}(h:zR true v):v=.slice none 0 0:=h.elim id fun h=>by cases h.1
theorem zR.ex{own:Bool}{v:Value}(h:zR own v):∃base cap,v=.slice base 0 cap:=by
 rcases h with h|⟨_,a,cap,h⟩
 ·exact⟨_,_,h⟩
 ·exact⟨_,_,h⟩
theorem VR.hZ{R:Nat->Nat}{own:Bool}{sz m:Nat}{cs:List AV}{v:Value}(h:VR w R (.sl own sz m cs) v):
 (zR own v/\m=0/\cs=[])\/∃b off cap,v=.slice (some ⟨b,off,none⟩) m cap/\cs.length=m*sz/\off+cs.length<=R b/\m<=cap/\At w R b off cs:=by
 cases h with
 |slnil=>exact .inl ⟨.inl rfl,rfl,rfl⟩
 |sle=>exact .inl ⟨.inr ⟨rfl,_,_,rfl⟩,rfl,rfl⟩
 |sl _ _ _ _ b off cap u hf hl hR gZ hc hr=>exact .inr ⟨b,off,cap,rfl,hl,hR,gZ,u,hc,hr,hf⟩
theorem VR.Rc{R:Nat->Nat}{f:Nat}{x y:List AV}{v:Value}(h:VR w R (.fn f x y) v):∃vf vc:Array Value,v=.func (.func f) vf vc/\vf.size=x.length/\(∀(j:Nat)(c:AV)(u:Value),x[j]? =some c->vf[j]? =some u->VR w R c u)/\
 vc.size=y.length/\(∀(j:Nat)(c:AV)(u:Value),y[j]? =some c->vc[j]? =some u->VR w R c u):=by
 cases h with|fn _ _ _ vf vc h1 h2 h3 h4=>exact⟨vf,vc,rfl,h1,h2,h3,h4⟩
def runs(P:Program)(a:Act)(op:Op)(ty:TypeId)(w:World)(v:Value):Prop:=∀(d:Option Tmp)(pos:String)(after:Array Edge)(g:Option (Nat×Bool)),(execOp a.eval ⟨d,op,ty,pos,after,g⟩).run P w=.ok (.value v) w
theorem ad0(h:Inv G n D E a w){op:Op}{ty:TypeId}{x:IX}(hc:ao P op ty (.jL false x)=true){av:AV}(hv:gx (pv (.jL false x) (xg true E) E) av):
 ∃v,runs P a op ty w v/\NR G w E a av v:=by
 have key:∀y,bJ y x=true->NR G w E a av (a.eval y):=fun y hy=>by
  have hb:=BR.aN h hy
  have hv':gx (Us (xg true E x)) av:=hv
  unfold Us at hv'
  cases hi:dt (xg true E x)with
  |false=>rw[hi]at hv';exact hv'.no.elim
  |true=>
   rw[hi]at hv'
   rw[hv'.dv]
   exact NR.view hi (hb.vr hi)
 cases op<;>first|(simp[ao]at hc;done)|skip
 ·rename_i y
  exact⟨a.eval y,fun _ _ _ _=>rfl,key y hc⟩
 ·rename_i y
  exact⟨a.eval y,fun _ _ _ _=>rfl,key y hc⟩
theorem agT{g:Bool}{x:IX}{v:Value}{p:Bool}(hg:g=true)(hx:XR G w E a x (E.x x) v)(h:V4 (E.x x)=some (g,p)):v=.bool p:=by
 subst hg
 generalize E.x x=av at*
 unfold V4 at h
 split at h
 ·injection h with h;injection h with _ h;subst h;cases hx;rfl
 ·injection h with h;injection h with h1 h2;subst h1;subst h2
  have:=hx rfl rfl
  cases this;rfl
 ·cases h
theorem V5{g:Bool}{x:IX}{v:Value}{p:Bool}(hg:g=true)(hx:XR G w E a x (E.x x) v)(h:gv2 (E.x x)=some (g,p)):v=.bool p:=by
 refine agT hg hx ?_
 unfold gv2 at h
 split at h
 ·injection h with h;injection h with h1 _;rw[hg]at h1;cases h1
 ·exact h
theorem aac(h:Inv G n D E a w){op:Op}{ty:TypeId}{c x y:IX}(hc:ao P op ty (.pick c x y)=true){av:AV}(hv:gx (pv (.pick c x y) (xg true E) E) av):
 ∃v,runs P a op ty w v/\NR G w E a av v:=by
 cases op<;>first|(simp[ao]at hc;done)|skip
 rename_i c' x' y'
 simp only[ao,Bool.and_eq_true]at hc
 have hbc:=BR.aN h hc.1.1
 have hbx:=XR.aN h hc.1.2
 have hby:=XR.aN h hc.2
 have hv':gx (Lb (E.x x) (E.x y) (xg true E c)) av:=hv
 generalize xg true E c=cv at hbc hv'
 unfold Lb at hv'
 split at hv'
 ·rename_i b
  have hcv:a.eval c'=.bool b:=VR.fZ hbc
  unfold XK at hv'
  split at hv'
  ·rename_i g1 p g2 q hp hq
   rcases hv' with hv'|⟨c1,hv',hc1⟩
   ·cases hv'
   injection hv' with h1 h2
   subst h1 h2
   refine⟨.bool (bif b then p else q),fun _ _ _ _=>?_,NR.mk rfl (.bool _) rfl⟩
   cases b with
   |true=>
    have:=V5 (hc1.1 rfl) hbx hp
    simp[execOp,hcv,asBool,this]
   |false=>
    have:=V5 (hc1.2 rfl) hby hq
    simp[execOp,hcv,asBool,this]
  ·exact hv'.no.elim
 ·exact hv'.no.elim
theorem aif(h:Inv G n D E a w){op:Op}{ty:TypeId}{uo:UnOp}{x:IX}(hc:ao P op ty (.un uo x)=true){av:AV}(hv:gx (pv (.un uo x) (xg true E) E) av):
 ∃v,runs P a op ty w v/\NR G w E a av v:=by
 cases op<;>first|(simp[ao]at hc;done)|skip
 rename_i u t y
 simp only[ao,Bool.and_eq_true,decide_eq_true_eq]at hc
 obtain⟨rfl,hy⟩:=hc
 have hb:=BR.aN h hy
 have hv':gx (unV uo (xg true E x)) av:=hv
 generalize xg true E x=xv at hb hv'
 unfold unV at hv'
 split at hv'
 ·rename_i b
  have e:a.eval y=.bool b:=VR.fZ hb
  rw[hv'.dv]
  exact⟨.bool (!b),fun _ _ _ _=>by simp[execOp,e,Op.unary],NR.mk rfl (.bool _) rfl⟩
 ·rename_i k m
  have e:a.eval y=.int k m:=VR.ct hb
  rw[hv'.dv]
  exact⟨.int k (k.wrap (0 -m)),fun _ _ _ _=>by simp[execOp,e,Op.unary,Op.intArith],NR.mk rfl (.int _ _) rfl⟩
 ·exact hv'.no.elim
theorem Uy(h:Inv G n D E a w){op:Op}{ty:TypeId}{k:IntKind}{x:IX}(hc:ao P op ty (.jI k x)=true){av:AV}(hv:gx (pv (.jI k x) (xg true E) E) av):
 ∃v,runs P a op ty w v/\NR G w E a av v:=by
 cases op<;>first|(simp[ao]at hc;done)|skip
 rename_i s t y
 simp only[ao,Bool.and_eq_true]at hc
 obtain⟨hy,hc2⟩:=hc
 split at hc2
 ·rename_i k1 k2 hs ht
  have:=of_decide_eq_true hc2
  subst this
  have hb:=BR.aN h hy
  have hv':gx (wW k (xg true E x)) av:=hv
  generalize xg true E x=xv at hb hv'
  unfold wW at hv'
  split at hv'
  ·rename_i k' m
   have e:a.eval y=.int k' m:=VR.ct hb
   rw[hv'.dv]
   exact⟨.int k (k.wrap m),fun _ _ _ _=>by simp[execOp,e,convert,underlying,hs,ht,Conv.intToInt],NR.mk rfl (.int _ _) rfl⟩
  ·exact hv'.no.elim
 ·cases hc2
theorem PU(h:Inv G n D E a w){op:Op}{ty:TypeId}{x:IX}(hc:ao P op ty (.nilCheck x)=true){av:AV}(hv:gx (pv (.nilCheck x) (xg true E) E) av):
 ∃v,runs P a op ty w v/\NR G w E a av v:=by
 cases op<;>first|(simp[ao]at hc;done)|skip
 rename_i y
 have hb:=BR.aN h hc
 have hv':gx (mD (xg true E x)) av:=hv
 generalize xg true E x=xv at hb hv'
 unfold mD at hv'
 split at hv'
 ·rename_i b o
  have e:a.eval y=.pointer (some ⟨b,o,none⟩):=VR.iQ hb
  rw[hv'.dv]
  exact⟨_,fun _ _ _ _=>by simp[execOp,e],NR.mk rfl (.ref _ _) rfl⟩
 ·exact hv'.no.elim
theorem adT(h:Inv G n D E a w){op:Op}{ty:TypeId}{bo:BinOp}{x y:IX}(hc:ao P op ty (.bin bo x y)=true){av:AV}(hv:gx (pv (.bin bo x y) (xg true E) E) av):
 ∃v,runs P a op ty w v/\NR G w E a av v:=by
 cases op<;>first|(simp[ao]at hc;done)|skip
 rename_i b t u v yt
 simp only[ao,Bool.and_eq_true,decide_eq_true_eq]at hc
 obtain⟨⟨rfl,hx⟩,hy⟩:=hc
 have hbx:=BR.aN h hx
 have hby:=BR.aN h hy
 have hv':gx (QC bo (xg true E x) (xg true E y)) av:=hv
 generalize xg true E x=xv at hbx hv'
 generalize xg true E y=yv at hby hv'
 unfold QC at hv'
 split at hv'
 ·rename_i k p k' q
  have e1:a.eval u=.int k p:=VR.ct hbx
  have e2:a.eval v=.int k' q:=VR.ct hby
  have fin:∀(V:AV)(r:Value),dt V=true->AB.view V=V->VR w G.R V r->gx (kk k k' (.dv V)) av->(k=k'->runs P a (.binOp bo t u v yt) ty w r)->∃v',runs P a (.binOp bo t u v yt) ty w v'/\NR G w E a av v':=by
   intro V r h1 h2 h3 h4 h5
   unfold kk Ui at h4
   by_cases hk:k=k'
   ·rw[decide_eq_true hk]at h4
    rw[h4.dv]
    exact⟨r,h5 hk,NR.mk h1 h3 h2⟩
   ·rw[decide_eq_false hk]at h4;exact h4.no.elim
  cases bo
  case shl=>
   obtain⟨rfl,h0⟩:=gx.prt hv'
   exact⟨_,fun _ _ _ _=>by simp[execOp,e1,e2,eqGuard,binOp,Op.shift,Int.not_lt.2 h0,nX],NR.mk rfl (.int _ _) rfl⟩
  case shr=>
   obtain⟨rfl,h0⟩:=gx.prt hv'
   exact⟨_,fun _ _ _ _=>by simp[execOp,e1,e2,eqGuard,binOp,Op.shift,Int.not_lt.2 h0],NR.mk rfl (.int _ _) rfl⟩
  case quo=>
   have lG:gx (kk k k' (.prt (q≠0) (.int k (nX k (p.tdiv q))))) av:=hv'
   unfold kk Ui at lG
   by_cases hk:k=k'
   ·rw[decide_eq_true hk]at lG
    obtain⟨rfl,h0⟩:=gx.prt lG
    subst hk
    exact⟨_,fun _ _ _ _=>by simp[execOp,e1,e2,eqGuard,binOp,Op.intDiv,h0,nX],NR.mk rfl (.int _ _) rfl⟩
   ·rw[decide_eq_false hk]at lG;exact lG.no.elim
  case rem=>
   have lG:gx (kk k k' (.prt (q≠0) (.int k (p.tmod q)))) av:=hv'
   unfold kk Ui at lG
   by_cases hk:k=k'
   ·rw[decide_eq_true hk]at lG
    obtain⟨rfl,h0⟩:=gx.prt lG
    subst hk
    exact⟨_,fun _ _ _ _=>by simp[execOp,e1,e2,eqGuard,binOp,Op.intDiv,h0],NR.mk rfl (.int _ _) rfl⟩
   ·rw[decide_eq_false hk]at lG;exact lG.no.elim
  case add=>exact fin _ _ rfl rfl (.int _ _) hv' fun hk _ _ _ _=>by subst hk;simp[execOp,e1,e2,eqGuard,binOp,Op.intArith,nX]
  case sub=>exact fin _ _ rfl rfl (.int _ _) hv' fun hk _ _ _ _=>by subst hk;simp[execOp,e1,e2,eqGuard,binOp,Op.intArith,nX]
  case mul=>exact fin _ _ rfl rfl (.int _ _) hv' fun hk _ _ _ _=>by subst hk;simp[execOp,e1,e2,eqGuard,binOp,Op.intArith,nX]
  case and=>exact fin _ _ rfl rfl (.int _ _) hv' fun hk _ _ _ _=>by subst hk;simp[execOp,e1,e2,eqGuard,binOp,Op.intBits]
  case or=>exact fin _ _ rfl rfl (.int _ _) hv' fun hk _ _ _ _=>by subst hk;simp[execOp,e1,e2,eqGuard,binOp,Op.intBits]
  case xor=>exact fin _ _ rfl rfl (.int _ _) hv' fun hk _ _ _ _=>by subst hk;simp[execOp,e1,e2,eqGuard,binOp,Op.intBits]
  case andNot=>exact fin _ _ rfl rfl (.int _ _) hv' fun hk _ _ _ _=>by subst hk;simp[execOp,e1,e2,eqGuard,binOp,Op.intBits]
  case eql=>exact fin _ _ rfl rfl (.bool _) hv' fun hk _ _ _ _=>by subst hk;simp[execOp,e1,e2,eqGuard,binOp,Op.intCmp]
  case neq=>exact fin _ _ rfl rfl (.bool _) hv' fun hk _ _ _ _=>by subst hk;simp[execOp,e1,e2,eqGuard,binOp,Op.intCmp]
  case lss=>exact fin _ _ rfl rfl (.bool _) hv' fun hk _ _ _ _=>by subst hk;simp[execOp,e1,e2,eqGuard,binOp,Op.intCmp]
  case leq=>exact fin _ _ rfl rfl (.bool _) hv' fun hk _ _ _ _=>by subst hk;simp[execOp,e1,e2,eqGuard,binOp,Op.intCmp]
  case gtr=>exact fin _ _ rfl rfl (.bool _) hv' fun hk _ _ _ _=>by subst hk;simp[execOp,e1,e2,eqGuard,binOp,Op.intCmp]
  case geq=>exact fin _ _ rfl rfl (.bool _) hv' fun hk _ _ _ _=>by subst hk;simp[execOp,e1,e2,eqGuard,binOp,Op.intCmp]
 ·rename_i p q
  have e1:a.eval u=.string ⟨p.toArray⟩:=VR.eW hbx
  have e2:a.eval v=.string ⟨q.toArray⟩:=VR.eW hby
  have tl:∀l:List UInt8,(ByteArray.mk l.toArray).toList=l:=fun l=>by rw[ByteArray.toList_eq]
  cases bo<;>first|exact(gx.no hv').elim|skip
  case add=>
   obtain⟨rfl,h0⟩:=gx.prt hv'
   have h0':p.length+q.length<=9223372036854775807:=by
    have:((p.length+q.length:Nat):Int)<=9223372036854775807:=h0
    omega
   refine⟨.string ⟨(p++q).toArray⟩,fun _ _ _ _=>?_,NR.mk rfl (.str _) rfl⟩
   have hr:=run_string_add_sum (P:=P) w ⟨p.toArray⟩ ⟨q.toArray⟩ (by simpa[ByteArray.size]using h0')
   rw[ByteArray.mk_append_mk]at hr
   simp[execOp,e1,e2,eqGuard,binOp,hr]
  all_goals
   rw[gx.dv hv']
   exact⟨.bool _,fun _ _ _ _=>by simp[execOp,e1,e2,eqGuard,binOp,Op.stringOp,tl],NR.mk rfl (.bool _) rfl⟩
 ·exact hv'.no.elim
theorem adW(h:Inv G n D E a w){op:Op}{ty:TypeId}{ne:Bool}{x y:IX}(hc:ao P op ty (.U4 ne x y)=true){av:AV}(hv:gx (pv (.U4 ne x y) (xg true E) E) av):
 ∃v,runs P a op ty w v/\NR G w E a av v:=by
 cases op<;>first|(simp[ao]at hc;done)|skip
 rename_i b t u v yt
 simp only[ao,Bool.and_eq_true,decide_eq_true_eq]at hc
 obtain⟨⟨⟨rfl,hx⟩,hy⟩,ht⟩:=hc
 have hbx:=BR.aN h hx
 have hby:=BR.aN h hy
 have hv':gx (Q3 ne (xg true E x) (xg true E y)) av:=hv
 generalize xg true E x=xv at hbx hv'
 generalize xg true E y=yv at hby hv'
 have htb:P.underlying t=some .bool:=by
  unfold aa4 at ht
  split at ht
  ·assumption
  ·cases ht
 unfold Q3 at hv'
 split at hv'
 ·rename_i p q
  have e1:a.eval u=.bool p:=VR.fZ hbx
  have e2:a.eval v=.bool q:=VR.fZ hby
  rw[hv'.dv]
  refine⟨.bool ((p==q)!=ne),fun _ _ _ _=>?_,NR.mk rfl (.bool _) rfl⟩
  cases ne<;>simp[execOp,e1,e2,eqGuard,binOp,run_equal_bool w t p q htb]
 ·exact hv'.no.elim
theorem CG{w:World}(d:Nat){t e:TypeId}(hte:P.underlying t=some (.pointer e))(p q:Option Addr)(hpq:p=none\/q=none):
 (Op.equalIn (d+1) t (.pointer p) (.pointer q)).run P w=.ok (p.isNone&&q.isNone) w:=by
 rcases hpq with rfl|rfl
 ·simp[Op.equalIn,run_underlying hte]
 ·cases p<;>simp[Op.equalIn,run_underlying hte]
theorem Bl{w:World}(d:Nat){t e:TypeId}(hte:P.underlying t=some (.slice e))(b:Addr)(l c:Nat):
 (Op.equalIn (d+1) t (.slice (some b) l c) (.slice none 0 0)).run P w=.ok false w:=by
 simp[Op.equalIn,run_underlying hte]
theorem adY(h:Inv G n D E a w){op:Op}{ty:TypeId}{ne:Bool}{x y:IX}(hc:ao P op ty (.Ov ne x y)=true){av:AV}(hv:gx (pv (.Ov ne x y) (xg true E) E) av):
 ∃v,runs P a op ty w v/\NR G w E a av v:=by
 cases op<;>first|(simp[ao]at hc;done)|skip
 rename_i b t u v yt
 simp only[ao,Bool.and_eq_true,decide_eq_true_eq]at hc
 obtain⟨⟨⟨rfl,hx⟩,hy⟩,ht⟩:=hc
 have hbx:=BR.aN h hx
 have hby:=BR.aN h hy
 have hv':gx (Ow ne (xg true E x) (xg true E y)) av:=hv
 generalize xg true E x=xv at hbx hv'
 generalize xg true E y=yv at hby hv'
 have htb:∃e j,P.underlying t=some (.pointer e)/\P.info? e=some j:=by
  unfold ah6 at ht
  split at ht
  ·rename_i e he
   obtain⟨j,hj⟩:=Option.isSome_iff_exists.1 ht
   exact⟨e,j,he,hj⟩
  ·cases ht
 obtain⟨e,je,hte,hje⟩:=htb
 have eqn:∀p q:Option Addr,(p=none\/q=none)->(Op.equal t (.pointer p) (.pointer q)).run P w=.ok (p.isNone&&q.isNone) w:=by exact fun p q hpq=>CG 9999 hte p q hpq
 have fin:∀p q:Option Addr,a.eval u=.pointer p->a.eval v=.pointer q->(p=none\/q=none)->runs P a (.binOp (if ne=true then .neq else .eql) t u v yt) ty w (.bool ((p.isNone&&q.isNone)!=ne)):=by
  intro p q e1 e2 hpq _ _ _ _
  cases ne<;>simp[execOp,e1,e2,eqGuard,binOp,eqn p q hpq]
 unfold Ow at hv'
 split at hv'
 ·rw[hv'.dv]
  refine⟨_,fin _ _ (VR.uU hbx) (VR.uU hby) (.inl rfl),NR.mk rfl ?_ rfl⟩
  cases ne<;>exact .bool _
 ·rw[hv'.dv]
  refine⟨_,fin _ _ (VR.iQ hbx) (VR.uU hby) (.inr rfl),NR.mk rfl ?_ rfl⟩
  cases ne<;>exact .bool _
 ·rw[hv'.dv]
  refine⟨_,fin _ _ (VR.uU hbx) (VR.iQ hby) (.inl rfl),NR.mk rfl ?_ rfl⟩
  cases ne<;>exact .bool _
 ·rename_i b o b' o'
  by_cases hbo:b=b'/\o=o'
  ·obtain⟨rfl,rfl⟩:=hbo
   simp only[beq_self_eq_true,Bool.and_self,cond_true]at hv'
   rw[hv'.dv]
   have e1:=VR.iQ hbx
   have e2:=VR.iQ hby
   have hq:(Op.equal t (.pointer (some ⟨b,o,none⟩)) (.pointer (some ⟨b,o,none⟩))).run P w=.ok true w:=by
    have hd:∀d:Nat,(Op.equalIn (d+1) t (.pointer (some ⟨b,o,none⟩)) (.pointer (some ⟨b,o,none⟩))).run P w=.ok true w:=fun d=>by simp[Op.equalIn,run_underlying hte,sizeOf,typeInfo,hje,run_sameAddr_same]
    exact hd 9999
   refine⟨.bool (!ne),fun _ _ _ _=>?_,NR.mk rfl (.bool _) rfl⟩
   cases ne<;>simp[execOp,e1,e2,eqGuard,binOp,hq]
  ·have:(b==b'&&o==o')=false:=by
    cases hh:(b==b'&&o==o')with
    |false=>rfl
    |true=>simp at hh;exact absurd hh hbo
   rw[this]at hv'
   exact hv'.no.elim
 ·exact hv'.no.elim
end
end Go.AB
end
section
namespace Go.AB
open Go
theorem add_eq(b off i:Nat):(⟨b,off,none⟩:Addr).add i=⟨b,off+i,none⟩:=by
 unfold Addr.add
 by_cases h:i=0<;>simp[h]
theorem cell_of_row(w:World){b:Nat}{c:Array Value}{t:TypeId}{fr:Nat×Nat}(hg:w.heap[b]? =some (.cells c t fr))(j:Nat):w.cell? ⟨b,j,none⟩=c[j]? :=by
 unfold World.cell?
 rw[hg];simp
theorem E7(cs:List AV)(off n j:Nat):(sub cs off n)[j]? =if j<n then cs[off+j]? else none:=by
 unfold sub
 rw[List.getElem?_take]
 split
 ·rw[List.getElem?_drop]
 ·rfl
theorem eK(cs:List AV)(j:Nat):(views cs)[j]? =(cs[j]?).map view:=by simp[views]
section
variable{P:Program}{G:Gh}{n:Nat}{D:List Deferred}{E:St}{a:Act}{w:World}
theorem At.views{R:Nat->Nat}{b off:Nat}{cs:List AV}(h:At w R b off cs):At w R b off (views cs):=by
 obtain⟨u,h1,h2,hf⟩:=h
 refine⟨u,fun j c hj=>?_,fun j c hj=>?_,hf.views⟩<;>rw[eK]at hj<;>cases hc:cs[j]? <;>rw[hc]at hj<;>simp at hj
 ·exact h1 j _ hc
 ·rw[<-hj];exact(h2 j _ hc).view
theorem At.sub{R:Nat->Nat}{b off:Nat}{cs:List AV}(h:At w R b off cs)(o n:Nat):At w R b (off+o) (sub cs o n):=by
 obtain⟨u,h1,h2,hf⟩:=h
 refine⟨fun j=>u (o+j),fun j c hj=>?_,fun j c hj=>?_,hf.sub o n⟩<;>rw[E7]at hj<;>split at hj<;>try(cases hj;done)
 ·rw[Nat.add_assoc];exact h1 _ c hj
 ·exact h2 _ c hj
theorem At.PK{b:Nat}{cs:List AV}{c:Array Value}{t:TypeId}{fr:Nat×Nat}{o:Nat->cS}(hh:w.heap[b]? =some (.cells c t fr))(hc:du G w o cs c)(hf:Fl cs):At w G.R b 0 cs:=by
 refine⟨fun j=>c.getD j undef,fun j x hj=>?_,fun j x hj=>?_,hf⟩
 all_goals
  have hlt:j<c.size:=by rw[hc.1];exact(List.getElem?_eq_some_iff.1 hj).1
  have hcj:c[j]? =some (c.getD j undef):=by simp[Array.getD_eq_getD_getElem?,hlt]
 ·rw[Nat.zero_add,cell_of_row w hh,hcj]
 ·exact(hc.2 j x _ hj hcj).1
theorem Lq(cs:List AV)(off n:Nat):AB.sub (AB.views cs) off n=AB.views (AB.sub cs off n):=by simp[AB.sub,AB.views,List.map_drop,List.map_take]
theorem At.K5{b:Nat}{cs:List AV}{c:Array Value}{t t':TypeId}{fr:Nat×Nat}{o:Nat->cS}(hh:w.heap[b]? =some (.cells c t fr))(hc:du G w o cs c)(hf:CW t' cs):At w G.R b 0 (AB.views cs):=by
 refine⟨fun j=>c.getD j undef,fun j x hj=>?_,fun j x hj=>?_,hf.views⟩
 all_goals
  have hlt:j<c.size:=by rw[hc.1];have:=(List.getElem?_eq_some_iff.1 hj).1;simpa[AB.views]using this
  have hcj:c[j]? =some (c.getD j undef):=by simp[Array.getD_eq_getD_getElem?,hlt]
 ·rw[Nat.zero_add,cell_of_row w hh,hcj]
 ·have ahe:j<cs.length:=by rw[<-hc.1];exact hlt
  have hx:AB.view cs[j]=x:=by
   simp only[AB.views,List.getElem?_map,List.getElem?_eq_getElem ahe,Option.map_some]at hj
   injection hj
  rw[<-hx]
  exact(hc.2 j cs[j] _ (List.getElem?_eq_getElem ahe) hcj).1.view
theorem sZ{n off:Nat}{cs ds:List AV}(h:gy n off cs=some ds):off+n<=cs.length/\ds=views (sub cs off n):=by
 unfold gy at h
 by_cases hl:off+n<=cs.length
 ·rw[decide_eq_true hl]at h;injection h with h;exact⟨hl,h.symm⟩
 ·rw[decide_eq_false hl]at h;cases h
theorem j7{cs:List AV}{off n:Nat}(h:off+n<=cs.length):(AB.sub cs off n).length=n:=by unfold AB.sub;simp;omega
theorem Hv(h:Inv G n D E a w){x:IX}{p:AV}{v:Value}(hb:BR G w E a x p v){m:Nat}{cs:List AV}(hr:rd E p m=some cs):
 ∃b off,v=.pointer (some ⟨b,off,none⟩)/\cs.length=m/\At w G.R b off cs/\views cs=cs:=by
 have vv:∀l:List AV,views (views l)=views l:=fun l=>by simp[views,mT,Function.comp_def]
 unfold rd at hr
 split at hr
 ·rename_i ds
  obtain⟨hl,rfl⟩:=sZ hr
  obtain⟨i,b,c,t,_,_,_,hv,_,_,hh,hc,hfl⟩:=hb
  have hat:=((At.PK hh hc hfl).sub 0 m).views
  simp only[Nat.add_zero]at hat
  exact⟨b,0,hv,by simp[AB.views,j7 hl],hat,vv _⟩
 ·rename_i d off
  unfold ml at hr
  split at hr
  ·rename_i ds hd
   obtain⟨hl,rfl⟩:=sZ hr
   obtain⟨b,hv,ht⟩:=hb
   have ht:=ht ds hd
   have hs:=h.ch d _ ht
   rw[hd]at hs
   obtain⟨b',c,t,h1,h2,h3,h4,h5,h6⟩:=hs
   injection h1 with h1;injection h1 with h1;injection h1 with h1 _ _
   subst h1
   have hat:=((At.PK h4 h5 h6).sub off m).views
   rw[Nat.zero_add]at hat
   exact⟨b,off,hv,by simp[AB.views,j7 hl],hat,vv _⟩
  ·cases hr
 ·rename_i ds
  obtain⟨hl,rfl⟩:=sZ hr
  obtain⟨b,off,hv,hR,hat⟩:=VR.Ww hb
  have hat:=(hat.sub 0 m).views
  exact⟨b,off,hv,by simp[AB.views,j7 hl],hat,vv _⟩
 ·rename_i b off
  unfold wh at hr
  split at hr
  ·rename_i ds hs
   obtain⟨hl,rfl⟩:=sZ hr
   have hv:=VR.iQ hb
   obtain⟨h1,h2,c,t,h3,h4,h5⟩:=h.store b _ hs
   have hat:=(At.K5 h3 h4 h5).sub off m
   rw[Nat.zero_add,Lq]at hat
   exact⟨b,off,hv,by simp[AB.views,j7 hl],hat,vv _⟩
  ·cases hr
 ·cases hr
theorem mM{t:TypeId}{m:Nat}(h:c8 P t m=true):∃i,P.info? t=some i/\i.size=m:=by
 unfold c8 at h
 split at h
 ·exact⟨_,by assumption,by simpa using h⟩
 ·cases h
theorem run_sizeOf{t:TypeId}{m:Nat}(h:c8 P t m=true)(w:World):(sizeOf t).run P w=.ok m w:=by
 obtain⟨i,h1,h2⟩:=mM h
 simp[sizeOf,typeInfo,h1,h2]
theorem xl{t:TypeId}{multi:Bool}(h:rm P t multi=true)(w:World):(isAgg t).run P w=.ok multi w:=by
 unfold rm at h
 split at h
 ·rename_i hh;subst h;simp[isAgg,underlying,hh]
 ·rename_i hh;subst h;simp[isAgg,underlying,hh]
 ·rename_i d h1 h2 hh
  have hm:multi=false:=by simpa using h
  subst hm
  simp only[isAgg,underlying,run_program,Sem.run_bind,Result.andThen_ok,hh,Sem.run_pure]
 ·cases h
theorem At.od{R:Nat->Nat}{b off:Nat}{cs:List AV}(h:At w R b off cs):∃us:List Value,us.length=cs.length/\(∀(j:Nat)(v:Value),us[j]? =some v->w.cell? ((⟨b,off,none⟩:Addr).add j)=some v)/\
 (∀(j:Nat)(c:AV)(v:Value),cs[j]? =some c->us[j]? =some v->VR w R c v):=by
 obtain⟨u,h1,h2,_⟩:=h
 have key:∀(j:Nat)(v:Value),((List.range cs.length).map u)[j]? =some v->∃hj:j<cs.length,v=u j:=by
  intro j v hj
  rw[List.getElem?_map]at hj
  by_cases hlt:j<cs.length
  ·rw[List.getElem?_range hlt]at hj;simp at hj;exact⟨hlt,hj.symm⟩
  ·rw[List.getElem?_eq_none (by simpa using hlt)]at hj;simp at hj
 refine⟨(List.range cs.length).map u,by simp,fun j v hj=>?_,fun j c v hc hj=>?_⟩
 ·obtain⟨hlt,rfl⟩:=key j v hj
  rw[add_eq]
  exact h1 j cs[j] (List.getElem?_eq_getElem hlt)
 ·obtain⟨_,rfl⟩:=key j v hj
  exact h2 j c hc
theorem qN{R:Nat->Nat}{t:TypeId}{m:Nat}{multi:Bool}(hs:c8 P t m=true)(hm:rm P t multi=true)(h1:(multi||m==1)=true){b off:Nat}{cs:List AV}(hl:cs.length=m)(hat:At w R b off cs):
 ∃v,(loadVar t ⟨b,off,none⟩).run P w=.ok v w/\VR w R (rn multi cs) v:=by
 have hfl:Fl cs:=by obtain⟨_,_,_,hf⟩:=hat;exact hf
 obtain⟨us,hul,hc,hv⟩:=hat.od
 cases multi with
 |true=>
  have:=run_loadCells_list (P:=P) w ⟨b,off,none⟩ us hc
  rw[hul,hl]at this
  refine⟨.agg us.toArray,by simp[loadVar,xl hm,run_sizeOf hs,this],?_⟩
  show VR w R (.agg cs) _
  exact .agg cs us.toArray hfl (by simp[hul]) fun j c v hcj hvj=>hv j c v hcj (by simpa using hvj)
 |false=>
  have hm1:m=1:=by simpa using h1
  subst hm1
  match cs,hl with
  |[c],_=>
   match us,hul with
   |[u],_=>
    have h0:=hc 0 u rfl
    rw[add_eq]at h0
    refine⟨u,by simp[loadVar,xl hm,show(w.cell? ⟨b,off,none⟩)=some u from h0],hv 0 c u rfl rfl⟩
theorem VB{a av:AV}(h:gx (ckV a) av):av=a/\dt a=true:=by
 unfold ckV at h
 cases hi:dt a with
 |true=>rw[hi]at h;exact⟨h.dv,rfl⟩
 |false=>rw[hi]at h;exact h.no.elim
theorem Iy{multi:Bool}{cs:List AV}(hv:views cs=cs):AB.view (rn multi cs)=rn multi cs:=by
 cases multi with
 |true=>rfl
 |false=>cases cs with
  |nil=>rfl
  |cons c l=>simp only[views,List.map_cons,List.cons.injEq]at hv;exact hv.1
theorem MU(h:Inv G n D E a w){op:Op}{ty:TypeId}{m:Nat}{multi:Bool}{x:IX}(hc:ao P op ty (.load m multi x)=true){av:AV}(hv:gx (pv (.load m multi x) (xg true E) E) av):
 ∃v,runs P a op ty w v/\NR G w E a av v:=by
 cases op<;>first|(simp[ao]at hc;done)|skip
 rename_i t y
 simp only[ao,Bool.and_eq_true]at hc
 obtain⟨⟨⟨hs,hm⟩,h1⟩,hy⟩:=hc
 have hb:=BR.aN h hy
 have hv':gx (jF multi (rd E (xg true E x) m)) av:=hv
 cases hr:rd E (xg true E x) m with
 |none=>rw[hr]at hv';exact hv'.no.elim
 |some cs=>
  rw[hr]at hv'
  obtain⟨rfl,hi⟩:=VB hv'
  obtain⟨b,off,e,hl,hat,hvw⟩:=Hv h hb hr
  obtain⟨v,b7,hvr⟩:=qN hs hm h1 hl hat
  exact⟨v,fun _ _ _ _=>by simp[execOp,e,Instr.loadAt,Instr.sureAddr,b7],NR.mk hi hvr (Iy hvw)⟩
theorem E6{t:TypeId}(h:UW P t=true):P.underlying t=some .string:=by
 unfold UW at h
 split at h
 ·assumption
 ·cases h
theorem UC(h:Inv G n D E a w){op:Op}{ty:TypeId}{x i:IX}(hc:ao P op ty (.iK x i)=true){av:AV}(hv:gx (pv (.iK x i) (xg true E) E) av):
 ∃v,runs P a op ty w v/\NR G w E a av v:=by
 cases op<;>first|(simp[ao]at hc;done)|skip
 rename_i t y j
 simp only[ao,Bool.and_eq_true]at hc
 obtain⟨⟨hy,hj⟩,ht⟩:=hc
 have ht:=E6 ht
 have hb:=BR.aN h hy
 have hbi:=BR.aN h hj
 have hv':gx (xp (xg true E x) (xg true E i)) av:=hv
 generalize xg true E x=xv at hb hv'
 generalize xg true E i=iv at hbi hv'
 unfold xp at hv'
 split at hv'
 ·rename_i s k q
  obtain⟨rfl,h0,hlt⟩:=hv'.prt
  have e1:a.eval y=.string ⟨s.toArray⟩:=VR.eW hb
  have e2:a.eval j=.int k q:=VR.ct hbi
  have hq:q.toNat<s.length:=by omega
  have hg:(ByteArray.mk s.toArray)[q.toNat]? =some (s.getD q.toNat 0):=by
   have hsz:q.toNat<(ByteArray.mk s.toArray).size:=by simpa[ByteArray.size]using hq
   rw[show(ByteArray.mk s.toArray)[q.toNat]? =some ((ByteArray.mk s.toArray)[q.toNat]'hsz) from getElem?_pos (ByteArray.mk s.toArray) q.toNat hsz]
   have:(ByteArray.mk s.toArray)[q.toNat]=s.toArray[q.toNat]'(by simpa using hq):=rfl
   rw[this]
   simp[List.getD_eq_getElem?_getD,List.getElem?_eq_getElem hq]
  refine⟨.int .u8 (s.getD q.toNat 0).toNat,fun _ _ _ _=>by simp[execOp,e1,e2,Instr.index,underlying,ht,asIntOf,h0,hg],NR.mk rfl (.int _ _) rfl⟩
 ·exact hv'.no.elim
theorem dw{t e:TypeId}(h:dp P t=some e):P.underlying t=some (.slice e):=by
 unfold dp at h
 split at h
 ·rename_i ht;injection h with h;subst h;exact ht
 ·cases h
theorem MS(h:Inv G n D E a w){op:Op}{ty:TypeId}{off:Nat}{x:IX}(hc:ao P op ty (.fieldAddr off x)=true){av:AV}(hv:gx (pv (.fieldAddr off x) (xg true E) E) av):
 ∃v,runs P a op ty w v/\NR G w E a av v:=by
 cases op<;>first|(simp[ao]at hc;done)|skip
 rename_i t y i
 simp only[ao,Bool.and_eq_true]at hc
 obtain⟨hy,hc⟩:=hc
 split at hc<;>try(cases hc;done)
 rename_i fs ht
 split at hc<;>try(cases hc;done)
 rename_i f hf
 simp only[Bool.and_eq_true,beq_iff_eq]at hc
 obtain⟨rfl,hsz⟩:=hc
 split at hsz<;>try(cases hsz;done)
 rename_i ti hti
 have oF:ti.size≠0:=by have:=of_decide_eq_true hsz;omega
 have hb:=BR.aN h hy
 have b7:∀b o,a.eval y=.pointer (some ⟨b,o,none⟩)->runs P a (.fieldAddr t y i) ty w (.pointer (some ⟨b,o+f.offset,none⟩)):=by
  intro b o e _ _ _ _
  simp[execOp,e,Instr.fieldAt,underlying,ht,hf,Instr.sureAddr,fieldPlace,sizeOf,typeInfo,hti,oF,add_eq]
 have hv':gx (gm f.offset x (xg true E x)) av:=hv
 generalize hxv:xg true E x=xv at hb hv'
 unfold gm at hv'
 split at hv'
 ·rename_i d o
  rw[hv'.dv]
  obtain⟨b,h1,h2⟩:=hb
  exact⟨_,b7 b o h1,b,rfl,h2⟩
 ·rename_i cs
  by_cases dL:f.offset<=cs.length
  ·rw[decide_eq_true dL]at hv'
   rw[hv'.dv]
   obtain⟨b,o,e,hR,u,h1,h2,hfl⟩:=VR.Ww hb
   refine⟨_,b7 b o e,NR.mk rfl (.sp _ b (o+f.offset) (fun j=>u (f.offset+j)) (hfl.drop _) (by simp;omega) (fun j c hj=>?_) (fun j c hj=>?_)) rfl⟩
   ·rw[List.getElem?_drop]at hj
    rw[Nat.add_assoc];exact h1 _ c hj
   ·rw[List.getElem?_drop]at hj
    exact h2 _ c hj
  ·rw[decide_eq_false dL]at hv';exact hv'.no.elim
 ·rename_i b o
  rw[hv'.dv]
  exact⟨_,b7 b o (VR.iQ hb),NR.mk rfl (.ref _ _) rfl⟩
 ·rename_i cs
  unfold ZF at hv'
  split at hv'
  ·rename_i j
   obtain⟨rfl,_⟩:=hv'.prt
   obtain⟨i',b,c,t',e1,hl,htm,hvv,_⟩:=hb
   injection e1 with e1
   subst e1
   exact⟨_,b7 b 0 hvv,b,by rw[Nat.zero_add],fun _ _=>by rw[htm,hvv]⟩
  ·exact hv'.no.elim
 ·exact hv'.no.elim
end
end Go.AB
end
