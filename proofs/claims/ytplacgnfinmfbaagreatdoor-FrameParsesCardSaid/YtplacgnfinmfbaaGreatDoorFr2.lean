/- A part. -/
import Derived.Test.YtplacgnfinmfbaaGreatDoorFr1
import Derived.Laws.Cells
import Derived.Laws.Strings
import Derived.Laws.Pointers
import Derived.Laws.Small
import Derived.LaidEqlPtr
import Derived.Laws.Concat
import Derived.Laws.BytesArg
import Derived.Laws.StructEq
set_option linter.defProp false
set_option linter.unusedSimpArgs false
set_option linter.unusedVariables false
section
namespace Go.AB
open Go
def cR:Value->AV->Bool
 |.bool a,.bool b=>a==b
 |.int k n,.int k' m=>decide (k=k')&&n==m
 |.string s,.str t=>s.data.toList==t
 |.pointer none,.fO=>true
 |.slice none 0 0,.sl _ _ 0 []=>true
 |.slice none 0 0,.arr _ _ 0 0=>true
 |.slice none 0 0,.bb _ 0 []=>true
 |.map none,.tH=>true
 |.nilFunc,.p8=>true
 |.nilIface,.l9=>true
 |_,_=>false
def JQ:List Value->List AV->Bool
 |[],[]=>true
 |v::vs,a::as=>cR v a&&JQ vs as
 |_,_=>false
def cj:Operand->IX->Bool
 |.tmp t,.t i=>t==i
 |.const (.agg vs),.c (.agg cs)=>JQ vs.toList cs
 |.const v,.c a=>cR v a
 |.func f,.c (.fn g [] [])=>f==g
 |_,_=>false
def jB:List Operand->List IX->Bool
 |[],[]=>true
 |o::os,x::xs=>cj o x&&jB os xs
 |_,_=>false
def DS:Option Operand->Option IX->Bool
 |none,none=>true
 |some o,some x=>cj o x
 |_,_=>false
section
variable(P:Program)
def eM(t:TypeId)(n:Nat):Bool:=match P.info? t with
 |some i=>i.size==n
 |none=>false
def lS(t:TypeId)(n:Nat):Bool:=match P.info? t with
 |some i=>i.bytes==n
 |none=>false
def sH(t:TypeId)(multi:Bool):Bool:=match P.underlying t with
 |some (.struct _)|some (.array _ _)=>multi
 |some _=>!multi
 |none=>false
def oS(t:TypeId)(z:List AV):Bool:=match P.info? t with
 |some i=>(match i.zero with
  |some v=>JQ v.cells.toList z&&i.size==z.length
  |none=>false)
 |none=>false
def cZ(t:TypeId):Option TypeId:=match P.underlying t with
 |some (.slice e)=>some e
 |_=>none
def zh(fs:Array Field):List (Nat×Operand)->List (Nat×Nat×IX)->Bool
 |[],[]=>true
 |(i,o)::r,(off,n,x)::s=>(match fs[i]? with
  |some f=>f.offset==off&&eM P f.type n
  |none=>false)&&cj o x&&zh fs r s
 |_,_=>false
def tM(sz:Nat):List (Nat×Operand)->List (Nat×Nat×IX)->Bool
 |[],[]=>true
 |(i,o)::r,(off,n,x)::s=>i*sz==off&&n==sz&&cj o x&&tM sz r s
 |_,_=>false
def Su(t:TypeId):Bool:=match P.underlying t with
 |some (.int _)=>true
 |_=>false
def Uy(t:TypeId):Bool:=match P.underlying t with
 |some .bool=>true
 |_=>false
def KZ(t:TypeId):Bool:=match P.underlying t with
 |some .string=>true
 |_=>false
def abW(t:TypeId):Bool:=match P.underlying t with
 |some (.pointer e)=>(P.info? e).isSome
 |_=>false
def yF(e:TypeId)(sz:Nat):Bool:=match P.info? e with
 |some i=>(match i.zero with
  |some v=>v.cells.size==sz&&v.cells.toList.all Value.oneCell'
  |none=>false)
 |none=>false
def N4(b:Builtin)(c:Call):Option (List Operand×List TypeId):=match c.callee with
 |.builtin b'=>if b'=b then some (c.args.toList,c.argTypes.toList)else none
 |_=>none
def abk(t:TypeId)(cls:Nat):Bool:=match P.underlying t with
 |some (.slice _)=>cls==0
 |some .string=>cls==1
 |some (.map _ _)=>cls==2
 |_=>false
def aem(t:TypeId)(n:Nat):Bool:=match P.underlying t with
 |some (.array m _)=>n==m
 |_=>false
def ahd(t:TypeId):FK->Bool
 |.int k=>(match P.underlying t with|some (.int k')=>SH k k'|_=>false)
 |.str=>(match P.underlying t with|some .string=>true|_=>false)
 |.bool=>(match P.underlying t with|some .bool=>true|_=>false)
 |.bytes n=>(match P.underlying t with
  |some (.array m e)=>m==n&&(match P.underlying e with|some (.int .u8)=>true|_=>false)&&eM P e 1
  |_=>false)
def af1(t:TypeId)(z:AV):Bool:=match P.info? t with
 |some i=>(match i.zero with
  |some v=>(match z,v with
   |.agg cs,.agg vs=>JQ vs.toList cs
   |z,v=>cR v z)
  |none=>false)
 |none=>false
def EM:List Field->Nat->Bool
 |[],_=>true
 |f::r,k=>f.name != "_" &&f.offset==k&&Su P f.type&&sH P f.type false&&EM r (k+1)
def Yu(t:TypeId)(n:Nat):Bool:=match P.underlying t with
 |some (.struct fs)=>EM P fs.toList 0&&fs.size==n&&!P.stoodInHeld t&&!P.eqGuardType P.depth t
 |_=>false
def aD(op:Op)(_ty:TypeId)(o:sj):Bool:=
 match o,op with
 |.oU _ x,.move y=>cj y x
 |.oU _ x,.assign y=>cj y x
 |.pick c x y,.pick c' x' y'=>cj c' c&&cj x' x&&cj y' y
 |.lQ z,.alloc t=>oS P t z
 |.nv z,.alloc t=>oS P t z
 |.HJ n x,.box t y=>eM P t n&&cj y x
 |.Ad n x,.box t y=>eM P t n&&cj y x
 |.build z ps,.build t qs=>oS P t z&&(match P.underlying t with
  |some (.struct fs)=>zh P fs qs.toList ps&&fs.all fun f=>(P.info? f.type).isSome
  |some (.array _ e)=>(match P.info? e with
   |some i=>tM i.size qs.toList ps
   |none=>false)
  |_=>false)
 |.iZ sz n z ps,.buildSlice t m qs=>n==m&&(match cZ P t with
  |some e=>eM P e sz&&decide (0<sz)&&tM sz qs.toList ps&&decide (n*sz<=2^24)&&(match P.info? e with
   |some i=>(match i.zero with
    |some v=>JQ ((List.replicate n v.cells.toList).flatten) z&&v.cells.size==sz
    |none=>false)
   |none=>false)
  |none=>false)
 |.kj z multi x,.load t y=>eM P t z.length&&sH P t multi&&(multi||z.length==1)&&cj y x
 |.ve x,.move y=>cj y x
 |.ve x,.assign y=>cj y x
 |.my (.t i),.convert s t y=>cj y (.t i)&&s==t&&(match P.underlying s with
  |some (.slice e)=>(match P.underlying e with|some (.int .u8)=>true|_=>false)
  |_=>false)
 |.load n multi x,.load t y=>eM P t n&&sH P t multi&&(multi||n==1)&&cj y x
 |.store n p v,.store t q u=>eM P t n&&cj q p&&cj u v
 |.nilCheck x,.nilCheck y=>cj y x
 |.bin bo x y,.binOp b _ u v _=>decide (bo=b)&&cj u x&&cj v y
 |.UU ne x y,.binOp b t u v _=>decide (b=if ne then .neq else .eql)&&cj u x&&cj v y&&Uy P t
 |.NM ne x y,.binOp b t u v _=>decide (b=if ne then .neq else .eql)&&cj u x&&cj v y&&abW P t
 |.Rk ne x y,.binOp b t u v _=>decide (b=if ne then .neq else .eql)&&cj u x&&cj v y&&(cZ P t).isSome
 |.un uo x,.unOp u _ y=>decide (uo=u)&&cj y x
 |.ko k x,.convert s t y=>cj y x&&(match P.underlying s,P.underlying t with
  |some (.int _),some (.int k')=>decide (k=k')
  |_,_=>false)
 |.jM x,.convert s t y=>cj y x&&(match P.underlying s,P.underlying t with
  |some (.slice e),some .string=>(match P.underlying e with|some (.int .u8)=>true|_=>false)
  |_,_=>false)
 |.iw x,.convert s t y=>cj y x&&(match P.underlying s,P.underlying t with
  |some .string,some (.slice e)=>(match P.underlying e with|some (.int .u8)=>true|_=>false)
  |_,_=>false)
 |.kv x i,.index t y j=>cj y x&&cj j i&&KZ P t
 |.fieldAddr off x,.fieldAddr t y i=>cj y x&&(match P.underlying t with
  |some (.struct fs)=>(match fs[i]? with
   |some f=>f.offset==off&&(match P.info? f.type with|some j=>decide (0<j.size)|none=>false)
   |none=>false)
  |_=>false)
 |.indexAddr z x i,.indexAddr t y j=>cj y x&&cj j i&&(match cZ P t with
  |some e=>eM P e z.length
  |none=>false)
 |.jJ sz len x i,.indexAddr t y j=>cj y x&&cj j i&&(match P.underlying t with
  |some (.array l e)=>l==len&&eM P e sz
  |_=>false)
 |.slice sz x lo hi mx,.slice t y l h m=>cj y x&&DS l lo&&DS h hi&&DS m mx&&(match cZ P t with
  |some e=>eM P e sz
  |none=>false)
 |.ny x lo hi,.slice t y l h none=>cj y x&&DS l lo&&DS h hi&&KZ P t
 |.extract x k,.extract y j=>cj y x&&k==j
 |.len cls x,.call c=>(match N4 .len c with
  |some (y::_,t::_)=>cj y x&&abk P t cls
  |_=>false)
 |.cap x,.call c=>(match N4 .cap c with
  |some (y::_,t::_)=>cj y x&&(cZ P t).isSome
  |_=>false)
 |.mD true xs,.call c=>(match N4 .max c with
  |some (ys,_)=>jB ys xs
  |_=>false)
 |.mD false xs,.call c=>(match N4 .min c with
  |some (ys,_)=>jB ys xs
  |_=>false)
 |.append sz by' x y,.call c=>(match N4 .append c with
  |some ([u,v],[t,t'])=>cj u x&&cj v y&&(match cZ P t with
   |some e=>eM P e sz&&lS P e by'&&decide (0<sz)&&decide (0<by')&&yF P e sz&&((cZ P t').isSome||KZ P t')
   |none=>false)
  |_=>false)
 |.l8 sz by' z l c,.makeSlice t l' c'=>cj l' l&&cj c' c&&(match cZ P t with
  |some e=>eM P e sz&&lS P e by'&&oS P e z&&decide (0<sz)&&decide (0<by')
  |none=>false)
 |.call f args,.call c=>(match c.callee with
  |.value (.func g)=>f==g&&jB c.args.toList args&&(match P.funcs[f]? with
   |some fn=>fn.name != "runtime.NumGoroutine" &&fn.body.isSome
   |none=>false)
  |_=>false)
 |.iq x args,.call c=>(match c.callee with
  |.value y=>cj y x&&jB c.args.toList args
  |_=>false)
 |.tG f a b,.makeFunc (.func g) c d=>f==g&&jB c.toList a&&jB d.toList b
 |.mZ sz n z ps,.buildSlice t m qs=>n==m&&(match cZ P t with
  |some e=>eM P e sz&&decide (0<sz)&&tM sz qs.toList ps&&decide (n*sz<=2^24)&&(match P.info? e with
   |some i=>(match i.zero with
    |some v=>JQ ((List.replicate n v.cells.toList).flatten) z&&v.cells.size==sz
    |none=>false)
   |none=>false)
  |none=>false)
 |.pd sz by' z x y,.call c=>(match N4 .append c with
  |some ([u,v],[t,t'])=>cj u x&&cj v y&&(match cZ P t with
   |some e=>eM P e sz&&lS P e by'&&decide (0<sz)&&decide (0<by')&&yF P e sz&&oS P e z&&((cZ P t').isSome||KZ P t')
   |none=>false)
  |_=>false)
 |.pj sz by' z x y,.call c=>(match N4 .append c with
  |some ([u,v],[t,t'])=>cj u x&&cj v y&&Su P t'&&(match cZ P t with
   |some e=>eM P e sz&&lS P e by'&&decide (0<sz)&&decide (0<by')&&oS P e z
   |none=>false)
  |_=>false)
 |.sO z x,.call c=>(match N4 .clear c with
  |some (u::_,t::_)=>cj u x&&(match cZ P t with
   |some e=>oS P e z
   |none=>false)
  |_=>false)
 |.zU _ _ x,.load t y=>eM P t 1&&sH P t false&&cj y x
 |.R6 _ _ x,.move y=>cj y x
 |.R6 _ _ x,.assign y=>cj y x
 |.nE x,.load t y=>(cZ P t).isSome&&eM P t 1&&sH P t false&&cj y x
 |.nG _ _ x,.load t y=>(cZ P t).isSome&&eM P t 1&&sH P t false&&cj y x
 |.UW ne x,.binOp b t u v _=>decide (b=if ne then .neq else .eql)&&cj u x&&(match v with|.const (.slice none 0 0)=>true|_=>false)&&(cZ P t).isSome
 |.zF f i args,.call c=>args.any (fun x=>match x with|.t j=>j==i|_=>false)&&(match c.callee with
  |.value (.func g)=>f==g&&jB c.args.toList args&&(match P.funcs[f]? with
   |some fn=>fn.name != "runtime.NumGoroutine" &&fn.body.isSome
   |none=>false)
  |_=>false)
 |.RZ ne x,.binOp b t u v _=>decide (b=if ne then .neq else .eql)&&cj u x&&(match v with|.const .nilIface=>true|_=>false)&&(match P.underlying t with|some (.interface _)=>true|_=>false)
 |.H8 x,.convert s t y=>cj y x&&(match P.underlying s with|some (.pointer e)=>(match P.info? e with|some j=>j.size !=0|none=>false)|_=>false)&&(match P.underlying t with|some .unsafePointer=>true|_=>false)
 |.H7 u x,.convert s t y=>cj y x&&(match P.underlying s with|some .unsafePointer=>true|_=>false)&&(match P.underlying t with|some (.pointer e)=>e==u&&(P.info? e).isSome|_=>false)
 |.zG f x,.call c=>(match c.callee with
  |.value (.func g)=>f==g&&jB c.args.toList [x]
  |_=>false)
 |.HL n t j u x,.box t' y=>t==t'&&eM P t n&&cj y x
 |.ph u x y,.call c=>(match N4 .append c with
  |some ([p,q],[t,t'])=>cj p x&&cj q y&&(match cZ P t with
   |some e=>eM P e 1&&lS P e 1&&yF P e 1&&((cZ P t').isSome||KZ P t')&&e==u
   |none=>false)
  |_=>false)
 |.HK _ n x,.box t y=>eM P t n&&cj y x
 |_,_=>false
def RN(ops:Array Oper):Option (Nat×Bool)->Option (Nat×Bool)->Bool
 |none,none=>true
 |some (j,w),some (t,w')=>w==w'&&((ops[j]?).bind (·.dst))==some t
 |_,_=>false
def bN(n:Nat):Option Nat->Bool
 |none=>true
 |some d=>decide (d<n)
def ja(n:Nat)(ops:Array Oper)(o:Oper)(o':aH):Bool:=o.dst==o'.dst&&bN n o'.dst&&RN ops o.guard o'.g&&aD P o.op o.type o'.op
def eD(n:Nat)(ops:Array Oper):List Oper->List aH->Bool
 |[],[]=>true
 |o::r,o'::r'=>ja P n ops o o'&&eD n ops r r'
 |_,_=>false
def oX:Option IX->List IX
 |some x=>[x]
 |none=>[]
def ff:sj->List IX
 |.oU _ x|.HJ _ x|.Ad _ x|.load _ _ x|.nilCheck x|.un _ x|.ko _ x|.jM x|.iw x|.fieldAddr _ x|.extract x _|.len _ x|.cap x|.kj _ _ x|.my x|.ve x|.sO _ x|.R6 _ _ x|.zU _ _ x|.nE x|.UW _ x|.RZ _ x|.H8 x|.zG _ x|.H7 _ x|.HL _ _ _ _ x|.HK _ _ x=>[x]
 |.nG _ j x=>[j,x]
 |.pick c x y=>[c,x,y]
 |.lQ _|.nv _=>[]
 |.build _ ps|.iZ _ _ _ ps|.mZ _ _ _ ps=>ps.map fun p=>p.2.2
 |.store _ x y|.bin _ x y|.UU _ x y|.NM _ x y|.Rk _ x y|.kv x y|.indexAddr _ x y|.jJ _ _ x y|.append _ _ x y|.ph _ x y|.l8 _ _ _ x y|.pd _ _ _ x y|.pj _ _ _ x y=>[x,y]
 |.slice _ x lo hi mx=>x::(oX lo++(oX hi++oX mx))
 |.ny x lo hi=>x::(oX lo++oX hi)
 |.mD _ xs=>xs
 |.call _ xs|.zF _ _ xs=>xs
 |.iq x xs=>x::xs
 |.tG _ xs ys=>xs++ys
def Bd:List IX->List Nat
 |[]=>[]
 |.t i::r=>i::Bd r
 |.c _::r=>Bd r
def Wr:Option (Nat×Bool)->List Nat
 |some (t,_)=>[t]
 |none=>[]
def da(o:aH):List Nat:=Wr o.g++Bd (ff o.op)
def ma(d:Option Nat)(l:List Nat):Bool:=match d with
 |some d=>!l.contains d
 |none=>true
def adk(o:aH)(i:Nat):Bool:=match o.op with
 |.oU true (.t j)=>j==i
 |_=>false
def nL(ops:Array Oper)(j i:Nat):Bool:=match ops[j]? with
 |some o=>o.after.any fun e=>Region.binds .any e&&e.on==i
 |none=>false
def qU(o:aH):Option Nat:=match o with
 |⟨none,.store _ (.t c) _,none⟩=>some c
 |o=>o.dst
def iB(o:aH)(i:Nat):Bool:=match o.op with
 |.oU true (.t j)=>j==i
 |.store _ _ (.t j)=>j==i
 |.append _ _ (.t j) _=>j==i
 |.nG _ (.t j) _=>j==i
 |_=>false
def zW(x y:aH):Bool:=(da y).all fun i=>!iB x i
def V3(o:aH):Bool:=(ff o.op).all fun x=>match x with
 |.c (.lp _ _)=>false
 |.c (.when _ _)=>false
 |_=>true
def Z3(x y:aH):Bool:=(V3 x&&V3 y)&&(zW x y&&zW y x)&&ma (qU x) (da y)&&ma (qU y) (da x)&&(match qU x,qU y with
 |some i,some j=>i !=j
 |_,_=>true)
def PE:sj->Bool
 |.store _ _ _=>true
 |.lQ _=>true
 |.append _ _ _ _=>true
 |.nG _ _ _=>true
 |_=>false
abbrev Item:=Nat×Nat×aH
def GD(acc:List Nat)(o:Oper):Nat:=o.after.toList.foldl (fun s e=>bif Region.binds .any e then s |||(1<<<e.on)|||acc.getD e.on 0 else s) 0
def E9:List Oper->List Nat->List Nat
 |[],acc=>acc
 |o::r,acc=>E9 r (acc++[GD acc o])
def VX(y x:aH):Bool:=zW y x&&ma (qU y) (da x)&&ma x.dst (da y)&&(match qU y,x.dst with
 |some i,some j=>i !=j
 |_,_=>true)
def Gx:aH->aH->Bool
 |⟨_,.load _ _ _,none⟩,⟨_,.l8 _ _ _ _ _,_⟩=>true
 |⟨_,.load _ _ _,none⟩,⟨_,.nE _,_⟩=>true
 |_,_=>false
def U9(k k':Nat)(x y:aH):Bool:=match k,k' with
 |0,0|0,1|1,0|1,1=>Z3 x y
 |1,2=>VX x y
 |0,2=>Gx x y&&VX x y
 |_,_=>false
def ya(ops:Array Oper)(ms:List Nat)(x y:Item):Bool:=!nL ops x.2.1 y.2.1&&(x.2.1 !=y.2.1&&((ms.getD y.2.1 0).testBit x.2.1||
 U9 x.1 y.1 x.2.2 y.2.2))
def GP(ops:Array Oper)(ms:List Nat):List Item->Bool
 |[]=>true
 |x::r=>r.all (ya ops ms x)&&GP ops ms r
def Cr(T:List Nat)(n:Nat)(ops:Array Oper)(x:Item):Bool:=(match ops[x.2.1]? with
 |some o=>ja P n ops o x.2.2&&o.after.all fun e=>!Region.binds .any e||(decide (e.on<ops.size)&&e.on !=x.2.1)
 |none=>false)&&(match x.2.2 with
 |⟨none,.store _ (.t c) _,none⟩=>decide (2<=x.1)||T.contains c
 |⟨some d,.lQ _,none⟩=>T.contains d
 |_=>true)
def V8(T:List Nat)(n:Nat)(ops:Array Oper)(l:List Item):Bool:=(l.length==ops.size&&(List.range ops.size).all fun k=>l.any fun x=>x.2.1==k)&&(l.all (Cr P T n ops)&&GP ops (E9 ops.toList []) l)
def Lf(ops:Array Oper)(iP:List (List Bool)):Bool:=iP.length==ops.size&&(List.range ops.size).all fun j=>
 ((iP.getD j []).length==ops.size&&(List.range ops.size).all fun i=>!((iP.getD j []).getD i false)||nL ops j i)&&(match ops[j]? with
 |some o=>o.after.all fun e=>!Region.binds .any e||decide (e.on<j)
 |none=>false)
def zt:Code->Nat->Option (List Code×Code)
 |.seq (.label m) r,l=>if m==l then some ([],r)else none
 |.seq s c,l=>if(findLabel s l).isNone then(zt c l).map fun p=>(s::p.1,p.2)else none
 |_,_=>none
def wA:IC->Bool
 |.skip=>true
 |_=>false
def mr(n:Nat):Code->IC->Bool
 |.skip,.skip=>true
 |.region _ ops draw,.Vw _ jz _=>eD P n ops ops.toList jz&&!draw
 |.region _ _ _,.TM _ _ _ _=>false
 |.region _ ops draw,.Nn T l _=>draw&&V8 P T n ops l
 |.region _ ops draw,.TN iP jz _=>draw&&(eD P n ops ops.toList jz&&Lf ops iP)
 |.seq a b,.seq a' b'=>mr n a a'&&mr n b b'
 |.seq a b,.join _ a' b'=>mr n a a'&&mr n b b'
 |.cond c a b,.cond c' a' b'=>cj c c'&&mr n a a'&&mr n b b'
 |.block i b,.block j b'=>i==j&&mr n b b'
 |.loop b,.loop _ b'=>mr n b b'
 |.exit i,.exit j=>i==j
 |.scope c,.Dq l _ a1 a2 a3 r'=>match zt c l with
  |some ([],r)=>wA a1&&(wA a2&&(wA a3&&mr n r r'))
  |some ([s1],r)=>mr n s1 a1&&(wA a2&&(wA a3&&mr n r r'))
  |some ([s1,s2],r)=>mr n s1 a1&&(mr n s2 a2&&(wA a3&&mr n r r'))
  |some ([s1,s2,s3],r)=>mr n s1 a1&&(mr n s2 a2&&(mr n s3 a3&&mr n r r'))
  |_=>false
 |.scope b,.scope b'=>mr n b b'
 |.label l,.label l'=>l==l'
 |.goto l,.goto l'=>l==l'
 |.ret,.ret=>true
 |_,.dead=>true
 |_,_=>false
end
theorem xi{v:Value}{a:AV}(h:cR v a=true)(w:World)(R:Nat->Nat):VR w R a v:=by
 unfold cR at h
 split at h
 ·obtain rfl:=beq_iff_eq.1 h;exact .bool _
 ·rw[Bool.and_eq_true]at h;obtain⟨h1,h2⟩:=h;obtain rfl:=of_decide_eq_true h1;obtain rfl:=beq_iff_eq.1 h2;exact .int _ _
 ·obtain rfl:=beq_iff_eq.1 h
  rename_i s
  have:∀b:ByteArray,b=⟨b.data.toList.toArray⟩:=fun b=>by cases b;simp
  conv=>rhs;rw[this s]
  exact .str _
 ·exact .fO
 ·exact .slnil _ _
 ·exact .FX _ _
 ·exact .bb _ _ _ _ (.slnil _ _) (fun _=>rfl)
 ·exact .tH
 ·exact .p8
 ·exact .l9
 ·cases h
def V4{v:Value}{a:AV}(h:cR v a=true):ee a=true:=by
 unfold cR at h
 split at h<;>first|rfl|cases h
def A3{vs:List Value}{as:List AV}(h:JQ vs as=true):vs.length=as.length/\∀(j:Nat)(c:AV)(v:Value),as[j]? =some c->vs[j]? =some v->cR v c=true:=by
 induction vs generalizing as with
 |nil=>cases as with
  |nil=>exact⟨rfl,fun j c v hc=>L_⟩
  |cons=>simp[JQ]at h
 |cons v vs ih=>cases as with
  |nil=>simp[JQ]at h
  |cons a as=>
   simp only[JQ,Bool.and_eq_true]at h
   obtain⟨h1,h2⟩:=ih h.2
   refine⟨by simp[h1],fun j c u hc hu=>?_⟩
   cases j with
   |zero=>simp at hc hu;subst hc;subst hu;exact h.1
   |succ j=>exact h2 j c u M_ (by simpa using hu)
def RA{v:Value}{a:AV}(h:cR v a=true):ql a=true:=by
 unfold cR at h
 split at h<;>first|rfl|cases h
def BI:∀{vs:List Value}{as:List AV},JQ vs as=true->Fl as
 |[],[],_=>Fl.nil
 |v::vs,a::as,h=>by
  simp only[JQ,Bool.and_eq_true]at h
  intro c hc
  rcases List.mem_cons.1 hc with rfl|hc
  ·exact RA h.1
  ·exact BI h.2 c hc
 |[],_::_,h=>by simp[JQ]at h
 |_::_,[],h=>by simp[JQ]at h
def RB{vs:Array Value}{cs:List AV}(h:JQ vs.toList cs=true)(w:World)(R:Nat->Nat):VR w R (.agg cs) (.agg vs):=by
 obtain⟨h1,h2⟩:=A3 h
 exact .agg cs vs (BI h) K_ fun j c v hc hv=>xi (h2 j c v hc (by simpa using hv)) w R
theorem BH{v:Value}{a:AV}(h:cR v a=true)(G:Gh)(w:World)(o:dp):ew G w o a v:=by
 unfold cR at h
 split at h<;>first|(cases h;done)|trivial|skip
 ·rename_i own sz
  cases own with
  |false=>trivial
  |true=>intro base m cap hv hc;injection hv with _ h2 h3;omega
 ·intro base m cap hv hc;injection hv with _ h2 h3;omega
section
variable{P:Program}{G:Gh}{n:Nat}{D:List Deferred}{σ:St}{a:Act}{w:World}
def BR(G:Gh)(w:World)(σ:St)(a:Act)(x:IX):AV->Value->Prop
 |.loc cs,v=>∃i b c t,x=.t i/\look σ.e i=.loc cs/\a.tmps[i]? =some v/\v=.pointer (some ⟨b,0,none⟩)/\G.O b=.loc i/\G.R b=0/\w.heap[b]? =some (.cells c t (0,0))/\dS G w (.cell b) cs c/\Fl cs
 |.lp d off,v=>∃b,v=.pointer (some ⟨b,off,none⟩)/\∀cs,look σ.e d=.loc cs->a.tmps[d]? =some (.pointer (some ⟨b,0,none⟩))
 |.when _ _,_=>True
 |.us _ _ _,_=>True
 |av,v=>VR w G.R av v
def XR(G:Gh)(w:World)(σ:St)(a:Act)(x:IX):AV->Value->Prop
 |.when b av,v=>b=true->inner av=true->BR G w σ a x av v
 |av,v=>BR G w σ a x av v
def BR.vr{x:IX}{av:AV}{v:Value}(h:ee av=true)(hv:BR G w σ a x av v):VR w G.R av v:=by cases av<;>simp_all [ee,BR]
def XR.br{x:IX}{av:AV}{v:Value}(hv:XR G w σ a x av v):BR G w σ a x (vK true av) v:=by
 cases av<;>try exact hv
 rename_i b av
 cases b with
 |false=>
  have:vK true (.when false av)=.undef:=by simp[vK]
  rw[this];exact VR.undef v
 |true=>
  cases hi:inner av with
  |false=>
   have:vK true (.when true av)=.undef:=by simp[vK,hi]
   rw[this];exact VR.undef v
  |true=>
   have:vK true (.when true av)=av:=by simp[vK,hi]
   rw[this];exact hv rfl hi
def XR.Td{i:Nat}(hi:a.tmps[i]? =some (a.eval (.tmp i))){av:AV}(hl:look σ.e i=av)(h:dT G w σ.e a.tmps i av (a.eval (.tmp i))):XR G w σ a (.t i) av (a.eval (.tmp i)):=by
 have base:∀av:AV,(∀cs,av=.loc cs->look σ.e i=.loc cs)->dT G w σ.e a.tmps i av (a.eval (.tmp i))->BR G w σ a (.t i) av (a.eval (.tmp i)):=by
  intro av hl h
  cases av with
  |loc cs=>
   obtain⟨b,c,t,h1,h2,h3,h4,h5⟩:=h
   exact⟨i,b,c,t,rfl,hl cs rfl,hi,h1,h2,h3,h4,h5⟩
  |lp d off=>exact h
  |jV vs=>
   obtain⟨ys,h1,h2⟩:=h
   rw[h1]
   exact VR.jV vs ys h2.1 fun j c u hc hu=>(h2.2 j c u hc hu).1
  | «when» b av=>trivial
  |us sz m cs=>trivial
  |_=>exact h.1
 cases av with
 | «when» b av=>exact fun hb hin=>base av (fun cs hcs=>by subst hcs;cases hin) (h.1 hb)
 |_=>exact base _ (fun cs hcs=>by rw[hl,hcs]) h
theorem gB{i:Nat}(hi:i<a.tmps.size):a.tmps[i]? =some (a.eval (.tmp i)):=by simp[Act.eval,Array.getD_eq_getD_getElem?,hi]
def XR.bn(h:Inv G n D σ a w){o:Operand}{x:IX}(hx:cj o x=true):XR G w σ a x (σ.x x) (a.eval o):=by
 unfold cj at hx
 split at hx
 ·rename_i t i
  obtain rfl:=beq_iff_eq.1 hx
  rcases Nat.lt_or_ge t n with ht|ht
  ·have hs:t<a.tmps.size:=by rw[h.size];exact ht
   exact XR.Td (gB hs) rfl (h.da t _ (gB hs))
  ·have:σ.x (.t t)=.undef:=h.EH t ht
   rw[this];exact VR.undef _
 ·exact RB hx w G.R
 ·rename_i v av _
  have hv:=xi hx w G.R
  have hi:=V4 hx
  show XR G w σ a _ av v
  cases av<;>first|exact hv|(simp[ee]at hi)
 ·rename_i f g
  obtain rfl:=beq_iff_eq.1 hx
  exact VR.fn f [] [] #[] #[] rfl (fun j c v hc=>L_) rfl (fun j c v hc=>L_)
 ·cases hx
def BR.bn(h:Inv G n D σ a w){o:Operand}{x:IX}(hx:cj o x=true):BR G w σ a x (xg true σ x) (a.eval o):=(XR.bn h hx).br
def NR(G:Gh)(w:World)(σ:St)(a:Act)(av:AV)(v:Value):Prop:=
 match av with
 |.lp d off=>∃b,v=.pointer (some ⟨b,off,none⟩)/\∀cs,look σ.e d=.loc cs->a.tmps[d]? =some (.pointer (some ⟨b,0,none⟩))
 |av=>ee av=true/\VR w G.R av v/\view av=av
end
def iQ(r:PR)(av:AV):Prop:=r=.dG av\/∃c,r=.fY c av/\c
theorem iQ.dG{a av:AV}(h:iQ (.dG a) av):av=a:=by
 rcases h with h|⟨c,h,_⟩
 ·grind
 ·cases h
def iQ.fY{c:Prop}{a av:AV}(h:iQ (.fY c a) av):av=a/\c:=by
 rcases h with h|⟨c',h,hc⟩
 ·cases h
 grind
theorem iQ.no{av:AV}(h:iQ .no av):False:=by rcases h with h|⟨c',h,hc⟩<;>cases h
theorem lZ{a:AV}(h:ee a=true):ee (view a)=true:=by cases a<;>simp_all [ee,view]
theorem uQ(a:AV):view (view a)=view a:=by cases a<;>rfl
section
variable{P:Program}{G:Gh}{n:Nat}{D:List Deferred}{σ:St}{a:Act}{w:World}
theorem NR.view{av:AV}{v:Value}(hi:ee av=true)(h:VR w G.R av v):NR G w σ a (view av) v:=by
 have:ee (AB.view av)=true/\VR w G.R (AB.view av) v/\AB.view (AB.view av)=AB.view av:=⟨lZ hi,h.view,uQ _⟩
 cases av<;>first|exact this|grind [ee]
theorem NR.mk{av:AV}{v:Value}(hi:ee av=true)(h:VR w G.R av v)(hv:AB.view av=av):NR G w σ a av v:=hv▸NR.view hi h
def VR.m9{R:Nat->Nat}{b:Bool}{v:Value}(h:VR w R (.bool b) v):v=.bool b:=bY
theorem VR.dI{R:Nat->Nat}{k:IntKind}{m:Int}{v:Value}(h:VR w R (.int k m) v):v=.int k m:=bY
theorem VR.jC{R:Nat->Nat}{s:List UInt8}{v:Value}(h:VR w R (.str s) v):v=.string ⟨s.toArray⟩:=bY
def VR.tj{R:Nat->Nat}{v:Value}(h:VR w R .fO v):v=.pointer none:=bY
theorem VR.gK{R:Nat->Nat}{b o:Nat}{v:Value}(h:VR w R (.ref b o) v):v=.pointer (some ⟨b,o,none⟩):=bY
def VR.dF{R:Nat->Nat}{b o l c:Nat}{v:Value}(h:VR w R (.arr b o l c) v):v=.slice (some ⟨b,o,none⟩) l c\/(l=0/\c=0/\v=.slice none 0 0):=by
 cases h with
 |arr=>grind
 |FX=>grind
def VR.xG{R:Nat->Nat}{b o l c:Nat}{v:Value}(h:VR w R (.arr b o l c) v)(hc:0<c):v=.slice (some ⟨b,o,none⟩) l c:=by
 rcases h.dF with h|⟨_,h,_⟩
 ·exact h
 ·omega
theorem VR.WT{R:Nat->Nat}{b:Nat}{v:Value}(h:VR w R (.mp b) v):v=.map (some b):=bY
theorem VR.Pq{R:Nat->Nat}{v:Value}(h:VR w R .tH v):v=.map none:=bY
def VR.Sw{R:Nat->Nat}{cs:List AV}{v:Value}(h:VR w R (.agg cs) v):∃vs:Array Value,v=.agg vs/\vs.size=cs.length/\(∀(j:Nat)(c:AV)(u:Value),cs[j]? =some c->vs[j]? =some u->VR w R c u)/\Fl cs:=by cases h with|agg _ vs hf hl hr=>grind
def VR.LI{R:Nat->Nat}{cs:List AV}{v:Value}(h:VR w R (.jV cs) v):∃vs:Array Value,v=.tuple vs/\vs.size=cs.length/\∀(j:Nat)(c:AV)(u:Value),cs[j]? =some c->vs[j]? =some u->VR w R c u:=by cases h with|jV _ vs hl hr=>grind
def At(w:World)(R:Nat->Nat)(b off:Nat)(cs:List AV):Prop:=∃u:Nat->Value,(∀(j:Nat)(c:AV),cs[j]? =some c->w.cell? ⟨b,off+j,none⟩=some (u j))/\(∀(j:Nat)(c:AV),cs[j]? =some c->VR w R c (u j))/\Fl cs
def VR.Kn{R:Nat->Nat}{cs:List AV}{v:Value}(h:VR w R (.sp cs) v):∃b off,v=.pointer (some ⟨b,off,none⟩)/\off+cs.length<=R b/\At w R b off cs:=by cases h with|sp _ b off u hf hR hc hr=>exact⟨b,off,rfl,hR,u,hc,hr,hf⟩
def wU(own:Bool)(v:Value):Prop:=v=.slice none 0 0\/(own=false/\∃a cap,v=.slice (some a) 0 cap)
def wU.own{v:Value}(h:wU true v):v=.slice none 0 0:=h.elim id fun h=>A_
def wU.ex{own:Bool}{v:Value}(h:wU own v):∃base cap,v=.slice base 0 cap:=by
 rcases h with h|⟨_,a,cap,h⟩
 ·grind
 grind
def VR.jd{R:Nat->Nat}{own:Bool}{sz m:Nat}{cs:List AV}{v:Value}(h:VR w R (.sl own sz m cs) v):
 (wU own v/\m=0/\cs=[])\/∃b off cap,v=.slice (some ⟨b,off,none⟩) m cap/\cs.length=m*sz/\off+cs.length<=R b/\m<=cap/\At w R b off cs:=by
 cases h with
 |slnil=>exact .inl ⟨.inl rfl,rfl,rfl⟩
 |sle=>exact .inl ⟨.inr ⟨rfl,_,_,rfl⟩,rfl,rfl⟩
 |sl _ _ _ _ b off cap u hf hl hR gv hc hr=>exact .inr ⟨b,off,cap,rfl,hl,hR,gv,u,hc,hr,hf⟩
def VR.Po{R:Nat->Nat}{f:Nat}{x y:List AV}{v:Value}(h:VR w R (.fn f x y) v):∃vf vc:Array Value,v=.func (.func f) vf vc/\vf.size=x.length/\(∀(j:Nat)(c:AV)(u:Value),x[j]? =some c->vf[j]? =some u->VR w R c u)/\
 vc.size=y.length/\(∀(j:Nat)(c:AV)(u:Value),y[j]? =some c->vc[j]? =some u->VR w R c u):=by
 cases h with|fn _ _ _ vf vc h1 h2 h3 h4=>grind
def runs(P:Program)(a:Act)(op:Op)(ty:TypeId)(w:World)(v:Value):Prop:=∀(d:Option Tmp)(pos:String)(after:Array Edge)(g:Option (Nat×Bool)),(execOp a.eval ⟨d,op,ty,pos,after,g⟩).run P w=.ok (.value v) w
def XT(h:Inv G n D σ a w){op:Op}{ty:TypeId}{x:IX}(hc:aD P op ty (.oU false x)=true){av:AV}(hv:iQ (pv (.oU false x) (xg true σ) σ) av):
 ∃v,runs P a op ty w v/\NR G w σ a av v:=by
 have key:∀y,cj y x=true->NR G w σ a av (a.eval y):=fun y hy=>by
  have hb:=BR.bn h hy
  have hv':iQ (M5 (xg true σ x)) av:=hv
  unfold M5 at hv'
  cases hi:ee (xg true σ x)with
  |false=>rw[hi]at hv';exact hv'.no.elim
  |true=>
   rw[hi]at hv'
   rw[hv'.dG]
   exact NR.view hi (hb.vr hi)
 cases op<;>first|(simp[aD]at hc;done)|skip
 ·rename_i y
  exact⟨a.eval y,fun _ _ _ _=>rfl,key y hc⟩
 ·rename_i y
  exact⟨a.eval y,fun _ _ _ _=>rfl,key y hc⟩
theorem aay{g:Bool}{x:IX}{v:Value}{p:Bool}(hg:g=true)(hx:XR G w σ a x (σ.x x) v)(h:OW (σ.x x)=some (g,p)):v=.bool p:=by
 subst hg
 generalize σ.x x=av at*
 unfold OW at h
 split at h
 ·injection h with h;injection h with _ h;subst h;cases hx;rfl
 ·injection h with h;injection h with h1 h2;subst h1;subst h2
  have:=hx rfl rfl
  cases this;rfl
 ·cases h
def OX{g:Bool}{x:IX}{v:Value}{p:Bool}(hg:g=true)(hx:XR G w σ a x (σ.x x) v)(h:Wu (σ.x x)=some (g,p)):v=.bool p:=by grind [aay,Wu]
def Tw(h:Inv G n D σ a w){op:Op}{ty:TypeId}{c x y:IX}(hc:aD P op ty (.pick c x y)=true){av:AV}(hv:iQ (pv (.pick c x y) (xg true σ) σ) av):
 ∃v,runs P a op ty w v/\NR G w σ a av v:=by
 cases op<;>first|(simp[aD]at hc;done)|skip
 simp[aD,Bool.and_eq_true]at hc
 have hbc:=BR.bn h hc.1.1
 have hbx:=XR.bn h hc.1.2
 have hby:=XR.bn h hc.2
 have hv':iQ (Fk (σ.x x) (σ.x y) (xg true σ c)) av:=hv
 generalize xg true σ c=cv at hbc hv'
 unfold Fk at hv'
 split at hv'
 ·rename_i b
  have hcv:=VR.m9 hbc
  unfold Qf at hv'
  split at hv'
  ·rename_i g1 p g2 q hp hq
   rcases hv' with hv'|⟨c1,hv',hc1⟩
   ·cases hv'
   injection hv' with h1 h2
   subst h1 h2
   refine⟨.bool (bif b then p else q),fun _ _ _ _=>?_,NR.mk rfl (.bool _) rfl⟩
   cases b with
   |true=>
    have:=OX (hc1.1 rfl) hbx hp
    simp[execOp,hcv,asBool,this]
   |false=>
    have:=OX (hc1.2 rfl) hby hq
    simp[execOp,hcv,asBool,this]
  ·exact hv'.no.elim
 ·exact hv'.no.elim
def abZ(h:Inv G n D σ a w){op:Op}{ty:TypeId}{uo:UnOp}{x:IX}(hc:aD P op ty (.un uo x)=true){av:AV}(hv:iQ (pv (.un uo x) (xg true σ) σ) av):
 ∃v,runs P a op ty w v/\NR G w σ a av v:=by
 cases op<;>first|(simp[aD]at hc;done)|skip
 simp[aD,Bool.and_eq_true,decide_eq_true_eq]at hc
 obtain⟨rfl,hy⟩:=hc
 have hb:=BR.bn h hy
 have hv':iQ (VN uo (xg true σ x)) av:=hv
 generalize xg true σ x=xv at hb hv'
 unfold VN at hv'
 split at hv'
 ·rename_i b
  have e:=VR.m9 hb
  rw[hv'.dG]
  exact⟨.bool (!b),fun _ _ _ _=>by simp[execOp,e,Op.unary],NR.mk rfl (.bool _) rfl⟩
 ·rename_i k m
  have e:=VR.dI hb
  rw[hv'.dG]
  exact⟨.int k (k.wrap (0 -m)),fun _ _ _ _=>by simp[execOp,e,Op.unary,Op.intArith],NR.mk rfl (.int _ _) rfl⟩
 ·exact hv'.no.elim
def Nf(h:Inv G n D σ a w){op:Op}{ty:TypeId}{k:IntKind}{x:IX}(hc:aD P op ty (.ko k x)=true){av:AV}(hv:iQ (pv (.ko k x) (xg true σ) σ) av):
 ∃v,runs P a op ty w v/\NR G w σ a av v:=by
 cases op<;>first|(simp[aD]at hc;done)|skip
 simp[aD,Bool.and_eq_true]at hc
 obtain⟨hy,hc2⟩:=hc
 split at hc2
 ·rename_i k1 k2 hs ht
  have:=of_decide_eq_true hc2
  subst this
  have hb:=BR.bn h hy
  have hv':iQ (uw k (xg true σ x)) av:=hv
  generalize xg true σ x=xv at hb hv'
  unfold uw at hv'
  split at hv'
  ·rename_i k' m
   have e:=VR.dI hb
   rw[hv'.dG]
   exact⟨.int k (k.wrap m),fun _ _ _ _=>by simp[execOp,e,convert,underlying,hs,ht,Conv.intToInt],NR.mk rfl (.int _ _) rfl⟩
  ·exact hv'.no.elim
 ·cases hc2
def Jh(h:Inv G n D σ a w){op:Op}{ty:TypeId}{x:IX}(hc:aD P op ty (.nilCheck x)=true){av:AV}(hv:iQ (pv (.nilCheck x) (xg true σ) σ) av):
 ∃v,runs P a op ty w v/\NR G w σ a av v:=by
 cases op<;>first|(simp[aD]at hc)|skip
 have hb:=BR.bn h hc
 have hv':iQ (mE (xg true σ x)) av:=hv
 generalize xg true σ x=xv at hb hv'
 unfold mE at hv'
 split at hv'
 ·have e:=VR.gK hb
  rw[hv'.dG]
  exact⟨_,fun _ _ _ _=>by simp[execOp,e],NR.mk rfl (.ref _ _) rfl⟩
 ·exact hv'.no.elim
def XK(h:Inv G n D σ a w){op:Op}{ty:TypeId}{bo:BinOp}{x y:IX}(hc:aD P op ty (.bin bo x y)=true){av:AV}(hv:iQ (pv (.bin bo x y) (xg true σ) σ) av):
 ∃v,runs P a op ty w v/\NR G w σ a av v:=by
 cases op<;>first|(simp[aD]at hc;done)|skip
 rename_i b t u v yt
 simp only[aD,Bool.and_eq_true,decide_eq_true_eq]at hc
 obtain⟨⟨rfl,hx⟩,hy⟩:=hc
 have hbx:=BR.bn h hx
 have hby:=BR.bn h hy
 have hv':iQ (JM bo (xg true σ x) (xg true σ y)) av:=hv
 generalize xg true σ x=xv at hbx hv'
 generalize xg true σ y=yv at hby hv'
 unfold JM at hv'
 split at hv'
 ·rename_i k p k' q
  have e1:a.eval u=.int k p:=VR.dI hbx
  have e2:a.eval v=.int k' q:=VR.dI hby
  have fin:∀(V:AV)(r:Value),ee V=true->AB.view V=V->VR w G.R V r->iQ (kk k k' (.dG V)) av->(k=k'->runs P a (.binOp bo t u v yt) ty w r)->∃v',runs P a (.binOp bo t u v yt) ty w v'/\NR G w σ a av v':=by
   intro V r h1 h2 h3 h4 h5
   unfold kk SH at h4
   by_cases hk:k=k'
   ·rw[decide_eq_true hk]at h4
    rw[h4.dG]
    grind [NR.mk]
   ·rw[decide_eq_false hk]at h4;exact h4.no.elim
  cases bo
  case shl=>
   obtain⟨rfl,h0⟩:=iQ.fY hv'
   exact⟨_,fun _ _ _ _=>by simp[execOp,e1,e2,eqGuard,binOp,Op.shift,Int.not_lt.2 h0,kn],NR.mk rfl (.int _ _) rfl⟩
  case shr=>
   obtain⟨rfl,h0⟩:=iQ.fY hv'
   exact⟨_,fun _ _ _ _=>by simp[execOp,e1,e2,eqGuard,binOp,Op.shift,Int.not_lt.2 h0],NR.mk rfl (.int _ _) rfl⟩
  case quo=>
   have lY:iQ (kk k k' (.fY (q≠0) (.int k (kn k (p.tdiv q))))) av:=hv'
   unfold kk SH at lY
   by_cases hk:k=k'
   ·rw[decide_eq_true hk]at lY
    obtain⟨rfl,h0⟩:=iQ.fY lY
    subst hk
    exact⟨_,fun _ _ _ _=>by simp[execOp,e1,e2,eqGuard,binOp,Op.intDiv,h0,kn],NR.mk rfl (.int _ _) rfl⟩
   ·rw[decide_eq_false hk]at lY;exact lY.no.elim
  case rem=>
   have lY:iQ (kk k k' (.fY (q≠0) (.int k (p.tmod q)))) av:=hv'
   unfold kk SH at lY
   by_cases hk:k=k'
   ·rw[decide_eq_true hk]at lY
    obtain⟨rfl,h0⟩:=iQ.fY lY
    subst hk
    exact⟨_,fun _ _ _ _=>by simp[execOp,e1,e2,eqGuard,binOp,Op.intDiv,h0],NR.mk rfl (.int _ _) rfl⟩
   ·rw[decide_eq_false hk]at lY;exact lY.no.elim
  case add=>exact fin _ _ rfl rfl (.int _ _) hv' fun hk _ _ _ _=>Xc6
  case sub=>exact fin _ _ rfl rfl (.int _ _) hv' fun hk _ _ _ _=>Xc6
  case mul=>exact fin _ _ rfl rfl (.int _ _) hv' fun hk _ _ _ _=>Xc6
  case and=>exact fin _ _ rfl rfl (.int _ _) hv' fun hk _ _ _ _=>υ
  case or=>exact fin _ _ rfl rfl (.int _ _) hv' fun hk _ _ _ _=>υ
  case xor=>exact fin _ _ rfl rfl (.int _ _) hv' fun hk _ _ _ _=>υ
  case andNot=>exact fin _ _ rfl rfl (.int _ _) hv' fun hk _ _ _ _=>υ
  case eql=>exact fin _ _ rfl rfl (.bool _) hv' fun hk _ _ _ _=>q_
  case neq=>exact fin _ _ rfl rfl (.bool _) hv' fun hk _ _ _ _=>q_
  case lss=>exact fin _ _ rfl rfl (.bool _) hv' fun hk _ _ _ _=>q_
  case leq=>exact fin _ _ rfl rfl (.bool _) hv' fun hk _ _ _ _=>q_
  case gtr=>exact fin _ _ rfl rfl (.bool _) hv' fun hk _ _ _ _=>q_
  case geq=>exact fin _ _ rfl rfl (.bool _) hv' fun hk _ _ _ _=>q_
 ·rename_i p q
  have e1:a.eval u=.string ⟨p.toArray⟩:=VR.jC hbx
  have e2:a.eval v=.string ⟨q.toArray⟩:=VR.jC hby
  have tl:∀l:List UInt8,(ByteArray.mk l.toArray).toList=l:=fun l=>P_
  cases bo<;>first|exact(iQ.no hv').elim|skip
  case add=>
   obtain⟨rfl,h0⟩:=iQ.fY hv'
   have h0':p.length+q.length<=9223372036854775807:=by
    have:((p.length+q.length:Nat):Int)<=9223372036854775807:=h0
    omega
   refine⟨.string ⟨(p++q).toArray⟩,fun _ _ _ _=>?_,NR.mk rfl (.str _) rfl⟩
   have hr:=run_string_add_sum (P:=P) w ⟨p.toArray⟩ ⟨q.toArray⟩ (by grind [ByteArray.size])
   rw[ByteArray.mk_append_mk]at hr
   simp[execOp,e1,e2,eqGuard,binOp,hr]
  all_goals
   rw[iQ.dG hv']
   exact⟨.bool _,fun _ _ _ _=>by simp[execOp,e1,e2,eqGuard,binOp,Op.stringOp,tl],NR.mk rfl (.bool _) rfl⟩
 ·exact hv'.no.elim
def XN(h:Inv G n D σ a w){op:Op}{ty:TypeId}{ne:Bool}{x y:IX}(hc:aD P op ty (.UU ne x y)=true){av:AV}(hv:iQ (pv (.UU ne x y) (xg true σ) σ) av):
 ∃v,runs P a op ty w v/\NR G w σ a av v:=by
 cases op<;>first|(simp[aD]at hc;done)|skip
 rename_i b t u v yt
 simp[aD,Bool.and_eq_true,decide_eq_true_eq]at hc
 obtain⟨⟨⟨rfl,hx⟩,hy⟩,ht⟩:=hc
 have hbx:=BR.bn h hx
 have hby:=BR.bn h hy
 have hv':iQ (J7 ne (xg true σ x) (xg true σ y)) av:=hv
 generalize xg true σ x=xv at hbx hv'
 generalize xg true σ y=yv at hby hv'
 have htb:P.underlying t=some .bool:=by
  unfold Uy at ht
  split at ht
  ·assumption
  ·cases ht
 unfold J7 at hv'
 split at hv'
 ·rename_i p q
  have e1:=VR.m9 hbx
  have e2:=VR.m9 hby
  rw[hv'.dG]
  refine⟨.bool ((p==q)!=ne),fun _ _ _ _=>?_,NR.mk rfl (.bool _) rfl⟩
  cases ne<;>simp[execOp,e1,e2,eqGuard,binOp,run_equal_bool w t p q htb]
 ·exact hv'.no.elim
def zm{w:World}(d:Nat){t e:TypeId}(hte:P.underlying t=some (.pointer e))(p q:Option Addr)(hpq:p=none\/q=none):
 (Op.equalIn (d+1) t (.pointer p) (.pointer q)).run P w=.ok (p.isNone&&q.isNone) w:=by
 rcases hpq with rfl|rfl
 ·simp[Op.equalIn,run_underlying hte]
 ·cases p<;>simp[Op.equalIn,run_underlying hte]
def pI{w:World}(d:Nat){t e:TypeId}(hte:P.underlying t=some (.slice e))(b:Addr)(l c:Nat):
 (Op.equalIn (d+1) t (.slice (some b) l c) (.slice none 0 0)).run P w=.ok false w:=by
 simp[Op.equalIn,run_underlying hte]
def XP(h:Inv G n D σ a w){op:Op}{ty:TypeId}{ne:Bool}{x y:IX}(hc:aD P op ty (.NM ne x y)=true){av:AV}(hv:iQ (pv (.NM ne x y) (xg true σ) σ) av):
 ∃v,runs P a op ty w v/\NR G w σ a av v:=by
 cases op<;>first|(simp[aD]at hc;done)|skip
 rename_i b t u v yt
 simp only[aD,Bool.and_eq_true,decide_eq_true_eq]at hc
 obtain⟨⟨⟨rfl,hx⟩,hy⟩,ht⟩:=hc
 have hbx:=BR.bn h hx
 have hby:=BR.bn h hy
 have hv':iQ (DV ne (xg true σ x) (xg true σ y)) av:=hv
 generalize xg true σ x=xv at hbx hv'
 generalize xg true σ y=yv at hby hv'
 have htb:∃e j,P.underlying t=some (.pointer e)/\P.info? e=some j:=by
  unfold abW at ht
  split at ht
  ·grind [Option.isSome_iff_exists]
  ·cases ht
 obtain⟨e,je,hte,hje⟩:=htb
 have eqn:∀p q:Option Addr,(p=none\/q=none)->(Op.equal t (.pointer p) (.pointer q)).run P w=.ok (p.isNone&&q.isNone) w:=by exact fun p q hpq=>zm 9999 hte p q hpq
 have fin:∀p q:Option Addr,a.eval u=.pointer p->a.eval v=.pointer q->(p=none\/q=none)->runs P a (.binOp (if ne=true then .neq else .eql) t u v yt) ty w (.bool ((p.isNone&&q.isNone)!=ne)):=by
  intro p q e1 e2 hpq _ _ _ _
  cases ne<;>simp[execOp,e1,e2,eqGuard,binOp,eqn p q hpq]
 unfold DV at hv'
 split at hv'
 ·rw[hv'.dG]
  refine⟨_,fin _ _ (VR.tj hbx) (VR.tj hby) (.inl rfl),NR.mk rfl ?_ rfl⟩
  cases ne<;>exact .bool _
 ·rw[hv'.dG]
  refine⟨_,fin _ _ (VR.gK hbx) (VR.tj hby) (.inr rfl),NR.mk rfl ?_ rfl⟩
  cases ne<;>exact .bool _
 ·rw[hv'.dG]
  refine⟨_,fin _ _ (VR.tj hbx) (VR.gK hby) (.inl rfl),NR.mk rfl ?_ rfl⟩
  cases ne<;>exact .bool _
 ·rename_i b o b' o'
  by_cases hbo:b=b'/\o=o'
  ·obtain⟨rfl,rfl⟩:=hbo
   simp only[beq_self_eq_true,Bool.and_self,cond_true]at hv'
   rw[hv'.dG]
   have e1:=VR.gK hbx
   have e2:=VR.gK hby
   have hq:(Op.equal t (.pointer (some ⟨b,o,none⟩)) (.pointer (some ⟨b,o,none⟩))).run P w=.ok true w:=by
    have hd:∀d:Nat,(Op.equalIn (d+1) t (.pointer (some ⟨b,o,none⟩)) (.pointer (some ⟨b,o,none⟩))).run P w=.ok true w:=fun d=>by simp[Op.equalIn,run_underlying hte,sizeOf,typeInfo,hje,run_sameAddr_same]
    exact hd 9999
   refine⟨.bool (!ne),fun _ _ _ _=>?_,NR.mk rfl (.bool _) rfl⟩
   cases ne<;>simp[execOp,e1,e2,eqGuard,binOp,hq]
  ·have:(b==b'&&o==o')=false:=by
    cases hh:(b==b'&&o==o')with
    |false=>rfl
    |true=>grind
   rw[this]at hv'
   exact hv'.no.elim
 ·exact hv'.no.elim
def XQ(h:Inv G n D σ a w){op:Op}{ty:TypeId}{ne:Bool}{x y:IX}(hc:aD P op ty (.Rk ne x y)=true){av:AV}(hv:iQ (pv (.Rk ne x y) (xg true σ) σ) av):
 ∃v,runs P a op ty w v/\NR G w σ a av v:=by
 cases op<;>first|(simp[aD]at hc;done)|skip
 rename_i b t u v yt
 simp only[aD,Bool.and_eq_true,decide_eq_true_eq]at hc
 obtain⟨⟨⟨rfl,hx⟩,hy⟩,ht⟩:=hc
 have hbx:=BR.bn h hx
 obtain⟨e,hte⟩:∃e,P.underlying t=some (.slice e):=by grind [cZ]
 have fin:∀(d:Addr)(l c:Nat),a.eval u=.slice (some d) l c->a.eval v=.slice none 0 0->runs P a (.binOp (if ne=true then .neq else .eql) t u v yt) ty w (.bool ne):=by
  intro d l c e1 e2 _ _ _ _
  have:(Op.equal t (.slice (some d) l c) (.slice none 0 0)).run P w=.ok false w:=pI 9999 hte d l c
  cases ne<;>simp[execOp,e1,e2,eqGuard,binOp,this]
 cases y with
 |t i=>exact(iQ.no hv).elim
 |c yv=>
  by_cases hyv:∃z,yv=.sl true z 0 []
  ·obtain⟨z,rfl⟩:=hyv
   have e2:a.eval v=.slice none 0 0:=by
    unfold cj at hy
    cases v<;>simp at hy
    rename_i c
    show c=_
    unfold cR at hy
    split at hy<;>simp_all
   have hv':iQ (OJ ne (xg true σ x) (.sl true z 0 [])) av:=hv
   generalize xg true σ x=xv at hbx hv'
   unfold OJ at hv'
   split at hv'
   ·rename_i o z' m cs _ _ _
    rw[hv'.dG]
    rcases VR.jd hbx with⟨_,h0,_⟩|⟨b,off,cap,e1,_⟩
    ·cases h0
    ·exact⟨_,fin _ _ _ e1 e2,NR.mk rfl (.bool _) rfl⟩
   ·rw[hv'.dG]
    exact⟨_,fin _ _ _ (VR.xG hbx (Nat.succ_pos _)) e2,NR.mk rfl (.bool _) rfl⟩
   ·exact hv'.no.elim
  ·have:pv (.Rk ne x (.c yv)) (xg true σ) σ=.no:=by
    unfold pv
    split<;>first|rfl|grind|grind
   rw[this]at hv
   exact hv.no.elim
end
theorem add_eq(b off i:Nat):(⟨b,off,none⟩:Addr).add i=⟨b,off+i,none⟩:=by grind [Addr.add]
theorem cell_of_row(w:World){b:Nat}{c:Array Value}{t:TypeId}{fr:Nat×Nat}(hg:w.heap[b]? =some (.cells c t fr))(j:Nat):w.cell? ⟨b,j,none⟩=c[j]? :=by grind [World.cell?]
theorem Hl(cs:List AV)(off n j:Nat):(sub cs off n)[j]? =if j<n then cs[off+j]? else none:=by grind [sub]
theorem fG(cs:List AV)(j:Nat):(views cs)[j]? =(cs[j]?).map view:=r_
section
variable{P:Program}{G:Gh}{n:Nat}{D:List Deferred}{σ:St}{a:Act}{w:World}
theorem At.views{R:Nat->Nat}{b off:Nat}{cs:List AV}(h:At w R b off cs):At w R b off (views cs):=by
 obtain⟨u,h1,h2,hf⟩:=h
 refine⟨u,fun j c hj=>?_,fun j c hj=>?_,hf.views⟩<;>rw[fG]at hj<;>cases hc:cs[j]? <;>rw[hc]at hj<;>simp at hj
 ·grind
 ·rw[<-hj];exact(h2 j _ hc).view
theorem At.sub{R:Nat->Nat}{b off:Nat}{cs:List AV}(h:At w R b off cs)(o n:Nat):At w R b (off+o) (sub cs o n):=by
 obtain⟨u,h1,h2,hf⟩:=h
 refine⟨fun j=>u (o+j),fun j c hj=>?_,fun j c hj=>?_,hf.sub o n⟩<;>rw[Hl]at hj<;>split at hj<;>try(cases hj;done)
 ·grind
 grind
def At.Ja{b:Nat}{cs:List AV}{c:Array Value}{t:TypeId}{fr:Nat×Nat}{o:Nat->dp}(hh:w.heap[b]? =some (.cells c t fr))(hc:dS G w o cs c)(hf:Fl cs):At w G.R b 0 cs:=by
 refine⟨fun j=>c.getD j undef,fun j x hj=>?_,fun j x hj=>?_,hf⟩
 all_goals
  have hlt:j<c.size:=by rw[hc.1];exact(List.getElem?_eq_some_iff.1 hj).1
  have hcj:c[j]? =some (c.getD j undef):=Xc7
 ·rw[Nat.zero_add,cell_of_row w hh,hcj]
 ·exact(hc.2 j x _ hj hcj).1
theorem FI(cs:List AV)(off n:Nat):AB.sub (AB.views cs) off n=AB.views (AB.sub cs off n):=by simp[AB.sub,AB.views,List.map_drop,List.map_take]
def At.Fe{b:Nat}{cs:List AV}{c:Array Value}{t t':TypeId}{fr:Nat×Nat}{o:Nat->dp}(hh:w.heap[b]? =some (.cells c t fr))(hc:dS G w o cs c)(hf:Ex t' cs):At w G.R b 0 (AB.views cs):=by
 refine⟨fun j=>c.getD j undef,fun j x hj=>?_,fun j x hj=>?_,hf.views⟩
 all_goals
  have hlt:j<c.size:=by rw[hc.1];have:=(List.getElem?_eq_some_iff.1 hj).1;simpa[AB.views]using this
  have hcj:c[j]? =some (c.getD j undef):=Xc7
 ·rw[Nat.zero_add,cell_of_row w hh,hcj]
 ·have MX:j<cs.length:=by rw[<-hc.1];exact hlt
  have hx:AB.view cs[j]=x:=by
   simp only[AB.views,List.getElem?_map,List.getElem?_eq_getElem MX,Option.map_some]at hj
   injection hj
  rw[<-hx]
  exact(hc.2 j cs[j] _ (List.getElem?_eq_getElem MX) hcj).1.view
def rW{n off:Nat}{cs ds:List AV}(h:jg n off cs=some ds):off+n<=cs.length/\ds=views (sub cs off n):=by grind [jg,decide_eq_true,decide_eq_false]
theorem kP{cs:List AV}{off n:Nat}(h:off+n<=cs.length):(AB.sub cs off n).length=n:=by grind [AB.sub]
def CY(h:Inv G n D σ a w){x:IX}{p:AV}{v:Value}(hb:BR G w σ a x p v){m:Nat}{cs:List AV}(hr:rd σ p m=some cs):
 ∃b off,v=.pointer (some ⟨b,off,none⟩)/\cs.length=m/\At w G.R b off cs/\views cs=cs:=by
 have vv:∀l:List AV,views (views l)=views l:=fun l=>by simp[views,uQ,Function.comp_def]
 unfold rd at hr
 split at hr
 ·rename_i ds
  obtain⟨hl,rfl⟩:=rW hr
  obtain⟨i,b,c,t,_,_,_,hv,_,_,hh,hc,hfl⟩:=hb
  have hat:=((At.Ja hh hc hfl).sub 0 m).views
  simp only[Nat.add_zero]at hat
  grind [AB.views,kP]
 ·rename_i d off
  unfold nH at hr
  split at hr
  ·rename_i ds hd
   obtain⟨hl,rfl⟩:=rW hr
   obtain⟨b,hv,ht⟩:=hb
   have ht:=ht ds hd
   have hs:=h.da d _ ht
   rw[hd]at hs
   obtain⟨b',c,t,h1,h2,h3,h4,h5,h6⟩:=hs
   injection h1 with h1;injection h1 with h1;injection h1 with h1 _ _
   subst h1
   have hat:=((At.Ja h4 h5 h6).sub off m).views
   rw[Nat.zero_add]at hat
   grind [AB.views,kP]
  ·cases hr
 ·rename_i ds
  obtain⟨hl,rfl⟩:=rW hr
  obtain⟨b,off,hv,hR,hat⟩:=VR.Kn hb
  have hat:=(hat.sub 0 m).views
  grind [AB.views,kP]
 ·rename_i b off
  unfold vi at hr
  split at hr
  ·rename_i ds hs
   obtain⟨hl,rfl⟩:=rW hr
   have hv:=VR.gK hb
   obtain⟨h1,h2,c,t,h3,h4,h5⟩:=h.store b _ hs
   have hat:=(At.Fe h3 h4 h5).sub off m
   rw[Nat.zero_add,FI]at hat
   grind [AB.views,kP]
  ·cases hr
 ·cases hr
theorem lE{t:TypeId}{m:Nat}(h:eM P t m=true):∃i,P.info? t=some i/\i.size=m:=by grind [eM]
theorem run_sizeOf{t:TypeId}{m:Nat}(h:eM P t m=true)(w:World):(sizeOf t).run P w=.ok m w:=by
 obtain⟨i,h1,h2⟩:=lE h
 simp[sizeOf,typeInfo,h1,h2]
theorem zn{t:TypeId}{multi:Bool}(h:sH P t multi=true)(w:World):(isAgg t).run P w=.ok multi w:=by
 unfold sH at h
 split at h
 ·rename_i hh;subst h;simp[isAgg,underlying,hh]
 ·rename_i hh;subst h;simp[isAgg,underlying,hh]
 ·rename_i d h1 h2 hh
  have hm:multi=false:=IN
  subst hm
  simp only[isAgg,underlying,run_program,Sem.run_bind,Result.andThen_ok,hh,Sem.run_pure]
 ·cases h
theorem At.mq{R:Nat->Nat}{b off:Nat}{cs:List AV}(h:At w R b off cs):∃us:List Value,us.length=cs.length/\(∀(j:Nat)(v:Value),us[j]? =some v->w.cell? ((⟨b,off,none⟩:Addr).add j)=some v)/\
 (∀(j:Nat)(c:AV)(v:Value),cs[j]? =some c->us[j]? =some v->VR w R c v):=by
 obtain⟨u,h1,h2,_⟩:=h
 have key:∀(j:Nat)(v:Value),((List.range cs.length).map u)[j]? =some v->∃hj:j<cs.length,v=u j:=by
  intro j v hj
  rw[List.getElem?_map]at hj
  by_cases hlt:j<cs.length
  ·grind
  ·grind
 refine⟨(List.range cs.length).map u,B_,fun j v hj=>?_,fun j c v hc hj=>?_⟩
 ·obtain⟨hlt,rfl⟩:=key j v hj
  rw[add_eq]
  simp_all
 grind
def pZ{R:Nat->Nat}{t:TypeId}{m:Nat}{multi:Bool}(hs:eM P t m=true)(hm:sH P t multi=true)(h1:(multi||m==1)=true){b off:Nat}{cs:List AV}(hl:cs.length=m)(hat:At w R b off cs):
 ∃v,(loadVar t ⟨b,off,none⟩).run P w=.ok v w/\VR w R (od multi cs) v:=by
 have hfl:Fl cs:=Ω
 obtain⟨us,hul,hc,hv⟩:=hat.mq
 cases multi with
 |true=>
  have:=run_loadCells_list (P:=P) w ⟨b,off,none⟩ us hc
  rw[hul,hl]at this
  refine⟨.agg us.toArray,by simp[loadVar,zn hm,run_sizeOf hs,this],?_⟩
  show VR w R (.agg cs) _
  exact .agg cs us.toArray hfl (by simp[hul]) fun j c v hcj hvj=>hv j c v hcj A_
 |false=>
  have hm1:m=1:=K_
  subst hm1
  match cs,hl with
  |[c],_=>
   match us,hul with
   |[u],_=>
    have h0:=hc 0 u rfl
    rw[add_eq]at h0
    refine⟨u,by simp[loadVar,zn hm,show(w.cell? ⟨b,off,none⟩)=some u from h0],hv 0 c u rfl rfl⟩
def Oj{a av:AV}(h:iQ (UG a) av):av=a/\ee a=true:=by
 unfold UG at h
 cases hi:ee a with
 |true=>rw[hi]at h;exact⟨h.dG,rfl⟩
 |false=>rw[hi]at h;exact h.no.elim
def DH{multi:Bool}{cs:List AV}(hv:views cs=cs):AB.view (od multi cs)=od multi cs:=by
 cases multi with
 |true=>rfl
 |false=>cases cs with
  |nil=>rfl
  |cons c l=>simp only[views,List.map_cons,List.cons.injEq]at hv;exact hv.1
def L6(h:Inv G n D σ a w){op:Op}{ty:TypeId}{m:Nat}{multi:Bool}{x:IX}(hc:aD P op ty (.load m multi x)=true){av:AV}(hv:iQ (pv (.load m multi x) (xg true σ) σ) av):
 ∃v,runs P a op ty w v/\NR G w σ a av v:=by
 cases op<;>first|(simp[aD]at hc;done)|skip
 rename_i t y
 simp only[aD,Bool.and_eq_true]at hc
 obtain⟨⟨⟨hs,hm⟩,h1⟩,hy⟩:=hc
 have hb:=BR.bn h hy
 have hv':iQ (na multi (rd σ (xg true σ x) m)) av:=hv
 cases hr:rd σ (xg true σ x) m with
 |none=>rw[hr]at hv';exact hv'.no.elim
 |some cs=>
  rw[hr]at hv'
  obtain⟨rfl,hi⟩:=Oj hv'
  obtain⟨b,off,e,hl,hat,hvw⟩:=CY h hb hr
  obtain⟨v,cG,hvr⟩:=pZ hs hm h1 hl hat
  exact⟨v,fun _ _ _ _=>by simp[execOp,e,Instr.loadAt,Instr.sureAddr,cG],NR.mk hi hvr (DH hvw)⟩
theorem yz{t:TypeId}(h:KZ P t=true):P.underlying t=some .string:=by grind [KZ]
def Nj(h:Inv G n D σ a w){op:Op}{ty:TypeId}{x i:IX}(hc:aD P op ty (.kv x i)=true){av:AV}(hv:iQ (pv (.kv x i) (xg true σ) σ) av):
 ∃v,runs P a op ty w v/\NR G w σ a av v:=by
 cases op<;>first|(simp[aD]at hc;done)|skip
 rename_i t y j
 simp only[aD,Bool.and_eq_true]at hc
 obtain⟨⟨hy,hj⟩,ht⟩:=hc
 have ht:=yz ht
 have hb:=BR.bn h hy
 have hbi:=BR.bn h hj
 have hv':iQ (uK (xg true σ x) (xg true σ i)) av:=hv
 generalize xg true σ x=xv at hb hv'
 generalize xg true σ i=iv at hbi hv'
 unfold uK at hv'
 split at hv'
 ·rename_i s k q
  obtain⟨rfl,h0,hlt⟩:=hv'.fY
  have e1:a.eval y=.string ⟨s.toArray⟩:=VR.jC hb
  have e2:a.eval j=.int k q:=VR.dI hbi
  have hq:q.toNat<s.length:=AT
  have hg:(ByteArray.mk s.toArray)[q.toNat]? =some (s.getD q.toNat 0):=by
   have hsz:q.toNat<(ByteArray.mk s.toArray).size:=by simpa[ByteArray.size]using hq
   rw[show(ByteArray.mk s.toArray)[q.toNat]? =some ((ByteArray.mk s.toArray)[q.toNat]'hsz) from getElem?_pos (ByteArray.mk s.toArray) q.toNat hsz]
   have:(ByteArray.mk s.toArray)[q.toNat]=s.toArray[q.toNat]' A_:=rfl
   rw[this]
   simp[List.getD_eq_getElem?_getD,List.getElem?_eq_getElem hq]
  refine⟨.int .u8 (s.getD q.toNat 0).toNat,fun _ _ _ _=>by simp[execOp,e1,e2,Instr.index,underlying,ht,asIntOf,h0,hg],NR.mk rfl (.int _ _) rfl⟩
 ·exact hv'.no.elim
theorem dq{t e:TypeId}(h:cZ P t=some e):P.underlying t=some (.slice e):=by grind [cZ]
def GR(h:Inv G n D σ a w){op:Op}{ty:TypeId}{off:Nat}{x:IX}(hc:aD P op ty (.fieldAddr off x)=true){av:AV}(hv:iQ (pv (.fieldAddr off x) (xg true σ) σ) av):
 ∃v,runs P a op ty w v/\NR G w σ a av v:=by
 cases op<;>first|(simp[aD]at hc;done)|skip
 rename_i t y i
 simp only[aD,Bool.and_eq_true]at hc
 obtain⟨hy,hc⟩:=hc
 split at hc<;>try(cases hc;done)
 rename_i fs ht
 split at hc<;>try(cases hc;done)
 rename_i f hf
 simp only[Bool.and_eq_true,beq_iff_eq]at hc
 obtain⟨rfl,hsz⟩:=hc
 split at hsz<;>try(cases hsz;done)
 rename_i ti hti
 have jR:ti.size≠0:=by have:=of_decide_eq_true hsz;omega
 have hb:=BR.bn h hy
 have cG:∀b o,a.eval y=.pointer (some ⟨b,o,none⟩)->runs P a (.fieldAddr t y i) ty w (.pointer (some ⟨b,o+f.offset,none⟩)):=by
  intro b o e _ _ _ _
  simp[execOp,e,Instr.fieldAt,underlying,ht,hf,Instr.sureAddr,fieldPlace,sizeOf,typeInfo,hti,jR,add_eq]
 have hv':iQ (gR f.offset x (xg true σ x)) av:=hv
 generalize hxv:xg true σ x=xv at hb hv'
 unfold gR at hv'
 split at hv'
 ·rename_i d o
  rw[hv'.dG]
  obtain⟨b,h1,h2⟩:=hb
  exact⟨_,cG b o h1,b,rfl,h2⟩
 ·rename_i cs
  by_cases dH:f.offset<=cs.length
  ·rw[decide_eq_true dH]at hv'
   rw[hv'.dG]
   obtain⟨b,o,e,hR,u,h1,h2,hfl⟩:=VR.Kn hb
   refine⟨_,cG b o e,NR.mk rfl (.sp _ b (o+f.offset) (fun j=>u (f.offset+j)) (hfl.drop _) By (fun j c hj=>?_) (fun j c hj=>?_)) rfl⟩
   ·grind
   grind
  ·rw[decide_eq_false dH]at hv';exact hv'.no.elim
 ·rename_i b o
  rw[hv'.dG]
  exact⟨_,cG b o (VR.gK hb),NR.mk rfl (.ref _ _) rfl⟩
 ·rename_i cs
  unfold M4 at hv'
  split at hv'
  ·rename_i j
   obtain⟨rfl,_⟩:=hv'.fY
   obtain⟨i',b,c,t',e1,hl,htm,hvv,_⟩:=hb
   injection e1 with e1
   subst e1
   exact⟨_,cG b 0 hvv,b,A_,fun _ _=>by rw[htm,hvv]⟩
  ·exact hv'.no.elim
 ·exact hv'.no.elim
end
section
variable{P:Program}{G:Gh}{n:Nat}{D:List Deferred}{σ:St}{a:Act}{w:World}
def OM{k:Int}{m sz len:Nat}(h0:0<=k)(h1:k<m)(hl:len=m*sz):k.toNat*sz+sz<=len:=by
 have:k.toNat+1<=m:=AT
 calc k.toNat*sz+sz=(k.toNat+1)*sz:=by grind
  _<=m*sz:=Nat.mul_le_mul_right _ this
  _=len:=hl.symm
def GS(h:Inv G n D σ a w){op:Op}{ty:TypeId}{z:List AV}{x i:IX}(hc:aD P op ty (.indexAddr z x i)=true){av:AV}(hv:iQ (pv (.indexAddr z x i) (xg true σ) σ) av):
 ∃v,runs P a op ty w v/\NR G w σ a av v:=by
 cases op<;>first|(simp[aD]at hc;done)|skip
 rename_i t y j
 simp only[aD,Bool.and_eq_true]at hc
 obtain⟨⟨hy,hj⟩,hc⟩:=hc
 split at hc<;>try(cases hc;done)
 rename_i e ht
 have ht:=dq ht
 have hb:=BR.bn h hy
 have hbi:=BR.bn h hj
 have hv':iQ (kW z (xg true σ x) (xg true σ i)) av:=hv
 generalize xg true σ x=xv at hb hv'
 generalize xg true σ i=iv at hbi hv'
 have cG:∀b o l c k q,a.eval y=.slice (some ⟨b,o,none⟩) l c->a.eval j=.int k q->0<=q->q<l->runs P a (.indexAddr t y j) ty w (.pointer (some ⟨b,o+q.toNat*z.length,none⟩)):=by
  intro b o l c k q e1 e2 h0 h1 _ _ _ _
  simp[execOp,e1,e2,Instr.indexAt,asIntOf,run_underlying ht,h0,h1,run_sizeOf hc,add_eq]
 unfold kW at hv'
 split at hv'
 ·rename_i ow s m cs k q
  cases hs:s==z.length with
  |false=>rw[hs]at hv';exact hv'.no.elim
  |true=>
   rw[hs]at hv'
   have hs:=beq_iff_eq.1 hs
   obtain⟨rfl,h0,h1⟩:=hv'.fY
   have e2:a.eval j=.int k q:=VR.dI hbi
   rcases VR.jd hb with⟨_,rfl,_⟩|⟨b,o,cap,e1,hl,hR,gv,hat⟩
   ·grind
   ·rw[hs]at hl
    have dH:=OM h0 h1 hl
    have hlen:(views (AB.sub cs (q.toNat*z.length) z.length)).length=z.length:=by simp only[AB.views,List.length_map,kP dH]
    have WK:pad z (views (AB.sub cs (q.toNat*z.length) z.length))=views (AB.sub cs (q.toNat*z.length) z.length):=by
     unfold pad
     rw[hlen,beq_self_eq_true];rfl
    have aeI:=(hat.sub (q.toNat*z.length) z.length).views
    obtain⟨u,u1,u2,u3⟩:=aeI
    rw[WK]
    refine⟨_,cG b o m cap k q e1 e2 h0 h1,NR.mk rfl (.sp _ b (o+q.toNat*z.length) u u3 ?_ u1 u2) rfl⟩
    grind
 ·rename_i b o m c k q
  obtain⟨rfl,h0,h1⟩:=hv'.fY
  rcases VR.dF hb with e0|⟨h2,_,_⟩
  ·exact⟨_,cG b o m c k q e0 (VR.dI hbi) h0 h1,NR.mk rfl (.ref _ _) rfl⟩
  ·omega
 ·exact hv'.no.elim
def D7(h:Inv G n D σ a w){op:Op}{ty:TypeId}{sz len:Nat}{x i:IX}(hc:aD P op ty (.jJ sz len x i)=true){av:AV}(hv:iQ (pv (.jJ sz len x i) (xg true σ) σ) av):
 ∃v,runs P a op ty w v/\NR G w σ a av v:=by
 cases op<;>first|(simp[aD]at hc;done)|skip
 rename_i t y j
 simp only[aD,Bool.and_eq_true]at hc
 obtain⟨⟨hy,hj⟩,hc⟩:=hc
 split at hc<;>try(cases hc;done)
 rename_i l e ht
 simp only[Bool.and_eq_true,beq_iff_eq]at hc
 obtain⟨rfl,hs⟩:=hc
 have hb:=BR.bn h hy
 have hbi:=BR.bn h hj
 have hv':iQ (gD sz l x (xg true σ x) (xg true σ i)) av:=hv
 generalize hxv:xg true σ x=xv at hb hv'
 generalize xg true σ i=iv at hbi hv'
 have cG:∀b o k q,a.eval y=.pointer (some ⟨b,o,none⟩)->a.eval j=.int k q->0<=q->q<l->runs P a (.indexAddr t y j) ty w (.pointer (some ⟨b,o+q.toNat*sz,none⟩)):=by
  intro b o k q e1 e2 h0 h1 _ _ _ _
  simp[execOp,e1,e2,Instr.indexAt,asIntOf,run_underlying ht,Instr.sureAddr,h0,h1,run_sizeOf hs,add_eq]
 unfold gD at hv'
 split at hv'
 ·rename_i d o k q
  obtain⟨rfl,h0,h1⟩:=hv'.fY
  obtain⟨b,e1,h2⟩:=hb
  exact⟨_,cG b o k q e1 (VR.dI hbi) h0 h1,b,rfl,h2⟩
 ·rename_i cs k q
  by_cases dH:l*sz<=cs.length
  ·rw[decide_eq_true dH]at hv'
   obtain⟨rfl,h0,h1⟩:=hv'.fY
   obtain⟨b,o,e,hR,u,u1,u2,u3⟩:=VR.Kn hb
   have hf:=OM (sz:=sz) h0 h1 rfl
   refine⟨_,cG b o k q e (VR.dI hbi) h0 h1,NR.mk rfl (.sp _ b (o+q.toNat*sz) (fun j=>u (q.toNat*sz+j)) (u3.drop _) By (fun j c hj=>?_) (fun j c hj=>?_)) rfl⟩
   ·grind
   grind
  ·rw[decide_eq_false dH]at hv';exact hv'.no.elim
 ·rename_i b o k q
  obtain⟨rfl,h0,h1⟩:=hv'.fY
  exact⟨_,cG b o k q (VR.gK hb) (VR.dI hbi) h0 h1,NR.mk rfl (.ref _ _) rfl⟩
 ·rename_i cs k q
  unfold M4 at hv'
  split at hv'
  ·rename_i j'
   obtain⟨rfl,h0,h1⟩:=hv'.fY
   obtain⟨i',b,c,t',e1,hl,htm,hvv,_⟩:=hb
   injection e1 with e1
   subst e1
   exact⟨_,cG b 0 k q hvv (VR.dI hbi) h0 h1,b,A_,fun _ _=>by rw[htm,hvv]⟩
  ·exact hv'.no.elim
 ·exact hv'.no.elim
def ke{lo:Option Operand}{li:Option IX}(h:Inv G n D σ a w)(hc:DS lo li=true){d l:Int}(hl:E2 (xg true σ) li d=some l):
 (lo=none/\l=d)\/(∃k o,lo=some o/\a.eval o=.int k l):=by
 unfold DS at hc
 split at hc
 ·injection hl with hl;grind
 ·rename_i o x
  have hb:=BR.bn h hc
  unfold E2 at hl
  simp at hl
  split at hl
  ·rename_i k q hq
   injection hl with hl;subst hl
   rw[hq]at hb
   exact .inr ⟨k,o,rfl,VR.dI hb⟩
  ·cases hl
 ·cases hc
def jo(D0:Bool)(len cap:Nat){lo hi:Option Value}{l hh:Int}(hlo:(lo=none/\l=0)\/∃k,lo=some (.int k l))(hhi:(hi=none/\hh=len)\/∃k,hi=some (.int k hh))
 (h0:0<=l)(h1:l<=hh)(h2:hh<=cap):(Instr.sliceBounds D0 len cap lo hi none).run P w=.ok (l.toNat,hh.toNat,cap) w:=by
 have hb:∀k(q:Int)(y:Nat) c,0<=q->q<=y->(Instr.sliceBound (.int k q) y c).run P w=.ok q.toNat w:=by
  intro k q y c hq hy
  simp[Instr.sliceBound,asIntOf,hq,hy]
 rcases hhi with⟨rfl,rfl⟩|⟨k,rfl⟩
 ·rcases hlo with⟨rfl,rfl⟩|⟨k',rfl⟩
  ·simp[Instr.sliceBounds]
  ·simp[Instr.sliceBounds,hb k' l len _ h0 h1]
 ·have:=hb k hh cap (if D0 then .sliceAcap else .sliceAlen) AT h2
  rcases hlo with⟨rfl,rfl⟩|⟨k',rfl⟩
  ·simp[Instr.sliceBounds,this]
  ·have h3:=hb k' l hh.toNat .sliceB h0 AT
   simp[Instr.sliceBounds,this,h3]
def zo(D0:Bool)(len cap:Nat){lo:Option Value}{l hh m:Int}{kh km:IntKind}(hlo:(lo=none/\l=0)\/∃k,lo=some (.int k l))
 (h0:0<=l)(h1:l<=hh)(h2:hh<=m)(h3:m<=cap):(Instr.sliceBounds D0 len cap lo (some (.int kh hh)) (some (.int km m))).run P w=.ok (l.toNat,hh.toNat,m.toNat) w:=by
 have hb:∀k(q:Int)(y:Nat) c,0<=q->q<=y->(Instr.sliceBound (.int k q) y c).run P w=.ok q.toNat w:=by
  intro k q y c hq hy
  simp[Instr.sliceBound,asIntOf,hq,hy]
 have e1:=hb km m cap (if D0 then .slice3Acap else .slice3Alen) AT h3
 have e2:=hb kh hh m.toNat .slice3B AT AT
 rcases hlo with⟨rfl,rfl⟩|⟨k',rfl⟩
 ·simp[Instr.sliceBounds,e1,e2]
 ·have e3:=hb k' l hh.toNat .slice3C h0 AT
  simp[Instr.sliceBounds,e1,e2,e3]
def mC{lo:Option Operand}{l d:Int}(h:(lo=none/\l=d)\/(∃k o,lo=some o/\a.eval o=.int k l)):(lo.map a.eval=none/\l=d)\/∃k,lo.map a.eval=some (.int k l):=A_
def Qm(h:Inv G n D σ a w){op:Op}{ty:TypeId}{sz:Nat}{x:IX}{lo hi mx:Option IX}(hc:aD P op ty (.slice sz x lo hi mx)=true){av:AV}(hv:iQ (pv (.slice sz x lo hi mx) (xg true σ) σ) av):
 ∃v,runs P a op ty w v/\NR G w σ a av v:=by
 cases op<;>first|(simp[aD]at hc;done)|skip
 rename_i t y l' h' m'
 simp only[aD,Bool.and_eq_true]at hc
 obtain⟨⟨⟨⟨hy,hlo⟩,hhi⟩,hmx⟩,hc⟩:=hc
 split at hc<;>try(cases hc;done)
 rename_i e ht
 have ht:=dq ht
 cases mx with
 |some m=>
  have hb:=BR.bn h hy
  have hv':iQ (pK sz (xg true σ) lo hi m (xg true σ x)) av:=hv
  generalize xg true σ x=xv at hb hv'
  unfold pK at hv'
  split at hv'
  ·rename_i b o len cap
   unfold zr at hv'
   split at hv'
   ·rename_i l hh mm hl hhh hmm
    obtain⟨rfl,h0,h1,h2,h3⟩:=hv'.fY
    have bl:=mC (ke h hlo hl)
    cases hi with
    |none=>cases hhh
    |some hi'=>
    have bh:=ke h hhi (d:=0) hhh
    have bm:=ke h hmx (d:=0) hmm
    rcases bh with⟨hn,_⟩|⟨kh,oh,eh1,eh2⟩
    ·grind [DS]
    rcases bm with⟨hn,_⟩|⟨km,om,em1,em2⟩
    ·grind [DS]
    subst eh1;subst em1
    have cG:=zo (P:=P) (w:=w) (kh:=kh) (km:=km) true len cap bl h0 h1 h2 h3
    have e3:hh.toNat -l.toNat=(hh -l).toNat:=AT
    rcases VR.dF hb with e1|⟨rfl,rfl,e1⟩
    ·by_cases hcl:mm.toNat=l.toNat
     ·have e5:kU o mm.toNat l.toNat sz=o:=by unfold kU;rw[hcl,beq_self_eq_true];rfl
      rw[e5]
      refine⟨.slice (some ⟨b,o,none⟩) (hh -l).toNat (mm.toNat -l.toNat),fun _ _ _ _=>?_,NR.mk rfl (.arr _ _ _ _) rfl⟩
      simp[execOp,e1,Instr.sliceAt,run_underlying ht,Instr.slice,eh2,em2,cG,run_sizeOf hc,hcl,e3]
     ·have e5:kU o mm.toNat l.toNat sz=o+l.toNat*sz:=by
       unfold kU
       rw[show(mm.toNat==l.toNat)=false by grind];rfl
      rw[e5]
      refine⟨.slice (some ⟨b,o+l.toNat*sz,none⟩) (hh -l).toNat (mm.toNat -l.toNat),fun _ _ _ _=>?_,NR.mk rfl (.arr _ _ _ _) rfl⟩
      simp[execOp,e1,Instr.sliceAt,run_underlying ht,Instr.slice,eh2,em2,cG,run_sizeOf hc,hcl,e3,add_eq]
    ·have h6:mm=0:=AT
     have h4:hh=0:=AT
     have h5:l=0:=AT
     subst h6;subst h4;subst h5
     refine⟨.slice none 0 0,fun _ _ _ _=>?_,NR.mk rfl (by exact .FX _ _) rfl⟩
     simp[execOp,e1,Instr.sliceAt,run_underlying ht,Instr.slice,eh2,em2,cG,run_sizeOf hc]
   ·exact hv'.no.elim
  ·exact hv'.no.elim
 |none=>
  have hm':m'=none:=by
   cases m' with
   |none=>rfl
   |some _=>simp[DS]at hmx
  subst hm'
  have hb:=BR.bn h hy
  have hv':iQ (tZ sz (xg true σ) lo hi (xg true σ x)) av:=hv
  generalize xg true σ x=xv at hb hv'
  unfold tZ at hv'
  split at hv'
  ·rename_i ow s m cs
   cases hs:s==sz with
   |false=>rw[hs]at hv';exact hv'.no.elim
   |true=>
    rw[hs]at hv'
    obtain rfl:=beq_iff_eq.1 hs
    have lY:iQ (Bq s m cs (E2 (xg true σ) lo 0) (E2 (xg true σ) hi m)) av:=hv'
    unfold Bq at lY
    split at lY
    ·rename_i l hh hl hhh
     cases h1s:Nat.ble 1 s with
     |false=>rw[h1s]at lY;exact lY.no.elim
     |true=>
     rw[h1s]at lY
     have hs1:1<=s:=Nat.le_of_ble_eq_true h1s
     obtain⟨rfl,h0,h1,h2⟩:=lY.fY
     have bl:=mC (ke h hlo hl)
     have bh:=mC (ke h hhi hhh)
     rcases VR.jd hb with⟨e1,rfl,rfl⟩|⟨b,o,cap,e1,hlen,hR,gv,hat⟩
     ·have hl0:l=0:=AT
      have hh0:hh=0:=AT
      subst hl0;subst hh0
      have xD:AB.sub ([]:List AV) ((0:Int).toNat*s) ((0 -0:Int).toNat*s)=[]:=by simp[AB.sub]
      rcases e1 with e1|⟨_,ad,cap,e1⟩
      ·refine⟨.slice none 0 0,fun _ _ _ _=>?_,NR.mk rfl ?_ rfl⟩
       ·have:=jo (P:=P) (w:=w) true 0 0 bl bh AT AT AT
        simp[execOp,e1,Instr.sliceAt,run_underlying ht,Instr.slice,this,run_sizeOf hc]
       ·rw[xD]
        show VR _ _ (.sl false s (0/s) []) _
        rw[Nat.zero_div];exact .slnil _ _
      ·refine⟨.slice (some (if cap=0 then ad else ad.add 0)) 0 cap,fun _ _ _ _=>?_,NR.mk rfl ?_ rfl⟩
       ·have:=jo (P:=P) (w:=w) true 0 cap bl bh AT AT AT
        by_cases hc0:cap=0
        ·subst hc0
         simp[execOp,e1,Instr.sliceAt,run_underlying ht,Instr.slice,this,run_sizeOf hc]
        ·simp[execOp,e1,Instr.sliceAt,run_underlying ht,Instr.slice,this,run_sizeOf hc,hc0]
       ·rw[xD]
        show VR _ _ (.sl false s (0/s) []) _
        rw[Nat.zero_div];exact .sle _ _ _
     ·have cG:=jo (P:=P) (w:=w) true m cap bl bh h0 h1 AT
      have dH:l.toNat*s+(hh -l).toNat*s<=cs.length:=by
       rw[hlen,<-Nat.add_mul]
       exact Nat.mul_le_mul_right _ AT
      have hdiv:(AB.sub cs (l.toNat*s) ((hh -l).toNat*s)).length/s=(hh -l).toNat:=by rw[kP dH];exact Nat.mul_div_cancel _ hs1
      rw[hdiv]
      by_cases hcl:cap=l.toNat
      ·subst hcl
       have hz:(hh -l).toNat=0:=AT
       refine⟨.slice (some ⟨b,o,none⟩) (hh -l).toNat (l.toNat -l.toNat),fun _ _ _ _=>?_,NR.mk rfl ?_ rfl⟩
       ·have e3:hh.toNat -l.toNat=(hh -l).toNat:=AT
        simp[execOp,e1,Instr.sliceAt,run_underlying ht,Instr.slice,cG,run_sizeOf hc,e3]
       ·rw[hz]
        have:AB.sub cs (l.toNat*s) (0*s)=[]:=by simp[AB.sub]
        rw[this]
        exact .sl false s 0 [] b o _ (fun _=>undef) Fl.nil B_ By (Nat.zero_le _) (fun j c hj=>T_) (fun j c hj=>T_)
      ·refine⟨.slice (some ⟨b,o+l.toNat*s,none⟩) (hh -l).toNat (cap -l.toNat),fun _ _ _ _=>?_,NR.mk rfl ?_ rfl⟩
       ·have e3:hh.toNat -l.toNat=(hh -l).toNat:=AT
        simp[execOp,e1,Instr.sliceAt,run_underlying ht,Instr.slice,cG,run_sizeOf hc,hcl,e3,add_eq]
       ·obtain⟨u,u1,u2,u3⟩:=hat.sub (l.toNat*s) ((hh -l).toNat*s)
        exact .sl false s _ _ b _ _ u u3 (kP dH) (by grind [kP]) AT u1 u2
    ·exact lY.no.elim
  ·rename_i b o m cap
   have lY:iQ (yw sz b o cap (E2 (xg true σ) lo 0) (E2 (xg true σ) hi m)) av:=hv'
   unfold yw at lY
   split at lY
   ·rename_i l hh hl hhh
    obtain⟨rfl,h0,h1,h2⟩:=lY.fY
    have bl:=mC (ke h hlo hl)
    have bh:=mC (ke h hhi hhh)
    have cG:=jo (P:=P) (w:=w) true m cap bl bh h0 h1 h2
    have e3:hh.toNat -l.toNat=(hh -l).toNat:=AT
    rcases VR.dF hb with e1|⟨rfl,rfl,e1⟩
    ·by_cases hcl:cap=l.toNat
     ·have e5:kU o cap l.toNat sz=o:=by unfold kU;rw[hcl,beq_self_eq_true];rfl
      rw[e5]
      refine⟨.slice (some ⟨b,o,none⟩) (hh -l).toNat (cap -l.toNat),fun _ _ _ _=>?_,NR.mk rfl (.arr _ _ _ _) rfl⟩
      simp[execOp,e1,Instr.sliceAt,run_underlying ht,Instr.slice,cG,run_sizeOf hc,<-hcl,e3]
      grind
     ·have e5:kU o cap l.toNat sz=o+l.toNat*sz:=by
       unfold kU
       rw[show(cap==l.toNat)=false by grind];rfl
      rw[e5]
      refine⟨.slice (some ⟨b,o+l.toNat*sz,none⟩) (hh -l).toNat (cap -l.toNat),fun _ _ _ _=>?_,NR.mk rfl (.arr _ _ _ _) rfl⟩
      simp[execOp,e1,Instr.sliceAt,run_underlying ht,Instr.slice,cG,run_sizeOf hc,hcl,e3,add_eq]
    ·have h3:l=0:=AT
     have h4:hh=0:=AT
     subst h3;subst h4
     refine⟨.slice none 0 0,fun _ _ _ _=>?_,NR.mk rfl (by exact .FX _ _) rfl⟩
     simp[execOp,e1,Instr.sliceAt,run_underlying ht,Instr.slice,cG,run_sizeOf hc]
   ·exact lY.no.elim
  ·exact hv'.no.elim
def Nk(h:Inv G n D σ a w){op:Op}{ty:TypeId}{x:IX}{lo hi:Option IX}(hc:aD P op ty (.ny x lo hi)=true){av:AV}(hv:iQ (pv (.ny x lo hi) (xg true σ) σ) av):
 ∃v,runs P a op ty w v/\NR G w σ a av v:=by
 cases op<;>first|(simp[aD]at hc;done)|skip
 rename_i t y l' h' m'
 cases m' with
 |some _=>simp[aD]at hc
 |none=>
  simp only[aD,Bool.and_eq_true]at hc
  obtain⟨⟨⟨hy,hlo⟩,hhi⟩,ht⟩:=hc
  have ht:=yz ht
  have hb:=BR.bn h hy
  have hv':iQ (mR (xg true σ) lo hi (xg true σ x)) av:=hv
  generalize xg true σ x=xv at hb hv'
  unfold mR at hv'
  split at hv'
  ·rename_i s
   have lY:=hv'
   unfold Dt at lY
   split at lY
   ·rename_i l hh hl hhh
    obtain⟨rfl,h0,h1,h2⟩:=lY.fY
    have bl:=mC (ke h hlo hl)
    have bh:=mC (ke h hhi hhh)
    have e1:=VR.jC hb
    have cG:=jo (P:=P) (w:=w) false s.length s.length bl bh h0 h1 h2
    have hsz:(ByteArray.mk s.toArray).size=s.length:=Xc8
    refine⟨.string ⟨((s.drop l.toNat).take (hh -l).toNat).toArray⟩,fun _ _ _ _=>?_,NR.mk rfl (.str _) rfl⟩
    have hex:(ByteArray.mk s.toArray).extract l.toNat hh.toNat=⟨((s.drop l.toNat).take (hh -l).toNat).toArray⟩:=by
     apply ByteArray.ext
     rw[ByteArray.data_extract]
     apply Array.ext'
     simp only[Array.toList_extract,List.extract_eq_take_drop]
     congr 1
     omega
    simp[execOp,e1,Instr.sliceAt,run_underlying ht,Instr.slice,hsz,cG,hex]
   ·exact lY.no.elim
  ·exact hv'.no.elim
def rm{b:Builtin}{c:Call}{ys:List Operand}{ts:List TypeId}(h:N4 b c=some (ys,ts)):c={callee:=.builtin b,args:=ys.toArray,argTypes:=ts.toArray}:=by
 unfold N4 at h
 split at h
 ·split at h
  ·rename_i hbb
   injection h with h;injection h with h1 h2
   subst h1;subst h2
   cases c;simp_all
  ·cases h
 ·cases h
def XS(h:Inv G n D σ a w){op:Op}{ty:TypeId}{cls:Nat}{x:IX}(hc:aD P op ty (.len cls x)=true){av:AV}(hv:iQ (pv (.len cls x) (xg true σ) σ) av):
 ∃v,runs P a op ty w v/\NR G w σ a av v:=by
 cases op<;>first|(simp[aD]at hc;done)|skip
 rename_i c
 simp only[aD]at hc
 split at hc<;>try(cases hc;done)
 rename_i y ys t ts hb
 have hce:=rm hb
 subst hce
 rw[Bool.and_eq_true]at hc
 obtain⟨hy,hlt⟩:=hc
 have hb:=BR.bn h hy
 have hv':iQ (AK σ.s cls (xg true σ x)) av:=hv
 generalize xg true σ x=xv at hb hv'
 have fin:∀(m:Nat),av=.int .i64 m->(∀w',w'=w->(Builtin.len_ (t::ts).toArray ty ((y::ys).toArray.map a.eval)).run P w'=.ok (.int .i64 m) w')->∃v,runs P a (.call {callee:=.builtin .len,args:=(y::ys).toArray,argTypes:=(t::ts).toArray}) ty w v/\NR G w σ a av v:=by
  intro m hm hr
  subst hm
  exact⟨.int .i64 m,fun _ _ _ _=>by simp[execOp,resolve,invoke,builtin]at hr⊢;simp[hr],NR.mk rfl (.int _ _) rfl⟩
 unfold abk at hlt
 split at hlt<;>try(cases hlt;done)
 all_goals
  rename_i ht
  obtain rfl:=beq_iff_eq.1 hlt
  unfold AK at hv'
  split at hv'<;>rename_i hcl<;>try(cases hcl;done)
 ·rename_i ow s m cs
  refine fin m hv'.dG fun w' _=>?_
  rcases VR.jd hb with⟨e0,rfl,_⟩|⟨b,o,cap,e1,_⟩
  ·obtain⟨_,_,e1⟩:=e0.ex
   simp[Builtin.len_,run_underlying ht,goInt,e1]
  ·simp[Builtin.len_,run_underlying ht,goInt,e1]
 ·rename_i b o m c
  refine fin m hv'.dG fun w' _=>?_
  rcases VR.dF hb with e1|⟨rfl,_,e1⟩<;>simp[Builtin.len_,run_underlying ht,goInt,e1]
 ·exact hv'.no.elim
 ·rename_i s
  refine fin s.length hv'.dG fun w' _=>?_
  have e1:=VR.jC hb
  have hsz:(ByteArray.mk s.toArray).size=s.length:=Xc8
  simp only[List.map_toArray,List.map_cons,e1]
  simp[Builtin.len_,run_underlying ht,goInt,hsz]
 ·exact hv'.no.elim
 ·refine fin 0 hv'.dG fun w' _=>?_
  simp[Builtin.len_,run_underlying ht,goInt,VR.Pq hb]
 ·rename_i b
  unfold Ks at hv'
  split at hv'
  ·rename_i es hs
   refine fin es.length hv'.dG fun w' hw'=>?_
   subst hw'
   obtain⟨_,_,sW,clock,hh,hsz,_⟩:=h.store b _ hs
   have hg:(getObj b).run P w'=.ok (.map sW clock) w':=by simp[getObj,Sem.run,hh]
   simp[Builtin.len_,run_underlying ht,goInt,VR.WT hb,hg,hsz]
  ·exact hv'.no.elim
 ·exact hv'.no.elim
def SU(mx:Bool)(k:IntKind)(h:Inv G n D σ a w):∀(xs:List IX)(ys:List Operand),jB ys xs=true->∀(m r:Int),I3 mx m (xs.map (xg true σ))=some r->
 ((ys.map a.eval).foldlM (if mx then Builtin.max2 else Builtin.min2) (.int k m)).run P w=.ok (.int k r) w:=by
 intro xs
 induction xs with
 |nil=>
  intro ys hc m r hr
  cases ys with
  |nil=>simp[I3]at hr;subst hr;rfl
  |cons _ _=>simp[jB]at hc
 |cons x xs ih=>
  intro ys hc m r hr
  cases ys with
  |nil=>simp[jB]at hc
  |cons y ys=>
   simp[jB,Bool.and_eq_true]at hc
   have hb:=BR.bn h hc.1
   simp only[List.map_cons]at hr⊢
   generalize xg true σ x=xv at hb hr
   cases xv<;>simp[I3]at hr<;>try(cases hr)
   have e:=VR.dI hb
   grind [Sem.run_bind,Builtin.max2,max,Sem.run_pure,Builtin.min2,min]
def KM(h:Inv G n D σ a w){op:Op}{ty:TypeId}{k:Nat}{x:IX}(hc:aD P op ty (.extract x k)=true){av:AV}(hv:iQ (pv (.extract x k) (xg true σ) σ) av):
 ∃v,runs P a op ty w v/\NR G w σ a av v:=by
 cases op<;>first|(simp[aD]at hc;done)|skip
 simp[aD,Bool.and_eq_true,beq_iff_eq]at hc
 obtain⟨hy,rfl⟩:=hc
 have hb:=BR.bn h hy
 have hv':iQ (qk k (xg true σ x)) av:=hv
 generalize xg true σ x=xv at hb hv'
 unfold qk at hv'
 split at hv'
 ·rename_i vs
  obtain⟨us,e1,hl,hr⟩:=VR.LI hb
  cases hk:vs[k]? with
  |none=>rw[hk]at hv';exact hv'.no.elim
  |some c=>
   rw[hk]at hv'
   obtain⟨rfl,hi⟩:=Oj hv'
   have hlt:k<us.size:=A_
   have hu:=Array.getElem?_eq_getElem hlt
   exact⟨us[k],fun _ _ _ _=>by simp[execOp,e1,Instr.extract,hu],NR.mk hi (hr k c _ hk hu).view (uQ _)⟩
 ·exact hv'.no.elim
end
theorem HP{a:AV}{c:UInt8}(h:byteOf a=some c):a=.int .u8 c.toNat:=by
 unfold byteOf at h
 grind [UInt8.toNat_ofNat']
theorem xh:∀{cs:List AV}{l:List UInt8},bytesOf cs=some l->cs=l.map fun c=>.int .u8 c.toNat
 |[],l,h=>by grind [bytesOf]
 |a::r,l,h=>by
  unfold bytesOf at h
  cases ha:byteOf a with
  |none=>rw[ha]at h;cases h
  |some c=>
   cases hr:bytesOf r with
   |none=>rw[ha,hr]at h;cases h
   |some m=>
    rw[ha,hr]at h
    injection h with h
    subst h
    rw[HP ha,xh hr];rfl
section
variable{P:Program}{G:Gh}{n:Nat}{D:List Deferred}{σ:St}{a:Act}{w:World}
def Ql(h:Inv G n D σ a w){op:Op}{ty:TypeId}{z:List AV}{m:Bool}{x:IX}(hc:aD P op ty (.kj z m x)=true){av:AV}(hv:iQ (pv (.kj z m x) (xg true σ) σ) av):
 ∃v,runs P a op ty w v/\NR G w σ a av v:=by
 have hc':aD P op ty (.load z.length m x)=true:=by cases op<;>first|exact hc|(done)
 refine L6 h hc' ?_
 have hv':iQ (E5 z m σ.s (xg true σ x)) av:=hv
 show iQ (na m (rd σ (xg true σ x) z.length)) av
 generalize xg true σ x=xv at hv'
 cases xv<;>first|exact hv'.no.elim|skip
 rename_i b off
 have hv2:iQ (IV z m off (σ.s b)) av:=hv'
 show iQ (na m (vi z.length off (σ.s b))) av
 cases hs:σ.s b with
 |none=>rw[hs]at hv2;exact hv2.no.elim
 |some so=>
  cases so with
  |map es=>rw[hs]at hv2;exact hv2.no.elim
  |cells cs=>
   rw[hs]at hv2
   have hv3:iQ (YQ (off+z.length<=cs.length) (od m (pad z (views (sub cs off z.length))))) av:=hv2
   unfold YQ at hv3
   cases hi:ee (od m (pad z (views (sub cs off z.length))))with
   |false=>rw[hi]at hv3;exact hv3.no.elim
   |true=>
    rw[hi]at hv3
    obtain⟨rfl,hle⟩:=hv3.fY
    have hlen:(views (AB.sub cs off z.length)).length=z.length:=by simp[AB.views,List.length_map,AB.sub,List.length_take,List.length_drop];omega
    have WK:pad z (views (AB.sub cs off z.length))=views (AB.sub cs off z.length):=by unfold pad;rw[hlen,beq_self_eq_true];rfl
    rw[WK]at hi⊢
    show iQ (na m (jg z.length off cs)) _
    unfold jg
    rw[decide_eq_true hle]
    show iQ (UG (od m (views (AB.sub cs off z.length)))) _
    unfold UG
    rw[hi]
    exact .inl rfl
def lD{P:Program}(w:World)(src e:TypeId)(hs:P.underlying src=some (.slice e))(he:P.underlying e=some (.int .u8))(ad:Addr)(cap:Nat):
 ∀dst,P.underlying dst=some .string->(convert src dst (.slice (some ad) 0 cap)).run P w=.ok (.string ByteArray.empty) w:=by
 intro dst hd
 have hl:(loadCells ad 0).run P w=.ok ([].map (Value.int .u8)).toArray w:=W_
 rw[run_convert_bytes_string w src dst e _ 0 cap hs he hd,run_bytesToString w _ 0 cap [] hl]
 simp[ByteArray.emptyWithCapacity]
def Ng(h:Inv G n D σ a w){op:Op}{ty:TypeId}{x:IX}(hc:aD P op ty (.jM x)=true){av:AV}(hv:iQ (pv (.jM x) (xg true σ) σ) av):
 ∃v,runs P a op ty w v/\NR G w σ a av v:=by
 cases op<;>first|(simp[aD]at hc;done)|skip
 rename_i s t y
 simp only[aD,Bool.and_eq_true]at hc
 obtain⟨hy,hc⟩:=hc
 split at hc<;>try(cases hc;done)
 rename_i e hs ht
 split at hc<;>try(cases hc;done)
 rename_i he
 have hb:=BR.bn h hy
 have hv':iQ (ru (xg true σ x)) av:=hv
 generalize xg true σ x=xv at hb hv'
 unfold ru at hv'
 split at hv'<;>try(exact hv'.no.elim)
 rename_i ow sz m cs
 cases hsz:sz==1 with
 |false=>rw[hsz]at hv';exact hv'.no.elim
 |true=>
 rw[hsz]at hv'
 obtain rfl:=beq_iff_eq.1 hsz
 have hv2:=hv'
 cases hbs:bytesOf cs with
 |none=>rw[hbs]at hv2;exact hv2.no.elim
 |some l=>
 rw[hbs]at hv2
 obtain rfl:=hv2.dG
 obtain rfl:=xh hbs
 refine⟨.string ⟨l.toArray⟩,fun _ _ _ _=>?_,NR.mk rfl (.str l) rfl⟩
 rcases VR.jd hb with⟨e1,_,hl0⟩|⟨b,off,cap,e1,hlen,_,_,u,u1,u2,_⟩
 ·have:l=[]:=by simpa using hl0
  subst this
  rcases e1 with e1|⟨_,ad,cap,e1⟩
  ·have:=run_convert_bytes_nil (P:=P) w s e hs he 0 0 t ht
   simp[execOp,e1,this]
   rfl
  ·have:=lD (P:=P) w s e hs he ad cap t ht
   simp[execOp,e1,this]
   rfl
 ·have hm:l.length=m:=by simpa using hlen
  have:=run_convert_bytes_arg (P:=P) w s e hs he b off m cap (l.map fun c=>(c.toNat:Int)) A_ (fun i hi=>by
   have hil:i<l.length:=AT
   have hc0:(l.map fun c=>AV.int .u8 c.toNat)[i]? =some (.int .u8 l[i].toNat):=by simp[hil]
   grind [VR.dI]) t ht
  have hs2:strOfNums (l.map fun c=>(c.toNat:Int))=⟨l.toArray⟩:=by
   unfold strOfNums
   congr 2
   simp[Function.comp_def]
  rw[hs2]at this
  simp[execOp,e1,this]
end
def Un(off:Nat):∀(l:List Value)(s:Nat)(cells:Array Value),
 ((l.zipIdx s).foldl (fun cs(x:Value×Nat)=>cs.setIfInBounds (off+x.2) x.1) cells).size=cells.size/\
 ∀k,((l.zipIdx s).foldl (fun cs(x:Value×Nat)=>cs.setIfInBounds (off+x.2) x.1) cells)[k]? =
  if off+s<=k/\k<off+s+l.length/\k<cells.size then l[k -(off+s)]? else cells[k]? :=by
 intro l
 induction l with
 |nil=>
  intro s cells
  refine⟨rfl,fun k=>?_⟩
  rw[if_neg A_];rfl
 |cons v l ih=>
  intro s cells
  rw[List.zipIdx_cons]
  grind
section
variable{P:Program}{G:Gh}{n:Nat}{D:List Deferred}{σ:St}{a:Act}{w:World}
def Row(w:World)(R:Nat->Nat)(cs:List AV)(vs:Array Value):Prop:=vs.size=cs.length/\(∀(j:Nat)(c:AV)(u:Value),cs[j]? =some c->vs[j]? =some u->VR w R c u)/\Fl cs
def iT{R:Nat->Nat}{av:AV}{v:Value}(hi:ee av=true)(h:VR w R av v):Row w R (cellsOf av) v.cells:=by
 have key:(∃cs,av=.agg cs)\/(cellsOf av=[av]/\v.cells= #[v]/\ql av=true):=by cases h<;>first|exact .inl ⟨_,rfl⟩|exact .inr ⟨rfl,rfl,rfl⟩|(rename_i hb _;cases hb<;>exact .inr ⟨rfl,rfl,rfl⟩)|(rename_i Kj;exact .inr ⟨rfl,by cases v<;>first|rfl|(cases Kj),rfl⟩)|grind [ee]
 rcases key with⟨cs,rfl⟩|⟨h1,h2,h3⟩
 ·obtain⟨vs,rfl,hl,hr,hf⟩:=VR.Sw h
  exact⟨hl,hr,hf⟩
 ·rw[h1,h2]
  refine⟨rfl,fun j c u hc hu=>?_,fun c hc=>?_⟩
  ·grind
  grind
theorem Row.views{R:Nat->Nat}{cs:List AV}{vs:Array Value}(h:Row w R cs vs):Row w R (views cs) vs:=by
 refine⟨by simp[AB.views,h.1],fun j c u hc hu=>?_,h.2.2.views⟩
 rw[fG]at hc
 cases hj:cs[j]? with
 |none=>rw[hj]at hc;cases hc
 |some c'=>
  rw[hj]at hc;simp at hc
  rw[<-hc];exact(h.2.1 j c' u hj hu).view
theorem uI(cs news:List AV)(off k:Nat)(h:off+news.length<=cs.length):(setAt cs off news)[k]? =if off<=k/\k<off+news.length then news[k -off]? else cs[k]? :=by
 unfold setAt
 rw[List.append_assoc]
 grind
theorem uJ(cs news:List AV)(off:Nat)(h:off+news.length<=cs.length):(setAt cs off news).length=cs.length:=by grind [setAt]
theorem Fl.setAt{cs news:List AV}(h:Fl cs)(k:Fl news)(off:Nat):Fl (setAt cs off news):=by
 intro c hc
 rcases List.mem_append.1 hc with hc|hc
 ·rcases List.mem_append.1 hc with hc|hc
  ·exact h c (List.mem_of_mem_take hc)
  ·exact k c hc
 ·exact h c (List.mem_of_mem_drop hc)
theorem Ex.setAt{t:Nat}{cs news:List AV}(h:Ex t cs)(k:Fl news)(off:Nat):Ex t (AB.setAt cs off news):=by
 intro c hc
 unfold AB.setAt at hc
 simp only[List.mem_append]at hc
 rcases hc with(hc|hc)|hc
 ·exact h c (List.mem_of_mem_take hc)
 ·exact .inl (k c hc)
 ·exact h c (List.mem_of_mem_drop hc)
theorem Row.setAt{R:Nat->Nat}{cs news:List AV}{vs us:Array Value}{off:Nat}(h:Row w R cs vs)(k:Row w R news us)(dH:off+news.length<=cs.length):
 Row w R (setAt cs off news) (us.zipIdx.foldl (fun cs(x:Value×Nat)=>cs.setIfInBounds (off+x.2) x.1) vs):=by
 have e:us.zipIdx.foldl (fun cs x=>cs.setIfInBounds (off+x.2) x.1) vs=(us.toList.zipIdx 0).foldl (fun cs x=>cs.setIfInBounds (off+x.2) x.1) vs:=by rw[<-Array.foldl_toList,Array.toList_zipIdx]
 rw[e]
 obtain⟨h1,h2⟩:=Un off us.toList 0 vs
 refine⟨by rw[h1,uJ _ _ _ dH,h.1],fun j c u hc hu=>?_,Fl.setAt h.2.2 k.2.2 off⟩
 rw[h2 j]at hu
 rw[uI _ _ _ _ dH]at hc
 have hus:=k.1
 by_cases hj:off<=j/\j<off+news.length
 ·rw[if_pos hj]at hc
  exact k.2.1 (j -off) c u hc A_
 ·rw[if_neg hj]at hc
  rw[if_neg A_]at hu
  exact h.2.1 j c u hc hu
def rA(h:Inv G n D σ a w){f:IX->AV}(hf:∀(o:Operand)(x:IX),cj o x=true->ee (f x)=true->VR w G.R (f x) (a.eval o))(place:Nat->Option (Nat×Nat)):
 ∀(qs:List (Nat×Operand))(ps:List (Nat×Nat×IX))(cs ds:List AV)(vs:Array Value),
  (qs.length=ps.length/\∀(j:Nat)(q:Nat×Operand)(p:Nat×Nat×IX),qs[j]? =some q->ps[j]? =some p->place q.1=some (p.1,p.2.1)/\cj q.2 p.2.2=true)->
  Row w G.R cs vs->fill f cs ps=some ds->∃us,Instr.fill place vs (qs.map fun q=>(q.1,a.eval q.2))=some us/\Row w G.R ds us:=by
 intro qs
 induction qs with
 |nil=>
  intro ps cs ds vs hc hr hfl
  cases ps with
  |nil=>injection hfl with hfl;subst hfl;exact⟨vs,rfl,hr⟩
  |cons _ _=>simp at hc
 |cons q qs ih=>
  intro ps cs ds vs hc hr hfl
  cases ps with
  |nil=>simp at hc
  |cons p ps=>
   obtain⟨off,m,x⟩:=p
   obtain⟨hlen,dY⟩:=hc
   obtain⟨hp,hx⟩:=dY 0 q (off,m,x) rfl rfl
   simp[fill]at hfl
   cases O5:(ee (f x)&&((views (cellsOf (f x))).length==m&&decide (off+m<=cs.length)))with
   |false=>grind
   |true=>
    rw[O5]at hfl
    simp[Bool.and_eq_true,beq_iff_eq,decide_eq_true_eq]at O5
    obtain⟨hi,hm,dH⟩:=O5
    have ft:=(iT hi (hf q.2 x hx hi)).views
    have hsz:(a.eval q.2).cells.size=m:=by rw[ft.1,hm]
    have hcs:off+(a.eval q.2).cells.size<=vs.size:=by rw[hsz,hr.1];exact dH
    have hr':=hr.setAt ft (off:=off) A_
    obtain⟨us,h1,h2⟩:=ih ps _ ds _ ⟨A_,fun j q' p' hq hp'=>dY (j+1) q' p' A_ A_⟩ hr' hfl
    simp[List.map_cons,Instr.fill]
    grind
def KI{fs:Array Field}:∀(qs:List (Nat×Operand))(ps:List (Nat×Nat×IX)),zh P fs qs ps=true->
 qs.length=ps.length/\∀(j:Nat)(q:Nat×Operand)(p:Nat×Nat×IX),qs[j]? =some q->ps[j]? =some p->(∃f,fs[q.1]? =some f/\f.offset=p.1/\eM P f.type p.2.1=true)/\cj q.2 p.2.2=true:=by
 intro qs
 induction qs with
 |nil=>intro ps hp;cases ps with
  |nil=>grind
  |cons _ _=>simp[zh]at hp
 |cons q qs ih=>intro ps hp;cases ps with
  |nil=>simp[zh]at hp
  |cons p ps=>
   simp[zh]at hp
   grind
def wG{sz:Nat}:∀(qs:List (Nat×Operand))(ps:List (Nat×Nat×IX)),tM sz qs ps=true->
 qs.length=ps.length/\∀(j:Nat)(q:Nat×Operand)(p:Nat×Nat×IX),qs[j]? =some q->ps[j]? =some p->(q.1*sz=p.1/\p.2.1=sz)/\cj q.2 p.2.2=true:=by
 intro qs
 induction qs with
 |nil=>intro ps hp;cases ps with
  |nil=>grind
  |cons _ _=>simp[tM]at hp
 |cons q qs ih=>intro ps hp;cases ps with
  |nil=>simp[tM]at hp
  |cons p ps=>
   simp[tM,beq_iff_eq]at hp
   grind
def uS{t:TypeId}{z:List AV}(h:oS P t z=true):∃i v,P.info? t=some i/\i.zero=some v/\i.size=z.length/\(∀(w:World)(R:Nat->Nat),Row w R z v.cells)/\(∀(j:Nat)(c:AV)(u:Value),z[j]? =some c->v.cells[j]? =some u->cR u c=true):=by
 unfold oS at h
 split at h
 ·rename_i i hi
  split at h
  ·rename_i v hv
   simp[Bool.and_eq_true,beq_iff_eq]at h
   obtain⟨h1,h2⟩:=A3 h.1
   exact⟨i,v,hi,hv,h.2,fun w R=>⟨A_,fun j c u hc hu=>xi (h2 j c u hc A_) w R,BI h.1⟩,fun j c u hc hu=>h2 j c u hc A_⟩
  ·cases h
 ·cases h
def I2(w:World):∀(fs:List Field),(∀f∈fs,(P.info? f.type).isSome=true)->
 (fs.mapM (m:=Sem) fun f=>Prod.mk f.offset<$>sizeOf f.type).run P w=.ok (fs.map fun f=>(f.offset,P.cellsOf f.type)) w:=by
 intro fs
 induction fs with
 |nil=>intro _;rfl
 |cons f fs ih=>
  cases hi:P.info? f.type with
  |none=>grind
  |some i=>
   simp[sizeOf,typeInfo,Program.cellsOf]at ih⊢
   simp_all
def Qj(h:Inv G n D σ a w){op:Op}{ty:TypeId}{z:List AV}{ps:List (Nat×Nat×IX)}(hc:aD P op ty (.build z ps)=true){av:AV}(hv:iQ (pv (.build z ps) (xg true σ) σ) av):
 ∃v,runs P a op ty w v/\NR G w σ a av v:=by
 cases op<;>first|(simp[aD]at hc;done)|skip
 rename_i t qs
 simp only[aD,Bool.and_eq_true]at hc
 obtain⟨hz,hc⟩:=hc
 obtain⟨ti,zv,hti,hzv,hsz,ft,_⟩:=uS hz
 have hv':iQ (BB (fill (xg true σ) z ps)) av:=hv
 cases hfl:fill (xg true σ) z ps with
 |none=>rw[hfl]at hv';exact hv'.no.elim
 |some ds=>
  rw[hfl]at hv'
  have hav:av=.agg ds:=hv'.dG
  subst hav
  have hzr:(zeroValue t).run P w=.ok zv w:=by simp[zeroValue,typeInfo,hti,hzv]
  have hf:∀(o:Operand)(x:IX),cj o x=true->ee (xg true σ x)=true->VR w G.R (xg true σ x) (a.eval o):=fun o x hx hi=>(BR.bn h hx).vr hi
  split at hc<;>try(cases hc;done)
  ·rename_i fs ht
   rw[Bool.and_eq_true]at hc
   obtain⟨hp,dY⟩:=hc
   obtain⟨hl,hp⟩:=KI _ _ hp
   have Sl:(fs.mapM (m:=Sem) fun f=>Prod.mk f.offset<$>sizeOf f.type).run P w=.ok (fs.map fun f=>(f.offset,P.cellsOf f.type)) w:=by
    have:=I2 (P:=P) w fs.toList (fun f hf=>by grind [Array.all_eq_true'])
    rw[Array.mapM_eq_mapM_toList]
    simp only[Sem.run_map,this,Result.andThen_ok]
    congr 1
    apply Array.ext'
    simp
   obtain⟨us,h1,h2⟩:=rA h hf ((fs.map fun f=>(f.offset,P.cellsOf f.type))[·]?) qs.toList ps z ds zv.cells
    ⟨hl,fun j q p hq hp'=>by grind [lE,Program.cellsOf]⟩ (ft w G.R) hfl
   refine⟨.agg us,fun _ _ _ _=>?_,NR.mk rfl (.agg _ _ h2.2.2 h2.1 h2.2.1) rfl⟩
   simp only[Array.getElem?_map]at h1
   simp[execOp,Instr.build,hzr,run_underlying ht,Sl,h1]
  ·rename_i m e ht
   split at hc<;>try(cases hc;done)
   rename_i ei hei
   obtain⟨hl,hp⟩:=wG _ _ hc
   obtain⟨us,h1,h2⟩:=rA h hf (fun i=>some (i*ei.size,ei.size)) qs.toList ps z ds zv.cells
    ⟨hl,fun j q p hq hp'=>A_⟩ (ft w G.R) hfl
   refine⟨.agg us,fun _ _ _ _=>?_,NR.mk rfl (.agg _ _ h2.2.2 h2.1 h2.2.1) rfl⟩
   simp[execOp,Instr.build,hzr,run_underlying ht,sizeOf,typeInfo,hei,h1]
def sJ(h:Inv G n D σ a w){f:IX->AV}(hf:∀(o:Operand)(x:IX),cj o x=true->ee (f x)=true->VR w G.R (f x) (a.eval o)):
 ∀(os:List Operand)(xs:List IX)(as:List AV),jB os xs=true->cQ f xs=some as->as.length=os.length/\(∀c∈as,ee c=true/\view c=c)/\
  ∀(j:Nat)(c:AV)(u:Value),as[j]? =some c->(os.map a.eval)[j]? =some u->VR w G.R c u:=by
 intro os
 induction os with
 |nil=>
  intro xs as hc hv
  cases xs with
  |nil=>injection hv with hv;grind
  |cons _ _=>simp[jB]at hc
 |cons o os ih=>
  intro xs as hc hv
  cases xs with
  |nil=>simp[jB]at hc
  |cons x xs=>
   simp[jB,Bool.and_eq_true]at hc
   simp[cQ]at hv
   cases hr:cQ f xs with
   |none=>grind [Mv]
   |some as'=>
    rw[hr]at hv
    simp[Mv]at hv
    cases hi:ee (f x)with
    |false=>grind
    |true=>
     rw[hi]at hv
     injection hv with hv;subst hv
     obtain⟨h1,h2,h3⟩:=ih xs as' hc.2 hr
     refine⟨A_,?_,fun j c u hcj hu=>?_⟩
     ·intro c hcm
      rcases List.mem_cons.1 hcm with rfl|hcm
      ·grind [lZ,uQ]
      grind
     ·cases j with
      |zero=>simp at hcj hu;subst hcj;subst hu;exact(hf o x hc.1 hi).view
      |succ j=>grind
def Nh(h:Inv G n D σ a w){op:Op}{ty:TypeId}{fi:Nat}{fs cs:List IX}(hc:aD P op ty (.tG fi fs cs)=true){av:AV}(hv:iQ (pv (.tG fi fs cs) (xg true σ) σ) av):
 ∃v,runs P a op ty w v/\NR G w σ a av v:=by
 cases op<;>first|(simp[aD]at hc;done)|skip
 rename_i g c d
 cases g<;>first|(simp[aD]at hc;done)|skip
 rename_i g
 simp only[aD,Bool.and_eq_true,beq_iff_eq]at hc
 obtain⟨⟨rfl,h1⟩,h2⟩:=hc
 have hf:∀(o:Operand)(x:IX),cj o x=true->ee (xg true σ x)=true->VR w G.R (xg true σ x) (a.eval o):=fun o x hx hi=>(BR.bn h hx).vr hi
 have hv':iQ (uB fi (cQ (xg true σ) fs) (cQ (xg true σ) cs)) av:=hv
 unfold uB at hv'
 split at hv'
 ·rename_i x y hx hy
  have hav:=hv'.dG
  subst hav
  obtain⟨a1,_,a3⟩:=sJ h hf _ _ _ h1 hx
  obtain⟨b1,_,b3⟩:=sJ h hf _ _ _ h2 hy
  refine⟨.func (.func fi) (c.map a.eval) (d.map a.eval),fun _ _ _ _=>W_,NR.mk rfl (.fn fi x y _ _ ?_ (fun j c' u hc' hu=>a3 j c' u hc' ?_) ?_ (fun j c' u hc' hu=>b3 j c' u hc' ?_)) rfl⟩
  ·grind
  ·grind
  ·grind
  grind
 ·exact hv'.no.elim
def Ni(h:Inv G n D σ a w){op:Op}{ty:TypeId}{mx:Bool}{xs:List IX}(hc:aD P op ty (.mD mx xs)=true){av:AV}(hv:iQ (pv (.mD mx xs) (xg true σ) σ) av):
 ∃v,runs P a op ty w v/\NR G w σ a av v:=by
 have key:∀(ys:List Operand),jB ys xs=true->∃(k:IntKind)(m:Int)(y:Operand)(ys':List Operand),ys=y::ys'/\av=.int k m/\∃m0,a.eval y=.int k m0/\
  ((ys'.map a.eval).foldlM (if mx then Builtin.max2 else Builtin.min2) (.int k m0)).run P w=.ok (.int k m) w:=by
  intro ys hx
  have hv':iQ (uC mx (xs.map (xg true σ))) av:=hv
  cases xs with
  |nil=>exact hv'.no.elim
  |cons x xs=>
   cases ys with
   |nil=>simp[jB]at hx
   |cons y ys=>
    simp only[jB,Bool.and_eq_true]at hx
    have hb:=BR.bn h hx.1
    simp only[List.map_cons]at hv'
    generalize xg true σ x=xv at hb hv'
    cases xv<;>simp only[uC]at hv'<;>try(exact hv'.no.elim)
    rename_i k m0
    cases hr:I3 mx m0 (xs.map (xg true σ))with
    |none=>rw[hr]at hv';exact hv'.no.elim
    |some r=>
     rw[hr]at hv'
     have hav:av=.int k r:=hv'.dG
     exact⟨k,r,y,ys,rfl,hav,m0,VR.dI hb,SU mx k h xs ys hx.2 m0 r hr⟩
 cases op<;>first|(cases mx<;>simp[aD]at hc;done)|skip
 rename_i c
 cases mx with
 |true=>
  simp only[aD]at hc
  split at hc<;>try(cases hc;done)
  rename_i ys ts hb
  have hce:=rm hb
  subst hce
  obtain⟨k,m,y,ys',rfl,rfl,m0,e0,hr⟩:=key ys hc
  refine⟨.int k m,fun _ _ _ _=>?_,NR.mk rfl (.int _ _) rfl⟩
  simp only[if_true]at hr
  simp[execOp,resolve,invoke,builtin,Builtin.max_,e0,hr]
 |false=>
  simp only[aD]at hc
  split at hc<;>try(cases hc;done)
  rename_i ys ts hb
  have hce:=rm hb
  subst hce
  obtain⟨k,m,y,ys',rfl,rfl,m0,e0,hr⟩:=key ys hc
  refine⟨.int k m,fun _ _ _ _=>?_,NR.mk rfl (.int _ _) rfl⟩
  simp only[Bool.false_eq_true,if_false]at hr
  simp[execOp,resolve,invoke,builtin,Builtin.min_,e0,hr]
def XL(h:Inv G n D σ a w){op:Op}{ty:TypeId}{x:IX}(hc:aD P op ty (.cap x)=true){av:AV}(hv:iQ (pv (.cap x) (xg true σ) σ) av):
 ∃v,runs P a op ty w v/\NR G w σ a av v:=by
 cases op<;>first|(simp[aD]at hc;done)|skip
 simp only[aD]at hc
 split at hc<;>try(cases hc)
 rename_i y ys t ts hb
 have hce:=rm hb
 subst hce
 simp[Bool.and_eq_true]at hc
 obtain⟨hy,hsl⟩:=hc
 have hv':iQ (JS (xg true σ x)) av:=hv
 have hbx:=BR.bn h hy
 generalize xg true σ x=xv at hbx hv'
 cases he:cZ P t with
 |none=>grind
 |some e=>
 have ht:=dq he
 unfold JS at hv'
 split at hv'
 ·rename_i b o l cap
  rw[hv'.dG]
  refine⟨.int .i64 cap,fun _ _ _ _=>?_,NR.mk rfl (.int _ _) rfl⟩
  have hr:∀w',w'=w->(Builtin.cap_ (t::ts).toArray ty ((y::ys).toArray.map a.eval)).run P w'=.ok (.int .i64 cap) w':=fun w' _=>by rcases VR.dF hbx with e1|⟨_,rfl,e1⟩<;>simp[Builtin.cap_,run_underlying ht,goInt,e1]
  simp[execOp,resolve,invoke,builtin]at hr⊢;simp[hr]
 ·exact hv'.no.elim
def Sv{t:TypeId}(h:Su P t=true):∃k,P.underlying t=some (.int k):=by grind [Su]
def VR.Pp{R:Nat->Nat}{v:Value}(h:VR w R .l9 v):v=.nilIface:=bY
def XO(h:Inv G n D σ a w){op:Op}{ty:TypeId}{ne:Bool}{x:IX}(hc:aD P op ty (.RZ ne x)=true){av:AV}(hv:iQ (pv (.RZ ne x) (xg true σ) σ) av):
 ∃v,runs P a op ty w v/\NR G w σ a av v:=by
 cases op<;>first|(simp[aD]at hc;done)|skip
 rename_i b t u v yt
 simp only[aD,Bool.and_eq_true,decide_eq_true_eq]at hc
 obtain⟨⟨⟨rfl,hx⟩,hy⟩,ht⟩:=hc
 have hvc:v=.const .nilIface:=by
  split at hy
  ·rfl
  ·cases hy
 subst hvc
 have e2:a.eval (.const .nilIface)=.nilIface:=rfl
 split at ht<;>try(cases ht;done)
 rename_i q1 htu
 have hbx:=BR.bn h hx
 have hv':iQ (Io ne (xg true σ x)) av:=hv
 generalize xg true σ x=xv at hbx hv'
 have key:∀(fv:Value)(r:Bool),a.eval u=fv->(∀d:Nat,(Op.equalIn (d+1) t fv .nilIface).run P w=.ok r w)->runs P a (.binOp (if ne=true then .neq else .eql) t u (.const .nilIface) yt) ty w (.bool (r !=ne)):=by
  intro fv r e1 hr _ _ _ _
  have hq:(Op.equal t fv .nilIface).run P w=.ok r w:=hr 9999
  cases fv<;>cases ne<;>simp[execOp,e1,e2,eqGuard,binOp,hq]
 unfold Io at hv'
 split at hv'
 ·rw[hv'.dG]
  have e1:=VR.Pp hbx
  have:=key _ true e1 fun d=>by simp[Op.equalIn,run_underlying htu]
  exact⟨_,this,NR.mk rfl (by cases ne<;>exact .bool _) rfl⟩
 ·exact hv'.no.elim
def yf(h:Inv G n D σ a w){op:Op}{ty:TypeId}{o:sj}(hc:aD P op ty o=true){av:AV}(hv:iQ (pv o (xg true σ) σ) av):
 ∃v,runs P a op ty w v/\NR G w σ a av v:=by
 cases o with
 |oU tr x=>cases tr with
  |false=>exact XT h hc hv
  |true=>exact(iQ.no hv).elim
 |pick c x y=>exact Tw h hc hv
 |bin b x y=>exact XK h hc hv
 |UU ne x y=>exact XN h hc hv
 |NM ne x y=>exact XP h hc hv
 |Rk ne x y=>exact XQ h hc hv
 |un u x=>exact abZ h hc hv
 |ko k x=>exact Nf h hc hv
 |load m mu x=>exact L6 h hc hv
 |kv x i=>exact Nj h hc hv
 |nilCheck x=>exact Jh h hc hv
 |fieldAddr off x=>exact GR h hc hv
 |indexAddr sz x i=>exact GS h hc hv
 |jJ sz len x i=>exact D7 h hc hv
 |slice sz x lo hi mx=>exact Qm h hc hv
 |ny x lo hi=>exact Nk h hc hv
 |len cls x=>exact XS h hc hv
 |mD mx xs=>exact Ni h hc hv
 |extract x k=>exact KM h hc hv
 |build z ps=>exact Qj h hc hv
 |tG f a b=>exact Nh h hc hv
 |jM x=>exact Ng h hc hv
 |kj z m x=>exact Ql h hc hv
 |cap x=>exact XL h hc hv
 |RZ ne x=>exact XO h hc hv
 |_=>exact(iQ.no hv).elim
end
end Go.AB
end
