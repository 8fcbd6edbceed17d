/- A part of the proof: Ab3, Ab4. -/
import Derived.Test.YtkeagffgdajggaaGreatT1
import Derived.Attr
set_option linter.unusedSimpArgs false
set_option linter.unusedVariables false
section
namespace Go.AB
open Go
section
variable(P:Program)(K:St→Prop)(Q:Exit→St→Prop)(σ τ:St)(d:Option Nat)
@[go_sem]theorem afa:swp P [] σ K=K σ:=rfl
@[go_sem]theorem ad0(o:ah)(r:List ah):swp P (o::r) σ K=OD P o σ (adY P r K):=rfl
@[go_sem]theorem adZ(r:List ah):adY P r K τ=swp P r τ K:=rfl
@[go_sem]theorem adF(q:Nat)(r:List ah):adE P q r K τ=U9 P q r τ K:=rfl
@[go_sem]theorem adI(live:List Nat):uS live Q τ=Q .normal (τ.yW live):=rfl
@[go_sem]theorem Nj(op:sT):OD P ⟨d,op,none⟩ σ K=U5 P op σ d K (pv op (xg true σ) σ):=rfl
@[go_sem]theorem afJ(op:sT):owp P op d σ K=U5 P op σ d K (pv op (xg true σ) σ):=rfl
@[go_sem]theorem acz(op:sT)(t:Nat)(want:Bool):OD P ⟨d,op,some (t,want)⟩ σ K=Bk P op d t want σ K (look σ.e t):=rfl
@[go_sem]theorem acg(Q:Exit→St→Prop):gK P .dead Q σ=False:=rfl
@[go_sem]theorem aco:gK P .skip Q σ=Q .normal σ:=rfl
@[go_sem]theorem aem(ops:List ah)(live:List Nat):gK P (.bD none ops live) Q σ=swp P ops σ (uS live Q):=rfl
@[go_sem]theorem acn(q:Nat)(ops:List ah)(live:List Nat):gK P (.bD (some q) ops live) Q σ=U9 P q ops σ (uS live Q):=rfl
@[go_sem]theorem acj(T:List Nat)(l:List (Nat×Nat×ah))(live:List Nat):gK P (.IP T l live) Q σ=(fO T σ.e=true∧Jw P T l σ (uS live Q)):=rfl
@[go_sem]theorem ack(T:List Nat)(q:Nat)(ops:List ah)(live:List Nat):gK P (.wY T q ops live) Q σ=(fO T σ.e=true∧Gc P T q ops σ (uS live Q)):=rfl
@[go_sem]theorem aeo(a b:IC):gK P (.seq a b) Q σ=gK P a (DQ P b Q) σ:=by
  have:(fun x τ=>match x with|.normal=>gK P b Q τ|x=>Q x τ)=DQ P b Q:=by funext x τ;cases x<;>rfl
  rw[←this];rfl
@[go_sem]theorem acf(x:IX)(a b:IC):gK P (.cond x a b) Q σ=QE P a b Q σ (σ.x x):=by
  show(match σ.x x with|.bool v=>(v=true→gK P a Q σ)∧(v=false→gK P b Q σ)|_=>False)=_
  cases σ.x x<;>rfl
@[go_sem]theorem aaB(i:Nat)(b:IC):gK P (.block i b) Q σ=gK P b (Rs i Q) σ:=rfl
@[go_sem]theorem ach(i:Nat):gK P (.exit i) Q σ=Q (.exit i) σ:=rfl
@[go_sem]theorem aaC(i:Nat):gK P (.label i) Q σ=Q .normal σ:=rfl
@[go_sem]theorem aci(i:Nat):gK P (.goto i) Q σ=Q (.goto i) σ:=rfl
@[go_sem]theorem aen:gK P .ret Q σ=Q .ret σ:=rfl
@[go_sem]theorem YF(a b:IC)(v:Bool):QE P a b Q σ (.bool v)=((v=true→gK P a Q σ)∧(v=false→gK P b Q σ)):=rfl
@[go_sem]theorem Yg(b:IC):DQ P b Q .normal τ=gK P b Q τ:=rfl
@[go_sem]theorem adR(b:IC):DQ P b Q .ret τ=Q .ret τ:=rfl
@[go_sem]theorem abL(b:IC)(i:Nat):DQ P b Q (.exit i) τ=Q (.exit i) τ:=rfl
@[go_sem]theorem abM(b:IC)(i:Nat):DQ P b Q (.goto i) τ=Q (.goto i) τ:=rfl
@[go_sem]theorem W0(i:Nat):Rs i Q .normal τ=Q .normal τ:=rfl
@[go_sem]theorem ab7(i:Nat):Rs i Q .ret τ=Q .ret τ:=rfl
@[go_sem]theorem aay(i j:Nat):Rs i Q (.exit j) τ=bif j==i then Q .normal τ else Q (.exit j) τ:=rfl
@[go_sem]theorem VM(live:List (Nat×Bool))(J:St→Prop):xI live J Q .normal τ=J (τ.dN live):=rfl
@[go_sem]theorem aaS(live:List (Nat×Bool))(J:St→Prop):xI live J Q .ret τ=Q .ret τ:=rfl
@[go_sem]theorem Y8(live:List (Nat×Bool))(J:St→Prop)(i:Nat):xI live J Q (.exit i) τ=Q (.exit i) τ:=rfl
@[go_sem]theorem acm(deps:List (List Bool))(ops:List ah)(live:List Nat):gK P (.Sl deps ops live) Q σ=SF P deps ops (uS live Q) ops (vU ops) σ:=rfl
@[go_sem]theorem bU(deps:List (List Bool))(ops:List ah)(K:St→Prop)(d:List Bool)(o:ah)(f:List ah):SF P deps ops K (o::f) d σ=Qo d deps [] d ops (fun o d=>OD P o σ (aeh P deps ops K f d)):=rfl
@[go_sem]theorem cN(deps:List (List Bool))(ops:List ah)(K:St→Prop)(f:List ah)(d:List Bool)(τ:St):aeh P deps ops K f d τ=SF P deps ops K f d τ:=rfl
attribute[go_sem] A0 Cn vU
@[go_sem]theorem bw(done row pre xs:List Bool)(rows:List (List Bool))(x:Bool)(o:ah)(r:List ah)(F:ah→List Bool→Prop):Qo done (row::rows) pre (x::xs) (o::r) F=((bif !x&&A0 row done then F o (Cn pre (true::xs))else True)∧Qo done rows (x::pre) xs r F):=rfl
@[go_sem]theorem bT(done pre:List Bool)(F:ah→List Bool→Prop):Qo done [] pre [] [] F=True:=rfl
@[go_sem]theorem OU(l:Nat)(live:List (Nat×Bool))(a1 a2 a3 r:IC):gK P (.B8 l live a1 a2 a3 r) Q σ=gK P a1 (DQ P a2 (DQ P a3 (Oj live (XI P l live r Q) Q))) σ:=by
  show gK P a1 (fun x τ=>match x with|.normal=>gK P a2 (fun x τ=>match x with|.normal=>gK P a3 (Oj live (XI P l live r Q) Q) τ|x=>Oj live (XI P l live r Q) Q x τ) τ|x=>Oj live (XI P l live r Q) Q x τ) σ=_
  congr 1
  funext x τ
  cases x with
  |normal=>
   show gK P a2 _ τ=gK P a2 _ τ
   congr 1
   funext x τ
   cases x<;>rfl
  |_=>rfl
@[go_sem]theorem Ye(live:List (Nat×Bool))(I:St→Prop):Oj live I Q .normal τ=I (τ.dN live):=rfl
@[go_sem]theorem acO(l:Nat)(live:List (Nat×Bool))(I:St→Prop):RX l live I Q .ret τ=Q .ret τ:=rfl
@[go_sem]theorem aaR(l:Nat)(live:List (Nat×Bool))(I:St→Prop):RX l live I Q (.goto l) τ=I (τ.dN live):=by
  show(l=l∧I (τ.dN live))=_
  simp
@[go_sem]theorem VP(live:List (Nat×Bool))(I:St→Prop)(μ:St→Nat)(m:Nat):J4 live I μ m Q .normal τ=(I (τ.dN live)∧μ (τ.dN live)<m):=rfl
@[go_sem]theorem aaU(live:List (Nat×Bool))(I:St→Prop)(μ:St→Nat)(m:Nat):J4 live I μ m Q .ret τ=Q .ret τ:=rfl
@[go_sem]theorem Zi(live:List (Nat×Bool))(I:St→Prop)(μ:St→Nat)(m i:Nat):J4 live I μ m Q (.exit i) τ=Q (.exit i) τ:=rfl
end
section
@[go_sem]theorem aaM:cU (.undef)=false:=rfl
@[go_sem]theorem abO(g:Bool):zm g (.undef)=(.undef):=rfl
@[go_sem]theorem aap:view (.undef)=(.undef):=rfl
@[go_sem]theorem acF(b:Bool):cU (.bool b)=true:=rfl
@[go_sem]theorem ad3(g:Bool)(b:Bool):zm g (.bool b)=(.bool b):=rfl
@[go_sem]theorem abP(b:Bool):view (.bool b)=(.bool b):=rfl
@[go_sem]theorem Vo(b:Bool):cellsOf (.bool b)=[(.bool b)]:=rfl
@[go_sem]theorem WB(b:Bool):aR (.bool b)=[(.bool b)]:=rfl
@[go_sem]theorem Zn(σ:St)(i:Nat)(b:Bool):bB σ (.bool b) (some i)=σ:=rfl
@[go_sem]theorem aeu(k:IntKind)(n:Int):cU (.int k n)=true:=rfl
@[go_sem]theorem afe(g:Bool)(k:IntKind)(n:Int):zm g (.int k n)=(.int k n):=rfl
@[go_sem]theorem ad9(k:IntKind)(n:Int):view (.int k n)=(.int k n):=rfl
@[go_sem]theorem Xw(k:IntKind)(n:Int):cellsOf (.int k n)=[(.int k n)]:=rfl
@[go_sem]theorem Yk(k:IntKind)(n:Int):aR (.int k n)=[(.int k n)]:=rfl
@[go_sem]theorem aa3(σ:St)(i:Nat)(k:IntKind)(n:Int):bB σ (.int k n) (some i)=σ:=rfl
@[go_sem]theorem aew(s:List UInt8):cU (.str s)=true:=rfl
@[go_sem]theorem afh(g:Bool)(s:List UInt8):zm g (.str s)=(.str s):=rfl
@[go_sem]theorem aec(s:List UInt8):view (.str s)=(.str s):=rfl
@[go_sem]theorem Xy(s:List UInt8):cellsOf (.str s)=[(.str s)]:=rfl
@[go_sem]theorem aa5(σ:St)(i:Nat)(s:List UInt8):bB σ (.str s) (some i)=σ:=rfl
@[go_sem]theorem afk(t n:Nat)(cs:List AV):view (.bb t n cs)=.sl false 1 n cs:=rfl
@[go_sem]theorem acH:cU (.dq)=true:=rfl
@[go_sem]theorem ad5(g:Bool):zm g (.dq)=(.dq):=rfl
@[go_sem]theorem abR:view (.dq)=(.dq):=rfl
@[go_sem]theorem Zp(σ:St)(i:Nat):bB σ (.dq) (some i)=σ:=rfl
@[go_sem]theorem aev(b o:Nat):cU (.ref b o)=true:=rfl
@[go_sem]theorem afg(g:Bool)(b o:Nat):zm g (.ref b o)=(.ref b o):=rfl
@[go_sem]theorem aeb(b o:Nat):view (.ref b o)=(.ref b o):=rfl
@[go_sem]theorem Xx(b o:Nat):cellsOf (.ref b o)=[(.ref b o)]:=rfl
@[go_sem]theorem aa4(σ:St)(i:Nat)(b o:Nat):bB σ (.ref b o) (some i)=σ:=rfl
@[go_sem]theorem af2(g:Bool)(b o:Nat):zm g (.lp b o)=(.lp b o):=rfl
@[go_sem]theorem aa0(σ:St)(i:Nat)(b o:Nat):bB σ (.lp b o) (some i)={σ with lp:=(i,b)::σ.lp}:=rfl
@[go_sem]theorem af5(g:Bool)(cs:List AV):zm g (.sp cs)=(.sp cs):=rfl
@[go_sem]theorem ac0(σ:St)(i:Nat)(cs:List AV):bB σ (.sp cs) (some i)=σ:=rfl
@[go_sem]theorem aff(g:Bool)(cs:List AV):zm g (.loc cs)=(.loc cs):=rfl
@[go_sem]theorem aea(cs:List AV):view (.loc cs)=(.loc cs):=rfl
@[go_sem]theorem afA(o:Bool)(z n:Nat)(cs:List AV):cU (.sl o z n cs)=true:=rfl
@[go_sem]theorem af4(g:Bool)(o:Bool)(z n:Nat)(cs:List AV):zm g (.sl o z n cs)=(.sl o z n cs):=rfl
@[go_sem]theorem afn(o:Bool)(z n:Nat)(cs:List AV):view (.sl o z n cs)=(.sl false z n cs):=rfl
@[go_sem]theorem YC(o:Bool)(z n:Nat)(cs:List AV):cellsOf (.sl o z n cs)=[(.sl o z n cs)]:=rfl
@[go_sem]theorem aag(o:Bool)(z n:Nat)(cs:List AV):aR (.sl o z n cs)=[(.sl o z n cs)]:=rfl
@[go_sem]theorem acZ(σ:St)(i:Nat)(o:Bool)(z n:Nat)(cs:List AV):bB σ (.sl o z n cs) (some i)=σ:=rfl
@[go_sem]theorem aet(b o l c:Nat):cU (.arr b o l c)=true:=rfl
@[go_sem]theorem afd(g:Bool)(b o l c:Nat):zm g (.arr b o l c)=(.arr b o l c):=rfl
@[go_sem]theorem ad8(b o l c:Nat):view (.arr b o l c)=(.arr b o l c):=rfl
@[go_sem]theorem Yj(b o l c:Nat):aR (.arr b o l c)=[(.arr b o l c)]:=rfl
@[go_sem]theorem aa2(σ:St)(i:Nat)(b o l c:Nat):bB σ (.arr b o l c) (some i)=σ:=rfl
@[go_sem]theorem aes(cs:List AV):cU (.agg cs)=true:=rfl
@[go_sem]theorem afc(g:Bool)(cs:List AV):zm g (.agg cs)=(.agg cs):=rfl
@[go_sem]theorem ad7(cs:List AV):view (.agg cs)=(.agg cs):=rfl
@[go_sem]theorem Xu(cs:List AV):cellsOf (.agg cs)=cs:=rfl
@[go_sem]theorem Yi(cs:List AV):aR (.agg cs)=views cs:=rfl
@[go_sem]theorem aa1(σ:St)(i:Nat)(cs:List AV):bB σ (.agg cs) (some i)=σ:=rfl
@[go_sem]theorem afi(g:Bool)(cs:List AV):zm g (.fE cs)=(.fE cs):=rfl
@[go_sem]theorem aa6(σ:St)(i:Nat)(cs:List AV):bB σ (.fE cs) (some i)=σ:=rfl
@[go_sem]theorem afy(f:Nat)(x y:List AV):cU (.fn f x y)=true:=rfl
@[go_sem]theorem af1(g:Bool)(f:Nat)(x y:List AV):zm g (.fn f x y)=(.fn f x y):=rfl
@[go_sem]theorem afl(f:Nat)(x y:List AV):view (.fn f x y)=(.fn f x y):=rfl
@[go_sem]theorem YA(f:Nat)(x y:List AV):cellsOf (.fn f x y)=[(.fn f x y)]:=rfl
@[go_sem]theorem acX(σ:St)(i:Nat)(f:Nat)(x y:List AV):bB σ (.fn f x y) (some i)=σ:=rfl
@[go_sem]theorem acG:cU (.mU)=true:=rfl
@[go_sem]theorem ad4(g:Bool):zm g (.mU)=(.mU):=rfl
@[go_sem]theorem abQ:view (.mU)=(.mU):=rfl
@[go_sem]theorem Zo(σ:St)(i:Nat):bB σ (.mU) (some i)=σ:=rfl
@[go_sem]theorem afz(b:Nat):cU (.mp b)=true:=rfl
@[go_sem]theorem af3(g:Bool)(b:Nat):zm g (.mp b)=(.mp b):=rfl
@[go_sem]theorem afm(b:Nat):view (.mp b)=(.mp b):=rfl
@[go_sem]theorem YB(b:Nat):cellsOf (.mp b)=[(.mp b)]:=rfl
@[go_sem]theorem aaf(b:Nat):aR (.mp b)=[(.mp b)]:=rfl
@[go_sem]theorem acY(σ:St)(i:Nat)(b:Nat):bB σ (.mp b) (some i)=σ:=rfl
@[go_sem]theorem Wf(f:IX→AV)(σ:St)(x:IX):pv (.iR true x) f σ=.no:=rfl
@[go_sem]theorem ZU(f:IX→AV)(σ:St)(z:List AV):pv (.aq z) f σ=.no:=rfl
@[go_sem]theorem ZV(f:IX→AV)(σ:St)(z:List AV):pv (.fJ z) f σ=.no:=rfl
@[go_sem]theorem adl(f:IX→AV)(σ:St)(n:Nat)(x:IX):pv (.cW n x) f σ=.no:=rfl
@[go_sem]theorem adn(f:IX→AV)(σ:St)(n:Nat)(x:IX):pv (.mP n x) f σ=.no:=rfl
@[go_sem]theorem X3(f:IX→AV)(σ:St)(a b:Nat)(z:List AV)(p:List (Nat×Nat×IX)):pv (.aY a b z p) f σ=.no:=rfl
@[go_sem]theorem abr(f:IX→AV)(σ:St)(n:Nat)(p v:IX):pv (.store n p v) f σ=.no:=rfl
@[go_sem]theorem P8(f:IX→AV)(σ:St)(a b:Nat)(x y:IX):pv (.append a b x y) f σ=.no:=rfl
@[go_sem]theorem ZJ(f:IX→AV)(σ:St)(x:IX):pv (.eF x) f σ=rj (f x):=rfl
attribute[go_sem] rj.eq_1 UG.eq_1 Tg.eq_1
@[go_sem]theorem We(f:IX→AV)(σ:St)(x:IX):pv (.fK x) f σ=.no:=rfl
@[go_sem]theorem ZX(f:IX→AV)(σ:St)(a b:Nat)(z:List AV)(x y:IX):pv (.js a b z x y) f σ=.no:=rfl
@[go_sem]theorem X6(f:IX→AV)(σ:St):pv (.makeMap) f σ=.no:=rfl
@[go_sem]theorem adp(f:IX→AV)(σ:St)(n:Nat)(l:List IX):pv (.call n l) f σ=.no:=rfl
@[go_sem]theorem abm(f:IX→AV)(σ:St)(x:IX)(l:List IX):pv (.b6 x l) f σ=.no:=rfl
@[go_sem]theorem YZ(b:Bool):inner (.bool b)=true:=rfl
@[go_sem]theorem aaJ(k:IntKind)(n:Int):inner (.int k n)=true:=rfl
@[go_sem]theorem aaL(s:List UInt8):inner (.str s)=true:=rfl
@[go_sem]theorem Y0:inner (.dq)=true:=rfl
@[go_sem]theorem aaK(b o:Nat):inner (.ref b o)=true:=rfl
@[go_sem]theorem acB(b o:Nat):inner (.lp b o)=true:=rfl
@[go_sem]theorem acE(cs:List AV):inner (.sp cs)=true:=rfl
@[go_sem]theorem acD(o:Bool)(z n:Nat)(cs:List AV):inner (.sl o z n cs)=true:=rfl
@[go_sem]theorem aaI(b o l c:Nat):inner (.arr b o l c)=true:=rfl
@[go_sem]theorem aaH(cs:List AV):inner (.agg cs)=true:=rfl
@[go_sem]theorem acA(f:Nat)(x y:List AV):inner (.fn f x y)=true:=rfl
@[go_sem]theorem acC(b:Nat):inner (.mp b)=true:=rfl
@[go_sem]theorem Vc(g:Bool)(a:AV):zm g (.when g a)=bif inner a then a else .undef:=by simp[zm]
@[go_sem]theorem acw(x:Bool):YY (.bool x)=some (true,x):=rfl
@[go_sem]theorem acx(b x:Bool):YY (.when b (.bool x))=some (b,x):=rfl
@[go_sem]theorem aeq:YY (.fE [])=some (false,false):=rfl
@[go_sem]theorem afD(g b:Bool):(g=true→b=true→(g&&b)=true)=True:=by cases g<;>cases b<;>simp
@[go_sem]theorem afE(g b:Bool):(g=true→b=false→(g&&!b)=true)=True:=by cases g<;>cases b<;>simp
@[go_sem]theorem afF(b:Bool):(b=false→(!b)=true)=True:=by cases b<;>simp
@[go_sem]theorem ace(b x:Bool):(bif b then x else false)=(b&&x):=by cases b<;>rfl
@[go_sem]theorem ael(b x:Bool):(bif b then true else x)=(b||x):=by cases b<;>rfl
@[go_sem]theorem aga(b:Bool):(b==true)=b:=by cases b<;>rfl
@[go_sem]theorem af9(b:Bool):(b==false)=!b:=by cases b<;>rfl
@[go_sem]theorem acP(k:IntKind):QU k k=true:=by simp[QU]
@[go_sem]theorem afB(a b:Nat)(cs:List AV):cU (.us a b cs)=false:=rfl
@[go_sem]theorem aer(a b:Nat)(cs:List AV):TL (.us a b cs)=true:=rfl
@[go_sem]theorem adO:iO []=true:=rfl
@[go_sem]theorem adP(a b:AV)(l:List AV):iO (a::b::l)=true:=rfl
@[go_sem]theorem adL:eC []=.fE []:=rfl
@[go_sem]theorem adM(a b:AV)(l:List AV):eC (a::b::l)=.fE (a::b::l):=rfl
@[go_sem]theorem abS:views []=[]:=rfl
@[go_sem]theorem aaq(a:AV)(l:List AV):views (a::l)=view a::views l:=rfl
@[go_sem]theorem x_t(σ:St)(i:Nat):σ.x (.t i)=look σ.e i:=rfl
@[go_sem]theorem x_c(σ:St)(a:AV):σ.x (.c a)=a:=rfl
@[go_sem]theorem adj(σ:St)(i:Nat)(a:AV):σ.put (some i) a={σ with e:=(i,a)::σ.e}:=rfl
@[go_sem]theorem adi(σ:St)(a:AV):σ.put none a=σ:=rfl
@[go_sem]theorem look_nil(i:Nat):look [] i=.undef:=rfl
@[go_sem]theorem Zh(j i:Nat)(a:AV)(l:List (Nat×AV)):look ((j,a)::l) i=bif j==i then a else look l i:=rfl
section
variable(P:Program)(K:St→Prop)(σ:St)
@[go_sem]theorem adH(l:List ah):U9 P 0 l σ K=swp P l σ K:=rfl
@[go_sem]theorem adG(q:Nat)(o:ah)(r:List ah):U9 P (q+1) (o::r) σ K=(aO σ o.dst=true∧q1 P o σ (adE P q r K)):=rfl
@[go_sem]theorem afP(d:Option Nat)(x:IX):q1 P ⟨d,.iR false x,none⟩ σ K=qK σ d K (qv ⟨d,.iR false x,none⟩ σ):=rfl
@[go_sem]theorem afT(d:Option Nat)(x:IX):q2 P ⟨d,.iR false x,none⟩ σ K=(aO σ d=true∧qK σ d K (qv ⟨d,.iR false x,none⟩ σ)):=by cases d<;>rfl
@[go_sem]theorem aeV(d:Option Nat)(t:Nat)(want:Bool)(x:IX):q1 P ⟨d,.iR false x,(some (t,want))⟩ σ K=qK σ d K (qv ⟨d,.iR false x,(some (t,want))⟩ σ):=rfl
@[go_sem]theorem aeW(d:Option Nat)(c x y:IX):q1 P ⟨d,.pick c x y,none⟩ σ K=qK σ d K (qv ⟨d,.pick c x y,none⟩ σ):=rfl
@[go_sem]theorem ae1(d:Option Nat)(c x y:IX):q2 P ⟨d,.pick c x y,none⟩ σ K=(aO σ d=true∧qK σ d K (qv ⟨d,.pick c x y,none⟩ σ)):=by cases d<;>rfl
@[go_sem]theorem adq(d:Option Nat)(z:List AV)(ps:List (Nat×Nat×IX)):q1 P ⟨d,.build z ps,none⟩ σ K=qK σ d K (qv ⟨d,.build z ps,none⟩ σ):=rfl
@[go_sem]theorem aeU(d:Option Nat)(n:Nat)(m:Bool)(x:IX):q1 P ⟨d,.load n m x,none⟩ σ K=qK σ d K (qv ⟨d,.load n m x,none⟩ σ):=rfl
@[go_sem]theorem aeZ(d:Option Nat)(n:Nat)(m:Bool)(x:IX):q2 P ⟨d,.load n m x,none⟩ σ K=(aO σ d=true∧qK σ d K (qv ⟨d,.load n m x,none⟩ σ)):=by cases d<;>rfl
@[go_sem]theorem ads(d:Option Nat)(t:Nat)(want:Bool)(n:Nat)(m:Bool)(x:IX):q1 P ⟨d,.load n m x,(some (t,want))⟩ σ K=qK σ d K (qv ⟨d,.load n m x,(some (t,want))⟩ σ):=rfl
@[go_sem]theorem adw(d:Option Nat)(t:Nat)(want:Bool)(n:Nat)(m:Bool)(x:IX):q2 P ⟨d,.load n m x,(some (t,want))⟩ σ K=(aO σ d=true∧qK σ d K (qv ⟨d,.load n m x,(some (t,want))⟩ σ)):=by cases d<;>rfl
@[go_sem]theorem X7(d:Option Nat)(x:IX):q1 P ⟨d,.nilCheck x,none⟩ σ K=qK σ d K (qv ⟨d,.nilCheck x,none⟩ σ):=rfl
@[go_sem]theorem X8(d:Option Nat)(x:IX):q2 P ⟨d,.nilCheck x,none⟩ σ K=(aO σ d=true∧qK σ d K (qv ⟨d,.nilCheck x,none⟩ σ)):=by cases d<;>rfl
@[go_sem]theorem Wi(d:Option Nat)(t:Nat)(want:Bool)(x:IX):q1 P ⟨d,.nilCheck x,(some (t,want))⟩ σ K=qK σ d K (qv ⟨d,.nilCheck x,(some (t,want))⟩ σ):=rfl
@[go_sem]theorem afL(d:Option Nat)(b:BinOp)(x y:IX):q1 P ⟨d,.bin b x y,none⟩ σ K=qK σ d K (qv ⟨d,.bin b x y,none⟩ σ):=rfl
@[go_sem]theorem afR(d:Option Nat)(b:BinOp)(x y:IX):q2 P ⟨d,.bin b x y,none⟩ σ K=(aO σ d=true∧qK σ d K (qv ⟨d,.bin b x y,none⟩ σ)):=by cases d<;>rfl
@[go_sem]theorem aeQ(d:Option Nat)(t:Nat)(want:Bool)(b:BinOp)(x y:IX):q1 P ⟨d,.bin b x y,(some (t,want))⟩ σ K=qK σ d K (qv ⟨d,.bin b x y,(some (t,want))⟩ σ):=rfl
@[go_sem]theorem aeX(d:Option Nat)(t:Nat)(want:Bool)(b:BinOp)(x y:IX):q2 P ⟨d,.bin b x y,(some (t,want))⟩ σ K=(aO σ d=true∧qK σ d K (qv ⟨d,.bin b x y,(some (t,want))⟩ σ)):=by cases d<;>rfl
@[go_sem]theorem afM(d:Option Nat)(n:Bool)(x y:IX):q1 P ⟨d,.Pa n x y,none⟩ σ K=qK σ d K (qv ⟨d,.Pa n x y,none⟩ σ):=rfl
@[go_sem]theorem aeS(d:Option Nat)(t:Nat)(want:Bool)(n:Bool)(x y:IX):q1 P ⟨d,.Pa n x y,(some (t,want))⟩ σ K=qK σ d K (qv ⟨d,.Pa n x y,(some (t,want))⟩ σ):=rfl
@[go_sem]theorem afN(d:Option Nat)(n:Bool)(x y:IX):q1 P ⟨d,.M4 n x y,none⟩ σ K=qK σ d K (qv ⟨d,.M4 n x y,none⟩ σ):=rfl
@[go_sem]theorem agu(d:Option Nat)(u:UnOp)(x:IX):q1 P ⟨d,.un u x,none⟩ σ K=qK σ d K (qv ⟨d,.un u x,none⟩ σ):=rfl
@[go_sem]theorem afQ(d:Option Nat)(t:Nat)(want:Bool)(u:UnOp)(x:IX):q1 P ⟨d,.un u x,(some (t,want))⟩ σ K=qK σ d K (qv ⟨d,.un u x,(some (t,want))⟩ σ):=rfl
@[go_sem]theorem abA(d:Option Nat)(x i:IX):q1 P ⟨d,.gR x i,none⟩ σ K=qK σ d K (qv ⟨d,.gR x i,none⟩ σ):=rfl
@[go_sem]theorem Z2(d:Option Nat)(t:Nat)(want:Bool)(x i:IX):q1 P ⟨d,.gR x i,(some (t,want))⟩ σ K=qK σ d K (qv ⟨d,.gR x i,(some (t,want))⟩ σ):=rfl
@[go_sem]theorem Wg(d:Option Nat)(f:Nat)(x:IX):q1 P ⟨d,.fieldAddr f x,none⟩ σ K=qK σ d K (qv ⟨d,.fieldAddr f x,none⟩ σ):=rfl
@[go_sem]theorem Wj(d:Option Nat)(f:Nat)(x:IX):q2 P ⟨d,.fieldAddr f x,none⟩ σ K=(aO σ d=true∧qK σ d K (qv ⟨d,.fieldAddr f x,none⟩ σ)):=by cases d<;>rfl
@[go_sem]theorem U6(d:Option Nat)(t:Nat)(want:Bool)(f:Nat)(x:IX):q1 P ⟨d,.fieldAddr f x,(some (t,want))⟩ σ K=qK σ d K (qv ⟨d,.fieldAddr f x,(some (t,want))⟩ σ):=rfl
@[go_sem]theorem U8(d:Option Nat)(t:Nat)(want:Bool)(f:Nat)(x:IX):q2 P ⟨d,.fieldAddr f x,(some (t,want))⟩ σ K=(aO σ d=true∧qK σ d K (qv ⟨d,.fieldAddr f x,(some (t,want))⟩ σ)):=by cases d<;>rfl
@[go_sem]theorem Wh(d:Option Nat)(z:List AV)(x i:IX):q1 P ⟨d,.indexAddr z x i,none⟩ σ K=qK σ d K (qv ⟨d,.indexAddr z x i,none⟩ σ):=rfl
@[go_sem]theorem Wl(d:Option Nat)(z:List AV)(x i:IX):q2 P ⟨d,.indexAddr z x i,none⟩ σ K=(aO σ d=true∧qK σ d K (qv ⟨d,.indexAddr z x i,none⟩ σ)):=by cases d<;>rfl
@[go_sem]theorem U7(d:Option Nat)(t:Nat)(want:Bool)(z:List AV)(x i:IX):q1 P ⟨d,.indexAddr z x i,(some (t,want))⟩ σ K=qK σ d K (qv ⟨d,.indexAddr z x i,(some (t,want))⟩ σ):=rfl
@[go_sem]theorem adv(d:Option Nat)(z:Nat)(x:IX)(lo hi mx:Option IX):q1 P ⟨d,.slice z x lo hi mx,none⟩ σ K=qK σ d K (qv ⟨d,.slice z x lo hi mx,none⟩ σ):=rfl
@[go_sem]theorem abB(d:Option Nat)(t:Nat)(want:Bool)(z:Nat)(x:IX)(lo hi mx:Option IX):q1 P ⟨d,.slice z x lo hi mx,(some (t,want))⟩ σ K=qK σ d K (qv ⟨d,.slice z x lo hi mx,(some (t,want))⟩ σ):=rfl
@[go_sem]theorem Z1(d:Option Nat)(x:IX)(k:Nat):q1 P ⟨d,.extract x k,none⟩ σ K=qK σ d K (qv ⟨d,.extract x k,none⟩ σ):=rfl
@[go_sem]theorem Z4(d:Option Nat)(x:IX)(k:Nat):q2 P ⟨d,.extract x k,none⟩ σ K=(aO σ d=true∧qK σ d K (qv ⟨d,.extract x k,none⟩ σ)):=by cases d<;>rfl
@[go_sem]theorem afO(d:Option Nat)(c:Nat)(x:IX):q1 P ⟨d,.len c x,none⟩ σ K=qK σ d K (qv ⟨d,.len c x,none⟩ σ):=rfl
@[go_sem]theorem afS(d:Option Nat)(c:Nat)(x:IX):q2 P ⟨d,.len c x,none⟩ σ K=(aO σ d=true∧qK σ d K (qv ⟨d,.len c x,none⟩ σ)):=by cases d<;>rfl
@[go_sem]theorem aeT(d:Option Nat)(t:Nat)(want:Bool)(c:Nat)(x:IX):q1 P ⟨d,.len c x,(some (t,want))⟩ σ K=qK σ d K (qv ⟨d,.len c x,(some (t,want))⟩ σ):=rfl
@[go_sem]theorem aby(d:Option Nat)(m:Bool)(xs:List IX):q1 P ⟨d,.eX m xs,none⟩ σ K=qK σ d K (qv ⟨d,.eX m xs,none⟩ σ):=rfl
@[go_sem]theorem ae0(d:Option Nat)(x:IX):q2 P ⟨d,.iR true x,none⟩ σ K=(aO σ d=true∧TX σ x d K (σ.x x)):=by cases d<;>rfl
@[go_sem]theorem aeR(d:Option Nat)(f:Nat)(args:List IX):q1 P ⟨d,.call f args,none⟩ σ K=Q3 P f σ d K (bJ (xg true σ) args):=rfl
@[go_sem]theorem aeY(d:Option Nat)(f:Nat)(args:List IX):q2 P ⟨d,.call f args,none⟩ σ K=(aO σ d=true∧Q3 P f σ d K (bJ (xg true σ) args)):=by cases d<;>rfl
@[go_sem]theorem adr(d:Option Nat)(f:Nat)(args:List IX)(t:Nat)(want:Bool):q1 P ⟨d,.call f args,some (t,want)⟩ σ K=Ga P f args want σ d K (look σ.e t):=rfl
@[go_sem]theorem abu(d:Option Nat)(x:IX):q1 P ⟨d,.eF x,none⟩ σ K=qK σ d K (qv ⟨d,.eF x,none⟩ σ):=rfl
@[go_sem]theorem Z0(d:Option Nat)(t:Nat)(want:Bool)(x:IX):q1 P ⟨d,.eF x,(some (t,want))⟩ σ K=qK σ d K (qv ⟨d,.eF x,(some (t,want))⟩ σ):=rfl
@[go_sem]theorem ZZ(d:Option Nat)(sz n:Nat)(z:List AV)(ps:List (Nat×Nat×IX))(g:Option (Nat×Bool)):q1 P ⟨d,.aY sz n z ps,g⟩ σ K=qK σ d K (CS ⟨d,.aY sz n z ps,g⟩ σ):=rfl
@[go_sem]theorem Z3(d:Option Nat)(sz n:Nat)(z:List AV)(ps:List (Nat×Nat×IX))(g:Option (Nat×Bool)):q2 P ⟨d,.aY sz n z ps,g⟩ σ K=(aO σ d=true∧qK σ d K (CS ⟨d,.aY sz n z ps,g⟩ σ)):=by cases d<;>rfl
@[go_sem]theorem abx(d:Option Nat)(kk:jQ)(z:AV)(ok:Bool)(x k:IX)(g:Option (Nat×Bool)):q1 P ⟨d,.lookup kk z ok x k,g⟩ σ K=qK σ d K (CS ⟨d,.lookup kk z ok x k,g⟩ σ):=rfl
@[go_sem]theorem adu(d:Option Nat)(z:List AV)(m:Bool)(x:IX):q1 P ⟨d,.aU z m x,none⟩ σ K=qK σ d K (qv ⟨d,.aU z m x,none⟩ σ):=rfl
@[go_sem]theorem adx(d:Option Nat)(z:List AV)(m:Bool)(x:IX):q2 P ⟨d,.aU z m x,none⟩ σ K=(aO σ d=true∧qK σ d K (qv ⟨d,.aU z m x,none⟩ σ)):=by cases d<;>rfl
@[go_sem]theorem abw(d:Option Nat)(t:Nat)(want:Bool)(z:List AV)(m:Bool)(x:IX):q1 P ⟨d,.aU z m x,(some (t,want))⟩ σ K=qK σ d K (qv ⟨d,.aU z m x,(some (t,want))⟩ σ):=rfl
@[go_sem]theorem adt(d:Option Nat)(k:IntKind)(x:IX):q1 P ⟨d,.kL k x,none⟩ σ K=qK σ d K (qv ⟨d,.kL k x,none⟩ σ):=rfl
@[go_sem]theorem abv(d:Option Nat)(t:Nat)(want:Bool)(k:IntKind)(x:IX):q1 P ⟨d,.kL k x,(some (t,want))⟩ σ K=qK σ d K (qv ⟨d,.kL k x,(some (t,want))⟩ σ):=rfl
@[go_sem]theorem abj(f:IX→AV)(σ:St)(k:IntKind)(x:IX):pv (.kL k x) f σ=BG k σ.s (f x):=rfl
@[go_sem]theorem Zf(k:IntKind)(s:ab)(b off:Nat):BG k s (.ref b off)=.prt (FQ k off (s b)) (.int k (FR off (s b))):=rfl
@[go_sem]theorem abk(f:IX→AV)(σ:St)(z:List AV)(m:Bool)(x:IX):pv (.aU z m x) f σ=J1 z m σ.s (f x):=rfl
@[go_sem]theorem X5(f:IX→AV)(σ:St)(kk:jQ)(z:AV)(ok:Bool)(x k:IX):pv (.lookup kk z ok x k) f σ=.no:=rfl
@[go_sem]theorem X4(f:IX→AV)(σ:St)(x:IX):pv (.jg x) f σ=.no:=rfl
@[go_sem]theorem Ul(f:IX→AV)(σ:St)(kk:jQ)(x k v:IX):pv (.mapUpdate kk x k v) f σ=.no:=rfl
@[go_sem]theorem Y6(d:Option Nat)(kk:jQ)(z:AV)(ok:Bool)(x k:IX):gM P (.lookup kk z ok x k) d σ K=P4 σ d K (gX kk z ok σ.s (xg true σ k) (xg true σ x)):=rfl
@[go_sem]theorem Y5(d:Option Nat)(x:IX):gM P (.jg x) d σ K=P4 σ d K (DL (xg true σ x)):=rfl
@[go_sem]theorem U4(d:Option Nat)(kk:jQ)(x k v:IX):gM P (.mapUpdate kk x k v) d σ K=wx kk σ (xg true σ k) (xg true σ v) d K (xg true σ x):=rfl
@[go_sem]theorem abz(d:Option Nat)(x:IX)(g:Option (Nat×Bool)):q1 P ⟨d,.ql x,g⟩ σ K=qK σ d K (CS ⟨d,.ql x,g⟩ σ):=rfl
@[go_sem]theorem abE(d:Option Nat)(x:IX)(g:Option (Nat×Bool)):q2 P ⟨d,.ql x,g⟩ σ K=(aO σ d=true∧qK σ d K (CS ⟨d,.ql x,g⟩ σ)):=by cases d<;>rfl
@[go_sem]theorem abq(f:IX→AV)(σ:St)(x:IX):pv (.ql x) f σ=.no:=rfl
@[go_sem]theorem acK(d:Option Nat)(x:IX):gM P (.ql x) d σ K=P4 σ d K (Ce (xg true σ x)):=rfl
@[go_sem]theorem ae2(f:IX→AV)(s:ab)(x:IX):qe f s (.ql x)=Ce (f x):=rfl
@[go_sem]theorem adA(d:Option Nat)(o:sT):CS ⟨d,o,none⟩ σ=qe (xg true σ) σ.s o:=rfl
@[go_sem]theorem adC(d:Option Nat)(o:sT)(t:Nat)(want:Bool):CS ⟨d,o,some (t,want)⟩ σ=OF o want σ (look σ.e t):=rfl
@[go_sem]theorem adz(o:sT)(want b:Bool):OF o want σ (.bool b)=OA (b==want) (qe (xg (b==want) σ) σ.s o):=rfl
@[go_sem]theorem adD(f:IX→AV)(s:ab)(sz n:Nat)(z:List AV)(ps:List (Nat×Nat×IX)):qe f s (.aY sz n z ps)=GI sz n (fill f z ps):=rfl
@[go_sem]theorem abG(f:IX→AV)(s:ab)(kk:jQ)(z:AV)(ok:Bool)(x k:IX):qe f s (.lookup kk z ok x k)=gX kk z ok s (f k) (f x):=rfl
@[go_sem]theorem ae7(n:Nat)(x:Int)(cs:List AV):DL (.sl true 1 (n+1) (.int .u8 x::cs))=.cY (.sl false 1 (n+1) (.int .u8 x::cs)):=rfl
attribute[go_sem] Ce.eq_1 J1.eq_1 NL.eq_1 gX.eq_1 gX.eq_2 P4.eq_1 P4.eq_2 P4.eq_3
attribute[go_sem] wg.eq_1 GI.eq_1
@[go_sem]theorem ae3(d:Option Nat)(o:sT):qv ⟨d,o,none⟩ σ=pv o (xg true σ) σ:=rfl
@[go_sem]theorem ae4(d:Option Nat)(o:sT)(t:Nat)(want:Bool):qv ⟨d,o,some (t,want)⟩ σ=N8 o want σ (look σ.e t):=rfl
@[go_sem]theorem aeL(f:IX→AV)(σ:St)(x:IX):pv (.cap x) f σ=OR (f x):=rfl
@[go_sem]theorem ZT(f:IX→AV)(σ:St)(z:Nat)(x:IX)(lo hi:Option IX)(m:IX):pv (.slice z x lo hi (some m)) f σ=oW z f lo hi m (f x):=rfl
@[go_sem]theorem Wd(f:IX→AV)(σ:St)(a b:Nat)(z:List AV)(p:List (Nat×Nat×IX)):pv (.iQ a b z p) f σ=.no:=rfl
@[go_sem]theorem X1(f:IX→AV)(σ:St)(a b:Nat)(z:List AV)(x y:IX):pv (.ee a b z x y) f σ=.no:=rfl
@[go_sem]theorem X2(f:IX→AV)(σ:St)(a b:Nat)(z:List AV)(x y:IX):pv (.j4 a b z x y) f σ=.no:=rfl
@[go_sem]theorem XH(d:Option Nat)(sz by':Nat)(z:List AV)(x y:IX):gM P (.j4 sz by' z x y) d σ K=th sz by' z σ d K (σ.x x) (xg true σ y):=rfl
@[go_sem]theorem abn(f:IX→AV)(σ:St)(a:Nat)(x y:IX):pv (.fV a x y) f σ=.no:=rfl
@[go_sem]theorem ZW(f:IX→AV)(σ:St)(z:List AV)(x:IX):pv (.kZ z x) f σ=.no:=rfl
@[go_sem]theorem aeO(f:IX→AV)(σ:St)(a:Nat)(o:Bool)(x:IX):pv (.RP a o x) f σ=.no:=rfl
@[go_sem]theorem Si(f:IX→AV)(σ:St)(off:Nat)(j x:IX):pv (.mA off j x) f σ=.no:=rfl
@[go_sem]theorem abo(f:IX→AV)(σ:St)(x:IX):pv (.gW x) f σ=.no:=rfl
@[go_sem]theorem aeN(f:IX→AV)(σ:St)(o:Bool)(x:IX):pv (.U2 o x) f σ=.no:=rfl
@[go_sem]theorem aeP(f:IX→AV)(σ:St)(g:Nat)(x y:IX):pv (.SJ g x y) f σ=.no:=rfl
@[go_sem]theorem VK(d:Option Nat)(sz n:Nat)(z:List AV)(p:List (Nat×Nat×IX)):gM P (.iQ sz n z p) d σ K=we sz n σ d K (fill (xg true σ) z p):=rfl
@[go_sem]theorem XG(d:Option Nat)(sz by':Nat)(z:List AV)(x y:IX):gM P (.ee sz by' z x y) d σ K=dX sz by' z σ d K (σ.x x) (s5 σ.s sz (σ.x y)):=rfl
@[go_sem]theorem aaO(d:Option Nat)(sz:Nat)(x y:IX):gM P (.fV sz x y) d σ K=yD sz σ d K (σ.x x) (s5 σ.s sz (σ.x y)):=rfl
@[go_sem]theorem Y4(d:Option Nat)(z:List AV)(x:IX):gM P (.kZ z x) d σ K=wh z σ d K (σ.x x):=rfl
@[go_sem]theorem aey(d:Option Nat)(sz:Nat)(o:Bool)(x:IX):gM P (.RP sz o x) d σ K=Df sz o σ d K (σ.x x):=rfl
@[go_sem]theorem aaP(d:Option Nat)(x:IX):gM P (.gW x) d σ K=nK σ d K (σ.x x):=rfl
@[go_sem]theorem aex(d:Option Nat)(o:Bool)(x:IX):gM P (.U2 o x) d σ K=RM o σ d K (σ.x x):=rfl
@[go_sem]theorem aez(d:Option Nat)(f:Nat)(x y:IX):gM P (.SJ f x y) d σ K=T4 P f σ d K (σ.x x) (σ.x y):=rfl
@[go_sem]theorem abt(d:Option Nat)(x:IX)(args:List IX)(t:Nat)(want:Bool):q1 P ⟨d,.b6 x args,some (t,want)⟩ σ K=Ed P x args want σ d K (look σ.e t):=rfl
@[go_sem]theorem Wn(x:IX)(args:List IX)(want b:Bool)(d:Option Nat):Ed P x args want σ d K (.bool b)=(∃rs,iO rs=true∧((b==want)=true→∃f as,callee x args (b==want) σ f as∧ny P f=true∧FE P f as σ.s rs σ.s)∧K (σ.put d (.when (b==want) (eC rs)))):=rfl
@[go_sem]theorem ado(f:IX→AV)(σ:St)(n t j u:Nat)(x:IX):pv (.KC n t j u x) f σ=.no:=rfl
@[go_sem]theorem acJ(d:Option Nat)(n t j u:Nat)(x:IX):gM P (.KC n t j u x) d σ K=S5 n t j u σ d K (σ.x x):=rfl
@[go_sem]theorem abp(f:IX→AV)(σ:St)(z:Nat)(o:Bool)(x:IX):pv (.xJ z o x) f σ=.no:=rfl
@[go_sem]theorem aaQ(d:Option Nat)(z:Nat)(o:Bool)(x:IX):gM P (.xJ z o x) d σ K=Lr z o σ d K (rd σ (xg true σ x) 1):=rfl
attribute[go_sem] Lr.eq_1 tg.eq_1 tg.eq_2 OQ RL.eq_1 S5 QG.eq_1 QF.eq_1 Ti.eq_1 Th.eq_1
@[go_sem]theorem aeM(f:IX→AV)(σ:St)(ne:Bool)(x:IX):pv (.Vz ne x) f σ=M3 ne (f x):=rfl
@[go_sem]theorem ZY(f:IX→AV)(σ:St)(z n:Nat)(p v:IX):pv (.pD z n p v) f σ=.no:=rfl
@[go_sem]theorem adm(f:IX→AV)(σ:St)(z n:Nat)(x:IX):pv (.Er z n x) f σ=.no:=rfl
@[go_sem]theorem Y7(d:Option Nat)(z n:Nat)(p v:IX):gM P (.pD z n p v) d σ K=L4 z n σ p v d K (σ.x v):=rfl
@[go_sem]theorem acI(d:Option Nat)(z n:Nat)(x:IX):gM P (.Er z n x) d σ K=S4 z n σ d K (σ.x x):=rfl
@[go_sem]theorem WA(z:Nat)(cs:List AV):cd z (.agg cs)=(views cs).map (uI z):=rfl
@[go_sem]theorem ac7(z b:Nat):uI z (.arr b 0 0 0)=.sl true z 0 []:=rfl
@[go_sem]theorem ac8(z:Nat)(k:IntKind)(n:Int):uI z (.int k n)=.int k n:=rfl
@[go_sem]theorem aa8(z:Nat)(b:Bool):uI z (.bool b)=.bool b:=rfl
@[go_sem]theorem ac9(z:Nat)(b:List UInt8):uI z (.str b)=.str b:=rfl
@[go_sem]theorem aeG(z:Nat)(o:Bool)(s n:Nat)(cs:List AV):uI z (.sl o s n cs)=.sl o s n cs:=rfl
@[go_sem]theorem aeF(z b:Nat):uI z (.mp b)=.mp b:=rfl
attribute[go_sem] L4 S4
@[go_sem]theorem abl(f:IX→AV)(σ:St)(g i:Nat)(xs:List IX):pv (.tq g i xs) f σ=.no:=rfl
@[go_sem]theorem aaN(d:Option Nat)(f i:Nat)(xs:List IX):gM P (.tq f i xs) d σ K=UJ i σ (fun τ=>tu P f τ d K (bJ (xg true τ) xs)) (look σ.e i):=rfl
attribute[go_sem] jY.eq_1 jY.eq_2 tE.eq_1
attribute[go_sem] M3.eq_1 M3.eq_2
attribute[go_sem] OR.eq_1 oW.eq_1 Ca.eq_1 we.eq_1 RM.eq_1 RM.eq_2
@[go_sem]theorem abJ(T:List Nat)(l:List ah):Gc P T 0 l σ K=swp P l σ K:=rfl
@[go_sem]theorem abI(T:List Nat)(q:Nat)(o:ah)(r:List ah):Gc P T (q+1) (o::r) σ K=q2 P o σ (X9 P T q r K):=rfl
@[go_sem]theorem abH(T:List Nat)(q:Nat)(r:List ah)(τ:St):X9 P T q r K τ=(fO T τ.e=true∧Gc P T q r τ K):=rfl
@[go_sem]theorem aek(T:List Nat):Jw P T [] σ K=K σ:=rfl
@[go_sem]theorem agd(T:List Nat)(i:Nat)(o:ah)(r:List (Nat×Nat×ah)):Jw P T ((0,i,o)::r) σ K=q2 P o σ (S6 P T r K):=rfl
@[go_sem]theorem age(T:List Nat)(i:Nat)(o:ah)(r:List (Nat×Nat×ah)):Jw P T ((1,i,o)::r) σ K=(mc o σ=true∧q2 P o σ (S6 P T r K)):=rfl
@[go_sem]theorem agf(T:List Nat)(i:Nat)(o:ah)(r:List (Nat×Nat×ah)):Jw P T ((2,i,o)::r) σ K=U0 P o σ (S6 P T r K):=rfl
@[go_sem]theorem agh(T:List Nat)(i:Nat)(o:ah)(r:List (Nat×Nat×ah)):Jw P T ((3,i,o)::r) σ K=OD P o σ (S6 P T r K):=rfl
@[go_sem]theorem aca(T:List Nat)(r:List (Nat×Nat×ah))(τ:St):S6 P T r K τ=(fO T τ.e=true∧Jw P T r τ K):=rfl
@[go_sem]theorem ab4(d:Option Nat)(f:Nat)(args:List IX):U0 P ⟨d,.call f args,none⟩ σ K=(aO σ d=true∧tu P f σ d K (bJ (xg true σ) args)):=by
  show(aO σ d=true∧A9 P f σ.s (SV σ d K) (bJ (xg true σ) args))=_
  cases bJ (xg true σ) args<;>rfl
@[go_sem]theorem aav(d:Option Nat)(n:Nat)(p v:IX):U0 P ⟨d,.store n p v,none⟩ σ K=(aO σ d=true∧og n σ.s (SV σ d K) (σ.x v) (σ.x p)):=rfl
@[go_sem]theorem aau(d:Option Nat)(x:IX):U0 P ⟨d,.gW x,none⟩ σ K=(aO σ d=true∧tk σ.s (SV σ d K) (σ.x x)):=rfl
@[go_sem]theorem aej(d:Option Nat)(a:AV)(s':ab):SV σ d K a s'=K ({σ with s:=s'}.put d a):=rfl
@[go_sem]theorem W9(n:Nat)(s:ab)(C:AV→ab→Prop)(v:AV)(b off:Nat):og n s C v (.ref b off)=(cU v=true∧NT v=true∧(aR v).length=n∧MK b off (aR v) s C (s b)):=rfl
@[go_sem]theorem W8(b off:Nat)(news:List AV)(s:ab)(C:AV→ab→Prop)(dQ:List AV):MK b off news s C (some (.cells dQ))=(off+news.length≤dQ.length∧C (.fE []) (s.set b (.cells (setAt dQ off news)))):=rfl
attribute[go_sem] mc
@[go_sem]theorem aba(k:IntKind)(n:Int):NT (.int k n)=true:=rfl
@[go_sem]theorem abc(cs:List AV):lX (.loc cs)=true:=rfl
@[go_sem]theorem abb(z n:Nat)(cs:List AV):NT (.sl false z n cs)=true:=rfl
@[go_sem]theorem aa9(T:List Nat):fO T []=true:=rfl
@[go_sem]theorem Zu(T:List Nat)(p:Nat×AV)(e:List (Nat×AV)):fO T (p::e)=(rv T p.2&&fO T e):=rfl
@[go_sem]theorem Zm(a:AV):rv [] a=true:=rfl
@[go_sem]theorem XM(c:Nat)(T:List Nat)(a:AV):rv (c::T) a=(mC c a&&rv T a):=rfl
@[go_sem]theorem acV(c t o:Nat):mC c (.lp t o)=!Nat.beq t c:=rfl
@[go_sem]theorem Zl(c:Nat)(b:Bool)(a:AV):mC c (.when b a)=mC c a:=rfl
@[go_sem]theorem abF(n c:Nat)(x:IX)(dQ:List AV):Um n σ c x K (.loc dQ)=(dQ.length=n∧cU (σ.x x)=true∧(aR (σ.x x)).length=n∧K ((σ.drain x).put (some c) (.loc (aR (σ.x x))))):=rfl
@[go_sem]theorem ady(n c:Nat)(x:IX):q2 P ⟨none,.store n (.t c) x,none⟩ σ K=Um n σ c x K (look σ.e c):=rfl
@[go_sem]theorem abC(d:Nat)(z:List AV):q2 P ⟨some d,.aq z,none⟩ σ K=(aW (look σ.e d)=true∧ki σ.lp (some d)=true∧K (σ.put (some d) (.loc z))):=rfl
@[go_sem]theorem abD(d sz bytes:Nat)(x y:IX):q2 P ⟨some d,.append sz bytes x y,none⟩ σ K=(aW (look σ.e d)=true∧jZ sz bytes σ x (some d) K (σ.x x) (σ.x y)):=rfl
@[go_sem]theorem Zj(c':Nat)(b:Bool):mC c' (.bool b)=true:=rfl
@[go_sem]theorem aaW(c':Nat)(k:IntKind)(n:Int):mC c' (.int k n)=true:=rfl
@[go_sem]theorem Zk(c':Nat):mC c' (.dq)=true:=rfl
@[go_sem]theorem aaY(c':Nat)(b o:Nat):mC c' (.ref b o)=true:=rfl
@[go_sem]theorem aaX(c':Nat)(cs:List AV):mC c' (.loc cs)=true:=rfl
@[go_sem]theorem acW(c':Nat)(o:Bool)(s n:Nat)(cs:List AV):mC c' (.sl o s n cs)=true:=rfl
@[go_sem]theorem aaV(c':Nat)(cs:List AV):mC c' (.agg cs)=true:=rfl
@[go_sem]theorem aaZ(c':Nat)(cs:List AV):mC c' (.fE cs)=true:=rfl
@[go_sem]theorem Va:aO σ none=true:=rfl
@[go_sem]theorem Vb(d:Nat):aO σ (some d)=aW (look σ.e d):=rfl
@[go_sem]theorem XT(b:Bool)(a:AV):aW (.when b a)=true:=rfl
@[go_sem]theorem abd(b o:Nat):aW (.lp b o)=true:=rfl
@[go_sem]theorem VW:aW (.undef)=true:=rfl
@[go_sem]theorem XQ(b:Bool):aW (.bool b)=true:=rfl
@[go_sem]theorem Zx(k:IntKind)(n:Int):aW (.int k n)=true:=rfl
@[go_sem]theorem Zz(s:List UInt8):aW (.str s)=true:=rfl
@[go_sem]theorem XS:aW (.dq)=true:=rfl
@[go_sem]theorem Zy(b o:Nat):aW (.ref b o)=true:=rfl
@[go_sem]theorem abg(cs:List AV):aW (.sp cs)=true:=rfl
@[go_sem]theorem abf(o:Bool)(z n:Nat)(cs:List AV):aW (.sl o z n cs)=true:=rfl
@[go_sem]theorem Zw(b o l c:Nat):aW (.arr b o l c)=true:=rfl
@[go_sem]theorem Zv(cs:List AV):aW (.agg cs)=true:=rfl
@[go_sem]theorem ZA(cs:List AV):aW (.fE cs)=true:=rfl
@[go_sem]theorem abe(b:Nat):aW (.mp b)=true:=rfl
@[go_sem]theorem abK(z:List AV)(m:Bool)(x:IX):Z8 (.aU z m x)=true:=rfl
attribute[go_sem] SL.eq_1 SL.eq_2 SL.eq_3 OA.eq_1 OA.eq_2 OA.eq_3 N8.eq_1 N8.eq_2 qK.eq_1 qK.eq_2 qK.eq_3 Q3.eq_1 Ga.eq_1 Ga.eq_2 afU.eq_1
end
@[go_sem]theorem Vt:dx (.undef)=.undef:=rfl
@[go_sem]theorem XD(b:Bool):dx (.bool b)=.bool b:=rfl
@[go_sem]theorem YM(k:IntKind)(n:Int):dx (.int k n)=.int k n:=rfl
@[go_sem]theorem YP(s:List UInt8):dx (.str s)=.str s:=rfl
@[go_sem]theorem XE:dx (.dq)=.dq:=rfl
@[go_sem]theorem YO(b o:Nat):dx (.ref b o)=.ref b o:=rfl
@[go_sem]theorem YN(cs:List AV):dx (.loc cs)=.loc cs:=rfl
@[go_sem]theorem aaF(o:Bool)(z n:Nat)(cs:List AV):dx (.sl o z n cs)=.sl o z n cs:=rfl
@[go_sem]theorem YL(b o l c:Nat):dx (.arr b o l c)=.arr b o l c:=rfl
@[go_sem]theorem aaE(f:Nat)(x y:List AV):dx (.fn f x y)=.fn f x y:=rfl
@[go_sem]theorem afu{α:Type}(a b:α):(bif true then a else b)=a:=rfl
@[go_sem]theorem aft{α:Type}(a b:α):(bif false then a else b)=b:=rfl
attribute[go_sem] U5.eq_1 U5.eq_2 U5.eq_3 SI.eq_1 SI.eq_2 SI.eq_3 Bk.eq_1 Bk.eq_2 Bk.eq_3 gM.eq_1 gM.eq_2 gM.eq_3 gM.eq_4 gM.eq_5 gM.eq_6 gM.eq_7 gM.eq_8 gM.eq_9 gM.eq_10 gM.eq_11 gM.eq_12 gM.eq_13 gM.eq_14 gM.eq_15 gM.eq_16 Ua.eq_1 Ke.eq_1 Yl.eq_1 Yl.eq_2 wi.eq_1 Bd.eq_1 mB.eq_1 mB.eq_2 Bf.eq_1 Bm.eq_1 wE.eq_1 lq.eq_1 R1.eq_1 ac3.eq_1 fy.eq_1 fy.eq_2 fy.eq_3 fy.eq_4 jk.eq_1 jk.eq_2 e9.eq_1 e9.eq_2 e9.eq_3 e9.eq_4 Ee.eq_1 AP.eq_1 vG.eq_1 vG.eq_2 AQ.eq_1 lz.eq_1 PH.eq_1 DA.eq_1 DA.eq_2 DA.eq_3 DA.eq_4 DA.eq_5 wy.eq_1 M6.eq_1 pP.eq_1 Eu.eq_1 NQ.eq_1 NQ.eq_2 mq.eq_1 mq.eq_2 kN.eq_1 Ay.eq_1 rd.eq_1 rd.eq_2 rd.eq_3 rd.eq_4 ki.eq_1 ki.eq_2 OG.eq_1 zz.eq_1 jZ.eq_1 jZ.eq_2 D3.eq_1 pO.eq_1 Ao.eq_1 Ea.eq_1 Hh.eq_1 Hh.eq_2 yz.eq_1 Rp.eq_1 bJ.eq_1 bJ.eq_2 wv.eq_1 tu.eq_1 S8.eq_1 eC.eq_1 iO.eq_1 WN.eq_1 WO.eq_1 Ks.eq_1 Qm.eq_1 aee.eq_1 Jr.eq_1 Jr.eq_2 Jr.eq_3 OM.eq_1 OM.eq_2 Pb.eq_1 M5.eq_1 M5.eq_2 M5.eq_3 Tw.eq_1 Tw.eq_2 zu.eq_3 zu.eq_4 zu.eq_5 zu.eq_6 zu.eq_7 zu.eq_12 zu.eq_13 zu.eq_14 zu.eq_15 zu.eq_16 zu.eq_17 MH.eq_1 MH.eq_2 MH.eq_3 MH.eq_4 MH.eq_5 MH.eq_6 MH.eq_7 kk pv.eq_1 pv.eq_2 pv.eq_3 pv.eq_4 pv.eq_5 pv.eq_6 pv.eq_7 pv.eq_8 pv.eq_9 pv.eq_10 pv.eq_11 pv.eq_12 pv.eq_13 pv.eq_14 pv.eq_15 pv.eq_16 pv.eq_17 pv.eq_18 pv.eq_19 pv.eq_20 pv.eq_21 pv.eq_22 pv.eq_23 pv.eq_24 pv.eq_25 fill.eq_1 fill.eq_2
attribute[go_sem] XB XA xg St.yW St.dN UO fF R5 TX W6 W7 L5 MN St.drain
attribute[go_sem] Bool.true_or Bool.or_true Bool.or_false Bool.false_or
attribute[go_sem] bne_self_eq_false Bool.bne_true Bool.bne_false implies_true decide_true decide_false Bool.true_and Bool.and_true Bool.false_and Bool.and_false Bool.not_true Bool.not_false Bool.false_eq_true true_and List.length_cons List.length_nil List.map_cons List.map_nil List.all_nil List.all_cons List.drop_zero List.drop_succ_cons List.take_zero List.take_succ_cons Nat.zero_add List.cons_append List.nil_append List.getElem?_cons_zero List.getElem?_cons_succ
end
end Go.AB
end
section
namespace Go.AB
open Go
theorem VR.mono{w w':World}{R R':Nat→Nat}(hR:∀b,R b≤R' b)(hs:∀b k,k<R b→w'.cell? ⟨b,k,none⟩=w.cell? ⟨b,k,none⟩){a:AV}{v:Value}(h:VR w R a v):VR w' R' a v:=by
 induction h with
 |undef v=>exact .undef v
 |bool b=>exact .bool b
 |int k n=>exact .int k n
 |str s=>exact .str s
 |dq=>exact .dq
 |ref b off=>exact .ref b off
 |sp cs b off u hf hR' hc _ ih=>
  refine .sp cs b off u hf (Nat.le_trans hR' (hR b)) (fun j c hj=>?_) ih
  rw[hs b (off+j) (by have:=(List.getElem?_eq_some_iff.1 hj).1;omega)]
  exact hc j c hj
 |slnil own sz=>exact .slnil own sz
 |sle sz a cap=>exact .sle sz a cap
 |sl own sz n cs b off cap u hf hl hR' hcap hc _ ih=>
  refine .sl own sz n cs b off cap u hf hl (Nat.le_trans hR' (hR b)) hcap (fun j c hj=>?_) ih
  rw[hs b (off+j) (by have:=(List.getElem?_eq_some_iff.1 hj).1;omega)]
  exact hc j c hj
 |arr b off len cap=>exact .arr b off len cap
 |KA b off=>exact .KA b off
 |agg cs vs hf hl _ ih=>exact .agg cs vs hf hl ih
 |fE cs vs hl _ ih=>exact .fE cs vs hl ih
 |fn f first caps vf vc hl _ hl' _ ih ih'=>exact .fn f first caps vf vc hl ih hl' ih'
 |mU=>exact .mU
 |mp b=>exact .mp b
 |one v h=>exact .one v h
 |oe t=>exact .oe t
 |wW=>exact .wW
 |bb t n cs v _ h0 ih=>exact .bb t n cs v ih h0
 |mV=>exact .mV
 |when b a v _ ih=>exact .when b a v ih
theorem ax.R{G G':Gh}{w w':World}(h:ax G w G' w')(hg:bM G w):∀b,G.R b≤G'.R b:=fun b=>by
 rcases Nat.lt_or_ge b w.heap.size with hb|hb
 ·exact h.mono b hb
 ·rw[hg.iT b hb];exact Nat.zero_le _
theorem ax.cells{G G':Gh}{w w':World}(h:ax G w G' w')(hg:bM G w):∀b k,k<G.R b→w'.cell? ⟨b,k,none⟩=w.cell? ⟨b,k,none⟩:=fun b k hk=>by
 rcases Nat.lt_or_ge b w.heap.size with hb|hb
 ·exact h.mn b k hb hk
 ·rw[hg.iT b hb]at hk;omega
theorem ax.vr{G G':Gh}{w w':World}(h:ax G w G' w')(hg:bM G w){a:AV}{v:Value}(hv:VR w G.R a v):VR w' G'.R a v:=hv.mono (h.R hg) (h.cells hg)
theorem ax.refl(G:Gh)(w:World):ax G w G w:=⟨rfl,rfl,rfl,Nat.le_refl _,Nat.le_refl _,fun _ _=>Nat.le_refl _,fun _ _ _ _=>rfl,fun _ _ _=>rfl,fun _ _ h=>⟨h,rfl⟩,fun _ _ h=>⟨h,rfl⟩⟩
theorem ax.trans{G₁ G₂ G₃:Gh}{w₁ w₂ w₃:World}(h:ax G₁ w₁ G₂ w₂)(k:ax G₂ w₂ G₃ w₃):ax G₁ w₁ G₃ w₃ where
 os:=k.os.trans h.os
 tape:=k.tape.trans h.tape
 output:=k.output.trans h.output
 drawn:=Nat.le_trans h.drawn k.drawn
 size:=Nat.le_trans h.size k.size
 mono:=fun b hb=>Nat.le_trans (h.mono b hb) (k.mono b (Nat.lt_of_lt_of_le hb h.size))
 mn:=fun b j hb hj=>(k.mn b j (Nat.lt_of_lt_of_le hb h.size) (Nat.lt_of_lt_of_le hj (h.mono b hb))).trans (h.mn b j hb hj)
 frame:=fun b hb ho=>by
  refine(k.frame b (Nat.lt_of_lt_of_le hb h.size) ?_).trans (h.frame b hb ho)
  rcases ho with ho|ho
  ·exact .inl (h.ji b hb ho).1
  ·exact .inr (h.oE b hb ho).1
 ji:=fun b hb ho=>
  let⟨o2,r2⟩:=h.ji b hb ho
  let⟨o3,r3⟩:=k.ji b (Nat.lt_of_lt_of_le hb h.size) o2
  ⟨o3,r3.trans r2⟩
 oE:=fun b hb ho=>
  let⟨o2,r2⟩:=h.oE b hb ho
  let⟨o3,r3⟩:=k.oE b (Nat.lt_of_lt_of_le hb h.size) o2
  ⟨o3,r3.trans r2⟩
theorem c7.mono{G G':Gh}{w w':World}{o:cy}{a:AV}{v:Value}(h:c7 G w o a v)(hb:∀b,G.O b=o→G'.O b=o∧G'.R b=G.R b∧w'.heap[b]? =w.heap[b]?):c7 G' w' o a v:=by
 unfold c7 at*
 split
 ·rename_i sz n cs
  intro base m cap hv hc
  obtain⟨b,off,c,e,fz,h1,h2,h3,h4,h5,h6⟩:=h base m cap hv hc
  obtain⟨k1,k2,k3⟩:=hb b h2
  exact⟨b,off,c,e,fz,h1,k1,by rw[k2,h3],by rw[k3,h4],h5,h6⟩
 ·rename_i e n cs
  intro base m cap hv hc
  obtain⟨b,off,c,fz,h1,h2,h3,h4,h5,h6⟩:=h base m cap hv hc
  obtain⟨k1,k2,k3⟩:=hb b h2
  exact⟨b,off,c,fz,h1,k1,by rw[k2,h3],by rw[k3,h4],h5,h6⟩
 ·trivial
theorem Fl.views{cs:List AV}(h:Fl cs):Fl (views cs):=by
 intro c hc
 simp only[AB.views,List.mem_map]at hc
 obtain⟨c',h1,rfl⟩:=hc
 have:=h c' h1
 cases c'<;>simp_all [pR,cU,AB.view]
theorem Co.views{t:Nat}{cs:List AV}(h:Co t cs):Fl (AB.views cs):=by
 intro c hc
 simp only[AB.views,List.mem_map]at hc
 obtain⟨c',h1,rfl⟩:=hc
 rcases h c' h1 with h|rfl
 ·cases c'<;>simp_all [pR,cU,AB.view]
 ·rfl
theorem Co.flat{t:Nat}{cs:List AV}(h:Co t cs)(hv:AB.views cs=cs):Fl cs:=hv▸h.views
theorem Co.left{t:Nat}{cs sp:List AV}(h:Co t (cs++sp)):Co t cs:=fun c hc=>h c (List.mem_append_left _ hc)
theorem Fl.tag{cs:List AV}(h:Fl cs)(t:Nat):Co t cs:=fun c hc=>.inl (h c hc)
theorem Co.sub{t:Nat}{cs:List AV}(h:Co t cs)(off n:Nat):Co t (AB.sub cs off n):=fun c hc=>h c (List.mem_of_mem_drop (List.mem_of_mem_take hc))
theorem Co.drop{t:Nat}{cs:List AV}(h:Co t cs)(off:Nat):Co t (cs.drop off):=fun c hc=>h c (List.mem_of_mem_drop hc)
theorem Fl.sub{cs:List AV}(h:Fl cs)(off n:Nat):Fl (sub cs off n):=fun c hc=>h c (List.mem_of_mem_drop (List.mem_of_mem_take hc))
theorem Fl.drop{cs:List AV}(h:Fl cs)(off:Nat):Fl (cs.drop off):=fun c hc=>h c (List.mem_of_mem_drop hc)
theorem Fl.nil:Fl []:=fun c hc=>by simp at hc
theorem c7.view(G:Gh)(w:World)(o:cy)(a:AV)(v:Value):c7 G w o (view a) v:=by cases a<;>first|trivial|(rename_i own sz n cs;simp[AB.view,c7])
theorem VR.view{w:World}{R:Nat→Nat}{a:AV}{v:Value}(h:VR w R a v):VR w R (view a) v:=by
 cases h with
 |slnil own sz=>exact .slnil false sz
 |sle sz a cap=>exact .sle sz a cap
 |sl own sz n cs b off cap u hf hl hR hcap hc hr=>exact .sl false sz n cs b off cap u hf hl hR hcap hc hr
 |undef v=>exact .undef v
 |bool b=>exact .bool b
 |int k n=>exact .int k n
 |str s=>exact .str s
 |dq=>exact .dq
 |ref b off=>exact .ref b off
 |sp cs b off u hf hR hc hr=>exact .sp cs b off u hf hR hc hr
 |arr b off len cap=>exact .arr b off len cap
 |KA b off=>exact .KA b off
 |agg cs vs hf hl hr=>exact .agg cs vs hf hl hr
 |fE cs vs hl hr=>exact .fE cs vs hl hr
 |fn f first caps vf vc hl hr hl' hr'=>exact .fn f first caps vf vc hl hr hl' hr'
 |mU=>exact .mU
 |mp b=>exact .mp b
 |one v h=>exact .one v h
 |oe t=>exact .dq
 |wW=>exact .wW
 |bb t n cs v h h0=>
  cases h with
  |slnil=>exact .slnil false 1
  |sl _ _ _ _ b off cap u hf hl hR hcap hc hr=>exact .sl false 1 n cs b off cap u hf hl hR hcap hc hr
 |mV=>exact .mV
 |when b a v h=>exact .when b a v h
theorem da.mono{G G':Gh}{w w':World}{o:Nat→cy}{cs:List AV}{c:Array Value}(h:da G w o cs c)(hv:∀a v,VR w G.R a v→VR w' G'.R a v)
 (hb:∀b j,G.O b=o j→G'.O b=o j∧G'.R b=G.R b∧w'.heap[b]? =w.heap[b]?):da G' w' o cs c:=
 ⟨h.1,fun j x y hx hy=>⟨hv _ _ (h.2 j x y hx hy).1,(h.2 j x y hx hy).2.mono fun b=>hb b j⟩⟩
theorem c5.pr{G:Gh}{w:World}{e:List (Nat×AV)}{tmps:Array Value}{i:Nat}{a:AV}{v:Value}(h:cU a=true):c5 G w e tmps i a v↔(VR w G.R a v∧c7 G w (.slot i 0) a v):=by cases a<;>simp_all [cU,c5]
theorem c5.Ap{G:Gh}{w:World}{e:List (Nat×AV)}{tmps:Array Value}{i:Nat}{a:AV}{v:Value}(h:cU a=true)(hv:VR w G.R a v):c5 G w e tmps i (view a) v:=by
 have h':cU (view a)=true:=by cases a<;>simp_all [cU,view]
 rw[c5.pr h']
 exact⟨hv.view,c7.view ..⟩
theorem c5.vr{G:Gh}{w:World}{e:List (Nat×AV)}{tmps:Array Value}{i:Nat}{a:AV}{v:Value}(h:cU a=true)(hs:c5 G w e tmps i a v):VR w G.R a v:=((c5.pr h).1 hs).1
theorem c5.frame{G G':Gh}{w w':World}{e e':List (Nat×AV)}{tmps tmps':Array Value}{i:Nat}
 (hv:∀a v,VR w G.R a v→VR w' G'.R a v)
 (hown:∀b,(∃j,G.O b=.slot i j)∨G.O b=.loc i→G'.O b=G.O b∧G'.R b=G.R b∧w'.heap[b]? =w.heap[b]?)
 (hcell:∀b c j,G.O b=.loc i→G.O c=.cell b j→G'.O c=.cell b j∧G'.R c=G.R c∧w'.heap[c]? =w.heap[c]?):
 ∀(a:AV)(v:Value)(_:∀d,ba a d→∀cs,look e' d=.loc cs→∃cs',look e d=.loc cs'∧tmps'[d]? =tmps[d]?)
  (_:c5 G w e tmps i a v),c5 G' w' e' tmps' i a v
 |.loc cs,v,_,h=>by
  obtain⟨b,c,t,h1,h2,h3,h4,h5,h6⟩:=h
  obtain⟨k1,k2,k3⟩:=hown b (.inr h2)
  exact⟨b,c,t,h1,k1.trans h2,k2.trans h3,k3.trans h4,h5.mono hv fun c j hc=>hcell b c j h2 hc,h6⟩
 |.lp d off,v,hlp,h=>by
  obtain⟨b,h3,h4⟩:=h
  refine⟨b,h3,fun cs hcs=>?_⟩
  obtain⟨cs',h1,h2⟩:=hlp d rfl cs hcs
  exact h2.trans (h4 cs' h1)
 |.fE vs,v,_,h=>by
  obtain⟨ys,h1,h2⟩:=h
  exact⟨ys,h1,h2.mono hv fun b j hb=>by
   obtain⟨k1,k2,k3⟩:=hown b (.inl ⟨_,hb⟩)
   exact⟨k1.trans hb,k2,k3⟩⟩
 |.when b a,v,hlp,h=>⟨fun hb=>c5.frame hv hown hcell a v hlp (h.1 hb),h.2⟩
 |.us sz n cs,v,_,h=>by
  rcases h with h|⟨b,cap,c,t,sp,h1,h2,h3,h4,h5,h6,h7,h8,h9,h10,h11⟩
  ·exact .inl h
  ·obtain⟨k1,k2,k3⟩:=hown b (.inl ⟨_,h4⟩)
   exact .inr ⟨b,cap,c,t,sp,h1,h2,h3,k1.trans h4,k2.trans h5,k3.trans h6,h7,h8,h9,fun j x u hx hu=>hv _ _ (h10 j x u hx hu),h11⟩
 |.undef,v,_,h|.bool _,v,_,h|.int _ _,v,_,h|.str _,v,_,h|.dq,v,_,h|.ref _ _,v,_,h|.sp _,v,_,h|.sl _ _ _ _,v,_,h|.arr _ _ _ _,v,_,h|.agg _,v,_,h
 |.fn _ _ _,v,_,h|.mU,v,_,h|.mp _,v,_,h|.mV,v,_,h|.one,v,_,h|.oe _,v,_,h|.wW,v,_,h|.bb _ _ _,v,_,h=>by
  refine⟨hv _ _ h.1,h.2.mono fun b hb=>?_⟩
  obtain⟨k1,k2,k3⟩:=hown b (.inl ⟨_,hb⟩)
  exact⟨k1.trans hb,k2,k3⟩
theorem aJ(j i:Nat)(a:AV)(l:List (Nat×AV)):look ((j,a)::l) i=if j=i then a else look l i:=by
 show(bif j==i then a else look l i)=_
 by_cases h:j=i
 ·simp[h]
 ·have:(j==i)=false:=by simpa using h
  simp[this,h]
theorem Inv.put{G G':Gh}{n:Nat}{D:List Deferred}{σ:St}{s':ab}{lp':List (Nat×Nat)}{a:Act}{w w':World}(h:Inv G n D σ a w)(d:Option Nat)(hd:∀i,d=some i→i<n)(av:AV)(v:Value)
 (hgood:bM G' w')(hpres:ax G w G' w')(hst:aL G' w' s')
 (hlp:∀x∈σ.lp,x∈lp')(hlpn:∀i t,d=some i→ba av t→(i,t)∈lp')
 (hfree:∀i t,d=some i→(∃cs,av=.loc cs)→(t,i)∉σ.lp)
 (hown:∀i b,d≠some i→(∃j,G.O b=.slot i j)∨G.O b=.loc i→G'.O b=G.O b∧G'.R b=G.R b∧w'.heap[b]? =w.heap[b]?)
 (hcell:∀i b c j,d≠some i→G.O b=.loc i→G.O c=.cell b j→G'.O c=.cell b j∧G'.R c=G.R c∧w'.heap[c]? =w.heap[c]?)
 (hnew:∀i,d=some i→c5 G' w' ((σ.put d av).e) (a.put d v).tmps i av v):
 Inv G' n D {(σ.put d av)with s:=s',lp:=lp'} (a.put d v) w':=by
 cases d with
 |none=>
  refine⟨hgood,hst,h.size,fun i u hu=>?_,h.Hs,fun i t ht=>hlp _ (h.OE i t ht),h.sV⟩
  exact c5.frame (fun _ _ hv=>hpres.vr h.aG hv) (fun b=>hown i b (by simp)) (fun b c j=>hcell i b c j (by simp)) _ _ (fun t _ cs hcs=>⟨cs,hcs,rfl⟩) (h.bW i u hu)
 |some d=>
  refine⟨hgood,hst,by simp[Act.put,h.size],fun i u hu=>?_,fun i hi=>?_,fun i t ht=>?_,h.sV⟩
  ·by_cases hid:d=i
   ·subst hid
    have hu':u=v:=by
     have hlt:d<a.tmps.size:=by rw[h.size];exact hd d rfl
     simp[Act.put,hlt]at hu
     exact hu.symm
    subst hu'
    have:look (σ.put (some d) av).e d=av:=by simp[St.put,aJ]
    show c5 G' w' (σ.put (some d) av).e _ d (look (σ.put (some d) av).e d) u
    rw[this]
    exact hnew d rfl
   ·have hne:(some d:Option Nat)≠some i:=fun e=>hid (Option.some.inj e)
    have hu':a.tmps[i]? =some u:=by simpa[Act.put,Array.getElem?_setIfInBounds_ne hid]using hu
    have:look (σ.put (some d) av).e i=look σ.e i:=by simp[St.put,aJ,hid]
    show c5 G' w' (σ.put (some d) av).e _ i (look (σ.put (some d) av).e i) u
    rw[this]
    refine c5.frame (fun _ _ hv=>hpres.vr h.aG hv) (fun b=>hown i b hne) (fun b c j=>hcell i b c j hne) _ _ (fun t ht cs hcs=>?_) (h.bW i u hu')
    have hmem:=h.OE i t ht
    by_cases hdt:d=t
    ·subst hdt
     simp only[St.put,aJ,if_true]at hcs
     exact absurd hmem (hfree d i rfl ⟨cs,hcs⟩)
    ·refine⟨cs,by simpa[St.put,aJ,hdt]using hcs,?_⟩
     simp[Act.put,Array.getElem?_setIfInBounds_ne hdt]
  ·have:d≠i:=by have:=hd d rfl;omega
   simp[St.put,aJ,this,h.Hs i hi]
  ·by_cases hid:d=i
   ·subst hid
    simp only[St.put,aJ,if_true]at ht
    exact hlpn d t rfl ht
   ·simp only[St.put,aJ,hid,if_false]at ht
    exact hlp _ (h.OE i t ht)
end Go.AB
end
