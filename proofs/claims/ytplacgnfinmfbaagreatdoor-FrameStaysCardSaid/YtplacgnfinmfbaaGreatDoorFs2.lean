/- A part. -/
import Derived.Test.YtplacgnfinmfbaaGreatDoorFs1
import Derived.Attr
set_option linter.unusedSimpArgs false
set_option linter.unusedVariables false
section
namespace Go.AB
open Go
section
variable(P:Program)(K:St->Prop)(Q:Exit->St->Prop)(E τ:St)(d:Option Nat)
@[go_sem]theorem ahg:Lo P [] E K=K E:=rfl
@[go_sem]theorem afZ(o:au)(r:List au):Lo P (o::r) E K=Lz P o E (afX P r K):=rfl
@[go_sem]theorem afY(r:List au):afX P r K τ=Lo P r τ K:=rfl
@[go_sem]theorem afG(q:Nat)(r:List au):afF P q r K τ=Ud P q r τ K:=rfl
@[go_sem]theorem afJ(live:List Nat):uk live Q τ=Q .normal (τ.vU live):=rfl
@[go_sem]theorem J8(op:rY):Lz P ⟨d,op,none⟩ E K=Ua P op E d K (pv op (xg true E) E):=rfl
@[go_sem]theorem aiB(op:rY):owp P op d E K=Ua P op E d K (pv op (xg true E) E):=rfl
@[go_sem]theorem adK(op:rY)(t:Nat)(want:Bool):Lz P ⟨d,op,some (t,want)⟩ E K=zN P op d t want E K (look E.e t):=rfl
@[go_sem]theorem adr(Q:Exit->St->Prop):fK P .dead Q E=False:=rfl
@[go_sem]theorem ady:fK P .skip Q E=Q .normal E:=rfl
@[go_sem]theorem agu(ops:List au)(live:List Nat):fK P (.Yo none ops live) Q E=Lo P ops E (uk live Q):=rfl
@[go_sem]theorem adx(q:Nat)(ops:List au)(live:List Nat):fK P (.Yo (some q) ops live) Q E=Ud P q ops E (uk live Q):=rfl
@[go_sem]theorem adu(T:List Nat)(l:List (Nat×Nat×au))(live:List Nat):fK P (.SZ T l live) Q E=(gK T E.e=true/\FX P T l E (uk live Q)):=rfl
@[go_sem]theorem adv(T:List Nat)(q:Nat)(ops:List au)(live:List Nat):fK P (.S0 T q ops live) Q E=(gK T E.e=true/\D0 P T q ops E (uk live Q)):=rfl
@[go_sem]theorem agw(a b:IC):fK P (.seq a b) Q E=fK P a (BG P b Q) E:=by
  have:(fun x τ=>match x with|.normal=>fK P b Q τ|x=>Q x τ)=BG P b Q:=by funext x τ;cases x<;>rfl
  rw[<-this];rfl
@[go_sem]theorem adq(x:IX)(a b:IC):fK P (.cond x a b) Q E=Nw P a b Q E (E.x x):=by
  show(match E.x x with|.bool v=>(v=true->fK P a Q E)/\(v=false->fK P b Q E)|_=>False)=_
  cases E.x x<;>rfl
@[go_sem]theorem abI(i:Nat)(b:IC):fK P (.block i b) Q E=fK P b (LL i Q) E:=rfl
@[go_sem]theorem ads(i:Nat):fK P (.exit i) Q E=Q (.exit i) E:=rfl
@[go_sem]theorem abJ(i:Nat):fK P (.label i) Q E=Q .normal E:=rfl
@[go_sem]theorem adt(i:Nat):fK P (.goto i) Q E=Q (.goto i) E:=rfl
@[go_sem]theorem agv:fK P .ret Q E=Q .ret E:=rfl
@[go_sem]theorem YZ(a b:IC)(v:Bool):Nw P a b Q E (.bool v)=((v=true->fK P a Q E)/\(v=false->fK P b Q E)):=rfl
@[go_sem]theorem Yu(b:IC):BG P b Q .normal τ=fK P b Q τ:=rfl
@[go_sem]theorem afS(b:IC):BG P b Q .ret τ=Q .ret τ:=rfl
@[go_sem]theorem acQ(b:IC)(i:Nat):BG P b Q (.exit i) τ=Q (.exit i) τ:=rfl
@[go_sem]theorem acR(b:IC)(i:Nat):BG P b Q (.goto i) τ=Q (.goto i) τ:=rfl
@[go_sem]theorem Xf(i:Nat):LL i Q .normal τ=Q .normal τ:=rfl
@[go_sem]theorem ada(i:Nat):LL i Q .ret τ=Q .ret τ:=rfl
@[go_sem]theorem abE(i l:Nat):LL i Q (.goto l) τ=Q (.goto l) τ:=rfl
@[go_sem]theorem abD(i j:Nat):LL i Q (.exit j) τ=bif j==i then Q .normal τ else Q (.exit j) τ:=rfl
@[go_sem]theorem Vy(live:List (Nat×Bool))(J:St->Prop):oJ live J Q .normal τ=J (τ.ed live):=rfl
@[go_sem]theorem abZ(live:List (Nat×Bool))(J:St->Prop):oJ live J Q .ret τ=Q .ret τ:=rfl
@[go_sem]theorem ZN(live:List (Nat×Bool))(J:St->Prop)(i:Nat):oJ live J Q (.exit i) τ=Q (.exit i) τ:=rfl
@[go_sem]theorem ZO(live:List (Nat×Bool))(J:St->Prop)(i:Nat):oJ live J Q (.goto i) τ=Q (.goto i) τ:=rfl
@[go_sem]theorem adw(fO:List (List Bool))(ops:List au)(live:List Nat):fK P (.Ta fO ops live) Q E=ON P fO ops (uk live Q) ops (uK ops) E:=rfl
@[go_sem]theorem aht(fO:List (List Bool))(ops:List au)(K:St->Prop)(d:List Bool):ON P fO ops K [] d E=K E:=rfl
@[go_sem]theorem ck(fO:List (List Bool))(ops:List au)(K:St->Prop)(d:List Bool)(o:au)(f:List au):ON P fO ops K (o::f) d E=Nh d fO [] d ops (fun o d=>Lz P o E (agm P fO ops K f d)):=rfl
@[go_sem]theorem cN(fO:List (List Bool))(ops:List au)(K:St->Prop)(f:List au)(d:List Bool)(τ:St):agm P fO ops K f d τ=ON P fO ops K f d τ:=rfl
attribute[go_sem] we xR uK
@[go_sem]theorem bK(done row pre xs:List Bool)(rows:List (List Bool))(x:Bool)(o:au)(r:List au)(F:au->List Bool->Prop):Nh done (row::rows) pre (x::xs) (o::r) F=((bif !x&&we row done then F o (xR pre (true::xs))else True)/\Nh done rows (x::pre) xs r F):=rfl
@[go_sem]theorem cj(done pre:List Bool)(F:au->List Bool->Prop):Nh done [] pre [] [] F=True:=rfl
@[go_sem]theorem LY(l:Nat)(live:List (Nat×Bool))(a1 a2 a3 r:IC):fK P (.Ec l live a1 a2 a3 r) Q E=fK P a1 (BG P a2 (BG P a3 (IU live (T8 P l live r Q) Q))) E:=by
  show fK P a1 (fun x τ=>match x with|.normal=>fK P a2 (fun x τ=>match x with|.normal=>fK P a3 (IU live (T8 P l live r Q) Q) τ|x=>IU live (T8 P l live r Q) Q x τ) τ|x=>IU live (T8 P l live r Q) Q x τ) E=_
  congr 1
  funext x τ
  cases x with
  |normal=>
   show fK P a2 _ τ=fK P a2 _ τ
   congr 1
   funext x τ
   cases x<;>rfl
  |_=>rfl
@[go_sem]theorem Ys(live:List (Nat×Bool))(I:St->Prop):IU live I Q .normal τ=I (τ.ed live):=rfl
@[go_sem]theorem afR(live:List (Nat×Bool))(I:St->Prop):IU live I Q .ret τ=Q .ret τ:=rfl
@[go_sem]theorem aer(l:Nat)(live:List (Nat×Bool))(I:St->Prop):Ib l live I Q .ret τ=Q .ret τ:=rfl
@[go_sem]theorem abX(l:Nat)(live:List (Nat×Bool))(I:St->Prop)(i:Nat):Ib l live I Q (.exit i) τ=Q (.exit i) τ:=rfl
@[go_sem]theorem abY(l:Nat)(live:List (Nat×Bool))(I:St->Prop):Ib l live I Q (.goto l) τ=I (τ.ed live):=by
  show(l=l/\I (τ.ed live))=_
  simp
end
section
@[go_sem]theorem aee(b:Bool):dp (.bool b)=true:=rfl
@[go_sem]theorem af6(g:Bool)(b:Bool):xT g (.bool b)=(.bool b):=rfl
@[go_sem]theorem acS(b:Bool):view (.bool b)=(.bool b):=rfl
@[go_sem]theorem UA(b:Bool):cellsOf (.bool b)=[(.bool b)]:=rfl
@[go_sem]theorem Z8(E:St)(i:Nat)(b:Bool):b9 E (.bool b) (some i)=E:=rfl
@[go_sem]theorem agD(k:IntKind)(n:Int):dp (.int k n)=true:=rfl
@[go_sem]theorem ahj(g:Bool)(k:IntKind)(n:Int):xT g (.int k n)=(.int k n):=rfl
@[go_sem]theorem agf(k:IntKind)(n:Int):view (.int k n)=(.int k n):=rfl
@[go_sem]theorem Xm(k:IntKind)(n:Int):cellsOf (.int k n)=[(.int k n)]:=rfl
@[go_sem]theorem Yz(k:IntKind)(n:Int):bu (.int k n)=[(.int k n)]:=rfl
@[go_sem]theorem ab8(E:St)(i:Nat)(k:IntKind)(n:Int):b9 E (.int k n) (some i)=E:=rfl
@[go_sem]theorem agF(s:List UInt8):dp (.str s)=true:=rfl
@[go_sem]theorem ahm(g:Bool)(s:List UInt8):xT g (.str s)=(.str s):=rfl
@[go_sem]theorem agj(s:List UInt8):view (.str s)=(.str s):=rfl
@[go_sem]theorem Xo(s:List UInt8):cellsOf (.str s)=[(.str s)]:=rfl
@[go_sem]theorem aca(E:St)(i:Nat)(s:List UInt8):b9 E (.str s) (some i)=E:=rfl
@[go_sem]theorem aio(t n:Nat)(cs:List AV):dp (.bb t n cs)=true:=rfl
@[go_sem]theorem ahp(t n:Nat)(cs:List AV):view (.bb t n cs)=.sl false 1 n cs:=rfl
@[go_sem]theorem abi(t n:Nat)(cs:List AV):bu (.bb t n cs)=[.bb t n cs]:=rfl
@[go_sem]theorem aeg:dp (.kQ)=true:=rfl
@[go_sem]theorem af8(g:Bool):xT g (.kQ)=(.kQ):=rfl
@[go_sem]theorem acV:view (.kQ)=(.kQ):=rfl
@[go_sem]theorem aaa(E:St)(i:Nat):b9 E (.kQ) (some i)=E:=rfl
@[go_sem]theorem Xy:dY (.kQ)=.kQ:=rfl
@[go_sem]theorem acT(t:Nat):view (.m6 t)=.fj:=rfl
@[go_sem]theorem aeh:dp (.fj)=true:=rfl
@[go_sem]theorem af9(g:Bool):xT g (.fj)=(.fj):=rfl
@[go_sem]theorem acW:view (.fj)=(.fj):=rfl
@[go_sem]theorem aab(E:St)(i:Nat):b9 E (.fj) (some i)=E:=rfl
@[go_sem]theorem agE(b o:Nat):dp (.ref b o)=true:=rfl
@[go_sem]theorem ahl(g:Bool)(b o:Nat):xT g (.ref b o)=(.ref b o):=rfl
@[go_sem]theorem agi(b o:Nat):view (.ref b o)=(.ref b o):=rfl
@[go_sem]theorem Xn(b o:Nat):cellsOf (.ref b o)=[(.ref b o)]:=rfl
@[go_sem]theorem YA(b o:Nat):bu (.ref b o)=[(.ref b o)]:=rfl
@[go_sem]theorem ab9(E:St)(i:Nat)(b o:Nat):b9 E (.ref b o) (some i)=E:=rfl
@[go_sem]theorem aiW(g:Bool)(b o:Nat):xT g (.lp b o)=(.lp b o):=rfl
@[go_sem]theorem ab5(E:St)(i:Nat)(b o:Nat):b9 E (.lp b o) (some i)={E with lp:=(i,b)::E.lp}:=rfl
@[go_sem]theorem aiY(g:Bool)(cs:List AV):xT g (.sp cs)=(.sp cs):=rfl
@[go_sem]theorem aeE(E:St)(i:Nat)(cs:List AV):b9 E (.sp cs) (some i)=E:=rfl
@[go_sem]theorem ahk(g:Bool)(cs:List AV):xT g (.loc cs)=(.loc cs):=rfl
@[go_sem]theorem agh(cs:List AV):view (.loc cs)=(.loc cs):=rfl
@[go_sem]theorem aiq(o:Bool)(z n:Nat)(cs:List AV):dp (.sl o z n cs)=true:=rfl
@[go_sem]theorem aiX(g:Bool)(o:Bool)(z n:Nat)(cs:List AV):xT g (.sl o z n cs)=(.sl o z n cs):=rfl
@[go_sem]theorem ahr(o:Bool)(z n:Nat)(cs:List AV):view (.sl o z n cs)=(.sl false z n cs):=rfl
@[go_sem]theorem YU(o:Bool)(z n:Nat)(cs:List AV):cellsOf (.sl o z n cs)=[(.sl o z n cs)]:=rfl
@[go_sem]theorem abj(o:Bool)(z n:Nat)(cs:List AV):bu (.sl o z n cs)=[(.sl o z n cs)]:=rfl
@[go_sem]theorem aeD(E:St)(i:Nat)(o:Bool)(z n:Nat)(cs:List AV):b9 E (.sl o z n cs) (some i)=E:=rfl
@[go_sem]theorem agC(b o l c:Nat):dp (.arr b o l c)=true:=rfl
@[go_sem]theorem ahi(g:Bool)(b o l c:Nat):xT g (.arr b o l c)=(.arr b o l c):=rfl
@[go_sem]theorem age(b o l c:Nat):view (.arr b o l c)=(.arr b o l c):=rfl
@[go_sem]theorem Yy(b o l c:Nat):bu (.arr b o l c)=[(.arr b o l c)]:=rfl
@[go_sem]theorem ab7(E:St)(i:Nat)(b o l c:Nat):b9 E (.arr b o l c) (some i)=E:=rfl
@[go_sem]theorem agB(cs:List AV):dp (.agg cs)=true:=rfl
@[go_sem]theorem ahh(g:Bool)(cs:List AV):xT g (.agg cs)=(.agg cs):=rfl
@[go_sem]theorem agd(cs:List AV):view (.agg cs)=(.agg cs):=rfl
@[go_sem]theorem Xl(cs:List AV):cellsOf (.agg cs)=cs:=rfl
@[go_sem]theorem Yx(cs:List AV):bu (.agg cs)=views cs:=rfl
@[go_sem]theorem ab6(E:St)(i:Nat)(cs:List AV):b9 E (.agg cs) (some i)=E:=rfl
@[go_sem]theorem ahn(g:Bool)(cs:List AV):xT g (.iP cs)=(.iP cs):=rfl
@[go_sem]theorem acb(E:St)(i:Nat)(cs:List AV):b9 E (.iP cs) (some i)=E:=rfl
@[go_sem]theorem aip(f:Nat)(x y:List AV):dp (.fn f x y)=true:=rfl
@[go_sem]theorem aiV(g:Bool)(f:Nat)(x y:List AV):xT g (.fn f x y)=(.fn f x y):=rfl
@[go_sem]theorem ahq(f:Nat)(x y:List AV):view (.fn f x y)=(.fn f x y):=rfl
@[go_sem]theorem aeC(E:St)(i:Nat)(f:Nat)(x y:List AV):b9 E (.fn f x y) (some i)=E:=rfl
@[go_sem]theorem aef:dp (.py)=true:=rfl
@[go_sem]theorem af7(g:Bool):xT g (.py)=(.py):=rfl
@[go_sem]theorem acU:view (.py)=(.py):=rfl
@[go_sem]theorem Z9(E:St)(i:Nat):b9 E (.py) (some i)=E:=rfl
@[go_sem]theorem Wg(f:IX->AV)(E:St)(x:IX):pv (.oM true x) f E=.no:=rfl
@[go_sem]theorem aaX(f:IX->AV)(E:St)(z:List AV):pv (.jq z) f E=.no:=rfl
@[go_sem]theorem aaY(f:IX->AV)(E:St)(z:List AV):pv (.mC z) f E=.no:=rfl
@[go_sem]theorem afj(f:IX->AV)(E:St)(n:Nat)(x:IX):pv (.Jw n x) f E=.no:=rfl
@[go_sem]theorem afl(f:IX->AV)(E:St)(n:Nat)(x:IX):pv (.Bd n x) f E=.no:=rfl
@[go_sem]theorem Yj(f:IX->AV)(E:St)(a b:Nat)(z:List AV)(p:List (Nat×Nat×IX)):pv (.gr a b z p) f E=.no:=rfl
@[go_sem]theorem acx(f:IX->AV)(E:St)(n:Nat)(p v:IX):pv (.store n p v) f E=.no:=rfl
@[go_sem]theorem MQ(f:IX->AV)(E:St)(a b:Nat)(x y:IX):pv (.append a b x y) f E=.no:=rfl
@[go_sem]theorem aaP(f:IX->AV)(E:St)(x:IX):pv (.jG x) f E=qV (f x):=rfl
attribute[go_sem] qV.eq_1 Tv.eq_1 QK.eq_1
@[go_sem]theorem Wf(f:IX->AV)(E:St)(x:IX):pv (.gy x) f E=.no:=rfl
@[go_sem]theorem aa0(f:IX->AV)(E:St)(a b:Nat)(z:List AV)(x y:IX):pv (.kP a b z x y) f E=.no:=rfl
@[go_sem]theorem afn(f:IX->AV)(E:St)(n:Nat)(l:List IX):pv (.call n l) f E=.no:=rfl
@[go_sem]theorem acs(f:IX->AV)(E:St)(x:IX)(l:List IX):pv (.gw x l) f E=.no:=rfl
@[go_sem]theorem ZG(b:Bool):inner (.bool b)=true:=rfl
@[go_sem]theorem abQ(k:IntKind)(n:Int):inner (.int k n)=true:=rfl
@[go_sem]theorem abS(s:List UInt8):inner (.str s)=true:=rfl
@[go_sem]theorem ZH:inner (.fj)=true:=rfl
@[go_sem]theorem abR(b o:Nat):inner (.ref b o)=true:=rfl
@[go_sem]theorem aea(b o:Nat):inner (.lp b o)=true:=rfl
@[go_sem]theorem aec(cs:List AV):inner (.sp cs)=true:=rfl
@[go_sem]theorem aeb(o:Bool)(z n:Nat)(cs:List AV):inner (.sl o z n cs)=true:=rfl
@[go_sem]theorem abP(b o l c:Nat):inner (.arr b o l c)=true:=rfl
@[go_sem]theorem abO(cs:List AV):inner (.agg cs)=true:=rfl
@[go_sem]theorem Uh(g:Bool)(a:AV):xT g (.when g a)=bif inner a then a else .undef:=by simp[xT]
@[go_sem]theorem adH(x:Bool):Zm (.bool x)=some (true,x):=rfl
@[go_sem]theorem adI(b x:Bool):Zm (.when b (.bool x))=some (b,x):=rfl
@[go_sem]theorem agA:Zm (.iP [])=some (false,false):=rfl
@[go_sem]theorem aiu(g b:Bool):(g=true->b=true->(g&&b)=true)=True:=by cases g<;>cases b<;>simp
@[go_sem]theorem aiv(g b:Bool):(g=true->b=false->(g&&!b)=true)=True:=by cases g<;>cases b<;>simp
@[go_sem]theorem aiw(b:Bool):(b=false->(!b)=true)=True:=by cases b<;>simp
@[go_sem]theorem ado(b x:Bool):(bif b then x else false)=(b&&x):=by cases b<;>rfl
@[go_sem]theorem agt(b x:Bool):(bif b then true else x)=(b||x):=by cases b<;>rfl
@[go_sem]theorem aja(b:Bool):(b==true)=b:=by cases b<;>rfl
@[go_sem]theorem ai9(b:Bool):(b==false)=!b:=by cases b<;>rfl
@[go_sem]theorem aes(k:IntKind):Vz k k=true:=by simp[Vz]
@[go_sem]theorem afO:iX []=true:=rfl
@[go_sem]theorem afP(a b:AV)(l:List AV):iX (a::b::l)=true:=rfl
@[go_sem]theorem afL:e7 []=.iP []:=rfl
@[go_sem]theorem afM(a b:AV)(l:List AV):e7 (a::b::l)=.iP (a::b::l):=rfl
@[go_sem]theorem acX:views []=[]:=rfl
@[go_sem]theorem abw(a:AV)(l:List AV):views (a::l)=view a::views l:=rfl
@[go_sem]theorem x_t(E:St)(i:Nat):E.x (.t i)=look E.e i:=rfl
@[go_sem]theorem x_c(E:St)(a:AV):E.x (.c a)=a:=rfl
@[go_sem]theorem afg(E:St)(i:Nat)(a:AV):E.put (some i) a={E with e:=(i,a)::E.e}:=rfl
@[go_sem]theorem aff(E:St)(a:AV):E.put none a=E:=rfl
@[go_sem]theorem look_nil(i:Nat):look [] i=.undef:=rfl
@[go_sem]theorem Z0(j i:Nat)(a:AV)(l:List (Nat×AV)):look ((j,a)::l) i=bif j==i then a else look l i:=rfl
section
variable(P:Program)(K:St->Prop)(E:St)
@[go_sem]theorem afI(l:List au):Ud P 0 l E K=Lo P l E K:=rfl
@[go_sem]theorem afH(q:Nat)(o:au)(r:List au):Ud P (q+1) (o::r) E K=(bn E o.dst=true/\q1 P o E (afF P q r K)):=rfl
@[go_sem]theorem aiH(d:Option Nat)(x:IX):q1 P ⟨d,.oM false x,none⟩ E K=qK E d K (qv ⟨d,.oM false x,none⟩ E):=rfl
@[go_sem]theorem aiL(d:Option Nat)(x:IX):q2 P ⟨d,.oM false x,none⟩ E K=(bn E d=true/\qK E d K (qv ⟨d,.oM false x,none⟩ E)):=by cases d<;>rfl
@[go_sem]theorem agZ(d:Option Nat)(t:Nat)(want:Bool)(x:IX):q1 P ⟨d,.oM false x,(some (t,want))⟩ E K=qK E d K (qv ⟨d,.oM false x,(some (t,want))⟩ E):=rfl
@[go_sem]theorem ag1(d:Option Nat)(c x y:IX):q1 P ⟨d,.pick c x y,none⟩ E K=qK E d K (qv ⟨d,.pick c x y,none⟩ E):=rfl
@[go_sem]theorem afv(d:Option Nat)(t:Nat)(want:Bool)(c x y:IX):q1 P ⟨d,.pick c x y,(some (t,want))⟩ E K=qK E d K (qv ⟨d,.pick c x y,(some (t,want))⟩ E):=rfl
@[go_sem]theorem afq(d:Option Nat)(z:List AV)(ps:List (Nat×Nat×IX)):q1 P ⟨d,.build z ps,none⟩ E K=qK E d K (qv ⟨d,.build z ps,none⟩ E):=rfl
@[go_sem]theorem afx(d:Option Nat)(z:List AV)(ps:List (Nat×Nat×IX)):q2 P ⟨d,.build z ps,none⟩ E K=(bn E d=true/\qK E d K (qv ⟨d,.build z ps,none⟩ E)):=by cases d<;>rfl
@[go_sem]theorem agY(d:Option Nat)(n:Nat)(m:Bool)(x:IX):q1 P ⟨d,.load n m x,none⟩ E K=qK E d K (qv ⟨d,.load n m x,none⟩ E):=rfl
@[go_sem]theorem ag3(d:Option Nat)(n:Nat)(m:Bool)(x:IX):q2 P ⟨d,.load n m x,none⟩ E K=(bn E d=true/\qK E d K (qv ⟨d,.load n m x,none⟩ E)):=by cases d<;>rfl
@[go_sem]theorem aft(d:Option Nat)(t:Nat)(want:Bool)(n:Nat)(m:Bool)(x:IX):q1 P ⟨d,.load n m x,(some (t,want))⟩ E K=qK E d K (qv ⟨d,.load n m x,(some (t,want))⟩ E):=rfl
@[go_sem]theorem Yl(d:Option Nat)(x:IX):q1 P ⟨d,.nilCheck x,none⟩ E K=qK E d K (qv ⟨d,.nilCheck x,none⟩ E):=rfl
@[go_sem]theorem Ym(d:Option Nat)(x:IX):q2 P ⟨d,.nilCheck x,none⟩ E K=(bn E d=true/\qK E d K (qv ⟨d,.nilCheck x,none⟩ E)):=by cases d<;>rfl
@[go_sem]theorem Wk(d:Option Nat)(t:Nat)(want:Bool)(x:IX):q1 P ⟨d,.nilCheck x,(some (t,want))⟩ E K=qK E d K (qv ⟨d,.nilCheck x,(some (t,want))⟩ E):=rfl
@[go_sem]theorem aiE(d:Option Nat)(b:BinOp)(x y:IX):q1 P ⟨d,.bin b x y,none⟩ E K=qK E d K (qv ⟨d,.bin b x y,none⟩ E):=rfl
@[go_sem]theorem aiJ(d:Option Nat)(b:BinOp)(x y:IX):q2 P ⟨d,.bin b x y,none⟩ E K=(bn E d=true/\qK E d K (qv ⟨d,.bin b x y,none⟩ E)):=by cases d<;>rfl
@[go_sem]theorem agW(d:Option Nat)(t:Nat)(want:Bool)(b:BinOp)(x y:IX):q1 P ⟨d,.bin b x y,(some (t,want))⟩ E K=qK E d K (qv ⟨d,.bin b x y,(some (t,want))⟩ E):=rfl
@[go_sem]theorem aiF(d:Option Nat)(n:Bool)(x y:IX):q1 P ⟨d,.T5 n x y,none⟩ E K=qK E d K (qv ⟨d,.T5 n x y,none⟩ E):=rfl
@[go_sem]theorem ajC(d:Option Nat)(u:UnOp)(x:IX):q1 P ⟨d,.un u x,none⟩ E K=qK E d K (qv ⟨d,.un u x,none⟩ E):=rfl
@[go_sem]theorem aiI(d:Option Nat)(t:Nat)(want:Bool)(u:UnOp)(x:IX):q1 P ⟨d,.un u x,(some (t,want))⟩ E K=qK E d K (qv ⟨d,.un u x,(some (t,want))⟩ E):=rfl
@[go_sem]theorem acz(d:Option Nat)(k:IntKind)(x:IX):q1 P ⟨d,.mF k x,none⟩ E K=qK E d K (qv ⟨d,.mF k x,none⟩ E):=rfl
@[go_sem]theorem aa1(d:Option Nat)(t:Nat)(want:Bool)(k:IntKind)(x:IX):q1 P ⟨d,.mF k x,(some (t,want))⟩ E K=qK E d K (qv ⟨d,.mF k x,(some (t,want))⟩ E):=rfl
@[go_sem]theorem acE(d:Option Nat)(x i:IX):q1 P ⟨d,.kX x i,none⟩ E K=qK E d K (qv ⟨d,.kX x i,none⟩ E):=rfl
@[go_sem]theorem acJ(d:Option Nat)(x i:IX):q2 P ⟨d,.kX x i,none⟩ E K=(bn E d=true/\qK E d K (qv ⟨d,.kX x i,none⟩ E)):=by cases d<;>rfl
@[go_sem]theorem aa3(d:Option Nat)(t:Nat)(want:Bool)(x i:IX):q1 P ⟨d,.kX x i,(some (t,want))⟩ E K=qK E d K (qv ⟨d,.kX x i,(some (t,want))⟩ E):=rfl
@[go_sem]theorem Wh(d:Option Nat)(f:Nat)(x:IX):q1 P ⟨d,.fieldAddr f x,none⟩ E K=qK E d K (qv ⟨d,.fieldAddr f x,none⟩ E):=rfl
@[go_sem]theorem Wl(d:Option Nat)(f:Nat)(x:IX):q2 P ⟨d,.fieldAddr f x,none⟩ E K=(bn E d=true/\qK E d K (qv ⟨d,.fieldAddr f x,none⟩ E)):=by cases d<;>rfl
@[go_sem]theorem Ub(d:Option Nat)(t:Nat)(want:Bool)(f:Nat)(x:IX):q1 P ⟨d,.fieldAddr f x,(some (t,want))⟩ E K=qK E d K (qv ⟨d,.fieldAddr f x,(some (t,want))⟩ E):=rfl
@[go_sem]theorem Wj(d:Option Nat)(z:List AV)(x i:IX):q1 P ⟨d,.indexAddr z x i,none⟩ E K=qK E d K (qv ⟨d,.indexAddr z x i,none⟩ E):=rfl
@[go_sem]theorem Wm(d:Option Nat)(z:List AV)(x i:IX):q2 P ⟨d,.indexAddr z x i,none⟩ E K=(bn E d=true/\qK E d K (qv ⟨d,.indexAddr z x i,none⟩ E)):=by cases d<;>rfl
@[go_sem]theorem Uc(d:Option Nat)(t:Nat)(want:Bool)(z:List AV)(x i:IX):q1 P ⟨d,.indexAddr z x i,(some (t,want))⟩ E K=qK E d K (qv ⟨d,.indexAddr z x i,(some (t,want))⟩ E):=rfl
@[go_sem]theorem afw(d:Option Nat)(z:Nat)(x:IX)(lo hi mx:Option IX):q1 P ⟨d,.slice z x lo hi mx,none⟩ E K=qK E d K (qv ⟨d,.slice z x lo hi mx,none⟩ E):=rfl
@[go_sem]theorem afz(d:Option Nat)(z:Nat)(x:IX)(lo hi mx:Option IX):q2 P ⟨d,.slice z x lo hi mx,none⟩ E K=(bn E d=true/\qK E d K (qv ⟨d,.slice z x lo hi mx,none⟩ E)):=by cases d<;>rfl
@[go_sem]theorem acF(d:Option Nat)(x:IX)(lo hi:Option IX):q1 P ⟨d,.pC x lo hi,none⟩ E K=qK E d K (qv ⟨d,.pC x lo hi,none⟩ E):=rfl
@[go_sem]theorem aa2(d:Option Nat)(x:IX)(k:Nat):q1 P ⟨d,.extract x k,none⟩ E K=qK E d K (qv ⟨d,.extract x k,none⟩ E):=rfl
@[go_sem]theorem aa5(d:Option Nat)(x:IX)(k:Nat):q2 P ⟨d,.extract x k,none⟩ E K=(bn E d=true/\qK E d K (qv ⟨d,.extract x k,none⟩ E)):=by cases d<;>rfl
@[go_sem]theorem aiG(d:Option Nat)(c:Nat)(x:IX):q1 P ⟨d,.len c x,none⟩ E K=qK E d K (qv ⟨d,.len c x,none⟩ E):=rfl
@[go_sem]theorem aiK(d:Option Nat)(c:Nat)(x:IX):q2 P ⟨d,.len c x,none⟩ E K=(bn E d=true/\qK E d K (qv ⟨d,.len c x,none⟩ E)):=by cases d<;>rfl
@[go_sem]theorem acC(d:Option Nat)(m:Bool)(xs:List IX):q1 P ⟨d,.nY m xs,none⟩ E K=qK E d K (qv ⟨d,.nY m xs,none⟩ E):=rfl
@[go_sem]theorem ag0(d:Option Nat)(x:IX):q1 P ⟨d,.oM true x,none⟩ E K=Sf E x d K (E.x x):=rfl
@[go_sem]theorem agX(d:Option Nat)(f:Nat)(args:List IX):q1 P ⟨d,.call f args,none⟩ E K=Oq P f E d K (cq (xg true E) args):=rfl
@[go_sem]theorem ag2(d:Option Nat)(f:Nat)(args:List IX):q2 P ⟨d,.call f args,none⟩ E K=(bn E d=true/\Oq P f E d K (cq (xg true E) args)):=by cases d<;>rfl
@[go_sem]theorem afr(d:Option Nat)(f:Nat)(args:List IX)(t:Nat)(want:Bool):q1 P ⟨d,.call f args,some (t,want)⟩ E K=DY P f args want E d K (look E.e t):=rfl
@[go_sem]theorem acA(d:Option Nat)(x:IX):q1 P ⟨d,.jG x,none⟩ E K=qK E d K (qv ⟨d,.jG x,none⟩ E):=rfl
@[go_sem]theorem aa4(d:Option Nat)(sz n:Nat)(z:List AV)(ps:List (Nat×Nat×IX))(g:Option (Nat×Bool)):q2 P ⟨d,.gr sz n z ps,g⟩ E K=(bn E d=true/\qK E d K (EE ⟨d,.gr sz n z ps,g⟩ E)):=by cases d<;>rfl
@[go_sem]theorem afu(d:Option Nat)(z:List AV)(m:Bool)(x:IX):q1 P ⟨d,.kN z m x,none⟩ E K=qK E d K (qv ⟨d,.kN z m x,none⟩ E):=rfl
@[go_sem]theorem afy(d:Option Nat)(z:List AV)(m:Bool)(x:IX):q2 P ⟨d,.kN z m x,none⟩ E K=(bn E d=true/\qK E d K (qv ⟨d,.kN z m x,none⟩ E)):=by cases d<;>rfl
@[go_sem]theorem acB(d:Option Nat)(t:Nat)(want:Bool)(z:List AV)(m:Bool)(x:IX):q1 P ⟨d,.kN z m x,(some (t,want))⟩ E K=qK E d K (qv ⟨d,.kN z m x,(some (t,want))⟩ E):=rfl
@[go_sem]theorem acp(f:IX->AV)(E:St)(z:List AV)(m:Bool)(x:IX):pv (.kN z m x) f E=GC z m E.s (f x):=rfl
@[go_sem]theorem Yk(f:IX->AV)(E:St)(x:IX):pv (.kz x) f E=.no:=rfl
@[go_sem]theorem ZM(d:Option Nat)(x:IX):jl P (.kz x) d E K=SF E d K (BF (xg true E x)):=rfl
@[go_sem]theorem acD(d:Option Nat)(x:IX)(g:Option (Nat×Bool)):q1 P ⟨d,.qt x,g⟩ E K=qK E d K (EE ⟨d,.qt x,g⟩ E):=rfl
@[go_sem]theorem acI(d:Option Nat)(x:IX)(g:Option (Nat×Bool)):q2 P ⟨d,.qt x,g⟩ E K=(bn E d=true/\qK E d K (EE ⟨d,.qt x,g⟩ E)):=by cases d<;>rfl
@[go_sem]theorem acw(f:IX->AV)(E:St)(x:IX):pv (.qt x) f E=.no:=rfl
@[go_sem]theorem aem(d:Option Nat)(x:IX):jl P (.qt x) d E K=SF E d K (AH (xg true E x)):=rfl
@[go_sem]theorem ag4(f:IX->AV)(s:ae)(x:IX):qe f s (.qt x)=AH (f x):=rfl
@[go_sem]theorem afB(d:Option Nat)(o:rY):EE ⟨d,o,none⟩ E=qe (xg true E) E.s o:=rfl
@[go_sem]theorem afD(f:IX->AV)(s:ae)(sz n:Nat)(z:List AV)(ps:List (Nat×Nat×IX)):qe f s (.gr sz n z ps)=D7 sz n (fill f z ps):=rfl
@[go_sem]theorem ahb(n:Nat)(x:Int)(cs:List AV):BF (.sl true 1 (n+1) (.int .u8 x::cs))=.dh (.sl false 1 (n+1) (.int .u8 x::cs)):=rfl
attribute[go_sem] AH.eq_1 GC.eq_1 KI.eq_1 SF.eq_1 SF.eq_2 SF.eq_3
attribute[go_sem] uT.eq_1 D7.eq_1
@[go_sem]theorem ag5(d:Option Nat)(o:rY):qv ⟨d,o,none⟩ E=pv o (xg true E) E:=rfl
@[go_sem]theorem ag6(d:Option Nat)(o:rY)(t:Nat)(want:Bool):qv ⟨d,o,some (t,want)⟩ E=K5 o want E (look E.e t):=rfl
@[go_sem]theorem agS(f:IX->AV)(E:St)(x:IX):pv (.cap x) f E=LQ (f x):=rfl
@[go_sem]theorem aaW(f:IX->AV)(E:St)(z:Nat)(x:IX)(lo hi:Option IX)(m:IX):pv (.slice z x lo hi (some m)) f E=oT z f lo hi m (f x):=rfl
@[go_sem]theorem We(f:IX->AV)(E:St)(a b:Nat)(z:List AV)(p:List (Nat×Nat×IX)):pv (.ks a b z p) f E=.no:=rfl
@[go_sem]theorem Yg(f:IX->AV)(E:St)(a b:Nat)(z:List AV)(x y:IX):pv (.mZ a b z x y) f E=.no:=rfl
@[go_sem]theorem Yi(f:IX->AV)(E:St)(a b:Nat)(z:List AV)(x y:IX):pv (.m4 a b z x y) f E=.no:=rfl
@[go_sem]theorem XS(d:Option Nat)(sz by':Nat)(z:List AV)(x y:IX):jl P (.m4 sz by' z x y) d E K=sD sz by' z E d K (E.x x) (xg true E y):=rfl
@[go_sem]theorem aaZ(f:IX->AV)(E:St)(z:List AV)(x:IX):pv (.qU z x) f E=.no:=rfl
@[go_sem]theorem agV(f:IX->AV)(E:St)(a:Nat)(o:Bool)(x:IX):pv (.T7 a o x) f E=.no:=rfl
@[go_sem]theorem PO(f:IX->AV)(E:St)(off:Nat)(j x:IX):pv (.mW off j x) f E=.no:=rfl
@[go_sem]theorem acu(f:IX->AV)(E:St)(x:IX):pv (.mh x) f E=.no:=rfl
@[go_sem]theorem agU(f:IX->AV)(E:St)(o:Bool)(x:IX):pv (.UR o x) f E=.no:=rfl
@[go_sem]theorem Vx(d:Option Nat)(sz n:Nat)(z:List AV)(p:List (Nat×Nat×IX)):jl P (.ks sz n z p) d E K=uS sz n E d K (fill (xg true E) z p):=rfl
@[go_sem]theorem XP(d:Option Nat)(sz by':Nat)(z:List AV)(x y:IX):jl P (.mZ sz by' z x y) d E K=dG sz by' z E d K (E.x x) (zy E.s sz (E.x y)):=rfl
@[go_sem]theorem ZL(d:Option Nat)(z:List AV)(x:IX):jl P (.qU z x) d E K=yg z E d K (E.x x):=rfl
@[go_sem]theorem agH(d:Option Nat)(sz:Nat)(o:Bool)(x:IX):jl P (.T7 sz o x) d E K=vG sz o E d (fun τ=>K (Ra x d τ)) (E.x x):=rfl
attribute[go_sem] Ra
@[go_sem]theorem abV(d:Option Nat)(x:IX):jl P (.mh x) d E K=pw E d K (E.x x):=rfl
@[go_sem]theorem agG(d:Option Nat)(o:Bool)(x:IX):jl P (.UR o x) d E K=Ph o E d K (E.x x):=rfl
@[go_sem]theorem afs(d:Option Nat)(x:IX)(args:List IX):q1 P ⟨d,.gw x args,none⟩ E K=MS P E (cq (xg true E) args) d K (xg true E x):=rfl
@[go_sem]theorem acy(d:Option Nat)(x:IX)(args:List IX)(t:Nat)(want:Bool):q1 P ⟨d,.gw x args,some (t,want)⟩ E K=BX P x args want E d K (look E.e t):=rfl
@[go_sem]theorem acK(f:Nat)(first gh:List AV)(args:Option (List AV))(d:Option Nat):MS P E args d K (.fn f first gh)=II P f first gh E d K args:=rfl
@[go_sem]theorem Wn(f:Nat)(first gh as:List AV)(d:Option Nat):II P f first gh E d K (some as)=(vE P f=true/\∃rs,iX rs=true/\FE P f (first++as++gh) E.s rs E.s/\K (E.put d (e7 rs))):=rfl
@[go_sem]theorem Wo(x:IX)(args:List IX)(want b:Bool)(d:Option Nat):BX P x args want E d K (.bool b)=(∃rs,iX rs=true/\((b==want)=true->∃f as,callee x args (b==want) E f as/\vE P f=true/\FE P f as E.s rs E.s)/\K (E.put d (.when (b==want) (e7 rs)))):=rfl
@[go_sem]theorem agT(f:IX->AV)(E:St)(ne:Bool)(x:IX):pv (.UQ ne x) f E=JX ne (f x):=rfl
@[go_sem]theorem agy(ne:Bool)(b o:Nat):EL ne (.ref b o) (.ref b o)=.dh (.bool (!ne)):=by simp[EL]
@[go_sem]theorem afp(f:IX->AV)(E:St)(x:IX):pv (.HD x) f E=.no:=rfl
@[go_sem]theorem afo(f:IX->AV)(E:St)(u:Nat)(x:IX):pv (.HC u x) f E=.no:=rfl
@[go_sem]theorem afm(f:IX->AV)(E:St)(n t j u:Nat)(x:IX):pv (.Hp n t j u x) f E=.no:=rfl
@[go_sem]theorem Yh(f:IX->AV)(E:St)(t:Nat)(x y:IX):pv (.m3 t x y) f E=.no:=rfl
@[go_sem]theorem XQ(d:Option Nat)(t:Nat)(x y:IX):jl P (.m3 t x y) d E K=pL t E x d K (E.x x) (E.x y):=rfl
@[go_sem]theorem ael(d:Option Nat)(x:IX):jl P (.HD x) d E K=JJ E d K (E.x x):=rfl
@[go_sem]theorem aek(d:Option Nat)(u:Nat)(x:IX):jl P (.HC u x) d E K=JI P u E d K (E.x x):=rfl
@[go_sem]theorem aej(d:Option Nat)(n t j u:Nat)(x:IX):jl P (.Hp n t j u x) d E K=Qw n t j u E d K (E.x x):=rfl
@[go_sem]theorem acr(f:IX->AV)(E:St)(g:Nat)(x:IX):pv (.yf g x) f E=.no:=rfl
@[go_sem]theorem abU(d:Option Nat)(f:Nat)(x:IX):jl P (.yf f x) d E K=Ht P f E d K (E.x x):=rfl
@[go_sem]theorem acv(f:IX->AV)(E:St)(z:Nat)(o:Bool)(x:IX):pv (.zd z o x) f E=.no:=rfl
@[go_sem]theorem abW(d:Option Nat)(z:Nat)(o:Bool)(x:IX):jl P (.zd z o x) d E K=Il z o E d K (rd E (xg true E x) 1):=rfl
attribute[go_sem] Il.eq_1 pL.eq_1 pL.eq_2 Ht JX.eq_1 Qw JJ.eq_1 JI.eq_1 QN.eq_1 QM.eq_1
@[go_sem]theorem afk(f:IX->AV)(E:St)(z n:Nat)(x:IX):pv (.Ho z n x) f E=.no:=rfl
@[go_sem]theorem aei(d:Option Nat)(z n:Nat)(x:IX):jl P (.Ho z n x) d E K=Qv z n E d K (E.x x):=rfl
@[go_sem]theorem aeQ(z b:Nat):Al z (.arr b 0 0 0)=.sl true z 0 []:=rfl
@[go_sem]theorem aeR(z:Nat)(k:IntKind)(n:Int):Al z (.int k n)=.int k n:=rfl
@[go_sem]theorem aeS(z b o:Nat):Al z (.ref b o)=.ref b o:=rfl
attribute[go_sem] Qv
@[go_sem]theorem acq(f:IX->AV)(E:St)(g i:Nat)(xs:List IX):pv (.ye g i xs) f E=.no:=rfl
@[go_sem]theorem abT(d:Option Nat)(f i:Nat)(xs:List IX):jl P (.ye f i xs) d E K=TI i E (fun τ=>sJ P f τ d K (cq (xg true τ) xs)) (look E.e i):=rfl
attribute[go_sem] LQ.eq_1 oT.eq_1 AD.eq_1 uS.eq_1 Ph.eq_1 Ph.eq_2
@[go_sem]theorem acO(T:List Nat)(l:List au):D0 P T 0 l E K=Lo P l E K:=rfl
@[go_sem]theorem acN(T:List Nat)(q:Nat)(o:au)(r:List au):D0 P T (q+1) (o::r) E K=q2 P o E (Yn P T q r K):=rfl
@[go_sem]theorem acM(T:List Nat)(q:Nat)(r:List au)(τ:St):Yn P T q r K τ=(gK T τ.e=true/\D0 P T q r τ K):=rfl
@[go_sem]theorem ags(T:List Nat):FX P T [] E K=K E:=rfl
@[go_sem]theorem ajd(T:List Nat)(i:Nat)(o:au)(r:List (Nat×Nat×au)):FX P T ((0,i,o)::r) E K=q2 P o E (Qx P T r K):=rfl
@[go_sem]theorem aje(T:List Nat)(i:Nat)(o:au)(r:List (Nat×Nat×au)):FX P T ((1,i,o)::r) E K=(mr o E=true/\q2 P o E (Qx P T r K)):=rfl
@[go_sem]theorem ajf(T:List Nat)(i:Nat)(o:au)(r:List (Nat×Nat×au)):FX P T ((2,i,o)::r) E K=T4 P o E (Qx P T r K):=rfl
@[go_sem]theorem ajg(T:List Nat)(i:Nat)(o:au)(r:List (Nat×Nat×au)):FX P T ((3,i,o)::r) E K=Lz P o E (Qx P T r K):=rfl
@[go_sem]theorem adg(T:List Nat)(r:List (Nat×Nat×au))(τ:St):Qx P T r K τ=(gK T τ.e=true/\FX P T r τ K):=rfl
@[go_sem]theorem ac5(d:Option Nat)(f:Nat)(args:List IX):T4 P ⟨d,.call f args,none⟩ E K=(bn E d=true/\sJ P f E d K (cq (xg true E) args)):=by
  show(bn E d=true/\zH P f E.s (T0 E d K) (cq (xg true E) args))=_
  cases cq (xg true E) args<;>rfl
@[go_sem]theorem abA(d:Option Nat)(n:Nat)(p v:IX):T4 P ⟨d,.store n p v,none⟩ E K=(bn E d=true/\oB n E.s (T0 E d K) (E.x v) (E.x p)):=rfl
@[go_sem]theorem abz(d:Option Nat)(x:IX):T4 P ⟨d,.mh x,none⟩ E K=(bn E d=true/\nC E.s (T0 E d K) (E.x x)):=rfl
@[go_sem]theorem agp(d:Option Nat)(a:AV)(s':ae):T0 E d K a s'=K ({E with s:=s'}.put d a):=rfl
@[go_sem]theorem Xk(n:Nat)(s:ae)(C:AV->ae->Prop)(v:AV)(b off:Nat):oB n s C v (.ref b off)=(dp v=true/\KR v=true/\(bu v).length=n/\Jz b off (bu v) s C (s b)):=rfl
@[go_sem]theorem Xj(b off:Nat)(news:List AV)(s:ae)(C:AV->ae->Prop)(gN:List AV):Jz b off news s C (some (.cells gN))=(off+news.length<=gN.length/\C (.iP []) (s.set b (.cells (setAt gN off news)))):=rfl
attribute[go_sem] mr
@[go_sem]theorem acf(k:IntKind)(n:Int):KR (.int k n)=true:=rfl
@[go_sem]theorem aeT(cs:List AV):lq (.sp cs)=true:=rfl
@[go_sem]theorem ach(cs:List AV):lq (.loc cs)=true:=rfl
@[go_sem]theorem acg(z n:Nat)(cs:List AV):KR (.sl false z n cs)=true:=rfl
@[go_sem]theorem ace(T:List Nat):gK T []=true:=rfl
@[go_sem]theorem aak(T:List Nat)(p:Nat×AV)(e:List (Nat×AV)):gK T (p::e)=(rq T p.2&&gK T e):=rfl
@[go_sem]theorem Z6(a:AV):rq [] a=true:=rfl
@[go_sem]theorem XY(c:Nat)(T:List Nat)(a:AV):rq (c::T) a=(oL c a&&rq T a):=rfl
@[go_sem]theorem aeA(c t o:Nat):oL c (.lp t o)=!Nat.beq t c:=rfl
@[go_sem]theorem acL(n c:Nat)(x:IX)(gN:List AV):SP n E c x K (.loc gN)=(gN.length=n/\dp (E.x x)=true/\(bu (E.x x)).length=n/\K ((E.drain x).put (some c) (.loc (bu (E.x x))))):=rfl
@[go_sem]theorem afA(n c:Nat)(x:IX):q2 P ⟨none,.store n (.t c) x,none⟩ E K=SP n E c x K (look E.e c):=rfl
@[go_sem]theorem acG(d:Nat)(z:List AV):q2 P ⟨some d,.jq z,none⟩ E K=(bw (look E.e d)=true/\kO E.lp (some d)=true/\K (E.put (some d) (.loc z))):=rfl
@[go_sem]theorem acH(d sz bytes:Nat)(x y:IX):q2 P ⟨some d,.append sz bytes x y,none⟩ E K=(bw (look E.e d)=true/\kq sz bytes E x (some d) K (E.x x) (E.x y)):=rfl
@[go_sem]theorem Z3(c':Nat)(b:Bool):oL c' (.bool b)=true:=rfl
@[go_sem]theorem ab1(c':Nat)(k:IntKind)(n:Int):oL c' (.int k n)=true:=rfl
@[go_sem]theorem Z5(c':Nat):oL c' (.fj)=true:=rfl
@[go_sem]theorem ab3(c':Nat)(b o:Nat):oL c' (.ref b o)=true:=rfl
@[go_sem]theorem ab2(c':Nat)(cs:List AV):oL c' (.loc cs)=true:=rfl
@[go_sem]theorem aeB(c':Nat)(o:Bool)(s n:Nat)(cs:List AV):oL c' (.sl o s n cs)=true:=rfl
@[go_sem]theorem ab0(c':Nat)(cs:List AV):oL c' (.agg cs)=true:=rfl
@[go_sem]theorem ab4(c':Nat)(cs:List AV):oL c' (.iP cs)=true:=rfl
@[go_sem]theorem Ue:bn E none=true:=rfl
@[go_sem]theorem Uf(d:Nat):bn E (some d)=bw (look E.e d):=rfl
@[go_sem]theorem X6(b:Bool)(a:AV):bw (.when b a)=true:=rfl
@[go_sem]theorem acj(b o:Nat):bw (.lp b o)=true:=rfl
@[go_sem]theorem VT:bw (.undef)=true:=rfl
@[go_sem]theorem X4(b:Bool):bw (.bool b)=true:=rfl
@[go_sem]theorem aan(k:IntKind)(n:Int):bw (.int k n)=true:=rfl
@[go_sem]theorem aap(s:List UInt8):bw (.str s)=true:=rfl
@[go_sem]theorem X5:bw (.fj)=true:=rfl
@[go_sem]theorem aao(b o:Nat):bw (.ref b o)=true:=rfl
@[go_sem]theorem acm(cs:List AV):bw (.sp cs)=true:=rfl
@[go_sem]theorem ack(o:Bool)(z n:Nat)(cs:List AV):bw (.sl o z n cs)=true:=rfl
@[go_sem]theorem aam(b o l c:Nat):bw (.arr b o l c)=true:=rfl
@[go_sem]theorem aal(cs:List AV):bw (.agg cs)=true:=rfl
@[go_sem]theorem aaq(cs:List AV):bw (.iP cs)=true:=rfl
@[go_sem]theorem aci(f:Nat)(x y:List AV):bw (.fn f x y)=true:=rfl
@[go_sem]theorem acP(z:List AV)(m:Bool)(x:IX):rdO (.kN z m x)=true:=rfl
attribute[go_sem] WS.eq_1 WS.eq_2 WS.eq_3 Qg.eq_1 Qg.eq_2 Qg.eq_3 K5.eq_1 K5.eq_2 qK.eq_1 qK.eq_2 qK.eq_3 Oq.eq_1 DY.eq_1 DY.eq_2 aiM.eq_1
end
@[go_sem]theorem Xx(b:Bool):dY (.bool b)=.bool b:=rfl
@[go_sem]theorem Za(k:IntKind)(n:Int):dY (.int k n)=.int k n:=rfl
@[go_sem]theorem Zd(s:List UInt8):dY (.str s)=.str s:=rfl
@[go_sem]theorem Xz:dY (.fj)=.fj:=rfl
@[go_sem]theorem Zc(b o:Nat):dY (.ref b o)=.ref b o:=rfl
@[go_sem]theorem Zb(cs:List AV):dY (.loc cs)=.loc cs:=rfl
@[go_sem]theorem abM(o:Bool)(z n:Nat)(cs:List AV):dY (.sl o z n cs)=.sl o z n cs:=rfl
@[go_sem]theorem Y9(b o l c:Nat):dY (.arr b o l c)=.arr b o l c:=rfl
@[go_sem]theorem abL(f:Nat)(x y:List AV):dY (.fn f x y)=.fn f x y:=rfl
@[go_sem]theorem ahI{α:Type}(a b:α):(bif true then a else b)=a:=rfl
@[go_sem]theorem ahH{α:Type}(a b:α):(bif false then a else b)=b:=rfl
attribute[go_sem] Ua.eq_1 Ua.eq_2 Ua.eq_3 Qk.eq_1 Qk.eq_2 Qk.eq_3 zN.eq_1 zN.eq_2 zN.eq_3 jl.eq_1 jl.eq_2 jl.eq_3 jl.eq_4 jl.eq_5 jl.eq_6 jl.eq_7 jl.eq_8 jl.eq_9 jl.eq_10 jl.eq_11 jl.eq_12 jl.eq_13 jl.eq_14 jl.eq_15 jl.eq_16 SE.eq_1 GP.eq_1 YD.eq_1 YD.eq_2 uV.eq_1 mi.eq_1 mi.eq_2 vj.eq_1 lD.eq_1 Pw.eq_1 aeI.eq_1 gj.eq_1 gj.eq_2 gj.eq_3 gj.eq_4 jJ.eq_1 jJ.eq_2 fT.eq_1 fT.eq_2 fT.eq_3 fT.eq_4 B4.eq_1 zw.eq_1 uv.eq_1 uv.eq_2 zx.eq_1 lI.eq_1 Mx.eq_1 Bu.eq_1 Bu.eq_2 Bu.eq_3 Bu.eq_4 Bu.eq_5 u5.eq_1 JY.eq_1 pP.eq_1 Ca.eq_1 KO.eq_1 KO.eq_2 ny.eq_1 ny.eq_2 lr.eq_1 su.eq_1 rd.eq_1 rd.eq_2 rd.eq_3 rd.eq_4 kO.eq_1 kO.eq_2 Tr.eq_1 yb.eq_1 kq.eq_1 kq.eq_2 BP.eq_1 pN.eq_1 ze.eq_1 okV.eq_1 okV.eq_2 xb.eq_1 OT.eq_1 cq.eq_1 cq.eq_2 uZ.eq_1 sJ.eq_1 Qz.eq_1 e7.eq_1 iX.eq_1 wrL.eq_1 wrS.eq_1 OL.eq_1 TV.eq_1 agk.eq_1 Lw.eq_1 Lw.eq_2 Lw.eq_3 LK.eq_1 LK.eq_2 L7.eq_1 EL.eq_1 EL.eq_2 EL.eq_3 Q3.eq_1 Q3.eq_2 sc.eq_3 sc.eq_4 sc.eq_5 sc.eq_6 sc.eq_7 sc.eq_12 sc.eq_13 sc.eq_14 sc.eq_15 sc.eq_16 sc.eq_17 Ju.eq_1 Ju.eq_2 Ju.eq_3 Ju.eq_4 Ju.eq_5 Ju.eq_6 Ju.eq_7 kk pv.eq_1 pv.eq_2 pv.eq_3 pv.eq_4 pv.eq_5 pv.eq_6 pv.eq_7 pv.eq_8 pv.eq_9 pv.eq_10 pv.eq_11 pv.eq_12 pv.eq_13 pv.eq_14 pv.eq_15 pv.eq_16 pv.eq_17 pv.eq_18 pv.eq_19 pv.eq_20 pv.eq_21 pv.eq_22 pv.eq_23 pv.eq_24 pv.eq_25 fill.eq_1 fill.eq_2
attribute[go_sem] Xq ckP xg St.vU St.ed TU iq Px Sf Xh Xi I3 Nq St.drain
attribute[go_sem] Bool.true_or Bool.or_true Bool.or_false Bool.false_or
attribute[go_sem] bne_self_eq_false Bool.bne_true Bool.bne_false implies_true decide_true decide_false Bool.true_and Bool.and_true Bool.false_and Bool.and_false Bool.not_true Bool.not_false Bool.false_eq_true true_and List.length_cons List.length_nil List.map_cons List.map_nil List.all_nil List.all_cons List.drop_zero List.drop_succ_cons List.take_zero List.take_succ_cons Nat.zero_add List.cons_append List.nil_append List.getElem?_cons_zero List.getElem?_cons_succ
end
theorem VR.mono{w w':World}{R R':Nat->Nat}(hR:∀b,R b<=R' b)(hs:∀b k,k<R b->w'.cell? ⟨b,k,none⟩=w.cell? ⟨b,k,none⟩){a:AV}{v:Value}(h:VR w R a v):VR w' R' a v:=by
 induction h with
 |undef v=>exact .undef v
 |bool b=>exact .bool b
 |int k n=>exact .int k n
 |str s=>exact .str s
 |fj=>exact .fj
 |ref b off=>exact .ref b off
 |sp cs b off u hf hR' hc _ ih=>
  refine .sp cs b off u hf (Nat.le_trans hR' (hR b)) (fun j c hj=>?_) ih
  grind
 |slnil own sz=>exact .slnil own sz
 |sle sz a cap=>exact .sle sz a cap
 |sl own sz n cs b off cap u hf hl hR' fL hc _ ih=>
  refine .sl own sz n cs b off cap u hf hl (Nat.le_trans hR' (hR b)) fL (fun j c hj=>?_) ih
  grind
 |arr b off len cap=>exact .arr b off len cap
 |Hn b off=>exact .Hn b off
 |agg cs vs hf hl _ ih=>exact .agg cs vs hf hl ih
 |iP cs vs hl _ ih=>exact .iP cs vs hl ih
 |fn f first gh vf vc hl _ hl' _ ih ih'=>exact .fn f first gh vf vc hl ih hl' ih'
 |py=>exact .py
 |mp b=>exact .mp b
 |one v h=>exact .one v h
 |m6 t=>exact .m6 t
 |kQ=>exact .kQ
 |bb t n cs v _ h0 ih=>exact .bb t n cs v ih h0
 |ud=>exact .ud
 |when b a v _ ih=>exact .when b a v ih
theorem aK.R{G G':Gh}{w w':World}(h:aK G w G' w')(hg:cE G w):∀b,G.R b<=G'.R b:=fun b=>by
 rcases Nat.lt_or_ge b w.heap.size with hb|hb
 ·exact h.mono b hb
 ·rw[hg.mn b hb];grind
theorem aK.cells{G G':Gh}{w w':World}(h:aK G w G' w')(hg:cE G w):∀b k,k<G.R b->w'.cell? ⟨b,k,none⟩=w.cell? ⟨b,k,none⟩:=fun b k hk=>by
 rcases Nat.lt_or_ge b w.heap.size with hb|hb
 ·exact h.mJ b k hb hk
 ·rw[hg.mn b hb]at hk;omega
theorem aK.vr{G G':Gh}{w w':World}(h:aK G w G' w')(hg:cE G w){a:AV}{v:Value}(hv:VR w G.R a v):VR w' G'.R a v:=hv.mono (h.R hg) (h.cells hg)
theorem aK.refl(G:Gh)(w:World):aK G w G w:=⟨rfl,rfl,rfl,Nat.le_refl _,Nat.le_refl _,fun _ _=>Nat.le_refl _,fun _ _ _ _=>rfl,fun _ _ _=>rfl,fun _ _ h=>⟨h,rfl⟩,fun _ _ h=>⟨h,rfl⟩⟩
theorem aK.trans{G₁ G₂ G₃:Gh}{w₁ w₂ w₃:World}(h:aK G₁ w₁ G₂ w₂)(k:aK G₂ w₂ G₃ w₃):aK G₁ w₁ G₃ w₃ where
 os:=k.os.trans h.os
 tape:=k.tape.trans h.tape
 output:=k.output.trans h.output
 drawn:=Nat.le_trans h.drawn k.drawn
 size:=Nat.le_trans h.size k.size
 mono:=fun b hb=>Nat.le_trans (h.mono b hb) (k.mono b (Nat.lt_of_lt_of_le hb h.size))
 mJ:=fun b j hb hj=>(k.mJ b j (Nat.lt_of_lt_of_le hb h.size) (Nat.lt_of_lt_of_le hj (h.mono b hb))).trans (h.mJ b j hb hj)
 frame:=fun b hb ho=>by
  refine(k.frame b (Nat.lt_of_lt_of_le hb h.size) ?_).trans (h.frame b hb ho)
  rcases ho with ho|ho
  ·exact .inl (h.jr b hb ho).1
  ·exact .inr (h.qu b hb ho).1
 jr:=fun b hb ho=>
  let⟨o2,r2⟩:=h.jr b hb ho
  let⟨o3,r3⟩:=k.jr b (Nat.lt_of_lt_of_le hb h.size) o2
  ⟨o3,r3.trans r2⟩
 qu:=fun b hb ho=>
  let⟨o2,r2⟩:=h.qu b hb ho
  let⟨o3,r3⟩:=k.qu b (Nat.lt_of_lt_of_le hb h.size) o2
  ⟨o3,r3.trans r2⟩
theorem dy.mono{G G':Gh}{w w':World}{o:cZ}{a:AV}{v:Value}(h:dy G w o a v)(hb:∀b,G.O b=o->G'.O b=o/\G'.R b=G.R b/\w'.heap[b]? =w.heap[b]?):dy G' w' o a v:=by
 unfold dy at*
 split
 ·grind
 ·grind
 ·trivial
theorem Fl.views{cs:List AV}(h:Fl cs):Fl (views cs):=by
 intro c hc
 simp only[AB.views,List.mem_map]at hc
 obtain⟨c',h1,rfl⟩:=hc
 have:=h c' h1
 cases c'<;>simp_all [pQ,dp,AB.view]
theorem AK.views{t:Nat}{cs:List AV}(h:AK t cs):Fl (AB.views cs):=by
 intro c hc
 simp only[AB.views,List.mem_map]at hc
 obtain⟨c',h1,rfl⟩:=hc
 rcases h c' h1 with h|rfl
 ·cases c'<;>simp_all [pQ,dp,AB.view]
 ·rfl
theorem AK.flat{t:Nat}{cs:List AV}(h:AK t cs)(hv:AB.views cs=cs):Fl cs:=hv▸h.views
theorem AK.left{t:Nat}{cs sp:List AV}(h:AK t (cs++sp)):AK t cs:=fun c hc=>h c (List.mem_append_left _ hc)
theorem Fl.tag{cs:List AV}(h:Fl cs)(t:Nat):AK t cs:=fun c hc=>.inl (h c hc)
theorem AK.sub{t:Nat}{cs:List AV}(h:AK t cs)(off n:Nat):AK t (AB.sub cs off n):=fun c hc=>h c (List.mem_of_mem_drop (List.mem_of_mem_take hc))
theorem AK.drop{t:Nat}{cs:List AV}(h:AK t cs)(off:Nat):AK t (cs.drop off):=fun c hc=>h c (List.mem_of_mem_drop hc)
theorem Fl.sub{cs:List AV}(h:Fl cs)(off n:Nat):Fl (sub cs off n):=fun c hc=>h c (List.mem_of_mem_drop (List.mem_of_mem_take hc))
theorem Fl.drop{cs:List AV}(h:Fl cs)(off:Nat):Fl (cs.drop off):=fun c hc=>h c (List.mem_of_mem_drop hc)
theorem Fl.nil:Fl []:=fun c hc=>by simp at hc
theorem dy.view(G:Gh)(w:World)(o:cZ)(a:AV)(v:Value):dy G w o (view a) v:=by cases a<;>first|trivial|(rename_i own sz n cs;simp[AB.view,dy])
theorem VR.view{w:World}{R:Nat->Nat}{a:AV}{v:Value}(h:VR w R a v):VR w R (view a) v:=by
 cases h with
 |slnil own sz=>exact .slnil false sz
 |sle sz a cap=>exact .sle sz a cap
 |sl own sz n cs b off cap u hf hl hR fL hc hr=>exact .sl false sz n cs b off cap u hf hl hR fL hc hr
 |undef v=>exact .undef v
 |bool b=>exact .bool b
 |int k n=>exact .int k n
 |str s=>exact .str s
 |fj=>exact .fj
 |ref b off=>exact .ref b off
 |sp cs b off u hf hR hc hr=>exact .sp cs b off u hf hR hc hr
 |arr b off len cap=>exact .arr b off len cap
 |Hn b off=>exact .Hn b off
 |agg cs vs hf hl hr=>exact .agg cs vs hf hl hr
 |iP cs vs hl hr=>exact .iP cs vs hl hr
 |fn f first gh vf vc hl hr hl' hr'=>exact .fn f first gh vf vc hl hr hl' hr'
 |py=>exact .py
 |mp b=>exact .mp b
 |one v h=>exact .one v h
 |m6 t=>exact .fj
 |kQ=>exact .kQ
 |bb t n cs v h h0=>
  cases h with
  |slnil=>exact .slnil false 1
  |sl _ _ _ _ b off cap u hf hl hR fL hc hr=>exact .sl false 1 n cs b off cap u hf hl hR fL hc hr
 |ud=>exact .ud
 |when b a v h=>exact .when b a v h
theorem dq.mono{G G':Gh}{w w':World}{o:Nat->cZ}{cs:List AV}{c:Array Value}(h:dq G w o cs c)(hv:∀a v,VR w G.R a v->VR w' G'.R a v)
 (hb:∀b j,G.O b=o j->G'.O b=o j/\G'.R b=G.R b/\w'.heap[b]? =w.heap[b]?):dq G' w' o cs c:=
 ⟨h.1,fun j x y hx hy=>⟨hv _ _ (h.2 j x y hx hy).1,(h.2 j x y hx hy).2.mono fun b=>hb b j⟩⟩
theorem dc.pz{G:Gh}{w:World}{e:List (Nat×AV)}{tmps:Array Value}{i:Nat}{a:AV}{v:Value}(h:dp a=true):dc G w e tmps i a v↔(VR w G.R a v/\dy G w (.slot i 0) a v):=by cases a<;>simp_all [dp,dc]
theorem dc.zf{G:Gh}{w:World}{e:List (Nat×AV)}{tmps:Array Value}{i:Nat}{a:AV}{v:Value}(h:dp a=true)(hv:VR w G.R a v):dc G w e tmps i (view a) v:=by
 have h':dp (view a)=true:=by cases a<;>simp_all [dp,view]
 rw[dc.pz h']
 exact⟨hv.view,dy.view ..⟩
theorem dc.vr{G:Gh}{w:World}{e:List (Nat×AV)}{tmps:Array Value}{i:Nat}{a:AV}{v:Value}(h:dp a=true)(hs:dc G w e tmps i a v):VR w G.R a v:=((dc.pz h).1 hs).1
theorem dc.frame{G G':Gh}{w w':World}{e e':List (Nat×AV)}{tmps OI:Array Value}{i:Nat}
 (hv:∀a v,VR w G.R a v->VR w' G'.R a v)
 (xj:∀b,(∃j,G.O b=.slot i j)\/G.O b=.loc i->G'.O b=G.O b/\G'.R b=G.R b/\w'.heap[b]? =w.heap[b]?)
 (fB:∀b c j,G.O b=.loc i->G.O c=.cell b j->G'.O c=.cell b j/\G'.R c=G.R c/\w'.heap[c]? =w.heap[c]?):
 ∀(a:AV)(v:Value)(_:∀d,bD a d->∀cs,look e' d=.loc cs->∃cs',look e d=.loc cs'/\OI[d]? =tmps[d]?)
  (_:dc G w e tmps i a v),dc G' w' e' OI i a v
 |.loc cs,v,_,h=>by
  obtain⟨b,c,t,h1,h2,h3,h4,h5,h6⟩:=h
  obtain⟨k1,k2,k3⟩:=xj b (.inr h2)
  exact⟨b,c,t,h1,k1.trans h2,k2.trans h3,k3.trans h4,h5.mono hv fun c j hc=>fB b c j h2 hc,h6⟩
 |.lp d off,v,hlp,h=>by
  obtain⟨b,h3,h4⟩:=h
  refine⟨b,h3,fun cs hcs=>?_⟩
  obtain⟨cs',h1,h2⟩:=hlp d rfl cs hcs
  grind
 |.iP vs,v,_,h=>by
  obtain⟨ys,h1,h2⟩:=h
  exact⟨ys,h1,h2.mono hv fun b j hb=>by grind⟩
 |.when b a,v,hlp,h=>⟨fun hb=>dc.frame hv xj fB a v hlp (h.1 hb),h.2⟩
 |.us sz n cs,v,_,h=>by
  rcases h with h|⟨b,cap,c,t,sp,h1,h2,h3,h4,h5,h6,h7,h8,h9,h10,h11⟩
  ·exact .inl h
  ·obtain⟨k1,k2,k3⟩:=xj b (.inl ⟨_,h4⟩)
   exact .inr ⟨b,cap,c,t,sp,h1,h2,h3,k1.trans h4,k2.trans h5,k3.trans h6,h7,h8,h9,fun j x u hx hu=>hv _ _ (h10 j x u hx hu),h11⟩
 |.undef,v,_,h|.bool _,v,_,h|.int _ _,v,_,h|.str _,v,_,h|.fj,v,_,h|.ref _ _,v,_,h|.sp _,v,_,h|.sl _ _ _ _,v,_,h|.arr _ _ _ _,v,_,h|.agg _,v,_,h
 |.fn _ _ _,v,_,h|.py,v,_,h|.mp _,v,_,h|.ud,v,_,h|.one,v,_,h|.m6 _,v,_,h|.kQ,v,_,h|.bb _ _ _,v,_,h=>by
  refine⟨hv _ _ h.1,h.2.mono fun b hb=>?_⟩
  grind
theorem aX(j i:Nat)(a:AV)(l:List (Nat×AV)):look ((j,a)::l) i=if j=i then a else look l i:=by grind [look]
theorem Inv.put{G G':Gh}{n:Nat}{D:List Deferred}{E:St}{s':ae}{lp':List (Nat×Nat)}{a:Act}{w w':World}(h:Inv G n D E a w)(d:Option Nat)(hd:∀i,d=some i->i<n)(av:AV)(v:Value)
 (jt:cE G' w')(cz:aK G w G' w')(eM:bc G' w' s')
 (hlp:∀x∈E.lp,x∈lp')(adW:∀i t,d=some i->bD av t->(i,t)∈lp')
 (XG:∀i t,d=some i->(∃cs,av=.loc cs)->(t,i)∉E.lp)
 (xj:∀i b,d≠some i->(∃j,G.O b=.slot i j)\/G.O b=.loc i->G'.O b=G.O b/\G'.R b=G.R b/\w'.heap[b]? =w.heap[b]?)
 (fB:∀i b c j,d≠some i->G.O b=.loc i->G.O c=.cell b j->G'.O c=.cell b j/\G'.R c=G.R c/\w'.heap[c]? =w.heap[c]?)
 (adY:∀i,d=some i->dc G' w' ((E.put d av).e) (a.put d v).tmps i av v):
 Inv G' n D {(E.put d av)with s:=s',lp:=lp'} (a.put d v) w':=by
 cases d with
 |none=>
  refine⟨jt,eM,h.size,fun i u hu=>?_,h.EI,fun i t ht=>hlp _ (h.LA i t ht),h.pO⟩
  exact dc.frame (fun _ _ hv=>cz.vr h.bj hv) (fun b=>xj i b (by simp)) (fun b c j=>fB i b c j (by simp)) _ _ (fun t _ cs hcs=>⟨cs,hcs,rfl⟩) (h.cm i u hu)
 |some d=>
  refine⟨jt,eM,by simp[Act.put,h.size],fun i u hu=>?_,fun i hi=>?_,fun i t ht=>?_,h.pO⟩
  ·by_cases hid:d=i
   ·subst hid
    have hu':u=v:=by
     have hlt:d<a.tmps.size:=by rw[h.size];exact hd d rfl
     simp[Act.put,hlt]at hu
     exact hu.symm
    subst hu'
    have:look (E.put (some d) av).e d=av:=by simp[St.put,aX]
    grind
   ·have hne:(some d:Option Nat)≠some i:=fun e=>hid (Option.some.inj e)
    have hu':a.tmps[i]? =some u:=by simpa[Act.put,Array.getElem?_setIfInBounds_ne hid]using hu
    have:look (E.put (some d) av).e i=look E.e i:=by simp[St.put,aX,hid]
    show dc G' w' (E.put (some d) av).e _ i (look (E.put (some d) av).e i) u
    rw[this]
    refine dc.frame (fun _ _ hv=>cz.vr h.bj hv) (fun b=>xj i b hne) (fun b c j=>fB i b c j hne) _ _ (fun t ht cs hcs=>?_) (h.cm i u hu')
    have CY:=h.LA i t ht
    by_cases hdt:d=t
    ·subst hdt
     simp only[St.put,aX,if_true]at hcs
     grind
    grind [St.put,aX,Act.put,Array.getElem?_setIfInBounds_ne]
  ·have:d≠i:=by have:=hd d rfl;omega
   simp[St.put,aX,this,h.EI i hi]
  ·by_cases hid:d=i
   ·subst hid
    simp only[St.put,aX,if_true]at ht
    grind
   ·simp only[St.put,aX,hid,if_false]at ht
    exact hlp _ (h.LA i t ht)
def cR:Value->AV->Bool
 |.bool a,.bool b=>a==b
 |.int k n,.int k' m=>decide (k=k')&&n==m
 |.string s,.str t=>s.data.toList==t
 |.pointer none,.fj=>true
 |.slice none 0 0,.sl _ _ 0 []=>true
 |.slice none 0 0,.arr _ _ 0 0=>true
 |.slice none 0 0,.bb _ 0 []=>true
 |.map none,.ud=>true
 |.nilFunc,.py=>true
 |.nilIface,.kQ=>true
 |_,_=>false
def LP:List Value->List AV->Bool
 |[],[]=>true
 |v::vs,a::as=>cR v a&&LP vs as
 |_,_=>false
def bQ:Operand->IX->Bool
 |.tmp t,.t i=>t==i
 |.const (.agg vs),.c (.agg cs)=>LP vs.toList cs
 |.const v,.c a=>cR v a
 |.func f,.c (.fn g [] [])=>f==g
 |_,_=>false
def iI:List Operand->List IX->Bool
 |[],[]=>true
 |o::os,x::xs=>bQ o x&&iI os xs
 |_,_=>false
def EH:Option Operand->Option IX->Bool
 |none,none=>true
 |some o,some x=>bQ o x
 |_,_=>false
section
variable(P:Program)
def dT(t:TypeId)(n:Nat):Bool:=match P.info? t with
 |some i=>i.size==n
 |none=>false
def kt(t:TypeId)(n:Nat):Bool:=match P.info? t with
 |some i=>i.bytes==n
 |none=>false
def sC(t:TypeId)(multi:Bool):Bool:=match P.underlying t with
 |some (.struct _)|some (.array _ _)=>multi
 |some _=>!multi
 |none=>false
def ot(t:TypeId)(z:List AV):Bool:=match P.info? t with
 |some i=>(match i.zero with
  |some v=>LP v.cells.toList z&&i.size==z.length
  |none=>false)
 |none=>false
def cI(t:TypeId):Option TypeId:=match P.underlying t with
 |some (.slice e)=>some e
 |_=>none
def Aq(fs:Array Field):List (Nat×Operand)->List (Nat×Nat×IX)->Bool
 |[],[]=>true
 |(i,o)::r,(off,n,x)::s=>(match fs[i]? with
  |some f=>f.offset==off&&dT P f.type n
  |none=>false)&&bQ o x&&Aq fs r s
 |_,_=>false
def uh(sz:Nat):List (Nat×Operand)->List (Nat×Nat×IX)->Bool
 |[],[]=>true
 |(i,o)::r,(off,n,x)::s=>i*sz==off&&n==sz&&bQ o x&&uh sz r s
 |_,_=>false
def Vk(t:TypeId):Bool:=match P.underlying t with
 |some (.int _)=>true
 |_=>false
def Xg(t:TypeId):Bool:=match P.underlying t with
 |some .bool=>true
 |_=>false
def M8(t:TypeId):Bool:=match P.underlying t with
 |some .string=>true
 |_=>false
def afd(t:TypeId):Bool:=match P.underlying t with
 |some (.pointer e)=>(P.info? e).isSome
 |_=>false
def zD(e:TypeId)(sz:Nat):Bool:=match P.info? e with
 |some i=>(match i.zero with
  |some v=>v.cells.size==sz&&v.cells.toList.all Value.oneCell'
  |none=>false)
 |none=>false
def Qq(b:Builtin)(c:Call):Option (List Operand×List TypeId):=match c.callee with
 |.builtin b'=>if b'=b then some (c.args.toList,c.argTypes.toList)else none
 |_=>none
def aey(t:TypeId)(cls:Nat):Bool:=match P.underlying t with
 |some (.slice _)=>cls==0
 |some .string=>cls==1
 |some (.map _ _)=>cls==2
 |_=>false
def ahz(t:TypeId)(n:Nat):Bool:=match P.underlying t with
 |some (.array m _)=>n==m
 |_=>false
def aj8(t:TypeId):EF->Bool
 |.int k=>(match P.underlying t with|some (.int k')=>Vz k k'|_=>false)
 |.str=>(match P.underlying t with|some .string=>true|_=>false)
 |.bool=>(match P.underlying t with|some .bool=>true|_=>false)
 |.bytes n=>(match P.underlying t with
  |some (.array m e)=>m==n&&(match P.underlying e with|some (.int .u8)=>true|_=>false)&&dT P e 1
  |_=>false)
def ai3(t:TypeId)(z:AV):Bool:=match P.info? t with
 |some i=>(match i.zero with
  |some v=>(match z,v with
   |.agg cs,.agg vs=>LP vs.toList cs
   |z,v=>cR v z)
  |none=>false)
 |none=>false
def F7:List Field->Nat->Bool
 |[],_=>true
 |f::r,k=>f.name != "_" &&f.offset==k&&Vk P f.type&&sC P f.type false&&F7 r (k+1)
def abl(t:TypeId)(n:Nat):Bool:=match P.underlying t with
 |some (.struct fs)=>F7 P fs.toList 0&&fs.size==n&&!P.stoodInHeld t&&!P.eqGuardType P.depth t
 |_=>false
def aA(op:Op)(_ty:TypeId)(o:rY):Bool:=
 match o,op with
 |.oM _ x,.move y=>bQ y x
 |.oM _ x,.assign y=>bQ y x
 |.pick c x y,.pick c' x' y'=>bQ c' c&&bQ x' x&&bQ y' y
 |.jq z,.alloc t=>ot P t z
 |.mC z,.alloc t=>ot P t z
 |.Jw n x,.box t y=>dT P t n&&bQ y x
 |.Bd n x,.box t y=>dT P t n&&bQ y x
 |.build z ps,.build t qs=>ot P t z&&(match P.underlying t with
  |some (.struct fs)=>Aq P fs qs.toList ps&&fs.all fun f=>(P.info? f.type).isSome
  |some (.array _ e)=>(match P.info? e with
   |some i=>uh i.size qs.toList ps
   |none=>false)
  |_=>false)
 |.gr sz n z ps,.buildSlice t m qs=>n==m&&(match cI P t with
  |some e=>dT P e sz&&decide (0<sz)&&uh sz qs.toList ps&&decide (n*sz<=2^24)&&(match P.info? e with
   |some i=>(match i.zero with
    |some v=>LP ((List.replicate n v.cells.toList).flatten) z&&v.cells.size==sz
    |none=>false)
   |none=>false)
  |none=>false)
 |.kN z multi x,.load t y=>dT P t z.length&&sC P t multi&&(multi||z.length==1)&&bQ y x
 |.qt x,.move y=>bQ y x
 |.qt x,.assign y=>bQ y x
 |.kz (.t i),.convert s t y=>bQ y (.t i)&&s==t&&(match P.underlying s with
  |some (.slice e)=>(match P.underlying e with|some (.int .u8)=>true|_=>false)
  |_=>false)
 |.load n multi x,.load t y=>dT P t n&&sC P t multi&&(multi||n==1)&&bQ y x
 |.store n p v,.store t q u=>dT P t n&&bQ q p&&bQ u v
 |.nilCheck x,.nilCheck y=>bQ y x
 |.bin bo x y,.binOp b _ u v _=>decide (bo=b)&&bQ u x&&bQ v y
 |.XD ne x y,.binOp b t u v _=>decide (b=if ne then .neq else .eql)&&bQ u x&&bQ v y&&Xg P t
 |.T5 ne x y,.binOp b t u v _=>decide (b=if ne then .neq else .eql)&&bQ u x&&bQ v y&&afd P t
 |.T6 ne x y,.binOp b t u v _=>decide (b=if ne then .neq else .eql)&&bQ u x&&bQ v y&&(cI P t).isSome
 |.un uo x,.unOp u _ y=>decide (uo=u)&&bQ y x
 |.mF k x,.convert s t y=>bQ y x&&(match P.underlying s,P.underlying t with
  |some (.int _),some (.int k')=>decide (k=k')
  |_,_=>false)
 |.jG x,.convert s t y=>bQ y x&&(match P.underlying s,P.underlying t with
  |some (.slice e),some .string=>(match P.underlying e with|some (.int .u8)=>true|_=>false)
  |_,_=>false)
 |.gy x,.convert s t y=>bQ y x&&(match P.underlying s,P.underlying t with
  |some .string,some (.slice e)=>(match P.underlying e with|some (.int .u8)=>true|_=>false)
  |_,_=>false)
 |.kX x i,.index t y j=>bQ y x&&bQ j i&&M8 P t
 |.fieldAddr off x,.fieldAddr t y i=>bQ y x&&(match P.underlying t with
  |some (.struct fs)=>(match fs[i]? with
   |some f=>f.offset==off&&(match P.info? f.type with|some j=>decide (0<j.size)|none=>false)
   |none=>false)
  |_=>false)
 |.indexAddr z x i,.indexAddr t y j=>bQ y x&&bQ j i&&(match cI P t with
  |some e=>dT P e z.length
  |none=>false)
 |.iQ sz len x i,.indexAddr t y j=>bQ y x&&bQ j i&&(match P.underlying t with
  |some (.array l e)=>l==len&&dT P e sz
  |_=>false)
 |.slice sz x lo hi mx,.slice t y l h m=>bQ y x&&EH l lo&&EH h hi&&EH m mx&&(match cI P t with
  |some e=>dT P e sz
  |none=>false)
 |.pC x lo hi,.slice t y l h none=>bQ y x&&EH l lo&&EH h hi&&M8 P t
 |.extract x k,.extract y j=>bQ y x&&k==j
 |.len cls x,.call c=>(match Qq .len c with
  |some (y::_,t::_)=>bQ y x&&aey P t cls
  |_=>false)
 |.cap x,.call c=>(match Qq .cap c with
  |some (y::_,t::_)=>bQ y x&&(cI P t).isSome
  |_=>false)
 |.nY true xs,.call c=>(match Qq .max c with
  |some (ys,_)=>iI ys xs
  |_=>false)
 |.nY false xs,.call c=>(match Qq .min c with
  |some (ys,_)=>iI ys xs
  |_=>false)
 |.append sz by' x y,.call c=>(match Qq .append c with
  |some ([u,v],[t,t'])=>bQ u x&&bQ v y&&(match cI P t with
   |some e=>dT P e sz&&kt P e by'&&decide (0<sz)&&decide (0<by')&&zD P e sz&&((cI P t').isSome||M8 P t')
   |none=>false)
  |_=>false)
 |.kP sz by' z l c,.makeSlice t l' c'=>bQ l' l&&bQ c' c&&(match cI P t with
  |some e=>dT P e sz&&kt P e by'&&ot P e z&&decide (0<sz)&&decide (0<by')
  |none=>false)
 |.call f args,.call c=>(match c.callee with
  |.value (.func g)=>f==g&&iI c.args.toList args&&(match P.funcs[f]? with
   |some fn=>fn.name != "runtime.NumGoroutine" &&fn.body.isSome
   |none=>false)
  |_=>false)
 |.gw x args,.call c=>(match c.callee with
  |.value y=>bQ y x&&iI c.args.toList args
  |_=>false)
 |.ub f a b,.makeFunc (.func g) c d=>f==g&&iI c.toList a&&iI d.toList b
 |.ks sz n z ps,.buildSlice t m qs=>n==m&&(match cI P t with
  |some e=>dT P e sz&&decide (0<sz)&&uh sz qs.toList ps&&decide (n*sz<=2^24)&&(match P.info? e with
   |some i=>(match i.zero with
    |some v=>LP ((List.replicate n v.cells.toList).flatten) z&&v.cells.size==sz
    |none=>false)
   |none=>false)
  |none=>false)
 |.mZ sz by' z x y,.call c=>(match Qq .append c with
  |some ([u,v],[t,t'])=>bQ u x&&bQ v y&&(match cI P t with
   |some e=>dT P e sz&&kt P e by'&&decide (0<sz)&&decide (0<by')&&zD P e sz&&ot P e z&&((cI P t').isSome||M8 P t')
   |none=>false)
  |_=>false)
 |.m4 sz by' z x y,.call c=>(match Qq .append c with
  |some ([u,v],[t,t'])=>bQ u x&&bQ v y&&Vk P t'&&(match cI P t with
   |some e=>dT P e sz&&kt P e by'&&decide (0<sz)&&decide (0<by')&&ot P e z
   |none=>false)
  |_=>false)
 |.qU z x,.call c=>(match Qq .clear c with
  |some (u::_,t::_)=>bQ u x&&(match cI P t with
   |some e=>ot P e z
   |none=>false)
  |_=>false)
 |.zd _ _ x,.load t y=>dT P t 1&&sC P t false&&bQ y x
 |.T7 _ _ x,.move y=>bQ y x
 |.T7 _ _ x,.assign y=>bQ y x
 |.mh x,.load t y=>(cI P t).isSome&&dT P t 1&&sC P t false&&bQ y x
 |.mW _ _ x,.load t y=>(cI P t).isSome&&dT P t 1&&sC P t false&&bQ y x
 |.UR ne x,.binOp b t u v _=>decide (b=if ne then .neq else .eql)&&bQ u x&&(match v with|.const (.slice none 0 0)=>true|_=>false)&&(cI P t).isSome
 |.ye f i args,.call c=>args.any (fun x=>match x with|.t j=>j==i|_=>false)&&(match c.callee with
  |.value (.func g)=>f==g&&iI c.args.toList args&&(match P.funcs[f]? with
   |some fn=>fn.name != "runtime.NumGoroutine" &&fn.body.isSome
   |none=>false)
  |_=>false)
 |.UQ ne x,.binOp b t u v _=>decide (b=if ne then .neq else .eql)&&bQ u x&&(match v with|.const .nilIface=>true|_=>false)&&(match P.underlying t with|some (.interface _)=>true|_=>false)
 |.HD x,.convert s t y=>bQ y x&&(match P.underlying s with|some (.pointer e)=>(match P.info? e with|some j=>j.size !=0|none=>false)|_=>false)&&(match P.underlying t with|some .unsafePointer=>true|_=>false)
 |.HC u x,.convert s t y=>bQ y x&&(match P.underlying s with|some .unsafePointer=>true|_=>false)&&(match P.underlying t with|some (.pointer e)=>e==u&&(P.info? e).isSome|_=>false)
 |.yf f x,.call c=>(match c.callee with
  |.value (.func g)=>f==g&&iI c.args.toList [x]
  |_=>false)
 |.Hp n t j u x,.box t' y=>t==t'&&dT P t n&&bQ y x
 |.m3 u x y,.call c=>(match Qq .append c with
  |some ([p,q],[t,t'])=>bQ p x&&bQ q y&&(match cI P t with
   |some e=>dT P e 1&&kt P e 1&&zD P e 1&&((cI P t').isSome||M8 P t')&&e==u
   |none=>false)
  |_=>false)
 |.Ho _ n x,.box t y=>dT P t n&&bQ y x
 |_,_=>false
def UB(ops:Array Oper):Option (Nat×Bool)->Option (Nat×Bool)->Bool
 |none,none=>true
 |some (j,w),some (t,w')=>w==w'&&((ops[j]?).bind (·.dst))==some t
 |_,_=>false
def bC(n:Nat):Option Nat->Bool
 |none=>true
 |some d=>decide (d<n)
def g9(n:Nat)(ops:Array Oper)(o:Oper)(o':au):Bool:=o.dst==o'.dst&&bC n o'.dst&&UB ops o.guard o'.g&&aA P o.op o.type o'.op
def cu(n:Nat)(ops:Array Oper):List Oper->List au->Bool
 |[],[]=>true
 |o::r,o'::r'=>g9 P n ops o o'&&cu n ops r r'
 |_,_=>false
def oX:Option IX->List IX
 |some x=>[x]
 |none=>[]
def eK:rY->List IX
 |.oM _ x|.Jw _ x|.Bd _ x|.load _ _ x|.nilCheck x|.un _ x|.mF _ x|.jG x|.gy x|.fieldAddr _ x|.extract x _|.len _ x|.cap x|.kN _ _ x|.kz x|.qt x|.qU _ x|.T7 _ _ x|.zd _ _ x|.mh x|.UR _ x|.UQ _ x|.HD x|.yf _ x|.HC _ x|.Hp _ _ _ _ x|.Ho _ _ x=>[x]
 |.mW _ j x=>[j,x]
 |.pick c x y=>[c,x,y]
 |.jq _|.mC _=>[]
 |.build _ ps|.gr _ _ _ ps|.ks _ _ _ ps=>ps.map fun p=>p.2.2
 |.store _ x y|.bin _ x y|.XD _ x y|.T5 _ x y|.T6 _ x y|.kX x y|.indexAddr _ x y|.iQ _ _ x y|.append _ _ x y|.m3 _ x y|.kP _ _ _ x y|.mZ _ _ _ x y|.m4 _ _ _ x y=>[x,y]
 |.slice _ x lo hi mx=>x::(oX lo++(oX hi++oX mx))
 |.pC x lo hi=>x::(oX lo++oX hi)
 |.nY _ xs=>xs
 |.call _ xs|.ye _ _ xs=>xs
 |.gw x xs=>x::xs
 |.ub _ xs ys=>xs++ys
def BT:List IX->List Nat
 |[]=>[]
 |.t i::r=>i::BT r
 |.c _::r=>BT r
def Zi:Option (Nat×Bool)->List Nat
 |some (t,_)=>[t]
 |none=>[]
def cm(o:au):List Nat:=Zi o.g++BT (eK o.op)
def gV(d:Option Nat)(l:List Nat):Bool:=match d with
 |some d=>!l.contains d
 |none=>true
def jC(o:au)(i:Nat):Bool:=match o.op with
 |.oM true (.t j)=>j==i
 |_=>false
def Sk(x y:au):Bool:=(cm y).all fun i=>!jC x i
def ap(x y:au):Bool:=(Sk x y&&Sk y x)&&gV x.dst (cm y)&&gV y.dst (cm x)&&(match x.dst,y.dst with
 |some i,some j=>i !=j
 |_,_=>true)
def gZ(ops:Array Oper)(j i:Nat):Bool:=match ops[j]? with
 |some o=>o.after.any fun e=>Region.binds .any e&&e.on==i
 |none=>false
def Ns(ops:Array Oper)(q:Nat):Bool:=(List.range q).all fun k=>match ops[k]? with
 |some o=>o.after.all fun e=>!Region.binds .any e||decide (e.on<k)
 |none=>false
def FZ(ops:Array Oper)(q:Nat):Bool:=q==ops.size||(List.range q).all fun k=>(List.range (q+1)).any fun m=>decide (k<m)&&gZ ops m k
def ac2(bG:List au)(i j:Nat):Bool:=match bG[i]?,bG[j]? with
 |some x,some y=>ap x y
 |_,_=>false
def Xp(ops:Array Oper)(q:Nat)(bG:List au):Bool:=(List.range q).all fun j=>(List.range j).all fun i=>gZ ops j i||ac2 bG i j
def qT(ops:Array Oper):Nat->Nat->Array Bool->Bool
 |0,_,listed=>(Region.ready .any ops listed).isEmpty
 |fuel+1,k,listed=>Region.ready .any ops listed==[k]&&qT ops fuel (k+1) (listed.setIfInBounds k true)
def pF(size q:Nat):Array Bool:=(Array.range size).map fun i=>decide (i<q)
def Nr(ops:Array Oper)(q:Nat)(bG:List au):Bool:=decide (q<=ops.size)&&(Ns ops q&&(FZ ops q&&(Xp ops q bG&&qT ops (ops.size -q) q (pF ops.size q))))
def qF(o:au):Option Nat:=match o with
 |⟨none,.store _ (.t c) _,none⟩=>some c
 |o=>o.dst
def gA(o:au)(i:Nat):Bool:=match o.op with
 |.oM true (.t j)=>j==i
 |.store _ _ (.t j)=>j==i
 |.append _ _ (.t j) _=>j==i
 |.mW _ (.t j) _=>j==i
 |_=>false
def A2(x y:au):Bool:=(cm y).all fun i=>!gA x i
def YS(o:au):Bool:=(eK o.op).all fun x=>match x with
 |.c (.lp _ _)=>false
 |.c (.when _ _)=>false
 |_=>true
def W7(x y:au):Bool:=(YS x&&YS y)&&(A2 x y&&A2 y x)&&gV (qF x) (cm y)&&gV (qF y) (cm x)&&(match qF x,qF y with
 |some i,some j=>i !=j
 |_,_=>true)
def W8(bG:List au)(i j:Nat):Bool:=match bG[i]?,bG[j]? with
 |some x,some y=>W7 x y
 |_,_=>false
def QD(ops:Array Oper)(q:Nat)(bG:List au):Bool:=(List.range q).all fun j=>(List.range j).all fun i=>gZ ops j i||W8 bG i j
def R8:rY->Bool
 |.store _ _ _=>true
 |.jq _=>true
 |.append _ _ _ _=>true
 |.mW _ _ _=>true
 |_=>false
def QC(T:List Nat)(bG:List au)(q:Nat):Bool:=(bG.take q).all fun o=>match o with
 |⟨none,.store _ (.t c) _,none⟩=>T.contains c
 |⟨some d,.jq _,none⟩=>T.contains d
 |_=>true
def Hv(T:List Nat)(ops:Array Oper)(q:Nat)(bG:List au):Bool:=decide (q<=ops.size)&&(Ns ops q&&(FZ ops q&&(QD ops q bG&&(QC T bG q&&qT ops (ops.size -q) q (pF ops.size q)))))
abbrev Item:=Nat×Nat×au
def Im(acc:List Nat)(o:Oper):Nat:=o.after.toList.foldl (fun s e=>bif Region.binds .any e then s |||(1<<<e.on)|||acc.getD e.on 0 else s) 0
def GG:List Oper->List Nat->List Nat
 |[],acc=>acc
 |o::r,acc=>GG r (acc++[Im acc o])
def YM(y x:au):Bool:=A2 y x&&gV (qF y) (cm x)&&gV x.dst (cm y)&&(match qF y,x.dst with
 |some i,some j=>i !=j
 |_,_=>true)
def Ig:au->au->Bool
 |⟨_,.load _ _ _,none⟩,⟨_,.kP _ _ _ _ _,_⟩=>true
 |⟨_,.load _ _ _,none⟩,⟨_,.mh _,_⟩=>true
 |_,_=>false
def XU(k k':Nat)(x y:au):Bool:=match k,k' with
 |0,0|0,1|1,0|1,1=>W7 x y
 |1,2=>YM x y
 |0,2=>Ig x y&&YM x y
 |_,_=>false
def zo(ops:Array Oper)(ms:List Nat)(x y:Item):Bool:=!gZ ops x.2.1 y.2.1&&(x.2.1 !=y.2.1&&((ms.getD y.2.1 0).testBit x.2.1||
 XU x.1 y.1 x.2.2 y.2.2))
def IB(ops:Array Oper)(ms:List Nat):List Item->Bool
 |[]=>true
 |x::r=>r.all (zo ops ms x)&&IB ops ms r
def Dr(T:List Nat)(n:Nat)(ops:Array Oper)(x:Item):Bool:=(match ops[x.2.1]? with
 |some o=>g9 P n ops o x.2.2&&o.after.all fun e=>!Region.binds .any e||(decide (e.on<ops.size)&&e.on !=x.2.1)
 |none=>false)&&(match x.2.2 with
 |⟨none,.store _ (.t c) _,none⟩=>decide (2<=x.1)||T.contains c
 |⟨some d,.jq _,none⟩=>T.contains d
 |_=>true)
def YW(T:List Nat)(n:Nat)(ops:Array Oper)(l:List Item):Bool:=(l.length==ops.size&&(List.range ops.size).all fun k=>l.any fun x=>x.2.1==k)&&(l.all (Dr P T n ops)&&IB ops (GG ops.toList []) l)
def Nu(ops:Array Oper)(fO:List (List Bool)):Bool:=fO.length==ops.size&&(List.range ops.size).all fun j=>
 ((fO.getD j []).length==ops.size&&(List.range ops.size).all fun i=>!((fO.getD j []).getD i false)||gZ ops j i)&&(match ops[j]? with
 |some o=>o.after.all fun e=>!Region.binds .any e||decide (e.on<j)
 |none=>false)
def AE:Code->Nat->Option (List Code×Code)
 |.seq (.label m) r,l=>if m==l then some ([],r)else none
 |.seq s c,l=>if(findLabel s l).isNone then(AE c l).map fun p=>(s::p.1,p.2)else none
 |_,_=>none
def xt:IC->Bool
 |.skip=>true
 |_=>false
def kZ(n:Nat):Code->IC->Bool
 |.skip,.skip=>true
 |.region _ ops draw,.Yo q bG _=>cu P n ops ops.toList bG&&(match q with
  |none=>!draw
  |some q=>!draw||Nr ops q bG)
 |.region _ ops draw,.S0 T q bG _=>cu P n ops ops.toList bG&&(!draw||Hv T ops q bG)
 |.region _ ops draw,.SZ T l _=>draw&&YW P T n ops l
 |.region _ ops draw,.Ta fO bG _=>draw&&(cu P n ops ops.toList bG&&Nu ops fO)
 |.seq a b,.seq a' b'=>kZ n a a'&&kZ n b b'
 |.seq a b,.join _ a' b'=>kZ n a a'&&kZ n b b'
 |.cond c a b,.cond c' a' b'=>bQ c c'&&kZ n a a'&&kZ n b b'
 |.block i b,.block j b'=>i==j&&kZ n b b'
 |.loop b,.loop _ b'=>kZ n b b'
 |.exit i,.exit j=>i==j
 |.scope c,.Ec l _ a1 a2 a3 r'=>match AE c l with
  |some ([],r)=>xt a1&&(xt a2&&(xt a3&&kZ n r r'))
  |some ([s1],r)=>kZ n s1 a1&&(xt a2&&(xt a3&&kZ n r r'))
  |some ([s1,s2],r)=>kZ n s1 a1&&(kZ n s2 a2&&(xt a3&&kZ n r r'))
  |some ([s1,s2,s3],r)=>kZ n s1 a1&&(kZ n s2 a2&&(kZ n s3 a3&&kZ n r r'))
  |_=>false
 |.scope b,.scope b'=>kZ n b b'
 |.label l,.label l'=>l==l'
 |.goto l,.goto l'=>l==l'
 |.ret,.ret=>true
 |_,.dead=>true
 |_,_=>false
end
end Go.AB
end
