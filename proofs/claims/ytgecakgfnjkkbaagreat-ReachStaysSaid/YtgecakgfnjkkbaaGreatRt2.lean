/- A part. -/
import Derived.Test.YtgecakgfnjkkbaaGreatRt1
import Derived.Attr
import Derived.Laws.Cells
import Derived.Laws.Strings
import Derived.Laws.Pointers
import Derived.Laws.Small
set_option linter.defProp false
set_option linter.unusedSimpArgs false
set_option linter.unusedVariables false
section
namespace Go.AB
open Go
section
variable(P:Program)(K:St->Prop)(Q:Exit->St->Prop)(E τ:St)(d:Option Nat)
attribute[go_sem] swp.eq_1
@[go_sem]theorem aik(o:ar)(r:List ar):swp P (o::r) E K=MF P o E (aij P r K):=rfl
attribute[go_sem] aij.eq_1 ahZ.eq_1 An.eq_1
@[go_sem]theorem age(op:rF):MF P ⟨d,op,none⟩ E K=nxt P op E d K (pv op (xg true E) E):=rfl
attribute[go_sem] owp.eq_1
@[go_sem]theorem agf(op:rF)(t:Nat)(want:Bool):MF P ⟨d,op,some (t,want)⟩ E K=zH P op d t want E K (look E.e t):=rfl
attribute[go_sem] fY.eq_18 fY.eq_1 fY.eq_2 fY.eq_3 fY.eq_5
@[go_sem]theorem af4(T:List Nat)(q:Nat)(ops:List ar)(live:List Nat):fY P (.VE T q ops live) Q E=(kF T E.e=true/\Fz P T q ops E (An live Q)):=rfl
@[go_sem]theorem aiS(a b:IC):fY P (.seq a b) Q E=fY P a (BW P b Q) E:=by
  have:(fun x τ=>match x with|.normal=>fY P b Q τ|x=>Q x τ)=BW P b Q:=by funext x τ;cases x<;>rfl
  rw[<-this];rfl
@[go_sem]theorem af3(x:IX)(a b:IC):fY P (.cond x a b) Q E=O7 P a b Q E (E.x x):=by
  show(match E.x x with|.bool v=>(v=true->fY P a Q E)/\(v=false->fY P b Q E)|_=>False)=_
  cases E.x x<;>rfl
attribute[go_sem] fY.eq_9 fY.eq_12 fY.eq_15 fY.eq_16 fY.eq_17 O7.eq_1 BW.eq_1
@[go_sem]theorem aia(b:IC):BW P b Q .ret τ=Q .ret τ:=rfl
@[go_sem]theorem afq(b:IC)(i:Nat):BW P b Q (.exit i) τ=Q (.exit i) τ:=rfl
@[go_sem]theorem afr(b:IC)(i:Nat):BW P b Q (.goto i) τ=Q (.goto i) τ:=rfl
@[go_sem]theorem ZT(i:Nat):Qx i Q .normal τ=Q .normal τ:=rfl
@[go_sem]theorem afP(i:Nat):Qx i Q .ret τ=Q .ret τ:=rfl
@[go_sem]theorem ael(i l:Nat):Qx i Q (.goto l) τ=Q (.goto l) τ:=rfl
attribute[go_sem] Qx.eq_1 pX.eq_1
@[go_sem]theorem aeC(live:List (Nat×Bool))(J:St->Prop):pX live J Q .ret τ=Q .ret τ:=rfl
@[go_sem]theorem acu(live:List (Nat×Bool))(J:St->Prop)(i:Nat):pX live J Q (.exit i) τ=Q (.exit i) τ:=rfl
@[go_sem]theorem acv(live:List (Nat×Bool))(J:St->Prop)(i:Nat):pX live J Q (.goto i) τ=Q (.goto i) τ:=rfl
attribute[go_sem] fY.eq_6 Sa.eq_1
@[go_sem]theorem bX(iH:List (List Bool))(ops:List ar)(K:St->Prop)(d:List Bool)(o:ar)(f:List ar):Sa P iH ops K (o::f) d E=OL d iH [] d ops (fun o d=>MF P o E (aiJ P iH ops K f d)):=rfl
@[go_sem]theorem cP(iH:List (List Bool))(ops:List ar)(K:St->Prop)(f:List ar)(d:List Bool)(τ:St):aiJ P iH ops K f d τ=Sa P iH ops K f d τ:=rfl
attribute[go_sem] vO xE xD
@[go_sem]theorem bD(done row pre xs:List Bool)(rows:List (List Bool))(x:Bool)(o:ar)(r:List ar)(F:ar->List Bool->Prop):OL done (row::rows) pre (x::xs) (o::r) F=((bif !x&&vO row done then F o (xE pre (true::xs))else True)/\OL done rows (x::pre) xs r F):=rfl
@[go_sem]theorem bV(done pre:List Bool)(F:ar->List Bool->Prop):OL done [] pre [] [] F=True:=rfl
@[go_sem]theorem Na(l:Nat)(live:List (Nat×Bool))(a1 a2 a3 r:IC):fY P (.Er l live a1 a2 a3 r) Q E=fY P a1 (BW P a2 (BW P a3 (JE live (WE P l live r Q) Q))) E:=by
  show fY P a1 (fun x τ=>match x with|.normal=>fY P a2 (fun x τ=>match x with|.normal=>fY P a3 (JE live (WE P l live r Q) Q) τ|x=>JE live (WE P l live r Q) Q x τ) τ|x=>JE live (WE P l live r Q) Q x τ) E=_
  congr 1
  funext x τ
  cases x with
  |normal=>
   show fY P a2 _ τ=fY P a2 _ τ
   congr 1
   funext x τ
   cases x<;>rfl
  |_=>rfl
attribute[go_sem] JE.eq_1
@[go_sem]theorem ah9(live:List (Nat×Bool))(I:St->Prop):JE live I Q .ret τ=Q .ret τ:=rfl
@[go_sem]theorem agV(l:Nat)(live:List (Nat×Bool))(I:St->Prop):I0 l live I Q .ret τ=Q .ret τ:=rfl
@[go_sem]theorem aeA(l:Nat)(live:List (Nat×Bool))(I:St->Prop)(i:Nat):I0 l live I Q (.exit i) τ=Q (.exit i) τ:=rfl
@[go_sem]theorem aeB(l:Nat)(live:List (Nat×Bool))(I:St->Prop):I0 l live I Q (.goto l) τ=I (τ.fk live):=by
  show(l=l/\I (τ.fk live))=_
  simp
attribute[go_sem] Hh.eq_1
@[go_sem]theorem aeE(live:List (Nat×Bool))(I:St->Prop)(μ:St->Nat)(m:Nat):Hh live I μ m Q .ret τ=Q .ret τ:=rfl
@[go_sem]theorem acF(live:List (Nat×Bool))(I:St->Prop)(μ:St->Nat)(m i:Nat):Hh live I μ m Q (.exit i) τ=Q (.exit i) τ:=rfl
end
section
@[go_sem]theorem aez:dF (.undef)=false:=rfl
@[go_sem]theorem afs(g:Bool):vi g (.undef)=(.undef):=rfl
@[go_sem]theorem aea:view (.undef)=(.undef):=rfl
@[go_sem]theorem agO(b:Bool):dF (.bool b)=true:=rfl
@[go_sem]theorem ais(g:Bool)(b:Bool):vi g (.bool b)=(.bool b):=rfl
@[go_sem]theorem aft(b:Bool):view (.bool b)=(.bool b):=rfl
@[go_sem]theorem WW(b:Bool):cellsOf (.bool b)=[(.bool b)]:=rfl
@[go_sem]theorem acI(E:St)(i:Nat)(b:Bool):ch E (.bool b) (some i)=E:=rfl
@[go_sem]theorem aiZ(k:IntKind)(n:Int):dF (.int k n)=true:=rfl
@[go_sem]theorem ajC(g:Bool)(k:IntKind)(n:Int):vi g (.int k n)=(.int k n):=rfl
@[go_sem]theorem aiB(k:IntKind)(n:Int):view (.int k n)=(.int k n):=rfl
@[go_sem]theorem Z0(k:IntKind)(n:Int):cellsOf (.int k n)=[(.int k n)]:=rfl
@[go_sem]theorem abe(k:IntKind)(n:Int):bC (.int k n)=[(.int k n)]:=rfl
@[go_sem]theorem aeM(E:St)(i:Nat)(k:IntKind)(n:Int):ch E (.int k n) (some i)=E:=rfl
@[go_sem]theorem ai1(s:List UInt8):dF (.str s)=true:=rfl
@[go_sem]theorem ajF(g:Bool)(s:List UInt8):vi g (.str s)=(.str s):=rfl
@[go_sem]theorem aiE(s:List UInt8):view (.str s)=(.str s):=rfl
@[go_sem]theorem Z5(s:List UInt8):cellsOf (.str s)=[(.str s)]:=rfl
@[go_sem]theorem aeO(E:St)(i:Nat)(s:List UInt8):ch E (.str s) (some i)=E:=rfl
@[go_sem]theorem akM(t n:Nat)(cs:List AV):dF (.bb t n cs)=true:=rfl
attribute[go_sem] view.eq_4
@[go_sem]theorem adV(t n:Nat)(cs:List AV):bC (.bb t n cs)=[.bb t n cs]:=rfl
@[go_sem]theorem agQ:dF (.mw)=true:=rfl
@[go_sem]theorem aiu(g:Bool):vi g (.mw)=(.mw):=rfl
@[go_sem]theorem afv:view (.mw)=(.mw):=rfl
@[go_sem]theorem acK(E:St)(i:Nat):ch E (.mw) (some i)=E:=rfl
@[go_sem]theorem aaf:ed (.mw)=.mw:=rfl
attribute[go_sem] view.eq_3
@[go_sem]theorem agR:dF (.fM)=true:=rfl
@[go_sem]theorem aiv(g:Bool):vi g (.fM)=(.fM):=rfl
@[go_sem]theorem afw:view (.fM)=(.fM):=rfl
@[go_sem]theorem acL(E:St)(i:Nat):ch E (.fM) (some i)=E:=rfl
@[go_sem]theorem ai0(b o:Nat):dF (.ref b o)=true:=rfl
@[go_sem]theorem ajE(g:Bool)(b o:Nat):vi g (.ref b o)=(.ref b o):=rfl
@[go_sem]theorem aiD(b o:Nat):view (.ref b o)=(.ref b o):=rfl
@[go_sem]theorem Z3(b o:Nat):cellsOf (.ref b o)=[(.ref b o)]:=rfl
@[go_sem]theorem abf(b o:Nat):bC (.ref b o)=[(.ref b o)]:=rfl
@[go_sem]theorem aeN(E:St)(i:Nat)(b o:Nat):ch E (.ref b o) (some i)=E:=rfl
@[go_sem]theorem alu(g:Bool)(b o:Nat):vi g (.lp b o)=(.lp b o):=rfl
attribute[go_sem] ch.eq_1
@[go_sem]theorem alx(g:Bool)(cs:List AV):vi g (.sp cs)=(.sp cs):=rfl
@[go_sem]theorem ag8(E:St)(i:Nat)(cs:List AV):ch E (.sp cs) (some i)=E:=rfl
@[go_sem]theorem ajD(g:Bool)(cs:List AV):vi g (.loc cs)=(.loc cs):=rfl
@[go_sem]theorem aiC(cs:List AV):view (.loc cs)=(.loc cs):=rfl
@[go_sem]theorem akP(o:Bool)(z n:Nat)(cs:List AV):dF (.sl o z n cs)=true:=rfl
@[go_sem]theorem alw(g:Bool)(o:Bool)(z n:Nat)(cs:List AV):vi g (.sl o z n cs)=(.sl o z n cs):=rfl
attribute[go_sem] view.eq_1
@[go_sem]theorem abE(o:Bool)(z n:Nat)(cs:List AV):cellsOf (.sl o z n cs)=[(.sl o z n cs)]:=rfl
@[go_sem]theorem adX(o:Bool)(z n:Nat)(cs:List AV):bC (.sl o z n cs)=[(.sl o z n cs)]:=rfl
@[go_sem]theorem ag7(E:St)(i:Nat)(o:Bool)(z n:Nat)(cs:List AV):ch E (.sl o z n cs) (some i)=E:=rfl
@[go_sem]theorem aiY(b o l c:Nat):dF (.arr b o l c)=true:=rfl
@[go_sem]theorem ajB(g:Bool)(b o l c:Nat):vi g (.arr b o l c)=(.arr b o l c):=rfl
@[go_sem]theorem aiA(b o l c:Nat):view (.arr b o l c)=(.arr b o l c):=rfl
@[go_sem]theorem abd(b o l c:Nat):bC (.arr b o l c)=[(.arr b o l c)]:=rfl
@[go_sem]theorem aeL(E:St)(i:Nat)(b o l c:Nat):ch E (.arr b o l c) (some i)=E:=rfl
@[go_sem]theorem aiX(cs:List AV):dF (.agg cs)=true:=rfl
@[go_sem]theorem ajA(g:Bool)(cs:List AV):vi g (.agg cs)=(.agg cs):=rfl
@[go_sem]theorem aiz(cs:List AV):view (.agg cs)=(.agg cs):=rfl
attribute[go_sem] cellsOf.eq_1 bC.eq_1
@[go_sem]theorem aeK(E:St)(i:Nat)(cs:List AV):ch E (.agg cs) (some i)=E:=rfl
@[go_sem]theorem ajG(g:Bool)(cs:List AV):vi g (.iJ cs)=(.iJ cs):=rfl
@[go_sem]theorem aeP(E:St)(i:Nat)(cs:List AV):ch E (.iJ cs) (some i)=E:=rfl
@[go_sem]theorem akN(f:Nat)(x y:List AV):dF (.fn f x y)=true:=rfl
@[go_sem]theorem als(g:Bool)(f:Nat)(x y:List AV):vi g (.fn f x y)=(.fn f x y):=rfl
@[go_sem]theorem ajI(f:Nat)(x y:List AV):view (.fn f x y)=(.fn f x y):=rfl
@[go_sem]theorem abC(f:Nat)(x y:List AV):cellsOf (.fn f x y)=[(.fn f x y)]:=rfl
@[go_sem]theorem ag5(E:St)(i:Nat)(f:Nat)(x y:List AV):ch E (.fn f x y) (some i)=E:=rfl
@[go_sem]theorem agP:dF (.pP)=true:=rfl
@[go_sem]theorem ait(g:Bool):vi g (.pP)=(.pP):=rfl
@[go_sem]theorem afu:view (.pP)=(.pP):=rfl
@[go_sem]theorem acJ(E:St)(i:Nat):ch E (.pP) (some i)=E:=rfl
@[go_sem]theorem akO(b:Nat):dF (.mp b)=true:=rfl
@[go_sem]theorem alv(g:Bool)(b:Nat):vi g (.mp b)=(.mp b):=rfl
@[go_sem]theorem ajJ(b:Nat):view (.mp b)=(.mp b):=rfl
@[go_sem]theorem abD(b:Nat):cellsOf (.mp b)=[(.mp b)]:=rfl
@[go_sem]theorem adW(b:Nat):bC (.mp b)=[(.mp b)]:=rfl
@[go_sem]theorem ag6(E:St)(i:Nat)(b:Nat):ch E (.mp b) (some i)=E:=rfl
@[go_sem]theorem YI(f:IX->AV)(E:St)(x:IX):pv (.px true x) f E=.no:=rfl
@[go_sem]theorem adv(f:IX->AV)(E:St)(z:List AV):pv (.kj z) f E=.no:=rfl
@[go_sem]theorem adw(f:IX->AV)(E:St)(z:List AV):pv (.nv z) f E=.no:=rfl
@[go_sem]theorem ahD(f:IX->AV)(E:St)(n:Nat)(x:IX):pv (.Kg n x) f E=.no:=rfl
@[go_sem]theorem ahF(f:IX->AV)(E:St)(n:Nat)(x:IX):pv (.Bq n x) f E=.no:=rfl
@[go_sem]theorem aaZ(f:IX->AV)(E:St)(a b:Nat)(z:List AV)(p:List (Nat×Nat×IX)):pv (.ik a b z p) f E=.no:=rfl
@[go_sem]theorem afd(f:IX->AV)(E:St)(n:Nat)(p v:IX):pv (.store n p v) f E=.no:=rfl
@[go_sem]theorem adx(f:IX->AV)(E:St)(a b:Nat)(x y:IX):pv (.append a b x y) f E=.no:=rfl
@[go_sem]theorem adm(f:IX->AV)(E:St)(x:IX):pv (.kP x) f E=rR (f x):=rfl
attribute[go_sem] rR.eq_1 abg.eq_1 SZ.eq_1
@[go_sem]theorem adz(f:IX->AV)(E:St)(a b:Nat)(z:List AV)(x y:IX):pv (.lP a b z x y) f E=.no:=rfl
@[go_sem]theorem aa1(f:IX->AV)(E:St):pv (.makeMap) f E=.no:=rfl
@[go_sem]theorem ahH(f:IX->AV)(E:St)(n:Nat)(l:List IX):pv (.call n l) f E=.no:=rfl
@[go_sem]theorem ae7(f:IX->AV)(E:St)(x:IX)(l:List IX):pv (.iL x l) f E=.no:=rfl
@[go_sem]theorem acp(b:Bool):inner (.bool b)=true:=rfl
@[go_sem]theorem aew(k:IntKind)(n:Int):inner (.int k n)=true:=rfl
@[go_sem]theorem aey(s:List UInt8):inner (.str s)=true:=rfl
@[go_sem]theorem acq:inner (.fM)=true:=rfl
@[go_sem]theorem aex(b o:Nat):inner (.ref b o)=true:=rfl
@[go_sem]theorem agK(b o:Nat):inner (.lp b o)=true:=rfl
@[go_sem]theorem agN(cs:List AV):inner (.sp cs)=true:=rfl
@[go_sem]theorem agM(o:Bool)(z n:Nat)(cs:List AV):inner (.sl o z n cs)=true:=rfl
@[go_sem]theorem aev(b o l c:Nat):inner (.arr b o l c)=true:=rfl
@[go_sem]theorem aeu(cs:List AV):inner (.agg cs)=true:=rfl
@[go_sem]theorem agJ(f:Nat)(x y:List AV):inner (.fn f x y)=true:=rfl
@[go_sem]theorem agL(b:Nat):inner (.mp b)=true:=rfl
@[go_sem]theorem WJ(g:Bool)(a:AV):vi g (.when g a)=bif inner a then a else .undef:=by simp[vi]
@[go_sem]theorem agb(x:Bool):gv2 (.bool x)=some (true,x):=rfl
@[go_sem]theorem agc(b x:Bool):gv2 (.when b (.bool x))=some (b,x):=rfl
attribute[go_sem] gv2.eq_1
@[go_sem]theorem akU(g b:Bool):(g=true->b=true->(g&&b)=true)=True:=by cases g<;>cases b<;>simp
@[go_sem]theorem akV(g b:Bool):(g=true->b=false->(g&&!b)=true)=True:=by cases g<;>cases b<;>simp
@[go_sem]theorem akW(b:Bool):(b=false->(!b)=true)=True:=by cases b<;>simp
@[go_sem]theorem af1(b x:Bool):(bif b then x else false)=(b&&x):=Ψ
@[go_sem]theorem aiR(b x:Bool):(bif b then true else x)=(b||x):=Ψ
@[go_sem]theorem alG(b:Bool):(b==true)=b:=Ψ
@[go_sem]theorem alF(b:Bool):(b==false)=!b:=Ψ
@[go_sem]theorem agW(k:IntKind):Q9 k k=true:=by simp[Q9]
@[go_sem]theorem akQ(a b:Nat)(cs:List AV):dF (.us a b cs)=false:=rfl
@[go_sem]theorem aiW(a b:Nat)(cs:List AV):Uw (.us a b cs)=true:=rfl
@[go_sem]theorem ah6:ko []=true:=rfl
@[go_sem]theorem ah7(a b:AV)(l:List AV):ko (a::b::l)=true:=rfl
@[go_sem]theorem ah3:fO []=.iJ []:=rfl
@[go_sem]theorem ah4(a b:AV)(l:List AV):fO (a::b::l)=.iJ (a::b::l):=rfl
@[go_sem]theorem afx:views []=[]:=rfl
@[go_sem]theorem aeb(a:AV)(l:List AV):views (a::l)=view a::views l:=rfl
attribute[go_sem] St.x.eq_1 St.x.eq_2 St.put.eq_1 St.put.eq_2 look.eq_1 look.eq_2
section
variable(P:Program)(K:St->Prop)(E:St)
attribute[go_sem] qwp.eq_1
@[go_sem]theorem ah0(q:Nat)(o:ar)(r:List ar):qwp P (q+1) (o::r) E K=(bn E o.dst=true/\q1 P o E (ahZ P q r K)):=rfl
@[go_sem]theorem ak9(d:Option Nat)(x:IX):q1 P ⟨d,.px false x,none⟩ E K=qK E d K (qv ⟨d,.px false x,none⟩ E):=rfl
@[go_sem]theorem ald(d:Option Nat)(x:IX):q2 P ⟨d,.px false x,none⟩ E K=(bn E d=true/\qK E d K (qv ⟨d,.px false x,none⟩ E)):=IN
@[go_sem]theorem ajl(d:Option Nat)(t:Nat)(want:Bool)(x:IX):q1 P ⟨d,.px false x,(some (t,want))⟩ E K=qK E d K (qv ⟨d,.px false x,(some (t,want))⟩ E):=rfl
@[go_sem]theorem ajm(d:Option Nat)(c x y:IX):q1 P ⟨d,.pick c x y,none⟩ E K=qK E d K (qv ⟨d,.pick c x y,none⟩ E):=rfl
@[go_sem]theorem ahO(d:Option Nat)(t:Nat)(want:Bool)(c x y:IX):q1 P ⟨d,.pick c x y,(some (t,want))⟩ E K=qK E d K (qv ⟨d,.pick c x y,(some (t,want))⟩ E):=rfl
@[go_sem]theorem ahK(d:Option Nat)(z:List AV)(ps:List (Nat×Nat×IX)):q1 P ⟨d,.build z ps,none⟩ E K=qK E d K (qv ⟨d,.build z ps,none⟩ E):=rfl
@[go_sem]theorem ahQ(d:Option Nat)(z:List AV)(ps:List (Nat×Nat×IX)):q2 P ⟨d,.build z ps,none⟩ E K=(bn E d=true/\qK E d K (qv ⟨d,.build z ps,none⟩ E)):=IN
@[go_sem]theorem ajk(d:Option Nat)(n:Nat)(m:Bool)(x:IX):q1 P ⟨d,.load n m x,none⟩ E K=qK E d K (qv ⟨d,.load n m x,none⟩ E):=rfl
@[go_sem]theorem ajo(d:Option Nat)(n:Nat)(m:Bool)(x:IX):q2 P ⟨d,.load n m x,none⟩ E K=(bn E d=true/\qK E d K (qv ⟨d,.load n m x,none⟩ E)):=IN
@[go_sem]theorem ahL(d:Option Nat)(t:Nat)(want:Bool)(n:Nat)(m:Bool)(x:IX):q1 P ⟨d,.load n m x,(some (t,want))⟩ E K=qK E d K (qv ⟨d,.load n m x,(some (t,want))⟩ E):=rfl
@[go_sem]theorem aa2(d:Option Nat)(x:IX):q1 P ⟨d,.nilCheck x,none⟩ E K=qK E d K (qv ⟨d,.nilCheck x,none⟩ E):=rfl
@[go_sem]theorem aa3(d:Option Nat)(x:IX):q2 P ⟨d,.nilCheck x,none⟩ E K=(bn E d=true/\qK E d K (qv ⟨d,.nilCheck x,none⟩ E)):=IN
@[go_sem]theorem YL(d:Option Nat)(t:Nat)(want:Bool)(x:IX):q1 P ⟨d,.nilCheck x,(some (t,want))⟩ E K=qK E d K (qv ⟨d,.nilCheck x,(some (t,want))⟩ E):=rfl
@[go_sem]theorem ak6(d:Option Nat)(b:BinOp)(x y:IX):q1 P ⟨d,.bin b x y,none⟩ E K=qK E d K (qv ⟨d,.bin b x y,none⟩ E):=rfl
@[go_sem]theorem alb(d:Option Nat)(b:BinOp)(x y:IX):q2 P ⟨d,.bin b x y,none⟩ E K=(bn E d=true/\qK E d K (qv ⟨d,.bin b x y,none⟩ E)):=IN
@[go_sem]theorem aji(d:Option Nat)(t:Nat)(want:Bool)(b:BinOp)(x y:IX):q1 P ⟨d,.bin b x y,(some (t,want))⟩ E K=qK E d K (qv ⟨d,.bin b x y,(some (t,want))⟩ E):=rfl
@[go_sem]theorem ak7(d:Option Nat)(n:Bool)(x y:IX):q1 P ⟨d,.WB n x y,none⟩ E K=qK E d K (qv ⟨d,.WB n x y,none⟩ E):=rfl
@[go_sem]theorem al9(d:Option Nat)(u:UnOp)(x:IX):q1 P ⟨d,.un u x,none⟩ E K=qK E d K (qv ⟨d,.un u x,none⟩ E):=rfl
@[go_sem]theorem ala(d:Option Nat)(t:Nat)(want:Bool)(u:UnOp)(x:IX):q1 P ⟨d,.un u x,(some (t,want))⟩ E K=qK E d K (qv ⟨d,.un u x,(some (t,want))⟩ E):=rfl
@[go_sem]theorem afe(d:Option Nat)(k:IntKind)(x:IX):q1 P ⟨d,.nx k x,none⟩ E K=qK E d K (qv ⟨d,.nx k x,none⟩ E):=rfl
@[go_sem]theorem adA(d:Option Nat)(t:Nat)(want:Bool)(k:IntKind)(x:IX):q1 P ⟨d,.nx k x,(some (t,want))⟩ E K=qK E d K (qv ⟨d,.nx k x,(some (t,want))⟩ E):=rfl
@[go_sem]theorem afj(d:Option Nat)(x i:IX):q1 P ⟨d,.lU x i,none⟩ E K=qK E d K (qv ⟨d,.lU x i,none⟩ E):=rfl
@[go_sem]theorem afm(d:Option Nat)(x i:IX):q2 P ⟨d,.lU x i,none⟩ E K=(bn E d=true/\qK E d K (qv ⟨d,.lU x i,none⟩ E)):=IN
@[go_sem]theorem adD(d:Option Nat)(t:Nat)(want:Bool)(x i:IX):q1 P ⟨d,.lU x i,(some (t,want))⟩ E K=qK E d K (qv ⟨d,.lU x i,(some (t,want))⟩ E):=rfl
@[go_sem]theorem YJ(d:Option Nat)(f:Nat)(x:IX):q1 P ⟨d,.fieldAddr f x,none⟩ E K=qK E d K (qv ⟨d,.fieldAddr f x,none⟩ E):=rfl
@[go_sem]theorem YM(d:Option Nat)(f:Nat)(x:IX):q2 P ⟨d,.fieldAddr f x,none⟩ E K=(bn E d=true/\qK E d K (qv ⟨d,.fieldAddr f x,none⟩ E)):=IN
@[go_sem]theorem WG(d:Option Nat)(t:Nat)(want:Bool)(f:Nat)(x:IX):q1 P ⟨d,.fieldAddr f x,(some (t,want))⟩ E K=qK E d K (qv ⟨d,.fieldAddr f x,(some (t,want))⟩ E):=rfl
@[go_sem]theorem YK(d:Option Nat)(z:List AV)(x i:IX):q1 P ⟨d,.indexAddr z x i,none⟩ E K=qK E d K (qv ⟨d,.indexAddr z x i,none⟩ E):=rfl
@[go_sem]theorem YN(d:Option Nat)(z:List AV)(x i:IX):q2 P ⟨d,.indexAddr z x i,none⟩ E K=(bn E d=true/\qK E d K (qv ⟨d,.indexAddr z x i,none⟩ E)):=IN
@[go_sem]theorem WH(d:Option Nat)(t:Nat)(want:Bool)(z:List AV)(x i:IX):q1 P ⟨d,.indexAddr z x i,(some (t,want))⟩ E K=qK E d K (qv ⟨d,.indexAddr z x i,(some (t,want))⟩ E):=rfl
@[go_sem]theorem ahP(d:Option Nat)(z:Nat)(x:IX)(lo hi mx:Option IX):q1 P ⟨d,.slice z x lo hi mx,none⟩ E K=qK E d K (qv ⟨d,.slice z x lo hi mx,none⟩ E):=rfl
@[go_sem]theorem ahT(d:Option Nat)(z:Nat)(x:IX)(lo hi mx:Option IX):q2 P ⟨d,.slice z x lo hi mx,none⟩ E K=(bn E d=true/\qK E d K (qv ⟨d,.slice z x lo hi mx,none⟩ E)):=IN
@[go_sem]theorem afk(d:Option Nat)(x:IX)(lo hi:Option IX):q1 P ⟨d,.qy x lo hi,none⟩ E K=qK E d K (qv ⟨d,.qy x lo hi,none⟩ E):=rfl
@[go_sem]theorem adC(d:Option Nat)(x:IX)(k:Nat):q1 P ⟨d,.extract x k,none⟩ E K=qK E d K (qv ⟨d,.extract x k,none⟩ E):=rfl
@[go_sem]theorem adF(d:Option Nat)(x:IX)(k:Nat):q2 P ⟨d,.extract x k,none⟩ E K=(bn E d=true/\qK E d K (qv ⟨d,.extract x k,none⟩ E)):=IN
@[go_sem]theorem ak8(d:Option Nat)(c:Nat)(x:IX):q1 P ⟨d,.len c x,none⟩ E K=qK E d K (qv ⟨d,.len c x,none⟩ E):=rfl
@[go_sem]theorem alc(d:Option Nat)(c:Nat)(x:IX):q2 P ⟨d,.len c x,none⟩ E K=(bn E d=true/\qK E d K (qv ⟨d,.len c x,none⟩ E)):=IN
@[go_sem]theorem ajj(d:Option Nat)(t:Nat)(want:Bool)(c:Nat)(x:IX):q1 P ⟨d,.len c x,(some (t,want))⟩ E K=qK E d K (qv ⟨d,.len c x,(some (t,want))⟩ E):=rfl
@[go_sem]theorem afi(d:Option Nat)(m:Bool)(xs:List IX):q1 P ⟨d,.mq m xs,none⟩ E K=qK E d K (qv ⟨d,.mq m xs,none⟩ E):=rfl
attribute[go_sem] q1.eq_2
@[go_sem]theorem ajp(d:Option Nat)(x:IX):q2 P ⟨d,.px true x,none⟩ E K=(bn E d=true/\UU E x d K (E.x x)):=IN
attribute[go_sem] q1.eq_1
@[go_sem]theorem ajn(d:Option Nat)(f:Nat)(args:List IX):q2 P ⟨d,.call f args,none⟩ E K=(bn E d=true/\Vu P f E d K (cL (xg true E) args)):=IN
attribute[go_sem] q1.eq_3
@[go_sem]theorem aff(d:Option Nat)(x:IX):q1 P ⟨d,.kP x,none⟩ E K=qK E d K (qv ⟨d,.kP x,none⟩ E):=rfl
attribute[go_sem] q1.eq_6
@[go_sem]theorem adE(d:Option Nat)(sz n:Nat)(z:List AV)(ps:List (Nat×Nat×IX))(g:Option (Nat×Bool)):q2 P ⟨d,.ik sz n z ps,g⟩ E K=(bn E d=true/\qK E d K (EW ⟨d,.ik sz n z ps,g⟩ E)):=IN
attribute[go_sem] q1.eq_7
@[go_sem]theorem ahN(d:Option Nat)(z:List AV)(m:Bool)(x:IX):q1 P ⟨d,.kE z m x,none⟩ E K=qK E d K (qv ⟨d,.kE z m x,none⟩ E):=rfl
@[go_sem]theorem ahS(d:Option Nat)(z:List AV)(m:Bool)(x:IX):q2 P ⟨d,.kE z m x,none⟩ E K=(bn E d=true/\qK E d K (qv ⟨d,.kE z m x,none⟩ E)):=IN
@[go_sem]theorem afh(d:Option Nat)(t:Nat)(want:Bool)(z:List AV)(m:Bool)(x:IX):q1 P ⟨d,.kE z m x,(some (t,want))⟩ E K=qK E d K (qv ⟨d,.kE z m x,(some (t,want))⟩ E):=rfl
@[go_sem]theorem ahM(d:Option Nat)(k:IntKind)(x:IX):q1 P ⟨d,.nN k x,none⟩ E K=qK E d K (qv ⟨d,.nN k x,none⟩ E):=rfl
@[go_sem]theorem afg(d:Option Nat)(t:Nat)(want:Bool)(k:IntKind)(x:IX):q1 P ⟨d,.nN k x,(some (t,want))⟩ E K=qK E d K (qv ⟨d,.nN k x,(some (t,want))⟩ E):=rfl
@[go_sem]theorem ae3(f:IX->AV)(E:St)(k:IntKind)(x:IX):pv (.nN k x) f E=z7 k E.s (f x):=rfl
@[go_sem]theorem acD(k:IntKind)(s:ae)(b off:Nat):z7 k s (.ref b off)=.prt (NX k off (s b)) (.int k (NY off (s b))):=rfl
@[go_sem]theorem ae4(f:IX->AV)(E:St)(z:List AV)(m:Bool)(x:IX):pv (.kE z m x) f E=Hf z m E.s (f x):=rfl
@[go_sem]theorem aa0(f:IX->AV)(E:St)(kk:mb)(z:AV)(ok:Bool)(x k:IX):pv (.lookup kk z ok x k) f E=.no:=rfl
@[go_sem]theorem Vt(f:IX->AV)(E:St)(kk:mb)(x k v:IX):pv (.mapUpdate kk x k v) f E=.no:=rfl
attribute[go_sem] ju.eq_14
attribute[go_sem] ju.eq_17 q1.eq_9
@[go_sem]theorem afl(d:Option Nat)(x:IX)(g:Option (Nat×Bool)):q2 P ⟨d,.vJ x,g⟩ E K=(bn E d=true/\qK E d K (EW ⟨d,.vJ x,g⟩ E)):=IN
@[go_sem]theorem afc(f:IX->AV)(E:St)(x:IX):pv (.vJ x) f E=.no:=rfl
attribute[go_sem] ju.eq_16 qe.eq_4
@[go_sem]theorem ahV(d:Option Nat)(o:rF):EW ⟨d,o,none⟩ E=qe (xg true E) E.s o:=rfl
@[go_sem]theorem ahX(d:Option Nat)(o:rF)(t:Nat)(want:Bool):EW ⟨d,o,some (t,want)⟩ E=P2 o want E (look E.e t):=rfl
@[go_sem]theorem ahU(o:rF)(want b:Bool):P2 o want E (.bool b)=Sl (b==want) (qe (xg (b==want) E) E.s o):=rfl
attribute[go_sem] qe.eq_1 qe.eq_2
attribute[go_sem] EH.eq_1 Hf.eq_1 LC.eq_1 kN.eq_1 kN.eq_2 Sj.eq_1 Sj.eq_2 Sj.eq_3
attribute[go_sem] WS.eq_1 HA.eq_1
@[go_sem]theorem ajq(d:Option Nat)(o:rF):qv ⟨d,o,none⟩ E=pv o (xg true E) E:=rfl
@[go_sem]theorem ajr(d:Option Nat)(o:rF)(t:Nat)(want:Bool):qv ⟨d,o,some (t,want)⟩ E=Ol o want E (look E.e t):=rfl
@[go_sem]theorem ajc(f:IX->AV)(E:St)(x:IX):pv (.cap x) f E=M4 (f x):=rfl
@[go_sem]theorem adu(f:IX->AV)(E:St)(z:Nat)(x:IX)(lo hi:Option IX)(m:IX):pv (.slice z x lo hi (some m)) f E=qf z f lo hi m (f x):=rfl
@[go_sem]theorem YH(f:IX->AV)(E:St)(a b:Nat)(z:List AV)(p:List (Nat×Nat×IX)):pv (.mV a b z p) f E=.no:=rfl
@[go_sem]theorem aaW(f:IX->AV)(E:St)(a b:Nat)(z:List AV)(x y:IX):pv (.nU a b z x y) f E=.no:=rfl
@[go_sem]theorem aaY(f:IX->AV)(E:St)(a b:Nat)(z:List AV)(x y:IX):pv (.pU a b z x y) f E=.no:=rfl
attribute[go_sem] ju.eq_20
@[go_sem]theorem ae8(f:IX->AV)(E:St)(a:Nat)(x y:IX):pv (.AL a x y) f E=.no:=rfl
@[go_sem]theorem ady(f:IX->AV)(E:St)(z:List AV)(x:IX):pv (.tx z x) f E=.no:=rfl
@[go_sem]theorem ajg(f:IX->AV)(E:St)(a:Nat)(o:Bool)(x:IX):pv (.WD a o x) f E=.no:=rfl
@[go_sem]theorem afa(f:IX->AV)(E:St)(off:Nat)(j x:IX):pv (.nL off j x) f E=.no:=rfl
@[go_sem]theorem ae9(f:IX->AV)(E:St)(x:IX):pv (.nK x) f E=.no:=rfl
@[go_sem]theorem ajf(f:IX->AV)(E:St)(o:Bool)(x:IX):pv (.eqN o x) f E=.no:=rfl
@[go_sem]theorem ajh(f:IX->AV)(E:St)(g:Nat)(x y:IX):pv (.ovl g x y) f E=.no:=rfl
attribute[go_sem] ju.eq_18 ju.eq_19 ju.eq_21 ju.eq_22 ju.eq_23
attribute[go_sem] Xs
attribute[go_sem] ju.eq_25 ju.eq_27 ju.eq_28 q1.eq_4
@[go_sem]theorem ahR(d:Option Nat)(x:IX)(args:List IX):q2 P ⟨d,.iL x args,none⟩ E K=(bn E d=true/\Oj P E (cL (xg true E) args) d K (xg true E x)):=IN
attribute[go_sem] q1.eq_5
attribute[go_sem] Oj.eq_1 P1.eq_1 Jr.eq_1
@[go_sem]theorem aje(f:IX->AV)(E:St)(ne:Bool)(x:IX):pv (.Xo ne x) f E=KR ne (f x):=rfl
@[go_sem]theorem aiU(ne:Bool)(b o:Nat):Fa ne (.ref b o) (.ref b o)=.c8 (.bool (!ne)):=by simp[Fa]
@[go_sem]theorem ahJ(f:IX->AV)(E:St)(x:IX):pv (.KA x) f E=.no:=rfl
@[go_sem]theorem ahI(f:IX->AV)(E:St)(u:Nat)(x:IX):pv (.Kz u x) f E=.no:=rfl
@[go_sem]theorem ahG(f:IX->AV)(E:St)(n t j u:Nat)(x:IX):pv (.Ki n t j u x) f E=.no:=rfl
@[go_sem]theorem aaX(f:IX->AV)(E:St)(t:Nat)(x y:IX):pv (.pT t x y) f E=.no:=rfl
attribute[go_sem] ju.eq_31 ju.eq_32 ju.eq_34 ju.eq_30
@[go_sem]theorem ae6(f:IX->AV)(E:St)(g:Nat)(x:IX):pv (.AI g x) f E=.no:=rfl
attribute[go_sem] ju.eq_33
@[go_sem]theorem afb(f:IX->AV)(E:St)(z:Nat)(o:Bool)(x:IX):pv (.A9 z o x) f E=.no:=rfl
attribute[go_sem] ju.eq_24
attribute[go_sem] NW.eq_1 th.eq_1 th.eq_2 M3 KR.eq_1 ZZ Pb.eq_1 Pa.eq_1 Tb.eq_1 Ta.eq_1
@[go_sem]theorem ajd(f:IX->AV)(E:St)(ne:Bool)(x:IX):pv (.Xn ne x) f E=KQ ne (f x):=rfl
@[go_sem]theorem ahE(f:IX->AV)(E:St)(z n:Nat)(x:IX):pv (.Kh z n x) f E=.no:=rfl
attribute[go_sem] ju.eq_29
attribute[go_sem] xi.eq_1
@[go_sem]theorem ahj(z:Nat)(k:IntKind)(n:Int):xi z (.int k n)=.int k n:=rfl
@[go_sem]theorem aeT(z:Nat)(b:Bool):xi z (.bool b)=.bool b:=rfl
@[go_sem]theorem ahk(z b o:Nat):xi z (.ref b o)=.ref b o:=rfl
@[go_sem]theorem ai7(z b:Nat):xi z (.mp b)=.mp b:=rfl
attribute[go_sem] ZX
@[go_sem]theorem ae5(f:IX->AV)(E:St)(g i:Nat)(xs:List IX):pv (.xU g i xs) f E=.no:=rfl
attribute[go_sem] ju.eq_35
attribute[go_sem] KQ.eq_1 KQ.eq_2
attribute[go_sem] M4.eq_1 qf.eq_1 Au.eq_1 zu.eq_1 Tu.eq_1 Tu.eq_2
@[go_sem]theorem afp(T:List Nat)(l:List ar):Fz P T 0 l E K=swp P l E K:=rfl
@[go_sem]theorem afo(T:List Nat)(q:Nat)(o:ar)(r:List ar):Fz P T (q+1) (o::r) E K=q2 P o E (aa6 P T q r K):=rfl
@[go_sem]theorem afn(T:List Nat)(q:Nat)(r:List ar)(τ:St):aa6 P T q r K τ=(kF T τ.e=true/\Fz P T q r τ K):=rfl
attribute[go_sem] ME.eq_1
@[go_sem]theorem alI(T:List Nat)(i:Nat)(o:ar)(r:List (Nat×Nat×ar)):ME P T ((0,i,o)::r) E K=q2 P o E (SE P T r K):=rfl
@[go_sem]theorem alJ(T:List Nat)(i:Nat)(o:ar)(r:List (Nat×Nat×ar)):ME P T ((1,i,o)::r) E K=(nj o E=true/\q2 P o E (SE P T r K)):=rfl
@[go_sem]theorem alK(T:List Nat)(i:Nat)(o:ar)(r:List (Nat×Nat×ar)):ME P T ((2,i,o)::r) E K=WA P o E (SE P T r K):=rfl
@[go_sem]theorem alL(T:List Nat)(i:Nat)(o:ar)(r:List (Nat×Nat×ar)):ME P T ((3,i,o)::r) E K=MF P o E (SE P T r K):=rfl
attribute[go_sem] SE.eq_1
@[go_sem]theorem afK(d:Option Nat)(f:Nat)(args:List IX):WA P ⟨d,.call f args,none⟩ E K=(bn E d=true/\vT P f E d K (cL (xg true E) args)):=by
  show(bn E d=true/\zt P f E.s (Sy E d K) (cL (xg true E) args))=_
  cases cL (xg true E) args<;>rfl
@[go_sem]theorem aei(d:Option Nat)(n:Nat)(p v:IX):WA P ⟨d,.store n p v,none⟩ E K=(bn E d=true/\pV n E.s (Sy E d K) (E.x v) (E.x p)):=rfl
@[go_sem]theorem aeh(d:Option Nat)(x:IX):WA P ⟨d,.nK x,none⟩ E K=(bn E d=true/\oP E.s (Sy E d K) (E.x x)):=rfl
attribute[go_sem] Sy.eq_1 pV.eq_1 OV.eq_1
attribute[go_sem] nj
@[go_sem]theorem aeU(k:IntKind)(n:Int):LN (.int k n)=true:=rfl
@[go_sem]theorem ahl(b o:Nat):pz (.lp b o)=true:=rfl
@[go_sem]theorem ahm(cs:List AV):pz (.sp cs)=true:=rfl
@[go_sem]theorem aeV(cs:List AV):pz (.loc cs)=true:=rfl
attribute[go_sem] kF.eq_1 kF.eq_2 xh.eq_1 xh.eq_2 nO.eq_1
attribute[go_sem] aa4.eq_1 q2.eq_1 q2.eq_2
attribute[go_sem] q2.eq_3
@[go_sem]theorem acG(c':Nat)(b:Bool):nO c' (.bool b)=true:=rfl
@[go_sem]theorem aeG(c':Nat)(k:IntKind)(n:Int):nO c' (.int k n)=true:=rfl
@[go_sem]theorem acH(c':Nat):nO c' (.fM)=true:=rfl
@[go_sem]theorem aeI(c':Nat)(b o:Nat):nO c' (.ref b o)=true:=rfl
@[go_sem]theorem aeH(c':Nat)(cs:List AV):nO c' (.loc cs)=true:=rfl
@[go_sem]theorem ag4(c':Nat)(o:Bool)(s n:Nat)(cs:List AV):nO c' (.sl o s n cs)=true:=rfl
@[go_sem]theorem aeF(c':Nat)(cs:List AV):nO c' (.agg cs)=true:=rfl
@[go_sem]theorem aeJ(c':Nat)(cs:List AV):nO c' (.iJ cs)=true:=rfl
@[go_sem]theorem ag3(c':Nat)(f:Nat)(x y:List AV):nO c' (.fn f x y)=true:=rfl
attribute[go_sem] bn.eq_2 bn.eq_1
@[go_sem]theorem aaL(b:Bool)(a:AV):bF (.when b a)=true:=rfl
@[go_sem]theorem aeX(b o:Nat):bF (.lp b o)=true:=rfl
@[go_sem]theorem Yn:bF (.undef)=true:=rfl
@[go_sem]theorem aaJ(b:Bool):bF (.bool b)=true:=rfl
@[go_sem]theorem acX(k:IntKind)(n:Int):bF (.int k n)=true:=rfl
@[go_sem]theorem acZ(s:List UInt8):bF (.str s)=true:=rfl
@[go_sem]theorem aaK:bF (.fM)=true:=rfl
@[go_sem]theorem acY(b o:Nat):bF (.ref b o)=true:=rfl
@[go_sem]theorem ae0(cs:List AV):bF (.sp cs)=true:=rfl
@[go_sem]theorem aeZ(o:Bool)(z n:Nat)(cs:List AV):bF (.sl o z n cs)=true:=rfl
@[go_sem]theorem acW(b o l c:Nat):bF (.arr b o l c)=true:=rfl
@[go_sem]theorem acV(cs:List AV):bF (.agg cs)=true:=rfl
@[go_sem]theorem ac0(cs:List AV):bF (.iJ cs)=true:=rfl
@[go_sem]theorem aeW(f:Nat)(x y:List AV):bF (.fn f x y)=true:=rfl
@[go_sem]theorem aeY(b:Nat):bF (.mp b)=true:=rfl
attribute[go_sem] rdO.eq_1
attribute[go_sem] Zx.eq_1 Zx.eq_2 Zx.eq_3 Sl.eq_1 Sl.eq_2 Sl.eq_3 Ol.eq_1 Ol.eq_2 qK.eq_1 qK.eq_2 qK.eq_3 Vu.eq_1 Jq.eq_1 Jq.eq_2 ale.eq_1
end
@[go_sem]theorem Xf:ed (.undef)=.undef:=rfl
@[go_sem]theorem aae(b:Bool):ed (.bool b)=.bool b:=rfl
@[go_sem]theorem abQ(k:IntKind)(n:Int):ed (.int k n)=.int k n:=rfl
@[go_sem]theorem abT(s:List UInt8):ed (.str s)=.str s:=rfl
@[go_sem]theorem aag:ed (.fM)=.fM:=rfl
@[go_sem]theorem abS(b o:Nat):ed (.ref b o)=.ref b o:=rfl
@[go_sem]theorem abR(cs:List AV):ed (.loc cs)=.loc cs:=rfl
@[go_sem]theorem aes(o:Bool)(z n:Nat)(cs:List AV):ed (.sl o z n cs)=.sl o z n cs:=rfl
@[go_sem]theorem abP(b o l c:Nat):ed (.arr b o l c)=.arr b o l c:=rfl
@[go_sem]theorem aer(f:Nat)(x y:List AV):ed (.fn f x y)=.fn f x y:=rfl
attribute[go_sem] cond.eq_1 cond.eq_2
attribute[go_sem] nxt.eq_1 nxt.eq_2 nxt.eq_3 Si.eq_1 Si.eq_2 Si.eq_3 zH.eq_1 zH.eq_2 zH.eq_3 ju.eq_1 ju.eq_2 ju.eq_3 ju.eq_4 ju.eq_5 ju.eq_6 ju.eq_7 ju.eq_8 ju.eq_9 ju.eq_10 ju.eq_11 ju.eq_12 ju.eq_13 ju.eq_14 ju.eq_15 ju.eq_16 Vl.eq_1 Hv.eq_1 unV.eq_1 unV.eq_2 uL.eq_1 j9.eq_1 j9.eq_2 vd.eq_1 mr.eq_1 Re.eq_1 ahb.eq_1 gP.eq_1 gP.eq_2 gP.eq_3 gP.eq_4 kU.eq_1 kU.eq_2 gy.eq_1 gy.eq_2 gy.eq_3 gy.eq_4 Cl.eq_1 zb.eq_1 ux.eq_1 ux.eq_2 Et.eq_1 mI.eq_1 NV.eq_1 BK.eq_1 BK.eq_2 BK.eq_3 BK.eq_4 BK.eq_5 uU.eq_1 KS.eq_1 qM.eq_1 CA.eq_1 LK.eq_1 LK.eq_2 oM.eq_1 oM.eq_2 l9.eq_1 rk.eq_1 rd.eq_1 rd.eq_2 rd.eq_3 rd.eq_4 mn.eq_1 mn.eq_2 Sk.eq_1 xS.eq_1 mM.eq_1 mM.eq_2 Cc.eq_1 QJ.eq_1 yF.eq_1 EU.eq_1 EU.eq_2 wP.eq_1 Qt.eq_1 cL.eq_1 cL.eq_2 uT.eq_1 vT.eq_1 SK.eq_1 fO.eq_1 ko.eq_1 wrL.eq_1 wrS.eq_1 Qm.eq_1 Wp.eq_1 aiH.eq_1 MB.eq_1 MB.eq_2 MB.eq_3 MU.eq_1 MU.eq_2 Np.eq_1 Fa.eq_1 Fa.eq_2 Fa.eq_3 Tv.eq_1 Tv.eq_2 sO.eq_3 sO.eq_4 sO.eq_5 sO.eq_6 sO.eq_7 sO.eq_12 sO.eq_13 sO.eq_14 sO.eq_15 sO.eq_16 sO.eq_17 Ke.eq_1 Ke.eq_2 Ke.eq_3 Ke.eq_4 Ke.eq_5 Ke.eq_6 Ke.eq_7 kk pv.eq_1 pv.eq_2 pv.eq_3 pv.eq_4 pv.eq_5 pv.eq_6 pv.eq_7 pv.eq_8 pv.eq_9 pv.eq_10 pv.eq_11 pv.eq_12 pv.eq_13 pv.eq_14 pv.eq_15 pv.eq_16 pv.eq_17 pv.eq_18 pv.eq_19 pv.eq_20 pv.eq_21 pv.eq_22 pv.eq_23 pv.eq_24 pv.eq_25 fill.eq_1 fill.eq_2
attribute[go_sem] Z8 ckP xg St.xc St.fk Wo fN Rj UU ZW ZY OC Kp St.drain
attribute[go_sem] Bool.true_or Bool.or_true Bool.or_false Bool.false_or
attribute[go_sem] bne_self_eq_false Bool.bne_true Bool.bne_false implies_true decide_true decide_false Bool.true_and Bool.and_true Bool.false_and Bool.and_false Bool.not_true Bool.not_false Bool.false_eq_true true_and List.length_cons List.length_nil List.map_cons List.map_nil List.all_nil List.all_cons List.drop_zero List.drop_succ_cons List.take_zero List.take_succ_cons Nat.zero_add List.cons_append List.nil_append List.getElem?_cons_zero List.getElem?_cons_succ
end
def VR.mono{w w':World}{R R':Nat->Nat}(hR:∀b,R b<=R' b)(hs:∀b k,k<R b->w'.cell? ⟨b,k,none⟩=w.cell? ⟨b,k,none⟩){a:AV}{v:Value}(h:VR w R a v):VR w' R' a v:=by
 induction h with
 |undef v=>exact .undef v
 |bool b=>exact .bool b
 |int k n=>exact .int k n
 |str s=>exact .str s
 |fM=>exact .fM
 |ref b off=>exact .ref b off
 |sp cs b off u hf hR' hc _ ih=>
  refine .sp cs b off u hf (Nat.le_trans hR' (hR b)) (fun j c hj=>?_) ih
  grind
 |slnil own sz=>exact .slnil own sz
 |sle sz a cap=>exact .sle sz a cap
 |sl own sz n cs b off cap u hf hl hR' fh hc _ ih=>
  refine .sl own sz n cs b off cap u hf hl (Nat.le_trans hR' (hR b)) fh (fun j c hj=>?_) ih
  grind
 |arr b off len cap=>exact .arr b off len cap
 |Ia b off=>exact .Ia b off
 |agg cs vs hf hl _ ih=>exact .agg cs vs hf hl ih
 |iJ cs vs hl _ ih=>exact .iJ cs vs hl ih
 |fn f first fC vf vc hl _ hl' _ ih ih'=>exact .fn f first fC vf vc hl ih hl' ih'
 |pP=>exact .pP
 |mp b=>exact .mp b
 |one v h=>exact .one v h
 |oQ t=>exact .oQ t
 |mw=>exact .mw
 |bb t n cs v _ h0 ih=>exact .bb t n cs v ih h0
 |uf=>exact .uf
 |when b a v _ ih=>exact .when b a v ih
theorem aI.R{G G':Gh}{w w':World}(h:aI G w G' w')(hg:cq G w):∀b,G.R b<=G'.R b:=fun b=>by
 rcases Nat.lt_or_ge b w.heap.size with hb|hb
 ·exact h.mono b hb
 ·rw[hg.jY b hb];grind
theorem aI.cells{G G':Gh}{w w':World}(h:aI G w G' w')(hg:cq G w):∀b k,k<G.R b->w'.cell? ⟨b,k,none⟩=w.cell? ⟨b,k,none⟩:=fun b k hk=>by
 rcases Nat.lt_or_ge b w.heap.size with hb|hb
 ·exact h.nD b k hb hk
 ·rw[hg.jY b hb]at hk;omega
def aI.vr{G G':Gh}{w w':World}(h:aI G w G' w')(hg:cq G w){a:AV}{v:Value}(hv:VR w G.R a v):VR w' G'.R a v:=hv.mono (h.R hg) (h.cells hg)
theorem aI.refl(G:Gh)(w:World):aI G w G w:=⟨rfl,rfl,rfl,Nat.le_refl _,Nat.le_refl _,fun _ _=>Nat.le_refl _,fun _ _ _ _=>rfl,fun _ _ _=>rfl,fun _ _ h=>⟨h,rfl⟩,fun _ _ h=>⟨h,rfl⟩⟩
def aI.trans{G₁ G₂ G₃:Gh}{w₁ w₂ w₃:World}(h:aI G₁ w₁ G₂ w₂)(k:aI G₂ w₂ G₃ w₃):aI G₁ w₁ G₃ w₃ where
 os:=k.os.trans h.os
 tape:=k.tape.trans h.tape
 output:=k.output.trans h.output
 drawn:=Nat.le_trans h.drawn k.drawn
 size:=Nat.le_trans h.size k.size
 mono:=fun b hb=>Nat.le_trans (h.mono b hb) (k.mono b (Nat.lt_of_lt_of_le hb h.size))
 nD:=fun b j hb hj=>(k.nD b j (Nat.lt_of_lt_of_le hb h.size) (Nat.lt_of_lt_of_le hj (h.mono b hb))).trans (h.nD b j hb hj)
 frame:=fun b hb ho=>by
  refine(k.frame b (Nat.lt_of_lt_of_le hb h.size) ?_).trans (h.frame b hb ho)
  rcases ho with ho|ho
  ·exact .inl (h.jF b hb ho).1
  ·exact .inr (h.pZ b hb ho).1
 jF:=fun b hb ho=>
  let⟨o2,r2⟩:=h.jF b hb ho
  let⟨o3,r3⟩:=k.jF b (Nat.lt_of_lt_of_le hb h.size) o2
  ⟨o3,r3.trans r2⟩
 pZ:=fun b hb ho=>
  let⟨o2,r2⟩:=h.pZ b hb ho
  let⟨o3,r3⟩:=k.pZ b (Nat.lt_of_lt_of_le hb h.size) o2
  ⟨o3,r3.trans r2⟩
def dI.mono{G G':Gh}{w w':World}{o:dh}{a:AV}{v:Value}(h:dI G w o a v)(hb:∀b,G.O b=o->G'.O b=o/\G'.R b=G.R b/\w'.heap[b]? =w.heap[b]?):dI G' w' o a v:=by
 unfold dI at*
 split
 ·grind
 ·grind
 ·trivial
theorem Fl.views{cs:List AV}(h:Fl cs):Fl (views cs):=by
 intro c hc
 simp[AB.views,List.mem_map]at hc
 obtain⟨c',h1,rfl⟩:=hc
 have:=h c' h1
 cases c'<;>simp_all [qO,dF,AB.view]
theorem Gk.views{t:Nat}{cs:List AV}(h:Gk t cs):Fl (AB.views cs):=by
 intro c hc
 simp[AB.views,List.mem_map]at hc
 obtain⟨c',h1,rfl⟩:=hc
 rcases h c' h1 with h|rfl
 ·cases c'<;>simp_all [qO,dF,AB.view]
 ·rfl
theorem Gk.flat{t:Nat}{cs:List AV}(h:Gk t cs)(hv:AB.views cs=cs):Fl cs:=hv▸h.views
def Gk.left{t:Nat}{cs sp:List AV}(h:Gk t (cs++sp)):Gk t cs:=fun c hc=>h c (List.mem_append_left _ hc)
def Fl.tag{cs:List AV}(h:Fl cs)(t:Nat):Gk t cs:=fun c hc=>.inl (h c hc)
theorem Fl.sub{cs:List AV}(h:Fl cs)(off n:Nat):Fl (sub cs off n):=fun c hc=>h c (List.mem_of_mem_drop (List.mem_of_mem_take hc))
theorem Fl.drop{cs:List AV}(h:Fl cs)(off:Nat):Fl (cs.drop off):=fun c hc=>h c (List.mem_of_mem_drop hc)
def Fl.nil:Fl []:=fun c hc=>A_
theorem dI.view(G:Gh)(w:World)(o:dh)(a:AV)(v:Value):dI G w o (view a) v:=by cases a<;>first|trivial|(rename_i own sz n cs)
theorem VR.view{w:World}{R:Nat->Nat}{a:AV}{v:Value}(h:VR w R a v):VR w R (view a) v:=by
 cases h with
 |slnil own sz=>exact .slnil false sz
 |sle sz a cap=>exact .sle sz a cap
 |sl own sz n cs b off cap u hf hl hR fh hc hr=>exact .sl false sz n cs b off cap u hf hl hR fh hc hr
 |undef v=>exact .undef v
 |bool b=>exact .bool b
 |int k n=>exact .int k n
 |str s=>exact .str s
 |fM=>exact .fM
 |ref b off=>exact .ref b off
 |sp cs b off u hf hR hc hr=>exact .sp cs b off u hf hR hc hr
 |arr b off len cap=>exact .arr b off len cap
 |Ia b off=>exact .Ia b off
 |agg cs vs hf hl hr=>exact .agg cs vs hf hl hr
 |iJ cs vs hl hr=>exact .iJ cs vs hl hr
 |fn f first fC vf vc hl hr hl' hr'=>exact .fn f first fC vf vc hl hr hl' hr'
 |pP=>exact .pP
 |mp b=>exact .mp b
 |one v h=>exact .one v h
 |oQ t=>exact .fM
 |mw=>exact .mw
 |bb t n cs v h h0=>
  cases h with
  |slnil=>exact .slnil false 1
  |sl _ _ _ _ b off cap u hf hl hR fh hc hr=>exact .sl false 1 n cs b off cap u hf hl hR fh hc hr
 |uf=>exact .uf
 |when b a v h=>exact .when b a v h
def dY.mono{G G':Gh}{w w':World}{o:Nat->dh}{cs:List AV}{c:Array Value}(h:dY G w o cs c)(hv:∀a v,VR w G.R a v->VR w' G'.R a v)
 (hb:∀b j,G.O b=o j->G'.O b=o j/\G'.R b=G.R b/\w'.heap[b]? =w.heap[b]?):dY G' w' o cs c:=
 ⟨h.1,fun j x y hx hy=>⟨hv _ _ (h.2 j x y hx hy).1,(h.2 j x y hx hy).2.mono fun b=>hb b j⟩⟩
theorem dZ.si{G:Gh}{w:World}{e:List (Nat×AV)}{tmps:Array Value}{i:Nat}{a:AV}{v:Value}(h:dF a=true):dZ G w e tmps i a v↔(VR w G.R a v/\dI G w (.slot i 0) a v):=by cases a<;>simp_all [dF,dZ]
theorem dZ.yH{G:Gh}{w:World}{e:List (Nat×AV)}{tmps:Array Value}{i:Nat}{a:AV}{v:Value}(h:dF a=true)(hv:VR w G.R a v):dZ G w e tmps i (view a) v:=by
 have h':dF (view a)=true:=by cases a<;>simp_all [dF,view]
 rw[dZ.si h']
 exact⟨hv.view,dI.view ..⟩
theorem dZ.frame{G G':Gh}{w w':World}{e e':List (Nat×AV)}{tmps Qh:Array Value}{i:Nat}
 (hv:∀a v,VR w G.R a v->VR w' G'.R a v)
 (wW:∀b,(∃j,G.O b=.slot i j)\/G.O b=.loc i->G'.O b=G.O b/\G'.R b=G.R b/\w'.heap[b]? =w.heap[b]?)
 (dG:∀b c j,G.O b=.loc i->G.O c=.cell b j->G'.O c=.cell b j/\G'.R c=G.R c/\w'.heap[c]? =w.heap[c]?):
 ∀(a:AV)(v:Value)(_:∀d,bO a d->∀cs,look e' d=.loc cs->∃cs',look e d=.loc cs'/\Qh[d]? =tmps[d]?)
  (_:dZ G w e tmps i a v),dZ G' w' e' Qh i a v
 |.loc cs,v,_,h=>by
  obtain⟨b,c,t,h1,h2,h3,h4,h5,h6⟩:=h
  obtain⟨k1,k2,k3⟩:=wW b (.inr h2)
  exact⟨b,c,t,h1,k1.trans h2,k2.trans h3,k3.trans h4,h5.mono hv fun c j hc=>dG b c j h2 hc,h6⟩
 |.lp d off,v,hlp,h=>by
  obtain⟨b,h3,h4⟩:=h
  refine⟨b,h3,fun cs hcs=>?_⟩
  obtain⟨cs',h1,h2⟩:=hlp d rfl cs hcs
  grind
 |.iJ vs,v,_,h=>by
  obtain⟨ys,h1,h2⟩:=h
  exact⟨ys,h1,h2.mono hv fun b j hb=>A_⟩
 |.when b a,v,hlp,h=>⟨fun hb=>dZ.frame hv wW dG a v hlp (h.1 hb),h.2⟩
 |.us sz n cs,v,_,h=>by
  rcases h with h|⟨b,cap,c,t,sp,h1,h2,h3,h4,h5,h6,h7,h8,h9,h10,h11⟩
  ·exact .inl h
  ·obtain⟨k1,k2,k3⟩:=wW b (.inl ⟨_,h4⟩)
   exact .inr ⟨b,cap,c,t,sp,h1,h2,h3,k1.trans h4,k2.trans h5,k3.trans h6,h7,h8,h9,fun j x u hx hu=>hv _ _ (h10 j x u hx hu),h11⟩
 |.undef,v,_,h|.bool _,v,_,h|.int _ _,v,_,h|.str _,v,_,h|.fM,v,_,h|.ref _ _,v,_,h|.sp _,v,_,h|.sl _ _ _ _,v,_,h|.arr _ _ _ _,v,_,h|.agg _,v,_,h
 |.fn _ _ _,v,_,h|.pP,v,_,h|.mp _,v,_,h|.uf,v,_,h|.one,v,_,h|.oQ _,v,_,h|.mw,v,_,h|.bb _ _ _,v,_,h=>by
  refine⟨hv _ _ h.1,h.2.mono fun b hb=>?_⟩
  grind
theorem bj(j i:Nat)(a:AV)(l:List (Nat×AV)):look ((j,a)::l) i=if j=i then a else look l i:=by grind [look]
theorem Inv.put{G G':Gh}{n:Nat}{D:List Deferred}{E:St}{s':ae}{lp':List (Nat×Nat)}{a:Act}{w w':World}(h:Inv G n D E a w)(d:Option Nat)(hd:∀i,d=some i->i<n)(av:AV)(v:Value)
 (ks:cq G' w')(bK:aI G w G' w')(ez:ba G' w' s')
 (hlp:∀x∈E.lp,x∈lp')(agy:∀i t,d=some i->bO av t->(i,t)∈lp')
 (aao:∀i t,d=some i->(∃cs,av=.loc cs)->(t,i)∉E.lp)
 (wW:∀i b,d≠some i->(∃j,G.O b=.slot i j)\/G.O b=.loc i->G'.O b=G.O b/\G'.R b=G.R b/\w'.heap[b]? =w.heap[b]?)
 (dG:∀i b c j,d≠some i->G.O b=.loc i->G.O c=.cell b j->G'.O c=.cell b j/\G'.R c=G.R c/\w'.heap[c]? =w.heap[c]?)
 (XI:∀i,d=some i->dZ G' w' ((E.put d av).e) (a.put d v).tmps i av v):
 Inv G' n D {(E.put d av)with s:=s',lp:=lp'} (a.put d v) w':=by
 cases d with
 |none=>
  refine⟨ks,ez,h.size,fun i u hu=>?_,h.E6,fun i t ht=>hlp _ (h.MG i t ht),h.qL⟩
  exact dZ.frame (fun _ _ hv=>bK.vr h.bc hv) (fun b=>wW i b BY) (fun b c j=>dG i b c j BY) _ _ (fun t _ cs hcs=>⟨cs,hcs,rfl⟩) (h.cH i u hu)
 |some d=>
  refine⟨ks,ez,by simp[Act.put,h.size],fun i u hu=>?_,fun i hi=>?_,fun i t ht=>?_,h.qL⟩
  ·by_cases hid:d=i
   ·subst hid
    have hu':u=v:=by
     have hlt:d<a.tmps.size:=by rw[h.size];exact hd d rfl
     simp[Act.put,hlt]at hu
     exact hu.symm
    subst hu'
    have:look (E.put (some d) av).e d=av:=Z_
    grind
   ·have hne:(some d:Option Nat)≠some i:=fun e=>hid (Option.some.inj e)
    have hu':a.tmps[i]? =some u:=by simpa[Act.put,Array.getElem?_setIfInBounds_ne hid]using hu
    have:look (E.put (some d) av).e i=look E.e i:=by simp[St.put,bj,hid]
    rw[this]
    refine dZ.frame (fun _ _ hv=>bK.vr h.bc hv) (fun b=>wW i b hne) (fun b c j=>dG i b c j hne) _ _ (fun t ht cs hcs=>?_) (h.cH i u hu')
    have IJ:=h.MG i t ht
    by_cases hdt:d=t
    ·subst hdt
     simp only[St.put,bj,if_true]at hcs
     grind
    grind [St.put,bj,Act.put,Array.getElem?_setIfInBounds_ne]
  ·have:d≠i:=by have:=hd d rfl;omega
   simp[St.put,bj,this,h.E6 i hi]
  ·by_cases hid:d=i
   ·subst hid
    simp only[St.put,bj,if_true]at ht
    grind
   ·simp only[St.put,bj,hid,if_false]at ht
    exact hlp _ (h.MG i t ht)
def cR:Value->AV->Bool
 |.bool a,.bool b=>a==b
 |.int k n,.int k' m=>decide (k=k')&&n==m
 |.string s,.str t=>s.data.toList==t
 |.pointer none,.fM=>true
 |.slice none 0 0,.sl _ _ 0 []=>true
 |.slice none 0 0,.arr _ _ 0 0=>true
 |.slice none 0 0,.bb _ 0 []=>true
 |.map none,.uf=>true
 |.nilFunc,.pP=>true
 |.nilIface,.mw=>true
 |_,_=>false
def M0:List Value->List AV->Bool
 |[],[]=>true
 |v::vs,a::as=>cR v a&&M0 vs as
 |_,_=>false
def bN:Operand->IX->Bool
 |.tmp t,.t i=>t==i
 |.const (.agg vs),.c (.agg cs)=>M0 vs.toList cs
 |.const v,.c a=>cR v a
 |.func f,.c (.fn g [] [])=>f==g
 |_,_=>false
def gZ:List Operand->List IX->Bool
 |[],[]=>true
 |o::os,x::xs=>bN o x&&gZ os xs
 |_,_=>false
def E5:Option Operand->Option IX->Bool
 |none,none=>true
 |some o,some x=>bN o x
 |_,_=>false
section
variable(P:Program)
def df(t:TypeId)(n:Nat):Bool:=match P.info? t with
 |some i=>i.size==n
 |none=>false
def lE(t:TypeId)(n:Nat):Bool:=match P.info? t with
 |some i=>i.bytes==n
 |none=>false
def qG(t:TypeId)(multi:Bool):Bool:=match P.underlying t with
 |some (.struct _)|some (.array _ _)=>multi
 |some _=>!multi
 |none=>false
def pK(t:TypeId)(z:List AV):Bool:=match P.info? t with
 |some i=>(match i.zero with
  |some v=>M0 v.cells.toList z&&i.size==z.length
  |none=>false)
 |none=>false
def cV(t:TypeId):Option TypeId:=match P.underlying t with
 |some (.slice e)=>some e
 |_=>none
def Aj(fs:Array Field):List (Nat×Operand)->List (Nat×Nat×IX)->Bool
 |[],[]=>true
 |(i,o)::r,(off,n,x)::s=>(match fs[i]? with
  |some f=>f.offset==off&&df P f.type n
  |none=>false)&&bN o x&&Aj fs r s
 |_,_=>false
def uj(sz:Nat):List (Nat×Operand)->List (Nat×Nat×IX)->Bool
 |[],[]=>true
 |(i,o)::r,(off,n,x)::s=>i*sz==off&&n==sz&&bN o x&&uj sz r s
 |_,_=>false
def XV(t:TypeId):Bool:=match P.underlying t with
 |some (.int _)=>true
 |_=>false
def ZV(t:TypeId):Bool:=match P.underlying t with
 |some .bool=>true
 |_=>false
def OD(t:TypeId):Bool:=match P.underlying t with
 |some .string=>true
 |_=>false
def ahz(t:TypeId):Bool:=match P.underlying t with
 |some (.pointer e)=>(P.info? e).isSome
 |_=>false
def zi(e:TypeId)(sz:Nat):Bool:=match P.info? e with
 |some i=>(match i.zero with
  |some v=>v.cells.size==sz&&v.cells.toList.all Value.oneCell'
  |none=>false)
 |none=>false
def Sc(b:Builtin)(c:Call):Option (List Operand×List TypeId):=match c.callee with
 |.builtin b'=>if b'=b then some (c.args.toList,c.argTypes.toList)else none
 |_=>none
def ag2(t:TypeId)(cls:Nat):Bool:=match P.underlying t with
 |some (.slice _)=>cls==0
 |some .string=>cls==1
 |some (.map _ _)=>cls==2
 |_=>false
def ajQ(t:TypeId)(n:Nat):Bool:=match P.underlying t with
 |some (.array m _)=>n==m
 |_=>false
def NP(t:TypeId):mb->Bool
 |.int k=>(match P.underlying t with|some (.int k')=>Q9 k k'|_=>false)
 |.str=>(match P.underlying t with|some .string=>true|_=>false)
 |.bool=>(match P.underlying t with|some .bool=>true|_=>false)
 |.bytes n=>(match P.underlying t with
  |some (.array m e)=>m==n&&(match P.underlying e with|some (.int .u8)=>true|_=>false)&&df P e 1
  |_=>false)
def OM(t:TypeId)(z:AV):Bool:=match P.info? t with
 |some i=>(match i.zero with
  |some v=>(match z,v with
   |.agg cs,.agg vs=>M0 vs.toList cs
   |z,v=>cR v z)
  |none=>false)
 |none=>false
def Gy:List Field->Nat->Bool
 |[],_=>true
 |f::r,k=>f.name != "_" &&f.offset==k&&XV P f.type&&qG P f.type false&&Gy r (k+1)
def adZ(t:TypeId)(n:Nat):Bool:=match P.underlying t with
 |some (.struct fs)=>Gy P fs.toList 0&&fs.size==n&&!P.stoodInHeld t&&!P.eqGuardType P.depth t
 |_=>false
def aw(op:Op)(_ty:TypeId)(o:rF):Bool:=
 match o,op with
 |.px _ x,.move y=>bN y x
 |.px _ x,.assign y=>bN y x
 |.pick c x y,.pick c' x' y'=>bN c' c&&bN x' x&&bN y' y
 |.kj z,.alloc t=>pK P t z
 |.nv z,.alloc t=>pK P t z
 |.Kg n x,.box t y=>df P t n&&bN y x
 |.Bq n x,.box t y=>df P t n&&bN y x
 |.build z ps,.build t qs=>pK P t z&&(match P.underlying t with
  |some (.struct fs)=>Aj P fs qs.toList ps&&fs.all fun f=>(P.info? f.type).isSome
  |some (.array _ e)=>(match P.info? e with
   |some i=>uj i.size qs.toList ps
   |none=>false)
  |_=>false)
 |.ik sz n z ps,.buildSlice t m qs=>n==m&&(match cV P t with
  |some e=>df P e sz&&decide (0<sz)&&uj sz qs.toList ps&&decide (n*sz<=2^24)&&(match P.info? e with
   |some i=>(match i.zero with
    |some v=>M0 ((List.replicate n v.cells.toList).flatten) z&&v.cells.size==sz
    |none=>false)
   |none=>false)
  |none=>false)
 |.nN _ x,.load t y=>df P t 1&&qG P t false&&bN y x
 |.kE z multi x,.load t y=>df P t z.length&&qG P t multi&&(multi||z.length==1)&&bN y x
 |.lookup kk z ok x k,.lookup t y j ok'=>bN y x&&bN j k&&ok==ok'&&(match P.underlying t with
  |some (.map kt et)=>NP P kt kk&&OM P et z
  |_=>false)
 |.mapUpdate kk x k v,.mapUpdate t y j u=>bN y x&&bN j k&&bN u v&&(match P.underlying t with
  |some (.map kt _)=>NP P kt kk
  |_=>false)
 |.vJ x,.move y=>bN y x
 |.vJ x,.assign y=>bN y x
 |.oY (.t i),.convert s t y=>bN y (.t i)&&s==t&&(match P.underlying s with
  |some (.slice e)=>(match P.underlying e with|some (.int .u8)=>true|_=>false)
  |_=>false)
 |.load n multi x,.load t y=>df P t n&&qG P t multi&&(multi||n==1)&&bN y x
 |.store n p v,.store t q u=>df P t n&&bN q p&&bN u v
 |.nilCheck x,.nilCheck y=>bN y x
 |.bin bo x y,.binOp b _ u v _=>decide (bo=b)&&bN u x&&bN v y
 |.eqB ne x y,.binOp b t u v _=>decide (b=if ne then .neq else .eql)&&bN u x&&bN v y&&ZV P t
 |.WB ne x y,.binOp b t u v _=>decide (b=if ne then .neq else .eql)&&bN u x&&bN v y&&ahz P t
 |.WC ne x y,.binOp b t u v _=>decide (b=if ne then .neq else .eql)&&bN u x&&bN v y&&(cV P t).isSome
 |.un uo x,.unOp u _ y=>decide (uo=u)&&bN y x
 |.nx k x,.convert s t y=>bN y x&&(match P.underlying s,P.underlying t with
  |some (.int _),some (.int k')=>decide (k=k')
  |_,_=>false)
 |.kP x,.convert s t y=>bN y x&&(match P.underlying s,P.underlying t with
  |some (.slice e),some .string=>(match P.underlying e with|some (.int .u8)=>true|_=>false)
  |_,_=>false)
 |.lU x i,.index t y j=>bN y x&&bN j i&&OD P t
 |.fieldAddr off x,.fieldAddr t y i=>bN y x&&(match P.underlying t with
  |some (.struct fs)=>(match fs[i]? with
   |some f=>f.offset==off&&(match P.info? f.type with|some j=>decide (0<j.size)|none=>false)
   |none=>false)
  |_=>false)
 |.indexAddr z x i,.indexAddr t y j=>bN y x&&bN j i&&(match cV P t with
  |some e=>df P e z.length
  |none=>false)
 |.jz sz len x i,.indexAddr t y j=>bN y x&&bN j i&&(match P.underlying t with
  |some (.array l e)=>l==len&&df P e sz
  |_=>false)
 |.slice sz x lo hi mx,.slice t y l h m=>bN y x&&E5 l lo&&E5 h hi&&E5 m mx&&(match cV P t with
  |some e=>df P e sz
  |none=>false)
 |.qy x lo hi,.slice t y l h none=>bN y x&&E5 l lo&&E5 h hi&&OD P t
 |.extract x k,.extract y j=>bN y x&&k==j
 |.len cls x,.call c=>(match Sc .len c with
  |some (y::_,t::_)=>bN y x&&ag2 P t cls
  |_=>false)
 |.cap x,.call c=>(match Sc .cap c with
  |some (y::_,t::_)=>bN y x&&(cV P t).isSome
  |_=>false)
 |.mq true xs,.call c=>(match Sc .max c with
  |some (ys,_)=>gZ ys xs
  |_=>false)
 |.mq false xs,.call c=>(match Sc .min c with
  |some (ys,_)=>gZ ys xs
  |_=>false)
 |.append sz by' x y,.call c=>(match Sc .append c with
  |some ([u,v],[t,t'])=>bN u x&&bN v y&&(match cV P t with
   |some e=>df P e sz&&lE P e by'&&decide (0<sz)&&decide (0<by')&&zi P e sz&&((cV P t').isSome||OD P t')
   |none=>false)
  |_=>false)
 |.lP sz by' z l c,.makeSlice t l' c'=>bN l' l&&bN c' c&&(match cV P t with
  |some e=>df P e sz&&lE P e by'&&pK P e z&&decide (0<sz)&&decide (0<by')
  |none=>false)
 |.makeMap,.makeMap _ none=>true
 |.call f args,.call c=>(match c.callee with
  |.value (.func g)=>f==g&&gZ c.args.toList args&&(match P.funcs[f]? with
   |some fn=>fn.name != "runtime.NumGoroutine" &&fn.body.isSome
   |none=>false)
  |_=>false)
 |.iL x args,.call c=>(match c.callee with
  |.value y=>bN y x&&gZ c.args.toList args
  |_=>false)
 |.ue f a b,.makeFunc (.func g) c d=>f==g&&gZ c.toList a&&gZ d.toList b
 |.mV sz n z ps,.buildSlice t m qs=>n==m&&(match cV P t with
  |some e=>df P e sz&&decide (0<sz)&&uj sz qs.toList ps&&decide (n*sz<=2^24)&&(match P.info? e with
   |some i=>(match i.zero with
    |some v=>M0 ((List.replicate n v.cells.toList).flatten) z&&v.cells.size==sz
    |none=>false)
   |none=>false)
  |none=>false)
 |.nU sz by' z x y,.call c=>(match Sc .append c with
  |some ([u,v],[t,t'])=>bN u x&&bN v y&&(match cV P t with
   |some e=>df P e sz&&lE P e by'&&decide (0<sz)&&decide (0<by')&&zi P e sz&&pK P e z&&((cV P t').isSome||OD P t')
   |none=>false)
  |_=>false)
 |.pU sz by' z x y,.call c=>(match Sc .append c with
  |some ([u,v],[t,t'])=>bN u x&&bN v y&&XV P t'&&(match cV P t with
   |some e=>df P e sz&&lE P e by'&&decide (0<sz)&&decide (0<by')&&pK P e z
   |none=>false)
  |_=>false)
 |.AL sz x y,.call c=>(match Sc .copy c with
  |some ([u,v],[t,_])=>bN u x&&bN v y&&(match cV P t with
   |some e=>df P e sz
   |none=>false)
  |_=>false)
 |.tx z x,.call c=>(match Sc .clear c with
  |some (u::_,t::_)=>bN u x&&(match cV P t with
   |some e=>pK P e z
   |none=>false)
  |_=>false)
 |.A9 _ _ x,.load t y=>df P t 1&&qG P t false&&bN y x
 |.WD _ _ x,.move y=>bN y x
 |.WD _ _ x,.assign y=>bN y x
 |.nK x,.load t y=>(cV P t).isSome&&df P t 1&&qG P t false&&bN y x
 |.nL _ _ x,.load t y=>(cV P t).isSome&&df P t 1&&qG P t false&&bN y x
 |.eqN ne x,.binOp b t u v _=>decide (b=if ne then .neq else .eql)&&bN u x&&(match v with|.const (.slice none 0 0)=>true|_=>false)&&(cV P t).isSome
 |.xU f i args,.call c=>args.any (fun x=>match x with|.t j=>j==i|_=>false)&&(match c.callee with
  |.value (.func g)=>f==g&&gZ c.args.toList args&&(match P.funcs[f]? with
   |some fn=>fn.name != "runtime.NumGoroutine" &&fn.body.isSome
   |none=>false)
  |_=>false)
 |.Xn ne x,.binOp b t u v _=>decide (b=if ne then .neq else .eql)&&bN u x&&(match v with|.const .nilFunc=>true|_=>false)&&(match P.underlying t with|some (.func _ _ _)=>true|_=>false)
 |.Xo ne x,.binOp b t u v _=>decide (b=if ne then .neq else .eql)&&bN u x&&(match v with|.const .nilIface=>true|_=>false)&&(match P.underlying t with|some (.interface _)=>true|_=>false)
 |.KA x,.convert s t y=>bN y x&&(match P.underlying s with|some (.pointer e)=>(match P.info? e with|some j=>j.size !=0|none=>false)|_=>false)&&(match P.underlying t with|some .unsafePointer=>true|_=>false)
 |.Kz u x,.convert s t y=>bN y x&&(match P.underlying s with|some .unsafePointer=>true|_=>false)&&(match P.underlying t with|some (.pointer e)=>e==u&&(P.info? e).isSome|_=>false)
 |.AI f x,.call c=>(match c.callee with
  |.value (.func g)=>f==g&&gZ c.args.toList [x]
  |_=>false)
 |.Ki n t j u x,.box t' y=>t==t'&&df P t n&&bN y x
 |.pT u x y,.call c=>(match Sc .append c with
  |some ([p,q],[t,t'])=>bN p x&&bN q y&&(match cV P t with
   |some e=>df P e 1&&lE P e 1&&zi P e 1&&((cV P t').isSome||OD P t')&&e==u
   |none=>false)
  |_=>false)
 |.Kh _ n x,.box t y=>df P t n&&bN y x
 |.ovl f x y,.call c=>(match c.callee with
  |.value (.func g)=>f==g&&gZ c.args.toList [x,y]
  |_=>false)
 |_,_=>false
def WY(ops:Array Oper):Option (Nat×Bool)->Option (Nat×Bool)->Bool
 |none,none=>true
 |some (j,w),some (t,w')=>w==w'&&((ops[j]?).bind (·.dst))==some t
 |_,_=>false
def bq(n:Nat):Option Nat->Bool
 |none=>true
 |some d=>decide (d<n)
def iW(n:Nat)(ops:Array Oper)(o:Oper)(o':ar):Bool:=o.dst==o'.dst&&bq n o'.dst&&WY ops o.guard o'.g&&aw P o.op o.type o'.op
def cI(n:Nat)(ops:Array Oper):List Oper->List ar->Bool
 |[],[]=>true
 |o::r,o'::r'=>iW P n ops o o'&&cI n ops r r'
 |_,_=>false
def oX:Option IX->List IX
 |some x=>[x]
 |none=>[]
def eT:rF->List IX
 |.px _ x|.Kg _ x|.Bq _ x|.load _ _ x|.nilCheck x|.un _ x|.nx _ x|.kP x|.fieldAddr _ x|.extract x _|.len _ x|.cap x|.kE _ _ x|.oY x|.vJ x|.tx _ x|.WD _ _ x|.A9 _ _ x|.nK x|.eqN _ x|.Xn _ x|.Xo _ x|.KA x|.AI _ x|.Kz _ x|.Ki _ _ _ _ x|.Kh _ _ x|.nN _ x=>[x]
 |.nL _ j x=>[j,x]
 |.pick c x y=>[c,x,y]
 |.kj _|.nv _|.makeMap=>[]
 |.build _ ps|.ik _ _ _ ps|.mV _ _ _ ps=>ps.map fun p=>p.2.2
 |.store _ x y|.bin _ x y|.eqB _ x y|.WB _ x y|.WC _ x y|.lU x y|.indexAddr _ x y|.jz _ _ x y|.append _ _ x y|.pT _ x y|.lP _ _ _ x y|.lookup _ _ _ x y|.nU _ _ _ x y|.pU _ _ _ x y|.AL _ x y|.ovl _ x y=>[x,y]
 |.slice _ x lo hi mx=>x::(oX lo++(oX hi++oX mx))
 |.qy x lo hi=>x::(oX lo++oX hi)
 |.mq _ xs=>xs
 |.mapUpdate _ x y z=>[x,y,z]
 |.call _ xs|.xU _ _ xs=>xs
 |.iL x xs=>x::xs
 |.ue _ xs ys=>xs++ys
def Ci:List IX->List Nat
 |[]=>[]
 |.t i::r=>i::Ci r
 |.c _::r=>Ci r
def abX:Option (Nat×Bool)->List Nat
 |some (t,_)=>[t]
 |none=>[]
def cH(o:ar):List Nat:=abX o.g++Ci (eT o.op)
def iP(d:Option Nat)(l:List Nat):Bool:=match d with
 |some d=>!l.contains d
 |none=>true
def kI(o:ar)(i:Nat):Bool:=match o.op with
 |.px true (.t j)=>j==i
 |_=>false
def U2(x y:ar):Bool:=(cH y).all fun i=>!kI x i
def ap(x y:ar):Bool:=(U2 x y&&U2 y x)&&iP x.dst (cH y)&&iP y.dst (cH x)&&(match x.dst,y.dst with
 |some i,some j=>i !=j
 |_,_=>true)
def iU(ops:Array Oper)(j i:Nat):Bool:=match ops[j]? with
 |some o=>o.after.any fun e=>Region.binds .any e&&e.on==i
 |none=>false
def O0(ops:Array Oper)(q:Nat):Bool:=(List.range q).all fun k=>match ops[k]? with
 |some o=>o.after.all fun e=>!Region.binds .any e||decide (e.on<k)
 |none=>false
def Gq(ops:Array Oper)(q:Nat):Bool:=q==ops.size||(List.range q).all fun k=>(List.range (q+1)).any fun m=>decide (k<m)&&iU ops m k
def afI(bQ:List ar)(i j:Nat):Bool:=match bQ[i]?,bQ[j]? with
 |some x,some y=>ap x y
 |_,_=>false
def Z6(ops:Array Oper)(q:Nat)(bQ:List ar):Bool:=(List.range q).all fun j=>(List.range j).all fun i=>iU ops j i||afI bQ i j
def rQ(ops:Array Oper):Nat->Nat->Array Bool->Bool
 |0,_,aS=>(Region.ready .any ops aS).isEmpty
 |fuel+1,k,aS=>Region.ready .any ops aS==[k]&&rQ ops fuel (k+1) (aS.setIfInBounds k true)
def qA(size q:Nat):Array Bool:=(Array.range size).map fun i=>decide (i<q)
def OZ(ops:Array Oper)(q:Nat)(bQ:List ar):Bool:=decide (q<=ops.size)&&(O0 ops q&&(Gq ops q&&(Z6 ops q bQ&&rQ ops (ops.size -q) q (qA ops.size q))))
def rC(o:ar):Option Nat:=match o with
 |⟨none,.store _ (.t c) _,none⟩=>some c
 |o=>o.dst
def jD(o:ar)(i:Nat):Bool:=match o.op with
 |.px true (.t j)=>j==i
 |.store _ _ (.t j)=>j==i
 |.append _ _ (.t j) _=>j==i
 |.nL _ (.t j) _=>j==i
 |_=>false
def Bb(x y:ar):Bool:=(cH y).all fun i=>!jD x i
def cOK(o:ar):Bool:=(eT o.op).all fun x=>match x with
 |.c (.lp _ _)=>false
 |.c (.when _ _)=>false
 |_=>true
def ZN(x y:ar):Bool:=(cOK x&&cOK y)&&(Bb x y&&Bb y x)&&iP (rC x) (cH y)&&iP (rC y) (cH x)&&(match rC x,rC y with
 |some i,some j=>i !=j
 |_,_=>true)
def ZO(bQ:List ar)(i j:Nat):Bool:=match bQ[i]?,bQ[j]? with
 |some x,some y=>ZN x y
 |_,_=>false
def SQ(ops:Array Oper)(q:Nat)(bQ:List ar):Bool:=(List.range q).all fun j=>(List.range j).all fun i=>iU ops j i||ZO bQ i j
def UM:rF->Bool
 |.store _ _ _=>true
 |.kj _=>true
 |.append _ _ _ _=>true
 |.nL _ _ _=>true
 |_=>false
def SP(T:List Nat)(bQ:List ar)(q:Nat):Bool:=(bQ.take q).all fun o=>match o with
 |⟨none,.store _ (.t c) _,none⟩=>T.contains c
 |⟨some d,.kj _,none⟩=>T.contains d
 |_=>true
def Ig(T:List Nat)(ops:Array Oper)(q:Nat)(bQ:List ar):Bool:=decide (q<=ops.size)&&(O0 ops q&&(Gq ops q&&(SQ ops q bQ&&(SP T bQ q&&rQ ops (ops.size -q) q (qA ops.size q)))))
abbrev Item:=Nat×Nat×ar
def N4(acc:List Nat)(o:Oper):Nat:=o.after.toList.foldl (fun s e=>bif Region.binds .any e then s |||(1<<<e.on)|||acc.getD e.on 0 else s) 0
def Hj:List Oper->List Nat->List Nat
 |[],acc=>acc
 |o::r,acc=>Hj r (acc++[N4 acc o])
def apB(y x:ar):Bool:=Bb y x&&iP (rC y) (cH x)&&iP x.dst (cH y)&&(match rC y,x.dst with
 |some i,some j=>i !=j
 |_,_=>true)
def Lx:ar->ar->Bool
 |⟨_,.load _ _ _,none⟩,⟨_,.lP _ _ _ _ _,_⟩=>true
 |⟨_,.load _ _ _,none⟩,⟨_,.nK _,_⟩=>true
 |_,_=>false
def aaB(k k':Nat)(x y:ar):Bool:=match k,k' with
 |0,0|0,1|1,0|1,1=>ZN x y
 |1,2=>apB x y
 |0,2=>Lx x y&&apB x y
 |_,_=>false
def yT(ops:Array Oper)(ms:List Nat)(x y:Item):Bool:=!iU ops x.2.1 y.2.1&&(x.2.1 !=y.2.1&&((ms.getD y.2.1 0).testBit x.2.1||
 aaB x.1 y.1 x.2.2 y.2.2))
def Ji(ops:Array Oper)(ms:List Nat):List Item->Bool
 |[]=>true
 |x::r=>r.all (yT ops ms x)&&Ji ops ms r
def Dq(T:List Nat)(n:Nat)(ops:Array Oper)(x:Item):Bool:=(match ops[x.2.1]? with
 |some o=>iW P n ops o x.2.2&&o.after.all fun e=>!Region.binds .any e||(decide (e.on<ops.size)&&e.on !=x.2.1)
 |none=>false)&&(match x.2.2 with
 |⟨none,.store _ (.t c) _,none⟩=>decide (2<=x.1)||T.contains c
 |⟨some d,.kj _,none⟩=>T.contains d
 |_=>true)
def abF(T:List Nat)(n:Nat)(ops:Array Oper)(l:List Item):Bool:=(l.length==ops.size&&(List.range ops.size).all fun k=>l.any fun x=>x.2.1==k)&&(l.all (Dq P T n ops)&&Ji ops (Hj ops.toList []) l)
def O3(ops:Array Oper)(iH:List (List Bool)):Bool:=iH.length==ops.size&&(List.range ops.size).all fun j=>
 ((iH.getD j []).length==ops.size&&(List.range ops.size).all fun i=>!((iH.getD j []).getD i false)||iU ops j i)&&(match ops[j]? with
 |some o=>o.after.all fun e=>!Region.binds .any e||decide (e.on<j)
 |none=>false)
def Aw:Code->Nat->Option (List Code×Code)
 |.seq (.label m) r,l=>if m==l then some ([],r)else none
 |.seq s c,l=>if(findLabel s l).isNone then(Aw c l).map fun p=>(s::p.1,p.2)else none
 |_,_=>none
def xb:IC->Bool
 |.skip=>true
 |_=>false
def lZ(n:Nat):Code->IC->Bool
 |.skip,.skip=>true
 |.region _ ops draw,.EX q bQ _=>cI P n ops ops.toList bQ&&(match q with
  |none=>!draw
  |some q=>!draw||OZ ops q bQ)
 |.region _ ops draw,.VE T q bQ _=>cI P n ops ops.toList bQ&&(!draw||Ig T ops q bQ)
 |.region _ ops draw,.RD T l _=>draw&&abF P T n ops l
 |.region _ ops draw,.YU iH bQ _=>draw&&(cI P n ops ops.toList bQ&&O3 ops iH)
 |.seq a b,.seq a' b'=>lZ n a a'&&lZ n b b'
 |.seq a b,.join _ a' b'=>lZ n a a'&&lZ n b b'
 |.cond c a b,.cond c' a' b'=>bN c c'&&lZ n a a'&&lZ n b b'
 |.block i b,.block j b'=>i==j&&lZ n b b'
 |.loop b,.loop _ b'=>lZ n b b'
 |.exit i,.exit j=>i==j
 |.scope c,.Er l _ a1 a2 a3 r'=>match Aw c l with
  |some ([],r)=>xb a1&&(xb a2&&(xb a3&&lZ n r r'))
  |some ([s1],r)=>lZ n s1 a1&&(xb a2&&(xb a3&&lZ n r r'))
  |some ([s1,s2],r)=>lZ n s1 a1&&(lZ n s2 a2&&(xb a3&&lZ n r r'))
  |some ([s1,s2,s3],r)=>lZ n s1 a1&&(lZ n s2 a2&&(lZ n s3 a3&&lZ n r r'))
  |_=>false
 |.scope b,.scope b'=>lZ n b b'
 |.label l,.label l'=>l==l'
 |.goto l,.goto l'=>l==l'
 |.ret,.ret=>true
 |_,.dead=>true
 |_,_=>false
end
theorem vS{v:Value}{a:AV}(h:cR v a=true)(w:World)(R:Nat->Nat):VR w R a v:=by
 unfold cR at h
 split at h
 ·obtain rfl:=beq_iff_eq.1 h;exact .bool _
 ·rw[Bool.and_eq_true]at h;obtain⟨h1,h2⟩:=h;obtain rfl:=of_decide_eq_true h1;obtain rfl:=beq_iff_eq.1 h2;exact .int _ _
 ·obtain rfl:=beq_iff_eq.1 h
  rename_i s
  have:∀b:ByteArray,b=⟨b.data.toList.toArray⟩:=fun b=>by cases b;simp
  conv=>rhs;rw[this s]
  exact .str _
 ·exact .fM
 ·exact .slnil _ _
 ·exact .Ia _ _
 ·exact .bb _ _ _ _ (.slnil _ _) (fun _=>rfl)
 ·exact .uf
 ·exact .pP
 ·exact .mw
 ·cases h
theorem SJ{v:Value}{a:AV}(h:cR v a=true):dF a=true:=by
 unfold cR at h
 split at h<;>first|rfl|cases h
def Cb{vs:List Value}{as:List AV}(h:M0 vs as=true):vs.length=as.length/\∀(j:Nat)(c:AV)(v:Value),as[j]? =some c->vs[j]? =some v->cR v c=true:=by
 induction vs generalizing as with
 |nil=>cases as with
  |nil=>exact⟨rfl,fun j c v hc=>NK⟩
  |cons=>simp[M0]at h
 |cons v vs ih=>cases as with
  |nil=>simp[M0]at h
  |cons a as=>
   simp only[M0,Bool.and_eq_true]at h
   obtain⟨h1,h2⟩:=ih h.2
   refine⟨by simp[h1],fun j c u hc hu=>?_⟩
   cases j with
   |zero=>simp at hc hu;subst hc;subst hu;exact h.1
   |succ j=>exact h2 j c u I_ (by simpa using hu)
def WT{v:Value}{a:AV}(h:cR v a=true):qO a=true:=by
 unfold cR at h
 split at h<;>first|rfl|cases h
def CH:∀{vs:List Value}{as:List AV},M0 vs as=true->Fl as
 |[],[],_=>Fl.nil
 |v::vs,a::as,h=>by
  simp only[M0,Bool.and_eq_true]at h
  intro c hc
  rcases List.mem_cons.1 hc with rfl|hc
  ·exact WT h.1
  ·exact CH h.2 c hc
 |[],_::_,h=>by simp[M0]at h
 |_::_,[],h=>by simp[M0]at h
def OY{vs:Array Value}{cs:List AV}(h:M0 vs.toList cs=true)(w:World)(R:Nat->Nat):VR w R (.agg cs) (.agg vs):=by
 obtain⟨h1,h2⟩:=Cb h
 exact .agg cs vs (CH h) Q_ fun j c v hc hv=>vS (h2 j c v hc Xb8) w R
theorem CG{v:Value}{a:AV}(h:cR v a=true)(G:Gh)(w:World)(o:dh):dI G w o a v:=by
 unfold cR at h
 split at h<;>first|(cases h;done)|trivial|skip
 ·rename_i own sz
  cases own with
  |false=>trivial
  |true=>intro base m cap hv hc;injection hv with _ h2 h3;omega
 ·intro base m cap hv hc;injection hv with _ h2 h3;omega
section
variable{P:Program}{G:Gh}{n:Nat}{D:List Deferred}{E:St}{a:Act}{w:World}
def BR(G:Gh)(w:World)(E:St)(a:Act)(x:IX):AV->Value->Prop
 |.loc cs,v=>∃i b c t,x=.t i/\look E.e i=.loc cs/\a.tmps[i]? =some v/\v=.pointer (some ⟨b,0,none⟩)/\G.O b=.loc i/\G.R b=0/\w.heap[b]? =some (.cells c t (0,0))/\dY G w (.cell b) cs c/\Fl cs
 |.lp d off,v=>∃b,v=.pointer (some ⟨b,off,none⟩)/\∀cs,look E.e d=.loc cs->a.tmps[d]? =some (.pointer (some ⟨b,0,none⟩))
 |.when _ _,_=>True
 |.us _ _ _,_=>True
 |av,v=>VR w G.R av v
def XR(G:Gh)(w:World)(E:St)(a:Act)(x:IX):AV->Value->Prop
 |.when b av,v=>b=true->inner av=true->BR G w E a x av v
 |av,v=>BR G w E a x av v
def BR.vr{x:IX}{av:AV}{v:Value}(h:dF av=true)(hv:BR G w E a x av v):VR w G.R av v:=by cases av<;>simp_all [dF,BR]
def XR.br{x:IX}{av:AV}{v:Value}(hv:XR G w E a x av v):BR G w E a x (vi true av) v:=by
 cases av<;>try exact hv
 rename_i b av
 cases b with
 |false=>
  have:vi true (.when false av)=.undef:=by simp[vi]
  rw[this];exact VR.undef v
 |true=>
  cases hi:inner av with
  |false=>
   have:vi true (.when true av)=.undef:=by simp[vi,hi]
   rw[this];exact VR.undef v
  |true=>
   have:vi true (.when true av)=av:=by simp[vi,hi]
   rw[this];exact hv rfl hi
def XR.Yp{i:Nat}(hi:a.tmps[i]? =some (a.eval (.tmp i))){av:AV}(hl:look E.e i=av)(h:dZ G w E.e a.tmps i av (a.eval (.tmp i))):XR G w E a (.t i) av (a.eval (.tmp i)):=by
 have base:∀av:AV,(∀cs,av=.loc cs->look E.e i=.loc cs)->dZ G w E.e a.tmps i av (a.eval (.tmp i))->BR G w E a (.t i) av (a.eval (.tmp i)):=by
  intro av hl h
  cases av with
  |loc cs=>
   obtain⟨b,c,t,h1,h2,h3,h4,h5⟩:=h
   exact⟨i,b,c,t,rfl,hl cs rfl,hi,h1,h2,h3,h4,h5⟩
  |lp d off=>exact h
  |iJ vs=>
   obtain⟨ys,h1,h2⟩:=h
   rw[h1]
   exact VR.iJ vs ys h2.1 fun j c u hc hu=>(h2.2 j c u hc hu).1
  | «when» b av=>trivial
  |us sz m cs=>trivial
  |_=>exact h.1
 cases av with
 | «when» b av=>exact fun hb hin=>base av (fun cs hcs=>by subst hcs;cases hin) (h.1 hb)
 |_=>exact base _ (fun cs hcs=>by rw[hl,hcs]) h
theorem gw{i:Nat}(hi:i<a.tmps.size):a.tmps[i]? =some (a.eval (.tmp i)):=by simp[Act.eval,Array.getD_eq_getD_getElem?,hi]
def XR.aQ(h:Inv G n D E a w){o:Operand}{x:IX}(hx:bN o x=true):XR G w E a x (E.x x) (a.eval o):=by
 unfold bN at hx
 split at hx
 ·rename_i t i
  obtain rfl:=beq_iff_eq.1 hx
  rcases Nat.lt_or_ge t n with ht|ht
  ·have hs:t<a.tmps.size:=by rw[h.size];exact ht
   exact XR.Yp (gw hs) rfl (h.cH t _ (gw hs))
  ·have:E.x (.t t)=.undef:=h.E6 t ht
   rw[this];exact VR.undef _
 ·exact OY hx w G.R
 ·rename_i v av _
  have hv:=vS hx w G.R
  have hi:=SJ hx
  show XR G w E a _ av v
  cases av<;>first|exact hv|(simp[dF]at hi)
 ·rename_i f g
  obtain rfl:=beq_iff_eq.1 hx
  exact VR.fn f [] [] #[] #[] rfl (fun j c v hc=>NK) rfl (fun j c v hc=>NK)
 ·cases hx
def BR.aQ(h:Inv G n D E a w){o:Operand}{x:IX}(hx:bN o x=true):BR G w E a x (xg true E x) (a.eval o):=(XR.aQ h hx).br
def NR(G:Gh)(w:World)(E:St)(a:Act)(av:AV)(v:Value):Prop:=
 match av with
 |.lp d off=>∃b,v=.pointer (some ⟨b,off,none⟩)/\∀cs,look E.e d=.loc cs->a.tmps[d]? =some (.pointer (some ⟨b,0,none⟩))
 |av=>dF av=true/\VR w G.R av v/\view av=av
end
end Go.AB
end
