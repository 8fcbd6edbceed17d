/- A part. -/
import Derived.Test.YtgecakgfnjkkbaaGreatFt1
import Derived.Attr
import Derived.Laws.Cells
import Derived.Laws.Strings
import Derived.Laws.Pointers
import Derived.Laws.Small
set_option linter.unusedSimpArgs false
set_option linter.unusedVariables false
section
namespace Go.AB
open Go
section
variable(P:Program)(K:St->Prop)(Q:Exit->St->Prop)(E τ:St)(d:Option Nat)
attribute[go_sem] swp.eq_1
@[go_sem]theorem aeM(o:aq)(r:List aq):swp P (o::r) E K=JX P o E (aeL P r K):=rfl
attribute[go_sem] aeL.eq_1 aer.eq_1 yE.eq_1
@[go_sem]theorem acM(op:qN):JX P ⟨d,op,none⟩ E K=Xn P op E d K (pv op (xg true E) E):=rfl
attribute[go_sem] owp.eq_1
@[go_sem]theorem acN(op:qN)(t:Nat)(want:Bool):JX P ⟨d,op,some (t,want)⟩ E K=x7 P op d t want E K (look E.e t):=rfl
attribute[go_sem] fD.eq_18 fD.eq_1 fD.eq_2 fD.eq_3 fD.eq_5
@[go_sem]theorem acC(T:List Nat)(q:Nat)(ops:List aq)(live:List Nat):fD P (.Sp T q ops live) Q E=(jK T E.e=true/\DC P T q ops E (yE live Q)):=rfl
@[go_sem]theorem afk(a b:IC):fD P (.seq a b) Q E=fD P a (Aa P b Q) E:=by
  have:(fun x τ=>match x with|.normal=>fD P b Q τ|x=>Q x τ)=Aa P b Q:=by funext x τ;cases x<;>rfl
  rw[<-this];rfl
@[go_sem]theorem acB(x:IX)(a b:IC):fD P (.cond x a b) Q E=Mm P a b Q E (E.x x):=by
  show(match E.x x with|.bool v=>(v=true->fD P a Q E)/\(v=false->fD P b Q E)|_=>False)=_
  cases E.x x<;>rfl
attribute[go_sem] fD.eq_9 fD.eq_12 fD.eq_15 fD.eq_16 fD.eq_17 Mm.eq_1 Aa.eq_1
@[go_sem]theorem aeD(b:IC):Aa P b Q .ret τ=Q .ret τ:=rfl
@[go_sem]theorem abZ(b:IC)(i:Nat):Aa P b Q (.exit i) τ=Q (.exit i) τ:=rfl
@[go_sem]theorem ab0(b:IC)(i:Nat):Aa P b Q (.goto i) τ=Q (.goto i) τ:=rfl
@[go_sem]theorem Wt(i:Nat):NM i Q .normal τ=Q .normal τ:=rfl
@[go_sem]theorem acn(i:Nat):NM i Q .ret τ=Q .ret τ:=rfl
@[go_sem]theorem aaU(i l:Nat):NM i Q (.goto l) τ=Q (.goto l) τ:=rfl
attribute[go_sem] NM.eq_1 og.eq_1
@[go_sem]theorem aba(live:List (Nat×Bool))(J:St->Prop):og live J Q .ret τ=Q .ret τ:=rfl
@[go_sem]theorem Y4(live:List (Nat×Bool))(J:St->Prop)(i:Nat):og live J Q (.exit i) τ=Q (.exit i) τ:=rfl
@[go_sem]theorem Y5(live:List (Nat×Bool))(J:St->Prop)(i:Nat):og live J Q (.goto i) τ=Q (.goto i) τ:=rfl
attribute[go_sem] fD.eq_6 Pj.eq_1
@[go_sem]theorem cy(gQ:List (List Bool))(ops:List aq)(K:St->Prop)(d:List Bool)(o:aq)(f:List aq):Pj P gQ ops K (o::f) d E=LW d gQ [] d ops (fun o d=>JX P o E (afb P gQ ops K f d)):=rfl
@[go_sem]theorem cU(gQ:List (List Bool))(ops:List aq)(K:St->Prop)(f:List aq)(d:List Bool)(τ:St):afb P gQ ops K f d τ=Pj P gQ ops K f d τ:=rfl
attribute[go_sem] ua vR vQ
@[go_sem]theorem bQ(done row pre xs:List Bool)(rows:List (List Bool))(x:Bool)(o:aq)(r:List aq)(F:aq->List Bool->Prop):LW done (row::rows) pre (x::xs) (o::r) F=((bif !x&&ua row done then F o (vR pre (true::xs))else True)/\LW done rows (x::pre) xs r F):=rfl
@[go_sem]theorem cw(done pre:List Bool)(F:aq->List Bool->Prop):LW done [] pre [] [] F=True:=rfl
@[go_sem]theorem Kn(l:Nat)(live:List (Nat×Bool))(a1 a2 a3 r:IC):fD P (.B7 l live a1 a2 a3 r) Q E=fD P a1 (Aa P a2 (Aa P a3 (GY live (Tz P l live r Q) Q))) E:=by
  show fD P a1 (fun x τ=>match x with|.normal=>fD P a2 (fun x τ=>match x with|.normal=>fD P a3 (GY live (Tz P l live r Q) Q) τ|x=>GY live (Tz P l live r Q) Q x τ) τ|x=>GY live (Tz P l live r Q) Q x τ) E=_
  congr 1
  funext x τ
  cases x with
  |normal=>
   show fD P a2 _ τ=fD P a2 _ τ
   congr 1
   funext x τ
   cases x<;>rfl
  |_=>rfl
attribute[go_sem] GY.eq_1
@[go_sem]theorem aeC(live:List (Nat×Bool))(I:St->Prop):GY live I Q .ret τ=Q .ret τ:=rfl
@[go_sem]theorem ads(l:Nat)(live:List (Nat×Bool))(I:St->Prop):Gq l live I Q .ret τ=Q .ret τ:=rfl
@[go_sem]theorem aa8(l:Nat)(live:List (Nat×Bool))(I:St->Prop)(i:Nat):Gq l live I Q (.exit i) τ=Q (.exit i) τ:=rfl
@[go_sem]theorem aa9(l:Nat)(live:List (Nat×Bool))(I:St->Prop):Gq l live I Q (.goto l) τ=I (τ.eQ live):=by
  show(l=l/\I (τ.eQ live))=_
  simp
attribute[go_sem] EA.eq_1
@[go_sem]theorem abc(live:List (Nat×Bool))(I:St->Prop)(μ:St->Nat)(m:Nat):EA live I μ m Q .ret τ=Q .ret τ:=rfl
@[go_sem]theorem Ze(live:List (Nat×Bool))(I:St->Prop)(μ:St->Nat)(m i:Nat):EA live I μ m Q (.exit i) τ=Q (.exit i) τ:=rfl
end
section
@[go_sem]theorem adl(b:Bool):dh (.bool b)=true:=rfl
@[go_sem]theorem aeT(g:Bool)(b:Bool):tZ g (.bool b)=(.bool b):=rfl
@[go_sem]theorem ab1(b:Bool):view (.bool b)=(.bool b):=rfl
@[go_sem]theorem TO(b:Bool):cellsOf (.bool b)=[(.bool b)]:=rfl
@[go_sem]theorem Zi(E:St)(i:Nat)(b:Bool):bZ E (.bool b) (some i)=E:=rfl
@[go_sem]theorem afr(k:IntKind)(n:Int):dh (.int k n)=true:=rfl
@[go_sem]theorem af3(g:Bool)(k:IntKind)(n:Int):tZ g (.int k n)=(.int k n):=rfl
@[go_sem]theorem ae2(k:IntKind)(n:Int):view (.int k n)=(.int k n):=rfl
@[go_sem]theorem Wz(k:IntKind)(n:Int):cellsOf (.int k n)=[(.int k n)]:=rfl
@[go_sem]theorem XQ(k:IntKind)(n:Int):bB (.int k n)=[(.int k n)]:=rfl
@[go_sem]theorem abk(E:St)(i:Nat)(k:IntKind)(n:Int):bZ E (.int k n) (some i)=E:=rfl
@[go_sem]theorem aft(s:List UInt8):dh (.str s)=true:=rfl
@[go_sem]theorem af6(g:Bool)(s:List UInt8):tZ g (.str s)=(.str s):=rfl
@[go_sem]theorem ae5(s:List UInt8):view (.str s)=(.str s):=rfl
@[go_sem]theorem WB(s:List UInt8):cellsOf (.str s)=[(.str s)]:=rfl
@[go_sem]theorem abm(E:St)(i:Nat)(s:List UInt8):bZ E (.str s) (some i)=E:=rfl
@[go_sem]theorem ag8(t n:Nat)(cs:List AV):dh (.bb t n cs)=true:=rfl
attribute[go_sem] view.eq_4
@[go_sem]theorem aau(t n:Nat)(cs:List AV):bB (.bb t n cs)=[.bb t n cs]:=rfl
@[go_sem]theorem adn:dh (.lx)=true:=rfl
@[go_sem]theorem aeV(g:Bool):tZ g (.lx)=(.lx):=rfl
@[go_sem]theorem ab3:view (.lx)=(.lx):=rfl
@[go_sem]theorem Zl(E:St)(i:Nat):bZ E (.lx) (some i)=E:=rfl
@[go_sem]theorem WL:dD (.lx)=.lx:=rfl
attribute[go_sem] view.eq_3
@[go_sem]theorem ado:dh (.fj)=true:=rfl
@[go_sem]theorem aeW(g:Bool):tZ g (.fj)=(.fj):=rfl
@[go_sem]theorem ab4:view (.fj)=(.fj):=rfl
@[go_sem]theorem Zm(E:St)(i:Nat):bZ E (.fj) (some i)=E:=rfl
@[go_sem]theorem afs(b o:Nat):dh (.ref b o)=true:=rfl
@[go_sem]theorem af5(g:Bool)(b o:Nat):tZ g (.ref b o)=(.ref b o):=rfl
@[go_sem]theorem ae4(b o:Nat):view (.ref b o)=(.ref b o):=rfl
@[go_sem]theorem WA(b o:Nat):cellsOf (.ref b o)=[(.ref b o)]:=rfl
@[go_sem]theorem XS(b o:Nat):bB (.ref b o)=[(.ref b o)]:=rfl
@[go_sem]theorem abl(E:St)(i:Nat)(b o:Nat):bZ E (.ref b o) (some i)=E:=rfl
@[go_sem]theorem ahM(g:Bool)(b o:Nat):tZ g (.lp b o)=(.lp b o):=rfl
attribute[go_sem] bZ.eq_1
@[go_sem]theorem ahP(g:Bool)(cs:List AV):tZ g (.sp cs)=(.sp cs):=rfl
@[go_sem]theorem adF(E:St)(i:Nat)(cs:List AV):bZ E (.sp cs) (some i)=E:=rfl
@[go_sem]theorem af4(g:Bool)(cs:List AV):tZ g (.loc cs)=(.loc cs):=rfl
@[go_sem]theorem ae3(cs:List AV):view (.loc cs)=(.loc cs):=rfl
@[go_sem]theorem ahb(o:Bool)(z n:Nat)(cs:List AV):dh (.sl o z n cs)=true:=rfl
@[go_sem]theorem ahO(g:Bool)(o:Bool)(z n:Nat)(cs:List AV):tZ g (.sl o z n cs)=(.sl o z n cs):=rfl
attribute[go_sem] view.eq_1
@[go_sem]theorem Yi(o:Bool)(z n:Nat)(cs:List AV):cellsOf (.sl o z n cs)=[(.sl o z n cs)]:=rfl
@[go_sem]theorem aav(o:Bool)(z n:Nat)(cs:List AV):bB (.sl o z n cs)=[(.sl o z n cs)]:=rfl
@[go_sem]theorem adE(E:St)(i:Nat)(o:Bool)(z n:Nat)(cs:List AV):bZ E (.sl o z n cs) (some i)=E:=rfl
@[go_sem]theorem afq(b o l c:Nat):dh (.arr b o l c)=true:=rfl
@[go_sem]theorem af2(g:Bool)(b o l c:Nat):tZ g (.arr b o l c)=(.arr b o l c):=rfl
@[go_sem]theorem ae1(b o l c:Nat):view (.arr b o l c)=(.arr b o l c):=rfl
@[go_sem]theorem XP(b o l c:Nat):bB (.arr b o l c)=[(.arr b o l c)]:=rfl
@[go_sem]theorem abj(E:St)(i:Nat)(b o l c:Nat):bZ E (.arr b o l c) (some i)=E:=rfl
@[go_sem]theorem afp(cs:List AV):dh (.agg cs)=true:=rfl
@[go_sem]theorem af1(g:Bool)(cs:List AV):tZ g (.agg cs)=(.agg cs):=rfl
@[go_sem]theorem ae0(cs:List AV):view (.agg cs)=(.agg cs):=rfl
attribute[go_sem] cellsOf.eq_1 bB.eq_1
@[go_sem]theorem abi(E:St)(i:Nat)(cs:List AV):bZ E (.agg cs) (some i)=E:=rfl
@[go_sem]theorem af7(g:Bool)(cs:List AV):tZ g (.iL cs)=(.iL cs):=rfl
@[go_sem]theorem abn(E:St)(i:Nat)(cs:List AV):bZ E (.iL cs) (some i)=E:=rfl
@[go_sem]theorem ag9(f:Nat)(x y:List AV):dh (.fn f x y)=true:=rfl
@[go_sem]theorem ahL(g:Bool)(f:Nat)(x y:List AV):tZ g (.fn f x y)=(.fn f x y):=rfl
@[go_sem]theorem af9(f:Nat)(x y:List AV):view (.fn f x y)=(.fn f x y):=rfl
@[go_sem]theorem Yg(f:Nat)(x y:List AV):cellsOf (.fn f x y)=[(.fn f x y)]:=rfl
@[go_sem]theorem adC(E:St)(i:Nat)(f:Nat)(x y:List AV):bZ E (.fn f x y) (some i)=E:=rfl
@[go_sem]theorem adm:dh (.nX)=true:=rfl
@[go_sem]theorem aeU(g:Bool):tZ g (.nX)=(.nX):=rfl
@[go_sem]theorem ab2:view (.nX)=(.nX):=rfl
@[go_sem]theorem Zj(E:St)(i:Nat):bZ E (.nX) (some i)=E:=rfl
@[go_sem]theorem aha(b:Nat):dh (.mp b)=true:=rfl
@[go_sem]theorem ahN(g:Bool)(b:Nat):tZ g (.mp b)=(.mp b):=rfl
@[go_sem]theorem aga(b:Nat):view (.mp b)=(.mp b):=rfl
@[go_sem]theorem Yh(b:Nat):cellsOf (.mp b)=[(.mp b)]:=rfl
@[go_sem]theorem adD(E:St)(i:Nat)(b:Nat):bZ E (.mp b) (some i)=E:=rfl
@[go_sem]theorem Vl(f:IX->AV)(E:St)(x:IX):pv (.oj true x) f E=.no:=rfl
@[go_sem]theorem aaa(f:IX->AV)(E:St)(z:List AV):pv (.jS z) f E=.no:=rfl
@[go_sem]theorem aab(f:IX->AV)(E:St)(z:List AV):pv (.mb z) f E=.no:=rfl
@[go_sem]theorem ad8(f:IX->AV)(E:St)(n:Nat)(x:IX):pv (.HF n x) f E=.no:=rfl
@[go_sem]theorem aea(f:IX->AV)(E:St)(n:Nat)(x:IX):pv (.zy n x) f E=.no:=rfl
@[go_sem]theorem Xy(f:IX->AV)(E:St)(a b:Nat)(z:List AV)(p:List (Nat×Nat×IX)):pv (.ij a b z p) f E=.no:=rfl
@[go_sem]theorem abL(f:IX->AV)(E:St)(n:Nat)(p v:IX):pv (.store n p v) f E=.no:=rfl
@[go_sem]theorem aac(f:IX->AV)(E:St)(a b:Nat)(x y:IX):pv (.append a b x y) f E=.no:=rfl
@[go_sem]theorem ZX(f:IX->AV)(E:St)(x:IX):pv (.jU x) f E=qk (f x):=rfl
attribute[go_sem] qk.eq_1 XT.eq_1 P1.eq_1
@[go_sem]theorem aae(f:IX->AV)(E:St)(a b:Nat)(z:List AV)(x y:IX):pv (.kT a b z x y) f E=.no:=rfl
@[go_sem]theorem XB(f:IX->AV)(E:St):pv (.makeMap) f E=.no:=rfl
@[go_sem]theorem aec(f:IX->AV)(E:St)(n:Nat)(l:List IX):pv (.call n l) f E=.no:=rfl
@[go_sem]theorem abF(f:IX->AV)(E:St)(x:IX)(l:List IX):pv (.iC x l) f E=.no:=rfl
@[go_sem]theorem YX(b:Bool):inner (.bool b)=true:=rfl
@[go_sem]theorem aa5(k:IntKind)(n:Int):inner (.int k n)=true:=rfl
@[go_sem]theorem aa7(s:List UInt8):inner (.str s)=true:=rfl
@[go_sem]theorem YY:inner (.fj)=true:=rfl
@[go_sem]theorem aa6(b o:Nat):inner (.ref b o)=true:=rfl
@[go_sem]theorem adi(b o:Nat):inner (.lp b o)=true:=rfl
@[go_sem]theorem adk(cs:List AV):inner (.sp cs)=true:=rfl
@[go_sem]theorem adj(o:Bool)(z n:Nat)(cs:List AV):inner (.sl o z n cs)=true:=rfl
@[go_sem]theorem aa4(b o l c:Nat):inner (.arr b o l c)=true:=rfl
@[go_sem]theorem aa3(cs:List AV):inner (.agg cs)=true:=rfl
@[go_sem]theorem adh(f:Nat)(x y:List AV):inner (.fn f x y)=true:=rfl
@[go_sem]theorem TD(g:Bool)(a:AV):tZ g (.when g a)=bif inner a then a else .undef:=by simp[tZ]
@[go_sem]theorem acJ(x:Bool):YC (.bool x)=some (true,x):=rfl
@[go_sem]theorem acK(b x:Bool):YC (.when b (.bool x))=some (b,x):=rfl
attribute[go_sem] YC.eq_1
@[go_sem]theorem ahg(g b:Bool):(g=true->b=true->(g&&b)=true)=True:=by cases g<;>cases b<;>simp
@[go_sem]theorem ahh(g b:Bool):(g=true->b=false->(g&&!b)=true)=True:=by cases g<;>cases b<;>simp
@[go_sem]theorem ahi(b:Bool):(b=false->(!b)=true)=True:=by cases b<;>simp
@[go_sem]theorem acz(b x:Bool):(bif b then x else false)=(b&&x):=by cases b<;>rfl
@[go_sem]theorem afj(b x:Bool):(bif b then true else x)=(b||x):=by cases b<;>rfl
@[go_sem]theorem ahY(b:Bool):(b==true)=b:=by cases b<;>rfl
@[go_sem]theorem ahX(b:Bool):(b==false)=!b:=by cases b<;>rfl
@[go_sem]theorem adt(k:IntKind):Oq k k=true:=by simp[Oq]
@[go_sem]theorem ahc(a b:Nat)(cs:List AV):dh (.us a b cs)=false:=rfl
@[go_sem]theorem afo(a b:Nat)(cs:List AV):Rc (.us a b cs)=true:=rfl
@[go_sem]theorem aez:jA []=true:=rfl
@[go_sem]theorem aeA(a b:AV)(l:List AV):jA (a::b::l)=true:=rfl
@[go_sem]theorem aev:fk []=.iL []:=rfl
@[go_sem]theorem aew(a b:AV)(l:List AV):fk (a::b::l)=.iL (a::b::l):=rfl
@[go_sem]theorem ab5:views []=[]:=rfl
@[go_sem]theorem aaI(a:AV)(l:List AV):views (a::l)=view a::views l:=rfl
attribute[go_sem] St.x.eq_1 St.x.eq_2 St.put.eq_1 St.put.eq_2 look.eq_1 look.eq_2
section
variable(P:Program)(K:St->Prop)(E:St)
attribute[go_sem] XF.eq_1
@[go_sem]theorem aes(q:Nat)(o:aq)(r:List aq):XF P (q+1) (o::r) E K=(bp E o.dst=true/\q1 P o E (aer P q r K)):=rfl
@[go_sem]theorem ahu(d:Option Nat)(x:IX):q1 P ⟨d,.oj false x,none⟩ E K=qK E d K (qv ⟨d,.oj false x,none⟩ E):=rfl
@[go_sem]theorem ahy(d:Option Nat)(x:IX):q2 P ⟨d,.oj false x,none⟩ E K=(bp E d=true/\qK E d K (qv ⟨d,.oj false x,none⟩ E)):=by cases d<;>rfl
@[go_sem]theorem afL(d:Option Nat)(t:Nat)(want:Bool)(x:IX):q1 P ⟨d,.oj false x,(some (t,want))⟩ E K=qK E d K (qv ⟨d,.oj false x,(some (t,want))⟩ E):=rfl
@[go_sem]theorem afM(d:Option Nat)(c x y:IX):q1 P ⟨d,.pick c x y,none⟩ E K=qK E d K (qv ⟨d,.pick c x y,none⟩ E):=rfl
@[go_sem]theorem aej(d:Option Nat)(t:Nat)(want:Bool)(c x y:IX):q1 P ⟨d,.pick c x y,(some (t,want))⟩ E K=qK E d K (qv ⟨d,.pick c x y,(some (t,want))⟩ E):=rfl
@[go_sem]theorem aef(d:Option Nat)(z:List AV)(ps:List (Nat×Nat×IX)):q1 P ⟨d,.build z ps,none⟩ E K=qK E d K (qv ⟨d,.build z ps,none⟩ E):=rfl
@[go_sem]theorem ael(d:Option Nat)(z:List AV)(ps:List (Nat×Nat×IX)):q2 P ⟨d,.build z ps,none⟩ E K=(bp E d=true/\qK E d K (qv ⟨d,.build z ps,none⟩ E)):=by cases d<;>rfl
@[go_sem]theorem abM(d:Option Nat)(t:Nat)(want:Bool)(z:List AV)(ps:List (Nat×Nat×IX)):q1 P ⟨d,.build z ps,(some (t,want))⟩ E K=qK E d K (qv ⟨d,.build z ps,(some (t,want))⟩ E):=rfl
@[go_sem]theorem afK(d:Option Nat)(n:Nat)(m:Bool)(x:IX):q1 P ⟨d,.load n m x,none⟩ E K=qK E d K (qv ⟨d,.load n m x,none⟩ E):=rfl
@[go_sem]theorem afO(d:Option Nat)(n:Nat)(m:Bool)(x:IX):q2 P ⟨d,.load n m x,none⟩ E K=(bp E d=true/\qK E d K (qv ⟨d,.load n m x,none⟩ E)):=by cases d<;>rfl
@[go_sem]theorem aeg(d:Option Nat)(t:Nat)(want:Bool)(n:Nat)(m:Bool)(x:IX):q1 P ⟨d,.load n m x,(some (t,want))⟩ E K=qK E d K (qv ⟨d,.load n m x,(some (t,want))⟩ E):=rfl
@[go_sem]theorem XC(d:Option Nat)(x:IX):q1 P ⟨d,.nilCheck x,none⟩ E K=qK E d K (qv ⟨d,.nilCheck x,none⟩ E):=rfl
@[go_sem]theorem XD(d:Option Nat)(x:IX):q2 P ⟨d,.nilCheck x,none⟩ E K=(bp E d=true/\qK E d K (qv ⟨d,.nilCheck x,none⟩ E)):=by cases d<;>rfl
@[go_sem]theorem Vo(d:Option Nat)(t:Nat)(want:Bool)(x:IX):q1 P ⟨d,.nilCheck x,(some (t,want))⟩ E K=qK E d K (qv ⟨d,.nilCheck x,(some (t,want))⟩ E):=rfl
@[go_sem]theorem ahr(d:Option Nat)(b:BinOp)(x y:IX):q1 P ⟨d,.bin b x y,none⟩ E K=qK E d K (qv ⟨d,.bin b x y,none⟩ E):=rfl
@[go_sem]theorem ahw(d:Option Nat)(b:BinOp)(x y:IX):q2 P ⟨d,.bin b x y,none⟩ E K=(bp E d=true/\qK E d K (qv ⟨d,.bin b x y,none⟩ E)):=by cases d<;>rfl
@[go_sem]theorem afI(d:Option Nat)(t:Nat)(want:Bool)(b:BinOp)(x y:IX):q1 P ⟨d,.bin b x y,(some (t,want))⟩ E K=qK E d K (qv ⟨d,.bin b x y,(some (t,want))⟩ E):=rfl
@[go_sem]theorem ahs(d:Option Nat)(n:Bool)(x y:IX):q1 P ⟨d,.Tx n x y,none⟩ E K=qK E d K (qv ⟨d,.Tx n x y,none⟩ E):=rfl
@[go_sem]theorem air(d:Option Nat)(u:UnOp)(x:IX):q1 P ⟨d,.un u x,none⟩ E K=qK E d K (qv ⟨d,.un u x,none⟩ E):=rfl
@[go_sem]theorem ahv(d:Option Nat)(t:Nat)(want:Bool)(u:UnOp)(x:IX):q1 P ⟨d,.un u x,(some (t,want))⟩ E K=qK E d K (qv ⟨d,.un u x,(some (t,want))⟩ E):=rfl
@[go_sem]theorem abN(d:Option Nat)(k:IntKind)(x:IX):q1 P ⟨d,.me k x,none⟩ E K=qK E d K (qv ⟨d,.me k x,none⟩ E):=rfl
@[go_sem]theorem aaf(d:Option Nat)(t:Nat)(want:Bool)(k:IntKind)(x:IX):q1 P ⟨d,.me k x,(some (t,want))⟩ E K=qK E d K (qv ⟨d,.me k x,(some (t,want))⟩ E):=rfl
@[go_sem]theorem abS(d:Option Nat)(x i:IX):q1 P ⟨d,.kY x i,none⟩ E K=qK E d K (qv ⟨d,.kY x i,none⟩ E):=rfl
@[go_sem]theorem abV(d:Option Nat)(x i:IX):q2 P ⟨d,.kY x i,none⟩ E K=(bp E d=true/\qK E d K (qv ⟨d,.kY x i,none⟩ E)):=by cases d<;>rfl
@[go_sem]theorem aah(d:Option Nat)(t:Nat)(want:Bool)(x i:IX):q1 P ⟨d,.kY x i,(some (t,want))⟩ E K=qK E d K (qv ⟨d,.kY x i,(some (t,want))⟩ E):=rfl
@[go_sem]theorem Vm(d:Option Nat)(f:Nat)(x:IX):q1 P ⟨d,.fieldAddr f x,none⟩ E K=qK E d K (qv ⟨d,.fieldAddr f x,none⟩ E):=rfl
@[go_sem]theorem Vp(d:Option Nat)(f:Nat)(x:IX):q2 P ⟨d,.fieldAddr f x,none⟩ E K=(bp E d=true/\qK E d K (qv ⟨d,.fieldAddr f x,none⟩ E)):=by cases d<;>rfl
@[go_sem]theorem TA(d:Option Nat)(t:Nat)(want:Bool)(f:Nat)(x:IX):q1 P ⟨d,.fieldAddr f x,(some (t,want))⟩ E K=qK E d K (qv ⟨d,.fieldAddr f x,(some (t,want))⟩ E):=rfl
@[go_sem]theorem Vn(d:Option Nat)(z:List AV)(x i:IX):q1 P ⟨d,.indexAddr z x i,none⟩ E K=qK E d K (qv ⟨d,.indexAddr z x i,none⟩ E):=rfl
@[go_sem]theorem Vq(d:Option Nat)(z:List AV)(x i:IX):q2 P ⟨d,.indexAddr z x i,none⟩ E K=(bp E d=true/\qK E d K (qv ⟨d,.indexAddr z x i,none⟩ E)):=by cases d<;>rfl
@[go_sem]theorem TB(d:Option Nat)(t:Nat)(want:Bool)(z:List AV)(x i:IX):q1 P ⟨d,.indexAddr z x i,(some (t,want))⟩ E K=qK E d K (qv ⟨d,.indexAddr z x i,(some (t,want))⟩ E):=rfl
@[go_sem]theorem aek(d:Option Nat)(z:Nat)(x:IX)(lo hi mx:Option IX):q1 P ⟨d,.slice z x lo hi mx,none⟩ E K=qK E d K (qv ⟨d,.slice z x lo hi mx,none⟩ E):=rfl
@[go_sem]theorem aen(d:Option Nat)(z:Nat)(x:IX)(lo hi mx:Option IX):q2 P ⟨d,.slice z x lo hi mx,none⟩ E K=(bp E d=true/\qK E d K (qv ⟨d,.slice z x lo hi mx,none⟩ E)):=by cases d<;>rfl
@[go_sem]theorem abT(d:Option Nat)(x:IX)(lo hi:Option IX):q1 P ⟨d,.oS x lo hi,none⟩ E K=qK E d K (qv ⟨d,.oS x lo hi,none⟩ E):=rfl
@[go_sem]theorem aag(d:Option Nat)(x:IX)(k:Nat):q1 P ⟨d,.extract x k,none⟩ E K=qK E d K (qv ⟨d,.extract x k,none⟩ E):=rfl
@[go_sem]theorem aaj(d:Option Nat)(x:IX)(k:Nat):q2 P ⟨d,.extract x k,none⟩ E K=(bp E d=true/\qK E d K (qv ⟨d,.extract x k,none⟩ E)):=by cases d<;>rfl
@[go_sem]theorem aht(d:Option Nat)(c:Nat)(x:IX):q1 P ⟨d,.len c x,none⟩ E K=qK E d K (qv ⟨d,.len c x,none⟩ E):=rfl
@[go_sem]theorem ahx(d:Option Nat)(c:Nat)(x:IX):q2 P ⟨d,.len c x,none⟩ E K=(bp E d=true/\qK E d K (qv ⟨d,.len c x,none⟩ E)):=by cases d<;>rfl
@[go_sem]theorem afJ(d:Option Nat)(t:Nat)(want:Bool)(c:Nat)(x:IX):q1 P ⟨d,.len c x,(some (t,want))⟩ E K=qK E d K (qv ⟨d,.len c x,(some (t,want))⟩ E):=rfl
@[go_sem]theorem abR(d:Option Nat)(m:Bool)(xs:List IX):q1 P ⟨d,.nD m xs,none⟩ E K=qK E d K (qv ⟨d,.nD m xs,none⟩ E):=rfl
attribute[go_sem] q1.eq_2
@[go_sem]theorem afP(d:Option Nat)(x:IX):q2 P ⟨d,.oj true x,none⟩ E K=(bp E d=true/\Rz E x d K (E.x x)):=by cases d<;>rfl
attribute[go_sem] q1.eq_1
@[go_sem]theorem afN(d:Option Nat)(f:Nat)(args:List IX):q2 P ⟨d,.call f args,none⟩ E K=(bp E d=true/\Sf P f E d K (cF (xg true E) args)):=by cases d<;>rfl
attribute[go_sem] q1.eq_3
@[go_sem]theorem abO(d:Option Nat)(x:IX):q1 P ⟨d,.jU x,none⟩ E K=qK E d K (qv ⟨d,.jU x,none⟩ E):=rfl
attribute[go_sem] q1.eq_7
@[go_sem]theorem aai(d:Option Nat)(sz n:Nat)(z:List AV)(ps:List (Nat×Nat×IX))(g:Option (Nat×Bool)):q2 P ⟨d,.ij sz n z ps,g⟩ E K=(bp E d=true/\qK E d K (CB ⟨d,.ij sz n z ps,g⟩ E)):=by cases d<;>rfl
attribute[go_sem] q1.eq_8
@[go_sem]theorem aei(d:Option Nat)(z:List AV)(m:Bool)(x:IX):q1 P ⟨d,.ki z m x,none⟩ E K=qK E d K (qv ⟨d,.ki z m x,none⟩ E):=rfl
@[go_sem]theorem aem(d:Option Nat)(z:List AV)(m:Bool)(x:IX):q2 P ⟨d,.ki z m x,none⟩ E K=(bp E d=true/\qK E d K (qv ⟨d,.ki z m x,none⟩ E)):=by cases d<;>rfl
@[go_sem]theorem abQ(d:Option Nat)(t:Nat)(want:Bool)(z:List AV)(m:Bool)(x:IX):q1 P ⟨d,.ki z m x,(some (t,want))⟩ E K=qK E d K (qv ⟨d,.ki z m x,(some (t,want))⟩ E):=rfl
@[go_sem]theorem aeh(d:Option Nat)(k:IntKind)(x:IX):q1 P ⟨d,.nA k x,none⟩ E K=qK E d K (qv ⟨d,.nA k x,none⟩ E):=rfl
@[go_sem]theorem abP(d:Option Nat)(t:Nat)(want:Bool)(k:IntKind)(x:IX):q1 P ⟨d,.nA k x,(some (t,want))⟩ E K=qK E d K (qv ⟨d,.nA k x,(some (t,want))⟩ E):=rfl
@[go_sem]theorem abB(f:IX->AV)(E:St)(k:IntKind)(x:IX):pv (.nA k x) f E=yn k E.s (f x):=rfl
@[go_sem]theorem Zc(k:IntKind)(s:ae)(b off:Nat):yn k s (.ref b off)=.prt (La k off (s b)) (.int k (Lc off (s b))):=rfl
@[go_sem]theorem abC(f:IX->AV)(E:St)(z:List AV)(m:Bool)(x:IX):pv (.ki z m x) f E=Ey z m E.s (f x):=rfl
@[go_sem]theorem XA(f:IX->AV)(E:St)(kk:mz)(z:AV)(ok:Bool)(x k:IX):pv (.lookup kk z ok x k) f E=.no:=rfl
@[go_sem]theorem Xz(f:IX->AV)(E:St)(x:IX):pv (.kJ x) f E=.no:=rfl
@[go_sem]theorem Se(f:IX->AV)(E:St)(kk:mz)(x k v:IX):pv (.mapUpdate kk x k v) f E=.no:=rfl
attribute[go_sem] iP.eq_15
@[go_sem]theorem Y0(d:Option Nat)(x:IX):iP P (.kJ x) d E K=OJ E d K (z7 (xg true E x)):=rfl
attribute[go_sem] iP.eq_18 q1.eq_10
@[go_sem]theorem abU(d:Option Nat)(x:IX)(g:Option (Nat×Bool)):q2 P ⟨d,.tS x,g⟩ E K=(bp E d=true/\qK E d K (CB ⟨d,.tS x,g⟩ E)):=by cases d<;>rfl
@[go_sem]theorem abK(f:IX->AV)(E:St)(x:IX):pv (.tS x) f E=.no:=rfl
attribute[go_sem] iP.eq_17 qe.eq_5
@[go_sem]theorem aeo(d:Option Nat)(o:qN):CB ⟨d,o,none⟩ E=qe (xg true E) E.s o:=rfl
attribute[go_sem] qe.eq_2 qe.eq_3
@[go_sem]theorem afW(n:Nat)(x:Int)(cs:List AV):z7 (.sl true 1 (n+1) (.int .u8 x::cs))=.cQ (.sl false 1 (n+1) (.int .u8 x::cs)):=rfl
attribute[go_sem] Cp.eq_1 Ey.eq_1 I1.eq_1 jQ.eq_1 jQ.eq_2 OJ.eq_1 OJ.eq_2 OJ.eq_3
attribute[go_sem] sK.eq_1 ET.eq_1
@[go_sem]theorem afQ(d:Option Nat)(o:qN):qv ⟨d,o,none⟩ E=pv o (xg true E) E:=rfl
@[go_sem]theorem afR(d:Option Nat)(o:qN)(t:Nat)(want:Bool):qv ⟨d,o,some (t,want)⟩ E=Lx o want E (look E.e t):=rfl
@[go_sem]theorem afD(f:IX->AV)(E:St)(x:IX):pv (.cap x) f E=Kh (f x):=rfl
@[go_sem]theorem Z9(f:IX->AV)(E:St)(z:Nat)(x:IX)(lo hi:Option IX)(m:IX):pv (.slice z x lo hi (some m)) f E=oA z f lo hi m (f x):=rfl
@[go_sem]theorem Vk(f:IX->AV)(E:St)(a b:Nat)(z:List AV)(p:List (Nat×Nat×IX)):pv (.lR a b z p) f E=.no:=rfl
@[go_sem]theorem Xv(f:IX->AV)(E:St)(a b:Nat)(z:List AV)(x y:IX):pv (.nY a b z x y) f E=.no:=rfl
@[go_sem]theorem Xx(f:IX->AV)(E:St)(a b:Nat)(z:List AV)(x y:IX):pv (.oc a b z x y) f E=.no:=rfl
attribute[go_sem] iP.eq_21
@[go_sem]theorem abG(f:IX->AV)(E:St)(a:Nat)(x y:IX):pv (.yZ a x y) f E=.no:=rfl
@[go_sem]theorem aad(f:IX->AV)(E:St)(z:List AV)(x:IX):pv (.rD z x) f E=.no:=rfl
@[go_sem]theorem afH(f:IX->AV)(E:St)(a:Nat)(o:Bool)(x:IX):pv (.Ue a o x) f E=.no:=rfl
@[go_sem]theorem abI(f:IX->AV)(E:St)(off:Nat)(j x:IX):pv (.my off j x) f E=.no:=rfl
@[go_sem]theorem abH(f:IX->AV)(E:St)(x:IX):pv (.mw x) f E=.no:=rfl
@[go_sem]theorem afG(f:IX->AV)(E:St)(o:Bool)(x:IX):pv (.WR o x) f E=.no:=rfl
attribute[go_sem] iP.eq_19 iP.eq_20 iP.eq_22 iP.eq_23 iP.eq_24
attribute[go_sem] Uf
attribute[go_sem] iP.eq_26 iP.eq_28 q1.eq_4
attribute[go_sem] q1.eq_5
attribute[go_sem] Sg.eq_1 Nb.eq_1 GP.eq_1
@[go_sem]theorem afF(f:IX->AV)(E:St)(ne:Bool)(x:IX):pv (.Ua ne x) f E=Il ne (f x):=rfl
@[go_sem]theorem afm(ne:Bool)(b o:Nat):CP ne (.ref b o) (.ref b o)=.cQ (.bool (!ne)):=by simp[CP]
@[go_sem]theorem aee(f:IX->AV)(E:St)(x:IX):pv (.HX x) f E=.no:=rfl
@[go_sem]theorem aed(f:IX->AV)(E:St)(u:Nat)(x:IX):pv (.HW u x) f E=.no:=rfl
@[go_sem]theorem aeb(f:IX->AV)(E:St)(n t j u:Nat)(x:IX):pv (.HH n t j u x) f E=.no:=rfl
@[go_sem]theorem Xw(f:IX->AV)(E:St)(t:Nat)(x y:IX):pv (.n9 t x y) f E=.no:=rfl
attribute[go_sem] iP.eq_31 iP.eq_32 iP.eq_34 iP.eq_30
@[go_sem]theorem abE(f:IX->AV)(E:St)(g:Nat)(x:IX):pv (.yW g x) f E=.no:=rfl
attribute[go_sem] iP.eq_33
@[go_sem]theorem abJ(f:IX->AV)(E:St)(z:Nat)(o:Bool)(x:IX):pv (.zi z o x) f E=.no:=rfl
attribute[go_sem] iP.eq_25
attribute[go_sem] K9.eq_1 ru.eq_1 ru.eq_2 Kg Il.eq_1 Wy Mq.eq_1 Mp.eq_1 P4.eq_1 P3.eq_1
@[go_sem]theorem afE(f:IX->AV)(E:St)(ne:Bool)(x:IX):pv (.T9 ne x) f E=Ik ne (f x):=rfl
@[go_sem]theorem ad9(f:IX->AV)(E:St)(z n:Nat)(x:IX):pv (.HG z n x) f E=.no:=rfl
attribute[go_sem] iP.eq_29
attribute[go_sem] vB.eq_1
@[go_sem]theorem adQ(z:Nat)(k:IntKind)(n:Int):vB z (.int k n)=.int k n:=rfl
@[go_sem]theorem abr(z:Nat)(b:Bool):vB z (.bool b)=.bool b:=rfl
@[go_sem]theorem adR(z b o:Nat):vB z (.ref b o)=.ref b o:=rfl
@[go_sem]theorem afy(z b:Nat):vB z (.mp b)=.mp b:=rfl
attribute[go_sem] Ww
@[go_sem]theorem abD(f:IX->AV)(E:St)(g i:Nat)(xs:List IX):pv (.yV g i xs) f E=.no:=rfl
attribute[go_sem] iP.eq_35
attribute[go_sem] Ik.eq_1 Ik.eq_2
attribute[go_sem] Kh.eq_1 oA.eq_1 yK.eq_1 xS.eq_1 Qj.eq_1 Qj.eq_2
@[go_sem]theorem abY(T:List Nat)(l:List aq):DC P T 0 l E K=swp P l E K:=rfl
@[go_sem]theorem abX(T:List Nat)(q:Nat)(o:aq)(r:List aq):DC P T (q+1) (o::r) E K=q2 P o E (XG P T q r K):=rfl
@[go_sem]theorem abW(T:List Nat)(q:Nat)(r:List aq)(τ:St):XG P T q r K τ=(jK T τ.e=true/\DC P T q r τ K):=rfl
attribute[go_sem] JW.eq_1
@[go_sem]theorem ah0(T:List Nat)(i:Nat)(o:aq)(r:List (Nat×Nat×aq)):JW P T ((0,i,o)::r) E K=q2 P o E (PH P T r K):=rfl
@[go_sem]theorem ah1(T:List Nat)(i:Nat)(o:aq)(r:List (Nat×Nat×aq)):JW P T ((1,i,o)::r) E K=(l4 o E=true/\q2 P o E (PH P T r K)):=rfl
@[go_sem]theorem ah2(T:List Nat)(i:Nat)(o:aq)(r:List (Nat×Nat×aq)):JW P T ((2,i,o)::r) E K=Tv P o E (PH P T r K):=rfl
@[go_sem]theorem ah3(T:List Nat)(i:Nat)(o:aq)(r:List (Nat×Nat×aq)):JW P T ((3,i,o)::r) E K=JX P o E (PH P T r K):=rfl
attribute[go_sem] PH.eq_1
@[go_sem]theorem ach(d:Option Nat)(f:Nat)(args:List IX):Tv P ⟨d,.call f args,none⟩ E K=(bp E d=true/\ue P f E d K (cF (xg true E) args)):=by
  show(bp E d=true/\xR P f E.s (PB E d K) (cF (xg true E) args))=_
  cases cF (xg true E) args<;>rfl
@[go_sem]theorem aaR(d:Option Nat)(n:Nat)(p v:IX):Tv P ⟨d,.store n p v,none⟩ E K=(bp E d=true/\od n E.s (PB E d K) (E.x v) (E.x p)):=rfl
@[go_sem]theorem aaQ(d:Option Nat)(x:IX):Tv P ⟨d,.mw x,none⟩ E K=(bp E d=true/\nf E.s (PB E d K) (E.x x)):=rfl
attribute[go_sem] PB.eq_1 od.eq_1 L9.eq_1
attribute[go_sem] l4
@[go_sem]theorem abt(k:IntKind)(n:Int):Ja (.int k n)=true:=rfl
@[go_sem]theorem adT(b o:Nat):nG (.lp b o)=true:=rfl
@[go_sem]theorem adU(cs:List AV):nG (.sp cs)=true:=rfl
@[go_sem]theorem abu(cs:List AV):nG (.loc cs)=true:=rfl
attribute[go_sem] jK.eq_1 jK.eq_2 vz.eq_1 vz.eq_2 nC.eq_1
attribute[go_sem] XE.eq_1 q2.eq_1 q2.eq_2
attribute[go_sem] q2.eq_3
@[go_sem]theorem Zg(c':Nat)(b:Bool):nC c' (.bool b)=true:=rfl
@[go_sem]theorem abe(c':Nat)(k:IntKind)(n:Int):nC c' (.int k n)=true:=rfl
@[go_sem]theorem Zh(c':Nat):nC c' (.fj)=true:=rfl
@[go_sem]theorem abg(c':Nat)(b o:Nat):nC c' (.ref b o)=true:=rfl
@[go_sem]theorem abf(c':Nat)(cs:List AV):nC c' (.loc cs)=true:=rfl
@[go_sem]theorem adA(c':Nat)(o:Bool)(s n:Nat)(cs:List AV):nC c' (.sl o s n cs)=true:=rfl
@[go_sem]theorem abd(c':Nat)(cs:List AV):nC c' (.agg cs)=true:=rfl
@[go_sem]theorem abh(c':Nat)(cs:List AV):nC c' (.iL cs)=true:=rfl
attribute[go_sem] bp.eq_2 bp.eq_1
@[go_sem]theorem Xl(b:Bool)(a:AV):bA (.when b a)=true:=rfl
@[go_sem]theorem abw(b o:Nat):bA (.lp b o)=true:=rfl
@[go_sem]theorem U3:bA (.undef)=true:=rfl
@[go_sem]theorem Xj(b:Bool):bA (.bool b)=true:=rfl
@[go_sem]theorem Zz(k:IntKind)(n:Int):bA (.int k n)=true:=rfl
@[go_sem]theorem ZB(s:List UInt8):bA (.str s)=true:=rfl
@[go_sem]theorem Xk:bA (.fj)=true:=rfl
@[go_sem]theorem ZA(b o:Nat):bA (.ref b o)=true:=rfl
@[go_sem]theorem aby(cs:List AV):bA (.sp cs)=true:=rfl
@[go_sem]theorem abx(o:Bool)(z n:Nat)(cs:List AV):bA (.sl o z n cs)=true:=rfl
@[go_sem]theorem Zy(b o l c:Nat):bA (.arr b o l c)=true:=rfl
@[go_sem]theorem Zx(cs:List AV):bA (.agg cs)=true:=rfl
@[go_sem]theorem ZC(cs:List AV):bA (.iL cs)=true:=rfl
@[go_sem]theorem abv(f:Nat)(x y:List AV):bA (.fn f x y)=true:=rfl
attribute[go_sem] rdO.eq_1
attribute[go_sem] V6.eq_1 V6.eq_2 V6.eq_3 Tl.eq_1 Tl.eq_2 Tl.eq_3 Lx.eq_1 Lx.eq_2 qK.eq_1 qK.eq_2 qK.eq_3 Sf.eq_1 GO.eq_1 GO.eq_2 ahz.eq_1
end
@[go_sem]theorem WK(b:Bool):dD (.bool b)=.bool b:=rfl
@[go_sem]theorem Ys(k:IntKind)(n:Int):dD (.int k n)=.int k n:=rfl
@[go_sem]theorem Yv(s:List UInt8):dD (.str s)=.str s:=rfl
@[go_sem]theorem WM:dD (.fj)=.fj:=rfl
@[go_sem]theorem Yu(b o:Nat):dD (.ref b o)=.ref b o:=rfl
@[go_sem]theorem Yt(cs:List AV):dD (.loc cs)=.loc cs:=rfl
@[go_sem]theorem aa1(o:Bool)(z n:Nat)(cs:List AV):dD (.sl o z n cs)=.sl o z n cs:=rfl
@[go_sem]theorem Yr(b o l c:Nat):dD (.arr b o l c)=.arr b o l c:=rfl
@[go_sem]theorem aa0(f:Nat)(x y:List AV):dD (.fn f x y)=.fn f x y:=rfl
attribute[go_sem] cond.eq_1 cond.eq_2
attribute[go_sem] Xn.eq_1 Xn.eq_2 Xn.eq_3 Pr.eq_1 Pr.eq_2 Pr.eq_3 x7.eq_1 x7.eq_2 x7.eq_3 iP.eq_1 iP.eq_2 iP.eq_3 iP.eq_4 iP.eq_5 iP.eq_6 iP.eq_7 iP.eq_8 iP.eq_9 iP.eq_10 iP.eq_11 iP.eq_12 iP.eq_13 iP.eq_14 iP.eq_15 iP.eq_16 R6.eq_1 EM.eq_1 XY.eq_1 XY.eq_2 sL.eq_1 ju.eq_1 ju.eq_2 tq.eq_1 lu.eq_1 Ow.eq_1 adI.eq_1 gp.eq_1 gp.eq_2 gp.eq_3 gp.eq_4 jX.eq_1 jX.eq_2 fS.eq_1 fS.eq_2 fS.eq_3 fS.eq_4 Aq.eq_1 xB.eq_1 ss.eq_1 ss.eq_2 Cb.eq_1 lG.eq_1 K8.eq_1 zR.eq_1 zR.eq_2 zR.eq_3 zR.eq_4 zR.eq_5 s8.eq_1 Im.eq_1 po.eq_1 AH.eq_1 I7.eq_1 I7.eq_2 na.eq_1 na.eq_2 lg.eq_1 qF.eq_1 rd.eq_1 rd.eq_2 rd.eq_3 rd.eq_4 lq.eq_1 lq.eq_2 Pt.eq_1 wj.eq_1 lJ.eq_1 lJ.eq_2 Ah.eq_1 pk.eq_1 xc.eq_1 Lk.eq_1 Lk.eq_2 uW.eq_1 NI.eq_1 cF.eq_1 cF.eq_2 s7.eq_1 ue.eq_1 PL.eq_1 fk.eq_1 jA.eq_1 wrL.eq_1 wrS.eq_1 Ny.eq_1 Tm.eq_1 ae8.eq_1 JT.eq_1 JT.eq_2 JT.eq_3 J9.eq_1 J9.eq_2 Ky.eq_1 CP.eq_1 CP.eq_2 CP.eq_3 Qk.eq_1 Qk.eq_2 rf.eq_3 rf.eq_4 rf.eq_5 rf.eq_6 rf.eq_7 rf.eq_12 rf.eq_13 rf.eq_14 rf.eq_15 rf.eq_16 rf.eq_17 HD.eq_1 HD.eq_2 HD.eq_3 HD.eq_4 HD.eq_5 HD.eq_6 HD.eq_7 kk pv.eq_1 pv.eq_2 pv.eq_3 pv.eq_4 pv.eq_5 pv.eq_6 pv.eq_7 pv.eq_8 pv.eq_9 pv.eq_10 pv.eq_11 pv.eq_12 pv.eq_13 pv.eq_14 pv.eq_15 pv.eq_16 pv.eq_17 pv.eq_18 pv.eq_19 pv.eq_20 pv.eq_21 pv.eq_22 pv.eq_23 pv.eq_24 pv.eq_25 fill.eq_1 fill.eq_2
attribute[go_sem] WD ckP xg St.vp St.eQ Tk gj Oz Rz Wv Wx LM Me St.drain
attribute[go_sem] Bool.true_or Bool.or_true Bool.or_false Bool.false_or
attribute[go_sem] bne_self_eq_false Bool.bne_true Bool.bne_false implies_true decide_true decide_false Bool.true_and Bool.and_true Bool.false_and Bool.and_false Bool.not_true Bool.not_false Bool.false_eq_true true_and List.length_cons List.length_nil List.map_cons List.map_nil List.all_nil List.all_cons List.drop_zero List.drop_succ_cons List.take_zero List.take_succ_cons Nat.zero_add List.cons_append List.nil_append List.getElem?_cons_zero List.getElem?_cons_succ
end
theorem VR.mono{w w':World}{R R':Nat->Nat}(hR:∀b,R b<=R' b)(hs:∀b k,k<R b->w'.cell? ⟨b,k,none⟩=w.cell? ⟨b,k,none⟩){a:AV}{v:Value}(h:VR w R a v):VR w' R' a v:=by
 induction h with
 |undef v=>exact .undef v
 |bool b=>exact .bool b
 |int k n=>exact .int k n
 |str s=>exact .str s
 |fj=>exact .fj
 |ref b off=>exact .ref b off
 |sp cs b off u hf hR' hc _ ih=>
  refine .sp cs b off u hf (Nat.le_trans hR' (hR b)) (fun j c hj=>?_) ih
  grind
 |slnil own sz=>exact .slnil own sz
 |sle sz a cap=>exact .sle sz a cap
 |sl own sz n cs b off cap u hf hl hR' fh hc _ ih=>
  refine .sl own sz n cs b off cap u hf hl (Nat.le_trans hR' (hR b)) fh (fun j c hj=>?_) ih
  grind
 |arr b off len cap=>exact .arr b off len cap
 |Fo b off=>exact .Fo b off
 |agg cs vs hf hl _ ih=>exact .agg cs vs hf hl ih
 |iL cs vs hl _ ih=>exact .iL cs vs hl ih
 |fn f first eF vf vc hl _ hl' _ ih ih'=>exact .fn f first eF vf vc hl ih hl' ih'
 |nX=>exact .nX
 |mp b=>exact .mp b
 |one v h=>exact .one v h
 |ng t=>exact .ng t
 |lx=>exact .lx
 |bb t n cs v _ h0 ih=>exact .bb t n cs v ih h0
 |se=>exact .se
 |when b a v _ ih=>exact .when b a v ih
theorem aG.R{G G':Gh}{w w':World}(h:aG G w G' w')(hg:cq G w):∀b,G.R b<=G'.R b:=fun b=>by
 rcases Nat.lt_or_ge b w.heap.size with hb|hb
 ·exact h.mono b hb
 ·rw[hg.kB b hb];grind
theorem aG.cells{G G':Gh}{w w':World}(h:aG G w G' w')(hg:cq G w):∀b k,k<G.R b->w'.cell? ⟨b,k,none⟩=w.cell? ⟨b,k,none⟩:=fun b k hk=>by
 rcases Nat.lt_or_ge b w.heap.size with hb|hb
 ·exact h.mj b k hb hk
 ·rw[hg.kB b hb]at hk;omega
theorem aG.vr{G G':Gh}{w w':World}(h:aG G w G' w')(hg:cq G w){a:AV}{v:Value}(hv:VR w G.R a v):VR w' G'.R a v:=hv.mono (h.R hg) (h.cells hg)
theorem aG.refl(G:Gh)(w:World):aG G w G w:=⟨rfl,rfl,rfl,Nat.le_refl _,Nat.le_refl _,fun _ _=>Nat.le_refl _,fun _ _ _ _=>rfl,fun _ _ _=>rfl,fun _ _ h=>⟨h,rfl⟩,fun _ _ h=>⟨h,rfl⟩⟩
theorem aG.trans{G₁ G₂ G₃:Gh}{w₁ w₂ w₃:World}(h:aG G₁ w₁ G₂ w₂)(k:aG G₂ w₂ G₃ w₃):aG G₁ w₁ G₃ w₃ where
 os:=k.os.trans h.os
 tape:=k.tape.trans h.tape
 output:=k.output.trans h.output
 drawn:=Nat.le_trans h.drawn k.drawn
 size:=Nat.le_trans h.size k.size
 mono:=fun b hb=>Nat.le_trans (h.mono b hb) (k.mono b (Nat.lt_of_lt_of_le hb h.size))
 mj:=fun b j hb hj=>(k.mj b j (Nat.lt_of_lt_of_le hb h.size) (Nat.lt_of_lt_of_le hj (h.mono b hb))).trans (h.mj b j hb hj)
 frame:=fun b hb ho=>by
  refine(k.frame b (Nat.lt_of_lt_of_le hb h.size) ?_).trans (h.frame b hb ho)
  rcases ho with ho|ho
  ·exact .inl (h.jy b hb ho).1
  ·exact .inr (h.pN b hb ho).1
 jy:=fun b hb ho=>
  let⟨o2,r2⟩:=h.jy b hb ho
  let⟨o3,r3⟩:=k.jy b (Nat.lt_of_lt_of_le hb h.size) o2
  ⟨o3,r3.trans r2⟩
 pN:=fun b hb ho=>
  let⟨o2,r2⟩:=h.pN b hb ho
  let⟨o3,r3⟩:=k.pN b (Nat.lt_of_lt_of_le hb h.size) o2
  ⟨o3,r3.trans r2⟩
theorem dn.mono{G G':Gh}{w w':World}{o:c5}{a:AV}{v:Value}(h:dn G w o a v)(hb:∀b,G.O b=o->G'.O b=o/\G'.R b=G.R b/\w'.heap[b]? =w.heap[b]?):dn G' w' o a v:=by
 unfold dn at*
 split
 ·grind
 ·grind
 ·trivial
theorem Fl.views{cs:List AV}(h:Fl cs):Fl (views cs):=by
 intro c hc
 simp[AB.views,List.mem_map]at hc
 obtain⟨c',h1,rfl⟩:=hc
 have:=h c' h1
 cases c'<;>simp_all [pw,dh,AB.view]
theorem DT.views{t:Nat}{cs:List AV}(h:DT t cs):Fl (AB.views cs):=by
 intro c hc
 simp[AB.views,List.mem_map]at hc
 obtain⟨c',h1,rfl⟩:=hc
 rcases h c' h1 with h|rfl
 ·cases c'<;>simp_all [pw,dh,AB.view]
 ·rfl
theorem DT.flat{t:Nat}{cs:List AV}(h:DT t cs)(hv:AB.views cs=cs):Fl cs:=hv▸h.views
theorem DT.left{t:Nat}{cs sp:List AV}(h:DT t (cs++sp)):DT t cs:=fun c hc=>h c (List.mem_append_left _ hc)
theorem Fl.tag{cs:List AV}(h:Fl cs)(t:Nat):DT t cs:=fun c hc=>.inl (h c hc)
theorem Fl.sub{cs:List AV}(h:Fl cs)(off n:Nat):Fl (sub cs off n):=fun c hc=>h c (List.mem_of_mem_drop (List.mem_of_mem_take hc))
theorem Fl.drop{cs:List AV}(h:Fl cs)(off:Nat):Fl (cs.drop off):=fun c hc=>h c (List.mem_of_mem_drop hc)
theorem Fl.nil:Fl []:=fun c hc=>by grind
theorem dn.view(G:Gh)(w:World)(o:c5)(a:AV)(v:Value):dn G w o (view a) v:=by cases a<;>first|trivial|(rename_i own sz n cs)
theorem VR.view{w:World}{R:Nat->Nat}{a:AV}{v:Value}(h:VR w R a v):VR w R (view a) v:=by
 cases h with
 |slnil own sz=>exact .slnil false sz
 |sle sz a cap=>exact .sle sz a cap
 |sl own sz n cs b off cap u hf hl hR fh hc hr=>exact .sl false sz n cs b off cap u hf hl hR fh hc hr
 |undef v=>exact .undef v
 |bool b=>exact .bool b
 |int k n=>exact .int k n
 |str s=>exact .str s
 |fj=>exact .fj
 |ref b off=>exact .ref b off
 |sp cs b off u hf hR hc hr=>exact .sp cs b off u hf hR hc hr
 |arr b off len cap=>exact .arr b off len cap
 |Fo b off=>exact .Fo b off
 |agg cs vs hf hl hr=>exact .agg cs vs hf hl hr
 |iL cs vs hl hr=>exact .iL cs vs hl hr
 |fn f first eF vf vc hl hr hl' ve=>exact .fn f first eF vf vc hl hr hl' ve
 |nX=>exact .nX
 |mp b=>exact .mp b
 |one v h=>exact .one v h
 |ng t=>exact .fj
 |lx=>exact .lx
 |bb t n cs v h h0=>
  cases h with
  |slnil=>exact .slnil false 1
  |sl _ _ _ _ b off cap u hf hl hR fh hc hr=>exact .sl false 1 n cs b off cap u hf hl hR fh hc hr
 |se=>exact .se
 |when b a v h=>exact .when b a v h
theorem dt.mono{G G':Gh}{w w':World}{o:Nat->c5}{cs:List AV}{c:Array Value}(h:dt G w o cs c)(hv:∀a v,VR w G.R a v->VR w' G'.R a v)
 (hb:∀b j,G.O b=o j->G'.O b=o j/\G'.R b=G.R b/\w'.heap[b]? =w.heap[b]?):dt G' w' o cs c:=
 ⟨h.1,fun j x y hx hy=>⟨hv _ _ (h.2 j x y hx hy).1,(h.2 j x y hx hy).2.mono fun b=>hb b j⟩⟩
theorem du.qB{G:Gh}{w:World}{e:List (Nat×AV)}{tmps:Array Value}{i:Nat}{a:AV}{v:Value}(h:dh a=true):du G w e tmps i a v↔(VR w G.R a v/\dn G w (.slot i 0) a v):=by cases a<;>simp_all [dh,du]
theorem du.xe{G:Gh}{w:World}{e:List (Nat×AV)}{tmps:Array Value}{i:Nat}{a:AV}{v:Value}(h:dh a=true)(hv:VR w G.R a v):du G w e tmps i (view a) v:=by
 have h':dh (view a)=true:=by cases a<;>simp_all [dh,view]
 rw[du.qB h']
 exact⟨hv.view,dn.view ..⟩
theorem du.frame{G G':Gh}{w w':World}{e e':List (Nat×AV)}{tmps Nu:Array Value}{i:Nat}
 (hv:∀a v,VR w G.R a v->VR w' G'.R a v)
 (vd:∀b,(∃j,G.O b=.slot i j)\/G.O b=.loc i->G'.O b=G.O b/\G'.R b=G.R b/\w'.heap[b]? =w.heap[b]?)
 (dT:∀b c j,G.O b=.loc i->G.O c=.cell b j->G'.O c=.cell b j/\G'.R c=G.R c/\w'.heap[c]? =w.heap[c]?):
 ∀(a:AV)(v:Value)(_:∀d,bG a d->∀cs,look e' d=.loc cs->∃cs',look e d=.loc cs'/\Nu[d]? =tmps[d]?)
  (_:du G w e tmps i a v),du G' w' e' Nu i a v
 |.loc cs,v,_,h=>by
  obtain⟨b,c,t,h1,h2,h3,h4,h5,h6⟩:=h
  obtain⟨k1,k2,k3⟩:=vd b (.inr h2)
  exact⟨b,c,t,h1,k1.trans h2,k2.trans h3,k3.trans h4,h5.mono hv fun c j hc=>dT b c j h2 hc,h6⟩
 |.lp d off,v,hlp,h=>by
  obtain⟨b,h3,h4⟩:=h
  refine⟨b,h3,fun cs hcs=>?_⟩
  obtain⟨cs',h1,h2⟩:=hlp d rfl cs hcs
  grind
 |.iL vs,v,_,h=>by
  obtain⟨ys,h1,h2⟩:=h
  exact⟨ys,h1,h2.mono hv fun b j hb=>by grind⟩
 |.when b a,v,hlp,h=>⟨fun hb=>du.frame hv vd dT a v hlp (h.1 hb),h.2⟩
 |.us sz n cs,v,_,h=>by
  rcases h with h|⟨b,cap,c,t,sp,h1,h2,h3,h4,h5,h6,h7,h8,h9,h10,h11⟩
  ·exact .inl h
  ·obtain⟨k1,k2,k3⟩:=vd b (.inl ⟨_,h4⟩)
   exact .inr ⟨b,cap,c,t,sp,h1,h2,h3,k1.trans h4,k2.trans h5,k3.trans h6,h7,h8,h9,fun j x u hx hu=>hv _ _ (h10 j x u hx hu),h11⟩
 |.undef,v,_,h|.bool _,v,_,h|.int _ _,v,_,h|.str _,v,_,h|.fj,v,_,h|.ref _ _,v,_,h|.sp _,v,_,h|.sl _ _ _ _,v,_,h|.arr _ _ _ _,v,_,h|.agg _,v,_,h
 |.fn _ _ _,v,_,h|.nX,v,_,h|.mp _,v,_,h|.se,v,_,h|.one,v,_,h|.ng _,v,_,h|.lx,v,_,h|.bb _ _ _,v,_,h=>by
  refine⟨hv _ _ h.1,h.2.mono fun b hb=>?_⟩
  grind
theorem bc(j i:Nat)(a:AV)(l:List (Nat×AV)):look ((j,a)::l) i=if j=i then a else look l i:=by grind [look]
theorem Inv.put{G G':Gh}{n:Nat}{D:List Deferred}{E:St}{s':ae}{lp':List (Nat×Nat)}{a:Act}{w w':World}(h:Inv G n D E a w)(d:Option Nat)(hd:∀i,d=some i->i<n)(av:AV)(v:Value)
 (jE:cq G' w')(bV:aG G w G' w')(dZ:a8 G' w' s')
 (hlp:∀x∈E.lp,x∈lp')(ac3:∀i t,d=some i->bG av t->(i,t)∈lp')
 (WU:∀i t,d=some i->(∃cs,av=.loc cs)->(t,i)∉E.lp)
 (vd:∀i b,d≠some i->(∃j,G.O b=.slot i j)\/G.O b=.loc i->G'.O b=G.O b/\G'.R b=G.R b/\w'.heap[b]? =w.heap[b]?)
 (dT:∀i b c j,d≠some i->G.O b=.loc i->G.O c=.cell b j->G'.O c=.cell b j/\G'.R c=G.R c/\w'.heap[c]? =w.heap[c]?)
 (Uu:∀i,d=some i->du G' w' ((E.put d av).e) (a.put d v).tmps i av v):
 Inv G' n D {(E.put d av)with s:=s',lp:=lp'} (a.put d v) w':=by
 cases d with
 |none=>
  refine⟨jE,dZ,h.size,fun i u hu=>?_,h.CL,fun i t ht=>hlp _ (h.JY i t ht),h.pn⟩
  exact du.frame (fun _ _ hv=>bV.vr h.ba hv) (fun b=>vd i b (by simp)) (fun b c j=>dT i b c j (by simp)) _ _ (fun t _ cs hcs=>⟨cs,hcs,rfl⟩) (h.cu i u hu)
 |some d=>
  refine⟨jE,dZ,by simp[Act.put,h.size],fun i u hu=>?_,fun i hi=>?_,fun i t ht=>?_,h.pn⟩
  ·by_cases hid:d=i
   ·subst hid
    have hu':u=v:=by
     have hlt:d<a.tmps.size:=by rw[h.size];exact hd d rfl
     simp[Act.put,hlt]at hu
     exact hu.symm
    subst hu'
    have:look (E.put (some d) av).e d=av:=by simp[St.put,bc]
    grind
   ·have hne:(some d:Option Nat)≠some i:=fun e=>hid (Option.some.inj e)
    have hu':a.tmps[i]? =some u:=by simpa[Act.put,Array.getElem?_setIfInBounds_ne hid]using hu
    have:look (E.put (some d) av).e i=look E.e i:=by simp[St.put,bc,hid]
    rw[this]
    refine du.frame (fun _ _ hv=>bV.vr h.ba hv) (fun b=>vd i b hne) (fun b c j=>dT i b c j hne) _ _ (fun t ht cs hcs=>?_) (h.cu i u hu')
    have Dk:=h.JY i t ht
    by_cases hdt:d=t
    ·subst hdt
     simp only[St.put,bc,if_true]at hcs
     grind
    grind [St.put,bc,Act.put,Array.getElem?_setIfInBounds_ne]
  ·have:d≠i:=by have:=hd d rfl;omega
   simp[St.put,bc,this,h.CL i hi]
  ·by_cases hid:d=i
   ·subst hid
    simp only[St.put,bc,if_true]at ht
    grind
   ·simp only[St.put,bc,hid,if_false]at ht
    exact hlp _ (h.JY i t ht)
def cR:Value->AV->Bool
 |.bool a,.bool b=>a==b
 |.int k n,.int k' m=>decide (k=k')&&n==m
 |.string s,.str t=>s.data.toList==t
 |.pointer none,.fj=>true
 |.slice none 0 0,.sl _ _ 0 []=>true
 |.slice none 0 0,.arr _ _ 0 0=>true
 |.slice none 0 0,.bb _ 0 []=>true
 |.map none,.se=>true
 |.nilFunc,.nX=>true
 |.nilIface,.lx=>true
 |_,_=>false
def Ke:List Value->List AV->Bool
 |[],[]=>true
 |v::vs,a::as=>cR v a&&Ke vs as
 |_,_=>false
def bI:Operand->IX->Bool
 |.tmp t,.t i=>t==i
 |.const (.agg vs),.c (.agg cs)=>Ke vs.toList cs
 |.const v,.c a=>cR v a
 |.func f,.c (.fn g [] [])=>f==g
 |_,_=>false
def iO:List Operand->List IX->Bool
 |[],[]=>true
 |o::os,x::xs=>bI o x&&iO os xs
 |_,_=>false
def CK:Option Operand->Option IX->Bool
 |none,none=>true
 |some o,some x=>bI o x
 |_,_=>false
section
variable(P:Program)
def cX(t:TypeId)(n:Nat):Bool:=match P.info? t with
 |some i=>i.size==n
 |none=>false
def kE(t:TypeId)(n:Nat):Bool:=match P.info? t with
 |some i=>i.bytes==n
 |none=>false
def pa(t:TypeId)(multi:Bool):Bool:=match P.underlying t with
 |some (.struct _)|some (.array _ _)=>multi
 |some _=>!multi
 |none=>false
def nQ(t:TypeId)(z:List AV):Bool:=match P.info? t with
 |some i=>(match i.zero with
  |some v=>Ke v.cells.toList z&&i.size==z.length
  |none=>false)
 |none=>false
def cK(t:TypeId):Option TypeId:=match P.underlying t with
 |some (.slice e)=>some e
 |_=>none
def yC(fs:Array Field):List (Nat×Operand)->List (Nat×Nat×IX)->Bool
 |[],[]=>true
 |(i,o)::r,(off,n,x)::s=>(match fs[i]? with
  |some f=>f.offset==off&&cX P f.type n
  |none=>false)&&bI o x&&yC fs r s
 |_,_=>false
def sk(sz:Nat):List (Nat×Operand)->List (Nat×Nat×IX)->Bool
 |[],[]=>true
 |(i,o)::r,(off,n,x)::s=>i*sz==off&&n==sz&&bI o x&&sk sz r s
 |_,_=>false
def UE(t:TypeId):Bool:=match P.underlying t with
 |some (.int _)=>true
 |_=>false
def Wu(t:TypeId):Bool:=match P.underlying t with
 |some .bool=>true
 |_=>false
def LN(t:TypeId):Bool:=match P.underlying t with
 |some .string=>true
 |_=>false
def ad4(t:TypeId):Bool:=match P.underlying t with
 |some (.pointer e)=>(P.info? e).isSome
 |_=>false
def xI(e:TypeId)(sz:Nat):Bool:=match P.info? e with
 |some i=>(match i.zero with
  |some v=>v.cells.size==sz&&v.cells.toList.all Value.oneCell'
  |none=>false)
 |none=>false
def Pk(b:Builtin)(c:Call):Option (List Operand×List TypeId):=match c.callee with
 |.builtin b'=>if b'=b then some (c.args.toList,c.argTypes.toList)else none
 |_=>none
def adz(t:TypeId)(cls:Nat):Bool:=match P.underlying t with
 |some (.slice _)=>cls==0
 |some .string=>cls==1
 |some (.map _ _)=>cls==2
 |_=>false
def agh(t:TypeId)(n:Nat):Bool:=match P.underlying t with
 |some (.array m _)=>n==m
 |_=>false
def K3(t:TypeId):mz->Bool
 |.int k=>(match P.underlying t with|some (.int k')=>Oq k k'|_=>false)
 |.str=>(match P.underlying t with|some .string=>true|_=>false)
 |.bool=>(match P.underlying t with|some .bool=>true|_=>false)
 |.bytes n=>(match P.underlying t with
  |some (.array m e)=>m==n&&(match P.underlying e with|some (.int .u8)=>true|_=>false)&&cX P e 1
  |_=>false)
def LX(t:TypeId)(z:AV):Bool:=match P.info? t with
 |some i=>(match i.zero with
  |some v=>(match z,v with
   |.agg cs,.agg vs=>Ke vs.toList cs
   |z,v=>cR v z)
  |none=>false)
 |none=>false
def D6:List Field->Nat->Bool
 |[],_=>true
 |f::r,k=>f.name != "_" &&f.offset==k&&UE P f.type&&pa P f.type false&&D6 r (k+1)
def aax(t:TypeId)(n:Nat):Bool:=match P.underlying t with
 |some (.struct fs)=>D6 P fs.toList 0&&fs.size==n&&!P.stoodInHeld t&&!P.eqGuardType P.depth t
 |_=>false
def au(op:Op)(_ty:TypeId)(o:qN):Bool:=
 match o,op with
 |.oj _ x,.move y=>bI y x
 |.oj _ x,.assign y=>bI y x
 |.pick c x y,.pick c' x' y'=>bI c' c&&bI x' x&&bI y' y
 |.jS z,.alloc t=>nQ P t z
 |.mb z,.alloc t=>nQ P t z
 |.HF n x,.box t y=>cX P t n&&bI y x
 |.zy n x,.box t y=>cX P t n&&bI y x
 |.build z ps,.build t qs=>nQ P t z&&(match P.underlying t with
  |some (.struct fs)=>yC P fs qs.toList ps&&fs.all fun f=>(P.info? f.type).isSome
  |some (.array _ e)=>(match P.info? e with
   |some i=>sk i.size qs.toList ps
   |none=>false)
  |_=>false)
 |.ij sz n z ps,.buildSlice t m qs=>n==m&&(match cK P t with
  |some e=>cX P e sz&&decide (0<sz)&&sk sz qs.toList ps&&decide (n*sz<=2^24)&&(match P.info? e with
   |some i=>(match i.zero with
    |some v=>Ke ((List.replicate n v.cells.toList).flatten) z&&v.cells.size==sz
    |none=>false)
   |none=>false)
  |none=>false)
 |.nA _ x,.load t y=>cX P t 1&&pa P t false&&bI y x
 |.ki z multi x,.load t y=>cX P t z.length&&pa P t multi&&(multi||z.length==1)&&bI y x
 |.lookup kk z ok x k,.lookup t y j ok'=>bI y x&&bI j k&&ok==ok'&&(match P.underlying t with
  |some (.map kt et)=>K3 P kt kk&&LX P et z
  |_=>false)
 |.mapUpdate kk x k v,.mapUpdate t y j u=>bI y x&&bI j k&&bI u v&&(match P.underlying t with
  |some (.map kt _)=>K3 P kt kk
  |_=>false)
 |.tS x,.move y=>bI y x
 |.tS x,.assign y=>bI y x
 |.kJ (.t i),.convert s t y=>bI y (.t i)&&s==t&&(match P.underlying s with
  |some (.slice e)=>(match P.underlying e with|some (.int .u8)=>true|_=>false)
  |_=>false)
 |.load n multi x,.load t y=>cX P t n&&pa P t multi&&(multi||n==1)&&bI y x
 |.store n p v,.store t q u=>cX P t n&&bI q p&&bI u v
 |.nilCheck x,.nilCheck y=>bI y x
 |.bin bo x y,.binOp b _ u v _=>decide (bo=b)&&bI u x&&bI v y
 |.WQ ne x y,.binOp b t u v _=>decide (b=if ne then .neq else .eql)&&bI u x&&bI v y&&Wu P t
 |.Tx ne x y,.binOp b t u v _=>decide (b=if ne then .neq else .eql)&&bI u x&&bI v y&&ad4 P t
 |.Ty ne x y,.binOp b t u v _=>decide (b=if ne then .neq else .eql)&&bI u x&&bI v y&&(cK P t).isSome
 |.un uo x,.unOp u _ y=>decide (uo=u)&&bI y x
 |.me k x,.convert s t y=>bI y x&&(match P.underlying s,P.underlying t with
  |some (.int _),some (.int k')=>decide (k=k')
  |_,_=>false)
 |.jU x,.convert s t y=>bI y x&&(match P.underlying s,P.underlying t with
  |some (.slice e),some .string=>(match P.underlying e with|some (.int .u8)=>true|_=>false)
  |_,_=>false)
 |.iW x,.convert s t y=>bI y x&&(match P.underlying s,P.underlying t with
  |some .string,some (.slice e)=>(match P.underlying e with|some (.int .u8)=>true|_=>false)
  |_,_=>false)
 |.kY x i,.index t y j=>bI y x&&bI j i&&LN P t
 |.fieldAddr off x,.fieldAddr t y i=>bI y x&&(match P.underlying t with
  |some (.struct fs)=>(match fs[i]? with
   |some f=>f.offset==off&&(match P.info? f.type with|some j=>decide (0<j.size)|none=>false)
   |none=>false)
  |_=>false)
 |.indexAddr z x i,.indexAddr t y j=>bI y x&&bI j i&&(match cK P t with
  |some e=>cX P e z.length
  |none=>false)
 |.iS sz len x i,.indexAddr t y j=>bI y x&&bI j i&&(match P.underlying t with
  |some (.array l e)=>l==len&&cX P e sz
  |_=>false)
 |.slice sz x lo hi mx,.slice t y l h m=>bI y x&&CK l lo&&CK h hi&&CK m mx&&(match cK P t with
  |some e=>cX P e sz
  |none=>false)
 |.oS x lo hi,.slice t y l h none=>bI y x&&CK l lo&&CK h hi&&LN P t
 |.extract x k,.extract y j=>bI y x&&k==j
 |.len cls x,.call c=>(match Pk .len c with
  |some (y::_,t::_)=>bI y x&&adz P t cls
  |_=>false)
 |.cap x,.call c=>(match Pk .cap c with
  |some (y::_,t::_)=>bI y x&&(cK P t).isSome
  |_=>false)
 |.nD true xs,.call c=>(match Pk .max c with
  |some (ys,_)=>iO ys xs
  |_=>false)
 |.nD false xs,.call c=>(match Pk .min c with
  |some (ys,_)=>iO ys xs
  |_=>false)
 |.append sz by' x y,.call c=>(match Pk .append c with
  |some ([u,v],[t,t'])=>bI u x&&bI v y&&(match cK P t with
   |some e=>cX P e sz&&kE P e by'&&decide (0<sz)&&decide (0<by')&&xI P e sz&&((cK P t').isSome||LN P t')
   |none=>false)
  |_=>false)
 |.kT sz by' z l c,.makeSlice t l' c'=>bI l' l&&bI c' c&&(match cK P t with
  |some e=>cX P e sz&&kE P e by'&&nQ P e z&&decide (0<sz)&&decide (0<by')
  |none=>false)
 |.makeMap,.makeMap _ none=>true
 |.call f args,.call c=>(match c.callee with
  |.value (.func g)=>f==g&&iO c.args.toList args&&(match P.funcs[f]? with
   |some fn=>fn.name != "runtime.NumGoroutine" &&fn.body.isSome
   |none=>false)
  |_=>false)
 |.iC x args,.call c=>(match c.callee with
  |.value y=>bI y x&&iO c.args.toList args
  |_=>false)
 |.sd f a b,.makeFunc (.func g) c d=>f==g&&iO c.toList a&&iO d.toList b
 |.lR sz n z ps,.buildSlice t m qs=>n==m&&(match cK P t with
  |some e=>cX P e sz&&decide (0<sz)&&sk sz qs.toList ps&&decide (n*sz<=2^24)&&(match P.info? e with
   |some i=>(match i.zero with
    |some v=>Ke ((List.replicate n v.cells.toList).flatten) z&&v.cells.size==sz
    |none=>false)
   |none=>false)
  |none=>false)
 |.nY sz by' z x y,.call c=>(match Pk .append c with
  |some ([u,v],[t,t'])=>bI u x&&bI v y&&(match cK P t with
   |some e=>cX P e sz&&kE P e by'&&decide (0<sz)&&decide (0<by')&&xI P e sz&&nQ P e z&&((cK P t').isSome||LN P t')
   |none=>false)
  |_=>false)
 |.oc sz by' z x y,.call c=>(match Pk .append c with
  |some ([u,v],[t,t'])=>bI u x&&bI v y&&UE P t'&&(match cK P t with
   |some e=>cX P e sz&&kE P e by'&&decide (0<sz)&&decide (0<by')&&nQ P e z
   |none=>false)
  |_=>false)
 |.yZ sz x y,.call c=>(match Pk .copy c with
  |some ([u,v],[t,_])=>bI u x&&bI v y&&(match cK P t with
   |some e=>cX P e sz
   |none=>false)
  |_=>false)
 |.rD z x,.call c=>(match Pk .clear c with
  |some (u::_,t::_)=>bI u x&&(match cK P t with
   |some e=>nQ P e z
   |none=>false)
  |_=>false)
 |.zi _ _ x,.load t y=>cX P t 1&&pa P t false&&bI y x
 |.Ue _ _ x,.move y=>bI y x
 |.Ue _ _ x,.assign y=>bI y x
 |.mw x,.load t y=>(cK P t).isSome&&cX P t 1&&pa P t false&&bI y x
 |.my _ _ x,.load t y=>(cK P t).isSome&&cX P t 1&&pa P t false&&bI y x
 |.WR ne x,.binOp b t u v _=>decide (b=if ne then .neq else .eql)&&bI u x&&(match v with|.const (.slice none 0 0)=>true|_=>false)&&(cK P t).isSome
 |.yV f i args,.call c=>args.any (fun x=>match x with|.t j=>j==i|_=>false)&&(match c.callee with
  |.value (.func g)=>f==g&&iO c.args.toList args&&(match P.funcs[f]? with
   |some fn=>fn.name != "runtime.NumGoroutine" &&fn.body.isSome
   |none=>false)
  |_=>false)
 |.T9 ne x,.binOp b t u v _=>decide (b=if ne then .neq else .eql)&&bI u x&&(match v with|.const .nilFunc=>true|_=>false)&&(match P.underlying t with|some (.func _ _ _)=>true|_=>false)
 |.Ua ne x,.binOp b t u v _=>decide (b=if ne then .neq else .eql)&&bI u x&&(match v with|.const .nilIface=>true|_=>false)&&(match P.underlying t with|some (.interface _)=>true|_=>false)
 |.HX x,.convert s t y=>bI y x&&(match P.underlying s with|some (.pointer e)=>(match P.info? e with|some j=>j.size !=0|none=>false)|_=>false)&&(match P.underlying t with|some .unsafePointer=>true|_=>false)
 |.HW u x,.convert s t y=>bI y x&&(match P.underlying s with|some .unsafePointer=>true|_=>false)&&(match P.underlying t with|some (.pointer e)=>e==u&&(P.info? e).isSome|_=>false)
 |.yW f x,.call c=>(match c.callee with
  |.value (.func g)=>f==g&&iO c.args.toList [x]
  |_=>false)
 |.HH n t j u x,.box t' y=>t==t'&&cX P t n&&bI y x
 |.n9 u x y,.call c=>(match Pk .append c with
  |some ([p,q],[t,t'])=>bI p x&&bI q y&&(match cK P t with
   |some e=>cX P e 1&&kE P e 1&&xI P e 1&&((cK P t').isSome||LN P t')&&e==u
   |none=>false)
  |_=>false)
 |.HG _ n x,.box t y=>cX P t n&&bI y x
 |_,_=>false
def TR(ops:Array Oper):Option (Nat×Bool)->Option (Nat×Bool)->Bool
 |none,none=>true
 |some (j,w),some (t,w')=>w==w'&&((ops[j]?).bind (·.dst))==some t
 |_,_=>false
def bq(n:Nat):Option Nat->Bool
 |none=>true
 |some d=>decide (d<n)
def ik(n:Nat)(ops:Array Oper)(o:Oper)(o':aq):Bool:=o.dst==o'.dst&&bq n o'.dst&&TR ops o.guard o'.g&&au P o.op o.type o'.op
def cz(n:Nat)(ops:Array Oper):List Oper->List aq->Bool
 |[],[]=>true
 |o::r,o'::r'=>ik P n ops o o'&&cz n ops r r'
 |_,_=>false
def oX:Option IX->List IX
 |some x=>[x]
 |none=>[]
def eh:qN->List IX
 |.oj _ x|.HF _ x|.zy _ x|.load _ _ x|.nilCheck x|.un _ x|.me _ x|.jU x|.iW x|.fieldAddr _ x|.extract x _|.len _ x|.cap x|.ki _ _ x|.kJ x|.tS x|.rD _ x|.Ue _ _ x|.zi _ _ x|.mw x|.WR _ x|.T9 _ x|.Ua _ x|.HX x|.yW _ x|.HW _ x|.HH _ _ _ _ x|.HG _ _ x|.nA _ x=>[x]
 |.my _ j x=>[j,x]
 |.pick c x y=>[c,x,y]
 |.jS _|.mb _|.makeMap=>[]
 |.build _ ps|.ij _ _ _ ps|.lR _ _ _ ps=>ps.map fun p=>p.2.2
 |.store _ x y|.bin _ x y|.WQ _ x y|.Tx _ x y|.Ty _ x y|.kY x y|.indexAddr _ x y|.iS _ _ x y|.append _ _ x y|.n9 _ x y|.kT _ _ _ x y|.lookup _ _ _ x y|.nY _ _ _ x y|.oc _ _ _ x y|.yZ _ x y=>[x,y]
 |.slice _ x lo hi mx=>x::(oX lo++(oX hi++oX mx))
 |.oS x lo hi=>x::(oX lo++oX hi)
 |.nD _ xs=>xs
 |.mapUpdate _ x y z=>[x,y,z]
 |.call _ xs|.yV _ _ xs=>xs
 |.iC x xs=>x::xs
 |.sd _ xs ys=>xs++ys
def Am:List IX->List Nat
 |[]=>[]
 |.t i::r=>i::Am r
 |.c _::r=>Am r
def Yz:Option (Nat×Bool)->List Nat
 |some (t,_)=>[t]
 |none=>[]
def cu(o:aq):List Nat:=Yz o.g++Am (eh o.op)
def gV(d:Option Nat)(l:List Nat):Bool:=match d with
 |some d=>!l.contains d
 |none=>true
def jN(o:aq)(i:Nat):Bool:=match o.op with
 |.oj true (.t j)=>j==i
 |_=>false
def RG(x y:aq):Bool:=(cu y).all fun i=>!jN x i
def ap(x y:aq):Bool:=(RG x y&&RG y x)&&gV x.dst (cu y)&&gV y.dst (cu x)&&(match x.dst,y.dst with
 |some i,some j=>i !=j
 |_,_=>true)
def ib(ops:Array Oper)(j i:Nat):Bool:=match ops[j]? with
 |some o=>o.after.any fun e=>Region.binds .any e&&e.on==i
 |none=>false
def Mg(ops:Array Oper)(q:Nat):Bool:=(List.range q).all fun k=>match ops[k]? with
 |some o=>o.after.all fun e=>!Region.binds .any e||decide (e.on<k)
 |none=>false
def DZ(ops:Array Oper)(q:Nat):Bool:=q==ops.size||(List.range q).all fun k=>(List.range (q+1)).any fun m=>decide (k<m)&&ib ops m k
def acf(bJ:List aq)(i j:Nat):Bool:=match bJ[i]?,bJ[j]? with
 |some x,some y=>ap x y
 |_,_=>false
def WC(ops:Array Oper)(q:Nat)(bJ:List aq):Bool:=(List.range q).all fun j=>(List.range j).all fun i=>ib ops j i||acf bJ i j
def qj(ops:Array Oper):Nat->Nat->Array Bool->Bool
 |0,_,aU=>(Region.ready .any ops aU).isEmpty
 |fuel+1,k,aU=>Region.ready .any ops aU==[k]&&qj ops fuel (k+1) (aU.setIfInBounds k true)
def oU(size q:Nat):Array Bool:=(Array.range size).map fun i=>decide (i<q)
def Mf(ops:Array Oper)(q:Nat)(bJ:List aq):Bool:=decide (q<=ops.size)&&(Mg ops q&&(DZ ops q&&(WC ops q bJ&&qj ops (ops.size -q) q (oU ops.size q))))
def pW(o:aq):Option Nat:=match o with
 |⟨none,.store _ (.t c) _,none⟩=>some c
 |o=>o.dst
def iX(o:aq)(i:Nat):Bool:=match o.op with
 |.oj true (.t j)=>j==i
 |.store _ _ (.t j)=>j==i
 |.append _ _ (.t j) _=>j==i
 |.my _ (.t j) _=>j==i
 |_=>false
def zj(x y:aq):Bool:=(cu y).all fun i=>!iX x i
def Yf(o:aq):Bool:=(eh o.op).all fun x=>match x with
 |.c (.lp _ _)=>false
 |.c (.when _ _)=>false
 |_=>true
def Wn(x y:aq):Bool:=(Yf x&&Yf y)&&(zj x y&&zj y x)&&gV (pW x) (cu y)&&gV (pW y) (cu x)&&(match pW x,pW y with
 |some i,some j=>i !=j
 |_,_=>true)
def Wo(bJ:List aq)(i j:Nat):Bool:=match bJ[i]?,bJ[j]? with
 |some x,some y=>Wn x y
 |_,_=>false
def PU(ops:Array Oper)(q:Nat)(bJ:List aq):Bool:=(List.range q).all fun j=>(List.range j).all fun i=>ib ops j i||Wo bJ i j
def Rs:qN->Bool
 |.store _ _ _=>true
 |.jS _=>true
 |.append _ _ _ _=>true
 |.my _ _ _=>true
 |_=>false
def PT(T:List Nat)(bJ:List aq)(q:Nat):Bool:=(bJ.take q).all fun o=>match o with
 |⟨none,.store _ (.t c) _,none⟩=>T.contains c
 |⟨some d,.jS _,none⟩=>T.contains d
 |_=>true
def Fu(T:List Nat)(ops:Array Oper)(q:Nat)(bJ:List aq):Bool:=decide (q<=ops.size)&&(Mg ops q&&(DZ ops q&&(PU ops q bJ&&(PT T bJ q&&qj ops (ops.size -q) q (oU ops.size q)))))
abbrev Item:=Nat×Nat×aq
def Le(acc:List Nat)(o:Oper):Nat:=o.after.toList.foldl (fun s e=>bif Region.binds .any e then s |||(1<<<e.on)|||acc.getD e.on 0 else s) 0
def EC:List Oper->List Nat->List Nat
 |[],acc=>acc
 |o::r,acc=>EC r (acc++[Le acc o])
def X8(y x:aq):Bool:=zj y x&&gV (pW y) (cu x)&&gV x.dst (cu y)&&(match pW y,x.dst with
 |some i,some j=>i !=j
 |_,_=>true)
def IV:aq->aq->Bool
 |⟨_,.load _ _ _,none⟩,⟨_,.kT _ _ _ _ _,_⟩=>true
 |⟨_,.load _ _ _,none⟩,⟨_,.mw _,_⟩=>true
 |_,_=>false
def Xd(k k':Nat)(x y:aq):Bool:=match k,k' with
 |0,0|0,1|1,0|1,1=>Wn x y
 |1,2=>X8 x y
 |0,2=>IV x y&&X8 x y
 |_,_=>false
def xr(ops:Array Oper)(ms:List Nat)(x y:Item):Bool:=!ib ops x.2.1 y.2.1&&(x.2.1 !=y.2.1&&((ms.getD y.2.1 0).testBit x.2.1||
 Xd x.1 y.1 x.2.2 y.2.2))
def GI(ops:Array Oper)(ms:List Nat):List Item->Bool
 |[]=>true
 |x::r=>r.all (xr ops ms x)&&GI ops ms r
def Bt(T:List Nat)(n:Nat)(ops:Array Oper)(x:Item):Bool:=(match ops[x.2.1]? with
 |some o=>ik P n ops o x.2.2&&o.after.all fun e=>!Region.binds .any e||(decide (e.on<ops.size)&&e.on !=x.2.1)
 |none=>false)&&(match x.2.2 with
 |⟨none,.store _ (.t c) _,none⟩=>decide (2<=x.1)||T.contains c
 |⟨some d,.jS _,none⟩=>T.contains d
 |_=>true)
def Yj(T:List Nat)(n:Nat)(ops:Array Oper)(l:List Item):Bool:=(l.length==ops.size&&(List.range ops.size).all fun k=>l.any fun x=>x.2.1==k)&&(l.all (Bt P T n ops)&&GI ops (EC ops.toList []) l)
def Mi(ops:Array Oper)(gQ:List (List Bool)):Bool:=gQ.length==ops.size&&(List.range ops.size).all fun j=>
 ((gQ.getD j []).length==ops.size&&(List.range ops.size).all fun i=>!((gQ.getD j []).getD i false)||ib ops j i)&&(match ops[j]? with
 |some o=>o.after.all fun e=>!Region.binds .any e||decide (e.on<j)
 |none=>false)
def yL:Code->Nat->Option (List Code×Code)
 |.seq (.label m) r,l=>if m==l then some ([],r)else none
 |.seq s c,l=>if(findLabel s l).isNone then(yL c l).map fun p=>(s::p.1,p.2)else none
 |_,_=>none
def vm:IC->Bool
 |.skip=>true
 |_=>false
def k8(n:Nat):Code->IC->Bool
 |.skip,.skip=>true
 |.region _ ops draw,.XH q bJ _=>cz P n ops ops.toList bJ&&(match q with
  |none=>!draw
  |some q=>!draw||Mf ops q bJ)
 |.region _ ops draw,.Sp T q bJ _=>cz P n ops ops.toList bJ&&(!draw||Fu T ops q bJ)
 |.region _ ops draw,.OR T l _=>draw&&Yj P T n ops l
 |.region _ ops draw,.Vw gQ bJ _=>draw&&(cz P n ops ops.toList bJ&&Mi ops gQ)
 |.seq a b,.seq a' b'=>k8 n a a'&&k8 n b b'
 |.seq a b,.join _ a' b'=>k8 n a a'&&k8 n b b'
 |.cond c a b,.cond c' a' b'=>bI c c'&&k8 n a a'&&k8 n b b'
 |.block i b,.block j b'=>i==j&&k8 n b b'
 |.loop b,.loop _ b'=>k8 n b b'
 |.exit i,.exit j=>i==j
 |.scope c,.B7 l _ a1 a2 a3 r'=>match yL c l with
  |some ([],r)=>vm a1&&(vm a2&&(vm a3&&k8 n r r'))
  |some ([s1],r)=>k8 n s1 a1&&(vm a2&&(vm a3&&k8 n r r'))
  |some ([s1,s2],r)=>k8 n s1 a1&&(k8 n s2 a2&&(vm a3&&k8 n r r'))
  |some ([s1,s2,s3],r)=>k8 n s1 a1&&(k8 n s2 a2&&(k8 n s3 a3&&k8 n r r'))
  |_=>false
 |.scope b,.scope b'=>k8 n b b'
 |.label l,.label l'=>l==l'
 |.goto l,.goto l'=>l==l'
 |.ret,.ret=>true
 |_,.dead=>true
 |_,_=>false
end
theorem ud{v:Value}{a:AV}(h:cR v a=true)(w:World)(R:Nat->Nat):VR w R a v:=by
 unfold cR at h
 split at h
 ·obtain rfl:=beq_iff_eq.1 h;exact .bool _
 ·rw[Bool.and_eq_true]at h;obtain⟨h1,h2⟩:=h;obtain rfl:=of_decide_eq_true h1;obtain rfl:=beq_iff_eq.1 h2;exact .int _ _
 ·obtain rfl:=beq_iff_eq.1 h
  rename_i s
  have:∀b:ByteArray,b=⟨b.data.toList.toArray⟩:=fun b=>by cases b;simp
  conv=>rhs;rw[this s]
  exact .str _
 ·exact .fj
 ·exact .slnil _ _
 ·exact .Fo _ _
 ·exact .bb _ _ _ _ (.slnil _ _) (fun _=>rfl)
 ·exact .se
 ·exact .nX
 ·exact .lx
 ·cases h
theorem PK{v:Value}{a:AV}(h:cR v a=true):dh a=true:=by
 unfold cR at h
 split at h<;>first|rfl|cases h
theorem Ae{vs:List Value}{as:List AV}(h:Ke vs as=true):vs.length=as.length/\∀(j:Nat)(c:AV)(v:Value),as[j]? =some c->vs[j]? =some v->cR v c=true:=by
 induction vs generalizing as with
 |nil=>cases as with
  |nil=>exact⟨rfl,fun j c v hc=>by simp at hc⟩
  |cons=>simp[Ke]at h
 |cons v vs ih=>cases as with
  |nil=>simp[Ke]at h
  |cons a as=>
   simp only[Ke,Bool.and_eq_true]at h
   obtain⟨h1,h2⟩:=ih h.2
   refine⟨by simp[h1],fun j c u hc hu=>?_⟩
   cases j with
   |zero=>simp at hc hu;subst hc;subst hu;exact h.1
   |succ j=>exact h2 j c u (by simpa using hc) (by simpa using hu)
theorem TL{v:Value}{a:AV}(h:cR v a=true):pw a=true:=by
 unfold cR at h
 split at h<;>first|rfl|cases h
theorem AO:∀{vs:List Value}{as:List AV},Ke vs as=true->Fl as
 |[],[],_=>Fl.nil
 |v::vs,a::as,h=>by
  simp only[Ke,Bool.and_eq_true]at h
  intro c hc
  rcases List.mem_cons.1 hc with rfl|hc
  ·exact TL h.1
  ·exact AO h.2 c hc
 |[],_::_,h=>by simp[Ke]at h
 |_::_,[],h=>by simp[Ke]at h
theorem Md{vs:Array Value}{cs:List AV}(h:Ke vs.toList cs=true)(w:World)(R:Nat->Nat):VR w R (.agg cs) (.agg vs):=by
 obtain⟨h1,h2⟩:=Ae h
 exact .agg cs vs (AO h) (by simpa using h1) fun j c v hc hv=>ud (h2 j c v hc (by simpa using hv)) w R
theorem AN{v:Value}{a:AV}(h:cR v a=true)(G:Gh)(w:World)(o:c5):dn G w o a v:=by
 unfold cR at h
 split at h<;>first|(cases h;done)|trivial|skip
 ·rename_i own sz
  cases own with
  |false=>trivial
  |true=>intro base m cap hv hc;injection hv with _ h2 h3;omega
 ·intro base m cap hv hc;injection hv with _ h2 h3;omega
section
variable{P:Program}{G:Gh}{n:Nat}{D:List Deferred}{E:St}{a:Act}{w:World}
def BR(G:Gh)(w:World)(E:St)(a:Act)(x:IX):AV->Value->Prop
 |.loc cs,v=>∃i b c t,x=.t i/\look E.e i=.loc cs/\a.tmps[i]? =some v/\v=.pointer (some ⟨b,0,none⟩)/\G.O b=.loc i/\G.R b=0/\w.heap[b]? =some (.cells c t (0,0))/\dt G w (.cell b) cs c/\Fl cs
 |.lp d off,v=>∃b,v=.pointer (some ⟨b,off,none⟩)/\∀cs,look E.e d=.loc cs->a.tmps[d]? =some (.pointer (some ⟨b,0,none⟩))
 |.when _ _,_=>True
 |.us _ _ _,_=>True
 |av,v=>VR w G.R av v
def XR(G:Gh)(w:World)(E:St)(a:Act)(x:IX):AV->Value->Prop
 |.when b av,v=>b=true->inner av=true->BR G w E a x av v
 |av,v=>BR G w E a x av v
theorem BR.vr{x:IX}{av:AV}{v:Value}(h:dh av=true)(hv:BR G w E a x av v):VR w G.R av v:=by cases av<;>simp_all [dh,BR]
theorem XR.br{x:IX}{av:AV}{v:Value}(hv:XR G w E a x av v):BR G w E a x (tZ true av) v:=by
 cases av<;>try exact hv
 rename_i b av
 cases b with
 |false=>
  have:tZ true (.when false av)=.undef:=by simp[tZ]
  rw[this];exact VR.undef v
 |true=>
  cases hi:inner av with
  |false=>
   have:tZ true (.when true av)=.undef:=by simp[tZ,hi]
   rw[this];exact VR.undef v
  |true=>
   have:tZ true (.when true av)=av:=by simp[tZ,hi]
   rw[this];exact hv rfl hi
theorem XR.U5{i:Nat}(hi:a.tmps[i]? =some (a.eval (.tmp i))){av:AV}(hl:look E.e i=av)(h:du G w E.e a.tmps i av (a.eval (.tmp i))):XR G w E a (.t i) av (a.eval (.tmp i)):=by
 have base:∀av:AV,(∀cs,av=.loc cs->look E.e i=.loc cs)->du G w E.e a.tmps i av (a.eval (.tmp i))->BR G w E a (.t i) av (a.eval (.tmp i)):=by
  intro av hl h
  cases av with
  |loc cs=>
   obtain⟨b,c,t,h1,h2,h3,h4,h5⟩:=h
   exact⟨i,b,c,t,rfl,hl cs rfl,hi,h1,h2,h3,h4,h5⟩
  |lp d off=>exact h
  |iL vs=>
   obtain⟨ys,h1,h2⟩:=h
   rw[h1]
   exact VR.iL vs ys h2.1 fun j c u hc hu=>(h2.2 j c u hc hu).1
  | «when» b av=>trivial
  |us sz m cs=>trivial
  |_=>exact h.1
 cases av with
 | «when» b av=>exact fun hb hin=>base av (fun cs hcs=>by subst hcs;cases hin) (h.1 hb)
 |_=>exact base _ (fun cs hcs=>by rw[hl,hcs]) h
theorem fQ{i:Nat}(hi:i<a.tmps.size):a.tmps[i]? =some (a.eval (.tmp i)):=by simp[Act.eval,Array.getD_eq_getD_getElem?,hi]
theorem XR.aV(h:Inv G n D E a w){o:Operand}{x:IX}(hx:bI o x=true):XR G w E a x (E.x x) (a.eval o):=by
 unfold bI at hx
 split at hx
 ·rename_i t i
  obtain rfl:=beq_iff_eq.1 hx
  rcases Nat.lt_or_ge t n with ht|ht
  ·have hs:t<a.tmps.size:=by rw[h.size];exact ht
   exact XR.U5 (fQ hs) rfl (h.cu t _ (fQ hs))
  ·have:E.x (.t t)=.undef:=h.CL t ht
   rw[this];exact VR.undef _
 ·exact Md hx w G.R
 ·rename_i v av _
  have hv:=ud hx w G.R
  have hi:=PK hx
  show XR G w E a _ av v
  cases av<;>first|exact hv|(simp[dh]at hi)
 ·rename_i f g
  obtain rfl:=beq_iff_eq.1 hx
  exact VR.fn f [] [] #[] #[] rfl (fun j c v hc=>by simp at hc) rfl (fun j c v hc=>by simp at hc)
 ·cases hx
theorem BR.aV(h:Inv G n D E a w){o:Operand}{x:IX}(hx:bI o x=true):BR G w E a x (xg true E x) (a.eval o):=(XR.aV h hx).br
def NR(G:Gh)(w:World)(E:St)(a:Act)(av:AV)(v:Value):Prop:=
 match av with
 |.lp d off=>∃b,v=.pointer (some ⟨b,off,none⟩)/\∀cs,look E.e d=.loc cs->a.tmps[d]? =some (.pointer (some ⟨b,0,none⟩))
 |av=>dh av=true/\VR w G.R av v/\view av=av
end
end Go.AB
end
