/- A part. -/
import Derived.Test.YtgecakgfnjkkbaaGreatTt1
import Derived.Attr
import Derived.Laws.Cells
import Derived.Laws.Strings
import Derived.Laws.Pointers
import Derived.Laws.Small
set_option linter.defProp false
set_option linter.unusedSimpArgs false
set_option linter.unusedVariables false
section
namespace Go.AB
open Go
section
variable(P:Program)(K:St->Prop)(Q:Exit->St->Prop)(E τ:St)(d:Option Nat)
attribute[go_sem] swp.eq_1
@[go_sem]theorem ahB(o:ar)(r:List ar):swp P (o::r) E K=Mi P o E (ahA P r K):=rfl
attribute[go_sem] ahA.eq_1 ahh.eq_1 Ac.eq_1
@[go_sem]theorem afB(op:sD):Mi P ⟨d,op,none⟩ E K=Z3 P op E d K (pv op (xg true E) E):=rfl
attribute[go_sem] owp.eq_1
@[go_sem]theorem afC(op:sD)(t:Nat)(want:Bool):Mi P ⟨d,op,some (t,want)⟩ E K=zz P op d t want E K (look E.e t):=rfl
attribute[go_sem] fW.eq_18 fW.eq_1 fW.eq_2 fW.eq_3 fW.eq_5
@[go_sem]theorem afr(T:List Nat)(q:Nat)(ops:List ar)(live:List Nat):fW P (.U0 T q ops live) Q E=(ku T E.e=true/\E2 P T q ops E (Ac live Q)):=rfl
@[go_sem]theorem ah9(a b:IC):fW P (.seq a b) Q E=fW P a (BL P b Q) E:=by
  have:(fun x τ=>match x with|.normal=>fW P b Q τ|x=>Q x τ)=BL P b Q:=by funext x τ;cases x<;>rfl
  rw[<-this];rfl
@[go_sem]theorem afq(x:IX)(a b:IC):fW P (.cond x a b) Q E=OJ P a b Q E (E.x x):=by
  show(match E.x x with|.bool v=>(v=true->fW P a Q E)/\(v=false->fW P b Q E)|_=>False)=_
  cases E.x x<;>rfl
attribute[go_sem] fW.eq_9 fW.eq_12 fW.eq_15 fW.eq_16 fW.eq_17 OJ.eq_1 BL.eq_1
@[go_sem]theorem ahs(b:IC):BL P b Q .ret τ=Q .ret τ:=rfl
@[go_sem]theorem aeP(b:IC)(i:Nat):BL P b Q (.exit i) τ=Q (.exit i) τ:=rfl
@[go_sem]theorem aeQ(b:IC)(i:Nat):BL P b Q (.goto i) τ=Q (.goto i) τ:=rfl
@[go_sem]theorem Zc(i:Nat):P8 i Q .normal τ=Q .normal τ:=rfl
@[go_sem]theorem afd(i:Nat):P8 i Q .ret τ=Q .ret τ:=rfl
@[go_sem]theorem adH(i l:Nat):P8 i Q (.goto l) τ=Q (.goto l) τ:=rfl
attribute[go_sem] P8.eq_1 pK.eq_1
@[go_sem]theorem ad0(live:List (Nat×Bool))(J:St->Prop):pK live J Q .ret τ=Q .ret τ:=rfl
@[go_sem]theorem abK(live:List (Nat×Bool))(J:St->Prop)(i:Nat):pK live J Q (.exit i) τ=Q (.exit i) τ:=rfl
@[go_sem]theorem abL(live:List (Nat×Bool))(J:St->Prop)(i:Nat):pK live J Q (.goto i) τ=Q (.goto i) τ:=rfl
attribute[go_sem] fW.eq_6 Rw.eq_1
@[go_sem]theorem cj(iH:List (List Bool))(ops:List ar)(K:St->Prop)(d:List Bool)(o:ar)(f:List ar):Rw P iH ops K (o::f) d E=Ol d iH [] d ops (fun o d=>Mi P o E (ah0 P iH ops K f d)):=rfl
@[go_sem]theorem cS(iH:List (List Bool))(ops:List ar)(K:St->Prop)(f:List ar)(d:List Bool)(τ:St):ah0 P iH ops K f d τ=Rw P iH ops K f d τ:=rfl
attribute[go_sem] vN xA xz
@[go_sem]theorem bK(done row pre xs:List Bool)(rows:List (List Bool))(x:Bool)(o:ar)(r:List ar)(F:ar->List Bool->Prop):Ol done (row::rows) pre (x::xs) (o::r) F=((bif !x&&vN row done then F o (xA pre (true::xs))else True)/\Ol done rows (x::pre) xs r F):=rfl
@[go_sem]theorem ch(done pre:List Bool)(F:ar->List Bool->Prop):Ol done [] pre [] [] F=True:=rfl
@[go_sem]theorem MJ(l:Nat)(live:List (Nat×Bool))(a1 a2 a3 r:IC):fW P (.DV l live a1 a2 a3 r) Q E=fW P a1 (BL P a2 (BL P a3 (I7 live (VV P l live r Q) Q))) E:=by
  show fW P a1 (fun x τ=>match x with|.normal=>fW P a2 (fun x τ=>match x with|.normal=>fW P a3 (I7 live (VV P l live r Q) Q) τ|x=>I7 live (VV P l live r Q) Q x τ) τ|x=>I7 live (VV P l live r Q) Q x τ) E=_
  congr 1
  funext x τ
  cases x with
  |normal=>
   show fW P a2 _ τ=fW P a2 _ τ
   congr 1
   funext x τ
   cases x<;>rfl
  |_=>rfl
attribute[go_sem] I7.eq_1
@[go_sem]theorem ahr(live:List (Nat×Bool))(I:St->Prop):I7 live I Q .ret τ=Q .ret τ:=rfl
@[go_sem]theorem age(l:Nat)(live:List (Nat×Bool))(I:St->Prop):It l live I Q .ret τ=Q .ret τ:=rfl
@[go_sem]theorem adY(l:Nat)(live:List (Nat×Bool))(I:St->Prop)(i:Nat):It l live I Q (.exit i) τ=Q (.exit i) τ:=rfl
@[go_sem]theorem adZ(l:Nat)(live:List (Nat×Bool))(I:St->Prop):It l live I Q (.goto l) τ=I (τ.fu live):=by
  show(l=l/\I (τ.fu live))=_
  simp
attribute[go_sem] GH.eq_1
@[go_sem]theorem ad3(live:List (Nat×Bool))(I:St->Prop)(μ:St->Nat)(m:Nat):GH live I μ m Q .ret τ=Q .ret τ:=rfl
@[go_sem]theorem abV(live:List (Nat×Bool))(I:St->Prop)(μ:St->Nat)(m i:Nat):GH live I μ m Q (.exit i) τ=Q (.exit i) τ:=rfl
end
section
@[go_sem]theorem adX:dJ (.undef)=false:=rfl
@[go_sem]theorem aeR(g:Bool):vi g (.undef)=(.undef):=rfl
@[go_sem]theorem adx:view (.undef)=(.undef):=rfl
@[go_sem]theorem af7(b:Bool):dJ (.bool b)=true:=rfl
@[go_sem]theorem ahJ(g:Bool)(b:Bool):vi g (.bool b)=(.bool b):=rfl
@[go_sem]theorem aeS(b:Bool):view (.bool b)=(.bool b):=rfl
@[go_sem]theorem Wk(b:Bool):cellsOf (.bool b)=[(.bool b)]:=rfl
@[go_sem]theorem abZ(E:St)(i:Nat)(b:Bool):cq E (.bool b) (some i)=E:=rfl
@[go_sem]theorem aih(k:IntKind)(n:Int):dJ (.int k n)=true:=rfl
@[go_sem]theorem aiX(g:Bool)(k:IntKind)(n:Int):vi g (.int k n)=(.int k n):=rfl
@[go_sem]theorem ahS(k:IntKind)(n:Int):view (.int k n)=(.int k n):=rfl
@[go_sem]theorem Zl(k:IntKind)(n:Int):cellsOf (.int k n)=[(.int k n)]:=rfl
@[go_sem]theorem aaw(k:IntKind)(n:Int):bB (.int k n)=[(.int k n)]:=rfl
@[go_sem]theorem aeb(E:St)(i:Nat)(k:IntKind)(n:Int):cq E (.int k n) (some i)=E:=rfl
@[go_sem]theorem aij(s:List UInt8):dJ (.str s)=true:=rfl
@[go_sem]theorem ai0(g:Bool)(s:List UInt8):vi g (.str s)=(.str s):=rfl
@[go_sem]theorem ahV(s:List UInt8):view (.str s)=(.str s):=rfl
@[go_sem]theorem Zn(s:List UInt8):cellsOf (.str s)=[(.str s)]:=rfl
@[go_sem]theorem aed(E:St)(i:Nat)(s:List UInt8):cq E (.str s) (some i)=E:=rfl
@[go_sem]theorem aj6(t n:Nat)(cs:List AV):dJ (.bb t n cs)=true:=rfl
attribute[go_sem] view.eq_4
@[go_sem]theorem adf(t n:Nat)(cs:List AV):bB (.bb t n cs)=[.bb t n cs]:=rfl
@[go_sem]theorem af9:dJ (.ml)=true:=rfl
@[go_sem]theorem ahL(g:Bool):vi g (.ml)=(.ml):=rfl
@[go_sem]theorem aeU:view (.ml)=(.ml):=rfl
@[go_sem]theorem ab1(E:St)(i:Nat):cq E (.ml) (some i)=E:=rfl
@[go_sem]theorem Zw:ey (.ml)=.ml:=rfl
attribute[go_sem] view.eq_3
@[go_sem]theorem aga:dJ (.fN)=true:=rfl
@[go_sem]theorem ahM(g:Bool):vi g (.fN)=(.fN):=rfl
@[go_sem]theorem aeV:view (.fN)=(.fN):=rfl
@[go_sem]theorem ab2(E:St)(i:Nat):cq E (.fN) (some i)=E:=rfl
@[go_sem]theorem aii(b o:Nat):dJ (.ref b o)=true:=rfl
@[go_sem]theorem aiZ(g:Bool)(b o:Nat):vi g (.ref b o)=(.ref b o):=rfl
@[go_sem]theorem ahU(b o:Nat):view (.ref b o)=(.ref b o):=rfl
@[go_sem]theorem Zm(b o:Nat):cellsOf (.ref b o)=[(.ref b o)]:=rfl
@[go_sem]theorem aax(b o:Nat):bB (.ref b o)=[(.ref b o)]:=rfl
@[go_sem]theorem aec(E:St)(i:Nat)(b o:Nat):cq E (.ref b o) (some i)=E:=rfl
@[go_sem]theorem akL(g:Bool)(b o:Nat):vi g (.lp b o)=(.lp b o):=rfl
attribute[go_sem] cq.eq_1
@[go_sem]theorem akO(g:Bool)(cs:List AV):vi g (.sp cs)=(.sp cs):=rfl
@[go_sem]theorem ags(E:St)(i:Nat)(cs:List AV):cq E (.sp cs) (some i)=E:=rfl
@[go_sem]theorem aiY(g:Bool)(cs:List AV):vi g (.loc cs)=(.loc cs):=rfl
@[go_sem]theorem ahT(cs:List AV):view (.loc cs)=(.loc cs):=rfl
@[go_sem]theorem aj9(o:Bool)(z n:Nat)(cs:List AV):dJ (.sl o z n cs)=true:=rfl
@[go_sem]theorem akN(g:Bool)(o:Bool)(z n:Nat)(cs:List AV):vi g (.sl o z n cs)=(.sl o z n cs):=rfl
attribute[go_sem] view.eq_1
@[go_sem]theorem aaW(o:Bool)(z n:Nat)(cs:List AV):cellsOf (.sl o z n cs)=[(.sl o z n cs)]:=rfl
@[go_sem]theorem adg(o:Bool)(z n:Nat)(cs:List AV):bB (.sl o z n cs)=[(.sl o z n cs)]:=rfl
@[go_sem]theorem agq(E:St)(i:Nat)(o:Bool)(z n:Nat)(cs:List AV):cq E (.sl o z n cs) (some i)=E:=rfl
@[go_sem]theorem aif(b o l c:Nat):dJ (.arr b o l c)=true:=rfl
@[go_sem]theorem aiW(g:Bool)(b o l c:Nat):vi g (.arr b o l c)=(.arr b o l c):=rfl
@[go_sem]theorem ahR(b o l c:Nat):view (.arr b o l c)=(.arr b o l c):=rfl
@[go_sem]theorem aav(b o l c:Nat):bB (.arr b o l c)=[(.arr b o l c)]:=rfl
@[go_sem]theorem aea(E:St)(i:Nat)(b o l c:Nat):cq E (.arr b o l c) (some i)=E:=rfl
@[go_sem]theorem aie(cs:List AV):dJ (.agg cs)=true:=rfl
@[go_sem]theorem aiV(g:Bool)(cs:List AV):vi g (.agg cs)=(.agg cs):=rfl
@[go_sem]theorem ahQ(cs:List AV):view (.agg cs)=(.agg cs):=rfl
attribute[go_sem] cellsOf.eq_1 bB.eq_1
@[go_sem]theorem ad9(E:St)(i:Nat)(cs:List AV):cq E (.agg cs) (some i)=E:=rfl
@[go_sem]theorem ai1(g:Bool)(cs:List AV):vi g (.jg cs)=(.jg cs):=rfl
@[go_sem]theorem aee(E:St)(i:Nat)(cs:List AV):cq E (.jg cs) (some i)=E:=rfl
@[go_sem]theorem aj7(f:Nat)(x y:List AV):dJ (.fn f x y)=true:=rfl
@[go_sem]theorem akK(g:Bool)(f:Nat)(x y:List AV):vi g (.fn f x y)=(.fn f x y):=rfl
@[go_sem]theorem ai3(f:Nat)(x y:List AV):view (.fn f x y)=(.fn f x y):=rfl
@[go_sem]theorem aaU(f:Nat)(x y:List AV):cellsOf (.fn f x y)=[(.fn f x y)]:=rfl
@[go_sem]theorem ago(E:St)(i:Nat)(f:Nat)(x y:List AV):cq E (.fn f x y) (some i)=E:=rfl
@[go_sem]theorem af8:dJ (.py)=true:=rfl
@[go_sem]theorem ahK(g:Bool):vi g (.py)=(.py):=rfl
@[go_sem]theorem aeT:view (.py)=(.py):=rfl
@[go_sem]theorem ab0(E:St)(i:Nat):cq E (.py) (some i)=E:=rfl
@[go_sem]theorem aj8(b:Nat):dJ (.mp b)=true:=rfl
@[go_sem]theorem akM(g:Bool)(b:Nat):vi g (.mp b)=(.mp b):=rfl
@[go_sem]theorem ai4(b:Nat):view (.mp b)=(.mp b):=rfl
@[go_sem]theorem aaV(b:Nat):cellsOf (.mp b)=[(.mp b)]:=rfl
@[go_sem]theorem agp(E:St)(i:Nat)(b:Nat):cq E (.mp b) (some i)=E:=rfl
@[go_sem]theorem X4(f:IX->AV)(E:St)(x:IX):pv (.oU true x) f E=.no:=rfl
@[go_sem]theorem acP(f:IX->AV)(E:St)(z:List AV):pv (.j7 z) f E=.no:=rfl
@[go_sem]theorem acQ(f:IX->AV)(E:St)(z:List AV):pv (.ng z) f E=.no:=rfl
@[go_sem]theorem agX(f:IX->AV)(E:St)(n:Nat)(x:IX):pv (.JY n x) f E=.no:=rfl
@[go_sem]theorem agZ(f:IX->AV)(E:St)(n:Nat)(x:IX):pv (.Bg n x) f E=.no:=rfl
@[go_sem]theorem aah(f:IX->AV)(E:St)(a b:Nat)(z:List AV)(p:List (Nat×Nat×IX)):pv (.ie a b z p) f E=.no:=rfl
@[go_sem]theorem aeB(f:IX->AV)(E:St)(n:Nat)(p v:IX):pv (.store n p v) f E=.no:=rfl
@[go_sem]theorem acR(f:IX->AV)(E:St)(a b:Nat)(x y:IX):pv (.append a b x y) f E=.no:=rfl
@[go_sem]theorem acG(f:IX->AV)(E:St)(x:IX):pv (.kO x) f E=rW (f x):=rfl
attribute[go_sem] rW.eq_1 aay.eq_1 Sg.eq_1
@[go_sem]theorem acT(f:IX->AV)(E:St)(a b:Nat)(z:List AV)(x y:IX):pv (.lO a b z x y) f E=.no:=rfl
@[go_sem]theorem aaj(f:IX->AV)(E:St):pv (.makeMap) f E=.no:=rfl
@[go_sem]theorem ag1(f:IX->AV)(E:St)(n:Nat)(l:List IX):pv (.call n l) f E=.no:=rfl
@[go_sem]theorem aev(f:IX->AV)(E:St)(x:IX)(l:List IX):pv (.jh x l) f E=.no:=rfl
@[go_sem]theorem abF(b:Bool):inner (.bool b)=true:=rfl
@[go_sem]theorem adU(k:IntKind)(n:Int):inner (.int k n)=true:=rfl
@[go_sem]theorem adW(s:List UInt8):inner (.str s)=true:=rfl
@[go_sem]theorem abG:inner (.fN)=true:=rfl
@[go_sem]theorem adV(b o:Nat):inner (.ref b o)=true:=rfl
@[go_sem]theorem af4(b o:Nat):inner (.lp b o)=true:=rfl
@[go_sem]theorem af6(cs:List AV):inner (.sp cs)=true:=rfl
@[go_sem]theorem af5(o:Bool)(z n:Nat)(cs:List AV):inner (.sl o z n cs)=true:=rfl
@[go_sem]theorem adT(b o l c:Nat):inner (.arr b o l c)=true:=rfl
@[go_sem]theorem adR(cs:List AV):inner (.agg cs)=true:=rfl
@[go_sem]theorem af3(f:Nat)(x y:List AV):inner (.fn f x y)=true:=rfl
@[go_sem]theorem V0(g:Bool)(a:AV):vi g (.when g a)=bif inner a then a else .undef:=by simp[vi]
@[go_sem]theorem afy(x:Bool):gv2 (.bool x)=some (true,x):=rfl
@[go_sem]theorem afz(b x:Bool):gv2 (.when b (.bool x))=some (b,x):=rfl
attribute[go_sem] gv2.eq_1
@[go_sem]theorem akf(g b:Bool):(g=true->b=true->(g&&b)=true)=True:=by cases g<;>cases b<;>simp
@[go_sem]theorem akg(g b:Bool):(g=true->b=false->(g&&!b)=true)=True:=by cases g<;>cases b<;>simp
@[go_sem]theorem akh(b:Bool):(b=false->(!b)=true)=True:=by cases b<;>simp
@[go_sem]theorem afo(b x:Bool):(bif b then x else false)=(b&&x):=y_
@[go_sem]theorem ah8(b x:Bool):(bif b then true else x)=(b||x):=y_
@[go_sem]theorem akY(b:Bool):(b==true)=b:=y_
@[go_sem]theorem akX(b:Bool):(b==false)=!b:=y_
@[go_sem]theorem agf(k:IntKind):QF k k=true:=by simp[QF]
@[go_sem]theorem aka(a b:Nat)(cs:List AV):dJ (.us a b cs)=false:=rfl
@[go_sem]theorem aid(a b:Nat)(cs:List AV):TL (.us a b cs)=true:=rfl
@[go_sem]theorem aho:ke []=true:=rfl
@[go_sem]theorem ahp(a b:AV)(l:List AV):ke (a::b::l)=true:=rfl
@[go_sem]theorem ahl:fQ []=.jg []:=rfl
@[go_sem]theorem ahm(a b:AV)(l:List AV):fQ (a::b::l)=.jg (a::b::l):=rfl
@[go_sem]theorem aeW:views []=[]:=rfl
@[go_sem]theorem ady(a:AV)(l:List AV):views (a::l)=view a::views l:=rfl
attribute[go_sem] St.x.eq_1 St.x.eq_2 St.put.eq_1 St.put.eq_2 look.eq_1 look.eq_2
section
variable(P:Program)(K:St->Prop)(E:St)
attribute[go_sem] qwp.eq_1
@[go_sem]theorem ahi(q:Nat)(o:ar)(r:List ar):qwp P (q+1) (o::r) E K=(bg E o.dst=true/\q1 P o E (ahh P q r K)):=rfl
@[go_sem]theorem akt(d:Option Nat)(x:IX):q1 P ⟨d,.oU false x,none⟩ E K=qK E d K (qv ⟨d,.oU false x,none⟩ E):=rfl
@[go_sem]theorem akx(d:Option Nat)(x:IX):q2 P ⟨d,.oU false x,none⟩ E K=(bg E d=true/\qK E d K (qv ⟨d,.oU false x,none⟩ E)):=IF
@[go_sem]theorem aiF(d:Option Nat)(t:Nat)(want:Bool)(x:IX):q1 P ⟨d,.oU false x,(some (t,want))⟩ E K=qK E d K (qv ⟨d,.oU false x,(some (t,want))⟩ E):=rfl
@[go_sem]theorem aiG(d:Option Nat)(c x y:IX):q1 P ⟨d,.pick c x y,none⟩ E K=qK E d K (qv ⟨d,.pick c x y,none⟩ E):=rfl
@[go_sem]theorem aiL(d:Option Nat)(c x y:IX):q2 P ⟨d,.pick c x y,none⟩ E K=(bg E d=true/\qK E d K (qv ⟨d,.pick c x y,none⟩ E)):=IF
@[go_sem]theorem ag8(d:Option Nat)(t:Nat)(want:Bool)(c x y:IX):q1 P ⟨d,.pick c x y,(some (t,want))⟩ E K=qK E d K (qv ⟨d,.pick c x y,(some (t,want))⟩ E):=rfl
@[go_sem]theorem ag4(d:Option Nat)(z:List AV)(ps:List (Nat×Nat×IX)):q1 P ⟨d,.build z ps,none⟩ E K=qK E d K (qv ⟨d,.build z ps,none⟩ E):=rfl
@[go_sem]theorem aha(d:Option Nat)(z:List AV)(ps:List (Nat×Nat×IX)):q2 P ⟨d,.build z ps,none⟩ E K=(bg E d=true/\qK E d K (qv ⟨d,.build z ps,none⟩ E)):=IF
@[go_sem]theorem aeC(d:Option Nat)(t:Nat)(want:Bool)(z:List AV)(ps:List (Nat×Nat×IX)):q1 P ⟨d,.build z ps,(some (t,want))⟩ E K=qK E d K (qv ⟨d,.build z ps,(some (t,want))⟩ E):=rfl
@[go_sem]theorem aiE(d:Option Nat)(n:Nat)(m:Bool)(x:IX):q1 P ⟨d,.load n m x,none⟩ E K=qK E d K (qv ⟨d,.load n m x,none⟩ E):=rfl
@[go_sem]theorem aiJ(d:Option Nat)(n:Nat)(m:Bool)(x:IX):q2 P ⟨d,.load n m x,none⟩ E K=(bg E d=true/\qK E d K (qv ⟨d,.load n m x,none⟩ E)):=IF
@[go_sem]theorem ag5(d:Option Nat)(t:Nat)(want:Bool)(n:Nat)(m:Bool)(x:IX):q1 P ⟨d,.load n m x,(some (t,want))⟩ E K=qK E d K (qv ⟨d,.load n m x,(some (t,want))⟩ E):=rfl
@[go_sem]theorem ahb(d:Option Nat)(t:Nat)(want:Bool)(n:Nat)(m:Bool)(x:IX):q2 P ⟨d,.load n m x,(some (t,want))⟩ E K=(bg E d=true/\qK E d K (qv ⟨d,.load n m x,(some (t,want))⟩ E)):=IF
@[go_sem]theorem aak(d:Option Nat)(x:IX):q1 P ⟨d,.nilCheck x,none⟩ E K=qK E d K (qv ⟨d,.nilCheck x,none⟩ E):=rfl
@[go_sem]theorem aal(d:Option Nat)(x:IX):q2 P ⟨d,.nilCheck x,none⟩ E K=(bg E d=true/\qK E d K (qv ⟨d,.nilCheck x,none⟩ E)):=IF
@[go_sem]theorem X7(d:Option Nat)(t:Nat)(want:Bool)(x:IX):q1 P ⟨d,.nilCheck x,(some (t,want))⟩ E K=qK E d K (qv ⟨d,.nilCheck x,(some (t,want))⟩ E):=rfl
@[go_sem]theorem akq(d:Option Nat)(b:BinOp)(x y:IX):q1 P ⟨d,.bin b x y,none⟩ E K=qK E d K (qv ⟨d,.bin b x y,none⟩ E):=rfl
@[go_sem]theorem akv(d:Option Nat)(b:BinOp)(x y:IX):q2 P ⟨d,.bin b x y,none⟩ E K=(bg E d=true/\qK E d K (qv ⟨d,.bin b x y,none⟩ E)):=IF
@[go_sem]theorem aiC(d:Option Nat)(t:Nat)(want:Bool)(b:BinOp)(x y:IX):q1 P ⟨d,.bin b x y,(some (t,want))⟩ E K=qK E d K (qv ⟨d,.bin b x y,(some (t,want))⟩ E):=rfl
@[go_sem]theorem aiH(d:Option Nat)(t:Nat)(want:Bool)(b:BinOp)(x y:IX):q2 P ⟨d,.bin b x y,(some (t,want))⟩ E K=(bg E d=true/\qK E d K (qv ⟨d,.bin b x y,(some (t,want))⟩ E)):=IF
@[go_sem]theorem akr(d:Option Nat)(n:Bool)(x y:IX):q1 P ⟨d,.VS n x y,none⟩ E K=qK E d K (qv ⟨d,.VS n x y,none⟩ E):=rfl
@[go_sem]theorem alu(d:Option Nat)(u:UnOp)(x:IX):q1 P ⟨d,.un u x,none⟩ E K=qK E d K (qv ⟨d,.un u x,none⟩ E):=rfl
@[go_sem]theorem aku(d:Option Nat)(t:Nat)(want:Bool)(u:UnOp)(x:IX):q1 P ⟨d,.un u x,(some (t,want))⟩ E K=qK E d K (qv ⟨d,.un u x,(some (t,want))⟩ E):=rfl
@[go_sem]theorem aeD(d:Option Nat)(k:IntKind)(x:IX):q1 P ⟨d,.ni k x,none⟩ E K=qK E d K (qv ⟨d,.ni k x,none⟩ E):=rfl
@[go_sem]theorem acV(d:Option Nat)(t:Nat)(want:Bool)(k:IntKind)(x:IX):q1 P ⟨d,.ni k x,(some (t,want))⟩ E K=qK E d K (qv ⟨d,.ni k x,(some (t,want))⟩ E):=rfl
@[go_sem]theorem aeI(d:Option Nat)(x i:IX):q1 P ⟨d,.lT x i,none⟩ E K=qK E d K (qv ⟨d,.lT x i,none⟩ E):=rfl
@[go_sem]theorem aeL(d:Option Nat)(x i:IX):q2 P ⟨d,.lT x i,none⟩ E K=(bg E d=true/\qK E d K (qv ⟨d,.lT x i,none⟩ E)):=IF
@[go_sem]theorem acX(d:Option Nat)(t:Nat)(want:Bool)(x i:IX):q1 P ⟨d,.lT x i,(some (t,want))⟩ E K=qK E d K (qv ⟨d,.lT x i,(some (t,want))⟩ E):=rfl
@[go_sem]theorem X5(d:Option Nat)(f:Nat)(x:IX):q1 P ⟨d,.fieldAddr f x,none⟩ E K=qK E d K (qv ⟨d,.fieldAddr f x,none⟩ E):=rfl
@[go_sem]theorem X8(d:Option Nat)(f:Nat)(x:IX):q2 P ⟨d,.fieldAddr f x,none⟩ E K=(bg E d=true/\qK E d K (qv ⟨d,.fieldAddr f x,none⟩ E)):=IF
@[go_sem]theorem VW(d:Option Nat)(t:Nat)(want:Bool)(f:Nat)(x:IX):q1 P ⟨d,.fieldAddr f x,(some (t,want))⟩ E K=qK E d K (qv ⟨d,.fieldAddr f x,(some (t,want))⟩ E):=rfl
@[go_sem]theorem VY(d:Option Nat)(t:Nat)(want:Bool)(f:Nat)(x:IX):q2 P ⟨d,.fieldAddr f x,(some (t,want))⟩ E K=(bg E d=true/\qK E d K (qv ⟨d,.fieldAddr f x,(some (t,want))⟩ E)):=IF
@[go_sem]theorem X6(d:Option Nat)(z:List AV)(x i:IX):q1 P ⟨d,.indexAddr z x i,none⟩ E K=qK E d K (qv ⟨d,.indexAddr z x i,none⟩ E):=rfl
@[go_sem]theorem X9(d:Option Nat)(z:List AV)(x i:IX):q2 P ⟨d,.indexAddr z x i,none⟩ E K=(bg E d=true/\qK E d K (qv ⟨d,.indexAddr z x i,none⟩ E)):=IF
@[go_sem]theorem VX(d:Option Nat)(t:Nat)(want:Bool)(z:List AV)(x i:IX):q1 P ⟨d,.indexAddr z x i,(some (t,want))⟩ E K=qK E d K (qv ⟨d,.indexAddr z x i,(some (t,want))⟩ E):=rfl
@[go_sem]theorem ag9(d:Option Nat)(z:Nat)(x:IX)(lo hi mx:Option IX):q1 P ⟨d,.slice z x lo hi mx,none⟩ E K=qK E d K (qv ⟨d,.slice z x lo hi mx,none⟩ E):=rfl
@[go_sem]theorem ahd(d:Option Nat)(z:Nat)(x:IX)(lo hi mx:Option IX):q2 P ⟨d,.slice z x lo hi mx,none⟩ E K=(bg E d=true/\qK E d K (qv ⟨d,.slice z x lo hi mx,none⟩ E)):=IF
@[go_sem]theorem aeJ(d:Option Nat)(x:IX)(lo hi:Option IX):q1 P ⟨d,.qo x lo hi,none⟩ E K=qK E d K (qv ⟨d,.qo x lo hi,none⟩ E):=rfl
@[go_sem]theorem acW(d:Option Nat)(x:IX)(k:Nat):q1 P ⟨d,.extract x k,none⟩ E K=qK E d K (qv ⟨d,.extract x k,none⟩ E):=rfl
@[go_sem]theorem acZ(d:Option Nat)(x:IX)(k:Nat):q2 P ⟨d,.extract x k,none⟩ E K=(bg E d=true/\qK E d K (qv ⟨d,.extract x k,none⟩ E)):=IF
@[go_sem]theorem aks(d:Option Nat)(c:Nat)(x:IX):q1 P ⟨d,.len c x,none⟩ E K=qK E d K (qv ⟨d,.len c x,none⟩ E):=rfl
@[go_sem]theorem akw(d:Option Nat)(c:Nat)(x:IX):q2 P ⟨d,.len c x,none⟩ E K=(bg E d=true/\qK E d K (qv ⟨d,.len c x,none⟩ E)):=IF
@[go_sem]theorem aiD(d:Option Nat)(t:Nat)(want:Bool)(c:Nat)(x:IX):q1 P ⟨d,.len c x,(some (t,want))⟩ E K=qK E d K (qv ⟨d,.len c x,(some (t,want))⟩ E):=rfl
@[go_sem]theorem aeH(d:Option Nat)(m:Bool)(xs:List IX):q1 P ⟨d,.mi m xs,none⟩ E K=qK E d K (qv ⟨d,.mi m xs,none⟩ E):=rfl
attribute[go_sem] q1.eq_2
@[go_sem]theorem aiK(d:Option Nat)(x:IX):q2 P ⟨d,.oU true x,none⟩ E K=(bg E d=true/\Ue E x d K (E.x x)):=IF
attribute[go_sem] q1.eq_1
@[go_sem]theorem aiI(d:Option Nat)(f:Nat)(args:List IX):q2 P ⟨d,.call f args,none⟩ E K=(bg E d=true/\UP P f E d K (cN (xg true E) args)):=IF
attribute[go_sem] q1.eq_3
@[go_sem]theorem aeE(d:Option Nat)(x:IX):q1 P ⟨d,.kO x,none⟩ E K=qK E d K (qv ⟨d,.kO x,none⟩ E):=rfl
attribute[go_sem] q1.eq_6
@[go_sem]theorem acY(d:Option Nat)(sz n:Nat)(z:List AV)(ps:List (Nat×Nat×IX))(g:Option (Nat×Bool)):q2 P ⟨d,.ie sz n z ps,g⟩ E K=(bg E d=true/\qK E d K (E1 ⟨d,.ie sz n z ps,g⟩ E)):=IF
@[go_sem]theorem ag7(d:Option Nat)(z:List AV)(m:Bool)(x:IX):q1 P ⟨d,.ks z m x,none⟩ E K=qK E d K (qv ⟨d,.ks z m x,none⟩ E):=rfl
@[go_sem]theorem ahc(d:Option Nat)(z:List AV)(m:Bool)(x:IX):q2 P ⟨d,.ks z m x,none⟩ E K=(bg E d=true/\qK E d K (qv ⟨d,.ks z m x,none⟩ E)):=IF
@[go_sem]theorem aeG(d:Option Nat)(t:Nat)(want:Bool)(z:List AV)(m:Bool)(x:IX):q1 P ⟨d,.ks z m x,(some (t,want))⟩ E K=qK E d K (qv ⟨d,.ks z m x,(some (t,want))⟩ E):=rfl
@[go_sem]theorem ag6(d:Option Nat)(k:IntKind)(x:IX):q1 P ⟨d,.nx k x,none⟩ E K=qK E d K (qv ⟨d,.nx k x,none⟩ E):=rfl
@[go_sem]theorem aeF(d:Option Nat)(t:Nat)(want:Bool)(k:IntKind)(x:IX):q1 P ⟨d,.nx k x,(some (t,want))⟩ E K=qK E d K (qv ⟨d,.nx k x,(some (t,want))⟩ E):=rfl
@[go_sem]theorem aer(f:IX->AV)(E:St)(k:IntKind)(x:IX):pv (.nx k x) f E=zS k E.s (f x):=rfl
@[go_sem]theorem abT(k:IntKind)(s:ae)(b off:Nat):zS k s (.ref b off)=.prt (Nx k off (s b)) (.int k (Ny off (s b))):=rfl
@[go_sem]theorem aes(f:IX->AV)(E:St)(z:List AV)(m:Bool)(x:IX):pv (.ks z m x) f E=GF z m E.s (f x):=rfl
@[go_sem]theorem aai(f:IX->AV)(E:St)(kk:ny)(z:AV)(ok:Bool)(x k:IX):pv (.lookup kk z ok x k) f E=.no:=rfl
@[go_sem]theorem UO(f:IX->AV)(E:St)(kk:ny)(x k v:IX):pv (.mapUpdate kk x k v) f E=.no:=rfl
attribute[go_sem] jq.eq_14
attribute[go_sem] jq.eq_17 q1.eq_9
@[go_sem]theorem aeK(d:Option Nat)(x:IX)(g:Option (Nat×Bool)):q2 P ⟨d,.vI x,g⟩ E K=(bg E d=true/\qK E d K (E1 ⟨d,.vI x,g⟩ E)):=IF
@[go_sem]theorem aeA(f:IX->AV)(E:St)(x:IX):pv (.vI x) f E=.no:=rfl
attribute[go_sem] jq.eq_16 qe.eq_4
@[go_sem]theorem ahe(d:Option Nat)(o:sD):E1 ⟨d,o,none⟩ E=qe (xg true E) E.s o:=rfl
attribute[go_sem] qe.eq_1
attribute[go_sem] Ed.eq_1 GF.eq_1 Li.eq_1 kJ.eq_1 kJ.eq_2 RG.eq_1 RG.eq_2 RG.eq_3
attribute[go_sem] Wf.eq_1 G8.eq_1
@[go_sem]theorem aiM(d:Option Nat)(o:sD):qv ⟨d,o,none⟩ E=pv o (xg true E) E:=rfl
@[go_sem]theorem aiN(d:Option Nat)(o:sD)(t:Nat)(want:Bool):qv ⟨d,o,some (t,want)⟩ E=NT o want E (look E.e t):=rfl
@[go_sem]theorem aiw(f:IX->AV)(E:St)(x:IX):pv (.cap x) f E=MD (f x):=rfl
@[go_sem]theorem acO(f:IX->AV)(E:St)(z:Nat)(x:IX)(lo hi:Option IX)(m:IX):pv (.slice z x lo hi (some m)) f E=pU z f lo hi m (f x):=rfl
@[go_sem]theorem X3(f:IX->AV)(E:St)(a b:Nat)(z:List AV)(p:List (Nat×Nat×IX)):pv (.mL a b z p) f E=.no:=rfl
@[go_sem]theorem aae(f:IX->AV)(E:St)(a b:Nat)(z:List AV)(x y:IX):pv (.nD a b z x y) f E=.no:=rfl
@[go_sem]theorem aag(f:IX->AV)(E:St)(a b:Nat)(z:List AV)(x y:IX):pv (.pE a b z x y) f E=.no:=rfl
attribute[go_sem] jq.eq_20
@[go_sem]theorem aew(f:IX->AV)(E:St)(a:Nat)(x y:IX):pv (.AD a x y) f E=.no:=rfl
@[go_sem]theorem acS(f:IX->AV)(E:St)(z:List AV)(x:IX):pv (.tx z x) f E=.no:=rfl
@[go_sem]theorem aiA(f:IX->AV)(E:St)(a:Nat)(o:Bool)(x:IX):pv (.VU a o x) f E=.no:=rfl
@[go_sem]theorem aey(f:IX->AV)(E:St)(off:Nat)(j x:IX):pv (.nw off j x) f E=.no:=rfl
@[go_sem]theorem aex(f:IX->AV)(E:St)(x:IX):pv (.nv x) f E=.no:=rfl
@[go_sem]theorem aiz(f:IX->AV)(E:St)(o:Bool)(x:IX):pv (.ZB o x) f E=.no:=rfl
@[go_sem]theorem aiB(f:IX->AV)(E:St)(g:Nat)(x y:IX):pv (.Z9 g x y) f E=.no:=rfl
attribute[go_sem] jq.eq_18 jq.eq_19 jq.eq_21 jq.eq_22 jq.eq_23
attribute[go_sem] WJ
attribute[go_sem] jq.eq_25 jq.eq_27 jq.eq_28 q1.eq_4
attribute[go_sem] q1.eq_5
attribute[go_sem] UQ.eq_1 Pz.eq_1 IW.eq_1
@[go_sem]theorem aiy(f:IX->AV)(E:St)(ne:Bool)(x:IX):pv (.WE ne x) f E=Kx ne (f x):=rfl
@[go_sem]theorem aib(ne:Bool)(b o:Nat):EF ne (.ref b o) (.ref b o)=.da (.bool (!ne)):=by simp[EF]
@[go_sem]theorem ag3(f:IX->AV)(E:St)(x:IX):pv (.Ki x) f E=.no:=rfl
@[go_sem]theorem ag2(f:IX->AV)(E:St)(u:Nat)(x:IX):pv (.Kh u x) f E=.no:=rfl
@[go_sem]theorem ag0(f:IX->AV)(E:St)(n t j u:Nat)(x:IX):pv (.J0 n t j u x) f E=.no:=rfl
@[go_sem]theorem aaf(f:IX->AV)(E:St)(t:Nat)(x y:IX):pv (.pD t x y) f E=.no:=rfl
attribute[go_sem] jq.eq_32 jq.eq_33 jq.eq_35 jq.eq_31
@[go_sem]theorem aeu(f:IX->AV)(E:St)(g:Nat)(x:IX):pv (.Ay g x) f E=.no:=rfl
attribute[go_sem] jq.eq_34
@[go_sem]theorem aez(f:IX->AV)(E:St)(z:Nat)(o:Bool)(x:IX):pv (.AX z o x) f E=.no:=rfl
attribute[go_sem] jq.eq_24
attribute[go_sem] Nw.eq_1 th.eq_1 th.eq_2 MC Kx.eq_1 Zj ON.eq_1 OM.eq_1 Sj.eq_1 Si.eq_1
@[go_sem]theorem aix(f:IX->AV)(E:St)(ne:Bool)(x:IX):pv (.WD ne x) f E=Kw ne (f x):=rfl
@[go_sem]theorem acU(f:IX->AV)(E:St)(z n:Nat)(p v:IX):pv (.ux z n p v) f E=.no:=rfl
@[go_sem]theorem agY(f:IX->AV)(E:St)(z n:Nat)(x:IX):pv (.JZ z n x) f E=.no:=rfl
attribute[go_sem] jq.eq_29 jq.eq_30
@[go_sem]theorem Yv(z:Nat)(cs:List AV):cO z (.agg cs)=(views cs).map (s9 z):=rfl
attribute[go_sem] s9.eq_1
@[go_sem]theorem agC(z:Nat)(k:IntKind)(n:Int):s9 z (.int k n)=.int k n:=rfl
@[go_sem]theorem aei(z:Nat)(b:Bool):s9 z (.bool b)=.bool b:=rfl
@[go_sem]theorem agE(z:Nat)(b:List UInt8):s9 z (.str b)=.str b:=rfl
@[go_sem]theorem aiq(z:Nat)(o:Bool)(s n:Nat)(cs:List AV):s9 z (.sl o s n cs)=.sl o s n cs:=rfl
@[go_sem]theorem agD(z b o:Nat):s9 z (.ref b o)=.ref b o:=rfl
@[go_sem]theorem aip(z b:Nat):s9 z (.mp b)=.mp b:=rfl
attribute[go_sem] PN Zh
@[go_sem]theorem aet(f:IX->AV)(E:St)(g i:Nat)(xs:List IX):pv (.xQ g i xs) f E=.no:=rfl
attribute[go_sem] jq.eq_36
attribute[go_sem] Kw.eq_1 Kw.eq_2
attribute[go_sem] MD.eq_1 pU.eq_1 Aj.eq_1 zm.eq_1 SC.eq_1 SC.eq_2
@[go_sem]theorem aeO(T:List Nat)(l:List ar):E2 P T 0 l E K=swp P l E K:=rfl
@[go_sem]theorem aeN(T:List Nat)(q:Nat)(o:ar)(r:List ar):E2 P T (q+1) (o::r) E K=q2 P o E (aao P T q r K):=rfl
@[go_sem]theorem aeM(T:List Nat)(q:Nat)(r:List ar)(τ:St):aao P T q r K τ=(ku T τ.e=true/\E2 P T q r τ K):=rfl
attribute[go_sem] Mh.eq_1
@[go_sem]theorem ak0(T:List Nat)(i:Nat)(o:ar)(r:List (Nat×Nat×ar)):Mh P T ((0,i,o)::r) E K=q2 P o E (RW P T r K):=rfl
@[go_sem]theorem ak1(T:List Nat)(i:Nat)(o:ar)(r:List (Nat×Nat×ar)):Mh P T ((1,i,o)::r) E K=(mV o E=true/\q2 P o E (RW P T r K)):=rfl
@[go_sem]theorem ak2(T:List Nat)(i:Nat)(o:ar)(r:List (Nat×Nat×ar)):Mh P T ((2,i,o)::r) E K=VQ P o E (RW P T r K):=rfl
@[go_sem]theorem ak3(T:List Nat)(i:Nat)(o:ar)(r:List (Nat×Nat×ar)):Mh P T ((3,i,o)::r) E K=Mi P o E (RW P T r K):=rfl
attribute[go_sem] RW.eq_1
@[go_sem]theorem ae8(d:Option Nat)(f:Nat)(args:List IX):VQ P ⟨d,.call f args,none⟩ E K=(bg E d=true/\vR P f E d K (cN (xg true E) args)):=by
  show(bg E d=true/\zl P f E.s (RQ E d K) (cN (xg true E) args))=_
  cases cN (xg true E) args<;>rfl
@[go_sem]theorem adE(d:Option Nat)(n:Nat)(p v:IX):VQ P ⟨d,.store n p v,none⟩ E K=(bg E d=true/\pF n E.s (RQ E d K) (E.x v) (E.x p)):=rfl
@[go_sem]theorem adD(d:Option Nat)(x:IX):VQ P ⟨d,.nv x,none⟩ E K=(bg E d=true/\ox E.s (RQ E d K) (E.x x)):=rfl
attribute[go_sem] RQ.eq_1 pF.eq_1 Oy.eq_1
attribute[go_sem] mV
@[go_sem]theorem aej(k:IntKind)(n:Int):Ls (.int k n)=true:=rfl
@[go_sem]theorem agF(b o:Nat):oY (.lp b o)=true:=rfl
@[go_sem]theorem agG(cs:List AV):oY (.sp cs)=true:=rfl
@[go_sem]theorem aek(cs:List AV):oY (.loc cs)=true:=rfl
attribute[go_sem] ku.eq_1 ku.eq_2 xi.eq_1 xi.eq_2 mS.eq_1
@[go_sem]theorem abY(c:Nat)(b:Bool)(a:AV):mS c (.when b a)=mS c a:=rfl
attribute[go_sem] aam.eq_1 q2.eq_1 q2.eq_2
attribute[go_sem] q2.eq_3
@[go_sem]theorem abW(c':Nat)(b:Bool):mS c' (.bool b)=true:=rfl
@[go_sem]theorem ad5(c':Nat)(k:IntKind)(n:Int):mS c' (.int k n)=true:=rfl
@[go_sem]theorem abX(c':Nat):mS c' (.fN)=true:=rfl
@[go_sem]theorem ad7(c':Nat)(b o:Nat):mS c' (.ref b o)=true:=rfl
@[go_sem]theorem ad6(c':Nat)(cs:List AV):mS c' (.loc cs)=true:=rfl
@[go_sem]theorem agn(c':Nat)(o:Bool)(s n:Nat)(cs:List AV):mS c' (.sl o s n cs)=true:=rfl
@[go_sem]theorem ad4(c':Nat)(cs:List AV):mS c' (.agg cs)=true:=rfl
@[go_sem]theorem ad8(c':Nat)(cs:List AV):mS c' (.jg cs)=true:=rfl
attribute[go_sem] bg.eq_2 bg.eq_1
@[go_sem]theorem ZZ(b:Bool)(a:AV):bI (.when b a)=true:=rfl
@[go_sem]theorem aem(b o:Nat):bI (.lp b o)=true:=rfl
@[go_sem]theorem XH:bI (.undef)=true:=rfl
@[go_sem]theorem ZX(b:Bool):bI (.bool b)=true:=rfl
@[go_sem]theorem acg(k:IntKind)(n:Int):bI (.int k n)=true:=rfl
@[go_sem]theorem aci(s:List UInt8):bI (.str s)=true:=rfl
@[go_sem]theorem ZY:bI (.fN)=true:=rfl
@[go_sem]theorem ach(b o:Nat):bI (.ref b o)=true:=rfl
@[go_sem]theorem aeo(cs:List AV):bI (.sp cs)=true:=rfl
@[go_sem]theorem aen(o:Bool)(z n:Nat)(cs:List AV):bI (.sl o z n cs)=true:=rfl
@[go_sem]theorem acf(b o l c:Nat):bI (.arr b o l c)=true:=rfl
@[go_sem]theorem ace(cs:List AV):bI (.agg cs)=true:=rfl
@[go_sem]theorem acj(cs:List AV):bI (.jg cs)=true:=rfl
@[go_sem]theorem ael(f:Nat)(x y:List AV):bI (.fn f x y)=true:=rfl
attribute[go_sem] rdO.eq_1
attribute[go_sem] YR.eq_1 YR.eq_2 YR.eq_3 VG.eq_1 VG.eq_2 VG.eq_3 NT.eq_1 NT.eq_2 qK.eq_1 qK.eq_2 qK.eq_3 UP.eq_1 IV.eq_1 IV.eq_2 aky.eq_1
end
@[go_sem]theorem Zv(b:Bool):ey (.bool b)=.bool b:=rfl
@[go_sem]theorem aa6(k:IntKind)(n:Int):ey (.int k n)=.int k n:=rfl
@[go_sem]theorem aa9(s:List UInt8):ey (.str s)=.str s:=rfl
@[go_sem]theorem Zx:ey (.fN)=.fN:=rfl
@[go_sem]theorem aa8(b o:Nat):ey (.ref b o)=.ref b o:=rfl
@[go_sem]theorem aa7(cs:List AV):ey (.loc cs)=.loc cs:=rfl
@[go_sem]theorem adP(o:Bool)(z n:Nat)(cs:List AV):ey (.sl o z n cs)=.sl o z n cs:=rfl
@[go_sem]theorem aa5(b o l c:Nat):ey (.arr b o l c)=.arr b o l c:=rfl
@[go_sem]theorem adO(f:Nat)(x y:List AV):ey (.fn f x y)=.fn f x y:=rfl
attribute[go_sem] cond.eq_1 cond.eq_2
attribute[go_sem] Z3.eq_1 Z3.eq_2 Z3.eq_3 RF.eq_1 RF.eq_2 RF.eq_3 zz.eq_1 zz.eq_2 zz.eq_3 jq.eq_1 jq.eq_2 jq.eq_3 jq.eq_4 jq.eq_5 jq.eq_6 jq.eq_7 jq.eq_8 jq.eq_9 jq.eq_10 jq.eq_11 jq.eq_12 jq.eq_13 jq.eq_14 jq.eq_15 jq.eq_16 UF.eq_1 GW.eq_1 unV.eq_1 unV.eq_2 uJ.eq_1 j5.eq_1 j5.eq_2 vd.eq_1 mj.eq_1 QJ.eq_1 agv.eq_1 gP.eq_1 gP.eq_2 gP.eq_3 gP.eq_4 kS.eq_1 kS.eq_2 gA.eq_1 gA.eq_2 gA.eq_3 gA.eq_4 B9.eq_1 y6.eq_1 ur.eq_1 ur.eq_2 DX.eq_1 mB.eq_1 Nv.eq_1 BB.eq_1 BB.eq_2 BB.eq_3 BB.eq_4 BB.eq_5 uV.eq_1 Ky.eq_1 qF.eq_1 Co.eq_1 Ln.eq_1 Ln.eq_2 oq.eq_1 oq.eq_2 l6.eq_1 rj.eq_1 rd.eq_1 rd.eq_2 rd.eq_3 rd.eq_4 mf.eq_1 mf.eq_2 PI.eq_1 xO.eq_1 mF.eq_1 mF.eq_2 BU.eq_1 Qj.eq_1 yE.eq_1 NF.eq_1 NF.eq_2 wP.eq_1 P5.eq_1 cN.eq_1 cN.eq_2 uU.eq_1 vR.eq_1 R4.eq_1 fQ.eq_1 ke.eq_1 wrL.eq_1 wrS.eq_1 Ht.eq_1 Oj.eq_1 ahY.eq_1 FM.eq_1 FM.eq_2 FM.eq_3 Mv.eq_1 Mv.eq_2 MW.eq_1 EF.eq_1 EF.eq_2 EF.eq_3 SD.eq_1 SD.eq_2 sQ.eq_3 sQ.eq_4 sQ.eq_5 sQ.eq_6 sQ.eq_7 sQ.eq_12 sQ.eq_13 sQ.eq_14 sQ.eq_15 sQ.eq_16 sQ.eq_17 JW.eq_1 JW.eq_2 JW.eq_3 JW.eq_4 JW.eq_5 JW.eq_6 JW.eq_7 kk pv.eq_1 pv.eq_2 pv.eq_3 pv.eq_4 pv.eq_5 pv.eq_6 pv.eq_7 pv.eq_8 pv.eq_9 pv.eq_10 pv.eq_11 pv.eq_12 pv.eq_13 pv.eq_14 pv.eq_15 pv.eq_16 pv.eq_17 pv.eq_18 pv.eq_19 pv.eq_20 pv.eq_21 pv.eq_22 pv.eq_23 pv.eq_24 pv.eq_25 fill.eq_1 fill.eq_2
attribute[go_sem] Zp ckP xg St.xb St.fu VF fP QM Ue Zg Zi Oa J8 St.drain
attribute[go_sem] Bool.true_or Bool.or_true Bool.or_false Bool.false_or
attribute[go_sem] bne_self_eq_false Bool.bne_true Bool.bne_false implies_true decide_true decide_false Bool.true_and Bool.and_true Bool.false_and Bool.and_false Bool.not_true Bool.not_false Bool.false_eq_true true_and List.length_cons List.length_nil List.map_cons List.map_nil List.all_nil List.all_cons List.drop_zero List.drop_succ_cons List.take_zero List.take_succ_cons Nat.zero_add List.cons_append List.nil_append List.getElem?_cons_zero List.getElem?_cons_succ
end
def VR.mono{w w':World}{R R':Nat->Nat}(hR:∀b,R b<=R' b)(hs:∀b k,k<R b->w'.cell? ⟨b,k,none⟩=w.cell? ⟨b,k,none⟩){a:AV}{v:Value}(h:VR w R a v):VR w' R' a v:=by
 induction h with
 |undef v=>exact .undef v
 |bool b=>exact .bool b
 |int k n=>exact .int k n
 |str s=>exact .str s
 |fN=>exact .fN
 |ref b off=>exact .ref b off
 |sp cs b off u hf hR' hc _ ih=>
  refine .sp cs b off u hf (Nat.le_trans hR' (hR b)) (fun j c hj=>?_) ih
  grind
 |slnil own sz=>exact .slnil own sz
 |sle sz a cap=>exact .sle sz a cap
 |sl own sz n cs b off cap u hf hl hR' fI hc _ ih=>
  refine .sl own sz n cs b off cap u hf hl (Nat.le_trans hR' (hR b)) fI (fun j c hj=>?_) ih
  grind
 |arr b off len cap=>exact .arr b off len cap
 |HC b off=>exact .HC b off
 |agg cs vs hf hl _ ih=>exact .agg cs vs hf hl ih
 |jg cs vs hl _ ih=>exact .jg cs vs hl ih
 |fn f first fF vf vc hl _ hl' _ ih ih'=>exact .fn f first fF vf vc hl ih hl' ih'
 |py=>exact .py
 |mp b=>exact .mp b
 |one v h=>exact .one v h
 |oy t=>exact .oy t
 |ml=>exact .ml
 |bb t n cs v _ h0 ih=>exact .bb t n cs v ih h0
 |ud=>exact .ud
 |when b a v _ ih=>exact .when b a v ih
theorem aI.R{G G':Gh}{w w':World}(h:aI G w G' w')(hg:cE G w):∀b,G.R b<=G'.R b:=fun b=>by
 rcases Nat.lt_or_ge b w.heap.size with hb|hb
 ·exact h.mono b hb
 ·rw[hg.kV b hb];grind
theorem aI.cells{G G':Gh}{w w':World}(h:aI G w G' w')(hg:cE G w):∀b k,k<G.R b->w'.cell? ⟨b,k,none⟩=w.cell? ⟨b,k,none⟩:=fun b k hk=>by
 rcases Nat.lt_or_ge b w.heap.size with hb|hb
 ·exact h.nq b k hb hk
 ·rw[hg.kV b hb]at hk;omega
def aI.vr{G G':Gh}{w w':World}(h:aI G w G' w')(hg:cE G w){a:AV}{v:Value}(hv:VR w G.R a v):VR w' G'.R a v:=hv.mono (h.R hg) (h.cells hg)
theorem aI.refl(G:Gh)(w:World):aI G w G w:=⟨rfl,rfl,rfl,Nat.le_refl _,Nat.le_refl _,fun _ _=>Nat.le_refl _,fun _ _ _ _=>rfl,fun _ _ _=>rfl,fun _ _ h=>⟨h,rfl⟩,fun _ _ h=>⟨h,rfl⟩⟩
def aI.trans{G₁ G₂ G₃:Gh}{w₁ w₂ w₃:World}(h:aI G₁ w₁ G₂ w₂)(k:aI G₂ w₂ G₃ w₃):aI G₁ w₁ G₃ w₃ where
 os:=k.os.trans h.os
 tape:=k.tape.trans h.tape
 output:=k.output.trans h.output
 drawn:=Nat.le_trans h.drawn k.drawn
 size:=Nat.le_trans h.size k.size
 mono:=fun b hb=>Nat.le_trans (h.mono b hb) (k.mono b (Nat.lt_of_lt_of_le hb h.size))
 nq:=fun b j hb hj=>(k.nq b j (Nat.lt_of_lt_of_le hb h.size) (Nat.lt_of_lt_of_le hj (h.mono b hb))).trans (h.nq b j hb hj)
 frame:=fun b hb ho=>by
  refine(k.frame b (Nat.lt_of_lt_of_le hb h.size) ?_).trans (h.frame b hb ho)
  rcases ho with ho|ho
  ·exact .inl (h.j8 b hb ho).1
  ·exact .inr (h.rf b hb ho).1
 j8:=fun b hb ho=>
  let⟨o2,r2⟩:=h.j8 b hb ho
  let⟨o3,r3⟩:=k.j8 b (Nat.lt_of_lt_of_le hb h.size) o2
  ⟨o3,r3.trans r2⟩
 rf:=fun b hb ho=>
  let⟨o2,r2⟩:=h.rf b hb ho
  let⟨o3,r3⟩:=k.rf b (Nat.lt_of_lt_of_le hb h.size) o2
  ⟨o3,r3.trans r2⟩
def dS.mono{G G':Gh}{w w':World}{o:dp}{a:AV}{v:Value}(h:dS G w o a v)(hb:∀b,G.O b=o->G'.O b=o/\G'.R b=G.R b/\w'.heap[b]? =w.heap[b]?):dS G' w' o a v:=by
 unfold dS at*
 split
 ·grind
 ·grind
 ·trivial
theorem Fl.views{cs:List AV}(h:Fl cs):Fl (views cs):=by
 intro c hc
 simp[AB.views,List.mem_map]at hc
 obtain⟨c',h1,rfl⟩:=hc
 have:=h c' h1
 cases c'<;>simp_all [qH,dJ,AB.view]
theorem Eu.views{t:Nat}{cs:List AV}(h:Eu t cs):Fl (AB.views cs):=by
 intro c hc
 simp[AB.views,List.mem_map]at hc
 obtain⟨c',h1,rfl⟩:=hc
 rcases h c' h1 with h|rfl
 ·cases c'<;>simp_all [qH,dJ,AB.view]
 ·rfl
theorem Eu.flat{t:Nat}{cs:List AV}(h:Eu t cs)(hv:AB.views cs=cs):Fl cs:=hv▸h.views
def Eu.left{t:Nat}{cs sp:List AV}(h:Eu t (cs++sp)):Eu t cs:=fun c hc=>h c (List.mem_append_left _ hc)
def Fl.tag{cs:List AV}(h:Fl cs)(t:Nat):Eu t cs:=fun c hc=>.inl (h c hc)
theorem Fl.sub{cs:List AV}(h:Fl cs)(off n:Nat):Fl (sub cs off n):=fun c hc=>h c (List.mem_of_mem_drop (List.mem_of_mem_take hc))
theorem Fl.drop{cs:List AV}(h:Fl cs)(off:Nat):Fl (cs.drop off):=fun c hc=>h c (List.mem_of_mem_drop hc)
def Fl.nil:Fl []:=fun c hc=>A_
theorem dS.view(G:Gh)(w:World)(o:dp)(a:AV)(v:Value):dS G w o (view a) v:=by cases a<;>first|trivial|(rename_i own sz n cs)
theorem VR.view{w:World}{R:Nat->Nat}{a:AV}{v:Value}(h:VR w R a v):VR w R (view a) v:=by
 cases h with
 |slnil own sz=>exact .slnil false sz
 |sle sz a cap=>exact .sle sz a cap
 |sl own sz n cs b off cap u hf hl hR fI hc hr=>exact .sl false sz n cs b off cap u hf hl hR fI hc hr
 |undef v=>exact .undef v
 |bool b=>exact .bool b
 |int k n=>exact .int k n
 |str s=>exact .str s
 |fN=>exact .fN
 |ref b off=>exact .ref b off
 |sp cs b off u hf hR hc hr=>exact .sp cs b off u hf hR hc hr
 |arr b off len cap=>exact .arr b off len cap
 |HC b off=>exact .HC b off
 |agg cs vs hf hl hr=>exact .agg cs vs hf hl hr
 |jg cs vs hl hr=>exact .jg cs vs hl hr
 |fn f first fF vf vc hl hr hl' hr'=>exact .fn f first fF vf vc hl hr hl' hr'
 |py=>exact .py
 |mp b=>exact .mp b
 |one v h=>exact .one v h
 |oy t=>exact .fN
 |ml=>exact .ml
 |bb t n cs v h h0=>
  cases h with
  |slnil=>exact .slnil false 1
  |sl _ _ _ _ b off cap u hf hl hR fI hc hr=>exact .sl false 1 n cs b off cap u hf hl hR fI hc hr
 |ud=>exact .ud
 |when b a v h=>exact .when b a v h
def dF.mono{G G':Gh}{w w':World}{o:Nat->dp}{cs:List AV}{c:Array Value}(h:dF G w o cs c)(hv:∀a v,VR w G.R a v->VR w' G'.R a v)
 (hb:∀b j,G.O b=o j->G'.O b=o j/\G'.R b=G.R b/\w'.heap[b]? =w.heap[b]?):dF G' w' o cs c:=
 ⟨h.1,fun j x y hx hy=>⟨hv _ _ (h.2 j x y hx hy).1,(h.2 j x y hx hy).2.mono fun b=>hb b j⟩⟩
theorem ee.sm{G:Gh}{w:World}{e:List (Nat×AV)}{tmps:Array Value}{i:Nat}{a:AV}{v:Value}(h:dJ a=true):ee G w e tmps i a v↔(VR w G.R a v/\dS G w (.slot i 0) a v):=by cases a<;>simp_all [dJ,ee]
theorem ee.yG{G:Gh}{w:World}{e:List (Nat×AV)}{tmps:Array Value}{i:Nat}{a:AV}{v:Value}(h:dJ a=true)(hv:VR w G.R a v):ee G w e tmps i (view a) v:=by
 have h':dJ (view a)=true:=by cases a<;>simp_all [dJ,view]
 rw[ee.sm h']
 exact⟨hv.view,dS.view ..⟩
theorem ee.frame{G G':Gh}{w w':World}{e e':List (Nat×AV)}{tmps PU:Array Value}{i:Nat}
 (hv:∀a v,VR w G.R a v->VR w' G'.R a v)
 (wU:∀b,(∃j,G.O b=.slot i j)\/G.O b=.loc i->G'.O b=G.O b/\G'.R b=G.R b/\w'.heap[b]? =w.heap[b]?)
 (ep:∀b c j,G.O b=.loc i->G.O c=.cell b j->G'.O c=.cell b j/\G'.R c=G.R c/\w'.heap[c]? =w.heap[c]?):
 ∀(a:AV)(v:Value)(_:∀d,bP a d->∀cs,look e' d=.loc cs->∃cs',look e d=.loc cs'/\PU[d]? =tmps[d]?)
  (_:ee G w e tmps i a v),ee G' w' e' PU i a v
 |.loc cs,v,_,h=>by
  obtain⟨b,c,t,h1,h2,h3,h4,h5,h6⟩:=h
  obtain⟨k1,k2,k3⟩:=wU b (.inr h2)
  exact⟨b,c,t,h1,k1.trans h2,k2.trans h3,k3.trans h4,h5.mono hv fun c j hc=>ep b c j h2 hc,h6⟩
 |.lp d off,v,hlp,h=>by
  obtain⟨b,h3,h4⟩:=h
  refine⟨b,h3,fun cs hcs=>?_⟩
  obtain⟨cs',h1,h2⟩:=hlp d rfl cs hcs
  grind
 |.jg vs,v,_,h=>by
  obtain⟨ys,h1,h2⟩:=h
  exact⟨ys,h1,h2.mono hv fun b j hb=>A_⟩
 |.when b a,v,hlp,h=>⟨fun hb=>ee.frame hv wU ep a v hlp (h.1 hb),h.2⟩
 |.us sz n cs,v,_,h=>by
  rcases h with h|⟨b,cap,c,t,sp,h1,h2,h3,h4,h5,h6,h7,h8,h9,h10,h11⟩
  ·exact .inl h
  ·obtain⟨k1,k2,k3⟩:=wU b (.inl ⟨_,h4⟩)
   exact .inr ⟨b,cap,c,t,sp,h1,h2,h3,k1.trans h4,k2.trans h5,k3.trans h6,h7,h8,h9,fun j x u hx hu=>hv _ _ (h10 j x u hx hu),h11⟩
 |.undef,v,_,h|.bool _,v,_,h|.int _ _,v,_,h|.str _,v,_,h|.fN,v,_,h|.ref _ _,v,_,h|.sp _,v,_,h|.sl _ _ _ _,v,_,h|.arr _ _ _ _,v,_,h|.agg _,v,_,h
 |.fn _ _ _,v,_,h|.py,v,_,h|.mp _,v,_,h|.ud,v,_,h|.one,v,_,h|.oy _,v,_,h|.ml,v,_,h|.bb _ _ _,v,_,h=>by
  refine⟨hv _ _ h.1,h.2.mono fun b hb=>?_⟩
  grind
theorem bj(j i:Nat)(a:AV)(l:List (Nat×AV)):look ((j,a)::l) i=if j=i then a else look l i:=by grind [look]
theorem Inv.put{G G':Gh}{n:Nat}{D:List Deferred}{E:St}{s':ae}{lp':List (Nat×Nat)}{a:Act}{w w':World}(h:Inv G n D E a w)(d:Option Nat)(hd:∀i,d=some i->i<n)(av:AV)(v:Value)
 (kl:cE G' w')(bF:aI G w G' w')(eJ:bc G' w' s')
 (hlp:∀x∈E.lp,x∈lp')(afS:∀i t,d=some i->bP av t->(i,t)∈lp')
 (ZD:∀i t,d=some i->(∃cs,av=.loc cs)->(t,i)∉E.lp)
 (wU:∀i b,d≠some i->(∃j,G.O b=.slot i j)\/G.O b=.loc i->G'.O b=G.O b/\G'.R b=G.R b/\w'.heap[b]? =w.heap[b]?)
 (ep:∀i b c j,d≠some i->G.O b=.loc i->G.O c=.cell b j->G'.O c=.cell b j/\G'.R c=G.R c/\w'.heap[c]? =w.heap[c]?)
 (W0:∀i,d=some i->ee G' w' ((E.put d av).e) (a.put d v).tmps i av v):
 Inv G' n D {(E.put d av)with s:=s',lp:=lp'} (a.put d v) w':=by
 cases d with
 |none=>
  refine⟨kl,eJ,h.size,fun i u hu=>?_,h.EB,fun i t ht=>hlp _ (h.Mj i t ht),h.qE⟩
  exact ee.frame (fun _ _ hv=>bF.vr h.aZ hv) (fun b=>wU i b BY) (fun b c j=>ep i b c j BY) _ _ (fun t _ cs hcs=>⟨cs,hcs,rfl⟩) (h.cG i u hu)
 |some d=>
  refine⟨kl,eJ,by simp[Act.put,h.size],fun i u hu=>?_,fun i hi=>?_,fun i t ht=>?_,h.qE⟩
  ·by_cases hid:d=i
   ·subst hid
    have hu':u=v:=by
     have hlt:d<a.tmps.size:=by rw[h.size];exact hd d rfl
     simp[Act.put,hlt]at hu
     exact hu.symm
    subst hu'
    have:look (E.put (some d) av).e d=av:=Z_
    grind
   ·have hne:(some d:Option Nat)≠some i:=fun e=>hid (Option.some.inj e)
    have hu':a.tmps[i]? =some u:=by simpa[Act.put,Array.getElem?_setIfInBounds_ne hid]using hu
    have:look (E.put (some d) av).e i=look E.e i:=by simp[St.put,bj,hid]
    rw[this]
    refine ee.frame (fun _ _ hv=>bF.vr h.aZ hv) (fun b=>wU i b hne) (fun b c j=>ep i b c j hne) _ _ (fun t ht cs hcs=>?_) (h.cG i u hu')
    have Ig:=h.Mj i t ht
    by_cases hdt:d=t
    ·subst hdt
     simp only[St.put,bj,if_true]at hcs
     grind
    grind [St.put,bj,Act.put,Array.getElem?_setIfInBounds_ne]
  ·have:d≠i:=by have:=hd d rfl;omega
   simp[St.put,bj,this,h.EB i hi]
  ·by_cases hid:d=i
   ·subst hid
    simp only[St.put,bj,if_true]at ht
    grind
   ·simp only[St.put,bj,hid,if_false]at ht
    exact hlp _ (h.Mj i t ht)
def cR:Value->AV->Bool
 |.bool a,.bool b=>a==b
 |.int k n,.int k' m=>decide (k=k')&&n==m
 |.string s,.str t=>s.data.toList==t
 |.pointer none,.fN=>true
 |.slice none 0 0,.sl _ _ 0 []=>true
 |.slice none 0 0,.arr _ _ 0 0=>true
 |.slice none 0 0,.bb _ 0 []=>true
 |.map none,.ud=>true
 |.nilFunc,.py=>true
 |.nilIface,.ml=>true
 |_,_=>false
def MA:List Value->List AV->Bool
 |[],[]=>true
 |v::vs,a::as=>cR v a&&MA vs as
 |_,_=>false
def bN:Operand->IX->Bool
 |.tmp t,.t i=>t==i
 |.const (.agg vs),.c (.agg cs)=>MA vs.toList cs
 |.const v,.c a=>cR v a
 |.func f,.c (.fn g [] [])=>f==g
 |_,_=>false
def gX:List Operand->List IX->Bool
 |[],[]=>true
 |o::os,x::xs=>bN o x&&gX os xs
 |_,_=>false
def EA:Option Operand->Option IX->Bool
 |none,none=>true
 |some o,some x=>bN o x
 |_,_=>false
section
variable(P:Program)
def di(t:TypeId)(n:Nat):Bool:=match P.info? t with
 |some i=>i.size==n
 |none=>false
def lD(t:TypeId)(n:Nat):Bool:=match P.info? t with
 |some i=>i.bytes==n
 |none=>false
def qA(t:TypeId)(multi:Bool):Bool:=match P.underlying t with
 |some (.struct _)|some (.array _ _)=>multi
 |some _=>!multi
 |none=>false
def pn(t:TypeId)(z:List AV):Bool:=match P.info? t with
 |some i=>(match i.zero with
  |some v=>MA v.cells.toList z&&i.size==z.length
  |none=>false)
 |none=>false
def cU(t:TypeId):Option TypeId:=match P.underlying t with
 |some (.slice e)=>some e
 |_=>none
def Aa(fs:Array Field):List (Nat×Operand)->List (Nat×Nat×IX)->Bool
 |[],[]=>true
 |(i,o)::r,(off,n,x)::s=>(match fs[i]? with
  |some f=>f.offset==off&&di P f.type n
  |none=>false)&&bN o x&&Aa fs r s
 |_,_=>false
def uh(sz:Nat):List (Nat×Operand)->List (Nat×Nat×IX)->Bool
 |[],[]=>true
 |(i,o)::r,(off,n,x)::s=>i*sz==off&&n==sz&&bN o x&&uh sz r s
 |_,_=>false
def Xj(t:TypeId):Bool:=match P.underlying t with
 |some (.int _)=>true
 |_=>false
def Ze(t:TypeId):Bool:=match P.underlying t with
 |some .bool=>true
 |_=>false
def Ob(t:TypeId):Bool:=match P.underlying t with
 |some .string=>true
 |_=>false
def agT(t:TypeId):Bool:=match P.underlying t with
 |some (.pointer e)=>(P.info? e).isSome
 |_=>false
def zd(e:TypeId)(sz:Nat):Bool:=match P.info? e with
 |some i=>(match i.zero with
  |some v=>v.cells.size==sz&&v.cells.toList.all Value.oneCell'
  |none=>false)
 |none=>false
def Rx(b:Builtin)(c:Call):Option (List Operand×List TypeId):=match c.callee with
 |.builtin b'=>if b'=b then some (c.args.toList,c.argTypes.toList)else none
 |_=>none
def agm(t:TypeId)(cls:Nat):Bool:=match P.underlying t with
 |some (.slice _)=>cls==0
 |some .string=>cls==1
 |some (.map _ _)=>cls==2
 |_=>false
def aja(t:TypeId)(n:Nat):Bool:=match P.underlying t with
 |some (.array m _)=>n==m
 |_=>false
def Nq(t:TypeId):ny->Bool
 |.int k=>(match P.underlying t with|some (.int k')=>QF k k'|_=>false)
 |.str=>(match P.underlying t with|some .string=>true|_=>false)
 |.bool=>(match P.underlying t with|some .bool=>true|_=>false)
 |.bytes n=>(match P.underlying t with
  |some (.array m e)=>m==n&&(match P.underlying e with|some (.int .u8)=>true|_=>false)&&di P e 1
  |_=>false)
def Om(t:TypeId)(z:AV):Bool:=match P.info? t with
 |some i=>(match i.zero with
  |some v=>(match z,v with
   |.agg cs,.agg vs=>MA vs.toList cs
   |z,v=>cR v z)
  |none=>false)
 |none=>false
def F7:List Field->Nat->Bool
 |[],_=>true
 |f::r,k=>f.name != "_" &&f.offset==k&&Xj P f.type&&qA P f.type false&&F7 r (k+1)
def adi(t:TypeId)(n:Nat):Bool:=match P.underlying t with
 |some (.struct fs)=>F7 P fs.toList 0&&fs.size==n&&!P.stoodInHeld t&&!P.eqGuardType P.depth t
 |_=>false
def aw(op:Op)(_ty:TypeId)(o:sD):Bool:=
 match o,op with
 |.oU _ x,.move y=>bN y x
 |.oU _ x,.assign y=>bN y x
 |.pick c x y,.pick c' x' y'=>bN c' c&&bN x' x&&bN y' y
 |.j7 z,.alloc t=>pn P t z
 |.ng z,.alloc t=>pn P t z
 |.JY n x,.box t y=>di P t n&&bN y x
 |.Bg n x,.box t y=>di P t n&&bN y x
 |.build z ps,.build t qs=>pn P t z&&(match P.underlying t with
  |some (.struct fs)=>Aa P fs qs.toList ps&&fs.all fun f=>(P.info? f.type).isSome
  |some (.array _ e)=>(match P.info? e with
   |some i=>uh i.size qs.toList ps
   |none=>false)
  |_=>false)
 |.ie sz n z ps,.buildSlice t m qs=>n==m&&(match cU P t with
  |some e=>di P e sz&&decide (0<sz)&&uh sz qs.toList ps&&decide (n*sz<=2^24)&&(match P.info? e with
   |some i=>(match i.zero with
    |some v=>MA ((List.replicate n v.cells.toList).flatten) z&&v.cells.size==sz
    |none=>false)
   |none=>false)
  |none=>false)
 |.nx _ x,.load t y=>di P t 1&&qA P t false&&bN y x
 |.ks z multi x,.load t y=>di P t z.length&&qA P t multi&&(multi||z.length==1)&&bN y x
 |.lookup kk z ok x k,.lookup t y j ok'=>bN y x&&bN j k&&ok==ok'&&(match P.underlying t with
  |some (.map kt et)=>Nq P kt kk&&Om P et z
  |_=>false)
 |.mapUpdate kk x k v,.mapUpdate t y j u=>bN y x&&bN j k&&bN u v&&(match P.underlying t with
  |some (.map kt _)=>Nq P kt kk
  |_=>false)
 |.vI x,.move y=>bN y x
 |.vI x,.assign y=>bN y x
 |.oE (.t i),.convert s t y=>bN y (.t i)&&s==t&&(match P.underlying s with
  |some (.slice e)=>(match P.underlying e with|some (.int .u8)=>true|_=>false)
  |_=>false)
 |.load n multi x,.load t y=>di P t n&&qA P t multi&&(multi||n==1)&&bN y x
 |.store n p v,.store t q u=>di P t n&&bN q p&&bN u v
 |.nilCheck x,.nilCheck y=>bN y x
 |.bin bo x y,.binOp b _ u v _=>decide (bo=b)&&bN u x&&bN v y
 |.ZA ne x y,.binOp b t u v _=>decide (b=if ne then .neq else .eql)&&bN u x&&bN v y&&Ze P t
 |.VS ne x y,.binOp b t u v _=>decide (b=if ne then .neq else .eql)&&bN u x&&bN v y&&agT P t
 |.VT ne x y,.binOp b t u v _=>decide (b=if ne then .neq else .eql)&&bN u x&&bN v y&&(cU P t).isSome
 |.un uo x,.unOp u _ y=>decide (uo=u)&&bN y x
 |.ni k x,.convert s t y=>bN y x&&(match P.underlying s,P.underlying t with
  |some (.int _),some (.int k')=>decide (k=k')
  |_,_=>false)
 |.kO x,.convert s t y=>bN y x&&(match P.underlying s,P.underlying t with
  |some (.slice e),some .string=>(match P.underlying e with|some (.int .u8)=>true|_=>false)
  |_,_=>false)
 |.lT x i,.index t y j=>bN y x&&bN j i&&Ob P t
 |.fieldAddr off x,.fieldAddr t y i=>bN y x&&(match P.underlying t with
  |some (.struct fs)=>(match fs[i]? with
   |some f=>f.offset==off&&(match P.info? f.type with|some j=>decide (0<j.size)|none=>false)
   |none=>false)
  |_=>false)
 |.indexAddr z x i,.indexAddr t y j=>bN y x&&bN j i&&(match cU P t with
  |some e=>di P e z.length
  |none=>false)
 |.jE sz len x i,.indexAddr t y j=>bN y x&&bN j i&&(match P.underlying t with
  |some (.array l e)=>l==len&&di P e sz
  |_=>false)
 |.slice sz x lo hi mx,.slice t y l h m=>bN y x&&EA l lo&&EA h hi&&EA m mx&&(match cU P t with
  |some e=>di P e sz
  |none=>false)
 |.qo x lo hi,.slice t y l h none=>bN y x&&EA l lo&&EA h hi&&Ob P t
 |.extract x k,.extract y j=>bN y x&&k==j
 |.len cls x,.call c=>(match Rx .len c with
  |some (y::_,t::_)=>bN y x&&agm P t cls
  |_=>false)
 |.cap x,.call c=>(match Rx .cap c with
  |some (y::_,t::_)=>bN y x&&(cU P t).isSome
  |_=>false)
 |.mi true xs,.call c=>(match Rx .max c with
  |some (ys,_)=>gX ys xs
  |_=>false)
 |.mi false xs,.call c=>(match Rx .min c with
  |some (ys,_)=>gX ys xs
  |_=>false)
 |.append sz by' x y,.call c=>(match Rx .append c with
  |some ([u,v],[t,t'])=>bN u x&&bN v y&&(match cU P t with
   |some e=>di P e sz&&lD P e by'&&decide (0<sz)&&decide (0<by')&&zd P e sz&&((cU P t').isSome||Ob P t')
   |none=>false)
  |_=>false)
 |.lO sz by' z l c,.makeSlice t l' c'=>bN l' l&&bN c' c&&(match cU P t with
  |some e=>di P e sz&&lD P e by'&&pn P e z&&decide (0<sz)&&decide (0<by')
  |none=>false)
 |.makeMap,.makeMap _ none=>true
 |.call f args,.call c=>(match c.callee with
  |.value (.func g)=>f==g&&gX c.args.toList args&&(match P.funcs[f]? with
   |some fn=>fn.name != "runtime.NumGoroutine" &&fn.body.isSome
   |none=>false)
  |_=>false)
 |.jh x args,.call c=>(match c.callee with
  |.value y=>bN y x&&gX c.args.toList args
  |_=>false)
 |.uc f a b,.makeFunc (.func g) c d=>f==g&&gX c.toList a&&gX d.toList b
 |.mL sz n z ps,.buildSlice t m qs=>n==m&&(match cU P t with
  |some e=>di P e sz&&decide (0<sz)&&uh sz qs.toList ps&&decide (n*sz<=2^24)&&(match P.info? e with
   |some i=>(match i.zero with
    |some v=>MA ((List.replicate n v.cells.toList).flatten) z&&v.cells.size==sz
    |none=>false)
   |none=>false)
  |none=>false)
 |.nD sz by' z x y,.call c=>(match Rx .append c with
  |some ([u,v],[t,t'])=>bN u x&&bN v y&&(match cU P t with
   |some e=>di P e sz&&lD P e by'&&decide (0<sz)&&decide (0<by')&&zd P e sz&&pn P e z&&((cU P t').isSome||Ob P t')
   |none=>false)
  |_=>false)
 |.pE sz by' z x y,.call c=>(match Rx .append c with
  |some ([u,v],[t,t'])=>bN u x&&bN v y&&Xj P t'&&(match cU P t with
   |some e=>di P e sz&&lD P e by'&&decide (0<sz)&&decide (0<by')&&pn P e z
   |none=>false)
  |_=>false)
 |.AD sz x y,.call c=>(match Rx .copy c with
  |some ([u,v],[t,_])=>bN u x&&bN v y&&(match cU P t with
   |some e=>di P e sz
   |none=>false)
  |_=>false)
 |.tx z x,.call c=>(match Rx .clear c with
  |some (u::_,t::_)=>bN u x&&(match cU P t with
   |some e=>pn P e z
   |none=>false)
  |_=>false)
 |.AX _ _ x,.load t y=>di P t 1&&qA P t false&&bN y x
 |.VU _ _ x,.move y=>bN y x
 |.VU _ _ x,.assign y=>bN y x
 |.nv x,.load t y=>(cU P t).isSome&&di P t 1&&qA P t false&&bN y x
 |.nw _ _ x,.load t y=>(cU P t).isSome&&di P t 1&&qA P t false&&bN y x
 |.ZB ne x,.binOp b t u v _=>decide (b=if ne then .neq else .eql)&&bN u x&&(match v with|.const (.slice none 0 0)=>true|_=>false)&&(cU P t).isSome
 |.xQ f i args,.call c=>args.any (fun x=>match x with|.t j=>j==i|_=>false)&&(match c.callee with
  |.value (.func g)=>f==g&&gX c.args.toList args&&(match P.funcs[f]? with
   |some fn=>fn.name != "runtime.NumGoroutine" &&fn.body.isSome
   |none=>false)
  |_=>false)
 |.WD ne x,.binOp b t u v _=>decide (b=if ne then .neq else .eql)&&bN u x&&(match v with|.const .nilFunc=>true|_=>false)&&(match P.underlying t with|some (.func _ _ _)=>true|_=>false)
 |.WE ne x,.binOp b t u v _=>decide (b=if ne then .neq else .eql)&&bN u x&&(match v with|.const .nilIface=>true|_=>false)&&(match P.underlying t with|some (.interface _)=>true|_=>false)
 |.Ki x,.convert s t y=>bN y x&&(match P.underlying s with|some (.pointer e)=>(match P.info? e with|some j=>j.size !=0|none=>false)|_=>false)&&(match P.underlying t with|some .unsafePointer=>true|_=>false)
 |.Kh u x,.convert s t y=>bN y x&&(match P.underlying s with|some .unsafePointer=>true|_=>false)&&(match P.underlying t with|some (.pointer e)=>e==u&&(P.info? e).isSome|_=>false)
 |.Ay f x,.call c=>(match c.callee with
  |.value (.func g)=>f==g&&gX c.args.toList [x]
  |_=>false)
 |.J0 n t j u x,.box t' y=>t==t'&&di P t n&&bN y x
 |.pD u x y,.call c=>(match Rx .append c with
  |some ([p,q],[t,t'])=>bN p x&&bN q y&&(match cU P t with
   |some e=>di P e 1&&lD P e 1&&zd P e 1&&((cU P t').isSome||Ob P t')&&e==u
   |none=>false)
  |_=>false)
 |.ux _ n p v,.store t q u=>di P t n&&bN q p&&bN u v
 |.JZ _ n x,.box t y=>di P t n&&bN y x
 |.Z9 f x y,.call c=>(match c.callee with
  |.value (.func g)=>f==g&&gX c.args.toList [x,y]
  |_=>false)
 |_,_=>false
def Wm(ops:Array Oper):Option (Nat×Bool)->Option (Nat×Bool)->Bool
 |none,none=>true
 |some (j,w),some (t,w')=>w==w'&&((ops[j]?).bind (·.dst))==some t
 |_,_=>false
def bt(n:Nat):Option Nat->Bool
 |none=>true
 |some d=>decide (d<n)
def iU(n:Nat)(ops:Array Oper)(o:Oper)(o':ar):Bool:=o.dst==o'.dst&&bt n o'.dst&&Wm ops o.guard o'.g&&aw P o.op o.type o'.op
def cJ(n:Nat)(ops:Array Oper):List Oper->List ar->Bool
 |[],[]=>true
 |o::r,o'::r'=>iU P n ops o o'&&cJ n ops r r'
 |_,_=>false
def oX:Option IX->List IX
 |some x=>[x]
 |none=>[]
def eW:sD->List IX
 |.oU _ x|.JY _ x|.Bg _ x|.load _ _ x|.nilCheck x|.un _ x|.ni _ x|.kO x|.fieldAddr _ x|.extract x _|.len _ x|.cap x|.ks _ _ x|.oE x|.vI x|.tx _ x|.VU _ _ x|.AX _ _ x|.nv x|.ZB _ x|.WD _ x|.WE _ x|.Ki x|.Ay _ x|.Kh _ x|.J0 _ _ _ _ x|.JZ _ _ x|.nx _ x=>[x]
 |.nw _ j x=>[j,x]
 |.pick c x y=>[c,x,y]
 |.j7 _|.ng _|.makeMap=>[]
 |.build _ ps|.ie _ _ _ ps|.mL _ _ _ ps=>ps.map fun p=>p.2.2
 |.store _ x y|.bin _ x y|.ZA _ x y|.VS _ x y|.VT _ x y|.lT x y|.indexAddr _ x y|.jE _ _ x y|.append _ _ x y|.pD _ x y|.lO _ _ _ x y|.lookup _ _ _ x y|.nD _ _ _ x y|.pE _ _ _ x y|.AD _ x y|.Z9 _ x y|.ux _ _ x y=>[x,y]
 |.slice _ x lo hi mx=>x::(oX lo++(oX hi++oX mx))
 |.qo x lo hi=>x::(oX lo++oX hi)
 |.mi _ xs=>xs
 |.mapUpdate _ x y z=>[x,y,z]
 |.call _ xs|.xQ _ _ xs=>xs
 |.jh x xs=>x::xs
 |.uc _ xs ys=>xs++ys
def B5:List IX->List Nat
 |[]=>[]
 |.t i::r=>i::B5 r
 |.c _::r=>B5 r
def abd:Option (Nat×Bool)->List Nat
 |some (t,_)=>[t]
 |none=>[]
def cG(o:ar):List Nat:=abd o.g++B5 (eW o.op)
def iM(d:Option Nat)(l:List Nat):Bool:=match d with
 |some d=>!l.contains d
 |none=>true
def kG(o:ar)(i:Nat):Bool:=match o.op with
 |.oU true (.t j)=>j==i
 |_=>false
def Uj(x y:ar):Bool:=(cG y).all fun i=>!kG x i
def ap(x y:ar):Bool:=(Uj x y&&Uj y x)&&iM x.dst (cG y)&&iM y.dst (cG x)&&(match x.dst,y.dst with
 |some i,some j=>i !=j
 |_,_=>true)
def iS(ops:Array Oper)(j i:Nat):Bool:=match ops[j]? with
 |some o=>o.after.any fun e=>Region.binds .any e&&e.on==i
 |none=>false
def OD(ops:Array Oper)(q:Nat):Bool:=(List.range q).all fun k=>match ops[k]? with
 |some o=>o.after.all fun e=>!Region.binds .any e||decide (e.on<k)
 |none=>false
def FY(ops:Array Oper)(q:Nat):Bool:=q==ops.size||(List.range q).all fun k=>(List.range (q+1)).any fun m=>decide (k<m)&&iS ops m k
def ae6(bR:List ar)(i j:Nat):Bool:=match bR[i]?,bR[j]? with
 |some x,some y=>ap x y
 |_,_=>false
def Zo(ops:Array Oper)(q:Nat)(bR:List ar):Bool:=(List.range q).all fun j=>(List.range j).all fun i=>iS ops j i||ae6 bR i j
def rV(ops:Array Oper):Nat->Nat->Array Bool->Bool
 |0,_,aV=>(Region.ready .any ops aV).isEmpty
 |fuel+1,k,aV=>Region.ready .any ops aV==[k]&&rV ops fuel (k+1) (aV.setIfInBounds k true)
def qt(size q:Nat):Array Bool:=(Array.range size).map fun i=>decide (i<q)
def OC(ops:Array Oper)(q:Nat)(bR:List ar):Bool:=decide (q<=ops.size)&&(OD ops q&&(FY ops q&&(Zo ops q bR&&rV ops (ops.size -q) q (qt ops.size q))))
def rB(o:ar):Option Nat:=match o with
 |⟨none,.store _ (.t c) _,none⟩=>some c
 |o=>o.dst
def jI(o:ar)(i:Nat):Bool:=match o.op with
 |.oU true (.t j)=>j==i
 |.store _ _ (.t j)=>j==i
 |.append _ _ (.t j) _=>j==i
 |.nw _ (.t j) _=>j==i
 |_=>false
def AZ(x y:ar):Bool:=(cG y).all fun i=>!jI x i
def cOK(o:ar):Bool:=(eW o.op).all fun x=>match x with
 |.c (.lp _ _)=>false
 |.c (.when _ _)=>false
 |_=>true
def Y7(x y:ar):Bool:=(cOK x&&cOK y)&&(AZ x y&&AZ y x)&&iM (rB x) (cG y)&&iM (rB y) (cG x)&&(match rB x,rB y with
 |some i,some j=>i !=j
 |_,_=>true)
def Y8(bR:List ar)(i j:Nat):Bool:=match bR[i]?,bR[j]? with
 |some x,some y=>Y7 x y
 |_,_=>false
def R9(ops:Array Oper)(q:Nat)(bR:List ar):Bool:=(List.range q).all fun j=>(List.range j).all fun i=>iS ops j i||Y8 bR i j
def T6:sD->Bool
 |.store _ _ _=>true
 |.j7 _=>true
 |.append _ _ _ _=>true
 |.nw _ _ _=>true
 |_=>false
def R8(T:List Nat)(bR:List ar)(q:Nat):Bool:=(bR.take q).all fun o=>match o with
 |⟨none,.store _ (.t c) _,none⟩=>T.contains c
 |⟨some d,.j7 _,none⟩=>T.contains d
 |_=>true
def HG(T:List Nat)(ops:Array Oper)(q:Nat)(bR:List ar):Bool:=decide (q<=ops.size)&&(OD ops q&&(FY ops q&&(R9 ops q bR&&(R8 T bR q&&rV ops (ops.size -q) q (qt ops.size q)))))
abbrev Item:=Nat×Nat×ar
def Nz(acc:List Nat)(o:Oper):Nat:=o.after.toList.foldl (fun s e=>bif Region.binds .any e then s |||(1<<<e.on)|||acc.getD e.on 0 else s) 0
def GJ:List Oper->List Nat->List Nat
 |[],acc=>acc
 |o::r,acc=>GJ r (acc++[Nz acc o])
def apB(y x:ar):Bool:=AZ y x&&iM (rB y) (cG x)&&iM x.dst (cG y)&&(match rB y,x.dst with
 |some i,some j=>i !=j
 |_,_=>true)
def La:ar->ar->Bool
 |⟨_,.load _ _ _,none⟩,⟨_,.lO _ _ _ _ _,_⟩=>true
 |⟨_,.load _ _ _,none⟩,⟨_,.nv _,_⟩=>true
 |_,_=>false
def ZP(k k':Nat)(x y:ar):Bool:=match k,k' with
 |0,0|0,1|1,0|1,1=>Y7 x y
 |1,2=>apB x y
 |0,2=>La x y&&apB x y
 |_,_=>false
def yS(ops:Array Oper)(ms:List Nat)(x y:Item):Bool:=!iS ops x.2.1 y.2.1&&(x.2.1 !=y.2.1&&((ms.getD y.2.1 0).testBit x.2.1||
 ZP x.1 y.1 x.2.2 y.2.2))
def IL(ops:Array Oper)(ms:List Nat):List Item->Bool
 |[]=>true
 |x::r=>r.all (yS ops ms x)&&IL ops ms r
def Df(T:List Nat)(n:Nat)(ops:Array Oper)(x:Item):Bool:=(match ops[x.2.1]? with
 |some o=>iU P n ops o x.2.2&&o.after.all fun e=>!Region.binds .any e||(decide (e.on<ops.size)&&e.on !=x.2.1)
 |none=>false)&&(match x.2.2 with
 |⟨none,.store _ (.t c) _,none⟩=>decide (2<=x.1)||T.contains c
 |⟨some d,.j7 _,none⟩=>T.contains d
 |_=>true)
def aaX(T:List Nat)(n:Nat)(ops:Array Oper)(l:List Item):Bool:=(l.length==ops.size&&(List.range ops.size).all fun k=>l.any fun x=>x.2.1==k)&&(l.all (Df P T n ops)&&IL ops (GJ ops.toList []) l)
def OF(ops:Array Oper)(iH:List (List Bool)):Bool:=iH.length==ops.size&&(List.range ops.size).all fun j=>
 ((iH.getD j []).length==ops.size&&(List.range ops.size).all fun i=>!((iH.getD j []).getD i false)||iS ops j i)&&(match ops[j]? with
 |some o=>o.after.all fun e=>!Region.binds .any e||decide (e.on<j)
 |none=>false)
def Al:Code->Nat->Option (List Code×Code)
 |.seq (.label m) r,l=>if m==l then some ([],r)else none
 |.seq s c,l=>if(findLabel s l).isNone then(Al c l).map fun p=>(s::p.1,p.2)else none
 |_,_=>none
def w9:IC->Bool
 |.skip=>true
 |_=>false
def lW(n:Nat):Code->IC->Bool
 |.skip,.skip=>true
 |.region _ ops draw,.Er q bR _=>cJ P n ops ops.toList bR&&(match q with
  |none=>!draw
  |some q=>!draw||OC ops q bR)
 |.region _ ops draw,.U0 T q bR _=>cJ P n ops ops.toList bR&&(!draw||HG T ops q bR)
 |.region _ ops draw,.Q3 T l _=>draw&&aaX P T n ops l
 |.region _ ops draw,.Yh iH bR _=>draw&&(cJ P n ops ops.toList bR&&OF ops iH)
 |.seq a b,.seq a' b'=>lW n a a'&&lW n b b'
 |.seq a b,.join _ a' b'=>lW n a a'&&lW n b b'
 |.cond c a b,.cond c' a' b'=>bN c c'&&lW n a a'&&lW n b b'
 |.block i b,.block j b'=>i==j&&lW n b b'
 |.loop b,.loop _ b'=>lW n b b'
 |.exit i,.exit j=>i==j
 |.scope c,.DV l _ a1 a2 a3 r'=>match Al c l with
  |some ([],r)=>w9 a1&&(w9 a2&&(w9 a3&&lW n r r'))
  |some ([s1],r)=>lW n s1 a1&&(w9 a2&&(w9 a3&&lW n r r'))
  |some ([s1,s2],r)=>lW n s1 a1&&(lW n s2 a2&&(w9 a3&&lW n r r'))
  |some ([s1,s2,s3],r)=>lW n s1 a1&&(lW n s2 a2&&(lW n s3 a3&&lW n r r'))
  |_=>false
 |.scope b,.scope b'=>lW n b b'
 |.label l,.label l'=>l==l'
 |.goto l,.goto l'=>l==l'
 |.ret,.ret=>true
 |_,.dead=>true
 |_,_=>false
end
theorem vQ{v:Value}{a:AV}(h:cR v a=true)(w:World)(R:Nat->Nat):VR w R a v:=by
 unfold cR at h
 split at h
 ·obtain rfl:=beq_iff_eq.1 h;exact .bool _
 ·rw[Bool.and_eq_true]at h;obtain⟨h1,h2⟩:=h;obtain rfl:=of_decide_eq_true h1;obtain rfl:=beq_iff_eq.1 h2;exact .int _ _
 ·obtain rfl:=beq_iff_eq.1 h
  rename_i s
  have:∀b:ByteArray,b=⟨b.data.toList.toArray⟩:=fun b=>by cases b;simp
  conv=>rhs;rw[this s]
  exact .str _
 ·exact .fN
 ·exact .slnil _ _
 ·exact .HC _ _
 ·exact .bb _ _ _ _ (.slnil _ _) (fun _=>rfl)
 ·exact .ud
 ·exact .py
 ·exact .ml
 ·cases h
theorem RZ{v:Value}{a:AV}(h:cR v a=true):dJ a=true:=by
 unfold cR at h
 split at h<;>first|rfl|cases h
def BT{vs:List Value}{as:List AV}(h:MA vs as=true):vs.length=as.length/\∀(j:Nat)(c:AV)(v:Value),as[j]? =some c->vs[j]? =some v->cR v c=true:=by
 induction vs generalizing as with
 |nil=>cases as with
  |nil=>exact⟨rfl,fun j c v hc=>O_⟩
  |cons=>simp[MA]at h
 |cons v vs ih=>cases as with
  |nil=>simp[MA]at h
  |cons a as=>
   simp only[MA,Bool.and_eq_true]at h
   obtain⟨h1,h2⟩:=ih h.2
   refine⟨by simp[h1],fun j c u hc hu=>?_⟩
   cases j with
   |zero=>simp at hc hu;subst hc;subst hu;exact h.1
   |succ j=>exact h2 j c u J_ (by simpa using hu)
def Wg{v:Value}{a:AV}(h:cR v a=true):qH a=true:=by
 unfold cR at h
 split at h<;>first|rfl|cases h
def Cu:∀{vs:List Value}{as:List AV},MA vs as=true->Fl as
 |[],[],_=>Fl.nil
 |v::vs,a::as,h=>by
  simp only[MA,Bool.and_eq_true]at h
  intro c hc
  rcases List.mem_cons.1 hc with rfl|hc
  ·exact Wg h.1
  ·exact Cu h.2 c hc
 |[],_::_,h=>by simp[MA]at h
 |_::_,[],h=>by simp[MA]at h
def OB{vs:Array Value}{cs:List AV}(h:MA vs.toList cs=true)(w:World)(R:Nat->Nat):VR w R (.agg cs) (.agg vs):=by
 obtain⟨h1,h2⟩:=BT h
 exact .agg cs vs (Cu h) S_ fun j c v hc hv=>vQ (h2 j c v hc Xb9) w R
theorem Ct{v:Value}{a:AV}(h:cR v a=true)(G:Gh)(w:World)(o:dp):dS G w o a v:=by
 unfold cR at h
 split at h<;>first|(cases h;done)|trivial|skip
 ·rename_i own sz
  cases own with
  |false=>trivial
  |true=>intro base m cap hv hc;injection hv with _ h2 h3;omega
 ·intro base m cap hv hc;injection hv with _ h2 h3;omega
section
variable{P:Program}{G:Gh}{n:Nat}{D:List Deferred}{E:St}{a:Act}{w:World}
def BR(G:Gh)(w:World)(E:St)(a:Act)(x:IX):AV->Value->Prop
 |.loc cs,v=>∃i b c t,x=.t i/\look E.e i=.loc cs/\a.tmps[i]? =some v/\v=.pointer (some ⟨b,0,none⟩)/\G.O b=.loc i/\G.R b=0/\w.heap[b]? =some (.cells c t (0,0))/\dF G w (.cell b) cs c/\Fl cs
 |.lp d off,v=>∃b,v=.pointer (some ⟨b,off,none⟩)/\∀cs,look E.e d=.loc cs->a.tmps[d]? =some (.pointer (some ⟨b,0,none⟩))
 |.when _ _,_=>True
 |.us _ _ _,_=>True
 |av,v=>VR w G.R av v
def XR(G:Gh)(w:World)(E:St)(a:Act)(x:IX):AV->Value->Prop
 |.when b av,v=>b=true->inner av=true->BR G w E a x av v
 |av,v=>BR G w E a x av v
def BR.vr{x:IX}{av:AV}{v:Value}(h:dJ av=true)(hv:BR G w E a x av v):VR w G.R av v:=by cases av<;>simp_all [dJ,BR]
def XR.br{x:IX}{av:AV}{v:Value}(hv:XR G w E a x av v):BR G w E a x (vi true av) v:=by
 cases av<;>try exact hv
 rename_i b av
 cases b with
 |false=>
  have:vi true (.when false av)=.undef:=by simp[vi]
  rw[this];exact VR.undef v
 |true=>
  cases hi:inner av with
  |false=>
   have:vi true (.when true av)=.undef:=by simp[vi,hi]
   rw[this];exact VR.undef v
  |true=>
   have:vi true (.when true av)=av:=by simp[vi,hi]
   rw[this];exact hv rfl hi
def XR.XJ{i:Nat}(hi:a.tmps[i]? =some (a.eval (.tmp i))){av:AV}(hl:look E.e i=av)(h:ee G w E.e a.tmps i av (a.eval (.tmp i))):XR G w E a (.t i) av (a.eval (.tmp i)):=by
 have base:∀av:AV,(∀cs,av=.loc cs->look E.e i=.loc cs)->ee G w E.e a.tmps i av (a.eval (.tmp i))->BR G w E a (.t i) av (a.eval (.tmp i)):=by
  intro av hl h
  cases av with
  |loc cs=>
   obtain⟨b,c,t,h1,h2,h3,h4,h5⟩:=h
   exact⟨i,b,c,t,rfl,hl cs rfl,hi,h1,h2,h3,h4,h5⟩
  |lp d off=>exact h
  |jg vs=>
   obtain⟨ys,h1,h2⟩:=h
   rw[h1]
   exact VR.jg vs ys h2.1 fun j c u hc hu=>(h2.2 j c u hc hu).1
  | «when» b av=>trivial
  |us sz m cs=>trivial
  |_=>exact h.1
 cases av with
 | «when» b av=>exact fun hb hin=>base av (fun cs hcs=>by subst hcs;cases hin) (h.1 hb)
 |_=>exact base _ (fun cs hcs=>by rw[hl,hcs]) h
theorem gy{i:Nat}(hi:i<a.tmps.size):a.tmps[i]? =some (a.eval (.tmp i)):=by simp[Act.eval,Array.getD_eq_getD_getElem?,hi]
def XR.aR(h:Inv G n D E a w){o:Operand}{x:IX}(hx:bN o x=true):XR G w E a x (E.x x) (a.eval o):=by
 unfold bN at hx
 split at hx
 ·rename_i t i
  obtain rfl:=beq_iff_eq.1 hx
  rcases Nat.lt_or_ge t n with ht|ht
  ·have hs:t<a.tmps.size:=by rw[h.size];exact ht
   exact XR.XJ (gy hs) rfl (h.cG t _ (gy hs))
  ·have:E.x (.t t)=.undef:=h.EB t ht
   rw[this];exact VR.undef _
 ·exact OB hx w G.R
 ·rename_i v av _
  have hv:=vQ hx w G.R
  have hi:=RZ hx
  show XR G w E a _ av v
  cases av<;>first|exact hv|(simp[dJ]at hi)
 ·rename_i f g
  obtain rfl:=beq_iff_eq.1 hx
  exact VR.fn f [] [] #[] #[] rfl (fun j c v hc=>O_) rfl (fun j c v hc=>O_)
 ·cases hx
def BR.aR(h:Inv G n D E a w){o:Operand}{x:IX}(hx:bN o x=true):BR G w E a x (xg true E x) (a.eval o):=(XR.aR h hx).br
def NR(G:Gh)(w:World)(E:St)(a:Act)(av:AV)(v:Value):Prop:=
 match av with
 |.lp d off=>∃b,v=.pointer (some ⟨b,off,none⟩)/\∀cs,look E.e d=.loc cs->a.tmps[d]? =some (.pointer (some ⟨b,0,none⟩))
 |av=>dJ av=true/\VR w G.R av v/\view av=av
end
end Go.AB
end
