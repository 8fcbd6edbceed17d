/- A part of the proof. -/
import Derived.Test.YtkeagffgdajggaaGreatD1
import Derived.Attr
set_option linter.unusedSimpArgs false
set_option linter.unusedVariables false
section
namespace Go.AB
open Go
section
variable(P:Program)(K:St->Prop)(Q:Exit->St->Prop)(E U:St)(d:Option Nat)
@[go_sem]theorem ajJ:swp P [] E K=K E:=rfl
@[go_sem]theorem aiz(o:ai)(r:List ai):swp P (o::r) E K=Ri P o E (aix P r K):=rfl
@[go_sem]theorem aiy(r:List ai):aix P r K U=swp P r U K:=rfl
@[go_sem]theorem aic(q:Nat)(r:List ai):aib P q r K U=YO P q r U K:=rfl
@[go_sem]theorem aif(live:List Nat):wP live Q U=Q .normal (U.zR live):=rfl
@[go_sem]theorem PD(op:uC):Ri P ⟨d,op,none⟩ E K=YK P op E d K (pv op (xg true E) E):=rfl
@[go_sem]theorem akS(op:uC):owp P op d E K=YK P op E d K (pv op (xg true E) E):=rfl
@[go_sem]theorem agz(op:uC)(t:Nat)(want:Bool):Ri P ⟨d,op,some (t,want)⟩ E K=Cs P op d t want E K (look E.e t):=rfl
@[go_sem]theorem agj(Q:Exit->St->Prop):iU P .dead Q E=False:=rfl
@[go_sem]theorem agq:iU P .skip Q E=Q .normal E:=rfl
@[go_sem]theorem aiX(ops:List ai)(live:List Nat):iU P (.bJ none ops live) Q E=swp P ops E (wP live Q):=rfl
@[go_sem]theorem agp(q:Nat)(ops:List ai)(live:List Nat):iU P (.bJ (some q) ops live) Q E=YO P q ops E (wP live Q):=rfl
@[go_sem]theorem agm(T:List Nat)(l:List (Nat×Nat×ai))(live:List Nat):iU P (.NK T l live) Q E=(gY T E.e=true/\KU P T l E (wP live Q)):=rfl
@[go_sem]theorem agn(T:List Nat)(q:Nat)(ops:List ai)(live:List Nat):iU P (.oG T q ops live) Q E=(gY T E.e=true/\HY P T q ops E (wP live Q)):=rfl
@[go_sem]theorem aiZ(a b:IC):iU P (.seq a b) Q E=iU P a (E6 P b Q) E:=by
  have:(fun x U=>match x with|.normal=>iU P b Q U|x=>Q x U)=E6 P b Q:=by funext x U;cases x<;>rfl
  rw[<-this];rfl
@[go_sem]theorem agi(x:IX)(a b:IC):iU P (.cond x a b) Q E=Tm P a b Q E (E.x x):=by
  show(match E.x x with|.bool v=>(v=true->iU P a Q E)/\(v=false->iU P b Q E)|_=>False)=_
  cases E.x x<;>rfl
@[go_sem]theorem aeB(i:Nat)(b:IC):iU P (.block i b) Q E=iU P b (Uh i Q) E:=rfl
@[go_sem]theorem agk(i:Nat):iU P (.exit i) Q E=Q (.exit i) E:=rfl
@[go_sem]theorem aeC(i:Nat):iU P (.label i) Q E=Q .normal E:=rfl
@[go_sem]theorem agl(i:Nat):iU P (.goto i) Q E=Q (.goto i) E:=rfl
@[go_sem]theorem aiY:iU P .ret Q E=Q .ret E:=rfl
@[go_sem]theorem acp(a b:IC)(v:Bool):Tm P a b Q E (.bool v)=((v=true->iU P a Q E)/\(v=false->iU P b Q E)):=rfl
@[go_sem]theorem abY(b:IC):E6 P b Q .normal U=iU P b Q U:=rfl
@[go_sem]theorem aiq(b:IC):E6 P b Q .ret U=Q .ret U:=rfl
@[go_sem]theorem afM(b:IC)(i:Nat):E6 P b Q (.exit i) U=Q (.exit i) U:=rfl
@[go_sem]theorem afN(b:IC)(i:Nat):E6 P b Q (.goto i) U=Q (.goto i) U:=rfl
@[go_sem]theorem aa0(i:Nat):Uh i Q .normal U=Q .normal U:=rfl
@[go_sem]theorem af7(i:Nat):Uh i Q .ret U=Q .ret U:=rfl
@[go_sem]theorem aey(i j:Nat):Uh i Q (.exit j) U=bif j==i then Q .normal U else Q (.exit j) U:=rfl
@[go_sem]theorem ZA(live:List (Nat×Bool))(J:St->Prop):yT live J Q .normal U=J (U.eP live):=rfl
@[go_sem]theorem aeT(live:List (Nat×Bool))(J:St->Prop):yT live J Q .ret U=Q .ret U:=rfl
@[go_sem]theorem ac8(live:List (Nat×Bool))(J:St->Prop)(i:Nat):yT live J Q (.exit i) U=Q (.exit i) U:=rfl
@[go_sem]theorem ago(gE:List (List Bool))(ops:List ai)(live:List Nat):iU P (.Vd gE ops live) Q E=Vy P gE ops (wP live Q) ops (xc ops) E:=rfl
@[go_sem]theorem cu(gE:List (List Bool))(ops:List ai)(K:St->Prop)(d:List Bool)(o:ai)(f:List ai):Vy P gE ops K (o::f) d E=S6 d gE [] d ops (fun o d=>Ri P o E (aiR P gE ops K f d)):=rfl
@[go_sem]theorem dj(gE:List (List Bool))(ops:List ai)(K:St->Prop)(f:List ai)(d:List Bool)(U:St):aiR P gE ops K f d U=Vy P gE ops K f d U:=rfl
attribute[go_sem] Cb Dx xc
@[go_sem]theorem bO(done row pre xs:List Bool)(rows:List (List Bool))(x:Bool)(o:ai)(r:List ai)(F:ai->List Bool->Prop):S6 done (row::rows) pre (x::xs) (o::r) F=((bif !x&&Cb row done then F o (Dx pre (true::xs))else True)/\S6 done rows (x::pre) xs r F):=rfl
@[go_sem]theorem ct(done pre:List Bool)(F:ai->List Bool->Prop):S6 done [] pre [] [] F=True:=rfl
@[go_sem]theorem RA(l:Nat)(live:List (Nat×Bool))(a1 a2 a3 r:IC):iU P (.Dj l live a1 a2 a3 r) Q E=iU P a1 (E6 P a2 (E6 P a3 (QO live (jlp P l live r Q) Q))) E:=by
  show iU P a1 (fun x U=>match x with|.normal=>iU P a2 (fun x U=>match x with|.normal=>iU P a3 (QO live (jlp P l live r Q) Q) U|x=>QO live (jlp P l live r Q) Q x U) U|x=>QO live (jlp P l live r Q) Q x U) E=_
  congr 1
  funext x U
  cases x with
  |normal=>
   show iU P a2 _ U=iU P a2 _ U
   congr 1
   funext x U
   cases x<;>rfl
  |_=>rfl
@[go_sem]theorem abW(live:List (Nat×Bool))(I:St->Prop):QO live I Q .normal U=I (U.eP live):=rfl
@[go_sem]theorem ahd(l:Nat)(live:List (Nat×Bool))(I:St->Prop):UL l live I Q .ret U=Q .ret U:=rfl
@[go_sem]theorem aeS(l:Nat)(live:List (Nat×Bool))(I:St->Prop):UL l live I Q (.goto l) U=I (U.eP live):=by
  show(l=l/\I (U.eP live))=_
  simp
@[go_sem]theorem ZH(live:List (Nat×Bool))(I:St->Prop)(μ:St->Nat)(m:Nat):Lx live I μ m Q .normal U=(I (U.eP live)/\μ (U.eP live)<m):=rfl
@[go_sem]theorem aeV(live:List (Nat×Bool))(I:St->Prop)(μ:St->Nat)(m:Nat):Lx live I μ m Q .ret U=Q .ret U:=rfl
@[go_sem]theorem adj(live:List (Nat×Bool))(I:St->Prop)(μ:St->Nat)(m i:Nat):Lx live I μ m Q (.exit i) U=Q (.exit i) U:=rfl
end
section
@[go_sem]theorem aeN:dF (.undef)=false:=rfl
@[go_sem]theorem afP(g:Bool):Ak g (.undef)=(.undef):=rfl
@[go_sem]theorem aep:view (.undef)=(.undef):=rfl
@[go_sem]theorem ag4(b:Bool):dF (.bool b)=true:=rfl
@[go_sem]theorem aiC(g:Bool)(b:Bool):Ak g (.bool b)=(.bool b):=rfl
@[go_sem]theorem afQ(b:Bool):view (.bool b)=(.bool b):=rfl
@[go_sem]theorem Y4(b:Bool):cellsOf (.bool b)=[(.bool b)]:=rfl
@[go_sem]theorem aaA(b:Bool):bg (.bool b)=[(.bool b)]:=rfl
@[go_sem]theorem ado(E:St)(i:Nat)(b:Bool):bU E (.bool b) (some i)=E:=rfl
@[go_sem]theorem ai5(k:IntKind)(n:Int):dF (.int k n)=true:=rfl
@[go_sem]theorem ajN(g:Bool)(k:IntKind)(n:Int):Ak g (.int k n)=(.int k n):=rfl
@[go_sem]theorem aiJ(k:IntKind)(n:Int):view (.int k n)=(.int k n):=rfl
@[go_sem]theorem aa7(k:IntKind)(n:Int):cellsOf (.int k n)=[(.int k n)]:=rfl
@[go_sem]theorem ab2(k:IntKind)(n:Int):bg (.int k n)=[(.int k n)]:=rfl
@[go_sem]theorem ae5(E:St)(i:Nat)(k:IntKind)(n:Int):bU E (.int k n) (some i)=E:=rfl
@[go_sem]theorem ai7(s:List UInt8):dF (.str s)=true:=rfl
@[go_sem]theorem ajQ(g:Bool)(s:List UInt8):Ak g (.str s)=(.str s):=rfl
@[go_sem]theorem aiM(s:List UInt8):view (.str s)=(.str s):=rfl
@[go_sem]theorem aa9(s:List UInt8):cellsOf (.str s)=[(.str s)]:=rfl
@[go_sem]theorem ae7(E:St)(i:Nat)(s:List UInt8):bU E (.str s) (some i)=E:=rfl
@[go_sem]theorem ajT(t n:Nat)(cs:List AV):view (.bb t n cs)=.sl false 1 n cs:=rfl
@[go_sem]theorem ag6:dF (.dV)=true:=rfl
@[go_sem]theorem aiE(g:Bool):Ak g (.dV)=(.dV):=rfl
@[go_sem]theorem afS:view (.dV)=(.dV):=rfl
@[go_sem]theorem adq(E:St)(i:Nat):bU E (.dV) (some i)=E:=rfl
@[go_sem]theorem ai6(b o:Nat):dF (.ref b o)=true:=rfl
@[go_sem]theorem ajP(g:Bool)(b o:Nat):Ak g (.ref b o)=(.ref b o):=rfl
@[go_sem]theorem aiL(b o:Nat):view (.ref b o)=(.ref b o):=rfl
@[go_sem]theorem aa8(b o:Nat):cellsOf (.ref b o)=[(.ref b o)]:=rfl
@[go_sem]theorem ae6(E:St)(i:Nat)(b o:Nat):bU E (.ref b o) (some i)=E:=rfl
@[go_sem]theorem alc(g:Bool)(b o:Nat):Ak g (.lp b o)=(.lp b o):=rfl
@[go_sem]theorem ae2(E:St)(i:Nat)(b o:Nat):bU E (.lp b o) (some i)={E with lp:=(i,b)::E.lp}:=rfl
@[go_sem]theorem alf(g:Bool)(cs:List AV):Ak g (.sp cs)=(.sp cs):=rfl
@[go_sem]theorem ahp(E:St)(i:Nat)(cs:List AV):bU E (.sp cs) (some i)=E:=rfl
@[go_sem]theorem ajO(g:Bool)(cs:List AV):Ak g (.loc cs)=(.loc cs):=rfl
@[go_sem]theorem aiK(cs:List AV):view (.loc cs)=(.loc cs):=rfl
@[go_sem]theorem akJ(o:Bool)(z n:Nat)(cs:List AV):dF (.sl o z n cs)=true:=rfl
@[go_sem]theorem ale(g:Bool)(o:Bool)(z n:Nat)(cs:List AV):Ak g (.sl o z n cs)=(.sl o z n cs):=rfl
@[go_sem]theorem ajW(o:Bool)(z n:Nat)(cs:List AV):view (.sl o z n cs)=(.sl false z n cs):=rfl
@[go_sem]theorem acm(o:Bool)(z n:Nat)(cs:List AV):cellsOf (.sl o z n cs)=[(.sl o z n cs)]:=rfl
@[go_sem]theorem aee(o:Bool)(z n:Nat)(cs:List AV):bg (.sl o z n cs)=[(.sl o z n cs)]:=rfl
@[go_sem]theorem aho(E:St)(i:Nat)(o:Bool)(z n:Nat)(cs:List AV):bU E (.sl o z n cs) (some i)=E:=rfl
@[go_sem]theorem ai4(b o l c:Nat):dF (.arr b o l c)=true:=rfl
@[go_sem]theorem ajM(g:Bool)(b o l c:Nat):Ak g (.arr b o l c)=(.arr b o l c):=rfl
@[go_sem]theorem aiI(b o l c:Nat):view (.arr b o l c)=(.arr b o l c):=rfl
@[go_sem]theorem ab1(b o l c:Nat):bg (.arr b o l c)=[(.arr b o l c)]:=rfl
@[go_sem]theorem ae4(E:St)(i:Nat)(b o l c:Nat):bU E (.arr b o l c) (some i)=E:=rfl
@[go_sem]theorem ai3(cs:List AV):dF (.agg cs)=true:=rfl
@[go_sem]theorem ajL(g:Bool)(cs:List AV):Ak g (.agg cs)=(.agg cs):=rfl
@[go_sem]theorem aiH(cs:List AV):view (.agg cs)=(.agg cs):=rfl
@[go_sem]theorem aa6(cs:List AV):cellsOf (.agg cs)=cs:=rfl
@[go_sem]theorem ab0(cs:List AV):bg (.agg cs)=views cs:=rfl
@[go_sem]theorem ae3(E:St)(i:Nat)(cs:List AV):bU E (.agg cs) (some i)=E:=rfl
@[go_sem]theorem ajR(g:Bool)(cs:List AV):Ak g (.gK cs)=(.gK cs):=rfl
@[go_sem]theorem ae8(E:St)(i:Nat)(cs:List AV):bU E (.gK cs) (some i)=E:=rfl
@[go_sem]theorem akH(f:Nat)(x y:List AV):dF (.fn f x y)=true:=rfl
@[go_sem]theorem alb(g:Bool)(f:Nat)(x y:List AV):Ak g (.fn f x y)=(.fn f x y):=rfl
@[go_sem]theorem ajU(f:Nat)(x y:List AV):view (.fn f x y)=(.fn f x y):=rfl
@[go_sem]theorem acj(f:Nat)(x y:List AV):cellsOf (.fn f x y)=[(.fn f x y)]:=rfl
@[go_sem]theorem ahm(E:St)(i:Nat)(f:Nat)(x y:List AV):bU E (.fn f x y) (some i)=E:=rfl
@[go_sem]theorem ag5:dF (.ph)=true:=rfl
@[go_sem]theorem aiD(g:Bool):Ak g (.ph)=(.ph):=rfl
@[go_sem]theorem afR:view (.ph)=(.ph):=rfl
@[go_sem]theorem adp(E:St)(i:Nat):bU E (.ph) (some i)=E:=rfl
@[go_sem]theorem akI(b:Nat):dF (.mp b)=true:=rfl
@[go_sem]theorem ald(g:Bool)(b:Nat):Ak g (.mp b)=(.mp b):=rfl
@[go_sem]theorem ajV(b:Nat):view (.mp b)=(.mp b):=rfl
@[go_sem]theorem ack(b:Nat):cellsOf (.mp b)=[(.mp b)]:=rfl
@[go_sem]theorem aed(b:Nat):bg (.mp b)=[(.mp b)]:=rfl
@[go_sem]theorem ahn(E:St)(i:Nat)(b:Nat):bU E (.mp b) (some i)=E:=rfl
@[go_sem]theorem aad(f:IX->AV)(E:St)(x:IX):pv (.ib true x) f E=.no:=rfl
@[go_sem]theorem adR(f:IX->AV)(E:St)(z:List AV):pv (.an z) f E=.no:=rfl
@[go_sem]theorem adS(f:IX->AV)(E:St)(z:List AV):pv (.gR z) f E=.no:=rfl
@[go_sem]theorem ahQ(f:IX->AV)(E:St)(n:Nat)(x:IX):pv (.b8 n x) f E=.no:=rfl
@[go_sem]theorem ahS(f:IX->AV)(E:St)(n:Nat)(x:IX):pv (.oU n x) f E=.no:=rfl
@[go_sem]theorem abM(f:IX->AV)(E:St)(a b:Nat)(z:List AV)(p:List (Nat×Nat×IX)):pv (.aN a b z p) f E=.no:=rfl
@[go_sem]theorem aft(f:IX->AV)(E:St)(n:Nat)(p v:IX):pv (.store n p v) f E=.no:=rfl
@[go_sem]theorem SG(f:IX->AV)(E:St)(a b:Nat)(x y:IX):pv (.append a b x y) f E=.no:=rfl
@[go_sem]theorem adJ(f:IX->AV)(E:St)(x:IX):pv (.fF x) f E=tf (f x):=rfl
attribute[go_sem] tf.eq_1 Yl.eq_1 V9.eq_1
@[go_sem]theorem aac(f:IX->AV)(E:St)(x:IX):pv (.gS x) f E=.no:=rfl
@[go_sem]theorem adU(f:IX->AV)(E:St)(a b:Nat)(z:List AV)(x y:IX):pv (.kN a b z x y) f E=.no:=rfl
@[go_sem]theorem abP(f:IX->AV)(E:St):pv (.makeMap) f E=.no:=rfl
@[go_sem]theorem ahU(f:IX->AV)(E:St)(n:Nat)(l:List IX):pv (.call n l) f E=.no:=rfl
@[go_sem]theorem afo(f:IX->AV)(E:St)(x:IX)(l:List IX):pv (.cG x l) f E=.no:=rfl
@[go_sem]theorem ac0(b:Bool):inner (.bool b)=true:=rfl
@[go_sem]theorem aeJ(k:IntKind)(n:Int):inner (.int k n)=true:=rfl
@[go_sem]theorem aeL(s:List UInt8):inner (.str s)=true:=rfl
@[go_sem]theorem ac1:inner (.dV)=true:=rfl
@[go_sem]theorem aeK(b o:Nat):inner (.ref b o)=true:=rfl
@[go_sem]theorem ag0(b o:Nat):inner (.lp b o)=true:=rfl
@[go_sem]theorem ag3(cs:List AV):inner (.sp cs)=true:=rfl
@[go_sem]theorem ag2(o:Bool)(z n:Nat)(cs:List AV):inner (.sl o z n cs)=true:=rfl
@[go_sem]theorem aeI(b o l c:Nat):inner (.arr b o l c)=true:=rfl
@[go_sem]theorem aeH(cs:List AV):inner (.agg cs)=true:=rfl
@[go_sem]theorem agZ(f:Nat)(x y:List AV):inner (.fn f x y)=true:=rfl
@[go_sem]theorem ag1(b:Nat):inner (.mp b)=true:=rfl
@[go_sem]theorem YS(g:Bool)(a:AV):Ak g (.when g a)=bif inner a then a else .undef:=by simp[Ak]
@[go_sem]theorem agw(x:Bool):gv2 (.bool x)=some (true,x):=rfl
@[go_sem]theorem agx(b x:Bool):gv2 (.when b (.bool x))=some (b,x):=rfl
@[go_sem]theorem ai1:gv2 (.gK [])=some (false,false):=rfl
@[go_sem]theorem akN(g b:Bool):(g=true->b=true->(g&&b)=true)=True:=by cases g<;>cases b<;>simp
@[go_sem]theorem akO(g b:Bool):(g=true->b=false->(g&&!b)=true)=True:=by cases g<;>cases b<;>simp
@[go_sem]theorem akP(b:Bool):(b=false->(!b)=true)=True:=by cases b<;>simp
@[go_sem]theorem agf(b x:Bool):(bif b then x else false)=(b&&x):=by cases b<;>rfl
@[go_sem]theorem aiW(b x:Bool):(bif b then true else x)=(b||x):=by cases b<;>rfl
@[go_sem]theorem alk(b:Bool):(b==true)=b:=by cases b<;>rfl
@[go_sem]theorem alj(b:Bool):(b==false)=!b:=by cases b<;>rfl
@[go_sem]theorem ahe(k:IntKind):UM k k=true:=by simp[UM]
@[go_sem]theorem akK(a b:Nat)(cs:List AV):dF (.us a b cs)=false:=rfl
@[go_sem]theorem ai2(a b:Nat)(cs:List AV):Xa (.us a b cs)=true:=rfl
@[go_sem]theorem ain:j7 []=true:=rfl
@[go_sem]theorem aio(a b:AV)(l:List AV):j7 (a::b::l)=true:=rfl
@[go_sem]theorem aij:fD []=.gK []:=rfl
@[go_sem]theorem aik(a b:AV)(l:List AV):fD (a::b::l)=.gK (a::b::l):=rfl
@[go_sem]theorem afT:views []=[]:=rfl
@[go_sem]theorem aeq(a:AV)(l:List AV):views (a::l)=view a::views l:=rfl
@[go_sem]theorem x_t(E:St)(i:Nat):E.x (.t i)=look E.e i:=rfl
@[go_sem]theorem x_c(E:St)(a:AV):E.x (.c a)=a:=rfl
@[go_sem]theorem ahO(E:St)(i:Nat)(a:AV):E.put (some i) a={E with e:=(i,a)::E.e}:=rfl
@[go_sem]theorem ahN(E:St)(a:AV):E.put none a=E:=rfl
@[go_sem]theorem look_nil(i:Nat):look [] i=.undef:=rfl
@[go_sem]theorem adi(j i:Nat)(a:AV)(l:List (Nat×AV)):look ((j,a)::l) i=bif j==i then a else look l i:=rfl
section
variable(P:Program)(K:St->Prop)(E:St)
@[go_sem]theorem aie(l:List ai):YO P 0 l E K=swp P l E K:=rfl
@[go_sem]theorem aid(q:Nat)(o:ai)(r:List ai):YO P (q+1) (o::r) E K=(aZ E o.dst=true/\q1 P o E (aib P q r K)):=rfl
@[go_sem]theorem akY(d:Option Nat)(x:IX):q1 P ⟨d,.ib false x,none⟩ E K=qK E d K (qv ⟨d,.ib false x,none⟩ E):=rfl
@[go_sem]theorem ak2(d:Option Nat)(x:IX):q2 P ⟨d,.ib false x,none⟩ E K=(aZ E d=true/\qK E d K (qv ⟨d,.ib false x,none⟩ E)):=by cases d<;>rfl
@[go_sem]theorem aju(d:Option Nat)(t:Nat)(want:Bool)(x:IX):q1 P ⟨d,.ib false x,(some (t,want))⟩ E K=qK E d K (qv ⟨d,.ib false x,(some (t,want))⟩ E):=rfl
@[go_sem]theorem ajv(d:Option Nat)(c x y:IX):q1 P ⟨d,.pick c x y,none⟩ E K=qK E d K (qv ⟨d,.pick c x y,none⟩ E):=rfl
@[go_sem]theorem ajA(d:Option Nat)(c x y:IX):q2 P ⟨d,.pick c x y,none⟩ E K=(aZ E d=true/\qK E d K (qv ⟨d,.pick c x y,none⟩ E)):=by cases d<;>rfl
@[go_sem]theorem ahV(d:Option Nat)(z:List AV)(ps:List (Nat×Nat×IX)):q1 P ⟨d,.build z ps,none⟩ E K=qK E d K (qv ⟨d,.build z ps,none⟩ E):=rfl
@[go_sem]theorem ah1(d:Option Nat)(z:List AV)(ps:List (Nat×Nat×IX)):q2 P ⟨d,.build z ps,none⟩ E K=(aZ E d=true/\qK E d K (qv ⟨d,.build z ps,none⟩ E)):=by cases d<;>rfl
@[go_sem]theorem ajt(d:Option Nat)(n:Nat)(m:Bool)(x:IX):q1 P ⟨d,.load n m x,none⟩ E K=qK E d K (qv ⟨d,.load n m x,none⟩ E):=rfl
@[go_sem]theorem ajy(d:Option Nat)(n:Nat)(m:Bool)(x:IX):q2 P ⟨d,.load n m x,none⟩ E K=(aZ E d=true/\qK E d K (qv ⟨d,.load n m x,none⟩ E)):=by cases d<;>rfl
@[go_sem]theorem ahX(d:Option Nat)(t:Nat)(want:Bool)(n:Nat)(m:Bool)(x:IX):q1 P ⟨d,.load n m x,(some (t,want))⟩ E K=qK E d K (qv ⟨d,.load n m x,(some (t,want))⟩ E):=rfl
@[go_sem]theorem ah3(d:Option Nat)(t:Nat)(want:Bool)(n:Nat)(m:Bool)(x:IX):q2 P ⟨d,.load n m x,(some (t,want))⟩ E K=(aZ E d=true/\qK E d K (qv ⟨d,.load n m x,(some (t,want))⟩ E)):=by cases d<;>rfl
@[go_sem]theorem abQ(d:Option Nat)(x:IX):q1 P ⟨d,.nilCheck x,none⟩ E K=qK E d K (qv ⟨d,.nilCheck x,none⟩ E):=rfl
@[go_sem]theorem abR(d:Option Nat)(x:IX):q2 P ⟨d,.nilCheck x,none⟩ E K=(aZ E d=true/\qK E d K (qv ⟨d,.nilCheck x,none⟩ E)):=by cases d<;>rfl
@[go_sem]theorem aag(d:Option Nat)(t:Nat)(want:Bool)(x:IX):q1 P ⟨d,.nilCheck x,(some (t,want))⟩ E K=qK E d K (qv ⟨d,.nilCheck x,(some (t,want))⟩ E):=rfl
@[go_sem]theorem akU(d:Option Nat)(b:BinOp)(x y:IX):q1 P ⟨d,.bin b x y,none⟩ E K=qK E d K (qv ⟨d,.bin b x y,none⟩ E):=rfl
@[go_sem]theorem ak0(d:Option Nat)(b:BinOp)(x y:IX):q2 P ⟨d,.bin b x y,none⟩ E K=(aZ E d=true/\qK E d K (qv ⟨d,.bin b x y,none⟩ E)):=by cases d<;>rfl
@[go_sem]theorem ajq(d:Option Nat)(t:Nat)(want:Bool)(b:BinOp)(x y:IX):q1 P ⟨d,.bin b x y,(some (t,want))⟩ E K=qK E d K (qv ⟨d,.bin b x y,(some (t,want))⟩ E):=rfl
@[go_sem]theorem ajw(d:Option Nat)(t:Nat)(want:Bool)(b:BinOp)(x y:IX):q2 P ⟨d,.bin b x y,(some (t,want))⟩ E K=(aZ E d=true/\qK E d K (qv ⟨d,.bin b x y,(some (t,want))⟩ E)):=by cases d<;>rfl
@[go_sem]theorem akV(d:Option Nat)(n:Bool)(x y:IX):q1 P ⟨d,.VA n x y,none⟩ E K=qK E d K (qv ⟨d,.VA n x y,none⟩ E):=rfl
@[go_sem]theorem akW(d:Option Nat)(n:Bool)(x y:IX):q1 P ⟨d,.Pq n x y,none⟩ E K=qK E d K (qv ⟨d,.Pq n x y,none⟩ E):=rfl
@[go_sem]theorem alJ(d:Option Nat)(u:UnOp)(x:IX):q1 P ⟨d,.un u x,none⟩ E K=qK E d K (qv ⟨d,.un u x,none⟩ E):=rfl
@[go_sem]theorem akZ(d:Option Nat)(t:Nat)(want:Bool)(u:UnOp)(x:IX):q1 P ⟨d,.un u x,(some (t,want))⟩ E K=qK E d K (qv ⟨d,.un u x,(some (t,want))⟩ E):=rfl
@[go_sem]theorem afB(d:Option Nat)(x i:IX):q1 P ⟨d,.jh x i,none⟩ E K=qK E d K (qv ⟨d,.jh x i,none⟩ E):=rfl
@[go_sem]theorem adZ(d:Option Nat)(t:Nat)(want:Bool)(x i:IX):q1 P ⟨d,.jh x i,(some (t,want))⟩ E K=qK E d K (qv ⟨d,.jh x i,(some (t,want))⟩ E):=rfl
@[go_sem]theorem aae(d:Option Nat)(f:Nat)(x:IX):q1 P ⟨d,.fieldAddr f x,none⟩ E K=qK E d K (qv ⟨d,.fieldAddr f x,none⟩ E):=rfl
@[go_sem]theorem aah(d:Option Nat)(f:Nat)(x:IX):q2 P ⟨d,.fieldAddr f x,none⟩ E K=(aZ E d=true/\qK E d K (qv ⟨d,.fieldAddr f x,none⟩ E)):=by cases d<;>rfl
@[go_sem]theorem YL(d:Option Nat)(t:Nat)(want:Bool)(f:Nat)(x:IX):q1 P ⟨d,.fieldAddr f x,(some (t,want))⟩ E K=qK E d K (qv ⟨d,.fieldAddr f x,(some (t,want))⟩ E):=rfl
@[go_sem]theorem YN(d:Option Nat)(t:Nat)(want:Bool)(f:Nat)(x:IX):q2 P ⟨d,.fieldAddr f x,(some (t,want))⟩ E K=(aZ E d=true/\qK E d K (qv ⟨d,.fieldAddr f x,(some (t,want))⟩ E)):=by cases d<;>rfl
@[go_sem]theorem aaf(d:Option Nat)(z:List AV)(x i:IX):q1 P ⟨d,.indexAddr z x i,none⟩ E K=qK E d K (qv ⟨d,.indexAddr z x i,none⟩ E):=rfl
@[go_sem]theorem aai(d:Option Nat)(z:List AV)(x i:IX):q2 P ⟨d,.indexAddr z x i,none⟩ E K=(aZ E d=true/\qK E d K (qv ⟨d,.indexAddr z x i,none⟩ E)):=by cases d<;>rfl
@[go_sem]theorem YM(d:Option Nat)(t:Nat)(want:Bool)(z:List AV)(x i:IX):q1 P ⟨d,.indexAddr z x i,(some (t,want))⟩ E K=qK E d K (qv ⟨d,.indexAddr z x i,(some (t,want))⟩ E):=rfl
@[go_sem]theorem ah0(d:Option Nat)(z:Nat)(x:IX)(lo hi mx:Option IX):q1 P ⟨d,.slice z x lo hi mx,none⟩ E K=qK E d K (qv ⟨d,.slice z x lo hi mx,none⟩ E):=rfl
@[go_sem]theorem afC(d:Option Nat)(t:Nat)(want:Bool)(z:Nat)(x:IX)(lo hi mx:Option IX):q1 P ⟨d,.slice z x lo hi mx,(some (t,want))⟩ E K=qK E d K (qv ⟨d,.slice z x lo hi mx,(some (t,want))⟩ E):=rfl
@[go_sem]theorem adY(d:Option Nat)(x:IX)(k:Nat):q1 P ⟨d,.extract x k,none⟩ E K=qK E d K (qv ⟨d,.extract x k,none⟩ E):=rfl
@[go_sem]theorem ad1(d:Option Nat)(x:IX)(k:Nat):q2 P ⟨d,.extract x k,none⟩ E K=(aZ E d=true/\qK E d K (qv ⟨d,.extract x k,none⟩ E)):=by cases d<;>rfl
@[go_sem]theorem akX(d:Option Nat)(c:Nat)(x:IX):q1 P ⟨d,.len c x,none⟩ E K=qK E d K (qv ⟨d,.len c x,none⟩ E):=rfl
@[go_sem]theorem ak1(d:Option Nat)(c:Nat)(x:IX):q2 P ⟨d,.len c x,none⟩ E K=(aZ E d=true/\qK E d K (qv ⟨d,.len c x,none⟩ E)):=by cases d<;>rfl
@[go_sem]theorem ajs(d:Option Nat)(t:Nat)(want:Bool)(c:Nat)(x:IX):q1 P ⟨d,.len c x,(some (t,want))⟩ E K=qK E d K (qv ⟨d,.len c x,(some (t,want))⟩ E):=rfl
@[go_sem]theorem afz(d:Option Nat)(m:Bool)(xs:List IX):q1 P ⟨d,.gb m xs,none⟩ E K=qK E d K (qv ⟨d,.gb m xs,none⟩ E):=rfl
@[go_sem]theorem ajz(d:Option Nat)(x:IX):q2 P ⟨d,.ib true x,none⟩ E K=(aZ E d=true/\Xq E x d K (E.x x)):=by cases d<;>rfl
@[go_sem]theorem ajr(d:Option Nat)(f:Nat)(args:List IX):q1 P ⟨d,.call f args,none⟩ E K=TP P f E d K (b7 (xg true E) args):=rfl
@[go_sem]theorem ajx(d:Option Nat)(f:Nat)(args:List IX):q2 P ⟨d,.call f args,none⟩ E K=(aZ E d=true/\TP P f E d K (b7 (xg true E) args)):=by cases d<;>rfl
@[go_sem]theorem ahW(d:Option Nat)(f:Nat)(args:List IX)(t:Nat)(want:Bool):q1 P ⟨d,.call f args,some (t,want)⟩ E K=HW P f args want E d K (look E.e t):=rfl
@[go_sem]theorem afv(d:Option Nat)(x:IX):q1 P ⟨d,.fF x,none⟩ E K=qK E d K (qv ⟨d,.fF x,none⟩ E):=rfl
@[go_sem]theorem adX(d:Option Nat)(t:Nat)(want:Bool)(x:IX):q1 P ⟨d,.fF x,(some (t,want))⟩ E K=qK E d K (qv ⟨d,.fF x,(some (t,want))⟩ E):=rfl
@[go_sem]theorem adW(d:Option Nat)(sz n:Nat)(z:List AV)(ps:List (Nat×Nat×IX))(g:Option (Nat×Bool)):q1 P ⟨d,.aN sz n z ps,g⟩ E K=qK E d K (Ed ⟨d,.aN sz n z ps,g⟩ E):=rfl
@[go_sem]theorem ad0(d:Option Nat)(sz n:Nat)(z:List AV)(ps:List (Nat×Nat×IX))(g:Option (Nat×Bool)):q2 P ⟨d,.aN sz n z ps,g⟩ E K=(aZ E d=true/\qK E d K (Ed ⟨d,.aN sz n z ps,g⟩ E)):=by cases d<;>rfl
@[go_sem]theorem afy(d:Option Nat)(kk:lI)(z:AV)(ok:Bool)(x k:IX)(g:Option (Nat×Bool)):q1 P ⟨d,.lookup kk z ok x k,g⟩ E K=qK E d K (Ed ⟨d,.lookup kk z ok x k,g⟩ E):=rfl
@[go_sem]theorem ahZ(d:Option Nat)(z:List AV)(m:Bool)(x:IX):q1 P ⟨d,.bw z m x,none⟩ E K=qK E d K (qv ⟨d,.bw z m x,none⟩ E):=rfl
@[go_sem]theorem ah4(d:Option Nat)(z:List AV)(m:Bool)(x:IX):q2 P ⟨d,.bw z m x,none⟩ E K=(aZ E d=true/\qK E d K (qv ⟨d,.bw z m x,none⟩ E)):=by cases d<;>rfl
@[go_sem]theorem afx(d:Option Nat)(t:Nat)(want:Bool)(z:List AV)(m:Bool)(x:IX):q1 P ⟨d,.bw z m x,(some (t,want))⟩ E K=qK E d K (qv ⟨d,.bw z m x,(some (t,want))⟩ E):=rfl
@[go_sem]theorem ahY(d:Option Nat)(k:IntKind)(x:IX):q1 P ⟨d,.mM k x,none⟩ E K=qK E d K (qv ⟨d,.mM k x,none⟩ E):=rfl
@[go_sem]theorem afw(d:Option Nat)(t:Nat)(want:Bool)(k:IntKind)(x:IX):q1 P ⟨d,.mM k x,(some (t,want))⟩ E K=qK E d K (qv ⟨d,.mM k x,(some (t,want))⟩ E):=rfl
@[go_sem]theorem afl(f:IX->AV)(E:St)(k:IntKind)(x:IX):pv (.mM k x) f E=CR k E.s (f x):=rfl
@[go_sem]theorem adg(k:IntKind)(s:ab)(b off:Nat):CR k s (.ref b off)=.prt (Hz k off (s b)) (.int k (HA off (s b))):=rfl
@[go_sem]theorem afm(f:IX->AV)(E:St)(z:List AV)(m:Bool)(x:IX):pv (.bw z m x) f E=Lv z m E.s (f x):=rfl
@[go_sem]theorem abO(f:IX->AV)(E:St)(kk:lI)(z:AV)(ok:Bool)(x k:IX):pv (.lookup kk z ok x k) f E=.no:=rfl
@[go_sem]theorem abN(f:IX->AV)(E:St)(x:IX):pv (.kz x) f E=.no:=rfl
@[go_sem]theorem XU(f:IX->AV)(E:St)(kk:lI)(x k v:IX):pv (.mapUpdate kk x k v) f E=.no:=rfl
@[go_sem]theorem ac5(d:Option Nat)(kk:lI)(z:AV)(ok:Bool)(x k:IX):jB P (.lookup kk z ok x k) d E K=SC E d K (jr kk z ok E.s (xg true E k) (xg true E x)):=rfl
@[go_sem]theorem ac4(d:Option Nat)(x:IX):jB P (.kz x) d E K=SC E d K (E2 (xg true E x)):=rfl
@[go_sem]theorem YJ(d:Option Nat)(kk:lI)(x k v:IX):jB P (.mapUpdate kk x k v) d E K=xz kk E (xg true E k) (xg true E v) d K (xg true E x):=rfl
@[go_sem]theorem afA(d:Option Nat)(x:IX)(g:Option (Nat×Bool)):q1 P ⟨d,.sH x,g⟩ E K=qK E d K (Ed ⟨d,.sH x,g⟩ E):=rfl
@[go_sem]theorem afF(d:Option Nat)(x:IX)(g:Option (Nat×Bool)):q2 P ⟨d,.sH x,g⟩ E K=(aZ E d=true/\qK E d K (Ed ⟨d,.sH x,g⟩ E)):=by cases d<;>rfl
@[go_sem]theorem afs(f:IX->AV)(E:St)(x:IX):pv (.sH x) f E=.no:=rfl
@[go_sem]theorem ag9(d:Option Nat)(x:IX):jB P (.sH x) d E K=SC E d K (Dq (xg true E x)):=rfl
@[go_sem]theorem ajB(f:IX->AV)(s:ab)(x:IX):qe f s (.sH x)=Dq (f x):=rfl
@[go_sem]theorem ah7(d:Option Nat)(o:uC):Ed ⟨d,o,none⟩ E=qe (xg true E) E.s o:=rfl
@[go_sem]theorem ah9(d:Option Nat)(o:uC)(t:Nat)(want:Bool):Ed ⟨d,o,some (t,want)⟩ E=Rk o want E (look E.e t):=rfl
@[go_sem]theorem ah6(o:uC)(want b:Bool):Rk o want E (.bool b)=Re (b==want) (qe (xg (b==want) E) E.s o):=rfl
@[go_sem]theorem aia(f:IX->AV)(s:ab)(sz n:Nat)(z:List AV)(ps:List (Nat×Nat×IX)):qe f s (.aN sz n z ps)=ID sz n (fill f z ps):=rfl
@[go_sem]theorem afH(f:IX->AV)(s:ab)(kk:lI)(z:AV)(ok:Bool)(x k:IX):qe f s (.lookup kk z ok x k)=jr kk z ok s (f k) (f x):=rfl
@[go_sem]theorem ajG(n:Nat)(x:Int)(cs:List AV):E2 (.sl true 1 (n+1) (.int .u8 x::cs))=.dI (.sl false 1 (n+1) (.int .u8 x::cs)):=rfl
attribute[go_sem] Dq.eq_1 Lv.eq_1 Qf.eq_1 jr.eq_1 jr.eq_2 SC.eq_1 SC.eq_2 SC.eq_3
attribute[go_sem] xm.eq_1 ID.eq_1
@[go_sem]theorem ajC(d:Option Nat)(o:uC):qv ⟨d,o,none⟩ E=pv o (xg true E) E:=rfl
@[go_sem]theorem ajD(d:Option Nat)(o:uC)(t:Nat)(want:Bool):qv ⟨d,o,some (t,want)⟩ E=Qy o want E (look E.e t):=rfl
@[go_sem]theorem ajl(f:IX->AV)(E:St)(x:IX):pv (.cap x) f E=Rx (f x):=rfl
@[go_sem]theorem adQ(f:IX->AV)(E:St)(z:Nat)(x:IX)(lo hi:Option IX)(m:IX):pv (.slice z x lo hi (some m)) f E=qW z f lo hi m (f x):=rfl
@[go_sem]theorem aab(f:IX->AV)(E:St)(a b:Nat)(z:List AV)(p:List (Nat×Nat×IX)):pv (.j9 a b z p) f E=.no:=rfl
@[go_sem]theorem abK(f:IX->AV)(E:St)(a b:Nat)(z:List AV)(x y:IX):pv (.fk a b z x y) f E=.no:=rfl
@[go_sem]theorem abL(f:IX->AV)(E:St)(a b:Nat)(z:List AV)(x y:IX):pv (.lR a b z x y) f E=.no:=rfl
@[go_sem]theorem abo(d:Option Nat)(sz by':Nat)(z:List AV)(x y:IX):jB P (.lR sz by' z x y) d E K=uS sz by' z E d K (E.x x) (xg true E y):=rfl
@[go_sem]theorem afp(f:IX->AV)(E:St)(a:Nat)(x y:IX):pv (.ik a x y) f E=.no:=rfl
@[go_sem]theorem adT(f:IX->AV)(E:St)(z:List AV)(x:IX):pv (.mS z x) f E=.no:=rfl
@[go_sem]theorem ajo(f:IX->AV)(E:St)(a:Nat)(o:Bool)(x:IX):pv (.UB a o x) f E=.no:=rfl
@[go_sem]theorem Vb(f:IX->AV)(E:St)(off:Nat)(j x:IX):pv (.mL off j x) f E=.no:=rfl
@[go_sem]theorem aeM(i off i' o:Nat):zE (.t i) off (.lp i' o)=(i'==i&&o==off):=rfl
@[go_sem]theorem afq(f:IX->AV)(E:St)(x:IX):pv (.jq x) f E=.no:=rfl
@[go_sem]theorem ajn(f:IX->AV)(E:St)(o:Bool)(x:IX):pv (.YI o x) f E=.no:=rfl
@[go_sem]theorem ajp(f:IX->AV)(E:St)(g:Nat)(x y:IX):pv (.VD g x y) f E=.no:=rfl
@[go_sem]theorem Zz(d:Option Nat)(sz n:Nat)(z:List AV)(p:List (Nat×Nat×IX)):jB P (.j9 sz n z p) d E K=xl sz n E d K (fill (xg true E) z p):=rfl
@[go_sem]theorem abn(d:Option Nat)(sz by':Nat)(z:List AV)(x y:IX):jB P (.fk sz by' z x y) d E K=eY sz by' z E d K (E.x x) (uL E.s sz (E.x y)):=rfl
@[go_sem]theorem aeP(d:Option Nat)(sz:Nat)(x y:IX):jB P (.ik sz x y) d E K=zo sz E d K (E.x x) (uL E.s sz (E.x y)):=rfl
@[go_sem]theorem ac3(d:Option Nat)(z:List AV)(x:IX):jB P (.mS z x) d E K=xn z E d K (E.x x):=rfl
@[go_sem]theorem ai9(d:Option Nat)(sz:Nat)(o:Bool)(x:IX):jB P (.UB sz o x) d E K=Et sz o E d K (E.x x):=rfl
@[go_sem]theorem aeQ(d:Option Nat)(x:IX):jB P (.jq x) d E K=oz E d K (E.x x):=rfl
@[go_sem]theorem ai8(d:Option Nat)(o:Bool)(x:IX):jB P (.YI o x) d E K=Uy o E d K (E.x x):=rfl
@[go_sem]theorem aja(d:Option Nat)(f:Nat)(x y:IX):jB P (.VD f x y) d E K=XC P f E d K (E.x x) (E.x y):=rfl
@[go_sem]theorem afu(d:Option Nat)(x:IX)(args:List IX)(t:Nat)(want:Bool):q1 P ⟨d,.cG x args,some (t,want)⟩ E K=Fy P x args want E d K (look E.e t):=rfl
@[go_sem]theorem aak(x:IX)(args:List IX)(want b:Bool)(d:Option Nat):Fy P x args want E d K (.bool b)=(∃rs,j7 rs=true/\((b==want)=true->∃f as,callee x args (b==want) E f as/\pR P f=true/\FE P f as E.s rs E.s)/\K (E.put d (.when (b==want) (fD rs)))):=rfl
@[go_sem]theorem ahT(f:IX->AV)(E:St)(n t j u:Nat)(x:IX):pv (.Mc n t j u x) f E=.no:=rfl
@[go_sem]theorem ag8(d:Option Nat)(n t j u:Nat)(x:IX):jB P (.Mc n t j u x) d E K=VX n t j u E d K (E.x x):=rfl
@[go_sem]theorem afr(f:IX->AV)(E:St)(z:Nat)(o:Bool)(x:IX):pv (.yU z o x) f E=.no:=rfl
@[go_sem]theorem aeR(d:Option Nat)(z:Nat)(o:Bool)(x:IX):jB P (.yU z o x) d E K=Nb z o E d K (rd E (xg true E x) 1):=rfl
attribute[go_sem] Nb.eq_1 VX
@[go_sem]theorem ajm(f:IX->AV)(E:St)(ne:Bool)(x:IX):pv (.Zf ne x) f E=Po ne (f x):=rfl
@[go_sem]theorem adV(f:IX->AV)(E:St)(z n:Nat)(p v:IX):pv (.qw z n p v) f E=.no:=rfl
@[go_sem]theorem ahR(f:IX->AV)(E:St)(z n:Nat)(x:IX):pv (.FV z n x) f E=.no:=rfl
@[go_sem]theorem ac6(d:Option Nat)(z n:Nat)(p v:IX):jB P (.qw z n p v) d E K=N4 z n E p v d K (E.x v):=rfl
@[go_sem]theorem ag7(d:Option Nat)(z n:Nat)(x:IX):jB P (.FV z n x) d E K=VW z n E d K (E.x x):=rfl
@[go_sem]theorem aaz(z:Nat)(cs:List AV):cL z (.agg cs)=(views cs).map (wD z):=rfl
@[go_sem]theorem ahv(z b:Nat):wD z (.arr b 0 0 0)=.sl true z 0 []:=rfl
@[go_sem]theorem ahw(z:Nat)(k:IntKind)(n:Int):wD z (.int k n)=.int k n:=rfl
@[go_sem]theorem afa(z:Nat)(b:Bool):wD z (.bool b)=.bool b:=rfl
@[go_sem]theorem ahx(z:Nat)(b:List UInt8):wD z (.str b)=.str b:=rfl
@[go_sem]theorem ajh(z:Nat)(o:Bool)(s n:Nat)(cs:List AV):wD z (.sl o s n cs)=.sl o s n cs:=rfl
@[go_sem]theorem ajg(z b:Nat):wD z (.mp b)=.mp b:=rfl
attribute[go_sem] N4 VW
@[go_sem]theorem afn(f:IX->AV)(E:St)(g i:Nat)(xs:List IX):pv (.uX g i xs) f E=.no:=rfl
@[go_sem]theorem aeO(d:Option Nat)(f i:Nat)(xs:List IX):jB P (.uX f i xs) d E K=Yq i E (fun U=>uY P f U d K (b7 (xg true U) xs)) (look E.e i):=rfl
attribute[go_sem] Fj.eq_1 Fj.eq_2 RQ.eq_1
attribute[go_sem] Po.eq_1 Po.eq_2
attribute[go_sem] Rx.eq_1 qW.eq_1 Dl.eq_1 xl.eq_1 Uy.eq_1 Uy.eq_2
@[go_sem]theorem afK(T:List Nat)(l:List ai):HY P T 0 l E K=swp P l E K:=rfl
@[go_sem]theorem afJ(T:List Nat)(q:Nat)(o:ai)(r:List ai):HY P T (q+1) (o::r) E K=q2 P o E (abS P T q r K):=rfl
@[go_sem]theorem afI(T:List Nat)(q:Nat)(r:List ai)(U:St):abS P T q r K U=(gY T U.e=true/\HY P T q r U K):=rfl
@[go_sem]theorem aiV(T:List Nat):KU P T [] E K=K E:=rfl
@[go_sem]theorem alp(T:List Nat)(i:Nat)(o:ai)(r:List (Nat×Nat×ai)):KU P T ((0,i,o)::r) E K=q2 P o E (VY P T r K):=rfl
@[go_sem]theorem alq(T:List Nat)(i:Nat)(o:ai)(r:List (Nat×Nat×ai)):KU P T ((1,i,o)::r) E K=(od o E=true/\q2 P o E (VY P T r K)):=rfl
@[go_sem]theorem alr(T:List Nat)(i:Nat)(o:ai)(r:List (Nat×Nat×ai)):KU P T ((2,i,o)::r) E K=YG P o E (VY P T r K):=rfl
@[go_sem]theorem als(T:List Nat)(i:Nat)(o:ai)(r:List (Nat×Nat×ai)):KU P T ((3,i,o)::r) E K=Ri P o E (VY P T r K):=rfl
@[go_sem]theorem aga(T:List Nat)(r:List (Nat×Nat×ai))(U:St):VY P T r K U=(gY T U.e=true/\KU P T r U K):=rfl
@[go_sem]theorem af4(d:Option Nat)(f:Nat)(args:List IX):YG P ⟨d,.call f args,none⟩ E K=(aZ E d=true/\uY P f E d K (b7 (xg true E) args)):=by
  show(aZ E d=true/\Cj P f E.s (VQ E d K) (b7 (xg true E) args))=_
  cases b7 (xg true E) args<;>rfl
@[go_sem]theorem aev(d:Option Nat)(n:Nat)(p v:IX):YG P ⟨d,.store n p v,none⟩ E K=(aZ E d=true/\qB n E.s (VQ E d K) (E.x v) (E.x p)):=rfl
@[go_sem]theorem aeu(d:Option Nat)(x:IX):YG P ⟨d,.jq x,none⟩ E K=(aZ E d=true/\uV E.s (VQ E d K) (E.x x)):=rfl
@[go_sem]theorem aiU(d:Option Nat)(a:AV)(s':ab):VQ E d K a s'=K ({E with s:=s'}.put d a):=rfl
@[go_sem]theorem aa5(n:Nat)(s:ab)(C:AV->ab->Prop)(v:AV)(b off:Nat):qB n s C v (.ref b off)=(dF v=true/\Qo v=true/\(bg v).length=n/\O1 b off (bg v) s C (s b)):=rfl
@[go_sem]theorem aa4(b off:Nat)(news:List AV)(s:ab)(C:AV->ab->Prop)(eR:List AV):O1 b off news s C (some (.cells eR))=(off+news.length<=eR.length/\C (.gK []) (s.set b (.cells (setAt eR off news)))):=rfl
attribute[go_sem] od
@[go_sem]theorem afc(k:IntKind)(n:Int):Qo (.int k n)=true:=rfl
@[go_sem]theorem afe(cs:List AV):nV (.loc cs)=true:=rfl
@[go_sem]theorem afd(z n:Nat)(cs:List AV):Qo (.sl false z n cs)=true:=rfl
@[go_sem]theorem afb(T:List Nat):gY T []=true:=rfl
@[go_sem]theorem adu(T:List Nat)(p:Nat×AV)(e:List (Nat×AV)):gY T (p::e)=(tC T p.2&&gY T e):=rfl
@[go_sem]theorem adn(a:AV):tC [] a=true:=rfl
@[go_sem]theorem abv(c:Nat)(T:List Nat)(a:AV):tC (c::T) a=(mN c a&&tC T a):=rfl
@[go_sem]theorem ahj(c t o:Nat):mN c (.lp t o)=!Nat.beq t c:=rfl
@[go_sem]theorem adm(c:Nat)(b:Bool)(a:AV):mN c (.when b a)=mN c a:=rfl
@[go_sem]theorem afG(n c:Nat)(x:IX)(eR:List AV):XV n E c x K (.loc eR)=(eR.length=n/\dF (E.x x)=true/\(bg (E.x x)).length=n/\K ((E.drain x).put (some c) (.loc (bg (E.x x))))):=rfl
@[go_sem]theorem ah5(n c:Nat)(x:IX):q2 P ⟨none,.store n (.t c) x,none⟩ E K=XV n E c x K (look E.e c):=rfl
@[go_sem]theorem afD(d:Nat)(z:List AV):q2 P ⟨some d,.an z,none⟩ E K=(bq (look E.e d)=true/\mf E.lp (some d)=true/\K (E.put (some d) (.loc z))):=rfl
@[go_sem]theorem ah2(d off i:Nat)(x:IX):q2 P ⟨some d,.mL off (.t i) x,none⟩ E K=(bq (look E.e d)=true/\zE (.t i) off (E.x x)=true/\oz E (some d) K (E.x x)):=rfl
@[go_sem]theorem afE(d sz bytes:Nat)(x y:IX):q2 P ⟨some d,.append sz bytes x y,none⟩ E K=(bq (look E.e d)=true/\lQ sz bytes E x (some d) K (E.x x) (E.x y)):=rfl
@[go_sem]theorem adk(c':Nat)(b:Bool):mN c' (.bool b)=true:=rfl
@[go_sem]theorem aeX(c':Nat)(k:IntKind)(n:Int):mN c' (.int k n)=true:=rfl
@[go_sem]theorem ae0(c':Nat)(s:List UInt8):mN c' (.str s)=true:=rfl
@[go_sem]theorem adl(c':Nat):mN c' (.dV)=true:=rfl
@[go_sem]theorem aeZ(c':Nat)(b o:Nat):mN c' (.ref b o)=true:=rfl
@[go_sem]theorem ahl(c':Nat)(cs:List AV):mN c' (.sp cs)=true:=rfl
@[go_sem]theorem aeY(c':Nat)(cs:List AV):mN c' (.loc cs)=true:=rfl
@[go_sem]theorem ahk(c':Nat)(o:Bool)(s n:Nat)(cs:List AV):mN c' (.sl o s n cs)=true:=rfl
@[go_sem]theorem aeW(c':Nat)(cs:List AV):mN c' (.agg cs)=true:=rfl
@[go_sem]theorem ae1(c':Nat)(cs:List AV):mN c' (.gK cs)=true:=rfl
@[go_sem]theorem YP:aZ E none=true:=rfl
@[go_sem]theorem YQ(d:Nat):aZ E (some d)=bq (look E.e d):=rfl
@[go_sem]theorem abB(b:Bool)(a:AV):bq (.when b a)=true:=rfl
@[go_sem]theorem aff(b o:Nat):bq (.lp b o)=true:=rfl
@[go_sem]theorem ZO:bq (.undef)=true:=rfl
@[go_sem]theorem abz(b:Bool):bq (.bool b)=true:=rfl
@[go_sem]theorem adx(k:IntKind)(n:Int):bq (.int k n)=true:=rfl
@[go_sem]theorem adz(s:List UInt8):bq (.str s)=true:=rfl
@[go_sem]theorem abA:bq (.dV)=true:=rfl
@[go_sem]theorem ady(b o:Nat):bq (.ref b o)=true:=rfl
@[go_sem]theorem afi(cs:List AV):bq (.sp cs)=true:=rfl
@[go_sem]theorem afh(o:Bool)(z n:Nat)(cs:List AV):bq (.sl o z n cs)=true:=rfl
@[go_sem]theorem adw(b o l c:Nat):bq (.arr b o l c)=true:=rfl
@[go_sem]theorem adv(cs:List AV):bq (.agg cs)=true:=rfl
@[go_sem]theorem adA(cs:List AV):bq (.gK cs)=true:=rfl
@[go_sem]theorem afg(b:Nat):bq (.mp b)=true:=rfl
@[go_sem]theorem afL(z:List AV)(m:Bool)(x:IX):rdO (.bw z m x)=true:=rfl
attribute[go_sem] VE.eq_1 VE.eq_2 VE.eq_3 Re.eq_1 Re.eq_2 Re.eq_3 Qy.eq_1 Qy.eq_2 qK.eq_1 qK.eq_2 qK.eq_3 TP.eq_1 HW.eq_1 HW.eq_2 ak3.eq_1
end
@[go_sem]theorem Y9:eb (.undef)=.undef:=rfl
@[go_sem]theorem abc(b:Bool):eb (.bool b)=.bool b:=rfl
@[go_sem]theorem acw(k:IntKind)(n:Int):eb (.int k n)=.int k n:=rfl
@[go_sem]theorem acz(s:List UInt8):eb (.str s)=.str s:=rfl
@[go_sem]theorem abd:eb (.dV)=.dV:=rfl
@[go_sem]theorem acy(b o:Nat):eb (.ref b o)=.ref b o:=rfl
@[go_sem]theorem acx(cs:List AV):eb (.loc cs)=.loc cs:=rfl
@[go_sem]theorem aeF(o:Bool)(z n:Nat)(cs:List AV):eb (.sl o z n cs)=.sl o z n cs:=rfl
@[go_sem]theorem acv(b o l c:Nat):eb (.arr b o l c)=.arr b o l c:=rfl
@[go_sem]theorem aeE(f:Nat)(x y:List AV):eb (.fn f x y)=.fn f x y:=rfl
@[go_sem]theorem aj2{α:Type}(a b:α):(bif true then a else b)=a:=rfl
@[go_sem]theorem aj1{α:Type}(a b:α):(bif false then a else b)=b:=rfl
attribute[go_sem] YK.eq_1 YK.eq_2 YK.eq_3 VC.eq_1 VC.eq_2 VC.eq_3 Cs.eq_1 Cs.eq_2 Cs.eq_3 jB.eq_1 jB.eq_2 jB.eq_3 jB.eq_4 jB.eq_5 jB.eq_6 jB.eq_7 jB.eq_8 jB.eq_9 jB.eq_10 jB.eq_11 jB.eq_12 jB.eq_13 jB.eq_14 jB.eq_15 jB.eq_16 XL.eq_1 LL.eq_1 unV.eq_1 unV.eq_2 xp.eq_1 oQ.eq_1 oQ.eq_2 xJ.eq_1 na.eq_1 ZF.eq_1 ahs.eq_1 gF.eq_1 gF.eq_2 gF.eq_3 gF.eq_4 kG.eq_1 kG.eq_2 FA.eq_1 BX.eq_1 wS.eq_1 wS.eq_2 BZ.eq_1 nk.eq_1 Se.eq_1 ER.eq_1 ER.eq_2 ER.eq_3 ER.eq_4 ER.eq_5 xA.eq_1 Ps.eq_1 rY.eq_1 FY.eq_1 Qm.eq_1 Qm.eq_2 rV.eq_1 rV.eq_2 mO.eq_1 BM.eq_1 rd.eq_1 rd.eq_2 rd.eq_3 rd.eq_4 mf.eq_1 mf.eq_2 Rl.eq_1 Ax.eq_1 lQ.eq_1 lQ.eq_2 Fm.eq_1 rX.eq_1 BA.eq_1 I5.eq_1 I5.eq_2 zj.eq_1 Ue.eq_1 b7.eq_1 b7.eq_2 xy.eq_1 uY.eq_1 V0.eq_1 fD.eq_1 j7.eq_1 wrL.eq_1 wrS.eq_1 L3.eq_1 S4.eq_1 aiO.eq_1 KP.eq_1 KP.eq_2 KP.eq_3 Rq.eq_1 Rq.eq_2 RP.eq_1 Pr.eq_1 Pr.eq_2 Pr.eq_3 As.eq_3 As.eq_4 As.eq_5 As.eq_6 As.eq_7 As.eq_12 As.eq_13 As.eq_14 As.eq_15 As.eq_16 As.eq_17 OY.eq_1 OY.eq_2 OY.eq_3 OY.eq_4 OY.eq_5 OY.eq_6 OY.eq_7 kk pv.eq_1 pv.eq_2 pv.eq_3 pv.eq_4 pv.eq_5 pv.eq_6 pv.eq_7 pv.eq_8 pv.eq_9 pv.eq_10 pv.eq_11 pv.eq_12 pv.eq_13 pv.eq_14 pv.eq_15 pv.eq_16 pv.eq_17 pv.eq_18 pv.eq_19 pv.eq_20 pv.eq_21 pv.eq_22 pv.eq_23 pv.eq_24 pv.eq_25 fill.eq_1 fill.eq_2
attribute[go_sem] ckV ckP xg St.zR St.eP Yv gN UX Xq aa2 aa3 N5 O5 St.drain
attribute[go_sem] Bool.true_or Bool.or_true Bool.or_false Bool.false_or
attribute[go_sem] bne_self_eq_false Bool.bne_true Bool.bne_false implies_true decide_true decide_false Bool.true_and Bool.and_true Bool.false_and Bool.and_false Bool.not_true Bool.not_false Bool.false_eq_true true_and List.length_cons List.length_nil List.map_cons List.map_nil List.all_nil List.all_cons List.drop_zero List.drop_succ_cons List.take_zero List.take_succ_cons Nat.zero_add List.cons_append List.nil_append List.getElem?_cons_zero List.getElem?_cons_succ
end
end Go.AB
end
section
namespace Go.AB
open Go
theorem VR.mono{w w':World}{R R':Nat->Nat}(hR:∀b,R b<=R' b)(hs:∀b k,k<R b->w'.cell? ⟨b,k,none⟩=w.cell? ⟨b,k,none⟩){a:AV}{v:Value}(h:VR w R a v):VR w' R' a v:=by
 induction h with
 |undef v=>exact .undef v
 |bool b=>exact .bool b
 |int k n=>exact .int k n
 |str s=>exact .str s
 |dV=>exact .dV
 |ref b off=>exact .ref b off
 |sp cs b off u hf hR' hc _ ih=>
  refine .sp cs b off u hf (Nat.le_trans hR' (hR b)) (fun j c hj=>?_) ih
  rw[hs b (off+j) (by have:=(List.getElem?_eq_some_iff.1 hj).1;omega)]
  exact hc j c hj
 |slnil own sz=>exact .slnil own sz
 |sle sz a cap=>exact .sle sz a cap
 |sl own sz n cs b off cap u hf hl hR' iG hc _ ih=>
  refine .sl own sz n cs b off cap u hf hl (Nat.le_trans hR' (hR b)) iG (fun j c hj=>?_) ih
  rw[hs b (off+j) (by have:=(List.getElem?_eq_some_iff.1 hj).1;omega)]
  exact hc j c hj
 |arr b off len cap=>exact .arr b off len cap
 |Ma b off=>exact .Ma b off
 |agg cs vs hf hl _ ih=>exact .agg cs vs hf hl ih
 |gK cs vs hl _ ih=>exact .gK cs vs hl ih
 |fn f first eG vf vc hl _ hl' _ ih ih'=>exact .fn f first eG vf vc hl ih hl' ih'
 |ph=>exact .ph
 |mp b=>exact .mp b
 |one v h=>exact .one v h
 |ri t=>exact .ri t
 |BD=>exact .BD
 |bb t n cs v _ h0 ih=>exact .bb t n cs v ih h0
 |pj=>exact .pj
 |when b a v _ ih=>exact .when b a v ih
theorem aC.R{G G':Gh}{w w':World}(h:aC G w G' w')(hg:cw G w):∀b,G.R b<=G'.R b:=fun b=>by
 rcases Nat.lt_or_ge b w.heap.size with hb|hb
 ·exact h.mono b hb
 ·rw[hg.kU b hb];exact Nat.zero_le _
theorem aC.cells{G G':Gh}{w w':World}(h:aC G w G' w')(hg:cw G w):∀b k,k<G.R b->w'.cell? ⟨b,k,none⟩=w.cell? ⟨b,k,none⟩:=fun b k hk=>by
 rcases Nat.lt_or_ge b w.heap.size with hb|hb
 ·exact h.oH b k hb hk
 ·rw[hg.kU b hb]at hk;omega
theorem aC.vr{G G':Gh}{w w':World}(h:aC G w G' w')(hg:cw G w){a:AV}{v:Value}(hv:VR w G.R a v):VR w' G'.R a v:=hv.mono (h.R hg) (h.cells hg)
theorem aC.refl(G:Gh)(w:World):aC G w G w:=⟨rfl,rfl,rfl,Nat.le_refl _,Nat.le_refl _,fun _ _=>Nat.le_refl _,fun _ _ _ _=>rfl,fun _ _ _=>rfl,fun _ _ h=>⟨h,rfl⟩,fun _ _ h=>⟨h,rfl⟩⟩
theorem aC.trans{G₁ G₂ G₃:Gh}{w₁ w₂ w₃:World}(h:aC G₁ w₁ G₂ w₂)(k:aC G₂ w₂ G₃ w₃):aC G₁ w₁ G₃ w₃ where
 os:=k.os.trans h.os
 tape:=k.tape.trans h.tape
 output:=k.output.trans h.output
 drawn:=Nat.le_trans h.drawn k.drawn
 size:=Nat.le_trans h.size k.size
 mono:=fun b hb=>Nat.le_trans (h.mono b hb) (k.mono b (Nat.lt_of_lt_of_le hb h.size))
 oH:=fun b j hb hj=>(k.oH b j (Nat.lt_of_lt_of_le hb h.size) (Nat.lt_of_lt_of_le hj (h.mono b hb))).trans (h.oH b j hb hj)
 frame:=fun b hb ho=>by
  refine(k.frame b (Nat.lt_of_lt_of_le hb h.size) ?_).trans (h.frame b hb ho)
  rcases ho with ho|ho
  ·exact .inl (h.kD b hb ho).1
  ·exact .inr (h.qP b hb ho).1
 kD:=fun b hb ho=>
  let⟨o2,r2⟩:=h.kD b hb ho
  let⟨o3,r3⟩:=k.kD b (Nat.lt_of_lt_of_le hb h.size) o2
  ⟨o3,r3.trans r2⟩
 qP:=fun b hb ho=>
  let⟨o2,r2⟩:=h.qP b hb ho
  let⟨o3,r3⟩:=k.qP b (Nat.lt_of_lt_of_le hb h.size) o2
  ⟨o3,r3.trans r2⟩
theorem dx.mono{G G':Gh}{w w':World}{o:c7}{a:AV}{v:Value}(h:dx G w o a v)(hb:∀b,G.O b=o->G'.O b=o/\G'.R b=G.R b/\w'.heap[b]? =w.heap[b]?):dx G' w' o a v:=by
 unfold dx at*
 split
 ·rename_i sz n cs
  intro base m cap hv hc
  obtain⟨b,off,c,e,fz,h1,h2,h3,h4,h5,h6⟩:=h base m cap hv hc
  obtain⟨k1,k2,k3⟩:=hb b h2
  exact⟨b,off,c,e,fz,h1,k1,by rw[k2,h3],by rw[k3,h4],h5,h6⟩
 ·rename_i e n cs
  intro base m cap hv hc
  obtain⟨b,off,c,fz,h1,h2,h3,h4,h5,h6⟩:=h base m cap hv hc
  obtain⟨k1,k2,k3⟩:=hb b h2
  exact⟨b,off,c,fz,h1,k1,by rw[k2,h3],by rw[k3,h4],h5,h6⟩
 ·trivial
theorem Fl.views{cs:List AV}(h:Fl cs):Fl (views cs):=by
 intro c hc
 simp only[AB.views,List.mem_map]at hc
 obtain⟨c',h1,rfl⟩:=hc
 have:=h c' h1
 cases c'<;>simp_all [sc,dF,AB.view]
theorem Dy.views{t:Nat}{cs:List AV}(h:Dy t cs):Fl (AB.views cs):=by
 intro c hc
 simp only[AB.views,List.mem_map]at hc
 obtain⟨c',h1,rfl⟩:=hc
 rcases h c' h1 with h|rfl
 ·cases c'<;>simp_all [sc,dF,AB.view]
 ·rfl
theorem Dy.flat{t:Nat}{cs:List AV}(h:Dy t cs)(hv:AB.views cs=cs):Fl cs:=hv▸h.views
theorem Dy.left{t:Nat}{cs sp:List AV}(h:Dy t (cs++sp)):Dy t cs:=fun c hc=>h c (List.mem_append_left _ hc)
theorem Fl.tag{cs:List AV}(h:Fl cs)(t:Nat):Dy t cs:=fun c hc=>.inl (h c hc)
theorem Dy.sub{t:Nat}{cs:List AV}(h:Dy t cs)(off n:Nat):Dy t (AB.sub cs off n):=fun c hc=>h c (List.mem_of_mem_drop (List.mem_of_mem_take hc))
theorem Dy.drop{t:Nat}{cs:List AV}(h:Dy t cs)(off:Nat):Dy t (cs.drop off):=fun c hc=>h c (List.mem_of_mem_drop hc)
theorem Fl.sub{cs:List AV}(h:Fl cs)(off n:Nat):Fl (sub cs off n):=fun c hc=>h c (List.mem_of_mem_drop (List.mem_of_mem_take hc))
theorem Fl.drop{cs:List AV}(h:Fl cs)(off:Nat):Fl (cs.drop off):=fun c hc=>h c (List.mem_of_mem_drop hc)
theorem Fl.nil:Fl []:=fun c hc=>by simp at hc
theorem dx.view(G:Gh)(w:World)(o:c7)(a:AV)(v:Value):dx G w o (view a) v:=by cases a<;>first|trivial|(rename_i own sz n cs;simp[AB.view,dx])
theorem VR.view{w:World}{R:Nat->Nat}{a:AV}{v:Value}(h:VR w R a v):VR w R (view a) v:=by
 cases h with
 |slnil own sz=>exact .slnil false sz
 |sle sz a cap=>exact .sle sz a cap
 |sl own sz n cs b off cap u hf hl hR iG hc hr=>exact .sl false sz n cs b off cap u hf hl hR iG hc hr
 |undef v=>exact .undef v
 |bool b=>exact .bool b
 |int k n=>exact .int k n
 |str s=>exact .str s
 |dV=>exact .dV
 |ref b off=>exact .ref b off
 |sp cs b off u hf hR hc hr=>exact .sp cs b off u hf hR hc hr
 |arr b off len cap=>exact .arr b off len cap
 |Ma b off=>exact .Ma b off
 |agg cs vs hf hl hr=>exact .agg cs vs hf hl hr
 |gK cs vs hl hr=>exact .gK cs vs hl hr
 |fn f first eG vf vc hl hr hl' hr'=>exact .fn f first eG vf vc hl hr hl' hr'
 |ph=>exact .ph
 |mp b=>exact .mp b
 |one v h=>exact .one v h
 |ri t=>exact .dV
 |BD=>exact .BD
 |bb t n cs v h h0=>
  cases h with
  |slnil=>exact .slnil false 1
  |sl _ _ _ _ b off cap u hf hl hR iG hc hr=>exact .sl false 1 n cs b off cap u hf hl hR iG hc hr
 |pj=>exact .pj
 |when b a v h=>exact .when b a v h
theorem dG.mono{G G':Gh}{w w':World}{o:Nat->c7}{cs:List AV}{c:Array Value}(h:dG G w o cs c)(hv:∀a v,VR w G.R a v->VR w' G'.R a v)
 (hb:∀b j,G.O b=o j->G'.O b=o j/\G'.R b=G.R b/\w'.heap[b]? =w.heap[b]?):dG G' w' o cs c:=
 ⟨h.1,fun j x y hx hy=>⟨hv _ _ (h.2 j x y hx hy).1,(h.2 j x y hx hy).2.mono fun b=>hb b j⟩⟩
theorem dt.rA{G:Gh}{w:World}{e:List (Nat×AV)}{tmps:Array Value}{i:Nat}{a:AV}{v:Value}(h:dF a=true):dt G w e tmps i a v↔(VR w G.R a v/\dx G w (.slot i 0) a v):=by cases a<;>simp_all [dF,dt]
theorem dt.BB{G:Gh}{w:World}{e:List (Nat×AV)}{tmps:Array Value}{i:Nat}{a:AV}{v:Value}(h:dF a=true)(hv:VR w G.R a v):dt G w e tmps i (view a) v:=by
 have h':dF (view a)=true:=by cases a<;>simp_all [dF,view]
 rw[dt.rA h']
 exact⟨hv.view,dx.view ..⟩
theorem dt.vr{G:Gh}{w:World}{e:List (Nat×AV)}{tmps:Array Value}{i:Nat}{a:AV}{v:Value}(h:dF a=true)(hs:dt G w e tmps i a v):VR w G.R a v:=((dt.rA h).1 hs).1
theorem dt.frame{G G':Gh}{w w':World}{e e':List (Nat×AV)}{tmps T2:Array Value}{i:Nat}
 (hv:∀a v,VR w G.R a v->VR w' G'.R a v)
 (uG:∀b,(∃j,G.O b=.slot i j)\/G.O b=.loc i->G'.O b=G.O b/\G'.R b=G.R b/\w'.heap[b]? =w.heap[b]?)
 (dW:∀b c j,G.O b=.loc i->G.O c=.cell b j->G'.O c=.cell b j/\G'.R c=G.R c/\w'.heap[c]? =w.heap[c]?):
 ∀(a:AV)(v:Value)(_:∀d,bD a d->∀cs,look e' d=.loc cs->∃cs',look e d=.loc cs'/\T2[d]? =tmps[d]?)
  (_:dt G w e tmps i a v),dt G' w' e' T2 i a v
 |.loc cs,v,_,h=>by
  obtain⟨b,c,t,h1,h2,h3,h4,h5,h6⟩:=h
  obtain⟨k1,k2,k3⟩:=uG b (.inr h2)
  exact⟨b,c,t,h1,k1.trans h2,k2.trans h3,k3.trans h4,h5.mono hv fun c j hc=>dW b c j h2 hc,h6⟩
 |.lp d off,v,hlp,h=>by
  obtain⟨b,h3,h4⟩:=h
  refine⟨b,h3,fun cs hcs=>?_⟩
  obtain⟨cs',h1,h2⟩:=hlp d rfl cs hcs
  exact h2.trans (h4 cs' h1)
 |.gK vs,v,_,h=>by
  obtain⟨ys,h1,h2⟩:=h
  exact⟨ys,h1,h2.mono hv fun b j hb=>by
   obtain⟨k1,k2,k3⟩:=uG b (.inl ⟨_,hb⟩)
   exact⟨k1.trans hb,k2,k3⟩⟩
 |.when b a,v,hlp,h=>⟨fun hb=>dt.frame hv uG dW a v hlp (h.1 hb),h.2⟩
 |.us sz n cs,v,_,h=>by
  rcases h with h|⟨b,cap,c,t,sp,h1,h2,h3,h4,h5,h6,h7,h8,h9,h10,h11⟩
  ·exact .inl h
  ·obtain⟨k1,k2,k3⟩:=uG b (.inl ⟨_,h4⟩)
   exact .inr ⟨b,cap,c,t,sp,h1,h2,h3,k1.trans h4,k2.trans h5,k3.trans h6,h7,h8,h9,fun j x u hx hu=>hv _ _ (h10 j x u hx hu),h11⟩
 |.undef,v,_,h|.bool _,v,_,h|.int _ _,v,_,h|.str _,v,_,h|.dV,v,_,h|.ref _ _,v,_,h|.sp _,v,_,h|.sl _ _ _ _,v,_,h|.arr _ _ _ _,v,_,h|.agg _,v,_,h
 |.fn _ _ _,v,_,h|.ph,v,_,h|.mp _,v,_,h|.pj,v,_,h|.one,v,_,h|.ri _,v,_,h|.BD,v,_,h|.bb _ _ _,v,_,h=>by
  refine⟨hv _ _ h.1,h.2.mono fun b hb=>?_⟩
  obtain⟨k1,k2,k3⟩:=uG b (.inl ⟨_,hb⟩)
  exact⟨k1.trans hb,k2,k3⟩
theorem aQ(j i:Nat)(a:AV)(l:List (Nat×AV)):look ((j,a)::l) i=if j=i then a else look l i:=by
 show(bif j==i then a else look l i)=_
 by_cases h:j=i
 ·simp[h]
 ·have:(j==i)=false:=by simpa using h
  simp[this,h]
theorem Inv.put{G G':Gh}{n:Nat}{D:List Deferred}{E:St}{s':ab}{lp':List (Nat×Nat)}{a:Act}{w w':World}(h:Inv G n D E a w)(d:Option Nat)(hd:∀i,d=some i->i<n)(av:AV)(v:Value)
 (nL:cw G' w')(bA:aC G w G' w')(hst:aW G' w' s')
 (hlp:∀x∈E.lp,x∈lp')(acR:∀i t,d=some i->bD av t->(i,t)∈lp')
 (WJ:∀i t,d=some i->(∃cs,av=.loc cs)->(t,i)∉E.lp)
 (uG:∀i b,d≠some i->(∃j,G.O b=.slot i j)\/G.O b=.loc i->G'.O b=G.O b/\G'.R b=G.R b/\w'.heap[b]? =w.heap[b]?)
 (dW:∀i b c j,d≠some i->G.O b=.loc i->G.O c=.cell b j->G'.O c=.cell b j/\G'.R c=G.R c/\w'.heap[c]? =w.heap[c]?)
 (WO:∀i,d=some i->dt G' w' ((E.put d av).e) (a.put d v).tmps i av v):
 Inv G' n D {(E.put d av)with s:=s',lp:=lp'} (a.put d v) w':=by
 cases d with
 |none=>
  refine⟨nL,hst,h.size,fun i u hu=>?_,h.Jj,fun i t ht=>hlp _ (h.Rj i t ht),h.uE⟩
  exact dt.frame (fun _ _ hv=>bA.vr h.aV hv) (fun b=>uG i b (by simp)) (fun b c j=>dW i b c j (by simp)) _ _ (fun t _ cs hcs=>⟨cs,hcs,rfl⟩) (h.cy i u hu)
 |some d=>
  refine⟨nL,hst,by simp[Act.put,h.size],fun i u hu=>?_,fun i hi=>?_,fun i t ht=>?_,h.uE⟩
  ·by_cases hid:d=i
   ·subst hid
    have hu':u=v:=by
     have hlt:d<a.tmps.size:=by rw[h.size];exact hd d rfl
     simp[Act.put,hlt]at hu
     exact hu.symm
    subst hu'
    have:look (E.put (some d) av).e d=av:=by simp[St.put,aQ]
    show dt G' w' (E.put (some d) av).e _ d (look (E.put (some d) av).e d) u
    rw[this]
    exact WO d rfl
   ·have hne:(some d:Option Nat)≠some i:=fun e=>hid (Option.some.inj e)
    have hu':a.tmps[i]? =some u:=by simpa[Act.put,Array.getElem?_setIfInBounds_ne hid]using hu
    have:look (E.put (some d) av).e i=look E.e i:=by simp[St.put,aQ,hid]
    show dt G' w' (E.put (some d) av).e _ i (look (E.put (some d) av).e i) u
    rw[this]
    refine dt.frame (fun _ _ hv=>bA.vr h.aV hv) (fun b=>uG i b hne) (fun b c j=>dW i b c j hne) _ _ (fun t ht cs hcs=>?_) (h.cy i u hu')
    have zA:=h.Rj i t ht
    by_cases hdt:d=t
    ·subst hdt
     simp only[St.put,aQ,if_true]at hcs
     exact absurd zA (WJ d i rfl ⟨cs,hcs⟩)
    ·refine⟨cs,by simpa[St.put,aQ,hdt]using hcs,?_⟩
     simp[Act.put,Array.getElem?_setIfInBounds_ne hdt]
  ·have:d≠i:=by have:=hd d rfl;omega
   simp[St.put,aQ,this,h.Jj i hi]
  ·by_cases hid:d=i
   ·subst hid
    simp only[St.put,aQ,if_true]at ht
    exact acR d t rfl ht
   ·simp only[St.put,aQ,hid,if_false]at ht
    exact hlp _ (h.Rj i t ht)
end Go.AB
end
section
namespace Go.AB
open Go
def cR:Value->AV->Bool
 |.bool a,.bool b=>a==b
 |.int k n,.int k' m=>decide (k=k')&&n==m
 |.string s,.str t=>s.data.toList==t
 |.pointer none,.dV=>true
 |.slice none 0 0,.sl _ _ 0 []=>true
 |.slice none 0 0,.arr _ _ 0 0=>true
 |.slice none 0 0,.bb _ 0 []=>true
 |.map none,.pj=>true
 |.nilFunc,.ph=>true
 |.nilIface,.BD=>true
 |_,_=>false
def Rw:List Value->List AV->Bool
 |[],[]=>true
 |v::vs,a::as=>cR v a&&Rw vs as
 |_,_=>false
def bP:Operand->IX->Bool
 |.tmp t,.t i=>t==i
 |.const (.agg vs),.c (.agg cs)=>Rw vs.toList cs
 |.const v,.c a=>cR v a
 |.func f,.c (.fn g [] [])=>f==g
 |_,_=>false
def ji:List Operand->List IX->Bool
 |[],[]=>true
 |o::os,x::xs=>bP o x&&ji os xs
 |_,_=>false
def Ji:Option Operand->Option IX->Bool
 |none,none=>true
 |some o,some x=>bP o x
 |_,_=>false
section
variable(P:Program)
def dm(t:TypeId)(n:Nat):Bool:=match P.info? t with
 |some i=>i.size==n
 |none=>false
def oW(t:TypeId)(n:Nat):Bool:=match P.info? t with
 |some i=>i.bytes==n
 |none=>false
def rU(t:TypeId)(multi:Bool):Bool:=match P.underlying t with
 |some (.struct _)|some (.array _ _)=>multi
 |some _=>!multi
 |none=>false
def qA(t:TypeId)(z:List AV):Bool:=match P.info? t with
 |some i=>(match i.zero with
  |some v=>Rw v.cells.toList z&&i.size==z.length
  |none=>false)
 |none=>false
def dC(t:TypeId):Option TypeId:=match P.underlying t with
 |some (.slice e)=>some e
 |_=>none
def C4(fs:Array Field):List (Nat×Operand)->List (Nat×Nat×IX)->Bool
 |[],[]=>true
 |(i,o)::r,(off,n,x)::s=>(match fs[i]? with
  |some f=>f.offset==off&&dm P f.type n
  |none=>false)&&bP o x&&C4 fs r s
 |_,_=>false
def wK(sz:Nat):List (Nat×Operand)->List (Nat×Nat×IX)->Bool
 |[],[]=>true
 |(i,o)::r,(off,n,x)::s=>i*sz==off&&n==sz&&bP o x&&wK sz r s
 |_,_=>false
def Zu(t:TypeId):Bool:=match P.underlying t with
 |some (.int _)=>true
 |_=>false
def aa1(t:TypeId):Bool:=match P.underlying t with
 |some .bool=>true
 |_=>false
def Vs(t:TypeId):Bool:=match P.underlying t with
 |some .string=>true
 |_=>false
def ahG(t:TypeId):Bool:=match P.underlying t with
 |some (.pointer e)=>(P.info? e).isSome
 |_=>false
def FF(e:TypeId)(sz:Nat):Bool:=match P.info? e with
 |some i=>(match i.zero with
  |some v=>v.cells.size==sz&&v.cells.toList.all Value.oneCell'
  |none=>false)
 |none=>false
def VO(b:Builtin)(c:Call):Option (List Operand×List TypeId):=match c.callee with
 |.builtin b'=>if b'=b then some (c.args.toList,c.argTypes.toList)else none
 |_=>none
def ahg(t:TypeId)(cls:Nat):Bool:=match P.underlying t with
 |some (.slice _)=>cls==0
 |some .string=>cls==1
 |some (.map _ _)=>cls==2
 |_=>false
def aj0(t:TypeId)(n:Nat):Bool:=match P.underlying t with
 |some (.array m _)=>n==m
 |_=>false
def R7(t:TypeId):lI->Bool
 |.int k=>(match P.underlying t with|some (.int k')=>UM k k'|_=>false)
 |.str=>(match P.underlying t with|some .string=>true|_=>false)
 |.bool=>(match P.underlying t with|some .bool=>true|_=>false)
 |.bytes n=>(match P.underlying t with
  |some (.array m e)=>m==n&&(match P.underlying e with|some (.int .u8)=>true|_=>false)&&dm P e 1
  |_=>false)
def S7(t:TypeId)(z:AV):Bool:=match P.info? t with
 |some i=>(match i.zero with
  |some v=>(match z,v with
   |.agg cs,.agg vs=>Rw vs.toList cs
   |z,v=>cR v z)
  |none=>false)
 |none=>false
def K1:List Field->Nat->Bool
 |[],_=>true
 |f::r,k=>f.name != "_" &&f.offset==k&&Zu P f.type&&rU P f.type false&&K1 r (k+1)
def aeg(t:TypeId)(n:Nat):Bool:=match P.underlying t with
 |some (.struct fs)=>K1 P fs.toList 0&&fs.size==n&&!P.stoodInHeld t&&!P.eqGuardType P.depth t
 |_=>false
def aq(op:Op)(_ty:TypeId)(o:uC):Bool:=
 match o,op with
 |.ib _ x,.move y=>bP y x
 |.ib _ x,.assign y=>bP y x
 |.pick c x y,.pick c' x' y'=>bP c' c&&bP x' x&&bP y' y
 |.an z,.alloc t=>qA P t z
 |.gR z,.alloc t=>qA P t z
 |.b8 n x,.box t y=>dm P t n&&bP y x
 |.oU n x,.box t y=>dm P t n&&bP y x
 |.build z ps,.build t qs=>qA P t z&&(match P.underlying t with
  |some (.struct fs)=>C4 P fs qs.toList ps&&fs.all fun f=>(P.info? f.type).isSome
  |some (.array _ e)=>(match P.info? e with
   |some i=>wK i.size qs.toList ps
   |none=>false)
  |_=>false)
 |.aN sz n z ps,.buildSlice t m qs=>n==m&&(match dC P t with
  |some e=>dm P e sz&&decide (0<sz)&&wK sz qs.toList ps&&decide (n*sz<=2^24)&&(match P.info? e with
   |some i=>(match i.zero with
    |some v=>Rw ((List.replicate n v.cells.toList).flatten) z&&v.cells.size==sz
    |none=>false)
   |none=>false)
  |none=>false)
 |.mM _ x,.load t y=>dm P t 1&&rU P t false&&bP y x
 |.bw z multi x,.load t y=>dm P t z.length&&rU P t multi&&(multi||z.length==1)&&bP y x
 |.lookup kk z ok x k,.lookup t y j ok'=>bP y x&&bP j k&&ok==ok'&&(match P.underlying t with
  |some (.map kt et)=>R7 P kt kk&&S7 P et z
  |_=>false)
 |.mapUpdate kk x k v,.mapUpdate t y j u=>bP y x&&bP j k&&bP u v&&(match P.underlying t with
  |some (.map kt _)=>R7 P kt kk
  |_=>false)
 |.sH x,.move y=>bP y x
 |.sH x,.assign y=>bP y x
 |.kz (.t i),.convert s t y=>bP y (.t i)&&s==t&&(match P.underlying s with
  |some (.slice e)=>(match P.underlying e with|some (.int .u8)=>true|_=>false)
  |_=>false)
 |.load n multi x,.load t y=>dm P t n&&rU P t multi&&(multi||n==1)&&bP y x
 |.store n p v,.store t q u=>dm P t n&&bP q p&&bP u v
 |.nilCheck x,.nilCheck y=>bP y x
 |.bin bo x y,.binOp b _ u v _=>decide (bo=b)&&bP u x&&bP v y
 |.VA ne x y,.binOp b t u v _=>decide (b=if ne then .neq else .eql)&&bP u x&&bP v y&&aa1 P t
 |.Pq ne x y,.binOp b t u v _=>decide (b=if ne then .neq else .eql)&&bP u x&&bP v y&&ahG P t
 |.un uo x,.unOp u _ y=>decide (uo=u)&&bP y x
 |.ot k x,.convert s t y=>bP y x&&(match P.underlying s,P.underlying t with
  |some (.int _),some (.int k')=>decide (k=k')
  |_,_=>false)
 |.fF x,.convert s t y=>bP y x&&(match P.underlying s,P.underlying t with
  |some (.slice e),some .string=>(match P.underlying e with|some (.int .u8)=>true|_=>false)
  |_,_=>false)
 |.gS x,.convert s t y=>bP y x&&(match P.underlying s,P.underlying t with
  |some .string,some (.slice e)=>(match P.underlying e with|some (.int .u8)=>true|_=>false)
  |_,_=>false)
 |.jh x i,.index t y j=>bP y x&&bP j i&&Vs P t
 |.fieldAddr off x,.fieldAddr t y i=>bP y x&&(match P.underlying t with
  |some (.struct fs)=>(match fs[i]? with
   |some f=>f.offset==off&&(match P.info? f.type with|some j=>decide (0<j.size)|none=>false)
   |none=>false)
  |_=>false)
 |.indexAddr z x i,.indexAddr t y j=>bP y x&&bP j i&&(match dC P t with
  |some e=>dm P e z.length
  |none=>false)
 |.slice sz x lo hi mx,.slice t y l h m=>bP y x&&Ji l lo&&Ji h hi&&Ji m mx&&(match dC P t with
  |some e=>dm P e sz
  |none=>false)
 |.rL x lo hi,.slice t y l h none=>bP y x&&Ji l lo&&Ji h hi&&Vs P t
 |.extract x k,.extract y j=>bP y x&&k==j
 |.len cls x,.call c=>(match VO .len c with
  |some (y::_,t::_)=>bP y x&&ahg P t cls
  |_=>false)
 |.cap x,.call c=>(match VO .cap c with
  |some (y::_,t::_)=>bP y x&&(dC P t).isSome
  |_=>false)
 |.gb true xs,.call c=>(match VO .max c with
  |some (ys,_)=>ji ys xs
  |_=>false)
 |.gb false xs,.call c=>(match VO .min c with
  |some (ys,_)=>ji ys xs
  |_=>false)
 |.append sz by' x y,.call c=>(match VO .append c with
  |some ([u,v],[t,t'])=>bP u x&&bP v y&&(match dC P t with
   |some e=>dm P e sz&&oW P e by'&&decide (0<sz)&&decide (0<by')&&FF P e sz&&((dC P t').isSome||Vs P t')
   |none=>false)
  |_=>false)
 |.kN sz by' z l c,.makeSlice t l' c'=>bP l' l&&bP c' c&&(match dC P t with
  |some e=>dm P e sz&&oW P e by'&&qA P e z&&decide (0<sz)&&decide (0<by')
  |none=>false)
 |.makeMap,.makeMap _ none=>true
 |.call f args,.call c=>(match c.callee with
  |.value (.func g)=>f==g&&ji c.args.toList args&&(match P.funcs[f]? with
   |some fn=>fn.name != "runtime.NumGoroutine" &&fn.body.isSome
   |none=>false)
  |_=>false)
 |.cG x args,.call c=>(match c.callee with
  |.value y=>bP y x&&ji c.args.toList args
  |_=>false)
 |.kL f a b,.makeFunc (.func g) c d=>f==g&&ji c.toList a&&ji d.toList b
 |.j9 sz n z ps,.buildSlice t m qs=>n==m&&(match dC P t with
  |some e=>dm P e sz&&decide (0<sz)&&wK sz qs.toList ps&&decide (n*sz<=2^24)&&(match P.info? e with
   |some i=>(match i.zero with
    |some v=>Rw ((List.replicate n v.cells.toList).flatten) z&&v.cells.size==sz
    |none=>false)
   |none=>false)
  |none=>false)
 |.fk sz by' z x y,.call c=>(match VO .append c with
  |some ([u,v],[t,t'])=>bP u x&&bP v y&&(match dC P t with
   |some e=>dm P e sz&&oW P e by'&&decide (0<sz)&&decide (0<by')&&FF P e sz&&qA P e z&&((dC P t').isSome||Vs P t')
   |none=>false)
  |_=>false)
 |.lR sz by' z x y,.call c=>(match VO .append c with
  |some ([u,v],[t,t'])=>bP u x&&bP v y&&Zu P t'&&(match dC P t with
   |some e=>dm P e sz&&oW P e by'&&decide (0<sz)&&decide (0<by')&&qA P e z
   |none=>false)
  |_=>false)
 |.ik sz x y,.call c=>(match VO .copy c with
  |some ([u,v],[t,_])=>bP u x&&bP v y&&(match dC P t with
   |some e=>dm P e sz
   |none=>false)
  |_=>false)
 |.mS z x,.call c=>(match VO .clear c with
  |some (u::_,t::_)=>bP u x&&(match dC P t with
   |some e=>qA P e z
   |none=>false)
  |_=>false)
 |.yU _ _ x,.load t y=>dm P t 1&&rU P t false&&bP y x
 |.UB _ _ x,.move y=>bP y x
 |.UB _ _ x,.assign y=>bP y x
 |.jq x,.load t y=>(dC P t).isSome&&dm P t 1&&rU P t false&&bP y x
 |.mL _ _ x,.load t y=>(dC P t).isSome&&dm P t 1&&rU P t false&&bP y x
 |.YI ne x,.binOp b t u v _=>decide (b=if ne then .neq else .eql)&&bP u x&&(match v with|.const (.slice none 0 0)=>true|_=>false)&&(dC P t).isSome
 |.uX f i args,.call c=>args.any (fun x=>match x with|.t j=>j==i|_=>false)&&(match c.callee with
  |.value (.func g)=>f==g&&ji c.args.toList args&&(match P.funcs[f]? with
   |some fn=>fn.name != "runtime.NumGoroutine" &&fn.body.isSome
   |none=>false)
  |_=>false)
 |.Zf ne x,.binOp b t u v _=>decide (b=if ne then .neq else .eql)&&bP u x&&(match v with|.const .nilFunc=>true|_=>false)&&(match P.underlying t with|some (.func _ _ _)=>true|_=>false)
 |.Mc n t j u x,.box t' y=>t==t'&&dm P t n&&bP y x
 |.qw _ n p v,.store t q u=>dm P t n&&bP q p&&bP u v
 |.FV _ n x,.box t y=>dm P t n&&bP y x
 |.VD f x y,.call c=>(match c.callee with
  |.value (.func g)=>f==g&&ji c.args.toList [x,y]
  |_=>false)
 |_,_=>false
def Y6(ops:Array Oper):Option (Nat×Bool)->Option (Nat×Bool)->Bool
 |none,none=>true
 |some (j,w),some (t,w')=>w==w'&&((ops[j]?).bind (·.dst))==some t
 |_,_=>false
def bz(n:Nat):Option Nat->Bool
 |none=>true
 |some d=>decide (d<n)
def iB(n:Nat)(ops:Array Oper)(o:Oper)(o':ai):Bool:=o.dst==o'.dst&&bz n o'.dst&&Y6 ops o.guard o'.g&&aq P o.op o.type o'.op
def cd(n:Nat)(ops:Array Oper):List Oper->List ai->Bool
 |[],[]=>true
 |o::r,o'::r'=>iB P n ops o o'&&cd n ops r r'
 |_,_=>false
def oX:Option IX->List IX
 |some x=>[x]
 |none=>[]
def dv:uC->List IX
 |.ib _ x|.b8 _ x|.oU _ x|.load _ _ x|.nilCheck x|.un _ x|.ot _ x|.fF x|.gS x|.fieldAddr _ x|.extract x _|.len _ x|.cap x|.bw _ _ x|.kz x|.sH x|.mS _ x|.UB _ _ x|.yU _ _ x|.jq x|.YI _ x|.Zf _ x|.Mc _ _ _ _ x|.FV _ _ x|.mM _ x=>[x]
 |.mL _ j x=>[j,x]
 |.pick c x y=>[c,x,y]
 |.an _|.gR _|.makeMap=>[]
 |.build _ ps|.aN _ _ _ ps|.j9 _ _ _ ps=>ps.map fun p=>p.2.2
 |.store _ x y|.bin _ x y|.VA _ x y|.Pq _ x y|.jh x y|.indexAddr _ x y|.append _ _ x y|.kN _ _ _ x y|.lookup _ _ _ x y|.fk _ _ _ x y|.lR _ _ _ x y|.ik _ x y|.VD _ x y|.qw _ _ x y=>[x,y]
 |.slice _ x lo hi mx=>x::(oX lo++(oX hi++oX mx))
 |.rL x lo hi=>x::(oX lo++oX hi)
 |.gb _ xs=>xs
 |.mapUpdate _ x y z=>[x,y,z]
 |.call _ xs|.uX _ _ xs=>xs
 |.cG x xs=>x::xs
 |.kL _ xs ys=>xs++ys
def Ft:List IX->List Nat
 |[]=>[]
 |.t i::r=>i::Ft r
 |.c _::r=>Ft r
def acK:Option (Nat×Bool)->List Nat
 |some (t,_)=>[t]
 |none=>[]
def cy(o:ai):List Nat:=acK o.g++Ft (dv o.op)
def gZ(d:Option Nat)(l:List Nat):Bool:=match d with
 |some d=>!l.contains d
 |none=>true
def iD(o:ai)(i:Nat):Bool:=match o.op with
 |.ib true (.t j)=>j==i
 |_=>false
def Xu(x y:ai):Bool:=(cy y).all fun i=>!iD x i
def ap(x y:ai):Bool:=(Xu x y&&Xu y x)&&gZ x.dst (cy y)&&gZ y.dst (cy x)&&(match x.dst,y.dst with
 |some i,some j=>i !=j
 |_,_=>true)
def iw(ops:Array Oper)(j i:Nat):Bool:=match ops[j]? with
 |some o=>o.after.any fun e=>Region.binds .any e&&e.on==i
 |none=>false
def Tf(ops:Array Oper)(q:Nat):Bool:=(List.range q).all fun k=>match ops[k]? with
 |some o=>o.after.all fun e=>!Region.binds .any e||decide (e.on<k)
 |none=>false
def KW(ops:Array Oper)(q:Nat):Bool:=q==ops.size||(List.range q).all fun k=>(List.range (q+1)).any fun m=>decide (k<m)&&iw ops m k
def af0(bF:List ai)(i j:Nat):Bool:=match bF[i]?,bF[j]? with
 |some x,some y=>ap x y
 |_,_=>false
def aba(ops:Array Oper)(q:Nat)(bF:List ai):Bool:=(List.range q).all fun j=>(List.range j).all fun i=>iw ops j i||af0 bF i j
def te(ops:Array Oper):Nat->Nat->Array Bool->Bool
 |0,_,aM=>(Region.ready .any ops aM).isEmpty
 |fuel+1,k,aM=>Region.ready .any ops aM==[k]&&te ops fuel (k+1) (aM.setIfInBounds k true)
def rP(size q:Nat):Array Bool:=(Array.range size).map fun i=>decide (i<q)
def Te(ops:Array Oper)(q:Nat)(bF:List ai):Bool:=decide (q<=ops.size)&&(Tf ops q&&(KW ops q&&(aba ops q bF&&te ops (ops.size -q) q (rP ops.size q))))
def sV(o:ai):Option Nat:=match o with
 |⟨none,.store _ (.t c) _,none⟩=>some c
 |o=>o.dst
def gr(o:ai)(i:Nat):Bool:=match o.op with
 |.ib true (.t j)=>j==i
 |.store _ _ (.t j)=>j==i
 |.append _ _ (.t j) _=>j==i
 |.mL _ (.t j) _=>j==i
 |_=>false
def Eb(x y:ai):Bool:=(cy y).all fun i=>!gr x i
def cOK(o:ai):Bool:=(dv o.op).all fun x=>match x with
 |.c (.lp _ _)=>false
 |.c (.when _ _)=>false
 |_=>true
def ap2(x y:ai):Bool:=(cOK x&&cOK y)&&(Eb x y&&Eb y x)&&gZ (sV x) (cy y)&&gZ (sV y) (cy x)&&(match sV x,sV y with
 |some i,some j=>i !=j
 |_,_=>true)
def aaY(bF:List ai)(i j:Nat):Bool:=match bF[i]?,bF[j]? with
 |some x,some y=>ap2 x y
 |_,_=>false
def V3(ops:Array Oper)(q:Nat)(bF:List ai):Bool:=(List.range q).all fun j=>(List.range j).all fun i=>iw ops j i||aaY bF i j
def Xk:uC->Bool
 |.store _ _ _=>true
 |.an _=>true
 |.append _ _ _ _=>true
 |.mL _ _ _=>true
 |_=>false
def V2(T:List Nat)(bF:List ai)(q:Nat):Bool:=(bF.take q).all fun o=>match o with
 |⟨none,.store _ (.t c) _,none⟩=>T.contains c
 |⟨some d,.an _,none⟩=>T.contains d
 |_=>true
def Mg(T:List Nat)(ops:Array Oper)(q:Nat)(bF:List ai):Bool:=decide (q<=ops.size)&&(Tf ops q&&(KW ops q&&(V3 ops q bF&&(V2 T bF q&&te ops (ops.size -q) q (rP ops.size q)))))
abbrev Item:=Nat×Nat×ai
def HG(acc:List Nat)(o:Oper):Nat:=o.after.toList.foldl (fun s e=>bif Region.binds .any e then s |||(1<<<e.on)|||acc.getD e.on 0 else s) 0
def Lz:List Oper->List Nat->List Nat
 |[],acc=>acc
 |o::r,acc=>Lz r (acc++[HG acc o])
def apB(y x:ai):Bool:=Eb y x&&gZ (sV y) (cy x)&&gZ x.dst (cy y)&&(match sV y,x.dst with
 |some i,some j=>i !=j
 |_,_=>true)
def abr(k k':Nat)(x y:ai):Bool:=match k,k' with
 |0,0|0,1|1,0|1,1=>ap2 x y
 |1,2=>apB x y
 |_,_=>false
def BI(ops:Array Oper)(ms:List Nat)(x y:Item):Bool:=!iw ops x.2.1 y.2.1&&(x.2.1 !=y.2.1&&((ms.getD y.2.1 0).testBit x.2.1||
 abr x.1 y.1 x.2.2 y.2.2))
def Nn(ops:Array Oper)(ms:List Nat):List Item->Bool
 |[]=>true
 |x::r=>r.all (BI ops ms x)&&Nn ops ms r
def Ht(T:List Nat)(n:Nat)(ops:Array Oper)(x:Item):Bool:=(match ops[x.2.1]? with
 |some o=>iB P n ops o x.2.2&&o.after.all fun e=>!Region.binds .any e||(decide (e.on<ops.size)&&e.on !=x.2.1)
 |none=>false)&&(match x.2.2 with
 |⟨none,.store _ (.t c) _,none⟩=>decide (2<=x.1)||T.contains c
 |⟨some d,.an _,none⟩=>T.contains d
 |_=>true)
def acn(T:List Nat)(n:Nat)(ops:Array Oper)(l:List Item):Bool:=(l.length==ops.size&&(List.range ops.size).all fun k=>l.any fun x=>x.2.1==k)&&(l.all (Ht P T n ops)&&Nn ops (Lz ops.toList []) l)
def Tg(ops:Array Oper)(gE:List (List Bool)):Bool:=gE.length==ops.size&&(List.range ops.size).all fun j=>
 ((gE.getD j []).length==ops.size&&(List.range ops.size).all fun i=>!((gE.getD j []).getD i false)||iw ops j i)&&(match ops[j]? with
 |some o=>o.after.all fun e=>!Region.binds .any e||decide (e.on<j)
 |none=>false)
def Dn:Code->Nat->Option (List Code×Code)
 |.seq (.label m) r,l=>if m==l then some ([],r)else none
 |.seq s c,l=>if(findLabel s l).isNone then(Dn c l).map fun p=>(s::p.1,p.2)else none
 |_,_=>none
def zF:IC->Bool
 |.skip=>true
 |_=>false
def mG(n:Nat):Code->IC->Bool
 |.skip,.skip=>true
 |.region _ ops draw,.bJ q bF _=>cd P n ops ops.toList bF&&(match q with
  |none=>!draw
  |some q=>!draw||Te ops q bF)
 |.region _ ops draw,.oG T q bF _=>cd P n ops ops.toList bF&&(!draw||Mg T ops q bF)
 |.region _ ops draw,.NK T l _=>draw&&acn P T n ops l
 |.region _ ops draw,.Vd gE bF _=>draw&&(cd P n ops ops.toList bF&&Tg ops gE)
 |.seq a b,.seq a' b'=>mG n a a'&&mG n b b'
 |.seq a b,.join _ a' b'=>mG n a a'&&mG n b b'
 |.cond c a b,.cond c' a' b'=>bP c c'&&mG n a a'&&mG n b b'
 |.block i b,.block j b'=>i==j&&mG n b b'
 |.loop b,.loop _ b'=>mG n b b'
 |.exit i,.exit j=>i==j
 |.scope c,.Dj l _ a1 a2 a3 r'=>match Dn c l with
  |some ([],r)=>zF a1&&(zF a2&&(zF a3&&mG n r r'))
  |some ([s1],r)=>mG n s1 a1&&(zF a2&&(zF a3&&mG n r r'))
  |some ([s1,s2],r)=>mG n s1 a1&&(mG n s2 a2&&(zF a3&&mG n r r'))
  |some ([s1,s2,s3],r)=>mG n s1 a1&&(mG n s2 a2&&(mG n s3 a3&&mG n r r'))
  |_=>false
 |.scope b,.scope b'=>mG n b b'
 |.label l,.label l'=>l==l'
 |.goto l,.goto l'=>l==l'
 |.ret,.ret=>true
 |_,.dead=>true
 |_,_=>false
end
end Go.AB
end
