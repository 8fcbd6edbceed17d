/- A part. -/
import Derived.Test.YtkeagffgdajggaaGreatSt1
import Derived.Attr
set_option linter.unusedSimpArgs false
set_option linter.unusedVariables false
section
namespace Go.AB
open Go
section
variable(P:Program)(K:St->Prop)(Q:Exit->St->Prop)(E τ:St)(d:Option Nat)
@[go_sem]theorem acZ:swp P [] E K=K E:=rfl
@[go_sem]theorem abF(o:ai)(r:List ai):swp P (o::r) E K=JW P o E (abD P r K):=rfl
@[go_sem]theorem abE(r:List ai):abD P r K τ=swp P r τ K:=rfl
@[go_sem]theorem abj(q:Nat)(r:List ai):abi P q r K τ=Re P q r τ K:=rfl
@[go_sem]theorem abq(live:List Nat):sr live Q τ=Q .normal (τ.tG live):=rfl
@[go_sem]theorem IM(op:qT):JW P ⟨d,op,none⟩ E K=Ra P op E d K (pv op (xg true E) E):=rfl
@[go_sem]theorem ad6(op:qT):Yi P op d E K=Ra P op E d K (pv op (xg true E) E):=rfl
@[go_sem]theorem ZA(op:qT)(t:Nat)(want:Bool):JW P ⟨d,op,some (t,want)⟩ E K=xY P op d t want E K (look E.e t):=rfl
@[go_sem]theorem Zj(Q:Exit->St->Prop):fN P .dead Q E=False:=rfl
@[go_sem]theorem Zq:fN P .skip Q E=Q .normal E:=rfl
@[go_sem]theorem aca(ops:List ai)(live:List Nat):fN P (.bP none ops live) Q E=swp P ops E (sr live Q):=rfl
@[go_sem]theorem Zp(q:Nat)(ops:List ai)(live:List Nat):fN P (.bP (some q) ops live) Q E=Re P q ops E (sr live Q):=rfl
@[go_sem]theorem Zm(T:List Nat)(l:List (Nat×Nat×ai))(live:List Nat):fN P (.Az T l live) Q E=(fW T E.e=true/\EC P T l E (sr live Q)):=rfl
@[go_sem]theorem Zn(T:List Nat)(q:Nat)(ops:List ai)(live:List Nat):fN P (.C7 T q ops live) Q E=(fW T E.e=true/\CR P T q ops E (sr live Q)):=rfl
@[go_sem]theorem acd(a b:IC):fN P (.seq a b) Q E=fN P a (AO P b Q) E:=by
  have:(fun x τ=>match x with|.normal=>fN P b Q τ|x=>Q x τ)=AO P b Q:=by funext x τ;cases x<;>rfl
  rw[<-this];rfl
@[go_sem]theorem Zi(x:IX)(a b:IC):fN P (.cond x a b) Q E=LI P a b Q E (E.x x):=by
  show(match E.x x with|.bool v=>(v=true->fN P a Q E)/\(v=false->fN P b Q E)|_=>False)=_
  cases E.x x<;>rfl
@[go_sem]theorem XA(i:Nat)(b:IC):fN P (.block i b) Q E=fN P b (J9 i Q) E:=rfl
@[go_sem]theorem Zk(i:Nat):fN P (.exit i) Q E=Q (.exit i) E:=rfl
@[go_sem]theorem Zl(i:Nat):fN P (.goto i) Q E=Q (.goto i) E:=rfl
@[go_sem]theorem acb:fN P .ret Q E=Q .ret E:=rfl
@[go_sem]theorem U4(a b:IC)(v:Bool):LI P a b Q E (.bool v)=((v=true->fN P a Q E)/\(v=false->fN P b Q E)):=rfl
@[go_sem]theorem UB(b:IC):AO P b Q .normal τ=fN P b Q τ:=rfl
@[go_sem]theorem aby(b:IC):AO P b Q .ret τ=Q .ret τ:=rfl
@[go_sem]theorem YO(b:IC)(i:Nat):AO P b Q (.exit i) τ=Q (.exit i) τ:=rfl
@[go_sem]theorem YP(b:IC)(i:Nat):AO P b Q (.goto i) τ=Q (.goto i) τ:=rfl
@[go_sem]theorem TA(i:Nat):J9 i Q .normal τ=Q .normal τ:=rfl
@[go_sem]theorem Y6(i:Nat):J9 i Q .ret τ=Q .ret τ:=rfl
@[go_sem]theorem Xy(i l:Nat):J9 i Q (.goto l) τ=Q (.goto l) τ:=rfl
@[go_sem]theorem Xx(i j:Nat):J9 i Q (.exit j) τ=bif j==i then Q .normal τ else Q (.exit j) τ:=rfl
@[go_sem]theorem Sd(live:List (Nat×Bool))(J:St->Prop):nA live J Q .normal τ=J (τ.df live):=rfl
@[go_sem]theorem XP(live:List (Nat×Bool))(J:St->Prop):nA live J Q .ret τ=Q .ret τ:=rfl
@[go_sem]theorem VT(live:List (Nat×Bool))(J:St->Prop)(i:Nat):nA live J Q (.exit i) τ=Q (.exit i) τ:=rfl
@[go_sem]theorem VU(live:List (Nat×Bool))(J:St->Prop)(i:Nat):nA live J Q (.goto i) τ=Q (.goto i) τ:=rfl
@[go_sem]theorem Zo(fB:List (List Bool))(ops:List ai)(live:List Nat):fN P (.Nx fB ops live) Q E=NS P fB ops (sr live Q) ops (sH ops) E:=rfl
@[go_sem]theorem cV(fB:List (List Bool))(ops:List ai)(K:St->Prop)(d:List Bool)(o:ai)(f:List ai):NS P fB ops K (o::f) d E=Lt d fB [] d ops (fun o d=>JW P o E (ab2 P fB ops K f d)):=rfl
@[go_sem]theorem dB(fB:List (List Bool))(ops:List ai)(K:St->Prop)(f:List ai)(d:List Bool)(τ:St):ab2 P fB ops K f d τ=NS P fB ops K f d τ:=rfl
attribute[go_sem] xC zn sH
@[go_sem]theorem cg(done row pre xs:List Bool)(rows:List (List Bool))(x:Bool)(o:ai)(r:List ai)(F:ai->List Bool->Prop):Lt done (row::rows) pre (x::xs) (o::r) F=((bif !x&&xC row done then F o (zn pre (true::xs))else True)/\Lt done rows (x::pre) xs r F):=rfl
@[go_sem]theorem cU(done pre:List Bool)(F:ai->List Bool->Prop):Lt done [] pre [] [] F=True:=rfl
@[go_sem]theorem Ki(l:Nat)(live:List (Nat×Bool))(a1 a2 a3 r:IC):fN P (.vu l live a1 a2 a3 r) Q E=fN P a1 (AO P a2 (AO P a3 (JL live (Sc P l live r Q) Q))) E:=by
  show fN P a1 (fun x τ=>match x with|.normal=>fN P a2 (fun x τ=>match x with|.normal=>fN P a3 (JL live (Sc P l live r Q) Q) τ|x=>JL live (Sc P l live r Q) Q x τ) τ|x=>JL live (Sc P l live r Q) Q x τ) E=_
  congr 1
  funext x τ
  cases x with
  |normal=>
   show fN P a2 _ τ=fN P a2 _ τ
   congr 1
   funext x τ
   cases x<;>rfl
  |_=>rfl
@[go_sem]theorem UA(live:List (Nat×Bool))(I:St->Prop):JL live I Q .normal τ=I (τ.df live):=rfl
@[go_sem]theorem aak(l:Nat)(live:List (Nat×Bool))(I:St->Prop):KL l live I Q .ret τ=Q .ret τ:=rfl
@[go_sem]theorem XO(l:Nat)(live:List (Nat×Bool))(I:St->Prop):KL l live I Q (.goto l) τ=I (τ.df live):=by
  show(l=l/\I (τ.df live))=_
  simp
@[go_sem]theorem Si(live:List (Nat×Bool))(I:St->Prop)(μ:St->Nat)(m:Nat):E6 live I μ m Q .normal τ=(I (τ.df live)/\μ (τ.df live)<m):=rfl
@[go_sem]theorem XQ(live:List (Nat×Bool))(I:St->Prop)(μ:St->Nat)(m:Nat):E6 live I μ m Q .ret τ=Q .ret τ:=rfl
@[go_sem]theorem V4(live:List (Nat×Bool))(I:St->Prop)(μ:St->Nat)(m i:Nat):E6 live I μ m Q (.exit i) τ=Q (.exit i) τ:=rfl
end
section
@[go_sem]theorem Xo:view (.undef)=(.undef):=rfl
@[go_sem]theorem Z8(b:Bool):cO (.bool b)=true:=rfl
@[go_sem]theorem abL(g:Bool)(b:Bool):vz g (.bool b)=(.bool b):=rfl
@[go_sem]theorem YQ(b:Bool):view (.bool b)=(.bool b):=rfl
@[go_sem]theorem Ru(b:Bool):cellsOf (.bool b)=[(.bool b)]:=rfl
@[go_sem]theorem S7(b:Bool):aU (.bool b)=[(.bool b)]:=rfl
@[go_sem]theorem V8(E:St)(i:Nat)(b:Bool):bI E (.bool b) (some i)=E:=rfl
@[go_sem]theorem acm(k:IntKind)(n:Int):cO (.int k n)=true:=rfl
@[go_sem]theorem ac2(g:Bool)(k:IntKind)(n:Int):vz g (.int k n)=(.int k n):=rfl
@[go_sem]theorem abS(k:IntKind)(n:Int):view (.int k n)=(.int k n):=rfl
@[go_sem]theorem TH(k:IntKind)(n:Int):cellsOf (.int k n)=[(.int k n)]:=rfl
@[go_sem]theorem UF(k:IntKind)(n:Int):aU (.int k n)=[(.int k n)]:=rfl
@[go_sem]theorem X0(E:St)(i:Nat)(k:IntKind)(n:Int):bI E (.int k n) (some i)=E:=rfl
@[go_sem]theorem aco(s:List UInt8):cO (.str s)=true:=rfl
@[go_sem]theorem ac5(g:Bool)(s:List UInt8):vz g (.str s)=(.str s):=rfl
@[go_sem]theorem abV(s:List UInt8):view (.str s)=(.str s):=rfl
@[go_sem]theorem TJ(s:List UInt8):cellsOf (.str s)=[(.str s)]:=rfl
@[go_sem]theorem X4(E:St)(i:Nat)(s:List UInt8):bI E (.str s) (some i)=E:=rfl
@[go_sem]theorem adT(t n:Nat)(cs:List AV):cO (.bb t n cs)=true:=rfl
@[go_sem]theorem ac7(t n:Nat)(cs:List AV):view (.bb t n cs)=.sl false 1 n cs:=rfl
@[go_sem]theorem Xf(t n:Nat)(cs:List AV):aU (.bb t n cs)=[.bb t n cs]:=rfl
@[go_sem]theorem aaa:cO (.kp)=true:=rfl
@[go_sem]theorem abN(g:Bool):vz g (.kp)=(.kp):=rfl
@[go_sem]theorem YT:view (.kp)=(.kp):=rfl
@[go_sem]theorem Wa(E:St)(i:Nat):bI E (.kp) (some i)=E:=rfl
@[go_sem]theorem TO:dc (.kp)=.kp:=rfl
@[go_sem]theorem YR(t:Nat):view (.lW t)=.cZ:=rfl
@[go_sem]theorem aab:cO (.cZ)=true:=rfl
@[go_sem]theorem abO(g:Bool):vz g (.cZ)=(.cZ):=rfl
@[go_sem]theorem YU:view (.cZ)=(.cZ):=rfl
@[go_sem]theorem Wb(E:St)(i:Nat):bI E (.cZ) (some i)=E:=rfl
@[go_sem]theorem acn(b o:Nat):cO (.ref b o)=true:=rfl
@[go_sem]theorem ac4(g:Bool)(b o:Nat):vz g (.ref b o)=(.ref b o):=rfl
@[go_sem]theorem abU(b o:Nat):view (.ref b o)=(.ref b o):=rfl
@[go_sem]theorem TI(b o:Nat):cellsOf (.ref b o)=[(.ref b o)]:=rfl
@[go_sem]theorem UG(b o:Nat):aU (.ref b o)=[(.ref b o)]:=rfl
@[go_sem]theorem X3(E:St)(i:Nat)(b o:Nat):bI E (.ref b o) (some i)=E:=rfl
@[go_sem]theorem aev(g:Bool)(b o:Nat):vz g (.lp b o)=(.lp b o):=rfl
@[go_sem]theorem XX(E:St)(i:Nat)(b o:Nat):bI E (.lp b o) (some i)={E with lp:=(i,b)::E.lp}:=rfl
@[go_sem]theorem aey(g:Bool)(cs:List AV):vz g (.sp cs)=(.sp cs):=rfl
@[go_sem]theorem aay(E:St)(i:Nat)(cs:List AV):bI E (.sp cs) (some i)=E:=rfl
@[go_sem]theorem ac3(g:Bool)(cs:List AV):vz g (.loc cs)=(.loc cs):=rfl
@[go_sem]theorem abT(cs:List AV):view (.loc cs)=(.loc cs):=rfl
@[go_sem]theorem adW(o:Bool)(z n:Nat)(cs:List AV):cO (.sl o z n cs)=true:=rfl
@[go_sem]theorem aex(g:Bool)(o:Bool)(z n:Nat)(cs:List AV):vz g (.sl o z n cs)=(.sl o z n cs):=rfl
@[go_sem]theorem ada(o:Bool)(z n:Nat)(cs:List AV):view (.sl o z n cs)=(.sl false z n cs):=rfl
@[go_sem]theorem U1(o:Bool)(z n:Nat)(cs:List AV):cellsOf (.sl o z n cs)=[(.sl o z n cs)]:=rfl
@[go_sem]theorem Xg(o:Bool)(z n:Nat)(cs:List AV):aU (.sl o z n cs)=[(.sl o z n cs)]:=rfl
@[go_sem]theorem aax(E:St)(i:Nat)(o:Bool)(z n:Nat)(cs:List AV):bI E (.sl o z n cs) (some i)=E:=rfl
@[go_sem]theorem ack(b o l c:Nat):cO (.arr b o l c)=true:=rfl
@[go_sem]theorem ac1(g:Bool)(b o l c:Nat):vz g (.arr b o l c)=(.arr b o l c):=rfl
@[go_sem]theorem abR(b o l c:Nat):view (.arr b o l c)=(.arr b o l c):=rfl
@[go_sem]theorem UE(b o l c:Nat):aU (.arr b o l c)=[(.arr b o l c)]:=rfl
@[go_sem]theorem XZ(E:St)(i:Nat)(b o l c:Nat):bI E (.arr b o l c) (some i)=E:=rfl
@[go_sem]theorem acj(cs:List AV):cO (.agg cs)=true:=rfl
@[go_sem]theorem ac0(g:Bool)(cs:List AV):vz g (.agg cs)=(.agg cs):=rfl
@[go_sem]theorem abQ(cs:List AV):view (.agg cs)=(.agg cs):=rfl
@[go_sem]theorem TG(cs:List AV):cellsOf (.agg cs)=cs:=rfl
@[go_sem]theorem UD(cs:List AV):aU (.agg cs)=views cs:=rfl
@[go_sem]theorem XY(E:St)(i:Nat)(cs:List AV):bI E (.agg cs) (some i)=E:=rfl
@[go_sem]theorem ac6(g:Bool)(cs:List AV):vz g (.gb cs)=(.gb cs):=rfl
@[go_sem]theorem X5(E:St)(i:Nat)(cs:List AV):bI E (.gb cs) (some i)=E:=rfl
@[go_sem]theorem adU(f:Nat)(x y:List AV):cO (.fn f x y)=true:=rfl
@[go_sem]theorem aeu(g:Bool)(f:Nat)(x y:List AV):vz g (.fn f x y)=(.fn f x y):=rfl
@[go_sem]theorem ac8(f:Nat)(x y:List AV):view (.fn f x y)=(.fn f x y):=rfl
@[go_sem]theorem aav(E:St)(i:Nat)(f:Nat)(x y:List AV):bI E (.fn f x y) (some i)=E:=rfl
@[go_sem]theorem Z9:cO (.nn)=true:=rfl
@[go_sem]theorem abM(g:Bool):vz g (.nn)=(.nn):=rfl
@[go_sem]theorem YS:view (.nn)=(.nn):=rfl
@[go_sem]theorem V9(E:St)(i:Nat):bI E (.nn) (some i)=E:=rfl
@[go_sem]theorem adV(b:Nat):cO (.mp b)=true:=rfl
@[go_sem]theorem aew(g:Bool)(b:Nat):vz g (.mp b)=(.mp b):=rfl
@[go_sem]theorem ac9(b:Nat):view (.mp b)=(.mp b):=rfl
@[go_sem]theorem U0(b:Nat):cellsOf (.mp b)=[(.mp b)]:=rfl
@[go_sem]theorem aaw(E:St)(i:Nat)(b:Nat):bI E (.mp b) (some i)=E:=rfl
@[go_sem]theorem SK(f:IX->AV)(E:St)(x:IX):pv (.iJ true x) f E=.no:=rfl
@[go_sem]theorem WM(f:IX->AV)(E:St)(z:List AV):pv (.aA z) f E=.no:=rfl
@[go_sem]theorem WN(f:IX->AV)(E:St)(z:List AV):pv (.gH z) f E=.no:=rfl
@[go_sem]theorem aaZ(f:IX->AV)(E:St)(n:Nat)(x:IX):pv (.jf n x) f E=.no:=rfl
@[go_sem]theorem aa1(f:IX->AV)(E:St)(n:Nat)(x:IX):pv (.qE n x) f E=.no:=rfl
@[go_sem]theorem Uo(f:IX->AV)(E:St)(a b:Nat)(z:List AV)(p:List (Nat×Nat×IX)):pv (.bB a b z p) f E=.no:=rfl
@[go_sem]theorem Yt(f:IX->AV)(E:St)(n:Nat)(p v:IX):pv (.store n p v) f E=.no:=rfl
@[go_sem]theorem La(f:IX->AV)(E:St)(a b:Nat)(x y:IX):pv (.append a b x y) f E=.no:=rfl
@[go_sem]theorem WD(f:IX->AV)(E:St)(x:IX):pv (.eP x) f E=pJ (f x):=rfl
attribute[go_sem] pJ.eq_1 QK.eq_1 OF.eq_1
@[go_sem]theorem WQ(f:IX->AV)(E:St)(a b:Nat)(z:List AV)(x y:IX):pv (.gS a b z x y) f E=.no:=rfl
@[go_sem]theorem Ur(f:IX->AV)(E:St):pv (.makeMap) f E=.no:=rfl
@[go_sem]theorem aa3(f:IX->AV)(E:St)(n:Nat)(l:List IX):pv (.call n l) f E=.no:=rfl
@[go_sem]theorem Yo(f:IX->AV)(E:St)(x:IX)(l:List IX):pv (.dj x l) f E=.no:=rfl
@[go_sem]theorem VK(b:Bool):inner (.bool b)=true:=rfl
@[go_sem]theorem XG(k:IntKind)(n:Int):inner (.int k n)=true:=rfl
@[go_sem]theorem XI(s:List UInt8):inner (.str s)=true:=rfl
@[go_sem]theorem VM:inner (.cZ)=true:=rfl
@[go_sem]theorem XH(b o:Nat):inner (.ref b o)=true:=rfl
@[go_sem]theorem Z3(b o:Nat):inner (.lp b o)=true:=rfl
@[go_sem]theorem Z5(cs:List AV):inner (.sp cs)=true:=rfl
@[go_sem]theorem Z4(o:Bool)(z n:Nat)(cs:List AV):inner (.sl o z n cs)=true:=rfl
@[go_sem]theorem XF(b o l c:Nat):inner (.arr b o l c)=true:=rfl
@[go_sem]theorem XE(cs:List AV):inner (.agg cs)=true:=rfl
@[go_sem]theorem Ri(g:Bool)(a:AV):vz g (.when g a)=bif inner a then a else .undef:=by simp[vz]
@[go_sem]theorem Zx(x:Bool):Vn (.bool x)=some (true,x):=rfl
@[go_sem]theorem Zy(b x:Bool):Vn (.when b (.bool x))=some (b,x):=rfl
@[go_sem]theorem ach:Vn (.gb [])=some (false,false):=rfl
@[go_sem]theorem adZ(g b:Bool):(g=true->b=true->(g&&b)=true)=True:=by cases g<;>cases b<;>simp
@[go_sem]theorem ad0(g b:Bool):(g=true->b=false->(g&&!b)=true)=True:=by cases g<;>cases b<;>simp
@[go_sem]theorem ad1(b:Bool):(b=false->(!b)=true)=True:=by cases b<;>simp
@[go_sem]theorem Zh(b x:Bool):(bif b then x else false)=(b&&x):=by cases b<;>rfl
@[go_sem]theorem ab9(b x:Bool):(bif b then true else x)=(b||x):=by cases b<;>rfl
@[go_sem]theorem aeF(b:Bool):(b==true)=b:=by cases b<;>rfl
@[go_sem]theorem aeE(b:Bool):(b==false)=!b:=by cases b<;>rfl
@[go_sem]theorem aal(k:IntKind):Nb k k=true:=by simp[Nb]
@[go_sem]theorem adX(a b:Nat)(cs:List AV):cO (.us a b cs)=false:=rfl
@[go_sem]theorem aci(a b:Nat)(cs:List AV):PD (.us a b cs)=true:=rfl
@[go_sem]theorem abv:iw []=true:=rfl
@[go_sem]theorem abw(a b:AV)(l:List AV):iw (a::b::l)=true:=rfl
@[go_sem]theorem abt:dX []=.gb []:=rfl
@[go_sem]theorem abu(a b:AV)(l:List AV):dX (a::b::l)=.gb (a::b::l):=rfl
@[go_sem]theorem YV:views []=[]:=rfl
@[go_sem]theorem Xp(a:AV)(l:List AV):views (a::l)=view a::views l:=rfl
@[go_sem]theorem x_t(E:St)(i:Nat):E.x (.t i)=look E.e i:=rfl
@[go_sem]theorem x_c(E:St)(a:AV):E.x (.c a)=a:=rfl
@[go_sem]theorem aaX(E:St)(i:Nat)(a:AV):E.put (some i) a={E with e:=(i,a)::E.e}:=rfl
@[go_sem]theorem aaW(E:St)(a:AV):E.put none a=E:=rfl
@[go_sem]theorem look_nil(i:Nat):look [] i=.undef:=rfl
@[go_sem]theorem V3(j i:Nat)(a:AV)(l:List (Nat×AV)):look ((j,a)::l) i=bif j==i then a else look l i:=rfl
section
variable(P:Program)(K:St->Prop)(E:St)
@[go_sem]theorem abl(l:List ai):Re P 0 l E K=swp P l E K:=rfl
@[go_sem]theorem abk(q:Nat)(o:ai)(r:List ai):Re P (q+1) (o::r) E K=(aX E o.dst=true/\q1 P o E (abi P q r K)):=rfl
@[go_sem]theorem aeb(d:Option Nat)(x:IX):q1 P ⟨d,.iJ false x,none⟩ E K=qK E d K (qv ⟨d,.iJ false x,none⟩ E):=rfl
@[go_sem]theorem aee(d:Option Nat)(x:IX):q2 P ⟨d,.iJ false x,none⟩ E K=(aX E d=true/\qK E d K (qv ⟨d,.iJ false x,none⟩ E)):=by cases d<;>rfl
@[go_sem]theorem acK(d:Option Nat)(t:Nat)(want:Bool)(x:IX):q1 P ⟨d,.iJ false x,(some (t,want))⟩ E K=qK E d K (qv ⟨d,.iJ false x,(some (t,want))⟩ E):=rfl
@[go_sem]theorem acM(d:Option Nat)(c x y:IX):q1 P ⟨d,.pick c x y,none⟩ E K=qK E d K (qv ⟨d,.pick c x y,none⟩ E):=rfl
@[go_sem]theorem abc(d:Option Nat)(z:List AV)(ps:List (Nat×Nat×IX)):q2 P ⟨d,.build z ps,none⟩ E K=(aX E d=true/\qK E d K (qv ⟨d,.build z ps,none⟩ E)):=by cases d<;>rfl
@[go_sem]theorem acJ(d:Option Nat)(n:Nat)(m:Bool)(x:IX):q1 P ⟨d,.load n m x,none⟩ E K=qK E d K (qv ⟨d,.load n m x,none⟩ E):=rfl
@[go_sem]theorem acO(d:Option Nat)(n:Nat)(m:Bool)(x:IX):q2 P ⟨d,.load n m x,none⟩ E K=(aX E d=true/\qK E d K (qv ⟨d,.load n m x,none⟩ E)):=by cases d<;>rfl
@[go_sem]theorem aa8(d:Option Nat)(t:Nat)(want:Bool)(n:Nat)(m:Bool)(x:IX):q1 P ⟨d,.load n m x,(some (t,want))⟩ E K=qK E d K (qv ⟨d,.load n m x,(some (t,want))⟩ E):=rfl
@[go_sem]theorem Us(d:Option Nat)(x:IX):q1 P ⟨d,.nilCheck x,none⟩ E K=qK E d K (qv ⟨d,.nilCheck x,none⟩ E):=rfl
@[go_sem]theorem Ut(d:Option Nat)(x:IX):q2 P ⟨d,.nilCheck x,none⟩ E K=(aX E d=true/\qK E d K (qv ⟨d,.nilCheck x,none⟩ E)):=by cases d<;>rfl
@[go_sem]theorem SN(d:Option Nat)(t:Nat)(want:Bool)(x:IX):q1 P ⟨d,.nilCheck x,(some (t,want))⟩ E K=qK E d K (qv ⟨d,.nilCheck x,(some (t,want))⟩ E):=rfl
@[go_sem]theorem ad8(d:Option Nat)(b:BinOp)(x y:IX):q1 P ⟨d,.bin b x y,none⟩ E K=qK E d K (qv ⟨d,.bin b x y,none⟩ E):=rfl
@[go_sem]theorem aed(d:Option Nat)(b:BinOp)(x y:IX):q2 P ⟨d,.bin b x y,none⟩ E K=(aX E d=true/\qK E d K (qv ⟨d,.bin b x y,none⟩ E)):=by cases d<;>rfl
@[go_sem]theorem acG(d:Option Nat)(t:Nat)(want:Bool)(b:BinOp)(x y:IX):q1 P ⟨d,.bin b x y,(some (t,want))⟩ E K=qK E d K (qv ⟨d,.bin b x y,(some (t,want))⟩ E):=rfl
@[go_sem]theorem ad9(d:Option Nat)(n:Bool)(x y:IX):q1 P ⟨d,.HO n x y,none⟩ E K=qK E d K (qv ⟨d,.HO n x y,none⟩ E):=rfl
@[go_sem]theorem ae1(d:Option Nat)(u:UnOp)(x:IX):q1 P ⟨d,.un u x,none⟩ E K=qK E d K (qv ⟨d,.un u x,none⟩ E):=rfl
@[go_sem]theorem aec(d:Option Nat)(t:Nat)(want:Bool)(u:UnOp)(x:IX):q1 P ⟨d,.un u x,(some (t,want))⟩ E K=qK E d K (qv ⟨d,.un u x,(some (t,want))⟩ E):=rfl
@[go_sem]theorem Yv(d:Option Nat)(k:IntKind)(x:IX):q1 P ⟨d,.cC k x,none⟩ E K=qK E d K (qv ⟨d,.cC k x,none⟩ E):=rfl
@[go_sem]theorem YA(d:Option Nat)(x i:IX):q1 P ⟨d,.de x i,none⟩ E K=qK E d K (qv ⟨d,.de x i,none⟩ E):=rfl
@[go_sem]theorem YG(d:Option Nat)(x i:IX):q2 P ⟨d,.de x i,none⟩ E K=(aX E d=true/\qK E d K (qv ⟨d,.de x i,none⟩ E)):=by cases d<;>rfl
@[go_sem]theorem WS(d:Option Nat)(t:Nat)(want:Bool)(x i:IX):q1 P ⟨d,.de x i,(some (t,want))⟩ E K=qK E d K (qv ⟨d,.de x i,(some (t,want))⟩ E):=rfl
@[go_sem]theorem SL(d:Option Nat)(f:Nat)(x:IX):q1 P ⟨d,.fieldAddr f x,none⟩ E K=qK E d K (qv ⟨d,.fieldAddr f x,none⟩ E):=rfl
@[go_sem]theorem SP(d:Option Nat)(f:Nat)(x:IX):q2 P ⟨d,.fieldAddr f x,none⟩ E K=(aX E d=true/\qK E d K (qv ⟨d,.fieldAddr f x,none⟩ E)):=by cases d<;>rfl
@[go_sem]theorem Rb(d:Option Nat)(t:Nat)(want:Bool)(f:Nat)(x:IX):q1 P ⟨d,.fieldAddr f x,(some (t,want))⟩ E K=qK E d K (qv ⟨d,.fieldAddr f x,(some (t,want))⟩ E):=rfl
@[go_sem]theorem SM(d:Option Nat)(z:List AV)(x i:IX):q1 P ⟨d,.indexAddr z x i,none⟩ E K=qK E d K (qv ⟨d,.indexAddr z x i,none⟩ E):=rfl
@[go_sem]theorem SQ(d:Option Nat)(z:List AV)(x i:IX):q2 P ⟨d,.indexAddr z x i,none⟩ E K=(aX E d=true/\qK E d K (qv ⟨d,.indexAddr z x i,none⟩ E)):=by cases d<;>rfl
@[go_sem]theorem Rc(d:Option Nat)(t:Nat)(want:Bool)(z:List AV)(x i:IX):q1 P ⟨d,.indexAddr z x i,(some (t,want))⟩ E K=qK E d K (qv ⟨d,.indexAddr z x i,(some (t,want))⟩ E):=rfl
@[go_sem]theorem abb(d:Option Nat)(z:Nat)(x:IX)(lo hi mx:Option IX):q1 P ⟨d,.slice z x lo hi mx,none⟩ E K=qK E d K (qv ⟨d,.slice z x lo hi mx,none⟩ E):=rfl
@[go_sem]theorem YB(d:Option Nat)(t:Nat)(want:Bool)(z:Nat)(x:IX)(lo hi mx:Option IX):q1 P ⟨d,.slice z x lo hi mx,(some (t,want))⟩ E K=qK E d K (qv ⟨d,.slice z x lo hi mx,(some (t,want))⟩ E):=rfl
@[go_sem]theorem YC(d:Option Nat)(x:IX)(lo hi:Option IX):q1 P ⟨d,.js x lo hi,none⟩ E K=qK E d K (qv ⟨d,.js x lo hi,none⟩ E):=rfl
@[go_sem]theorem WU(d:Option Nat)(x:IX)(k:Nat):q2 P ⟨d,.extract x k,none⟩ E K=(aX E d=true/\qK E d K (qv ⟨d,.extract x k,none⟩ E)):=by cases d<;>rfl
@[go_sem]theorem aea(d:Option Nat)(c:Nat)(x:IX):q1 P ⟨d,.len c x,none⟩ E K=qK E d K (qv ⟨d,.len c x,none⟩ E):=rfl
@[go_sem]theorem acI(d:Option Nat)(t:Nat)(want:Bool)(c:Nat)(x:IX):q1 P ⟨d,.len c x,(some (t,want))⟩ E K=qK E d K (qv ⟨d,.len c x,(some (t,want))⟩ E):=rfl
@[go_sem]theorem Yz(d:Option Nat)(m:Bool)(xs:List IX):q1 P ⟨d,.gT m xs,none⟩ E K=qK E d K (qv ⟨d,.gT m xs,none⟩ E):=rfl
@[go_sem]theorem acL(d:Option Nat)(x:IX):q1 P ⟨d,.iJ true x,none⟩ E K=Nj E x d K (E.x x):=rfl
@[go_sem]theorem acP(d:Option Nat)(x:IX):q2 P ⟨d,.iJ true x,none⟩ E K=(aX E d=true/\Nj E x d K (E.x x)):=by cases d<;>rfl
@[go_sem]theorem acH(d:Option Nat)(f:Nat)(args:List IX):q1 P ⟨d,.call f args,none⟩ E K=Mo P f E d K (bQ (xg true E) args):=rfl
@[go_sem]theorem acN(d:Option Nat)(f:Nat)(args:List IX):q2 P ⟨d,.call f args,none⟩ E K=(aX E d=true/\Mo P f E d K (bQ (xg true E) args)):=by cases d<;>rfl
@[go_sem]theorem aa6(d:Option Nat)(f:Nat)(args:List IX)(t:Nat)(want:Bool):q1 P ⟨d,.call f args,some (t,want)⟩ E K=CO P f args want E d K (look E.e t):=rfl
@[go_sem]theorem Yw(d:Option Nat)(x:IX):q1 P ⟨d,.eP x,none⟩ E K=qK E d K (qv ⟨d,.eP x,none⟩ E):=rfl
@[go_sem]theorem WR(d:Option Nat)(sz n:Nat)(z:List AV)(ps:List (Nat×Nat×IX))(g:Option (Nat×Bool)):q1 P ⟨d,.bB sz n z ps,g⟩ E K=qK E d K (CP ⟨d,.bB sz n z ps,g⟩ E):=rfl
@[go_sem]theorem WT(d:Option Nat)(sz n:Nat)(z:List AV)(ps:List (Nat×Nat×IX))(g:Option (Nat×Bool)):q2 P ⟨d,.bB sz n z ps,g⟩ E K=(aX E d=true/\qK E d K (CP ⟨d,.bB sz n z ps,g⟩ E)):=by cases d<;>rfl
@[go_sem]theorem aba(d:Option Nat)(z:List AV)(m:Bool)(x:IX):q1 P ⟨d,.bM z m x,none⟩ E K=qK E d K (qv ⟨d,.bM z m x,none⟩ E):=rfl
@[go_sem]theorem abd(d:Option Nat)(z:List AV)(m:Bool)(x:IX):q2 P ⟨d,.bM z m x,none⟩ E K=(aX E d=true/\qK E d K (qv ⟨d,.bM z m x,none⟩ E)):=by cases d<;>rfl
@[go_sem]theorem Yy(d:Option Nat)(t:Nat)(want:Bool)(z:List AV)(m:Bool)(x:IX):q1 P ⟨d,.bM z m x,(some (t,want))⟩ E K=qK E d K (qv ⟨d,.bM z m x,(some (t,want))⟩ E):=rfl
@[go_sem]theorem aa9(d:Option Nat)(k:IntKind)(x:IX):q1 P ⟨d,.lQ k x,none⟩ E K=qK E d K (qv ⟨d,.lQ k x,none⟩ E):=rfl
@[go_sem]theorem Yx(d:Option Nat)(t:Nat)(want:Bool)(k:IntKind)(x:IX):q1 P ⟨d,.lQ k x,(some (t,want))⟩ E K=qK E d K (qv ⟨d,.lQ k x,(some (t,want))⟩ E):=rfl
@[go_sem]theorem Yk(f:IX->AV)(E:St)(k:IntKind)(x:IX):pv (.lQ k x) f E=yn k E.s (f x):=rfl
@[go_sem]theorem V1(k:IntKind)(s:ab)(b off:Nat):yn k s (.ref b off)=.prt (GP k off (s b)) (.int k (GQ off (s b))):=rfl
@[go_sem]theorem Yl(f:IX->AV)(E:St)(z:List AV)(m:Bool)(x:IX):pv (.bM z m x) f E=E4 z m E.s (f x):=rfl
@[go_sem]theorem Uq(f:IX->AV)(E:St)(kk:lE)(z:AV)(ok:Bool)(x k:IX):pv (.lookup kk z ok x k) f E=.no:=rfl
@[go_sem]theorem Up(f:IX->AV)(E:St)(x:IX):pv (.jg x) f E=.no:=rfl
@[go_sem]theorem Qi(f:IX->AV)(E:St)(kk:lE)(x k v:IX):pv (.mapUpdate kk x k v) f E=.no:=rfl
@[go_sem]theorem VQ(d:Option Nat)(kk:lE)(z:AV)(ok:Bool)(x k:IX):gz P (.lookup kk z ok x k) d E K=K6 E d K (ij kk z ok E.s (xg true E k) (xg true E x)):=rfl
@[go_sem]theorem VP(d:Option Nat)(x:IX):gz P (.jg x) d E K=K6 E d K (AA (xg true E x)):=rfl
@[go_sem]theorem Q9(d:Option Nat)(kk:lE)(x k v:IX):gz P (.mapUpdate kk x k v) d E K=s9 kk E (xg true E k) (xg true E v) d K (xg true E x):=rfl
@[go_sem]theorem YF(d:Option Nat)(x:IX)(g:Option (Nat×Bool)):q2 P ⟨d,.qP x,g⟩ E K=(aX E d=true/\qK E d K (CP ⟨d,.qP x,g⟩ E)):=by cases d<;>rfl
@[go_sem]theorem Ys(f:IX->AV)(E:St)(x:IX):pv (.qP x) f E=.no:=rfl
@[go_sem]theorem aag(d:Option Nat)(x:IX):gz P (.qP x) d E K=K6 E d K (zk (xg true E x)):=rfl
@[go_sem]theorem acR(f:IX->AV)(s:ab)(x:IX):qe f s (.qP x)=zk (f x):=rfl
@[go_sem]theorem abf(d:Option Nat)(o:qT):CP ⟨d,o,none⟩ E=qe (xg true E) E.s o:=rfl
@[go_sem]theorem abh(f:IX->AV)(s:ab)(sz n:Nat)(z:List AV)(ps:List (Nat×Nat×IX)):qe f s (.bB sz n z ps)=C9 sz n (fill f z ps):=rfl
@[go_sem]theorem acV(n:Nat)(x:Int)(cs:List AV):AA (.sl true 1 (n+1) (.int .u8 x::cs))=.cT (.sl false 1 (n+1) (.int .u8 x::cs)):=rfl
attribute[go_sem] zk.eq_1 E4.eq_1 Jh.eq_1 ij.eq_1 ij.eq_2 K6.eq_1 K6.eq_2 K6.eq_3
attribute[go_sem] sP.eq_1 C9.eq_1
@[go_sem]theorem acS(d:Option Nat)(o:qT):qv ⟨d,o,none⟩ E=pv o (xg true E) E:=rfl
@[go_sem]theorem acT(d:Option Nat)(o:qT)(t:Nat)(want:Bool):qv ⟨d,o,some (t,want)⟩ E=JB o want E (look E.e t):=rfl
@[go_sem]theorem acC(f:IX->AV)(E:St)(x:IX):pv (.cap x) f E=Kf (f x):=rfl
@[go_sem]theorem SJ(f:IX->AV)(E:St)(a b:Nat)(z:List AV)(p:List (Nat×Nat×IX)):pv (.jP a b z p) f E=.no:=rfl
@[go_sem]theorem Ul(f:IX->AV)(E:St)(a b:Nat)(z:List AV)(x y:IX):pv (.fL a b z x y) f E=.no:=rfl
@[go_sem]theorem Un(f:IX->AV)(E:St)(a b:Nat)(z:List AV)(x y:IX):pv (.lV a b z x y) f E=.no:=rfl
@[go_sem]theorem T3(d:Option Nat)(sz by':Nat)(z:List AV)(x y:IX):gz P (.lV sz by' z x y) d E K=qW sz by' z E d K (E.x x) (xg true E y):=rfl
@[go_sem]theorem Yp(f:IX->AV)(E:St)(a:Nat)(x y:IX):pv (.vQ a x y) f E=.no:=rfl
@[go_sem]theorem WO(f:IX->AV)(E:St)(z:List AV)(x:IX):pv (.pI z x) f E=.no:=rfl
@[go_sem]theorem acF(f:IX->AV)(E:St)(a:Nat)(o:Bool)(x:IX):pv (.NY a o x) f E=.no:=rfl
@[go_sem]theorem Nw(f:IX->AV)(E:St)(off:Nat)(j x:IX):pv (.lP off j x) f E=.no:=rfl
@[go_sem]theorem Yq(f:IX->AV)(E:St)(x:IX):pv (.lq x) f E=.no:=rfl
@[go_sem]theorem acE(f:IX->AV)(E:St)(o:Bool)(x:IX):pv (.RH o x) f E=.no:=rfl
@[go_sem]theorem Sb(d:Option Nat)(sz n:Nat)(z:List AV)(p:List (Nat×Nat×IX)):gz P (.jP sz n z p) d E K=sO sz n E d K (fill (xg true E) z p):=rfl
@[go_sem]theorem T1(d:Option Nat)(sz by':Nat)(z:List AV)(x y:IX):gz P (.fL sz by' z x y) d E K=dK sz by' z E d K (E.x x) (tO E.s sz (E.x y)):=rfl
@[go_sem]theorem XL(d:Option Nat)(sz:Nat)(x y:IX):gz P (.vQ sz x y) d E K=uM sz E d K (E.x x) (tO E.s sz (E.x y)):=rfl
@[go_sem]theorem VO(d:Option Nat)(z:List AV)(x:IX):gz P (.pI z x) d E K=vM z E d K (E.x x):=rfl
@[go_sem]theorem acq(d:Option Nat)(sz:Nat)(o:Bool)(x:IX):gz P (.NY sz o x) d E K=zZ sz o E d K (E.x x):=rfl
@[go_sem]theorem XM(d:Option Nat)(x:IX):gz P (.lq x) d E K=nX E d K (E.x x):=rfl
@[go_sem]theorem acp(d:Option Nat)(o:Bool)(x:IX):gz P (.RH o x) d E K=M7 o E d K (E.x x):=rfl
@[go_sem]theorem aa7(d:Option Nat)(x:IX)(args:List IX):q1 P ⟨d,.dj x args,none⟩ E K=Lc P E (bQ (xg true E) args) d K (xg true E x):=rfl
@[go_sem]theorem Yu(d:Option Nat)(x:IX)(args:List IX)(t:Nat)(want:Bool):q1 P ⟨d,.dj x args,some (t,want)⟩ E K=Ba P x args want E d K (look E.e t):=rfl
@[go_sem]theorem YH(f:Nat)(first dZ:List AV)(args:Option (List AV))(d:Option Nat):Lc P E args d K (.fn f first dZ)=Hk P f first dZ E d K args:=rfl
@[go_sem]theorem SR(f:Nat)(first dZ as:List AV)(d:Option Nat):Hk P f first dZ E d K (some as)=(uQ P f=true/\∃rs,iw rs=true/\FE P f (first++as++dZ) E.s rs E.s/\K (E.put d (dX rs))):=rfl
@[go_sem]theorem SS(x:IX)(args:List IX)(want b:Bool)(d:Option Nat):Ba P x args want E d K (.bool b)=(∃rs,iw rs=true/\((b==want)=true->∃f as,callee x args (b==want) E f as/\uQ P f=true/\FE P f as E.s rs E.s)/\K (E.put d (.when (b==want) (dX rs)))):=rfl
@[go_sem]theorem acD(f:IX->AV)(E:St)(ne:Bool)(x:IX):pv (.Q7 ne x) f E=IA ne (f x):=rfl
@[go_sem]theorem ace(ne:Bool)(b o:Nat):DJ ne (.ref b o) (.ref b o)=.cT (.bool (!ne)):=by simp[DJ]
@[go_sem]theorem aa5(f:IX->AV)(E:St)(x:IX):pv (.F5 x) f E=.no:=rfl
@[go_sem]theorem aa4(f:IX->AV)(E:St)(u:Nat)(x:IX):pv (.F4 u x) f E=.no:=rfl
@[go_sem]theorem aa2(f:IX->AV)(E:St)(n t j u:Nat)(x:IX):pv (.FR n t j u x) f E=.no:=rfl
@[go_sem]theorem Um(f:IX->AV)(E:St)(t:Nat)(x y:IX):pv (.lU t x y) f E=.no:=rfl
@[go_sem]theorem T2(d:Option Nat)(t:Nat)(x y:IX):gz P (.lU t x y) d E K=oA t E x d K (E.x x) (E.x y):=rfl
@[go_sem]theorem aaf(d:Option Nat)(x:IX):gz P (.F5 x) d E K=Im E d K (E.x x):=rfl
@[go_sem]theorem aae(d:Option Nat)(u:Nat)(x:IX):gz P (.F4 u x) d E K=Il P u E d K (E.x x):=rfl
@[go_sem]theorem aad(d:Option Nat)(n t j u:Nat)(x:IX):gz P (.FR n t j u x) d E K=Ot n t j u E d K (E.x x):=rfl
@[go_sem]theorem Yn(f:IX->AV)(E:St)(g:Nat)(x:IX):pv (.vK g x) f E=.no:=rfl
@[go_sem]theorem XK(d:Option Nat)(f:Nat)(x:IX):gz P (.vK f x) d E K=FV P f E d K (E.x x):=rfl
@[go_sem]theorem Yr(f:IX->AV)(E:St)(z:Nat)(o:Bool)(x:IX):pv (.ux z o x) f E=.no:=rfl
@[go_sem]theorem XN(d:Option Nat)(z:Nat)(o:Bool)(x:IX):gz P (.ux z o x) d E K=GO z o E d K (rd E (xg true E x) 1):=rfl
attribute[go_sem] GO.eq_1 oA.eq_1 oA.eq_2 FV IA.eq_1 Ot Im.eq_1 Il.eq_1 OI.eq_1 OH.eq_1
@[go_sem]theorem aa0(f:IX->AV)(E:St)(z n:Nat)(x:IX):pv (.FQ z n x) f E=.no:=rfl
@[go_sem]theorem aac(d:Option Nat)(z n:Nat)(x:IX):gz P (.FQ z n x) d E K=Oq z n E d K (E.x x):=rfl
@[go_sem]theorem aaI(z b:Nat):wY z (.arr b 0 0 0)=.sl true z 0 []:=rfl
@[go_sem]theorem aaJ(z:Nat)(k:IntKind)(n:Int):wY z (.int k n)=.int k n:=rfl
@[go_sem]theorem X7(z:Nat)(b:Bool):wY z (.bool b)=.bool b:=rfl
@[go_sem]theorem acz(z b:Nat):wY z (.mp b)=.mp b:=rfl
attribute[go_sem] My Oq
@[go_sem]theorem Ym(f:IX->AV)(E:St)(g i:Nat)(xs:List IX):pv (.vJ g i xs) f E=.no:=rfl
@[go_sem]theorem XJ(d:Option Nat)(f i:Nat)(xs:List IX):gz P (.vJ f i xs) d E K=QR i E (fun τ=>re P f τ d K (bQ (xg true τ) xs)) (look E.e i):=rfl
attribute[go_sem] AU.eq_1 AU.eq_2 Kw.eq_1
attribute[go_sem] Kv.eq_1 Kv.eq_2
attribute[go_sem] Kf.eq_1 qa.eq_1 zc.eq_1 sO.eq_1 M7.eq_1 M7.eq_2
@[go_sem]theorem YM(T:List Nat)(l:List ai):CR P T 0 l E K=swp P l E K:=rfl
@[go_sem]theorem YL(T:List Nat)(q:Nat)(o:ai)(r:List ai):CR P T (q+1) (o::r) E K=q2 P o E (Uu P T q r K):=rfl
@[go_sem]theorem YK(T:List Nat)(q:Nat)(r:List ai)(τ:St):Uu P T q r K τ=(fW T τ.e=true/\CR P T q r τ K):=rfl
@[go_sem]theorem ab8(T:List Nat):EC P T [] E K=K E:=rfl
@[go_sem]theorem aeH(T:List Nat)(i:Nat)(o:ai)(r:List (Nat×Nat×ai)):EC P T ((0,i,o)::r) E K=q2 P o E (Ou P T r K):=rfl
@[go_sem]theorem aeI(T:List Nat)(i:Nat)(o:ai)(r:List (Nat×Nat×ai)):EC P T ((1,i,o)::r) E K=(lz o E=true/\q2 P o E (Ou P T r K)):=rfl
@[go_sem]theorem aeJ(T:List Nat)(i:Nat)(o:ai)(r:List (Nat×Nat×ai)):EC P T ((2,i,o)::r) E K=Q5 P o E (Ou P T r K):=rfl
@[go_sem]theorem aeK(T:List Nat)(i:Nat)(o:ai)(r:List (Nat×Nat×ai)):EC P T ((3,i,o)::r) E K=JW P o E (Ou P T r K):=rfl
@[go_sem]theorem Za(T:List Nat)(r:List (Nat×Nat×ai))(τ:St):Ou P T r K τ=(fW T τ.e=true/\EC P T r τ K):=rfl
@[go_sem]theorem Y4(d:Option Nat)(f:Nat)(args:List IX):Q5 P ⟨d,.call f args,none⟩ E K=(aX E d=true/\re P f E d K (bQ (xg true E) args)):=by
  show(aX E d=true/\xN P f E.s (Oj E d K) (bQ (xg true E) args))=_
  cases bQ (xg true E) args<;>rfl
@[go_sem]theorem Xu(d:Option Nat)(n:Nat)(p v:IX):Q5 P ⟨d,.store n p v,none⟩ E K=(aX E d=true/\ns n E.s (Oj E d K) (E.x v) (E.x p)):=rfl
@[go_sem]theorem Xt(d:Option Nat)(x:IX):Q5 P ⟨d,.lq x,none⟩ E K=(aX E d=true/\qZ E.s (Oj E d K) (E.x x)):=rfl
@[go_sem]theorem ab6(d:Option Nat)(a:AV)(s':ab):Oj E d K a s'=K ({E with s:=s'}.put d a):=rfl
@[go_sem]theorem TF(n:Nat)(s:ab)(C:AV->ab->Prop)(v:AV)(b off:Nat):ns n s C v (.ref b off)=(cO v=true/\Mg v=true/\(aU v).length=n/\Ia b off (aU v) s C (s b)):=rfl
@[go_sem]theorem TE(b off:Nat)(news:List AV)(s:ab)(C:AV->ab->Prop)(dJ:List AV):Ia b off news s C (some (.cells dJ))=(off+news.length<=dJ.length/\C (.gb []) (s.set b (.cells (setAt dJ off news)))):=rfl
attribute[go_sem] lz
@[go_sem]theorem Yc(cs:List AV):lx (.loc cs)=true:=rfl
@[go_sem]theorem X9(z n:Nat)(cs:List AV):Mg (.sl false z n cs)=true:=rfl
@[go_sem]theorem X8(T:List Nat):fW T []=true:=rfl
@[go_sem]theorem Wl(T:List Nat)(p:Nat×AV)(e:List (Nat×AV)):fW T (p::e)=(pV T p.2&&fW T e):=rfl
@[go_sem]theorem V7(a:AV):pV [] a=true:=rfl
@[go_sem]theorem T8(c:Nat)(T:List Nat)(a:AV):pV (c::T) a=(nE c a&&pV T a):=rfl
@[go_sem]theorem aat(c t o:Nat):nE c (.lp t o)=!Nat.beq t c:=rfl
@[go_sem]theorem YI(n c:Nat)(x:IX)(dJ:List AV):Qj n E c x K (.loc dJ)=(dJ.length=n/\cO (E.x x)=true/\(aU (E.x x)).length=n/\K ((E.drain x).put (some c) (.loc (aU (E.x x))))):=rfl
@[go_sem]theorem abe(n c:Nat)(x:IX):q2 P ⟨none,.store n (.t c) x,none⟩ E K=Qj n E c x K (look E.e c):=rfl
@[go_sem]theorem YD(d:Nat)(z:List AV):q2 P ⟨some d,.aA z,none⟩ E K=(aZ (look E.e d)=true/\j5 E.lp (some d)=true/\K (E.put (some d) (.loc z))):=rfl
@[go_sem]theorem YE(d sz bytes:Nat)(x y:IX):q2 P ⟨some d,.append sz bytes x y,none⟩ E K=(aZ (look E.e d)=true/\jN sz bytes E x (some d) K (E.x x) (E.x y)):=rfl
@[go_sem]theorem V5(c':Nat)(b:Bool):nE c' (.bool b)=true:=rfl
@[go_sem]theorem XT(c':Nat)(k:IntKind)(n:Int):nE c' (.int k n)=true:=rfl
@[go_sem]theorem V6(c':Nat):nE c' (.cZ)=true:=rfl
@[go_sem]theorem XV(c':Nat)(b o:Nat):nE c' (.ref b o)=true:=rfl
@[go_sem]theorem XU(c':Nat)(cs:List AV):nE c' (.loc cs)=true:=rfl
@[go_sem]theorem aau(c':Nat)(o:Bool)(s n:Nat)(cs:List AV):nE c' (.sl o s n cs)=true:=rfl
@[go_sem]theorem XS(c':Nat)(cs:List AV):nE c' (.agg cs)=true:=rfl
@[go_sem]theorem XW(c':Nat)(cs:List AV):nE c' (.gb cs)=true:=rfl
@[go_sem]theorem Rf:aX E none=true:=rfl
@[go_sem]theorem Rg(d:Nat):aX E (some d)=aZ (look E.e d):=rfl
@[go_sem]theorem Uf(b:Bool)(a:AV):aZ (.when b a)=true:=rfl
@[go_sem]theorem Ye(b o:Nat):aZ (.lp b o)=true:=rfl
@[go_sem]theorem Sn:aZ (.undef)=true:=rfl
@[go_sem]theorem Ud(b:Bool):aZ (.bool b)=true:=rfl
@[go_sem]theorem Wo(k:IntKind)(n:Int):aZ (.int k n)=true:=rfl
@[go_sem]theorem Wq(s:List UInt8):aZ (.str s)=true:=rfl
@[go_sem]theorem Ue:aZ (.cZ)=true:=rfl
@[go_sem]theorem Wp(b o:Nat):aZ (.ref b o)=true:=rfl
@[go_sem]theorem Yg(cs:List AV):aZ (.sp cs)=true:=rfl
@[go_sem]theorem Yf(o:Bool)(z n:Nat)(cs:List AV):aZ (.sl o z n cs)=true:=rfl
@[go_sem]theorem Wn(b o l c:Nat):aZ (.arr b o l c)=true:=rfl
@[go_sem]theorem Wm(cs:List AV):aZ (.agg cs)=true:=rfl
@[go_sem]theorem Wr(cs:List AV):aZ (.gb cs)=true:=rfl
@[go_sem]theorem Yd(f:Nat)(x y:List AV):aZ (.fn f x y)=true:=rfl
@[go_sem]theorem YN(z:List AV)(m:Bool)(x:IX):W0 (.bM z m x)=true:=rfl
attribute[go_sem] N5.eq_1 N5.eq_2 N5.eq_3 J0.eq_1 J0.eq_2 J0.eq_3 JB.eq_1 JB.eq_2 qK.eq_1 qK.eq_2 qK.eq_3 Mo.eq_1 CO.eq_1 CO.eq_2 aef.eq_1
end
@[go_sem]theorem RA:dc (.undef)=.undef:=rfl
@[go_sem]theorem TN(b:Bool):dc (.bool b)=.bool b:=rfl
@[go_sem]theorem Vc(k:IntKind)(n:Int):dc (.int k n)=.int k n:=rfl
@[go_sem]theorem Vf(s:List UInt8):dc (.str s)=.str s:=rfl
@[go_sem]theorem TQ:dc (.cZ)=.cZ:=rfl
@[go_sem]theorem Ve(b o:Nat):dc (.ref b o)=.ref b o:=rfl
@[go_sem]theorem Vd(cs:List AV):dc (.loc cs)=.loc cs:=rfl
@[go_sem]theorem XC(o:Bool)(z n:Nat)(cs:List AV):dc (.sl o z n cs)=.sl o z n cs:=rfl
@[go_sem]theorem Vb(b o l c:Nat):dc (.arr b o l c)=.arr b o l c:=rfl
@[go_sem]theorem XB(f:Nat)(x y:List AV):dc (.fn f x y)=.fn f x y:=rfl
@[go_sem]theorem adl{α:Type}(a b:α):(bif true then a else b)=a:=rfl
@[go_sem]theorem adk{α:Type}(a b:α):(bif false then a else b)=b:=rfl
attribute[go_sem] Ra.eq_1 Ra.eq_2 Ra.eq_3 N4.eq_1 N4.eq_2 N4.eq_3 xY.eq_1 xY.eq_2 xY.eq_3 gz.eq_1 gz.eq_2 gz.eq_3 gz.eq_4 gz.eq_5 gz.eq_6 gz.eq_7 gz.eq_8 gz.eq_9 gz.eq_10 gz.eq_11 gz.eq_12 gz.eq_13 gz.eq_14 gz.eq_15 gz.eq_16 Qc.eq_1 Fj.eq_1 UJ.eq_1 UJ.eq_2 sR.eq_1 iC.eq_1 iC.eq_2 tj.eq_1 kG.eq_1 Sg.eq_1 aaA.eq_1 fC.eq_1 fC.eq_2 fC.eq_3 fC.eq_4 ji.eq_1 ji.eq_2 Bc.eq_1 xr.eq_1 sv.eq_1 sv.eq_2 xt.eq_1 kL.eq_1 KQ.eq_1 Al.eq_1 Al.eq_2 Al.eq_3 Al.eq_4 Al.eq_5 tc.eq_1 IB.eq_1 oC.eq_1 Br.eq_1 Jm.eq_1 Jm.eq_2 oz.eq_1 oz.eq_2 kB.eq_1 tL.eq_1 rd.eq_1 rd.eq_2 rd.eq_3 rd.eq_4 j5.eq_1 j5.eq_2 JY.eq_1 vH.eq_1 jN.eq_1 jN.eq_2 AY.eq_1 oB.eq_1 wV.eq_1 KZ.eq_1 KZ.eq_2 uK.eq_1 MH.eq_1 bQ.eq_1 bQ.eq_2 s8.eq_1 re.eq_1 Ow.eq_1 dX.eq_1 iw.eq_1 Tk.eq_1 Tl.eq_1 FD.eq_1 Lr.eq_1 abZ.eq_1 Ex.eq_1 Ex.eq_2 Ex.eq_3 J8.eq_1 J8.eq_2 Ku.eq_1 DJ.eq_1 DJ.eq_2 DJ.eq_3 xM.eq_3 xM.eq_4 xM.eq_5 xM.eq_6 xM.eq_7 xM.eq_12 xM.eq_13 xM.eq_14 xM.eq_15 xM.eq_16 xM.eq_17 HY.eq_1 HY.eq_2 HY.eq_3 HY.eq_4 HY.eq_5 HY.eq_6 HY.eq_7 kk pv.eq_1 pv.eq_2 pv.eq_3 pv.eq_4 pv.eq_5 pv.eq_6 pv.eq_7 pv.eq_8 pv.eq_9 pv.eq_10 pv.eq_11 pv.eq_12 pv.eq_13 pv.eq_14 pv.eq_15 pv.eq_16 pv.eq_17 pv.eq_18 pv.eq_19 pv.eq_20 pv.eq_21 pv.eq_22 pv.eq_23 pv.eq_24 pv.eq_25 fill.eq_1 fill.eq_2
attribute[go_sem] U3 Zg xg St.tG St.df QX gL Ni Nj TC TD HI LA St.drain
attribute[go_sem] Bool.true_or Bool.or_true Bool.or_false Bool.false_or
attribute[go_sem] bne_self_eq_false Bool.bne_true Bool.bne_false implies_true decide_true decide_false Bool.true_and Bool.and_true Bool.false_and Bool.and_false Bool.not_true Bool.not_false Bool.false_eq_true true_and List.length_cons List.length_nil List.map_cons List.map_nil List.all_nil List.all_cons List.drop_zero List.drop_succ_cons List.take_zero List.take_succ_cons Nat.zero_add List.cons_append List.nil_append List.getElem?_cons_zero List.getElem?_cons_succ
end
theorem VR.mono{w w':World}{R R':Nat->Nat}(hR:∀b,R b<=R' b)(hs:∀b k,k<R b->w'.cell? ⟨b,k,none⟩=w.cell? ⟨b,k,none⟩){a:AV}{v:Value}(h:VR w R a v):VR w' R' a v:=by
 induction h with
 |undef v=>exact .undef v
 |bool b=>exact .bool b
 |int k n=>exact .int k n
 |str s=>exact .str s
 |cZ=>exact .cZ
 |ref b off=>exact .ref b off
 |sp cs b off u hf hR' hc _ ih=>
  refine .sp cs b off u hf (Nat.le_trans hR' (hR b)) (fun j c hj=>?_) ih
  rw[hs b (off+j) (by have:=(List.getElem?_eq_some_iff.1 hj).1;omega)]
  exact hc j c hj
 |slnil own sz=>exact .slnil own sz
 |sle sz a cap=>exact .sle sz a cap
 |sl own sz n cs b off cap u hf hl hR' fQ hc _ ih=>
  refine .sl own sz n cs b off cap u hf hl (Nat.le_trans hR' (hR b)) fQ (fun j c hj=>?_) ih
  rw[hs b (off+j) (by have:=(List.getElem?_eq_some_iff.1 hj).1;omega)]
  exact hc j c hj
 |arr b off len cap=>exact .arr b off len cap
 |FM b off=>exact .FM b off
 |agg cs vs hf hl _ ih=>exact .agg cs vs hf hl ih
 |gb cs vs hl _ ih=>exact .gb cs vs hl ih
 |fn f first dZ vf vc hl _ hl' _ ih ih'=>exact .fn f first dZ vf vc hl ih hl' ih'
 |nn=>exact .nn
 |mp b=>exact .mp b
 |one v h=>exact .one v h
 |lW t=>exact .lW t
 |kp=>exact .kp
 |bb t n cs v _ h0 ih=>exact .bb t n cs v ih h0
 |sd=>exact .sd
 |when b a v _ ih=>exact .when b a v ih
theorem az.R{G G':Gh}{w w':World}(h:az G w G' w')(hg:bR G w):∀b,G.R b<=G'.R b:=fun b=>by
 rcases Nat.lt_or_ge b w.heap.size with hb|hb
 ·exact h.mono b hb
 ·rw[hg.iT b hb];exact Nat.zero_le _
theorem az.cells{G G':Gh}{w w':World}(h:az G w G' w')(hg:bR G w):∀b k,k<G.R b->w'.cell? ⟨b,k,none⟩=w.cell? ⟨b,k,none⟩:=fun b k hk=>by
 rcases Nat.lt_or_ge b w.heap.size with hb|hb
 ·exact h.lK b k hb hk
 ·rw[hg.iT b hb]at hk;omega
theorem az.vr{G G':Gh}{w w':World}(h:az G w G' w')(hg:bR G w){a:AV}{v:Value}(hv:VR w G.R a v):VR w' G'.R a v:=hv.mono (h.R hg) (h.cells hg)
theorem az.refl(G:Gh)(w:World):az G w G w:=⟨rfl,rfl,rfl,Nat.le_refl _,Nat.le_refl _,fun _ _=>Nat.le_refl _,fun _ _ _ _=>rfl,fun _ _ _=>rfl,fun _ _ h=>⟨h,rfl⟩,fun _ _ h=>⟨h,rfl⟩⟩
theorem az.trans{G₁ G₂ G₃:Gh}{w₁ w₂ w₃:World}(h:az G₁ w₁ G₂ w₂)(k:az G₂ w₂ G₃ w₃):az G₁ w₁ G₃ w₃ where
 os:=k.os.trans h.os
 tape:=k.tape.trans h.tape
 output:=k.output.trans h.output
 drawn:=Nat.le_trans h.drawn k.drawn
 size:=Nat.le_trans h.size k.size
 mono:=fun b hb=>Nat.le_trans (h.mono b hb) (k.mono b (Nat.lt_of_lt_of_le hb h.size))
 lK:=fun b j hb hj=>(k.lK b j (Nat.lt_of_lt_of_le hb h.size) (Nat.lt_of_lt_of_le hj (h.mono b hb))).trans (h.lK b j hb hj)
 frame:=fun b hb ho=>by
  refine(k.frame b (Nat.lt_of_lt_of_le hb h.size) ?_).trans (h.frame b hb ho)
  rcases ho with ho|ho
  ·exact .inl (h.iG b hb ho).1
  ·exact .inr (h.pd b hb ho).1
 iG:=fun b hb ho=>
  let⟨o2,r2⟩:=h.iG b hb ho
  let⟨o3,r3⟩:=k.iG b (Nat.lt_of_lt_of_le hb h.size) o2
  ⟨o3,r3.trans r2⟩
 pd:=fun b hb ho=>
  let⟨o2,r2⟩:=h.pd b hb ho
  let⟨o3,r3⟩:=k.pd b (Nat.lt_of_lt_of_le hb h.size) o2
  ⟨o3,r3.trans r2⟩
theorem cQ.mono{G G':Gh}{w w':World}{o:cD}{a:AV}{v:Value}(h:cQ G w o a v)(hb:∀b,G.O b=o->G'.O b=o/\G'.R b=G.R b/\w'.heap[b]? =w.heap[b]?):cQ G' w' o a v:=by
 unfold cQ at*
 split
 ·rename_i sz n cs
  intro base m cap hv hc
  obtain⟨b,off,c,e,fz,h1,h2,h3,h4,h5,h6⟩:=h base m cap hv hc
  obtain⟨k1,k2,k3⟩:=hb b h2
  exact⟨b,off,c,e,fz,h1,k1,by rw[k2,h3],by rw[k3,h4],h5,h6⟩
 ·rename_i e n cs
  intro base m cap hv hc
  obtain⟨b,off,c,fz,h1,h2,h3,h4,h5,h6⟩:=h base m cap hv hc
  obtain⟨k1,k2,k3⟩:=hb b h2
  exact⟨b,off,c,fz,h1,k1,by rw[k2,h3],by rw[k3,h4],h5,h6⟩
 ·trivial
theorem Fl.views{cs:List AV}(h:Fl cs):Fl (views cs):=by
 intro c hc
 simp only[AB.views,List.mem_map]at hc
 obtain⟨c',h1,rfl⟩:=hc
 have:=h c' h1
 cases c'<;>simp_all [oE,cO,AB.view]
theorem xH.views{t:Nat}{cs:List AV}(h:xH t cs):Fl (AB.views cs):=by
 intro c hc
 simp only[AB.views,List.mem_map]at hc
 obtain⟨c',h1,rfl⟩:=hc
 rcases h c' h1 with h|rfl
 ·cases c'<;>simp_all [oE,cO,AB.view]
 ·rfl
theorem xH.flat{t:Nat}{cs:List AV}(h:xH t cs)(hv:AB.views cs=cs):Fl cs:=hv▸h.views
theorem xH.left{t:Nat}{cs sp:List AV}(h:xH t (cs++sp)):xH t cs:=fun c hc=>h c (List.mem_append_left _ hc)
theorem Fl.tag{cs:List AV}(h:Fl cs)(t:Nat):xH t cs:=fun c hc=>.inl (h c hc)
theorem xH.sub{t:Nat}{cs:List AV}(h:xH t cs)(off n:Nat):xH t (AB.sub cs off n):=fun c hc=>h c (List.mem_of_mem_drop (List.mem_of_mem_take hc))
theorem xH.drop{t:Nat}{cs:List AV}(h:xH t cs)(off:Nat):xH t (cs.drop off):=fun c hc=>h c (List.mem_of_mem_drop hc)
theorem Fl.sub{cs:List AV}(h:Fl cs)(off n:Nat):Fl (sub cs off n):=fun c hc=>h c (List.mem_of_mem_drop (List.mem_of_mem_take hc))
theorem Fl.drop{cs:List AV}(h:Fl cs)(off:Nat):Fl (cs.drop off):=fun c hc=>h c (List.mem_of_mem_drop hc)
theorem Fl.nil:Fl []:=fun c hc=>by simp at hc
theorem cQ.view(G:Gh)(w:World)(o:cD)(a:AV)(v:Value):cQ G w o (view a) v:=by cases a<;>first|trivial|(rename_i own sz n cs;simp[AB.view,cQ])
theorem VR.view{w:World}{R:Nat->Nat}{a:AV}{v:Value}(h:VR w R a v):VR w R (view a) v:=by
 cases h with
 |slnil own sz=>exact .slnil false sz
 |sle sz a cap=>exact .sle sz a cap
 |sl own sz n cs b off cap u hf hl hR fQ hc hr=>exact .sl false sz n cs b off cap u hf hl hR fQ hc hr
 |undef v=>exact .undef v
 |bool b=>exact .bool b
 |int k n=>exact .int k n
 |str s=>exact .str s
 |cZ=>exact .cZ
 |ref b off=>exact .ref b off
 |sp cs b off u hf hR hc hr=>exact .sp cs b off u hf hR hc hr
 |arr b off len cap=>exact .arr b off len cap
 |FM b off=>exact .FM b off
 |agg cs vs hf hl hr=>exact .agg cs vs hf hl hr
 |gb cs vs hl hr=>exact .gb cs vs hl hr
 |fn f first dZ vf vc hl hr hl' hr'=>exact .fn f first dZ vf vc hl hr hl' hr'
 |nn=>exact .nn
 |mp b=>exact .mp b
 |one v h=>exact .one v h
 |lW t=>exact .cZ
 |kp=>exact .kp
 |bb t n cs v h h0=>
  cases h with
  |slnil=>exact .slnil false 1
  |sl _ _ _ _ b off cap u hf hl hR fQ hc hr=>exact .sl false 1 n cs b off cap u hf hl hR fQ hc hr
 |sd=>exact .sd
 |when b a v h=>exact .when b a v h
theorem cP.mono{G G':Gh}{w w':World}{o:Nat->cD}{cs:List AV}{c:Array Value}(h:cP G w o cs c)(hv:∀a v,VR w G.R a v->VR w' G'.R a v)
 (hb:∀b j,G.O b=o j->G'.O b=o j/\G'.R b=G.R b/\w'.heap[b]? =w.heap[b]?):cP G' w' o cs c:=
 ⟨h.1,fun j x y hx hy=>⟨hv _ _ (h.2 j x y hx hy).1,(h.2 j x y hx hy).2.mono fun b=>hb b j⟩⟩
theorem cN.nZ{G:Gh}{w:World}{e:List (Nat×AV)}{tmps:Array Value}{i:Nat}{a:AV}{v:Value}(h:cO a=true):cN G w e tmps i a v↔(VR w G.R a v/\cQ G w (.slot i 0) a v):=by cases a<;>simp_all [cO,cN]
theorem cN.wW{G:Gh}{w:World}{e:List (Nat×AV)}{tmps:Array Value}{i:Nat}{a:AV}{v:Value}(h:cO a=true)(hv:VR w G.R a v):cN G w e tmps i (view a) v:=by
 have h':cO (view a)=true:=by cases a<;>simp_all [cO,view]
 rw[cN.nZ h']
 exact⟨hv.view,cQ.view ..⟩
theorem cN.vr{G:Gh}{w:World}{e:List (Nat×AV)}{tmps:Array Value}{i:Nat}{a:AV}{v:Value}(h:cO a=true)(hs:cN G w e tmps i a v):VR w G.R a v:=((cN.nZ h).1 hs).1
theorem cN.frame{G G':Gh}{w w':World}{e e':List (Nat×AV)}{tmps MB:Array Value}{i:Nat}
 (hv:∀a v,VR w G.R a v->VR w' G'.R a v)
 (qI:∀b,(∃j,G.O b=.slot i j)\/G.O b=.loc i->G'.O b=G.O b/\G'.R b=G.R b/\w'.heap[b]? =w.heap[b]?)
 (cS:∀b c j,G.O b=.loc i->G.O c=.cell b j->G'.O c=.cell b j/\G'.R c=G.R c/\w'.heap[c]? =w.heap[c]?):
 ∀(a:AV)(v:Value)(_:∀d,bd a d->∀cs,look e' d=.loc cs->∃cs',look e d=.loc cs'/\MB[d]? =tmps[d]?)
  (_:cN G w e tmps i a v),cN G' w' e' MB i a v
 |.loc cs,v,_,h=>by
  obtain⟨b,c,t,h1,h2,h3,h4,h5,h6⟩:=h
  obtain⟨k1,k2,k3⟩:=qI b (.inr h2)
  exact⟨b,c,t,h1,k1.trans h2,k2.trans h3,k3.trans h4,h5.mono hv fun c j hc=>cS b c j h2 hc,h6⟩
 |.lp d off,v,hlp,h=>by
  obtain⟨b,h3,h4⟩:=h
  refine⟨b,h3,fun cs hcs=>?_⟩
  obtain⟨cs',h1,h2⟩:=hlp d rfl cs hcs
  exact h2.trans (h4 cs' h1)
 |.gb vs,v,_,h=>by
  obtain⟨ys,h1,h2⟩:=h
  exact⟨ys,h1,h2.mono hv fun b j hb=>by
   obtain⟨k1,k2,k3⟩:=qI b (.inl ⟨_,hb⟩)
   exact⟨k1.trans hb,k2,k3⟩⟩
 |.when b a,v,hlp,h=>⟨fun hb=>cN.frame hv qI cS a v hlp (h.1 hb),h.2⟩
 |.us sz n cs,v,_,h=>by
  rcases h with h|⟨b,cap,c,t,sp,h1,h2,h3,h4,h5,h6,h7,h8,h9,h10,h11⟩
  ·exact .inl h
  ·obtain⟨k1,k2,k3⟩:=qI b (.inl ⟨_,h4⟩)
   exact .inr ⟨b,cap,c,t,sp,h1,h2,h3,k1.trans h4,k2.trans h5,k3.trans h6,h7,h8,h9,fun j x u hx hu=>hv _ _ (h10 j x u hx hu),h11⟩
 |.undef,v,_,h|.bool _,v,_,h|.int _ _,v,_,h|.str _,v,_,h|.cZ,v,_,h|.ref _ _,v,_,h|.sp _,v,_,h|.sl _ _ _ _,v,_,h|.arr _ _ _ _,v,_,h|.agg _,v,_,h
 |.fn _ _ _,v,_,h|.nn,v,_,h|.mp _,v,_,h|.sd,v,_,h|.one,v,_,h|.lW _,v,_,h|.kp,v,_,h|.bb _ _ _,v,_,h=>by
  refine⟨hv _ _ h.1,h.2.mono fun b hb=>?_⟩
  obtain⟨k1,k2,k3⟩:=qI b (.inl ⟨_,hb⟩)
  exact⟨k1.trans hb,k2,k3⟩
theorem aM(j i:Nat)(a:AV)(l:List (Nat×AV)):look ((j,a)::l) i=if j=i then a else look l i:=by
 show(bif j==i then a else look l i)=_
 by_cases h:j=i
 ·simp[h]
 ·have:(j==i)=false:=by simpa using h
  simp[this,h]
theorem Inv.put{G G':Gh}{n:Nat}{D:List Deferred}{E:St}{s':ab}{lp':List (Nat×Nat)}{a:Act}{w w':World}(h:Inv G n D E a w)(d:Option Nat)(hd:∀i,d=some i->i<n)(av:AV)(v:Value)
 (iR:bR G' w')(aV:az G w G' w')(cj:aO G' w' s')
 (hlp:∀x∈E.lp,x∈lp')(Vy:∀i t,d=some i->bd av t->(i,t)∈lp')
 (Pd:∀i t,d=some i->(∃cs,av=.loc cs)->(t,i)∉E.lp)
 (qI:∀i b,d≠some i->(∃j,G.O b=.slot i j)\/G.O b=.loc i->G'.O b=G.O b/\G'.R b=G.R b/\w'.heap[b]? =w.heap[b]?)
 (cS:∀i b c j,d≠some i->G.O b=.loc i->G.O c=.cell b j->G'.O c=.cell b j/\G'.R c=G.R c/\w'.heap[c]? =w.heap[c]?)
 (IQ:∀i,d=some i->cN G' w' ((E.put d av).e) (a.put d v).tmps i av v):
 Inv G' n D {(E.put d av)with s:=s',lp:=lp'} (a.put d v) w':=by
 cases d with
 |none=>
  refine⟨iR,cj,h.size,fun i u hu=>?_,h.DE,fun i t ht=>hlp _ (h.JX i t ht),h.qG⟩
  exact cN.frame (fun _ _ hv=>aV.vr h.aJ hv) (fun b=>qI i b (by simp)) (fun b c j=>cS i b c j (by simp)) _ _ (fun t _ cs hcs=>⟨cs,hcs,rfl⟩) (h.bO i u hu)
 |some d=>
  refine⟨iR,cj,by simp[Act.put,h.size],fun i u hu=>?_,fun i hi=>?_,fun i t ht=>?_,h.qG⟩
  ·by_cases hid:d=i
   ·subst hid
    have hu':u=v:=by
     have hlt:d<a.tmps.size:=by rw[h.size];exact hd d rfl
     simp[Act.put,hlt]at hu
     exact hu.symm
    subst hu'
    have:look (E.put (some d) av).e d=av:=by simp[St.put,aM]
    show cN G' w' (E.put (some d) av).e _ d (look (E.put (some d) av).e d) u
    rw[this]
    exact IQ d rfl
   ·have hne:(some d:Option Nat)≠some i:=fun e=>hid (Option.some.inj e)
    have hu':a.tmps[i]? =some u:=by simpa[Act.put,Array.getElem?_setIfInBounds_ne hid]using hu
    have:look (E.put (some d) av).e i=look E.e i:=by simp[St.put,aM,hid]
    show cN G' w' (E.put (some d) av).e _ i (look (E.put (some d) av).e i) u
    rw[this]
    refine cN.frame (fun _ _ hv=>aV.vr h.aJ hv) (fun b=>qI i b hne) (fun b c j=>cS i b c j hne) _ _ (fun t ht cs hcs=>?_) (h.bO i u hu')
    have lZ:=h.JX i t ht
    by_cases hdt:d=t
    ·subst hdt
     simp only[St.put,aM,if_true]at hcs
     exact absurd lZ (Pd d i rfl ⟨cs,hcs⟩)
    ·refine⟨cs,by simpa[St.put,aM,hdt]using hcs,?_⟩
     simp[Act.put,Array.getElem?_setIfInBounds_ne hdt]
  ·have:d≠i:=by have:=hd d rfl;omega
   simp[St.put,aM,this,h.DE i hi]
  ·by_cases hid:d=i
   ·subst hid
    simp only[St.put,aM,if_true]at ht
    exact Vy d t rfl ht
   ·simp only[St.put,aM,hid,if_false]at ht
    exact hlp _ (h.JX i t ht)
def cR:Value->AV->Bool
 |.bool a,.bool b=>a==b
 |.int k n,.int k' m=>decide (k=k')&&n==m
 |.string s,.str t=>s.data.toList==t
 |.pointer none,.cZ=>true
 |.slice none 0 0,.sl _ _ 0 []=>true
 |.slice none 0 0,.arr _ _ 0 0=>true
 |.slice none 0 0,.bb _ 0 []=>true
 |.map none,.sd=>true
 |.nilFunc,.nn=>true
 |.nilIface,.kp=>true
 |_,_=>false
def Ke:List Value->List AV->Bool
 |[],[]=>true
 |v::vs,a::as=>cR v a&&Ke vs as
 |_,_=>false
def bp:Operand->IX->Bool
 |.tmp t,.t i=>t==i
 |.const (.agg vs),.c (.agg cs)=>Ke vs.toList cs
 |.const v,.c a=>cR v a
 |.func f,.c (.fn g [] [])=>f==g
 |_,_=>false
def fI:List Operand->List IX->Bool
 |[],[]=>true
 |o::os,x::xs=>bp o x&&fI os xs
 |_,_=>false
def DD:Option Operand->Option IX->Bool
 |none,none=>true
 |some o,some x=>bp o x
 |_,_=>false
section
variable(P:Program)
def cH(t:TypeId)(n:Nat):Bool:=match P.info? t with
 |some i=>i.size==n
 |none=>false
def jQ(t:TypeId)(n:Nat):Bool:=match P.info? t with
 |some i=>i.bytes==n
 |none=>false
def oy(t:TypeId)(multi:Bool):Bool:=match P.underlying t with
 |some (.struct _)|some (.array _ _)=>multi
 |some _=>!multi
 |none=>false
def ni(t:TypeId)(z:List AV):Bool:=match P.info? t with
 |some i=>(match i.zero with
  |some v=>Ke v.cells.toList z&&i.size==z.length
  |none=>false)
 |none=>false
def cq(t:TypeId):Option TypeId:=match P.underlying t with
 |some (.slice e)=>some e
 |_=>none
def yA(fs:Array Field):List (Nat×Operand)->List (Nat×Nat×IX)->Bool
 |[],[]=>true
 |(i,o)::r,(off,n,x)::s=>(match fs[i]? with
  |some f=>f.offset==off&&cH P f.type n
  |none=>false)&&bp o x&&yA fs r s
 |_,_=>false
def sk(sz:Nat):List (Nat×Operand)->List (Nat×Nat×IX)->Bool
 |[],[]=>true
 |(i,o)::r,(off,n,x)::s=>i*sz==off&&n==sz&&bp o x&&sk sz r s
 |_,_=>false
def R4(t:TypeId):Bool:=match P.underlying t with
 |some (.int _)=>true
 |_=>false
def TB(t:TypeId):Bool:=match P.underlying t with
 |some .bool=>true
 |_=>false
def Ll(t:TypeId):Bool:=match P.underlying t with
 |some .string=>true
 |_=>false
def aaT(t:TypeId):Bool:=match P.underlying t with
 |some (.pointer e)=>(P.info? e).isSome
 |_=>false
def xE(e:TypeId)(sz:Nat):Bool:=match P.info? e with
 |some i=>(match i.zero with
  |some v=>v.cells.size==sz&&v.cells.toList.all Value.oneCell'
  |none=>false)
 |none=>false
def NV(b:Builtin)(c:Call):Option (List Operand×List TypeId):=match c.callee with
 |.builtin b'=>if b'=b then some (c.args.toList,c.argTypes.toList)else none
 |_=>none
def aas(t:TypeId)(cls:Nat):Bool:=match P.underlying t with
 |some (.slice _)=>cls==0
 |some .string=>cls==1
 |some (.map _ _)=>cls==2
 |_=>false
def adf(t:TypeId)(n:Nat):Bool:=match P.underlying t with
 |some (.array m _)=>n==m
 |_=>false
def KM(t:TypeId):lE->Bool
 |.int k=>(match P.underlying t with|some (.int k')=>Nb k k'|_=>false)
 |.str=>(match P.underlying t with|some .string=>true|_=>false)
 |.bool=>(match P.underlying t with|some .bool=>true|_=>false)
 |.bytes n=>(match P.underlying t with
  |some (.array m e)=>m==n&&(match P.underlying e with|some (.int .u8)=>true|_=>false)&&cH P e 1
  |_=>false)
def Lu(t:TypeId)(z:AV):Bool:=match P.info? t with
 |some i=>(match i.zero with
  |some v=>(match z,v with
   |.agg cs,.agg vs=>Ke vs.toList cs
   |z,v=>cR v z)
  |none=>false)
 |none=>false
def EJ:List Field->Nat->Bool
 |[],_=>true
 |f::r,k=>f.name != "_" &&f.offset==k&&R4 P f.type&&oy P f.type false&&EJ r (k+1)
def Xi(t:TypeId)(n:Nat):Bool:=match P.underlying t with
 |some (.struct fs)=>EJ P fs.toList 0&&fs.size==n&&!P.stoodInHeld t&&!P.eqGuardType P.depth t
 |_=>false
def aq(op:Op)(_ty:TypeId)(o:qT):Bool:=
 match o,op with
 |.iJ _ x,.move y=>bp y x
 |.iJ _ x,.assign y=>bp y x
 |.pick c x y,.pick c' x' y'=>bp c' c&&bp x' x&&bp y' y
 |.aA z,.alloc t=>ni P t z
 |.gH z,.alloc t=>ni P t z
 |.jf n x,.box t y=>cH P t n&&bp y x
 |.qE n x,.box t y=>cH P t n&&bp y x
 |.build z ps,.build t qs=>ni P t z&&(match P.underlying t with
  |some (.struct fs)=>yA P fs qs.toList ps&&fs.all fun f=>(P.info? f.type).isSome
  |some (.array _ e)=>(match P.info? e with
   |some i=>sk i.size qs.toList ps
   |none=>false)
  |_=>false)
 |.bB sz n z ps,.buildSlice t m qs=>n==m&&(match cq P t with
  |some e=>cH P e sz&&decide (0<sz)&&sk sz qs.toList ps&&decide (n*sz<=2^24)&&(match P.info? e with
   |some i=>(match i.zero with
    |some v=>Ke ((List.replicate n v.cells.toList).flatten) z&&v.cells.size==sz
    |none=>false)
   |none=>false)
  |none=>false)
 |.lQ _ x,.load t y=>cH P t 1&&oy P t false&&bp y x
 |.bM z multi x,.load t y=>cH P t z.length&&oy P t multi&&(multi||z.length==1)&&bp y x
 |.lookup kk z ok x k,.lookup t y j ok'=>bp y x&&bp j k&&ok==ok'&&(match P.underlying t with
  |some (.map kt et)=>KM P kt kk&&Lu P et z
  |_=>false)
 |.mapUpdate kk x k v,.mapUpdate t y j u=>bp y x&&bp j k&&bp u v&&(match P.underlying t with
  |some (.map kt _)=>KM P kt kk
  |_=>false)
 |.qP x,.move y=>bp y x
 |.qP x,.assign y=>bp y x
 |.jg (.t i),.convert s t y=>bp y (.t i)&&s==t&&(match P.underlying s with
  |some (.slice e)=>(match P.underlying e with|some (.int .u8)=>true|_=>false)
  |_=>false)
 |.load n multi x,.load t y=>cH P t n&&oy P t multi&&(multi||n==1)&&bp y x
 |.store n p v,.store t q u=>cH P t n&&bp q p&&bp u v
 |.nilCheck x,.nilCheck y=>bp y x
 |.bin bo x y,.binOp b _ u v _=>decide (bo=b)&&bp u x&&bp v y
 |.RG ne x y,.binOp b t u v _=>decide (b=if ne then .neq else .eql)&&bp u x&&bp v y&&TB P t
 |.HO ne x y,.binOp b t u v _=>decide (b=if ne then .neq else .eql)&&bp u x&&bp v y&&aaT P t
 |.un uo x,.unOp u _ y=>decide (uo=u)&&bp y x
 |.cC k x,.convert s t y=>bp y x&&(match P.underlying s,P.underlying t with
  |some (.int _),some (.int k')=>decide (k=k')
  |_,_=>false)
 |.eP x,.convert s t y=>bp y x&&(match P.underlying s,P.underlying t with
  |some (.slice e),some .string=>(match P.underlying e with|some (.int .u8)=>true|_=>false)
  |_,_=>false)
 |.gN x,.convert s t y=>bp y x&&(match P.underlying s,P.underlying t with
  |some .string,some (.slice e)=>(match P.underlying e with|some (.int .u8)=>true|_=>false)
  |_,_=>false)
 |.de x i,.index t y j=>bp y x&&bp j i&&Ll P t
 |.fieldAddr off x,.fieldAddr t y i=>bp y x&&(match P.underlying t with
  |some (.struct fs)=>(match fs[i]? with
   |some f=>f.offset==off&&(match P.info? f.type with|some j=>decide (0<j.size)|none=>false)
   |none=>false)
  |_=>false)
 |.indexAddr z x i,.indexAddr t y j=>bp y x&&bp j i&&(match cq P t with
  |some e=>cH P e z.length
  |none=>false)
 |.slice sz x lo hi mx,.slice t y l h m=>bp y x&&DD l lo&&DD h hi&&DD m mx&&(match cq P t with
  |some e=>cH P e sz
  |none=>false)
 |.js x lo hi,.slice t y l h none=>bp y x&&DD l lo&&DD h hi&&Ll P t
 |.extract x k,.extract y j=>bp y x&&k==j
 |.len cls x,.call c=>(match NV .len c with
  |some (y::_,t::_)=>bp y x&&aas P t cls
  |_=>false)
 |.cap x,.call c=>(match NV .cap c with
  |some (y::_,t::_)=>bp y x&&(cq P t).isSome
  |_=>false)
 |.gT true xs,.call c=>(match NV .max c with
  |some (ys,_)=>fI ys xs
  |_=>false)
 |.gT false xs,.call c=>(match NV .min c with
  |some (ys,_)=>fI ys xs
  |_=>false)
 |.append sz by' x y,.call c=>(match NV .append c with
  |some ([u,v],[t,t'])=>bp u x&&bp v y&&(match cq P t with
   |some e=>cH P e sz&&jQ P e by'&&decide (0<sz)&&decide (0<by')&&xE P e sz&&((cq P t').isSome||Ll P t')
   |none=>false)
  |_=>false)
 |.gS sz by' z l c,.makeSlice t l' c'=>bp l' l&&bp c' c&&(match cq P t with
  |some e=>cH P e sz&&jQ P e by'&&ni P e z&&decide (0<sz)&&decide (0<by')
  |none=>false)
 |.makeMap,.makeMap _ none=>true
 |.call f args,.call c=>(match c.callee with
  |.value (.func g)=>f==g&&fI c.args.toList args&&(match P.funcs[f]? with
   |some fn=>fn.name != "runtime.NumGoroutine" &&fn.body.isSome
   |none=>false)
  |_=>false)
 |.dj x args,.call c=>(match c.callee with
  |.value y=>bp y x&&fI c.args.toList args
  |_=>false)
 |.lI f a b,.makeFunc (.func g) c d=>f==g&&fI c.toList a&&fI d.toList b
 |.jP sz n z ps,.buildSlice t m qs=>n==m&&(match cq P t with
  |some e=>cH P e sz&&decide (0<sz)&&sk sz qs.toList ps&&decide (n*sz<=2^24)&&(match P.info? e with
   |some i=>(match i.zero with
    |some v=>Ke ((List.replicate n v.cells.toList).flatten) z&&v.cells.size==sz
    |none=>false)
   |none=>false)
  |none=>false)
 |.fL sz by' z x y,.call c=>(match NV .append c with
  |some ([u,v],[t,t'])=>bp u x&&bp v y&&(match cq P t with
   |some e=>cH P e sz&&jQ P e by'&&decide (0<sz)&&decide (0<by')&&xE P e sz&&ni P e z&&((cq P t').isSome||Ll P t')
   |none=>false)
  |_=>false)
 |.lV sz by' z x y,.call c=>(match NV .append c with
  |some ([u,v],[t,t'])=>bp u x&&bp v y&&R4 P t'&&(match cq P t with
   |some e=>cH P e sz&&jQ P e by'&&decide (0<sz)&&decide (0<by')&&ni P e z
   |none=>false)
  |_=>false)
 |.vQ sz x y,.call c=>(match NV .copy c with
  |some ([u,v],[t,_])=>bp u x&&bp v y&&(match cq P t with
   |some e=>cH P e sz
   |none=>false)
  |_=>false)
 |.pI z x,.call c=>(match NV .clear c with
  |some (u::_,t::_)=>bp u x&&(match cq P t with
   |some e=>ni P e z
   |none=>false)
  |_=>false)
 |.ux _ _ x,.load t y=>cH P t 1&&oy P t false&&bp y x
 |.NY _ _ x,.move y=>bp y x
 |.NY _ _ x,.assign y=>bp y x
 |.lq x,.load t y=>(cq P t).isSome&&cH P t 1&&oy P t false&&bp y x
 |.lP _ _ x,.load t y=>(cq P t).isSome&&cH P t 1&&oy P t false&&bp y x
 |.RH ne x,.binOp b t u v _=>decide (b=if ne then .neq else .eql)&&bp u x&&(match v with|.const (.slice none 0 0)=>true|_=>false)&&(cq P t).isSome
 |.vJ f i args,.call c=>args.any (fun x=>match x with|.t j=>j==i|_=>false)&&(match c.callee with
  |.value (.func g)=>f==g&&fI c.args.toList args&&(match P.funcs[f]? with
   |some fn=>fn.name != "runtime.NumGoroutine" &&fn.body.isSome
   |none=>false)
  |_=>false)
 |.Vi ne x,.binOp b t u v _=>decide (b=if ne then .neq else .eql)&&bp u x&&(match v with|.const .nilFunc=>true|_=>false)&&(match P.underlying t with|some (.func _ _ _)=>true|_=>false)
 |.Q7 ne x,.binOp b t u v _=>decide (b=if ne then .neq else .eql)&&bp u x&&(match v with|.const .nilIface=>true|_=>false)&&(match P.underlying t with|some (.interface _)=>true|_=>false)
 |.F5 x,.convert s t y=>bp y x&&(match P.underlying s with|some (.pointer e)=>(match P.info? e with|some j=>j.size !=0|none=>false)|_=>false)&&(match P.underlying t with|some .unsafePointer=>true|_=>false)
 |.F4 u x,.convert s t y=>bp y x&&(match P.underlying s with|some .unsafePointer=>true|_=>false)&&(match P.underlying t with|some (.pointer e)=>e==u&&(P.info? e).isSome|_=>false)
 |.vK f x,.call c=>(match c.callee with
  |.value (.func g)=>f==g&&fI c.args.toList [x]
  |_=>false)
 |.FR n t j u x,.box t' y=>t==t'&&cH P t n&&bp y x
 |.lU u x y,.call c=>(match NV .append c with
  |some ([p,q],[t,t'])=>bp p x&&bp q y&&(match cq P t with
   |some e=>cH P e 1&&jQ P e 1&&xE P e 1&&((cq P t').isSome||Ll P t')&&e==u
   |none=>false)
  |_=>false)
 |.zg _ n p v,.store t q u=>cH P t n&&bp q p&&bp u v
 |.FQ _ n x,.box t y=>cH P t n&&bp y x
 |.Yh f x y,.call c=>(match c.callee with
  |.value (.func g)=>f==g&&fI c.args.toList [x,y]
  |_=>false)
 |_,_=>false
def Rw(ops:Array Oper):Option (Nat×Bool)->Option (Nat×Bool)->Bool
 |none,none=>true
 |some (j,w),some (t,w')=>w==w'&&((ops[j]?).bind (·.dst))==some t
 |_,_=>false
def aS(n:Nat):Option Nat->Bool
 |none=>true
 |some d=>decide (d<n)
def gn(n:Nat)(ops:Array Oper)(o:Oper)(o':ai):Bool:=o.dst==o'.dst&&aS n o'.dst&&Rw ops o.guard o'.g&&aq P o.op o.type o'.op
def bS(n:Nat)(ops:Array Oper):List Oper->List ai->Bool
 |[],[]=>true
 |o::r,o'::r'=>gn P n ops o o'&&bS n ops r r'
 |_,_=>false
def oX:Option IX->List IX
 |some x=>[x]
 |none=>[]
def cJ:qT->List IX
 |.iJ _ x|.jf _ x|.qE _ x|.load _ _ x|.nilCheck x|.un _ x|.cC _ x|.eP x|.gN x|.fieldAddr _ x|.extract x _|.len _ x|.cap x|.bM _ _ x|.jg x|.qP x|.pI _ x|.NY _ _ x|.ux _ _ x|.lq x|.RH _ x|.Vi _ x|.Q7 _ x|.F5 x|.vK _ x|.F4 _ x|.FR _ _ _ _ x|.FQ _ _ x|.lQ _ x=>[x]
 |.lP _ j x=>[j,x]
 |.pick c x y=>[c,x,y]
 |.aA _|.gH _|.makeMap=>[]
 |.build _ ps|.bB _ _ _ ps|.jP _ _ _ ps=>ps.map fun p=>p.2.2
 |.store _ x y|.bin _ x y|.RG _ x y|.HO _ x y|.de x y|.indexAddr _ x y|.append _ _ x y|.lU _ x y|.gS _ _ _ x y|.lookup _ _ _ x y|.fL _ _ _ x y|.lV _ _ _ x y|.vQ _ x y|.Yh _ x y|.zg _ _ x y=>[x,y]
 |.slice _ x lo hi mx=>x::(oX lo++(oX hi++oX mx))
 |.js x lo hi=>x::(oX lo++oX hi)
 |.gT _ xs=>xs
 |.mapUpdate _ x y z=>[x,y,z]
 |.call _ xs|.vJ _ _ xs=>xs
 |.dj x xs=>x::xs
 |.lI _ xs ys=>xs++ys
def A4:List IX->List Nat
 |[]=>[]
 |.t i::r=>i::A4 r
 |.c _::r=>A4 r
def Vk:Option (Nat×Bool)->List Nat
 |some (t,_)=>[t]
 |none=>[]
def bO(o:ai):List Nat:=Vk o.g++A4 (cJ o.op)
def fJ(d:Option Nat)(l:List Nat):Bool:=match d with
 |some d=>!l.contains d
 |none=>true
def gp(o:ai)(i:Nat):Bool:=match o.op with
 |.iJ true (.t j)=>j==i
 |_=>false
def P2(x y:ai):Bool:=(bO y).all fun i=>!gp x i
def ap(x y:ai):Bool:=(P2 x y&&P2 y x)&&fJ x.dst (bO y)&&fJ y.dst (bO x)&&(match x.dst,y.dst with
 |some i,some j=>i !=j
 |_,_=>true)
def gl(ops:Array Oper)(j i:Nat):Bool:=match ops[j]? with
 |some o=>o.after.any fun e=>Region.binds .any e&&e.on==i
 |none=>false
def LC(ops:Array Oper)(q:Nat):Bool:=(List.range q).all fun k=>match ops[k]? with
 |some o=>o.after.all fun e=>!Region.binds .any e||decide (e.on<k)
 |none=>false
def ED(ops:Array Oper)(q:Nat):Bool:=q==ops.size||(List.range q).all fun k=>(List.range (q+1)).any fun m=>decide (k<m)&&gl ops m k
def Y0(bj:List ai)(i j:Nat):Bool:=match bj[i]?,bj[j]? with
 |some x,some y=>ap x y
 |_,_=>false
def TK(ops:Array Oper)(q:Nat)(bj:List ai):Bool:=(List.range q).all fun j=>(List.range j).all fun i=>gl ops j i||Y0 bj i j
def pG(ops:Array Oper):Nat->Nat->Array Bool->Bool
 |0,_,aF=>(Region.ready .any ops aF).isEmpty
 |fuel+1,k,aF=>Region.ready .any ops aF==[k]&&pG ops fuel (k+1) (aF.setIfInBounds k true)
def oo(size q:Nat):Array Bool:=(Array.range size).map fun i=>decide (i<q)
def LB(ops:Array Oper)(q:Nat)(bj:List ai):Bool:=decide (q<=ops.size)&&(LC ops q&&(ED ops q&&(TK ops q bj&&pG ops (ops.size -q) q (oo ops.size q))))
def pq(o:ai):Option Nat:=match o with
 |⟨none,.store _ (.t c) _,none⟩=>some c
 |o=>o.dst
def ft(o:ai)(i:Nat):Bool:=match o.op with
 |.iJ true (.t j)=>j==i
 |.store _ _ (.t j)=>j==i
 |.append _ _ (.t j) _=>j==i
 |.lP _ (.t j) _=>j==i
 |_=>false
def zK(x y:ai):Bool:=(bO y).all fun i=>!ft x i
def UY(o:ai):Bool:=(cJ o.op).all fun x=>match x with
 |.c (.lp _ _)=>false
 |.c (.when _ _)=>false
 |_=>true
def Tv(x y:ai):Bool:=(UY x&&UY y)&&(zK x y&&zK y x)&&fJ (pq x) (bO y)&&fJ (pq y) (bO x)&&(match pq x,pq y with
 |some i,some j=>i !=j
 |_,_=>true)
def Tw(bj:List ai)(i j:Nat):Bool:=match bj[i]?,bj[j]? with
 |some x,some y=>Tv x y
 |_,_=>false
def OA(ops:Array Oper)(q:Nat)(bj:List ai):Bool:=(List.range q).all fun j=>(List.range j).all fun i=>gl ops j i||Tw bj i j
def PN:qT->Bool
 |.store _ _ _=>true
 |.aA _=>true
 |.append _ _ _ _=>true
 |.lP _ _ _=>true
 |_=>false
def Oz(T:List Nat)(bj:List ai)(q:Nat):Bool:=(bj.take q).all fun o=>match o with
 |⟨none,.store _ (.t c) _,none⟩=>T.contains c
 |⟨some d,.aA _,none⟩=>T.contains d
 |_=>true
def FY(T:List Nat)(ops:Array Oper)(q:Nat)(bj:List ai):Bool:=decide (q<=ops.size)&&(LC ops q&&(ED ops q&&(OA ops q bj&&(Oz T bj q&&pG ops (ops.size -q) q (oo ops.size q)))))
abbrev Item:=Nat×Nat×ai
def Cr(acc:List Nat)(o:Oper):Nat:=o.after.toList.foldl (fun s e=>bif Region.binds .any e then s |||(1<<<e.on)|||acc.getD e.on 0 else s) 0
def E8:List Oper->List Nat->List Nat
 |[],acc=>acc
 |o::r,acc=>E8 r (acc++[Cr acc o])
def UR(y x:ai):Bool:=zK y x&&fJ (pq y) (bO x)&&fJ x.dst (bO y)&&(match pq y,x.dst with
 |some i,some j=>i !=j
 |_,_=>true)
def I9:ai->ai->Bool
 |⟨_,.load _ _ _,none⟩,⟨_,.gS _ _ _ _ _,_⟩=>true
 |_,_=>false
def T5(k k':Nat)(x y:ai):Bool:=match k,k' with
 |0,0|0,1|1,0|1,1=>Tv x y
 |1,2=>UR x y
 |0,2=>I9 x y&&UR x y
 |_,_=>false
def xd(ops:Array Oper)(ms:List Nat)(x y:Item):Bool:=!gl ops x.2.1 y.2.1&&(x.2.1 !=y.2.1&&((ms.getD y.2.1 0).testBit x.2.1||
 T5 x.1 y.1 x.2.2 y.2.2))
def Hc(ops:Array Oper)(ms:List Nat):List Item->Bool
 |[]=>true
 |x::r=>r.all (xd ops ms x)&&Hc ops ms r
def Cl(T:List Nat)(n:Nat)(ops:Array Oper)(x:Item):Bool:=(match ops[x.2.1]? with
 |some o=>gn P n ops o x.2.2&&o.after.all fun e=>!Region.binds .any e||(decide (e.on<ops.size)&&e.on !=x.2.1)
 |none=>false)&&(match x.2.2 with
 |⟨none,.store _ (.t c) _,none⟩=>decide (2<=x.1)||T.contains c
 |⟨some d,.aA _,none⟩=>T.contains d
 |_=>true)
def U2(T:List Nat)(n:Nat)(ops:Array Oper)(l:List Item):Bool:=(l.length==ops.size&&(List.range ops.size).all fun k=>l.any fun x=>x.2.1==k)&&(l.all (Cl P T n ops)&&Hc ops (E8 ops.toList []) l)
def LD(ops:Array Oper)(fB:List (List Bool)):Bool:=fB.length==ops.size&&(List.range ops.size).all fun j=>
 ((fB.getD j []).length==ops.size&&(List.range ops.size).all fun i=>!((fB.getD j []).getD i false)||gl ops j i)&&(match ops[j]? with
 |some o=>o.after.all fun e=>!Region.binds .any e||decide (e.on<j)
 |none=>false)
def ze:Code->Nat->Option (List Code×Code)
 |.seq (.label m) r,l=>if m==l then some ([],r)else none
 |.seq s c,l=>if(findLabel s l).isNone then(ze c l).map fun p=>(s::p.1,p.2)else none
 |_,_=>none
def uY:IC->Bool
 |.skip=>true
 |_=>false
def ks(n:Nat):Code->IC->Bool
 |.skip,.skip=>true
 |.region _ ops draw,.bP q bj _=>bS P n ops ops.toList bj&&(match q with
  |none=>!draw
  |some q=>!draw||LB ops q bj)
 |.region _ ops draw,.C7 T q bj _=>bS P n ops ops.toList bj&&(!draw||FY T ops q bj)
 |.region _ ops draw,.Az T l _=>draw&&U2 P T n ops l
 |.region _ ops draw,.Nx fB bj _=>draw&&(bS P n ops ops.toList bj&&LD ops fB)
 |.seq a b,.seq a' b'=>ks n a a'&&ks n b b'
 |.seq a b,.join _ a' b'=>ks n a a'&&ks n b b'
 |.cond c a b,.cond c' a' b'=>bp c c'&&ks n a a'&&ks n b b'
 |.block i b,.block j b'=>i==j&&ks n b b'
 |.loop b,.loop _ b'=>ks n b b'
 |.exit i,.exit j=>i==j
 |.scope c,.vu l _ a1 a2 a3 r'=>match ze c l with
  |some ([],r)=>uY a1&&(uY a2&&(uY a3&&ks n r r'))
  |some ([s1],r)=>ks n s1 a1&&(uY a2&&(uY a3&&ks n r r'))
  |some ([s1,s2],r)=>ks n s1 a1&&(ks n s2 a2&&(uY a3&&ks n r r'))
  |some ([s1,s2,s3],r)=>ks n s1 a1&&(ks n s2 a2&&(ks n s3 a3&&ks n r r'))
  |_=>false
 |.scope b,.scope b'=>ks n b b'
 |.label l,.label l'=>l==l'
 |.goto l,.goto l'=>l==l'
 |.ret,.ret=>true
 |_,.dead=>true
 |_,_=>false
end
end Go.AB
end
