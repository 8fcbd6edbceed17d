/- A part of the proof: Ab3, Ab4. -/
import Derived.Test.YtkeagffgdajggaaGreatNu1
import Derived.Attr
set_option linter.unusedSimpArgs false
set_option linter.unusedVariables false
section
namespace Go.AB
open Go
section
variable(P:Program)(K:St->Prop)(Q:Exit->St->Prop)(E U:St)(d:Option Nat)
@[go_sem]theorem aka:swp P [] E K=K E:=rfl
@[go_sem]theorem aiY(o:ah)(r:List ah):swp P (o::r) E K=Qr P o E (aiW P r K):=rfl
@[go_sem]theorem aiX(r:List ah):aiW P r K U=swp P r U K:=rfl
@[go_sem]theorem aiC(q:Nat)(r:List ah):aiB P q r K U=YK P q r U K:=rfl
@[go_sem]theorem aiF(live:List Nat):wo live Q U=Q .normal (U.zm live):=rfl
@[go_sem]theorem OM(op:ua):Qr P ⟨d,op,none⟩ E K=YG P op E d K (pv op (xg true E) E):=rfl
@[go_sem]theorem aln(op:ua):owp P op d E K=YG P op E d K (pv op (xg true E) E):=rfl
@[go_sem]theorem agU(op:ua)(t:Nat)(want:Bool):Qr P ⟨d,op,some (t,want)⟩ E K=BQ P op d t want E K (look E.e t):=rfl
@[go_sem]theorem agD(Q:Exit->St->Prop):gO P .dead Q E=False:=rfl
@[go_sem]theorem agK:gO P .skip Q E=Q .normal E:=rfl
@[go_sem]theorem ajm(ops:List ah)(live:List Nat):gO P (.bN none ops live) Q E=swp P ops E (wo live Q):=rfl
@[go_sem]theorem agJ(q:Nat)(ops:List ah)(live:List Nat):gO P (.bN (some q) ops live) Q E=YK P q ops E (wo live Q):=rfl
@[go_sem]theorem agG(T:List Nat)(l:List (Nat×Nat×ah))(live:List Nat):gO P (.HM T l live) Q E=(gI T E.e=true/\Kj P T l E (wo live Q)):=rfl
@[go_sem]theorem agH(T:List Nat)(q:Nat)(ops:List ah)(live:List Nat):gO P (.wq T q ops live) Q E=(gI T E.e=true/\Ht P T q ops E (wo live Q)):=rfl
@[go_sem]theorem ajo(a b:IC):gO P (.seq a b) Q E=gO P a (Ek P b Q) E:=by
  have:(fun x U=>match x with|.normal=>gO P b Q U|x=>Q x U)=Ek P b Q:=by funext x U;cases x<;>rfl
  rw[<-this];rfl
@[go_sem]theorem agC(x:IX)(a b:IC):gO P (.cond x a b) Q E=SF P a b Q E (E.x x):=by
  show(match E.x x with|.bool v=>(v=true->gO P a Q E)/\(v=false->gO P b Q E)|_=>False)=_
  cases E.x x<;>rfl
@[go_sem]theorem aeQ(i:Nat)(b:IC):gO P (.block i b) Q E=gO P b (TL i Q) E:=rfl
@[go_sem]theorem agE(i:Nat):gO P (.exit i) Q E=Q (.exit i) E:=rfl
@[go_sem]theorem aeR(i:Nat):gO P (.label i) Q E=Q .normal E:=rfl
@[go_sem]theorem agF(i:Nat):gO P (.goto i) Q E=Q (.goto i) E:=rfl
@[go_sem]theorem ajn:gO P .ret Q E=Q .ret E:=rfl
@[go_sem]theorem acy(a b:IC)(v:Bool):SF P a b Q E (.bool v)=((v=true->gO P a Q E)/\(v=false->gO P b Q E)):=rfl
@[go_sem]theorem ab4(b:IC):Ek P b Q .normal U=gO P b Q U:=rfl
@[go_sem]theorem aiP(b:IC):Ek P b Q .ret U=Q .ret U:=rfl
@[go_sem]theorem af3(b:IC)(i:Nat):Ek P b Q (.exit i) U=Q (.exit i) U:=rfl
@[go_sem]theorem af4(b:IC)(i:Nat):Ek P b Q (.goto i) U=Q (.goto i) U:=rfl
@[go_sem]theorem aa3(i:Nat):TL i Q .normal U=Q .normal U:=rfl
@[go_sem]theorem ago(i:Nat):TL i Q .ret U=Q .ret U:=rfl
@[go_sem]theorem aeN(i j:Nat):TL i Q (.exit j) U=bif j==i then Q .normal U else Q (.exit j) U:=rfl
@[go_sem]theorem ZA(live:List (Nat×Bool))(J:St->Prop):tV live J Q .normal U=J (U.ep live):=rfl
@[go_sem]theorem ae7(live:List (Nat×Bool))(J:St->Prop):tV live J Q .ret U=Q .ret U:=rfl
@[go_sem]theorem adi(live:List (Nat×Bool))(J:St->Prop)(i:Nat):tV live J Q (.exit i) U=Q (.exit i) U:=rfl
@[go_sem]theorem agI(gl:List (List Bool))(ops:List ah)(live:List Nat):gO P (.UH gl ops live) Q E=U1 P gl ops (wo live Q) ops (wM ops) E:=rfl
@[go_sem]theorem cE(gl:List (List Bool))(ops:List ah)(K:St->Prop)(d:List Bool)(o:ah)(f:List ah):U1 P gl ops K (o::f) d E=Sk d gl [] d ops (fun o d=>Qr P o E (ajg P gl ops K f d)):=rfl
@[go_sem]theorem da(gl:List (List Bool))(ops:List ah)(K:St->Prop)(f:List ah)(d:List Bool)(U:St):ajg P gl ops K f d U=U1 P gl ops K f d U:=rfl
attribute[go_sem] Bw CV wM
@[go_sem]theorem bM(done row pre xs:List Bool)(rows:List (List Bool))(x:Bool)(o:ah)(r:List ah)(F:ah->List Bool->Prop):Sk done (row::rows) pre (x::xs) (o::r) F=((bif !x&&Bw row done then F o (CV pre (true::xs))else True)/\Sk done rows (x::pre) xs r F):=rfl
@[go_sem]theorem cD(done pre:List Bool)(F:ah->List Bool->Prop):Sk done [] pre [] [] F=True:=rfl
@[go_sem]theorem QM(l:Nat)(live:List (Nat×Bool))(a1 a2 a3 r:IC):gO P (.CI l live a1 a2 a3 r) Q E=gO P a1 (Ek P a2 (Ek P a3 (P9 live (jlp P l live r Q) Q))) E:=by
  show gO P a1 (fun x U=>match x with|.normal=>gO P a2 (fun x U=>match x with|.normal=>gO P a3 (P9 live (jlp P l live r Q) Q) U|x=>P9 live (jlp P l live r Q) Q x U) U|x=>P9 live (jlp P l live r Q) Q x U) E=_
  congr 1
  funext x U
  cases x with
  |normal=>
   show gO P a2 _ U=gO P a2 _ U
   congr 1
   funext x U
   cases x<;>rfl
  |_=>rfl
@[go_sem]theorem ab2(live:List (Nat×Bool))(I:St->Prop):P9 live I Q .normal U=I (U.ep live):=rfl
@[go_sem]theorem ahE(l:Nat)(live:List (Nat×Bool))(I:St->Prop):Uh l live I Q .ret U=Q .ret U:=rfl
@[go_sem]theorem ae6(l:Nat)(live:List (Nat×Bool))(I:St->Prop):Uh l live I Q (.goto l) U=I (U.ep live):=by
  show(l=l/\I (U.ep live))=_
  simp
@[go_sem]theorem ZH(live:List (Nat×Bool))(I:St->Prop)(μ:St->Nat)(m:Nat):KY live I μ m Q .normal U=(I (U.ep live)/\μ (U.ep live)<m):=rfl
@[go_sem]theorem afa(live:List (Nat×Bool))(I:St->Prop)(μ:St->Nat)(m:Nat):KY live I μ m Q .ret U=Q .ret U:=rfl
@[go_sem]theorem adr(live:List (Nat×Bool))(I:St->Prop)(μ:St->Nat)(m i:Nat):KY live I μ m Q (.exit i) U=Q (.exit i) U:=rfl
end
section
@[go_sem]theorem ae1:dt (.undef)=false:=rfl
@[go_sem]theorem af6(g:Bool):zP g (.undef)=(.undef):=rfl
@[go_sem]theorem aeE:view (.undef)=(.undef):=rfl
@[go_sem]theorem ahv(b:Bool):dt (.bool b)=true:=rfl
@[go_sem]theorem ai1(g:Bool)(b:Bool):zP g (.bool b)=(.bool b):=rfl
@[go_sem]theorem af7(b:Bool):view (.bool b)=(.bool b):=rfl
@[go_sem]theorem YZ(b:Bool):cellsOf (.bool b)=[(.bool b)]:=rfl
@[go_sem]theorem aaz(b:Bool):aZ (.bool b)=[(.bool b)]:=rfl
@[go_sem]theorem adw(E:St)(i:Nat)(b:Bool):bQ E (.bool b) (some i)=E:=rfl
@[go_sem]theorem aju(k:IntKind)(n:Int):dt (.int k n)=true:=rfl
@[go_sem]theorem ake(g:Bool)(k:IntKind)(n:Int):zP g (.int k n)=(.int k n):=rfl
@[go_sem]theorem ai8(k:IntKind)(n:Int):view (.int k n)=(.int k n):=rfl
@[go_sem]theorem abb(k:IntKind)(n:Int):cellsOf (.int k n)=[(.int k n)]:=rfl
@[go_sem]theorem ab8(k:IntKind)(n:Int):aZ (.int k n)=[(.int k n)]:=rfl
@[go_sem]theorem afk(E:St)(i:Nat)(k:IntKind)(n:Int):bQ E (.int k n) (some i)=E:=rfl
@[go_sem]theorem ajw(s:List UInt8):dt (.str s)=true:=rfl
@[go_sem]theorem akh(g:Bool)(s:List UInt8):zP g (.str s)=(.str s):=rfl
@[go_sem]theorem ajb(s:List UInt8):view (.str s)=(.str s):=rfl
@[go_sem]theorem abd(s:List UInt8):cellsOf (.str s)=[(.str s)]:=rfl
@[go_sem]theorem afm(E:St)(i:Nat)(s:List UInt8):bQ E (.str s) (some i)=E:=rfl
@[go_sem]theorem akk(t n:Nat)(cs:List AV):view (.bb t n cs)=.sl false 1 n cs:=rfl
@[go_sem]theorem ahx:dt (.dK)=true:=rfl
@[go_sem]theorem ai3(g:Bool):zP g (.dK)=(.dK):=rfl
@[go_sem]theorem af9:view (.dK)=(.dK):=rfl
@[go_sem]theorem ady(E:St)(i:Nat):bQ E (.dK) (some i)=E:=rfl
@[go_sem]theorem ajv(b o:Nat):dt (.ref b o)=true:=rfl
@[go_sem]theorem akg(g:Bool)(b o:Nat):zP g (.ref b o)=(.ref b o):=rfl
@[go_sem]theorem aja(b o:Nat):view (.ref b o)=(.ref b o):=rfl
@[go_sem]theorem abc(b o:Nat):cellsOf (.ref b o)=[(.ref b o)]:=rfl
@[go_sem]theorem afl(E:St)(i:Nat)(b o:Nat):bQ E (.ref b o) (some i)=E:=rfl
@[go_sem]theorem alH(g:Bool)(b o:Nat):zP g (.lp b o)=(.lp b o):=rfl
@[go_sem]theorem afh(E:St)(i:Nat)(b o:Nat):bQ E (.lp b o) (some i)={E with lp:=(i,b)::E.lp}:=rfl
@[go_sem]theorem alK(g:Bool)(cs:List AV):zP g (.sp cs)=(.sp cs):=rfl
@[go_sem]theorem ahO(E:St)(i:Nat)(cs:List AV):bQ E (.sp cs) (some i)=E:=rfl
@[go_sem]theorem akf(g:Bool)(cs:List AV):zP g (.loc cs)=(.loc cs):=rfl
@[go_sem]theorem ai9(cs:List AV):view (.loc cs)=(.loc cs):=rfl
@[go_sem]theorem alc(o:Bool)(z n:Nat)(cs:List AV):dt (.sl o z n cs)=true:=rfl
@[go_sem]theorem alJ(g:Bool)(o:Bool)(z n:Nat)(cs:List AV):zP g (.sl o z n cs)=(.sl o z n cs):=rfl
@[go_sem]theorem akn(o:Bool)(z n:Nat)(cs:List AV):view (.sl o z n cs)=(.sl false z n cs):=rfl
@[go_sem]theorem acv(o:Bool)(z n:Nat)(cs:List AV):cellsOf (.sl o z n cs)=[(.sl o z n cs)]:=rfl
@[go_sem]theorem aes(o:Bool)(z n:Nat)(cs:List AV):aZ (.sl o z n cs)=[(.sl o z n cs)]:=rfl
@[go_sem]theorem ahN(E:St)(i:Nat)(o:Bool)(z n:Nat)(cs:List AV):bQ E (.sl o z n cs) (some i)=E:=rfl
@[go_sem]theorem ajt(b o l c:Nat):dt (.arr b o l c)=true:=rfl
@[go_sem]theorem akd(g:Bool)(b o l c:Nat):zP g (.arr b o l c)=(.arr b o l c):=rfl
@[go_sem]theorem ai7(b o l c:Nat):view (.arr b o l c)=(.arr b o l c):=rfl
@[go_sem]theorem aba(b o l c:Nat):cellsOf (.arr b o l c)=[(.arr b o l c)]:=rfl
@[go_sem]theorem ab7(b o l c:Nat):aZ (.arr b o l c)=[(.arr b o l c)]:=rfl
@[go_sem]theorem afj(E:St)(i:Nat)(b o l c:Nat):bQ E (.arr b o l c) (some i)=E:=rfl
@[go_sem]theorem ajs(cs:List AV):dt (.agg cs)=true:=rfl
@[go_sem]theorem akc(g:Bool)(cs:List AV):zP g (.agg cs)=(.agg cs):=rfl
@[go_sem]theorem ai6(cs:List AV):view (.agg cs)=(.agg cs):=rfl
@[go_sem]theorem aa9(cs:List AV):cellsOf (.agg cs)=cs:=rfl
@[go_sem]theorem ab6(cs:List AV):aZ (.agg cs)=views cs:=rfl
@[go_sem]theorem afi(E:St)(i:Nat)(cs:List AV):bQ E (.agg cs) (some i)=E:=rfl
@[go_sem]theorem aki(g:Bool)(cs:List AV):zP g (.gw cs)=(.gw cs):=rfl
@[go_sem]theorem afn(E:St)(i:Nat)(cs:List AV):bQ E (.gw cs) (some i)=E:=rfl
@[go_sem]theorem ala(f:Nat)(x y:List AV):dt (.fn f x y)=true:=rfl
@[go_sem]theorem alG(g:Bool)(f:Nat)(x y:List AV):zP g (.fn f x y)=(.fn f x y):=rfl
@[go_sem]theorem akl(f:Nat)(x y:List AV):view (.fn f x y)=(.fn f x y):=rfl
@[go_sem]theorem acs(f:Nat)(x y:List AV):cellsOf (.fn f x y)=[(.fn f x y)]:=rfl
@[go_sem]theorem ahL(E:St)(i:Nat)(f:Nat)(x y:List AV):bQ E (.fn f x y) (some i)=E:=rfl
@[go_sem]theorem ahw:dt (.oK)=true:=rfl
@[go_sem]theorem ai2(g:Bool):zP g (.oK)=(.oK):=rfl
@[go_sem]theorem af8:view (.oK)=(.oK):=rfl
@[go_sem]theorem adx(E:St)(i:Nat):bQ E (.oK) (some i)=E:=rfl
@[go_sem]theorem alb(b:Nat):dt (.mp b)=true:=rfl
@[go_sem]theorem alI(g:Bool)(b:Nat):zP g (.mp b)=(.mp b):=rfl
@[go_sem]theorem akm(b:Nat):view (.mp b)=(.mp b):=rfl
@[go_sem]theorem acu(b:Nat):cellsOf (.mp b)=[(.mp b)]:=rfl
@[go_sem]theorem aer(b:Nat):aZ (.mp b)=[(.mp b)]:=rfl
@[go_sem]theorem ahM(E:St)(i:Nat)(b:Nat):bQ E (.mp b) (some i)=E:=rfl
@[go_sem]theorem aaf(f:IX->AV)(E:St)(x:IX):pv (.jL true x) f E=.no:=rfl
@[go_sem]theorem ad3(f:IX->AV)(E:St)(z:List AV):pv (.aq z) f E=.no:=rfl
@[go_sem]theorem ad4(f:IX->AV)(E:St)(z:List AV):pv (.gC z) f E=.no:=rfl
@[go_sem]theorem aih(f:IX->AV)(E:St)(n:Nat)(x:IX):pv (.dc n x) f E=.no:=rfl
@[go_sem]theorem aij(f:IX->AV)(E:St)(n:Nat)(x:IX):pv (.oz n x) f E=.no:=rfl
@[go_sem]theorem abS(f:IX->AV)(E:St)(a b:Nat)(z:List AV)(p:List (Nat×Nat×IX)):pv (.bq a b z p) f E=.no:=rfl
@[go_sem]theorem afJ(f:IX->AV)(E:St)(n:Nat)(p v:IX):pv (.store n p v) f E=.no:=rfl
@[go_sem]theorem RV(f:IX->AV)(E:St)(a b:Nat)(x y:IX):pv (.append a b x y) f E=.no:=rfl
@[go_sem]theorem adV(f:IX->AV)(E:St)(x:IX):pv (.fo x) f E=sA (f x):=rfl
attribute[go_sem] sA.eq_1 Yi.eq_1 VC.eq_1
@[go_sem]theorem aae(f:IX->AV)(E:St)(x:IX):pv (.gD x) f E=.no:=rfl
@[go_sem]theorem ad6(f:IX->AV)(E:St)(a b:Nat)(z:List AV)(x y:IX):pv (.fO a b z x y) f E=.no:=rfl
@[go_sem]theorem abV(f:IX->AV)(E:St):pv (.makeMap) f E=.no:=rfl
@[go_sem]theorem ail(f:IX->AV)(E:St)(n:Nat)(l:List IX):pv (.call n l) f E=.no:=rfl
@[go_sem]theorem afE(f:IX->AV)(E:St)(x:IX)(l:List IX):pv (.cu x l) f E=.no:=rfl
@[go_sem]theorem ac8(b:Bool):inner (.bool b)=true:=rfl
@[go_sem]theorem aeY(k:IntKind)(n:Int):inner (.int k n)=true:=rfl
@[go_sem]theorem ae0(s:List UInt8):inner (.str s)=true:=rfl
@[go_sem]theorem ac9:inner (.dK)=true:=rfl
@[go_sem]theorem aeZ(b o:Nat):inner (.ref b o)=true:=rfl
@[go_sem]theorem ahr(b o:Nat):inner (.lp b o)=true:=rfl
@[go_sem]theorem ahu(cs:List AV):inner (.sp cs)=true:=rfl
@[go_sem]theorem aht(o:Bool)(z n:Nat)(cs:List AV):inner (.sl o z n cs)=true:=rfl
@[go_sem]theorem aeX(b o l c:Nat):inner (.arr b o l c)=true:=rfl
@[go_sem]theorem aeW(cs:List AV):inner (.agg cs)=true:=rfl
@[go_sem]theorem ahq(f:Nat)(x y:List AV):inner (.fn f x y)=true:=rfl
@[go_sem]theorem ahs(b:Nat):inner (.mp b)=true:=rfl
@[go_sem]theorem YO(g:Bool)(a:AV):zP g (.when g a)=bif inner a then a else .undef:=by simp[zP]
@[go_sem]theorem agR(x:Bool):gv2 (.bool x)=some (true,x):=rfl
@[go_sem]theorem agS(b x:Bool):gv2 (.when b (.bool x))=some (b,x):=rfl
@[go_sem]theorem ajq:gv2 (.gw [])=some (false,false):=rfl
@[go_sem]theorem alf(g b:Bool):(g=true->b=true->(g&&b)=true)=True:=by cases g<;>cases b<;>simp
@[go_sem]theorem alg(g b:Bool):(g=true->b=false->(g&&!b)=true)=True:=by cases g<;>cases b<;>simp
@[go_sem]theorem alh(b:Bool):(b=false->(!b)=true)=True:=by cases b<;>simp
@[go_sem]theorem agA(b x:Bool):(bif b then x else false)=(b&&x):=by cases b<;>rfl
@[go_sem]theorem ajl(b x:Bool):(bif b then true else x)=(b||x):=by cases b<;>rfl
@[go_sem]theorem alP(b:Bool):(b==true)=b:=by cases b<;>rfl
@[go_sem]theorem alO(b:Bool):(b==false)=!b:=by cases b<;>rfl
@[go_sem]theorem ahF(k:IntKind):Ui k k=true:=by simp[Ui]
@[go_sem]theorem ald(a b:Nat)(cs:List AV):dt (.us a b cs)=false:=rfl
@[go_sem]theorem ajr(a b:Nat)(cs:List AV):WB (.us a b cs)=true:=rfl
@[go_sem]theorem aiL:jO []=true:=rfl
@[go_sem]theorem aiM(a b:AV)(l:List AV):jO (a::b::l)=true:=rfl
@[go_sem]theorem aiH:fj []=.gw []:=rfl
@[go_sem]theorem aiI(a b:AV)(l:List AV):fj (a::b::l)=.gw (a::b::l):=rfl
@[go_sem]theorem aga:views []=[]:=rfl
@[go_sem]theorem aeF(a:AV)(l:List AV):views (a::l)=view a::views l:=rfl
@[go_sem]theorem x_t(E:St)(i:Nat):E.x (.t i)=look E.e i:=rfl
@[go_sem]theorem x_c(E:St)(a:AV):E.x (.c a)=a:=rfl
@[go_sem]theorem aie(E:St)(i:Nat)(a:AV):E.put (some i) a={E with e:=(i,a)::E.e}:=rfl
@[go_sem]theorem aid(E:St)(a:AV):E.put none a=E:=rfl
@[go_sem]theorem look_nil(i:Nat):look [] i=.undef:=rfl
@[go_sem]theorem adq(j i:Nat)(a:AV)(l:List (Nat×AV)):look ((j,a)::l) i=bif j==i then a else look l i:=rfl
section
variable(P:Program)(K:St->Prop)(E:St)
@[go_sem]theorem aiE(l:List ah):YK P 0 l E K=swp P l E K:=rfl
@[go_sem]theorem aiD(q:Nat)(o:ah)(r:List ah):YK P (q+1) (o::r) E K=(aR E o.dst=true/\q1 P o E (aiB P q r K)):=rfl
@[go_sem]theorem alu(d:Option Nat)(x:IX):q1 P ⟨d,.jL false x,none⟩ E K=qK E d K (qv ⟨d,.jL false x,none⟩ E):=rfl
@[go_sem]theorem aly(d:Option Nat)(x:IX):q2 P ⟨d,.jL false x,none⟩ E K=(aR E d=true/\qK E d K (qv ⟨d,.jL false x,none⟩ E)):=by cases d<;>rfl
@[go_sem]theorem ajV(d:Option Nat)(t:Nat)(want:Bool)(x:IX):q1 P ⟨d,.jL false x,(some (t,want))⟩ E K=qK E d K (qv ⟨d,.jL false x,(some (t,want))⟩ E):=rfl
@[go_sem]theorem ajW(d:Option Nat)(c x y:IX):q1 P ⟨d,.pick c x y,none⟩ E K=qK E d K (qv ⟨d,.pick c x y,none⟩ E):=rfl
@[go_sem]theorem aj1(d:Option Nat)(c x y:IX):q2 P ⟨d,.pick c x y,none⟩ E K=(aR E d=true/\qK E d K (qv ⟨d,.pick c x y,none⟩ E)):=by cases d<;>rfl
@[go_sem]theorem aim(d:Option Nat)(z:List AV)(ps:List (Nat×Nat×IX)):q1 P ⟨d,.build z ps,none⟩ E K=qK E d K (qv ⟨d,.build z ps,none⟩ E):=rfl
@[go_sem]theorem ais(d:Option Nat)(z:List AV)(ps:List (Nat×Nat×IX)):q2 P ⟨d,.build z ps,none⟩ E K=(aR E d=true/\qK E d K (qv ⟨d,.build z ps,none⟩ E)):=by cases d<;>rfl
@[go_sem]theorem ajU(d:Option Nat)(n:Nat)(m:Bool)(x:IX):q1 P ⟨d,.load n m x,none⟩ E K=qK E d K (qv ⟨d,.load n m x,none⟩ E):=rfl
@[go_sem]theorem ajZ(d:Option Nat)(n:Nat)(m:Bool)(x:IX):q2 P ⟨d,.load n m x,none⟩ E K=(aR E d=true/\qK E d K (qv ⟨d,.load n m x,none⟩ E)):=by cases d<;>rfl
@[go_sem]theorem aio(d:Option Nat)(t:Nat)(want:Bool)(n:Nat)(m:Bool)(x:IX):q1 P ⟨d,.load n m x,(some (t,want))⟩ E K=qK E d K (qv ⟨d,.load n m x,(some (t,want))⟩ E):=rfl
@[go_sem]theorem ait(d:Option Nat)(t:Nat)(want:Bool)(n:Nat)(m:Bool)(x:IX):q2 P ⟨d,.load n m x,(some (t,want))⟩ E K=(aR E d=true/\qK E d K (qv ⟨d,.load n m x,(some (t,want))⟩ E)):=by cases d<;>rfl
@[go_sem]theorem abW(d:Option Nat)(x:IX):q1 P ⟨d,.nilCheck x,none⟩ E K=qK E d K (qv ⟨d,.nilCheck x,none⟩ E):=rfl
@[go_sem]theorem abX(d:Option Nat)(x:IX):q2 P ⟨d,.nilCheck x,none⟩ E K=(aR E d=true/\qK E d K (qv ⟨d,.nilCheck x,none⟩ E)):=by cases d<;>rfl
@[go_sem]theorem aai(d:Option Nat)(t:Nat)(want:Bool)(x:IX):q1 P ⟨d,.nilCheck x,(some (t,want))⟩ E K=qK E d K (qv ⟨d,.nilCheck x,(some (t,want))⟩ E):=rfl
@[go_sem]theorem alp(d:Option Nat)(b:BinOp)(x y:IX):q1 P ⟨d,.bin b x y,none⟩ E K=qK E d K (qv ⟨d,.bin b x y,none⟩ E):=rfl
@[go_sem]theorem alw(d:Option Nat)(b:BinOp)(x y:IX):q2 P ⟨d,.bin b x y,none⟩ E K=(aR E d=true/\qK E d K (qv ⟨d,.bin b x y,none⟩ E)):=by cases d<;>rfl
@[go_sem]theorem ajR(d:Option Nat)(t:Nat)(want:Bool)(b:BinOp)(x y:IX):q1 P ⟨d,.bin b x y,(some (t,want))⟩ E K=qK E d K (qv ⟨d,.bin b x y,(some (t,want))⟩ E):=rfl
@[go_sem]theorem ajX(d:Option Nat)(t:Nat)(want:Bool)(b:BinOp)(x y:IX):q2 P ⟨d,.bin b x y,(some (t,want))⟩ E K=(aR E d=true/\qK E d K (qv ⟨d,.bin b x y,(some (t,want))⟩ E)):=by cases d<;>rfl
@[go_sem]theorem alq(d:Option Nat)(n:Bool)(x y:IX):q1 P ⟨d,.U4 n x y,none⟩ E K=qK E d K (qv ⟨d,.U4 n x y,none⟩ E):=rfl
@[go_sem]theorem alr(d:Option Nat)(n:Bool)(x y:IX):q1 P ⟨d,.Ov n x y,none⟩ E K=qK E d K (qv ⟨d,.Ov n x y,none⟩ E):=rfl
@[go_sem]theorem amc(d:Option Nat)(u:UnOp)(x:IX):q1 P ⟨d,.un u x,none⟩ E K=qK E d K (qv ⟨d,.un u x,none⟩ E):=rfl
@[go_sem]theorem alv(d:Option Nat)(t:Nat)(want:Bool)(u:UnOp)(x:IX):q1 P ⟨d,.un u x,(some (t,want))⟩ E K=qK E d K (qv ⟨d,.un u x,(some (t,want))⟩ E):=rfl
@[go_sem]theorem afL(d:Option Nat)(k:IntKind)(x:IX):q1 P ⟨d,.jI k x,none⟩ E K=qK E d K (qv ⟨d,.jI k x,none⟩ E):=rfl
@[go_sem]theorem afS(d:Option Nat)(x i:IX):q1 P ⟨d,.iK x i,none⟩ E K=qK E d K (qv ⟨d,.iK x i,none⟩ E):=rfl
@[go_sem]theorem aeb(d:Option Nat)(t:Nat)(want:Bool)(x i:IX):q1 P ⟨d,.iK x i,(some (t,want))⟩ E K=qK E d K (qv ⟨d,.iK x i,(some (t,want))⟩ E):=rfl
@[go_sem]theorem aag(d:Option Nat)(f:Nat)(x:IX):q1 P ⟨d,.fieldAddr f x,none⟩ E K=qK E d K (qv ⟨d,.fieldAddr f x,none⟩ E):=rfl
@[go_sem]theorem aaj(d:Option Nat)(f:Nat)(x:IX):q2 P ⟨d,.fieldAddr f x,none⟩ E K=(aR E d=true/\qK E d K (qv ⟨d,.fieldAddr f x,none⟩ E)):=by cases d<;>rfl
@[go_sem]theorem YH(d:Option Nat)(t:Nat)(want:Bool)(f:Nat)(x:IX):q1 P ⟨d,.fieldAddr f x,(some (t,want))⟩ E K=qK E d K (qv ⟨d,.fieldAddr f x,(some (t,want))⟩ E):=rfl
@[go_sem]theorem YJ(d:Option Nat)(t:Nat)(want:Bool)(f:Nat)(x:IX):q2 P ⟨d,.fieldAddr f x,(some (t,want))⟩ E K=(aR E d=true/\qK E d K (qv ⟨d,.fieldAddr f x,(some (t,want))⟩ E)):=by cases d<;>rfl
@[go_sem]theorem aah(d:Option Nat)(z:List AV)(x i:IX):q1 P ⟨d,.indexAddr z x i,none⟩ E K=qK E d K (qv ⟨d,.indexAddr z x i,none⟩ E):=rfl
@[go_sem]theorem aak(d:Option Nat)(z:List AV)(x i:IX):q2 P ⟨d,.indexAddr z x i,none⟩ E K=(aR E d=true/\qK E d K (qv ⟨d,.indexAddr z x i,none⟩ E)):=by cases d<;>rfl
@[go_sem]theorem YI(d:Option Nat)(t:Nat)(want:Bool)(z:List AV)(x i:IX):q1 P ⟨d,.indexAddr z x i,(some (t,want))⟩ E K=qK E d K (qv ⟨d,.indexAddr z x i,(some (t,want))⟩ E):=rfl
@[go_sem]theorem air(d:Option Nat)(z:Nat)(x:IX)(lo hi mx:Option IX):q1 P ⟨d,.slice z x lo hi mx,none⟩ E K=qK E d K (qv ⟨d,.slice z x lo hi mx,none⟩ E):=rfl
@[go_sem]theorem afT(d:Option Nat)(t:Nat)(want:Bool)(z:Nat)(x:IX)(lo hi mx:Option IX):q1 P ⟨d,.slice z x lo hi mx,(some (t,want))⟩ E K=qK E d K (qv ⟨d,.slice z x lo hi mx,(some (t,want))⟩ E):=rfl
@[go_sem]theorem aea(d:Option Nat)(x:IX)(k:Nat):q1 P ⟨d,.extract x k,none⟩ E K=qK E d K (qv ⟨d,.extract x k,none⟩ E):=rfl
@[go_sem]theorem aed(d:Option Nat)(x:IX)(k:Nat):q2 P ⟨d,.extract x k,none⟩ E K=(aR E d=true/\qK E d K (qv ⟨d,.extract x k,none⟩ E)):=by cases d<;>rfl
@[go_sem]theorem als(d:Option Nat)(c:Nat)(x:IX):q1 P ⟨d,.len c x,none⟩ E K=qK E d K (qv ⟨d,.len c x,none⟩ E):=rfl
@[go_sem]theorem alx(d:Option Nat)(c:Nat)(x:IX):q2 P ⟨d,.len c x,none⟩ E K=(aR E d=true/\qK E d K (qv ⟨d,.len c x,none⟩ E)):=by cases d<;>rfl
@[go_sem]theorem ajT(d:Option Nat)(t:Nat)(want:Bool)(c:Nat)(x:IX):q1 P ⟨d,.len c x,(some (t,want))⟩ E K=qK E d K (qv ⟨d,.len c x,(some (t,want))⟩ E):=rfl
@[go_sem]theorem afQ(d:Option Nat)(m:Bool)(xs:List IX):q1 P ⟨d,.fP m xs,none⟩ E K=qK E d K (qv ⟨d,.fP m xs,none⟩ E):=rfl
@[go_sem]theorem aj0(d:Option Nat)(x:IX):q2 P ⟨d,.jL true x,none⟩ E K=(aR E d=true/\WW E x d K (E.x x)):=by cases d<;>rfl
@[go_sem]theorem ajS(d:Option Nat)(f:Nat)(args:List IX):q1 P ⟨d,.call f args,none⟩ E K=Th P f E d K (bZ (xg true E) args):=rfl
@[go_sem]theorem ajY(d:Option Nat)(f:Nat)(args:List IX):q2 P ⟨d,.call f args,none⟩ E K=(aR E d=true/\Th P f E d K (bZ (xg true E) args)):=by cases d<;>rfl
@[go_sem]theorem ain(d:Option Nat)(f:Nat)(args:List IX)(t:Nat)(want:Bool):q1 P ⟨d,.call f args,some (t,want)⟩ E K=Hr P f args want E d K (look E.e t):=rfl
@[go_sem]theorem afM(d:Option Nat)(x:IX):q1 P ⟨d,.fo x,none⟩ E K=qK E d K (qv ⟨d,.fo x,none⟩ E):=rfl
@[go_sem]theorem ad9(d:Option Nat)(t:Nat)(want:Bool)(x:IX):q1 P ⟨d,.fo x,(some (t,want))⟩ E K=qK E d K (qv ⟨d,.fo x,(some (t,want))⟩ E):=rfl
@[go_sem]theorem ad8(d:Option Nat)(sz n:Nat)(z:List AV)(ps:List (Nat×Nat×IX))(g:Option (Nat×Bool)):q1 P ⟨d,.bq sz n z ps,g⟩ E K=qK E d K (Dv ⟨d,.bq sz n z ps,g⟩ E):=rfl
@[go_sem]theorem aec(d:Option Nat)(sz n:Nat)(z:List AV)(ps:List (Nat×Nat×IX))(g:Option (Nat×Bool)):q2 P ⟨d,.bq sz n z ps,g⟩ E K=(aR E d=true/\qK E d K (Dv ⟨d,.bq sz n z ps,g⟩ E)):=by cases d<;>rfl
@[go_sem]theorem afP(d:Option Nat)(kk:k9)(z:AV)(ok:Bool)(x k:IX)(g:Option (Nat×Bool)):q1 P ⟨d,.lookup kk z ok x k,g⟩ E K=qK E d K (Dv ⟨d,.lookup kk z ok x k,g⟩ E):=rfl
@[go_sem]theorem aiq(d:Option Nat)(z:List AV)(m:Bool)(x:IX):q1 P ⟨d,.bf z m x,none⟩ E K=qK E d K (qv ⟨d,.bf z m x,none⟩ E):=rfl
@[go_sem]theorem aiu(d:Option Nat)(z:List AV)(m:Bool)(x:IX):q2 P ⟨d,.bf z m x,none⟩ E K=(aR E d=true/\qK E d K (qv ⟨d,.bf z m x,none⟩ E)):=by cases d<;>rfl
@[go_sem]theorem afO(d:Option Nat)(t:Nat)(want:Bool)(z:List AV)(m:Bool)(x:IX):q1 P ⟨d,.bf z m x,(some (t,want))⟩ E K=qK E d K (qv ⟨d,.bf z m x,(some (t,want))⟩ E):=rfl
@[go_sem]theorem aip(d:Option Nat)(k:IntKind)(x:IX):q1 P ⟨d,.mh k x,none⟩ E K=qK E d K (qv ⟨d,.mh k x,none⟩ E):=rfl
@[go_sem]theorem afN(d:Option Nat)(t:Nat)(want:Bool)(k:IntKind)(x:IX):q1 P ⟨d,.mh k x,(some (t,want))⟩ E K=qK E d K (qv ⟨d,.mh k x,(some (t,want))⟩ E):=rfl
@[go_sem]theorem afB(f:IX->AV)(E:St)(k:IntKind)(x:IX):pv (.mh k x) f E=Ck k E.s (f x):=rfl
@[go_sem]theorem ado(k:IntKind)(s:ab)(b off:Nat):Ck k s (.ref b off)=.prt (GW k off (s b)) (.int k (GX off (s b))):=rfl
@[go_sem]theorem afC(f:IX->AV)(E:St)(z:List AV)(m:Bool)(x:IX):pv (.bf z m x) f E=KW z m E.s (f x):=rfl
@[go_sem]theorem abU(f:IX->AV)(E:St)(kk:k9)(z:AV)(ok:Bool)(x k:IX):pv (.lookup kk z ok x k) f E=.no:=rfl
@[go_sem]theorem abT(f:IX->AV)(E:St)(x:IX):pv (.kc x) f E=.no:=rfl
@[go_sem]theorem XU(f:IX->AV)(E:St)(kk:k9)(x k v:IX):pv (.mapUpdate kk x k v) f E=.no:=rfl
@[go_sem]theorem adf(d:Option Nat)(kk:k9)(z:AV)(ok:Bool)(x k:IX):jf P (.lookup kk z ok x k) d E K=RR E d K (iT kk z ok E.s (xg true E k) (xg true E x)):=rfl
@[go_sem]theorem ade(d:Option Nat)(x:IX):jf P (.kc x) d E K=RR E d K (Eg (xg true E x)):=rfl
@[go_sem]theorem YF(d:Option Nat)(kk:k9)(x k v:IX):jf P (.mapUpdate kk x k v) d E K=xb kk E (xg true E k) (xg true E v) d K (xg true E x):=rfl
@[go_sem]theorem afR(d:Option Nat)(x:IX)(g:Option (Nat×Bool)):q1 P ⟨d,.rW x,g⟩ E K=qK E d K (Dv ⟨d,.rW x,g⟩ E):=rfl
@[go_sem]theorem afW(d:Option Nat)(x:IX)(g:Option (Nat×Bool)):q2 P ⟨d,.rW x,g⟩ E K=(aR E d=true/\qK E d K (Dv ⟨d,.rW x,g⟩ E)):=by cases d<;>rfl
@[go_sem]theorem afI(f:IX->AV)(E:St)(x:IX):pv (.rW x) f E=.no:=rfl
@[go_sem]theorem ahA(d:Option Nat)(x:IX):jf P (.rW x) d E K=RR E d K (CO (xg true E x)):=rfl
@[go_sem]theorem aj2(f:IX->AV)(s:ab)(x:IX):qe f s (.rW x)=CO (f x):=rfl
@[go_sem]theorem aix(d:Option Nat)(o:ua):Dv ⟨d,o,none⟩ E=qe (xg true E) E.s o:=rfl
@[go_sem]theorem aiz(d:Option Nat)(o:ua)(t:Nat)(want:Bool):Dv ⟨d,o,some (t,want)⟩ E=Qt o want E (look E.e t):=rfl
@[go_sem]theorem aiw(o:ua)(want b:Bool):Qt o want E (.bool b)=Qo (b==want) (qe (xg (b==want) E) E.s o):=rfl
@[go_sem]theorem aiA(f:IX->AV)(s:ab)(sz n:Nat)(z:List AV)(ps:List (Nat×Nat×IX)):qe f s (.bq sz n z ps)=HP sz n (fill f z ps):=rfl
@[go_sem]theorem afY(f:IX->AV)(s:ab)(kk:k9)(z:AV)(ok:Bool)(x k:IX):qe f s (.lookup kk z ok x k)=iT kk z ok s (f k) (f x):=rfl
@[go_sem]theorem aj7(n:Nat)(x:Int)(cs:List AV):Eg (.sl true 1 (n+1) (.int .u8 x::cs))=.dv (.sl false 1 (n+1) (.int .u8 x::cs)):=rfl
attribute[go_sem] CO.eq_1 KW.eq_1 Pu.eq_1 iT.eq_1 iT.eq_2 RR.eq_1 RR.eq_2 RR.eq_3
attribute[go_sem] wU.eq_1 HP.eq_1
@[go_sem]theorem aj3(d:Option Nat)(o:ua):qv ⟨d,o,none⟩ E=pv o (xg true E) E:=rfl
@[go_sem]theorem aj4(d:Option Nat)(o:ua)(t:Nat)(want:Bool):qv ⟨d,o,some (t,want)⟩ E=PW o want E (look E.e t):=rfl
@[go_sem]theorem ajM(f:IX->AV)(E:St)(x:IX):pv (.cap x) f E=QJ (f x):=rfl
@[go_sem]theorem ad2(f:IX->AV)(E:St)(z:Nat)(x:IX)(lo hi:Option IX)(m:IX):pv (.slice z x lo hi (some m)) f E=qw z f lo hi m (f x):=rfl
@[go_sem]theorem aad(f:IX->AV)(E:St)(a b:Nat)(z:List AV)(p:List (Nat×Nat×IX)):pv (.jR a b z p) f E=.no:=rfl
@[go_sem]theorem abQ(f:IX->AV)(E:St)(a b:Nat)(z:List AV)(x y:IX):pv (.eV a b z x y) f E=.no:=rfl
@[go_sem]theorem abR(f:IX->AV)(E:St)(a b:Nat)(z:List AV)(x y:IX):pv (.lz a b z x y) f E=.no:=rfl
@[go_sem]theorem abw(d:Option Nat)(sz by':Nat)(z:List AV)(x y:IX):jf P (.lz sz by' z x y) d E K=uE sz by' z E d K (E.x x) (xg true E y):=rfl
@[go_sem]theorem afF(f:IX->AV)(E:St)(a:Nat)(x y:IX):pv (.gN a x y) f E=.no:=rfl
@[go_sem]theorem ad5(f:IX->AV)(E:St)(z:List AV)(x:IX):pv (.mo z x) f E=.no:=rfl
@[go_sem]theorem ajP(f:IX->AV)(E:St)(a:Nat)(o:Bool)(x:IX):pv (.T7 a o x) f E=.no:=rfl
@[go_sem]theorem UE(f:IX->AV)(E:St)(off:Nat)(j x:IX):pv (.oq off j x) f E=.no:=rfl
@[go_sem]theorem afG(f:IX->AV)(E:St)(x:IX):pv (.jh x) f E=.no:=rfl
@[go_sem]theorem ajO(f:IX->AV)(E:St)(o:Bool)(x:IX):pv (.YE o x) f E=.no:=rfl
@[go_sem]theorem ajQ(f:IX->AV)(E:St)(g:Nat)(x y:IX):pv (.U7 g x y) f E=.no:=rfl
@[go_sem]theorem Zz(d:Option Nat)(sz n:Nat)(z:List AV)(p:List (Nat×Nat×IX)):jf P (.jR sz n z p) d E K=wT sz n E d K (fill (xg true E) z p):=rfl
@[go_sem]theorem abv(d:Option Nat)(sz by':Nat)(z:List AV)(x y:IX):jf P (.eV sz by' z x y) d E K=eN sz by' z E d K (E.x x) (ur E.s sz (E.x y)):=rfl
@[go_sem]theorem ae3(d:Option Nat)(sz:Nat)(x y:IX):jf P (.gN sz x y) d E K=yQ sz E d K (E.x x) (ur E.s sz (E.x y)):=rfl
@[go_sem]theorem adb(d:Option Nat)(z:List AV)(x:IX):jf P (.mo z x) d E K=wV z E d K (E.x x):=rfl
@[go_sem]theorem ajy(d:Option Nat)(sz:Nat)(o:Bool)(x:IX):jf P (.T7 sz o x) d E K=DJ sz o E d K (E.x x):=rfl
@[go_sem]theorem ae4(d:Option Nat)(x:IX):jf P (.jh x) d E K=pL E d K (E.x x):=rfl
@[go_sem]theorem ajx(d:Option Nat)(o:Bool)(x:IX):jf P (.YE o x) d E K=T3 o E d K (E.x x):=rfl
@[go_sem]theorem ajz(d:Option Nat)(f:Nat)(x y:IX):jf P (.U7 f x y) d E K=XC P f E d K (E.x x) (E.x y):=rfl
@[go_sem]theorem afK(d:Option Nat)(x:IX)(args:List IX)(t:Nat)(want:Bool):q1 P ⟨d,.cu x args,some (t,want)⟩ E K=E4 P x args want E d K (look E.e t):=rfl
@[go_sem]theorem aam(x:IX)(args:List IX)(want b:Bool)(d:Option Nat):E4 P x args want E d K (.bool b)=(∃rs,jO rs=true/\((b==want)=true->∃f as,callee x args (b==want) E f as/\pz P f=true/\FE P f as E.s rs E.s)/\K (E.put d (.when (b==want) (fj rs)))):=rfl
@[go_sem]theorem aik(f:IX->AV)(E:St)(n t j u:Nat)(x:IX):pv (.LC n t j u x) f E=.no:=rfl
@[go_sem]theorem ahz(d:Option Nat)(n t j u:Nat)(x:IX):jf P (.LC n t j u x) d E K=Vp n t j u E d K (E.x x):=rfl
@[go_sem]theorem afH(f:IX->AV)(E:St)(z:Nat)(o:Bool)(x:IX):pv (.yq z o x) f E=.no:=rfl
@[go_sem]theorem ae5(d:Option Nat)(z:Nat)(o:Bool)(x:IX):jf P (.yq z o x) d E K=MC z o E d K (rd E (xg true E x) 1):=rfl
attribute[go_sem] MC.eq_1 Vp
@[go_sem]theorem ajN(f:IX->AV)(E:St)(ne:Bool)(x:IX):pv (.Za ne x) f E=Ot ne (f x):=rfl
@[go_sem]theorem ad7(f:IX->AV)(E:St)(z n:Nat)(p v:IX):pv (.qX z n p v) f E=.no:=rfl
@[go_sem]theorem aii(f:IX->AV)(E:St)(z n:Nat)(x:IX):pv (.Fq z n x) f E=.no:=rfl
@[go_sem]theorem adg(d:Option Nat)(z n:Nat)(p v:IX):jf P (.qX z n p v) d E K=No z n E p v d K (E.x v):=rfl
@[go_sem]theorem ahy(d:Option Nat)(z n:Nat)(x:IX):jf P (.Fq z n x) d E K=Vo z n E d K (E.x x):=rfl
@[go_sem]theorem aay(z:Nat)(cs:List AV):cC z (.agg cs)=(views cs).map (vW z):=rfl
@[go_sem]theorem ahU(z b:Nat):vW z (.arr b 0 0 0)=.sl true z 0 []:=rfl
@[go_sem]theorem ahV(z:Nat)(k:IntKind)(n:Int):vW z (.int k n)=.int k n:=rfl
@[go_sem]theorem afq(z:Nat)(b:Bool):vW z (.bool b)=.bool b:=rfl
@[go_sem]theorem ahW(z:Nat)(b:List UInt8):vW z (.str b)=.str b:=rfl
@[go_sem]theorem ajI(z:Nat)(o:Bool)(s n:Nat)(cs:List AV):vW z (.sl o s n cs)=.sl o s n cs:=rfl
@[go_sem]theorem ajH(z b:Nat):vW z (.mp b)=.mp b:=rfl
attribute[go_sem] No Vo
@[go_sem]theorem afD(f:IX->AV)(E:St)(g i:Nat)(xs:List IX):pv (.uI g i xs) f E=.no:=rfl
@[go_sem]theorem ae2(d:Option Nat)(f i:Nat)(xs:List IX):jf P (.uI f i xs) d E K=Yn i E (fun U=>uJ P f U d K (bZ (xg true U) xs)) (look E.e i):=rfl
attribute[go_sem] ES.eq_1 ES.eq_2 Q4.eq_1
attribute[go_sem] Ot.eq_1 Ot.eq_2
attribute[go_sem] QJ.eq_1 qw.eq_1 CK.eq_1 wT.eq_1 T3.eq_1 T3.eq_2
@[go_sem]theorem af1(T:List Nat)(l:List ah):Ht P T 0 l E K=swp P l E K:=rfl
@[go_sem]theorem af0(T:List Nat)(q:Nat)(o:ah)(r:List ah):Ht P T (q+1) (o::r) E K=q2 P o E (abY P T q r K):=rfl
@[go_sem]theorem afZ(T:List Nat)(q:Nat)(r:List ah)(U:St):abY P T q r K U=(gI T U.e=true/\Ht P T q r U K):=rfl
@[go_sem]theorem ajk(T:List Nat):Kj P T [] E K=K E:=rfl
@[go_sem]theorem alR(T:List Nat)(i:Nat)(o:ah)(r:List (Nat×Nat×ah)):Kj P T ((0,i,o)::r) E K=q2 P o E (Vq P T r K):=rfl
@[go_sem]theorem alS(T:List Nat)(i:Nat)(o:ah)(r:List (Nat×Nat×ah)):Kj P T ((1,i,o)::r) E K=(nS o E=true/\q2 P o E (Vq P T r K)):=rfl
@[go_sem]theorem alT(T:List Nat)(i:Nat)(o:ah)(r:List (Nat×Nat×ah)):Kj P T ((2,i,o)::r) E K=Vj P o E (Vq P T r K):=rfl
@[go_sem]theorem alU(T:List Nat)(i:Nat)(o:ah)(r:List (Nat×Nat×ah)):Kj P T ((3,i,o)::r) E K=Qr P o E (Vq P T r K):=rfl
@[go_sem]theorem agt(T:List Nat)(r:List (Nat×Nat×ah))(U:St):Vq P T r K U=(gI T U.e=true/\Kj P T r U K):=rfl
@[go_sem]theorem agl(d:Option Nat)(f:Nat)(args:List IX):Vj P ⟨d,.call f args,none⟩ E K=(aR E d=true/\uJ P f E d K (bZ (xg true E) args)):=by
  show(aR E d=true/\BH P f E.s (U3 E d K) (bZ (xg true E) args))=_
  cases bZ (xg true E) args<;>rfl
@[go_sem]theorem acp(d:Option Nat)(sz by':Nat)(z:List AV)(l c:IX):Vj P ⟨d,.fO sz by' z l c,none⟩ E K=(aR E d=true/\xa by' z E d K (xg true E l) (xg true E c)):=by
  show(aR E d=true/\su by' z E.s (U3 E d K) (xg true E l) (xg true E c))=_
  cases xg true E l<;>cases xg true E c<;>rfl
@[go_sem]theorem aeK(d:Option Nat)(n:Nat)(p v:IX):Vj P ⟨d,.store n p v,none⟩ E K=(aR E d=true/\qd n E.s (U3 E d K) (E.x v) (E.x p)):=rfl
@[go_sem]theorem aeJ(d:Option Nat)(x:IX):Vj P ⟨d,.jh x,none⟩ E K=(aR E d=true/\uG E.s (U3 E d K) (E.x x)):=rfl
@[go_sem]theorem ajj(d:Option Nat)(a:AV)(s':ab):U3 E d K a s'=K ({E with s:=s'}.put d a):=rfl
@[go_sem]theorem aa8(n:Nat)(s:ab)(C:AV->ab->Prop)(v:AV)(b off:Nat):qd n s C v (.ref b off)=(dt v=true/\PI v=true/\(aZ v).length=n/\N5 b off (aZ v) s C (s b)):=rfl
@[go_sem]theorem aa7(b off:Nat)(news:List AV)(s:ab)(C:AV->ab->Prop)(ez:List AV):N5 b off news s C (some (.cells ez))=(off+news.length<=ez.length/\C (.gw []) (s.set b (.cells (setAt ez off news)))):=rfl
attribute[go_sem] nS
@[go_sem]theorem afs(k:IntKind)(n:Int):PI (.int k n)=true:=rfl
@[go_sem]theorem ahX(b o:Nat):mj (.lp b o)=true:=rfl
@[go_sem]theorem afu(cs:List AV):mj (.loc cs)=true:=rfl
@[go_sem]theorem aft(z n:Nat)(cs:List AV):PI (.sl false z n cs)=true:=rfl
@[go_sem]theorem afr(T:List Nat):gI T []=true:=rfl
@[go_sem]theorem adD(T:List Nat)(p:Nat×AV)(e:List (Nat×AV)):gI T (p::e)=(sR T p.2&&gI T e):=rfl
@[go_sem]theorem adv(a:AV):sR [] a=true:=rfl
@[go_sem]theorem abB(c:Nat)(T:List Nat)(a:AV):sR (c::T) a=(nI c a&&sR T a):=rfl
@[go_sem]theorem ahJ(c t o:Nat):nI c (.lp t o)=!Nat.beq t c:=rfl
@[go_sem]theorem adu(c:Nat)(b:Bool)(a:AV):nI c (.when b a)=nI c a:=rfl
@[go_sem]theorem afX(n c:Nat)(x:IX)(ez:List AV):XV n E c x K (.loc ez)=(ez.length=n/\dt (E.x x)=true/\(aZ (E.x x)).length=n/\K ((E.drain x).put (some c) (.loc (aZ (E.x x))))):=rfl
@[go_sem]theorem aiv(n c:Nat)(x:IX):q2 P ⟨none,.store n (.t c) x,none⟩ E K=XV n E c x K (look E.e c):=rfl
@[go_sem]theorem afU(d:Nat)(z:List AV):q2 P ⟨some d,.aq z,none⟩ E K=(bg (look E.e d)=true/\lN E.lp (some d)=true/\K (E.put (some d) (.loc z))):=rfl
@[go_sem]theorem afV(d sz bytes:Nat)(x y:IX):q2 P ⟨some d,.append sz bytes x y,none⟩ E K=(bg (look E.e d)=true/\ly sz bytes E x (some d) K (E.x x) (E.x y)):=rfl
@[go_sem]theorem ads(c':Nat)(b:Bool):nI c' (.bool b)=true:=rfl
@[go_sem]theorem afd(c':Nat)(k:IntKind)(n:Int):nI c' (.int k n)=true:=rfl
@[go_sem]theorem adt(c':Nat):nI c' (.dK)=true:=rfl
@[go_sem]theorem aff(c':Nat)(b o:Nat):nI c' (.ref b o)=true:=rfl
@[go_sem]theorem afe(c':Nat)(cs:List AV):nI c' (.loc cs)=true:=rfl
@[go_sem]theorem ahK(c':Nat)(o:Bool)(s n:Nat)(cs:List AV):nI c' (.sl o s n cs)=true:=rfl
@[go_sem]theorem afc(c':Nat)(b o n c:Nat):nI c' (.arr b o n c)=true:=rfl
@[go_sem]theorem afb(c':Nat)(cs:List AV):nI c' (.agg cs)=true:=rfl
@[go_sem]theorem afg(c':Nat)(cs:List AV):nI c' (.gw cs)=true:=rfl
@[go_sem]theorem YM:aR E none=true:=rfl
@[go_sem]theorem YN(d:Nat):aR E (some d)=bg (look E.e d):=rfl
@[go_sem]theorem abH(b:Bool)(a:AV):bg (.when b a)=true:=rfl
@[go_sem]theorem afv(b o:Nat):bg (.lp b o)=true:=rfl
@[go_sem]theorem ZR:bg (.undef)=true:=rfl
@[go_sem]theorem abF(b:Bool):bg (.bool b)=true:=rfl
@[go_sem]theorem adH(k:IntKind)(n:Int):bg (.int k n)=true:=rfl
@[go_sem]theorem adJ(s:List UInt8):bg (.str s)=true:=rfl
@[go_sem]theorem abG:bg (.dK)=true:=rfl
@[go_sem]theorem adI(b o:Nat):bg (.ref b o)=true:=rfl
@[go_sem]theorem afy(cs:List AV):bg (.sp cs)=true:=rfl
@[go_sem]theorem afx(o:Bool)(z n:Nat)(cs:List AV):bg (.sl o z n cs)=true:=rfl
@[go_sem]theorem adG(b o l c:Nat):bg (.arr b o l c)=true:=rfl
@[go_sem]theorem adF(cs:List AV):bg (.agg cs)=true:=rfl
@[go_sem]theorem adK(cs:List AV):bg (.gw cs)=true:=rfl
@[go_sem]theorem afw(b:Nat):bg (.mp b)=true:=rfl
@[go_sem]theorem af2(z:List AV)(m:Bool)(x:IX):rdO (.bf z m x)=true:=rfl
attribute[go_sem] U9.eq_1 U9.eq_2 U9.eq_3 Qo.eq_1 Qo.eq_2 Qo.eq_3 PW.eq_1 PW.eq_2 qK.eq_1 qK.eq_2 qK.eq_3 Th.eq_1 Hr.eq_1 Hr.eq_2 alz.eq_1
end
@[go_sem]theorem Y4:dQ (.undef)=.undef:=rfl
@[go_sem]theorem abg(b:Bool):dQ (.bool b)=.bool b:=rfl
@[go_sem]theorem acE(k:IntKind)(n:Int):dQ (.int k n)=.int k n:=rfl
@[go_sem]theorem acH(s:List UInt8):dQ (.str s)=.str s:=rfl
@[go_sem]theorem abh:dQ (.dK)=.dK:=rfl
@[go_sem]theorem acG(b o:Nat):dQ (.ref b o)=.ref b o:=rfl
@[go_sem]theorem acF(cs:List AV):dQ (.loc cs)=.loc cs:=rfl
@[go_sem]theorem aeU(o:Bool)(z n:Nat)(cs:List AV):dQ (.sl o z n cs)=.sl o z n cs:=rfl
@[go_sem]theorem acD(b o l c:Nat):dQ (.arr b o l c)=.arr b o l c:=rfl
@[go_sem]theorem aeT(f:Nat)(x y:List AV):dQ (.fn f x y)=.fn f x y:=rfl
@[go_sem]theorem akx{α:Type}(a b:α):(bif true then a else b)=a:=rfl
@[go_sem]theorem akw{α:Type}(a b:α):(bif false then a else b)=b:=rfl
attribute[go_sem] YG.eq_1 YG.eq_2 YG.eq_3 U6.eq_1 U6.eq_2 U6.eq_3 BQ.eq_1 BQ.eq_2 BQ.eq_3 jf.eq_1 jf.eq_2 jf.eq_3 jf.eq_4 jf.eq_5 jf.eq_6 jf.eq_7 jf.eq_8 jf.eq_9 jf.eq_10 jf.eq_11 jf.eq_12 jf.eq_13 jf.eq_14 jf.eq_15 jf.eq_16 XK.eq_1 Lb.eq_1 unV.eq_1 unV.eq_2 wW.eq_1 jF.eq_1 jF.eq_2 xp.eq_1 mD.eq_1 ZF.eq_1 ahR.eq_1 gm.eq_1 gm.eq_2 gm.eq_3 gm.eq_4 ki.eq_1 ki.eq_2 E5.eq_1 Bm.eq_1 wx.eq_1 wx.eq_2 Bo.eq_1 mN.eq_1 Rt.eq_1 D7.eq_1 D7.eq_2 D7.eq_3 D7.eq_4 D7.eq_5 xc.eq_1 Ox.eq_1 ru.eq_1 Ft.eq_1 PF.eq_1 PF.eq_2 rn.eq_1 rn.eq_2 ml.eq_1 wh.eq_1 rd.eq_1 rd.eq_2 rd.eq_3 rd.eq_4 lN.eq_1 lN.eq_2 Qv.eq_1 Aa.eq_1 ly.eq_1 ly.eq_2 EU.eq_1 rq.eq_1 xa.eq_1 ID.eq_1 ID.eq_2 yM.eq_1 TJ.eq_1 bZ.eq_1 bZ.eq_2 w9.eq_1 uJ.eq_1 Vs.eq_1 fj.eq_1 jO.eq_1 wrL.eq_1 wrS.eq_1 Lr.eq_1 Si.eq_1 ajd.eq_1 Ke.eq_1 Ke.eq_2 Ke.eq_3 QC.eq_1 QC.eq_2 Q3.eq_1 Ow.eq_1 Ow.eq_2 Ow.eq_3 z6.eq_3 z6.eq_4 z6.eq_5 z6.eq_6 z6.eq_7 z6.eq_12 z6.eq_13 z6.eq_14 z6.eq_15 z6.eq_16 z6.eq_17 NY.eq_1 NY.eq_2 NY.eq_3 NY.eq_4 NY.eq_5 NY.eq_6 NY.eq_7 kk pv.eq_1 pv.eq_2 pv.eq_3 pv.eq_4 pv.eq_5 pv.eq_6 pv.eq_7 pv.eq_8 pv.eq_9 pv.eq_10 pv.eq_11 pv.eq_12 pv.eq_13 pv.eq_14 pv.eq_15 pv.eq_16 pv.eq_17 pv.eq_18 pv.eq_19 pv.eq_20 pv.eq_21 pv.eq_22 pv.eq_23 pv.eq_24 pv.eq_25 fill.eq_1 fill.eq_2
attribute[go_sem] ckV ckP xg St.zm St.ep Ys gy Us WW aa5 aa6 Np N8 St.drain
attribute[go_sem] Bool.true_or Bool.or_true Bool.or_false Bool.false_or
attribute[go_sem] bne_self_eq_false Bool.bne_true Bool.bne_false implies_true decide_true decide_false Bool.true_and Bool.and_true Bool.false_and Bool.and_false Bool.not_true Bool.not_false Bool.false_eq_true true_and List.length_cons List.length_nil List.map_cons List.map_nil List.all_nil List.all_cons List.drop_zero List.drop_succ_cons List.take_zero List.take_succ_cons Nat.zero_add List.cons_append List.nil_append List.getElem?_cons_zero List.getElem?_cons_succ
end
end Go.AB
end
section
namespace Go.AB
open Go
theorem VR.mono{w w':World}{R R':Nat->Nat}(hR:∀b,R b<=R' b)(hs:∀b k,k<R b->w'.cell? ⟨b,k,none⟩=w.cell? ⟨b,k,none⟩){a:AV}{v:Value}(h:VR w R a v):VR w' R' a v:=by
 induction h with
 |undef v=>exact .undef v
 |bool b=>exact .bool b
 |int k n=>exact .int k n
 |str s=>exact .str s
 |dK=>exact .dK
 |ref b off=>exact .ref b off
 |sp cs b off u hf hR' hc _ ih=>
  refine .sp cs b off u hf (Nat.le_trans hR' (hR b)) (fun j c hj=>?_) ih
  rw[hs b (off+j) (by have:=(List.getElem?_eq_some_iff.1 hj).1;omega)]
  exact hc j c hj
 |slnil own sz=>exact .slnil own sz
 |sle sz a cap=>exact .sle sz a cap
 |sl own sz n cs b off cap u hf hl hR' gZ hc _ ih=>
  refine .sl own sz n cs b off cap u hf hl (Nat.le_trans hR' (hR b)) gZ (fun j c hj=>?_) ih
  rw[hs b (off+j) (by have:=(List.getElem?_eq_some_iff.1 hj).1;omega)]
  exact hc j c hj
 |arr b off len cap=>exact .arr b off len cap
 |LB b off=>exact .LB b off
 |agg cs vs hf hl _ ih=>exact .agg cs vs hf hl ih
 |gw cs vs hl _ ih=>exact .gw cs vs hl ih
 |fn f first en vf vc hl _ hl' _ ih ih'=>exact .fn f first en vf vc hl ih hl' ih'
 |oK=>exact .oK
 |mp b=>exact .mp b
 |one v h=>exact .one v h
 |qE t=>exact .qE t
 |A6=>exact .A6
 |bb t n cs v _ h0 ih=>exact .bb t n cs v ih h0
 |oL=>exact .oL
 |when b a v _ ih=>exact .when b a v ih
theorem ax.R{G G':Gh}{w w':World}(h:ax G w G' w')(hg:b9 G w):∀b,G.R b<=G'.R b:=fun b=>by
 rcases Nat.lt_or_ge b w.heap.size with hb|hb
 ·exact h.mono b hb
 ·rw[hg.jU b hb];exact Nat.zero_le _
theorem ax.cells{G G':Gh}{w w':World}(h:ax G w G' w')(hg:b9 G w):∀b k,k<G.R b->w'.cell? ⟨b,k,none⟩=w.cell? ⟨b,k,none⟩:=fun b k hk=>by
 rcases Nat.lt_or_ge b w.heap.size with hb|hb
 ·exact h.mP b k hb hk
 ·rw[hg.jU b hb]at hk;omega
theorem ax.vr{G G':Gh}{w w':World}(h:ax G w G' w')(hg:b9 G w){a:AV}{v:Value}(hv:VR w G.R a v):VR w' G'.R a v:=hv.mono (h.R hg) (h.cells hg)
theorem ax.refl(G:Gh)(w:World):ax G w G w:=⟨rfl,rfl,rfl,Nat.le_refl _,Nat.le_refl _,fun _ _=>Nat.le_refl _,fun _ _ _ _=>rfl,fun _ _ _=>rfl,fun _ _ h=>⟨h,rfl⟩,fun _ _ h=>⟨h,rfl⟩⟩
theorem ax.trans{G₁ G₂ G₃:Gh}{w₁ w₂ w₃:World}(h:ax G₁ w₁ G₂ w₂)(k:ax G₂ w₂ G₃ w₃):ax G₁ w₁ G₃ w₃ where
 os:=k.os.trans h.os
 tape:=k.tape.trans h.tape
 output:=k.output.trans h.output
 drawn:=Nat.le_trans h.drawn k.drawn
 size:=Nat.le_trans h.size k.size
 mono:=fun b hb=>Nat.le_trans (h.mono b hb) (k.mono b (Nat.lt_of_lt_of_le hb h.size))
 mP:=fun b j hb hj=>(k.mP b j (Nat.lt_of_lt_of_le hb h.size) (Nat.lt_of_lt_of_le hj (h.mono b hb))).trans (h.mP b j hb hj)
 frame:=fun b hb ho=>by
  refine(k.frame b (Nat.lt_of_lt_of_le hb h.size) ?_).trans (h.frame b hb ho)
  rcases ho with ho|ho
  ·exact .inl (h.jJ b hb ho).1
  ·exact .inr (h.pP b hb ho).1
 jJ:=fun b hb ho=>
  let⟨o2,r2⟩:=h.jJ b hb ho
  let⟨o3,r3⟩:=k.jJ b (Nat.lt_of_lt_of_le hb h.size) o2
  ⟨o3,r3.trans r2⟩
 pP:=fun b hb ho=>
  let⟨o2,r2⟩:=h.pP b hb ho
  let⟨o3,r3⟩:=k.pP b (Nat.lt_of_lt_of_le hb h.size) o2
  ⟨o3,r3.trans r2⟩
theorem dm.mono{G G':Gh}{w w':World}{o:cS}{a:AV}{v:Value}(h:dm G w o a v)(hb:∀b,G.O b=o->G'.O b=o/\G'.R b=G.R b/\w'.heap[b]? =w.heap[b]?):dm G' w' o a v:=by
 unfold dm at*
 split
 ·rename_i sz n cs
  intro base m cap hv hc
  obtain⟨b,off,c,e,fz,h1,h2,h3,h4,h5,h6⟩:=h base m cap hv hc
  obtain⟨k1,k2,k3⟩:=hb b h2
  exact⟨b,off,c,e,fz,h1,k1,by rw[k2,h3],by rw[k3,h4],h5,h6⟩
 ·rename_i e n cs
  intro base m cap hv hc
  obtain⟨b,off,c,fz,h1,h2,h3,h4,h5,h6⟩:=h base m cap hv hc
  obtain⟨k1,k2,k3⟩:=hb b h2
  exact⟨b,off,c,fz,h1,k1,by rw[k2,h3],by rw[k3,h4],h5,h6⟩
 ·trivial
theorem Fl.views{cs:List AV}(h:Fl cs):Fl (views cs):=by
 intro c hc
 simp only[AB.views,List.mem_map]at hc
 obtain⟨c',h1,rfl⟩:=hc
 have:=h c' h1
 cases c'<;>simp_all [ry,dt,AB.view]
theorem CW.views{t:Nat}{cs:List AV}(h:CW t cs):Fl (AB.views cs):=by
 intro c hc
 simp only[AB.views,List.mem_map]at hc
 obtain⟨c',h1,rfl⟩:=hc
 rcases h c' h1 with h|rfl
 ·cases c'<;>simp_all [ry,dt,AB.view]
 ·rfl
theorem CW.flat{t:Nat}{cs:List AV}(h:CW t cs)(hv:AB.views cs=cs):Fl cs:=hv▸h.views
theorem CW.left{t:Nat}{cs sp:List AV}(h:CW t (cs++sp)):CW t cs:=fun c hc=>h c (List.mem_append_left _ hc)
theorem Fl.tag{cs:List AV}(h:Fl cs)(t:Nat):CW t cs:=fun c hc=>.inl (h c hc)
theorem CW.sub{t:Nat}{cs:List AV}(h:CW t cs)(off n:Nat):CW t (AB.sub cs off n):=fun c hc=>h c (List.mem_of_mem_drop (List.mem_of_mem_take hc))
theorem CW.drop{t:Nat}{cs:List AV}(h:CW t cs)(off:Nat):CW t (cs.drop off):=fun c hc=>h c (List.mem_of_mem_drop hc)
theorem Fl.sub{cs:List AV}(h:Fl cs)(off n:Nat):Fl (sub cs off n):=fun c hc=>h c (List.mem_of_mem_drop (List.mem_of_mem_take hc))
theorem Fl.drop{cs:List AV}(h:Fl cs)(off:Nat):Fl (cs.drop off):=fun c hc=>h c (List.mem_of_mem_drop hc)
theorem Fl.nil:Fl []:=fun c hc=>by simp at hc
theorem dm.view(G:Gh)(w:World)(o:cS)(a:AV)(v:Value):dm G w o (view a) v:=by cases a<;>first|trivial|(rename_i own sz n cs;simp[AB.view,dm])
theorem VR.view{w:World}{R:Nat->Nat}{a:AV}{v:Value}(h:VR w R a v):VR w R (view a) v:=by
 cases h with
 |slnil own sz=>exact .slnil false sz
 |sle sz a cap=>exact .sle sz a cap
 |sl own sz n cs b off cap u hf hl hR gZ hc hr=>exact .sl false sz n cs b off cap u hf hl hR gZ hc hr
 |undef v=>exact .undef v
 |bool b=>exact .bool b
 |int k n=>exact .int k n
 |str s=>exact .str s
 |dK=>exact .dK
 |ref b off=>exact .ref b off
 |sp cs b off u hf hR hc hr=>exact .sp cs b off u hf hR hc hr
 |arr b off len cap=>exact .arr b off len cap
 |LB b off=>exact .LB b off
 |agg cs vs hf hl hr=>exact .agg cs vs hf hl hr
 |gw cs vs hl hr=>exact .gw cs vs hl hr
 |fn f first en vf vc hl hr hl' hr'=>exact .fn f first en vf vc hl hr hl' hr'
 |oK=>exact .oK
 |mp b=>exact .mp b
 |one v h=>exact .one v h
 |qE t=>exact .dK
 |A6=>exact .A6
 |bb t n cs v h h0=>
  cases h with
  |slnil=>exact .slnil false 1
  |sl _ _ _ _ b off cap u hf hl hR gZ hc hr=>exact .sl false 1 n cs b off cap u hf hl hR gZ hc hr
 |oL=>exact .oL
 |when b a v h=>exact .when b a v h
theorem du.mono{G G':Gh}{w w':World}{o:Nat->cS}{cs:List AV}{c:Array Value}(h:du G w o cs c)(hv:∀a v,VR w G.R a v->VR w' G'.R a v)
 (hb:∀b j,G.O b=o j->G'.O b=o j/\G'.R b=G.R b/\w'.heap[b]? =w.heap[b]?):du G' w' o cs c:=
 ⟨h.1,fun j x y hx hy=>⟨hv _ _ (h.2 j x y hx hy).1,(h.2 j x y hx hy).2.mono fun b=>hb b j⟩⟩
theorem dg.qP{G:Gh}{w:World}{e:List (Nat×AV)}{tmps:Array Value}{i:Nat}{a:AV}{v:Value}(h:dt a=true):dg G w e tmps i a v↔(VR w G.R a v/\dm G w (.slot i 0) a v):=by cases a<;>simp_all [dt,dg]
theorem dg.A5{G:Gh}{w:World}{e:List (Nat×AV)}{tmps:Array Value}{i:Nat}{a:AV}{v:Value}(h:dt a=true)(hv:VR w G.R a v):dg G w e tmps i (view a) v:=by
 have h':dt (view a)=true:=by cases a<;>simp_all [dt,view]
 rw[dg.qP h']
 exact⟨hv.view,dm.view ..⟩
theorem dg.vr{G:Gh}{w:World}{e:List (Nat×AV)}{tmps:Array Value}{i:Nat}{a:AV}{v:Value}(h:dt a=true)(hs:dg G w e tmps i a v):VR w G.R a v:=((dg.qP h).1 hs).1
theorem dg.frame{G G':Gh}{w w':World}{e e':List (Nat×AV)}{tmps Tw:Array Value}{i:Nat}
 (hv:∀a v,VR w G.R a v->VR w' G'.R a v)
 (ug:∀b,(∃j,G.O b=.slot i j)\/G.O b=.loc i->G'.O b=G.O b/\G'.R b=G.R b/\w'.heap[b]? =w.heap[b]?)
 (dy:∀b c j,G.O b=.loc i->G.O c=.cell b j->G'.O c=.cell b j/\G'.R c=G.R c/\w'.heap[c]? =w.heap[c]?):
 ∀(a:AV)(v:Value)(_:∀d,bB a d->∀cs,look e' d=.loc cs->∃cs',look e d=.loc cs'/\Tw[d]? =tmps[d]?)
  (_:dg G w e tmps i a v),dg G' w' e' Tw i a v
 |.loc cs,v,_,h=>by
  obtain⟨b,c,t,h1,h2,h3,h4,h5,h6⟩:=h
  obtain⟨k1,k2,k3⟩:=ug b (.inr h2)
  exact⟨b,c,t,h1,k1.trans h2,k2.trans h3,k3.trans h4,h5.mono hv fun c j hc=>dy b c j h2 hc,h6⟩
 |.lp d off,v,hlp,h=>by
  obtain⟨b,h3,h4⟩:=h
  refine⟨b,h3,fun cs hcs=>?_⟩
  obtain⟨cs',h1,h2⟩:=hlp d rfl cs hcs
  exact h2.trans (h4 cs' h1)
 |.gw vs,v,_,h=>by
  obtain⟨ys,h1,h2⟩:=h
  exact⟨ys,h1,h2.mono hv fun b j hb=>by
   obtain⟨k1,k2,k3⟩:=ug b (.inl ⟨_,hb⟩)
   exact⟨k1.trans hb,k2,k3⟩⟩
 |.when b a,v,hlp,h=>⟨fun hb=>dg.frame hv ug dy a v hlp (h.1 hb),h.2⟩
 |.us sz n cs,v,_,h=>by
  rcases h with h|⟨b,cap,c,t,sp,h1,h2,h3,h4,h5,h6,h7,h8,h9,h10,h11⟩
  ·exact .inl h
  ·obtain⟨k1,k2,k3⟩:=ug b (.inl ⟨_,h4⟩)
   exact .inr ⟨b,cap,c,t,sp,h1,h2,h3,k1.trans h4,k2.trans h5,k3.trans h6,h7,h8,h9,fun j x u hx hu=>hv _ _ (h10 j x u hx hu),h11⟩
 |.undef,v,_,h|.bool _,v,_,h|.int _ _,v,_,h|.str _,v,_,h|.dK,v,_,h|.ref _ _,v,_,h|.sp _,v,_,h|.sl _ _ _ _,v,_,h|.arr _ _ _ _,v,_,h|.agg _,v,_,h
 |.fn _ _ _,v,_,h|.oK,v,_,h|.mp _,v,_,h|.oL,v,_,h|.one,v,_,h|.qE _,v,_,h|.A6,v,_,h|.bb _ _ _,v,_,h=>by
  refine⟨hv _ _ h.1,h.2.mono fun b hb=>?_⟩
  obtain⟨k1,k2,k3⟩:=ug b (.inl ⟨_,hb⟩)
  exact⟨k1.trans hb,k2,k3⟩
theorem aM(j i:Nat)(a:AV)(l:List (Nat×AV)):look ((j,a)::l) i=if j=i then a else look l i:=by
 show(bif j==i then a else look l i)=_
 by_cases h:j=i
 ·simp[h]
 ·have:(j==i)=false:=by simpa using h
  simp[this,h]
theorem Inv.put{G G':Gh}{n:Nat}{D:List Deferred}{E:St}{s':ab}{lp':List (Nat×Nat)}{a:Act}{w w':World}(h:Inv G n D E a w)(d:Option Nat)(hd:∀i,d=some i->i<n)(av:AV)(v:Value)
 (nt:b9 G' w')(bw:ax G w G' w')(hst:aP G' w' s')
 (hlp:∀x∈E.lp,x∈lp')(acZ:∀i t,d=some i->bB av t->(i,t)∈lp')
 (Wd:∀i t,d=some i->(∃cs,av=.loc cs)->(t,i)∉E.lp)
 (ug:∀i b,d≠some i->(∃j,G.O b=.slot i j)\/G.O b=.loc i->G'.O b=G.O b/\G'.R b=G.R b/\w'.heap[b]? =w.heap[b]?)
 (dy:∀i b c j,d≠some i->G.O b=.loc i->G.O c=.cell b j->G'.O c=.cell b j/\G'.R c=G.R c/\w'.heap[c]? =w.heap[c]?)
 (Wi:∀i,d=some i->dg G' w' ((E.put d av).e) (a.put d v).tmps i av v):
 Inv G' n D {(E.put d av)with s:=s',lp:=lp'} (a.put d v) w':=by
 cases d with
 |none=>
  refine⟨nt,hst,h.size,fun i u hu=>?_,h.IT,fun i t ht=>hlp _ (h.Qs i t ht),h.ue⟩
  exact dg.frame (fun _ _ hv=>bw.vr h.aS hv) (fun b=>ug i b (by simp)) (fun b c j=>dy i b c j (by simp)) _ _ (fun t _ cs hcs=>⟨cs,hcs,rfl⟩) (h.ch i u hu)
 |some d=>
  refine⟨nt,hst,by simp[Act.put,h.size],fun i u hu=>?_,fun i hi=>?_,fun i t ht=>?_,h.ue⟩
  ·by_cases hid:d=i
   ·subst hid
    have hu':u=v:=by
     have hlt:d<a.tmps.size:=by rw[h.size];exact hd d rfl
     simp[Act.put,hlt]at hu
     exact hu.symm
    subst hu'
    have:look (E.put (some d) av).e d=av:=by simp[St.put,aM]
    show dg G' w' (E.put (some d) av).e _ d (look (E.put (some d) av).e d) u
    rw[this]
    exact Wi d rfl
   ·have hne:(some d:Option Nat)≠some i:=fun e=>hid (Option.some.inj e)
    have hu':a.tmps[i]? =some u:=by simpa[Act.put,Array.getElem?_setIfInBounds_ne hid]using hu
    have:look (E.put (some d) av).e i=look E.e i:=by simp[St.put,aM,hid]
    show dg G' w' (E.put (some d) av).e _ i (look (E.put (some d) av).e i) u
    rw[this]
    refine dg.frame (fun _ _ hv=>bw.vr h.aS hv) (fun b=>ug i b hne) (fun b c j=>dy i b c j hne) _ _ (fun t ht cs hcs=>?_) (h.ch i u hu')
    have y5:=h.Qs i t ht
    by_cases hdt:d=t
    ·subst hdt
     simp only[St.put,aM,if_true]at hcs
     exact absurd y5 (Wd d i rfl ⟨cs,hcs⟩)
    ·refine⟨cs,by simpa[St.put,aM,hdt]using hcs,?_⟩
     simp[Act.put,Array.getElem?_setIfInBounds_ne hdt]
  ·have:d≠i:=by have:=hd d rfl;omega
   simp[St.put,aM,this,h.IT i hi]
  ·by_cases hid:d=i
   ·subst hid
    simp only[St.put,aM,if_true]at ht
    exact acZ d t rfl ht
   ·simp only[St.put,aM,hid,if_false]at ht
    exact hlp _ (h.Qs i t ht)
end Go.AB
end
