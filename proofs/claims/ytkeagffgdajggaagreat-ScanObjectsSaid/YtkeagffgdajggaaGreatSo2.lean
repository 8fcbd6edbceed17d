/- A part of the proof: Ab3, Ab4. -/
import Derived.Test.YtkeagffgdajggaaGreatSo1
import Derived.Attr
set_option linter.unusedSimpArgs false
set_option linter.unusedVariables false
section
namespace Go.AB
open Go
section
variable(P:Program)(K:St→Prop)(Q:Exit→St→Prop)(σ τ:St)(d:Option Nat)
@[go_sem]theorem YJ:swp P [] σ K=K σ:=rfl
@[go_sem]theorem Xy(o:aq)(r:List aq):swp P (o::r) σ K=HQ P o σ (Xw P r K):=rfl
@[go_sem]theorem Xx(r:List aq):Xw P r K τ=swp P r τ K:=rfl
@[go_sem]theorem Xb(q:Nat)(r:List aq):Xa P q r K τ=Ov P q r τ K:=rfl
@[go_sem]theorem Xh(live:List Nat):sw live Q τ=Q .normal (τ.vb live):=rfl
@[go_sem]theorem GJ(op:rh):HQ P ⟨d,op,none⟩ σ K=Oo P op σ d K (pv op (xg true σ) σ):=rfl
@[go_sem]theorem Zd(op:rh):UL P op d σ K=Oo P op σ d K (pv op (xg true σ) σ):=rfl
@[go_sem]theorem VW(op:rh)(t:Nat)(want:Bool):HQ P ⟨d,op,some (t,want)⟩ σ K=xE P op d t want σ K (look σ.e t):=rfl
@[go_sem]theorem VF(Q:Exit→St→Prop):gP P .dead Q σ=False:=rfl
@[go_sem]theorem VN:gP P .skip Q σ=Q .normal σ:=rfl
@[go_sem]theorem X1(ops:List aq)(live:List Nat):gP P (.cU none ops live) Q σ=swp P ops σ (sw live Q):=rfl
@[go_sem]theorem VM(q:Nat)(ops:List aq)(live:List Nat):gP P (.cU (some q) ops live) Q σ=Ov P q ops σ (sw live Q):=rfl
@[go_sem]theorem VI(T:List Nat)(l:List (Nat×Nat×aq))(live:List Nat):gP P (.FI T l live) Q σ=(gq T σ.e=true∧Dw P T l σ (sw live Q)):=rfl
@[go_sem]theorem VJ(T:List Nat)(q:Nat)(ops:List aq)(live:List Nat):gP P (.FJ T q ops live) Q σ=(gq T σ.e=true∧BO P T q ops σ (sw live Q)):=rfl
@[go_sem]theorem X3(a b:IC):gP P (.seq a b) Q σ=gP P a (zZ P b Q) σ:=by
  have:(fun x τ=>match x with|.normal=>gP P b Q τ|x=>Q x τ)=zZ P b Q:=by funext x τ;cases x<;>rfl
  rw[←this];rfl
@[go_sem]theorem VE(x:IX)(a b:IC):gP P (.cond x a b) Q σ=JV P a b Q σ (σ.x x):=by
  show(match σ.x x with|.bool v=>(v=true→gP P a Q σ)∧(v=false→gP P b Q σ)|_=>False)=_
  cases σ.x x<;>rfl
@[go_sem]theorem TY(i:Nat)(b:IC):gP P (.block i b) Q σ=gP P b (H9 i Q) σ:=rfl
@[go_sem]theorem VG(i:Nat):gP P (.exit i) Q σ=Q (.exit i) σ:=rfl
@[go_sem]theorem VH(i:Nat):gP P (.goto i) Q σ=Q (.goto i) σ:=rfl
@[go_sem]theorem X2:gP P .ret Q σ=Q .ret σ:=rfl
@[go_sem]theorem RV(a b:IC)(v:Bool):JV P a b Q σ (.bool v)=((v=true→gP P a Q σ)∧(v=false→gP P b Q σ)):=rfl
@[go_sem]theorem Rv(b:IC):zZ P b Q .normal τ=gP P b Q τ:=rfl
@[go_sem]theorem Xq(b:IC):zZ P b Q .ret τ=Q .ret τ:=rfl
@[go_sem]theorem Vh(b:IC)(i:Nat):zZ P b Q (.exit i) τ=Q (.exit i) τ:=rfl
@[go_sem]theorem Vi(b:IC)(i:Nat):zZ P b Q (.goto i) τ=Q (.goto i) τ:=rfl
@[go_sem]theorem Qv(i:Nat):H9 i Q .normal τ=Q .normal τ:=rfl
@[go_sem]theorem Vx(i:Nat):H9 i Q .ret τ=Q .ret τ:=rfl
@[go_sem]theorem TW(i l:Nat):H9 i Q (.goto l) τ=Q (.goto l) τ:=rfl
@[go_sem]theorem TV(i j:Nat):H9 i Q (.exit j) τ=bif j==i then Q .normal τ else Q (.exit j) τ:=rfl
@[go_sem]theorem O9(live:List (Nat×Bool))(J:St→Prop):oS live J Q .normal τ=J (τ.dS live):=rfl
@[go_sem]theorem Uo(live:List (Nat×Bool))(J:St→Prop):oS live J Q .ret τ=Q .ret τ:=rfl
@[go_sem]theorem Sq(live:List (Nat×Bool))(J:St→Prop)(i:Nat):oS live J Q (.exit i) τ=Q (.exit i) τ:=rfl
@[go_sem]theorem Sr(live:List (Nat×Bool))(J:St→Prop)(i:Nat):oS live J Q (.goto i) τ=Q (.goto i) τ:=rfl
@[go_sem]theorem VK(deps:List (List Bool))(ops:List aq)(live:List Nat):gP P (.Lz deps ops live) Q σ=LP P deps ops (sw live Q) ops (sW ops) σ:=rfl
@[go_sem]theorem dv(deps:List (List Bool))(ops:List aq)(K:St→Prop)(d:List Bool)(o:aq)(f:List aq):LP P deps ops K (o::f) d σ=JH d deps [] d ops (fun o d=>HQ P o σ (XT P deps ops K f d)):=rfl
@[go_sem]theorem eu(deps:List (List Bool))(ops:List aq)(K:St→Prop)(f:List aq)(d:List Bool)(τ:St):XT P deps ops K f d τ=LP P deps ops K f d τ:=rfl
attribute[go_sem] xh yr sW
@[go_sem]theorem cV(done row pre xs:List Bool)(rows:List (List Bool))(x:Bool)(o:aq)(r:List aq)(F:aq→List Bool→Prop):JH done (row::rows) pre (x::xs) (o::r) F=((bif !x&&xh row done then F o (yr pre (true::xs))else True)∧JH done rows (x::pre) xs r F):=rfl
@[go_sem]theorem du(done pre:List Bool)(F:aq→List Bool→Prop):JH done [] pre [] [] F=True:=rfl
@[go_sem]theorem Ik(l:Nat)(live:List (Nat×Bool))(a1 a2 a3 r:IC):gP P (.vt l live a1 a2 a3 r) Q σ=gP P a1 (zZ P a2 (zZ P a3 (HH live (O8 P l live r Q) Q))) σ:=by
  show gP P a1 (fun x τ=>match x with|.normal=>gP P a2 (fun x τ=>match x with|.normal=>gP P a3 (HH live (O8 P l live r Q) Q) τ|x=>HH live (O8 P l live r Q) Q x τ) τ|x=>HH live (O8 P l live r Q) Q x τ) σ=_
  congr 1
  funext x τ
  cases x with
  |normal=>
   show gP P a2 _ τ=gP P a2 _ τ
   congr 1
   funext x τ
   cases x<;>rfl
  |_=>rfl
@[go_sem]theorem Ru(live:List (Nat×Bool))(I:St→Prop):HH live I Q .normal τ=I (τ.dS live):=rfl
@[go_sem]theorem Wf(l:Nat)(live:List (Nat×Bool))(I:St→Prop):IY l live I Q .ret τ=Q .ret τ:=rfl
@[go_sem]theorem Un(l:Nat)(live:List (Nat×Bool))(I:St→Prop):IY l live I Q (.goto l) τ=I (τ.dS live):=by
  show(l=l∧I (τ.dS live))=_
  simp
@[go_sem]theorem Pe(live:List (Nat×Bool))(I:St→Prop)(μ:St→Nat)(m:Nat):DY live I μ m Q .normal τ=(I (τ.dS live)∧μ (τ.dS live)<m):=rfl
@[go_sem]theorem Up(live:List (Nat×Bool))(I:St→Prop)(μ:St→Nat)(m:Nat):DY live I μ m Q .ret τ=Q .ret τ:=rfl
@[go_sem]theorem SD(live:List (Nat×Bool))(I:St→Prop)(μ:St→Nat)(m i:Nat):DY live I μ m Q (.exit i) τ=Q (.exit i) τ:=rfl
end
section
@[go_sem]theorem TM:view (.undef)=(.undef):=rfl
@[go_sem]theorem V3(b:Bool):c9 (.bool b)=true:=rfl
@[go_sem]theorem XD(g:Bool)(b:Bool):vy g (.bool b)=(.bool b):=rfl
@[go_sem]theorem Vj(b:Bool):view (.bool b)=(.bool b):=rfl
@[go_sem]theorem OH(b:Bool):cellsOf (.bool b)=[(.bool b)]:=rfl
@[go_sem]theorem P7(b:Bool):bp (.bool b)=[(.bool b)]:=rfl
@[go_sem]theorem SH(σ:St)(i:Nat)(b:Bool):bV σ (.bool b) (some i)=σ:=rfl
@[go_sem]theorem Yb(k:IntKind)(n:Int):c9 (.int k n)=true:=rfl
@[go_sem]theorem YM(g:Bool)(k:IntKind)(n:Int):vy g (.int k n)=(.int k n):=rfl
@[go_sem]theorem XK(k:IntKind)(n:Int):view (.int k n)=(.int k n):=rfl
@[go_sem]theorem QC(k:IntKind)(n:Int):cellsOf (.int k n)=[(.int k n)]:=rfl
@[go_sem]theorem Rz(k:IntKind)(n:Int):bp (.int k n)=[(.int k n)]:=rfl
@[go_sem]theorem Uy(σ:St)(i:Nat)(k:IntKind)(n:Int):bV σ (.int k n) (some i)=σ:=rfl
@[go_sem]theorem Yd(s:List UInt8):c9 (.str s)=true:=rfl
@[go_sem]theorem YP(g:Bool)(s:List UInt8):vy g (.str s)=(.str s):=rfl
@[go_sem]theorem XN(s:List UInt8):view (.str s)=(.str s):=rfl
@[go_sem]theorem QE(s:List UInt8):cellsOf (.str s)=[(.str s)]:=rfl
@[go_sem]theorem UA(σ:St)(i:Nat)(s:List UInt8):bV σ (.str s) (some i)=σ:=rfl
@[go_sem]theorem Y1(t n:Nat)(cs:List AV):c9 (.bb t n cs)=true:=rfl
@[go_sem]theorem YR(t n:Nat)(cs:List AV):view (.bb t n cs)=.sl false 1 n cs:=rfl
@[go_sem]theorem TF(t n:Nat)(cs:List AV):bp (.bb t n cs)=[.bb t n cs]:=rfl
@[go_sem]theorem V5:c9 (.jX)=true:=rfl
@[go_sem]theorem XF(g:Bool):vy g (.jX)=(.jX):=rfl
@[go_sem]theorem Vm:view (.jX)=(.jX):=rfl
@[go_sem]theorem SJ(σ:St)(i:Nat):bV σ (.jX) (some i)=σ:=rfl
@[go_sem]theorem QK:dI (.jX)=.jX:=rfl
@[go_sem]theorem Vk(t:Nat):view (.l1 t)=.dG:=rfl
@[go_sem]theorem V6:c9 (.dG)=true:=rfl
@[go_sem]theorem XG(g:Bool):vy g (.dG)=(.dG):=rfl
@[go_sem]theorem Vn:view (.dG)=(.dG):=rfl
@[go_sem]theorem SK(σ:St)(i:Nat):bV σ (.dG) (some i)=σ:=rfl
@[go_sem]theorem Yc(b o:Nat):c9 (.ref b o)=true:=rfl
@[go_sem]theorem YO(g:Bool)(b o:Nat):vy g (.ref b o)=(.ref b o):=rfl
@[go_sem]theorem XM(b o:Nat):view (.ref b o)=(.ref b o):=rfl
@[go_sem]theorem QD(b o:Nat):cellsOf (.ref b o)=[(.ref b o)]:=rfl
@[go_sem]theorem RA(b o:Nat):bp (.ref b o)=[(.ref b o)]:=rfl
@[go_sem]theorem Uz(σ:St)(i:Nat)(b o:Nat):bV σ (.ref b o) (some i)=σ:=rfl
@[go_sem]theorem Zz(g:Bool)(b o:Nat):vy g (.lp b o)=(.lp b o):=rfl
@[go_sem]theorem Uv(σ:St)(i:Nat)(b o:Nat):bV σ (.lp b o) (some i)={σ with lp:=(i,b)::σ.lp}:=rfl
@[go_sem]theorem ZC(g:Bool)(cs:List AV):vy g (.sp cs)=(.sp cs):=rfl
@[go_sem]theorem Wu(σ:St)(i:Nat)(cs:List AV):bV σ (.sp cs) (some i)=σ:=rfl
@[go_sem]theorem YN(g:Bool)(cs:List AV):vy g (.loc cs)=(.loc cs):=rfl
@[go_sem]theorem XL(cs:List AV):view (.loc cs)=(.loc cs):=rfl
@[go_sem]theorem Y5(o:Bool)(z n:Nat)(cs:List AV):c9 (.sl o z n cs)=true:=rfl
@[go_sem]theorem ZB(g:Bool)(o:Bool)(z n:Nat)(cs:List AV):vy g (.sl o z n cs)=(.sl o z n cs):=rfl
@[go_sem]theorem YU(o:Bool)(z n:Nat)(cs:List AV):view (.sl o z n cs)=(.sl false z n cs):=rfl
@[go_sem]theorem RS(o:Bool)(z n:Nat)(cs:List AV):cellsOf (.sl o z n cs)=[(.sl o z n cs)]:=rfl
@[go_sem]theorem TG(o:Bool)(z n:Nat)(cs:List AV):bp (.sl o z n cs)=[(.sl o z n cs)]:=rfl
@[go_sem]theorem Wt(σ:St)(i:Nat)(o:Bool)(z n:Nat)(cs:List AV):bV σ (.sl o z n cs) (some i)=σ:=rfl
@[go_sem]theorem Ya(b o l c:Nat):c9 (.arr b o l c)=true:=rfl
@[go_sem]theorem YL(g:Bool)(b o l c:Nat):vy g (.arr b o l c)=(.arr b o l c):=rfl
@[go_sem]theorem XJ(b o l c:Nat):view (.arr b o l c)=(.arr b o l c):=rfl
@[go_sem]theorem Ry(b o l c:Nat):bp (.arr b o l c)=[(.arr b o l c)]:=rfl
@[go_sem]theorem Ux(σ:St)(i:Nat)(b o l c:Nat):bV σ (.arr b o l c) (some i)=σ:=rfl
@[go_sem]theorem X9(cs:List AV):c9 (.agg cs)=true:=rfl
@[go_sem]theorem YK(g:Bool)(cs:List AV):vy g (.agg cs)=(.agg cs):=rfl
@[go_sem]theorem XI(cs:List AV):view (.agg cs)=(.agg cs):=rfl
@[go_sem]theorem QB(cs:List AV):cellsOf (.agg cs)=cs:=rfl
@[go_sem]theorem Rx(cs:List AV):bp (.agg cs)=views cs:=rfl
@[go_sem]theorem Uw(σ:St)(i:Nat)(cs:List AV):bV σ (.agg cs) (some i)=σ:=rfl
@[go_sem]theorem YQ(g:Bool)(cs:List AV):vy g (.gu cs)=(.gu cs):=rfl
@[go_sem]theorem UB(σ:St)(i:Nat)(cs:List AV):bV σ (.gu cs) (some i)=σ:=rfl
@[go_sem]theorem Y3(f:Nat)(x y:List AV):c9 (.fn f x y)=true:=rfl
@[go_sem]theorem Zy(g:Bool)(f:Nat)(x y:List AV):vy g (.fn f x y)=(.fn f x y):=rfl
@[go_sem]theorem YS(f:Nat)(x y:List AV):view (.fn f x y)=(.fn f x y):=rfl
@[go_sem]theorem Wq(σ:St)(i:Nat)(f:Nat)(x y:List AV):bV σ (.fn f x y) (some i)=σ:=rfl
@[go_sem]theorem V4:c9 (.nj)=true:=rfl
@[go_sem]theorem XE(g:Bool):vy g (.nj)=(.nj):=rfl
@[go_sem]theorem Vl:view (.nj)=(.nj):=rfl
@[go_sem]theorem SI(σ:St)(i:Nat):bV σ (.nj) (some i)=σ:=rfl
@[go_sem]theorem Y4(b:Nat):c9 (.mp b)=true:=rfl
@[go_sem]theorem ZA(g:Bool)(b:Nat):vy g (.mp b)=(.mp b):=rfl
@[go_sem]theorem YT(b:Nat):view (.mp b)=(.mp b):=rfl
@[go_sem]theorem RR(b:Nat):cellsOf (.mp b)=[(.mp b)]:=rfl
@[go_sem]theorem Wr(σ:St)(i:Nat)(b:Nat):bV σ (.mp b) (some i)=σ:=rfl
@[go_sem]theorem PO(f:IX→AV)(σ:St)(x:IX):pv (.iT true x) f σ=.no:=rfl
@[go_sem]theorem Th(f:IX→AV)(σ:St)(z:List AV):pv (.aQ z) f σ=.no:=rfl
@[go_sem]theorem Ti(f:IX→AV)(σ:St)(z:List AV):pv (.gV z) f σ=.no:=rfl
@[go_sem]theorem WO(f:IX→AV)(σ:St)(n:Nat)(x:IX):pv (.lZ n x) f σ=.no:=rfl
@[go_sem]theorem WR(f:IX→AV)(σ:St)(n:Nat)(x:IX):pv (.qU n x) f σ=.no:=rfl
@[go_sem]theorem Rh(f:IX→AV)(σ:St)(a b:Nat)(z:List AV)(p:List (Nat×Nat×IX)):pv (.b5 a b z p) f σ=.no:=rfl
@[go_sem]theorem UX(f:IX→AV)(σ:St)(n:Nat)(p v:IX):pv (.store n p v) f σ=.no:=rfl
@[go_sem]theorem Jr(f:IX→AV)(σ:St)(a b:Nat)(x y:IX):pv (.append a b x y) f σ=.no:=rfl
@[go_sem]theorem S7(f:IX→AV)(σ:St)(x:IX):pv (.fA x) f σ=pK (f x):=rfl
attribute[go_sem] pK.eq_1 N3.eq_1 Mp.eq_1
@[go_sem]theorem Tk(f:IX→AV)(σ:St)(a b:Nat)(z:List AV)(x y:IX):pv (.gE a b z x y) f σ=.no:=rfl
@[go_sem]theorem Rk(f:IX→AV)(σ:St):pv (.makeMap) f σ=.no:=rfl
@[go_sem]theorem WT(f:IX→AV)(σ:St)(n:Nat)(l:List IX):pv (.call n l) f σ=.no:=rfl
@[go_sem]theorem UR(f:IX→AV)(σ:St)(x:IX)(l:List IX):pv (.eC x l) f σ=.no:=rfl
@[go_sem]theorem Sh(b:Bool):inner (.bool b)=true:=rfl
@[go_sem]theorem T4(k:IntKind)(n:Int):inner (.int k n)=true:=rfl
@[go_sem]theorem T6(s:List UInt8):inner (.str s)=true:=rfl
@[go_sem]theorem Si:inner (.dG)=true:=rfl
@[go_sem]theorem T5(b o:Nat):inner (.ref b o)=true:=rfl
@[go_sem]theorem V0(b o:Nat):inner (.lp b o)=true:=rfl
@[go_sem]theorem V2(cs:List AV):inner (.sp cs)=true:=rfl
@[go_sem]theorem V1(o:Bool)(z n:Nat)(cs:List AV):inner (.sl o z n cs)=true:=rfl
@[go_sem]theorem T3(b o l c:Nat):inner (.arr b o l c)=true:=rfl
@[go_sem]theorem T2(cs:List AV):inner (.agg cs)=true:=rfl
@[go_sem]theorem Oy(g:Bool)(a:AV):vy g (.when g a)=bif inner a then a else .undef:=by simp[vy]
@[go_sem]theorem VT(x:Bool):Sg (.bool x)=some (true,x):=rfl
@[go_sem]theorem VU(b x:Bool):Sg (.when b (.bool x))=some (b,x):=rfl
@[go_sem]theorem X7:Sg (.gu [])=some (false,false):=rfl
@[go_sem]theorem Y9(g b:Bool):(g=true→b=true→(g&&b)=true)=True:=by cases g<;>cases b<;>simp
@[go_sem]theorem Za(g b:Bool):(g=true→b=false→(g&&!b)=true)=True:=by cases g<;>cases b<;>simp
@[go_sem]theorem Zb(b:Bool):(b=false→(!b)=true)=True:=by cases b<;>simp
@[go_sem]theorem VD(b x:Bool):(bif b then x else false)=(b&&x):=by cases b<;>rfl
@[go_sem]theorem X0(b x:Bool):(bif b then true else x)=(b||x):=by cases b<;>rfl
@[go_sem]theorem ZI(b:Bool):(b==true)=b:=by cases b<;>rfl
@[go_sem]theorem ZH(b:Bool):(b==false)=!b:=by cases b<;>rfl
@[go_sem]theorem Wg(k:IntKind):Kb k k=true:=by simp[Kb]
@[go_sem]theorem Y6(a b:Nat)(cs:List AV):c9 (.us a b cs)=false:=rfl
@[go_sem]theorem X8(a b:Nat)(cs:List AV):MS (.us a b cs)=true:=rfl
@[go_sem]theorem Xn:iO []=true:=rfl
@[go_sem]theorem Xo(a b:AV)(l:List AV):iO (a::b::l)=true:=rfl
@[go_sem]theorem Xj:eR []=.gu []:=rfl
@[go_sem]theorem Xk(a b:AV)(l:List AV):eR (a::b::l)=.gu (a::b::l):=rfl
@[go_sem]theorem Vo:views []=[]:=rfl
@[go_sem]theorem TN(a:AV)(l:List AV):views (a::l)=view a::views l:=rfl
@[go_sem]theorem x_t(σ:St)(i:Nat):σ.x (.t i)=look σ.e i:=rfl
@[go_sem]theorem x_c(σ:St)(a:AV):σ.x (.c a)=a:=rfl
@[go_sem]theorem WM(σ:St)(i:Nat)(a:AV):σ.put (some i) a={σ with e:=(i,a)::σ.e}:=rfl
@[go_sem]theorem WL(σ:St)(a:AV):σ.put none a=σ:=rfl
@[go_sem]theorem look_nil(i:Nat):look [] i=.undef:=rfl
@[go_sem]theorem SC(j i:Nat)(a:AV)(l:List (Nat×AV)):look ((j,a)::l) i=bif j==i then a else look l i:=rfl
section
variable(P:Program)(K:St→Prop)(σ:St)
@[go_sem]theorem Xd(l:List aq):Ov P 0 l σ K=swp P l σ K:=rfl
@[go_sem]theorem Xc(q:Nat)(o:aq)(r:List aq):Ov P (q+1) (o::r) σ K=(bB σ o.dst=true∧q1 P o σ (Xa P q r K)):=rfl
@[go_sem]theorem Zi(d:Option Nat)(x:IX):q1 P ⟨d,.iT false x,none⟩ σ K=qK σ d K (qv ⟨d,.iT false x,none⟩ σ):=rfl
@[go_sem]theorem Zl(d:Option Nat)(x:IX):q2 P ⟨d,.iT false x,none⟩ σ K=(bB σ d=true∧qK σ d K (qv ⟨d,.iT false x,none⟩ σ)):=by cases d<;>rfl
@[go_sem]theorem Yw(d:Option Nat)(t:Nat)(want:Bool)(x:IX):q1 P ⟨d,.iT false x,(some (t,want))⟩ σ K=qK σ d K (qv ⟨d,.iT false x,(some (t,want))⟩ σ):=rfl
@[go_sem]theorem Yy(d:Option Nat)(c x y:IX):q1 P ⟨d,.pick c x y,none⟩ σ K=qK σ d K (qv ⟨d,.pick c x y,none⟩ σ):=rfl
@[go_sem]theorem Yv(d:Option Nat)(n:Nat)(m:Bool)(x:IX):q1 P ⟨d,.load n m x,none⟩ σ K=qK σ d K (qv ⟨d,.load n m x,none⟩ σ):=rfl
@[go_sem]theorem YA(d:Option Nat)(n:Nat)(m:Bool)(x:IX):q2 P ⟨d,.load n m x,none⟩ σ K=(bB σ d=true∧qK σ d K (qv ⟨d,.load n m x,none⟩ σ)):=by cases d<;>rfl
@[go_sem]theorem WX(d:Option Nat)(t:Nat)(want:Bool)(n:Nat)(m:Bool)(x:IX):q1 P ⟨d,.load n m x,(some (t,want))⟩ σ K=qK σ d K (qv ⟨d,.load n m x,(some (t,want))⟩ σ):=rfl
@[go_sem]theorem Rl(d:Option Nat)(x:IX):q1 P ⟨d,.nilCheck x,none⟩ σ K=qK σ d K (qv ⟨d,.nilCheck x,none⟩ σ):=rfl
@[go_sem]theorem Rm(d:Option Nat)(x:IX):q2 P ⟨d,.nilCheck x,none⟩ σ K=(bB σ d=true∧qK σ d K (qv ⟨d,.nilCheck x,none⟩ σ)):=by cases d<;>rfl
@[go_sem]theorem PU(d:Option Nat)(t:Nat)(want:Bool)(x:IX):q1 P ⟨d,.nilCheck x,(some (t,want))⟩ σ K=qK σ d K (qv ⟨d,.nilCheck x,(some (t,want))⟩ σ):=rfl
@[go_sem]theorem Zf(d:Option Nat)(b:BinOp)(x y:IX):q1 P ⟨d,.bin b x y,none⟩ σ K=qK σ d K (qv ⟨d,.bin b x y,none⟩ σ):=rfl
@[go_sem]theorem Zk(d:Option Nat)(b:BinOp)(x y:IX):q2 P ⟨d,.bin b x y,none⟩ σ K=(bB σ d=true∧qK σ d K (qv ⟨d,.bin b x y,none⟩ σ)):=by cases d<;>rfl
@[go_sem]theorem Ys(d:Option Nat)(t:Nat)(want:Bool)(b:BinOp)(x y:IX):q1 P ⟨d,.bin b x y,(some (t,want))⟩ σ K=qK σ d K (qv ⟨d,.bin b x y,(some (t,want))⟩ σ):=rfl
@[go_sem]theorem Zg(d:Option Nat)(n:Bool)(x y:IX):q1 P ⟨d,.F4 n x y,none⟩ σ K=qK σ d K (qv ⟨d,.F4 n x y,none⟩ σ):=rfl
@[go_sem]theorem ZY(d:Option Nat)(u:UnOp)(x:IX):q1 P ⟨d,.un u x,none⟩ σ K=qK σ d K (qv ⟨d,.un u x,none⟩ σ):=rfl
@[go_sem]theorem Zj(d:Option Nat)(t:Nat)(want:Bool)(u:UnOp)(x:IX):q1 P ⟨d,.un u x,(some (t,want))⟩ σ K=qK σ d K (qv ⟨d,.un u x,(some (t,want))⟩ σ):=rfl
@[go_sem]theorem UZ(d:Option Nat)(k:IntKind)(x:IX):q1 P ⟨d,.dN k x,none⟩ σ K=qK σ d K (qv ⟨d,.dN k x,none⟩ σ):=rfl
@[go_sem]theorem U4(d:Option Nat)(x i:IX):q1 P ⟨d,.dJ x i,none⟩ σ K=qK σ d K (qv ⟨d,.dJ x i,none⟩ σ):=rfl
@[go_sem]theorem Va(d:Option Nat)(x i:IX):q2 P ⟨d,.dJ x i,none⟩ σ K=(bB σ d=true∧qK σ d K (qv ⟨d,.dJ x i,none⟩ σ)):=by cases d<;>rfl
@[go_sem]theorem Tm(d:Option Nat)(t:Nat)(want:Bool)(x i:IX):q1 P ⟨d,.dJ x i,(some (t,want))⟩ σ K=qK σ d K (qv ⟨d,.dJ x i,(some (t,want))⟩ σ):=rfl
@[go_sem]theorem PQ(d:Option Nat)(f:Nat)(x:IX):q1 P ⟨d,.fieldAddr f x,none⟩ σ K=qK σ d K (qv ⟨d,.fieldAddr f x,none⟩ σ):=rfl
@[go_sem]theorem PV(d:Option Nat)(f:Nat)(x:IX):q2 P ⟨d,.fieldAddr f x,none⟩ σ K=(bB σ d=true∧qK σ d K (qv ⟨d,.fieldAddr f x,none⟩ σ)):=by cases d<;>rfl
@[go_sem]theorem Oq(d:Option Nat)(t:Nat)(want:Bool)(f:Nat)(x:IX):q1 P ⟨d,.fieldAddr f x,(some (t,want))⟩ σ K=qK σ d K (qv ⟨d,.fieldAddr f x,(some (t,want))⟩ σ):=rfl
@[go_sem]theorem PT(d:Option Nat)(z:List AV)(x i:IX):q1 P ⟨d,.indexAddr z x i,none⟩ σ K=qK σ d K (qv ⟨d,.indexAddr z x i,none⟩ σ):=rfl
@[go_sem]theorem PW(d:Option Nat)(z:List AV)(x i:IX):q2 P ⟨d,.indexAddr z x i,none⟩ σ K=(bB σ d=true∧qK σ d K (qv ⟨d,.indexAddr z x i,none⟩ σ)):=by cases d<;>rfl
@[go_sem]theorem Ot(d:Option Nat)(t:Nat)(want:Bool)(z:List AV)(x i:IX):q1 P ⟨d,.indexAddr z x i,(some (t,want))⟩ σ K=qK σ d K (qv ⟨d,.indexAddr z x i,(some (t,want))⟩ σ):=rfl
@[go_sem]theorem W0(d:Option Nat)(z:Nat)(x:IX)(lo hi mx:Option IX):q1 P ⟨d,.slice z x lo hi mx,none⟩ σ K=qK σ d K (qv ⟨d,.slice z x lo hi mx,none⟩ σ):=rfl
@[go_sem]theorem U5(d:Option Nat)(t:Nat)(want:Bool)(z:Nat)(x:IX)(lo hi mx:Option IX):q1 P ⟨d,.slice z x lo hi mx,(some (t,want))⟩ σ K=qK σ d K (qv ⟨d,.slice z x lo hi mx,(some (t,want))⟩ σ):=rfl
@[go_sem]theorem U6(d:Option Nat)(x:IX)(lo hi:Option IX):q1 P ⟨d,.jq x lo hi,none⟩ σ K=qK σ d K (qv ⟨d,.jq x lo hi,none⟩ σ):=rfl
@[go_sem]theorem Tp(d:Option Nat)(x:IX)(k:Nat):q2 P ⟨d,.extract x k,none⟩ σ K=(bB σ d=true∧qK σ d K (qv ⟨d,.extract x k,none⟩ σ)):=by cases d<;>rfl
@[go_sem]theorem Zh(d:Option Nat)(c:Nat)(x:IX):q1 P ⟨d,.len c x,none⟩ σ K=qK σ d K (qv ⟨d,.len c x,none⟩ σ):=rfl
@[go_sem]theorem Yu(d:Option Nat)(t:Nat)(want:Bool)(c:Nat)(x:IX):q1 P ⟨d,.len c x,(some (t,want))⟩ σ K=qK σ d K (qv ⟨d,.len c x,(some (t,want))⟩ σ):=rfl
@[go_sem]theorem U3(d:Option Nat)(m:Bool)(xs:List IX):q1 P ⟨d,.hZ m xs,none⟩ σ K=qK σ d K (qv ⟨d,.hZ m xs,none⟩ σ):=rfl
@[go_sem]theorem Yx(d:Option Nat)(x:IX):q1 P ⟨d,.iT true x,none⟩ σ K=M6 σ x d K (σ.x x):=rfl
@[go_sem]theorem Yt(d:Option Nat)(f:Nat)(args:List IX):q1 P ⟨d,.call f args,none⟩ σ K=Km P f σ d K (cc (xg true σ) args):=rfl
@[go_sem]theorem Yz(d:Option Nat)(f:Nat)(args:List IX):q2 P ⟨d,.call f args,none⟩ σ K=(bB σ d=true∧Km P f σ d K (cc (xg true σ) args)):=by cases d<;>rfl
@[go_sem]theorem WW(d:Option Nat)(f:Nat)(args:List IX)(t:Nat)(want:Bool):q1 P ⟨d,.call f args,some (t,want)⟩ σ K=BL P f args want σ d K (look σ.e t):=rfl
@[go_sem]theorem U0(d:Option Nat)(x:IX):q1 P ⟨d,.fA x,none⟩ σ K=qK σ d K (qv ⟨d,.fA x,none⟩ σ):=rfl
@[go_sem]theorem Tl(d:Option Nat)(sz n:Nat)(z:List AV)(ps:List (Nat×Nat×IX))(g:Option (Nat×Bool)):q1 P ⟨d,.b5 sz n z ps,g⟩ σ K=qK σ d K (BM ⟨d,.b5 sz n z ps,g⟩ σ):=rfl
@[go_sem]theorem Tn(d:Option Nat)(sz n:Nat)(z:List AV)(ps:List (Nat×Nat×IX))(g:Option (Nat×Bool)):q2 P ⟨d,.b5 sz n z ps,g⟩ σ K=(bB σ d=true∧qK σ d K (BM ⟨d,.b5 sz n z ps,g⟩ σ)):=by cases d<;>rfl
@[go_sem]theorem WZ(d:Option Nat)(z:List AV)(m:Bool)(x:IX):q1 P ⟨d,.bW z m x,none⟩ σ K=qK σ d K (qv ⟨d,.bW z m x,none⟩ σ):=rfl
@[go_sem]theorem W1(d:Option Nat)(z:List AV)(m:Bool)(x:IX):q2 P ⟨d,.bW z m x,none⟩ σ K=(bB σ d=true∧qK σ d K (qv ⟨d,.bW z m x,none⟩ σ)):=by cases d<;>rfl
@[go_sem]theorem U2(d:Option Nat)(t:Nat)(want:Bool)(z:List AV)(m:Bool)(x:IX):q1 P ⟨d,.bW z m x,(some (t,want))⟩ σ K=qK σ d K (qv ⟨d,.bW z m x,(some (t,want))⟩ σ):=rfl
@[go_sem]theorem WY(d:Option Nat)(k:IntKind)(x:IX):q1 P ⟨d,.lN k x,none⟩ σ K=qK σ d K (qv ⟨d,.lN k x,none⟩ σ):=rfl
@[go_sem]theorem U1(d:Option Nat)(t:Nat)(want:Bool)(k:IntKind)(x:IX):q1 P ⟨d,.lN k x,(some (t,want))⟩ σ K=qK σ d K (qv ⟨d,.lN k x,(some (t,want))⟩ σ):=rfl
@[go_sem]theorem UN(f:IX→AV)(σ:St)(k:IntKind)(x:IX):pv (.lN k x) f σ=xV k σ.s (f x):=rfl
@[go_sem]theorem SA(k:IntKind)(s:ab)(b off:Nat):xV k s (.ref b off)=.prt (Ff k off (s b)) (.int k (Fg off (s b))):=rfl
@[go_sem]theorem UO(f:IX→AV)(σ:St)(z:List AV)(m:Bool)(x:IX):pv (.bW z m x) f σ=DW z m σ.s (f x):=rfl
@[go_sem]theorem Rj(f:IX→AV)(σ:St)(kk:ly)(z:AV)(ok:Bool)(x k:IX):pv (.lookup kk z ok x k) f σ=.no:=rfl
@[go_sem]theorem Ri(f:IX→AV)(σ:St)(x:IX):pv (.ji x) f σ=.no:=rfl
@[go_sem]theorem NA(f:IX→AV)(σ:St)(kk:ly)(x k v:IX):pv (.mapUpdate kk x k v) f σ=.no:=rfl
@[go_sem]theorem Sm(d:Option Nat)(kk:ly)(z:AV)(ok:Bool)(x k:IX):gH P (.lookup kk z ok x k) d σ K=Jn σ d K (iw kk z ok σ.s (xg true σ k) (xg true σ x)):=rfl
@[go_sem]theorem Sl(d:Option Nat)(x:IX):gH P (.ji x) d σ K=Jn σ d K (zz (xg true σ x)):=rfl
@[go_sem]theorem On(d:Option Nat)(kk:ly)(x k v:IX):gH P (.mapUpdate kk x k v) d σ K=tq kk σ (xg true σ k) (xg true σ v) d K (xg true σ x):=rfl
@[go_sem]theorem U9(d:Option Nat)(x:IX)(g:Option (Nat×Bool)):q2 P ⟨d,.re x,g⟩ σ K=(bB σ d=true∧qK σ d K (BM ⟨d,.re x,g⟩ σ)):=by cases d<;>rfl
@[go_sem]theorem UW(f:IX→AV)(σ:St)(x:IX):pv (.re x) f σ=.no:=rfl
@[go_sem]theorem Wb(d:Option Nat)(x:IX):gH P (.re x) d σ K=Jn σ d K (yn (xg true σ x)):=rfl
@[go_sem]theorem YB(f:IX→AV)(s:ab)(x:IX):qe f s (.re x)=yn (f x):=rfl
@[go_sem]theorem W7(d:Option Nat)(o:rh):BM ⟨d,o,none⟩ σ=qe (xg true σ) σ.s o:=rfl
@[go_sem]theorem W9(f:IX→AV)(s:ab)(sz n:Nat)(z:List AV)(ps:List (Nat×Nat×IX)):qe f s (.b5 sz n z ps)=B6 sz n (fill f z ps):=rfl
@[go_sem]theorem YG(n:Nat)(x:Int)(cs:List AV):zz (.sl true 1 (n+1) (.int .u8 x::cs))=.c8 (.sl false 1 (n+1) (.int .u8 x::cs)):=rfl
attribute[go_sem] yn.eq_1 DW.eq_1 G9.eq_1 iw.eq_1 iw.eq_2 Jn.eq_1 Jn.eq_2 Jn.eq_3
attribute[go_sem] td.eq_1 B6.eq_1
@[go_sem]theorem YC(d:Option Nat)(o:rh):qv ⟨d,o,none⟩ σ=pv o (xg true σ) σ:=rfl
@[go_sem]theorem YD(d:Option Nat)(o:rh)(t:Nat)(want:Bool):qv ⟨d,o,some (t,want)⟩ σ=Ht o want σ (look σ.e t):=rfl
@[go_sem]theorem Yo(f:IX→AV)(σ:St)(x:IX):pv (.cap x) f σ=Ih (f x):=rfl
@[go_sem]theorem PN(f:IX→AV)(σ:St)(a b:Nat)(z:List AV)(p:List (Nat×Nat×IX)):pv (.jE a b z p) f σ=.no:=rfl
@[go_sem]theorem Rc(f:IX→AV)(σ:St)(a b:Nat)(z:List AV)(x y:IX):pv (.gh a b z x y) f σ=.no:=rfl
@[go_sem]theorem Rg(f:IX→AV)(σ:St)(a b:Nat)(z:List AV)(x y:IX):pv (.lY a b z x y) f σ=.no:=rfl
@[go_sem]theorem QS(d:Option Nat)(sz by':Nat)(z:List AV)(x y:IX):gH P (.lY sz by' z x y) d σ K=rk sz by' z σ d K (σ.x x) (xg true σ y):=rfl
@[go_sem]theorem US(f:IX→AV)(σ:St)(a:Nat)(x y:IX):pv (.vP a x y) f σ=.no:=rfl
@[go_sem]theorem Tj(f:IX→AV)(σ:St)(z:List AV)(x:IX):pv (.pJ z x) f σ=.no:=rfl
@[go_sem]theorem Yr(f:IX→AV)(σ:St)(a:Nat)(o:Bool)(x:IX):pv (.K7 a o x) f σ=.no:=rfl
@[go_sem]theorem Ly(f:IX→AV)(σ:St)(off:Nat)(j x:IX):pv (.lM off j x) f σ=.no:=rfl
@[go_sem]theorem UT(f:IX→AV)(σ:St)(x:IX):pv (.kZ x) f σ=.no:=rfl
@[go_sem]theorem Yq(f:IX→AV)(σ:St)(o:Bool)(x:IX):pv (.OR o x) f σ=.no:=rfl
@[go_sem]theorem O7(d:Option Nat)(sz n:Nat)(z:List AV)(p:List (Nat×Nat×IX)):gH P (.jE sz n z p) d σ K=tc sz n σ d K (fill (xg true σ) z p):=rfl
@[go_sem]theorem QQ(d:Option Nat)(sz by':Nat)(z:List AV)(x y:IX):gH P (.gh sz by' z x y) d σ K=eA sz by' z σ d K (σ.x x) (tL σ.s sz (σ.x y)):=rfl
@[go_sem]theorem T9(d:Option Nat)(sz:Nat)(x y:IX):gH P (.vP sz x y) d σ K=uO sz σ d K (σ.x x) (tL σ.s sz (σ.x y)):=rfl
@[go_sem]theorem Sk(d:Option Nat)(z:List AV)(x:IX):gH P (.pJ z x) d σ K=vM z σ d K (σ.x x):=rfl
@[go_sem]theorem Yf(d:Option Nat)(sz:Nat)(o:Bool)(x:IX):gH P (.K7 sz o x) d σ K=y8 sz o σ d K (σ.x x):=rfl
@[go_sem]theorem Ul(d:Option Nat)(x:IX):gH P (.kZ x) d σ K=og σ d K (σ.x x):=rfl
@[go_sem]theorem Ye(d:Option Nat)(o:Bool)(x:IX):gH P (.OR o x) d σ K=K6 o σ d K (σ.x x):=rfl
@[go_sem]theorem UY(d:Option Nat)(x:IX)(args:List IX)(t:Nat)(want:Bool):q1 P ⟨d,.eC x args,some (t,want)⟩ σ K=Ao P x args want σ d K (look σ.e t):=rfl
@[go_sem]theorem PY(x:IX)(args:List IX)(want b:Bool)(d:Option Nat):Ao P x args want σ d K (.bool b)=(∃rs,iO rs=true∧((b==want)=true→∃f as,callee x args (b==want) σ f as∧vS P f=true∧FE P f as σ.s rs σ.s)∧K (σ.put d (.when (b==want) (eR rs)))):=rfl
@[go_sem]theorem Yp(f:IX→AV)(σ:St)(ne:Bool)(x:IX):pv (.Ol ne x) f σ=GB ne (f x):=rfl
@[go_sem]theorem X4(ne:Bool)(b o:Nat):CJ ne (.ref b o) (.ref b o)=.c8 (.bool (!ne)):=by simp[CJ]
@[go_sem]theorem WV(f:IX→AV)(σ:St)(x:IX):pv (.EH x) f σ=.no:=rfl
@[go_sem]theorem WU(f:IX→AV)(σ:St)(u:Nat)(x:IX):pv (.EG u x) f σ=.no:=rfl
@[go_sem]theorem WS(f:IX→AV)(σ:St)(n t j u:Nat)(x:IX):pv (.Ez n t j u x) f σ=.no:=rfl
@[go_sem]theorem Re(f:IX→AV)(σ:St)(t:Nat)(x y:IX):pv (.lX t x y) f σ=.no:=rfl
@[go_sem]theorem QR(d:Option Nat)(t:Nat)(x y:IX):gH P (.lX t x y) d σ K=oC t σ x d K (σ.x x) (σ.x y):=rfl
@[go_sem]theorem Wa(d:Option Nat)(x:IX):gH P (.EH x) d σ K=Gq σ d K (σ.x x):=rfl
@[go_sem]theorem V9(d:Option Nat)(u:Nat)(x:IX):gH P (.EG u x) d σ K=Gp P u σ d K (σ.x x):=rfl
@[go_sem]theorem V8(d:Option Nat)(n t j u:Nat)(x:IX):gH P (.Ez n t j u x) d σ K=Mf n t j u σ d K (σ.x x):=rfl
@[go_sem]theorem UQ(f:IX→AV)(σ:St)(g:Nat)(x:IX):pv (.vJ g x) f σ=.no:=rfl
@[go_sem]theorem T8(d:Option Nat)(f:Nat)(x:IX):gH P (.vJ f x) d σ K=EB P f σ d K (σ.x x):=rfl
@[go_sem]theorem UU(f:IX→AV)(σ:St)(z:Nat)(o:Bool)(x:IX):pv (.ug z o x) f σ=.no:=rfl
@[go_sem]theorem Um(d:Option Nat)(z:Nat)(o:Bool)(x:IX):gH P (.ug z o x) d σ K=Fe z o σ d K (rd σ (xg true σ x) 1):=rfl
attribute[go_sem] Fe.eq_1 oC.eq_1 oC.eq_2 EB GB.eq_1 Mf Gq.eq_1 Gp.eq_1 Ms.eq_1 Mr.eq_1
@[go_sem]theorem WQ(f:IX→AV)(σ:St)(z n:Nat)(x:IX):pv (.Ey z n x) f σ=.no:=rfl
@[go_sem]theorem V7(d:Option Nat)(z n:Nat)(x:IX):gH P (.Ey z n x) d σ K=Me z n σ d K (σ.x x):=rfl
@[go_sem]theorem WB(z b:Nat):wJ z (.arr b 0 0 0)=.sl true z 0 []:=rfl
@[go_sem]theorem WC(z:Nat)(k:IntKind)(n:Int):wJ z (.int k n)=.int k n:=rfl
@[go_sem]theorem UD(z:Nat)(b:Bool):wJ z (.bool b)=.bool b:=rfl
@[go_sem]theorem Yl(z b:Nat):wJ z (.mp b)=.mp b:=rfl
attribute[go_sem] Kx Me
@[go_sem]theorem UP(f:IX→AV)(σ:St)(g i:Nat)(xs:List IX):pv (.vI g i xs) f σ=.no:=rfl
@[go_sem]theorem T7(d:Option Nat)(f i:Nat)(xs:List IX):gH P (.vI f i xs) d σ K=N7 i σ (fun τ=>rv P f τ d K (cc (xg true τ) xs)) (look σ.e i):=rfl
attribute[go_sem] jB.eq_1 jB.eq_2 rC.eq_1
attribute[go_sem] ID.eq_1 ID.eq_2
attribute[go_sem] Ih.eq_1 qc.eq_1 yi.eq_1 tc.eq_1 K6.eq_1 K6.eq_2
@[go_sem]theorem Vf(T:List Nat)(l:List aq):BO P T 0 l σ K=swp P l σ K:=rfl
@[go_sem]theorem Ve(T:List Nat)(q:Nat)(o:aq)(r:List aq):BO P T (q+1) (o::r) σ K=q2 P o σ (Rn P T q r K):=rfl
@[go_sem]theorem Vd(T:List Nat)(q:Nat)(r:List aq)(τ:St):Rn P T q r K τ=(gq T τ.e=true∧BO P T q r τ K):=rfl
@[go_sem]theorem XZ(T:List Nat):Dw P T [] σ K=K σ:=rfl
@[go_sem]theorem ZK(T:List Nat)(i:Nat)(o:aq)(r:List (Nat×Nat×aq)):Dw P T ((0,i,o)::r) σ K=q2 P o σ (Mg P T r K):=rfl
@[go_sem]theorem ZL(T:List Nat)(i:Nat)(o:aq)(r:List (Nat×Nat×aq)):Dw P T ((1,i,o)::r) σ K=(lu o σ=true∧q2 P o σ (Mg P T r K)):=rfl
@[go_sem]theorem ZM(T:List Nat)(i:Nat)(o:aq)(r:List (Nat×Nat×aq)):Dw P T ((2,i,o)::r) σ K=Oi P o σ (Mg P T r K):=rfl
@[go_sem]theorem ZN(T:List Nat)(i:Nat)(o:aq)(r:List (Nat×Nat×aq)):Dw P T ((3,i,o)::r) σ K=HQ P o σ (Mg P T r K):=rfl
@[go_sem]theorem VA(T:List Nat)(r:List (Nat×Nat×aq))(τ:St):Mg P T r K τ=(gq T τ.e=true∧Dw P T r τ K):=rfl
@[go_sem]theorem Vw(d:Option Nat)(f:Nat)(args:List IX):Oi P ⟨d,.call f args,none⟩ σ K=(bB σ d=true∧rv P f σ d K (cc (xg true σ) args)):=by
  show(bB σ d=true∧xt P f σ.s (Ma σ d K) (cc (xg true σ) args))=_
  cases cc (xg true σ) args<;>rfl
@[go_sem]theorem TS(d:Option Nat)(n:Nat)(p v:IX):Oi P ⟨d,.store n p v,none⟩ σ K=(bB σ d=true∧nq n σ.s (Ma σ d K) (σ.x v) (σ.x p)):=rfl
@[go_sem]theorem TR(d:Option Nat)(x:IX):Oi P ⟨d,.kZ x,none⟩ σ K=(bB σ d=true∧rp σ.s (Ma σ d K) (σ.x x)):=rfl
@[go_sem]theorem XX(d:Option Nat)(a:AV)(s':ab):Ma σ d K a s'=K ({σ with s:=s'}.put d a):=rfl
@[go_sem]theorem QA(n:Nat)(s:ab)(C:AV→ab→Prop)(v:AV)(b off:Nat):nq n s C v (.ref b off)=(c9 v=true∧Kh v=true∧(bp v).length=n∧Gj b off (bp v) s C (s b)):=rfl
@[go_sem]theorem Qz(b off:Nat)(news:List AV)(s:ab)(C:AV→ab→Prop)(ez:List AV):Gj b off news s C (some (.cells ez))=(off+news.length≤ez.length∧C (.gu []) (s.set b (.cells (setAt ez off news)))):=rfl
attribute[go_sem] lu
@[go_sem]theorem UG(cs:List AV):lh (.loc cs)=true:=rfl
@[go_sem]theorem UF(z n:Nat)(cs:List AV):Kh (.sl false z n cs)=true:=rfl
@[go_sem]theorem UE(T:List Nat):gq T []=true:=rfl
@[go_sem]theorem SN(T:List Nat)(p:Nat×AV)(e:List (Nat×AV)):gq T (p::e)=(pV T p.2&&gq T e):=rfl
@[go_sem]theorem SG(a:AV):pV [] a=true:=rfl
@[go_sem]theorem QY(c:Nat)(T:List Nat)(a:AV):pV (c::T) a=(nE c a&&pV T a):=rfl
@[go_sem]theorem Wo(c t o:Nat):nE c (.lp t o)=!Nat.beq t c:=rfl
@[go_sem]theorem Vb(n c:Nat)(x:IX)(ez:List AV):NB n σ c x K (.loc ez)=(ez.length=n∧c9 (σ.x x)=true∧(bp (σ.x x)).length=n∧K ((σ.drain x).put (some c) (.loc (bp (σ.x x))))):=rfl
@[go_sem]theorem W6(n c:Nat)(x:IX):q2 P ⟨none,.store n (.t c) x,none⟩ σ K=NB n σ c x K (look σ.e c):=rfl
@[go_sem]theorem U7(d:Nat)(z:List AV):q2 P ⟨some d,.aQ z,none⟩ σ K=(bA (look σ.e d)=true∧jL σ.lp (some d)=true∧K (σ.put (some d) (.loc z))):=rfl
@[go_sem]theorem U8(d sz bytes:Nat)(x y:IX):q2 P ⟨some d,.append sz bytes x y,none⟩ σ K=(bA (look σ.e d)=true∧jD sz bytes σ x (some d) K (σ.x x) (σ.x y)):=rfl
@[go_sem]theorem SE(c':Nat)(b:Bool):nE c' (.bool b)=true:=rfl
@[go_sem]theorem Ur(c':Nat)(k:IntKind)(n:Int):nE c' (.int k n)=true:=rfl
@[go_sem]theorem SF(c':Nat):nE c' (.dG)=true:=rfl
@[go_sem]theorem Ut(c':Nat)(b o:Nat):nE c' (.ref b o)=true:=rfl
@[go_sem]theorem Us(c':Nat)(cs:List AV):nE c' (.loc cs)=true:=rfl
@[go_sem]theorem Wp(c':Nat)(o:Bool)(s n:Nat)(cs:List AV):nE c' (.sl o s n cs)=true:=rfl
@[go_sem]theorem Uq(c':Nat)(cs:List AV):nE c' (.agg cs)=true:=rfl
@[go_sem]theorem Uu(c':Nat)(cs:List AV):nE c' (.gu cs)=true:=rfl
@[go_sem]theorem Ow:bB σ none=true:=rfl
@[go_sem]theorem Ox(d:Nat):bB σ (some d)=bA (look σ.e d):=rfl
@[go_sem]theorem Q6(b:Bool)(a:AV):bA (.when b a)=true:=rfl
@[go_sem]theorem UH(b o:Nat):bA (.lp b o)=true:=rfl
@[go_sem]theorem Pk:bA (.undef)=true:=rfl
@[go_sem]theorem Q4(b:Bool):bA (.bool b)=true:=rfl
@[go_sem]theorem SR(k:IntKind)(n:Int):bA (.int k n)=true:=rfl
@[go_sem]theorem SU(s:List UInt8):bA (.str s)=true:=rfl
@[go_sem]theorem Q5:bA (.dG)=true:=rfl
@[go_sem]theorem SS(b o:Nat):bA (.ref b o)=true:=rfl
@[go_sem]theorem UJ(cs:List AV):bA (.sp cs)=true:=rfl
@[go_sem]theorem UI(o:Bool)(z n:Nat)(cs:List AV):bA (.sl o z n cs)=true:=rfl
@[go_sem]theorem SQ(b o l c:Nat):bA (.arr b o l c)=true:=rfl
@[go_sem]theorem SP(cs:List AV):bA (.agg cs)=true:=rfl
@[go_sem]theorem SV(cs:List AV):bA (.gu cs)=true:=rfl
@[go_sem]theorem Vg(z:List AV)(m:Bool)(x:IX):Tx (.bW z m x)=true:=rfl
attribute[go_sem] LY.eq_1 LY.eq_2 LY.eq_3 HT.eq_1 HT.eq_2 HT.eq_3 Ht.eq_1 Ht.eq_2 qK.eq_1 qK.eq_2 qK.eq_3 Km.eq_1 BL.eq_1 BL.eq_2 Zm.eq_1
end
@[go_sem]theorem OL:dI (.undef)=.undef:=rfl
@[go_sem]theorem QJ(b:Bool):dI (.bool b)=.bool b:=rfl
@[go_sem]theorem R2(k:IntKind)(n:Int):dI (.int k n)=.int k n:=rfl
@[go_sem]theorem R5(s:List UInt8):dI (.str s)=.str s:=rfl
@[go_sem]theorem QL:dI (.dG)=.dG:=rfl
@[go_sem]theorem R4(b o:Nat):dI (.ref b o)=.ref b o:=rfl
@[go_sem]theorem R3(cs:List AV):dI (.loc cs)=.loc cs:=rfl
@[go_sem]theorem T0(o:Bool)(z n:Nat)(cs:List AV):dI (.sl o z n cs)=.sl o z n cs:=rfl
@[go_sem]theorem R1(b o l c:Nat):dI (.arr b o l c)=.arr b o l c:=rfl
@[go_sem]theorem TZ(f:Nat)(x y:List AV):dI (.fn f x y)=.fn f x y:=rfl
@[go_sem]theorem YY{α:Type}(a b:α):(bif true then a else b)=a:=rfl
@[go_sem]theorem YX{α:Type}(a b:α):(bif false then a else b)=b:=rfl
attribute[go_sem] Oo.eq_1 Oo.eq_2 Oo.eq_3 LX.eq_1 LX.eq_2 LX.eq_3 xE.eq_1 xE.eq_2 xE.eq_3 gH.eq_1 gH.eq_2 gH.eq_3 gH.eq_4 gH.eq_5 gH.eq_6 gH.eq_7 gH.eq_8 gH.eq_9 gH.eq_10 gH.eq_11 gH.eq_12 gH.eq_13 gH.eq_14 gH.eq_15 gH.eq_16 Np.eq_1 Ea.eq_1 RC.eq_1 RC.eq_2 tf.eq_1 xy.eq_1 iI.eq_1 iI.eq_2 xA.eq_1 xG.eq_1 tB.eq_1 ku.eq_1 Lg.eq_1 Ww.eq_1 fQ.eq_1 fQ.eq_2 fQ.eq_3 fQ.eq_4 jk.eq_1 jk.eq_2 fE.eq_1 fE.eq_2 fE.eq_3 fE.eq_4 Aq.eq_1 xa.eq_1 sP.eq_1 sP.eq_2 xb.eq_1 kC.eq_1 I3.eq_1 zn.eq_1 zn.eq_2 zn.eq_3 zn.eq_4 zn.eq_5 tu.eq_1 GC.eq_1 oF.eq_1 AF.eq_1 Hg.eq_1 Hg.eq_2 lF.eq_1 lF.eq_2 ka.eq_1 tK.eq_1 rd.eq_1 rd.eq_2 rd.eq_3 rd.eq_4 jL.eq_1 jL.eq_2 HS.eq_1 vG.eq_1 jD.eq_1 jD.eq_2 Ae.eq_1 oE.eq_1 wG.eq_1 Ak.eq_1 Jc.eq_1 Jc.eq_2 uL.eq_1 KH.eq_1 cc.eq_1 cc.eq_2 tm.eq_1 rv.eq_1 Mi.eq_1 eR.eq_1 iO.eq_1 Qj.eq_1 Qk.eq_1 Er.eq_1 JF.eq_1 XP.eq_1 Dt.eq_1 Dt.eq_2 Dt.eq_3 H8.eq_1 H8.eq_2 IB.eq_1 CJ.eq_1 CJ.eq_2 CJ.eq_3 MD.eq_1 MD.eq_2 y6.eq_3 y6.eq_4 y6.eq_5 y6.eq_6 y6.eq_7 y6.eq_12 y6.eq_13 y6.eq_14 y6.eq_15 y6.eq_16 y6.eq_17 Gf.eq_1 Gf.eq_2 Gf.eq_3 Gf.eq_4 Gf.eq_5 Gf.eq_6 Gf.eq_7 kk pv.eq_1 pv.eq_2 pv.eq_3 pv.eq_4 pv.eq_5 pv.eq_6 pv.eq_7 pv.eq_8 pv.eq_9 pv.eq_10 pv.eq_11 pv.eq_12 pv.eq_13 pv.eq_14 pv.eq_15 pv.eq_16 pv.eq_17 pv.eq_18 pv.eq_19 pv.eq_20 pv.eq_21 pv.eq_22 pv.eq_23 pv.eq_24 pv.eq_25 fill.eq_1 fill.eq_2
attribute[go_sem] QH QG xg St.vb St.dS Od gZ Lj M6 Qx Qy FX JO St.drain
attribute[go_sem] Bool.true_or Bool.or_true Bool.or_false Bool.false_or
attribute[go_sem] bne_self_eq_false Bool.bne_true Bool.bne_false implies_true decide_true decide_false Bool.true_and Bool.and_true Bool.false_and Bool.and_false Bool.not_true Bool.not_false Bool.false_eq_true true_and List.length_cons List.length_nil List.map_cons List.map_nil List.all_nil List.all_cons List.drop_zero List.drop_succ_cons List.take_zero List.take_succ_cons Nat.zero_add List.cons_append List.nil_append List.getElem?_cons_zero List.getElem?_cons_succ
end
end Go.AB
end
section
namespace Go.AB
open Go
theorem VR.mono{w w':World}{R R':Nat→Nat}(hR:∀b,R b≤R' b)(hs:∀b k,k<R b→w'.cell? ⟨b,k,none⟩=w.cell? ⟨b,k,none⟩){a:AV}{v:Value}(h:VR w R a v):VR w' R' a v:=by
 induction h with
 |undef v=>exact .undef v
 |bool b=>exact .bool b
 |int k n=>exact .int k n
 |str s=>exact .str s
 |dG=>exact .dG
 |ref b off=>exact .ref b off
 |sp cs b off u hf hR' hc _ ih=>
  refine .sp cs b off u hf (Nat.le_trans hR' (hR b)) (fun j c hj=>?_) ih
  rw[hs b (off+j) (by have:=(List.getElem?_eq_some_iff.1 hj).1;omega)]
  exact hc j c hj
 |slnil own sz=>exact .slnil own sz
 |sle sz a cap=>exact .sle sz a cap
 |sl own sz n cs b off cap u hf hl hR' hcap hc _ ih=>
  refine .sl own sz n cs b off cap u hf hl (Nat.le_trans hR' (hR b)) hcap (fun j c hj=>?_) ih
  rw[hs b (off+j) (by have:=(List.getElem?_eq_some_iff.1 hj).1;omega)]
  exact hc j c hj
 |arr b off len cap=>exact .arr b off len cap
 |Ex b off=>exact .Ex b off
 |agg cs vs hf hl _ ih=>exact .agg cs vs hf hl ih
 |gu cs vs hl _ ih=>exact .gu cs vs hl ih
 |fn f first caps vf vc hl _ hl' _ ih ih'=>exact .fn f first caps vf vc hl ih hl' ih'
 |nj=>exact .nj
 |mp b=>exact .mp b
 |one v h=>exact .one v h
 |l1 t=>exact .l1 t
 |jX=>exact .jX
 |bb t n cs v _ h0 ih=>exact .bb t n cs v ih h0
 |sq=>exact .sq
 |when b a v _ ih=>exact .when b a v ih
theorem aG.R{G G':Gh}{w w':World}(h:aG G w G' w')(hg:b9 G w):∀b,G.R b≤G'.R b:=fun b=>by
 rcases Nat.lt_or_ge b w.heap.size with hb|hb
 ·exact h.mono b hb
 ·rw[hg.iU b hb];exact Nat.zero_le _
theorem aG.cells{G G':Gh}{w w':World}(h:aG G w G' w')(hg:b9 G w):∀b k,k<G.R b→w'.cell? ⟨b,k,none⟩=w.cell? ⟨b,k,none⟩:=fun b k hk=>by
 rcases Nat.lt_or_ge b w.heap.size with hb|hb
 ·exact h.lD b k hb hk
 ·rw[hg.iU b hb]at hk;omega
theorem aG.vr{G G':Gh}{w w':World}(h:aG G w G' w')(hg:b9 G w){a:AV}{v:Value}(hv:VR w G.R a v):VR w' G'.R a v:=hv.mono (h.R hg) (h.cells hg)
theorem aG.refl(G:Gh)(w:World):aG G w G w:=⟨rfl,rfl,rfl,Nat.le_refl _,Nat.le_refl _,fun _ _=>Nat.le_refl _,fun _ _ _ _=>rfl,fun _ _ _=>rfl,fun _ _ h=>⟨h,rfl⟩,fun _ _ h=>⟨h,rfl⟩⟩
theorem aG.trans{G₁ G₂ G₃:Gh}{w₁ w₂ w₃:World}(h:aG G₁ w₁ G₂ w₂)(k:aG G₂ w₂ G₃ w₃):aG G₁ w₁ G₃ w₃ where
 os:=k.os.trans h.os
 tape:=k.tape.trans h.tape
 output:=k.output.trans h.output
 drawn:=Nat.le_trans h.drawn k.drawn
 size:=Nat.le_trans h.size k.size
 mono:=fun b hb=>Nat.le_trans (h.mono b hb) (k.mono b (Nat.lt_of_lt_of_le hb h.size))
 lD:=fun b j hb hj=>(k.lD b j (Nat.lt_of_lt_of_le hb h.size) (Nat.lt_of_lt_of_le hj (h.mono b hb))).trans (h.lD b j hb hj)
 frame:=fun b hb ho=>by
  refine(k.frame b (Nat.lt_of_lt_of_le hb h.size) ?_).trans (h.frame b hb ho)
  rcases ho with ho|ho
  ·exact .inl (h.jG b hb ho).1
  ·exact .inr (h.oY b hb ho).1
 jG:=fun b hb ho=>
  let⟨o2,r2⟩:=h.jG b hb ho
  let⟨o3,r3⟩:=k.jG b (Nat.lt_of_lt_of_le hb h.size) o2
  ⟨o3,r3.trans r2⟩
 oY:=fun b hb ho=>
  let⟨o2,r2⟩:=h.oY b hb ho
  let⟨o3,r3⟩:=k.oY b (Nat.lt_of_lt_of_le hb h.size) o2
  ⟨o3,r3.trans r2⟩
theorem df.mono{G G':Gh}{w w':World}{o:cY}{a:AV}{v:Value}(h:df G w o a v)(hb:∀b,G.O b=o→G'.O b=o∧G'.R b=G.R b∧w'.heap[b]? =w.heap[b]?):df G' w' o a v:=by
 unfold df at*
 split
 ·rename_i sz n cs
  intro base m cap hv hc
  obtain⟨b,off,c,e,fz,h1,h2,h3,h4,h5,h6⟩:=h base m cap hv hc
  obtain⟨k1,k2,k3⟩:=hb b h2
  exact⟨b,off,c,e,fz,h1,k1,by rw[k2,h3],by rw[k3,h4],h5,h6⟩
 ·rename_i e n cs
  intro base m cap hv hc
  obtain⟨b,off,c,fz,h1,h2,h3,h4,h5,h6⟩:=h base m cap hv hc
  obtain⟨k1,k2,k3⟩:=hb b h2
  exact⟨b,off,c,fz,h1,k1,by rw[k2,h3],by rw[k3,h4],h5,h6⟩
 ·trivial
theorem Fl.views{cs:List AV}(h:Fl cs):Fl (views cs):=by
 intro c hc
 simp only[AB.views,List.mem_map]at hc
 obtain⟨c',h1,rfl⟩:=hc
 have:=h c' h1
 cases c'<;>simp_all [oH,c9,AB.view]
theorem xn.views{t:Nat}{cs:List AV}(h:xn t cs):Fl (AB.views cs):=by
 intro c hc
 simp only[AB.views,List.mem_map]at hc
 obtain⟨c',h1,rfl⟩:=hc
 rcases h c' h1 with h|rfl
 ·cases c'<;>simp_all [oH,c9,AB.view]
 ·rfl
theorem xn.flat{t:Nat}{cs:List AV}(h:xn t cs)(hv:AB.views cs=cs):Fl cs:=hv▸h.views
theorem xn.left{t:Nat}{cs sp:List AV}(h:xn t (cs++sp)):xn t cs:=fun c hc=>h c (List.mem_append_left _ hc)
theorem Fl.tag{cs:List AV}(h:Fl cs)(t:Nat):xn t cs:=fun c hc=>.inl (h c hc)
theorem xn.sub{t:Nat}{cs:List AV}(h:xn t cs)(off n:Nat):xn t (AB.sub cs off n):=fun c hc=>h c (List.mem_of_mem_drop (List.mem_of_mem_take hc))
theorem xn.drop{t:Nat}{cs:List AV}(h:xn t cs)(off:Nat):xn t (cs.drop off):=fun c hc=>h c (List.mem_of_mem_drop hc)
theorem Fl.sub{cs:List AV}(h:Fl cs)(off n:Nat):Fl (sub cs off n):=fun c hc=>h c (List.mem_of_mem_drop (List.mem_of_mem_take hc))
theorem Fl.drop{cs:List AV}(h:Fl cs)(off:Nat):Fl (cs.drop off):=fun c hc=>h c (List.mem_of_mem_drop hc)
theorem Fl.nil:Fl []:=fun c hc=>by simp at hc
theorem df.view(G:Gh)(w:World)(o:cY)(a:AV)(v:Value):df G w o (view a) v:=by cases a<;>first|trivial|(rename_i own sz n cs;simp[AB.view,df])
theorem VR.view{w:World}{R:Nat→Nat}{a:AV}{v:Value}(h:VR w R a v):VR w R (view a) v:=by
 cases h with
 |slnil own sz=>exact .slnil false sz
 |sle sz a cap=>exact .sle sz a cap
 |sl own sz n cs b off cap u hf hl hR hcap hc hr=>exact .sl false sz n cs b off cap u hf hl hR hcap hc hr
 |undef v=>exact .undef v
 |bool b=>exact .bool b
 |int k n=>exact .int k n
 |str s=>exact .str s
 |dG=>exact .dG
 |ref b off=>exact .ref b off
 |sp cs b off u hf hR hc hr=>exact .sp cs b off u hf hR hc hr
 |arr b off len cap=>exact .arr b off len cap
 |Ex b off=>exact .Ex b off
 |agg cs vs hf hl hr=>exact .agg cs vs hf hl hr
 |gu cs vs hl hr=>exact .gu cs vs hl hr
 |fn f first caps vf vc hl hr hl' hr'=>exact .fn f first caps vf vc hl hr hl' hr'
 |nj=>exact .nj
 |mp b=>exact .mp b
 |one v h=>exact .one v h
 |l1 t=>exact .dG
 |jX=>exact .jX
 |bb t n cs v h h0=>
  cases h with
  |slnil=>exact .slnil false 1
  |sl _ _ _ _ b off cap u hf hl hR hcap hc hr=>exact .sl false 1 n cs b off cap u hf hl hR hcap hc hr
 |sq=>exact .sq
 |when b a v h=>exact .when b a v h
theorem db.mono{G G':Gh}{w w':World}{o:Nat→cY}{cs:List AV}{c:Array Value}(h:db G w o cs c)(hv:∀a v,VR w G.R a v→VR w' G'.R a v)
 (hb:∀b j,G.O b=o j→G'.O b=o j∧G'.R b=G.R b∧w'.heap[b]? =w.heap[b]?):db G' w' o cs c:=
 ⟨h.1,fun j x y hx hy=>⟨hv _ _ (h.2 j x y hx hy).1,(h.2 j x y hx hy).2.mono fun b=>hb b j⟩⟩
theorem da.oo{G:Gh}{w:World}{e:List (Nat×AV)}{tmps:Array Value}{i:Nat}{a:AV}{v:Value}(h:c9 a=true):da G w e tmps i a v↔(VR w G.R a v∧df G w (.slot i 0) a v):=by cases a<;>simp_all [c9,da]
theorem da.wH{G:Gh}{w:World}{e:List (Nat×AV)}{tmps:Array Value}{i:Nat}{a:AV}{v:Value}(h:c9 a=true)(hv:VR w G.R a v):da G w e tmps i (view a) v:=by
 have h':c9 (view a)=true:=by cases a<;>simp_all [c9,view]
 rw[da.oo h']
 exact⟨hv.view,df.view ..⟩
theorem da.vr{G:Gh}{w:World}{e:List (Nat×AV)}{tmps:Array Value}{i:Nat}{a:AV}{v:Value}(h:c9 a=true)(hs:da G w e tmps i a v):VR w G.R a v:=((da.oo h).1 hs).1
theorem da.frame{G G':Gh}{w w':World}{e e':List (Nat×AV)}{tmps tmps':Array Value}{i:Nat}
 (hv:∀a v,VR w G.R a v→VR w' G'.R a v)
 (hown:∀b,(∃j,G.O b=.slot i j)∨G.O b=.loc i→G'.O b=G.O b∧G'.R b=G.R b∧w'.heap[b]? =w.heap[b]?)
 (hcell:∀b c j,G.O b=.loc i→G.O c=.cell b j→G'.O c=.cell b j∧G'.R c=G.R c∧w'.heap[c]? =w.heap[c]?):
 ∀(a:AV)(v:Value)(_:∀d,bH a d→∀cs,look e' d=.loc cs→∃cs',look e d=.loc cs'∧tmps'[d]? =tmps[d]?)
  (_:da G w e tmps i a v),da G' w' e' tmps' i a v
 |.loc cs,v,_,h=>by
  obtain⟨b,c,t,h1,h2,h3,h4,h5,h6⟩:=h
  obtain⟨k1,k2,k3⟩:=hown b (.inr h2)
  exact⟨b,c,t,h1,k1.trans h2,k2.trans h3,k3.trans h4,h5.mono hv fun c j hc=>hcell b c j h2 hc,h6⟩
 |.lp d off,v,hlp,h=>by
  obtain⟨b,h3,h4⟩:=h
  refine⟨b,h3,fun cs hcs=>?_⟩
  obtain⟨cs',h1,h2⟩:=hlp d rfl cs hcs
  exact h2.trans (h4 cs' h1)
 |.gu vs,v,_,h=>by
  obtain⟨ys,h1,h2⟩:=h
  exact⟨ys,h1,h2.mono hv fun b j hb=>by
   obtain⟨k1,k2,k3⟩:=hown b (.inl ⟨_,hb⟩)
   exact⟨k1.trans hb,k2,k3⟩⟩
 |.when b a,v,hlp,h=>⟨fun hb=>da.frame hv hown hcell a v hlp (h.1 hb),h.2⟩
 |.us sz n cs,v,_,h=>by
  rcases h with h|⟨b,cap,c,t,sp,h1,h2,h3,h4,h5,h6,h7,h8,h9,h10,h11⟩
  ·exact .inl h
  ·obtain⟨k1,k2,k3⟩:=hown b (.inl ⟨_,h4⟩)
   exact .inr ⟨b,cap,c,t,sp,h1,h2,h3,k1.trans h4,k2.trans h5,k3.trans h6,h7,h8,h9,fun j x u hx hu=>hv _ _ (h10 j x u hx hu),h11⟩
 |.undef,v,_,h|.bool _,v,_,h|.int _ _,v,_,h|.str _,v,_,h|.dG,v,_,h|.ref _ _,v,_,h|.sp _,v,_,h|.sl _ _ _ _,v,_,h|.arr _ _ _ _,v,_,h|.agg _,v,_,h
 |.fn _ _ _,v,_,h|.nj,v,_,h|.mp _,v,_,h|.sq,v,_,h|.one,v,_,h|.l1 _,v,_,h|.jX,v,_,h|.bb _ _ _,v,_,h=>by
  refine⟨hv _ _ h.1,h.2.mono fun b hb=>?_⟩
  obtain⟨k1,k2,k3⟩:=hown b (.inl ⟨_,hb⟩)
  exact⟨k1.trans hb,k2,k3⟩
theorem aP(j i:Nat)(a:AV)(l:List (Nat×AV)):look ((j,a)::l) i=if j=i then a else look l i:=by
 show(bif j==i then a else look l i)=_
 by_cases h:j=i
 ·simp[h]
 ·have:(j==i)=false:=by simpa using h
  simp[this,h]
theorem Inv.put{G G':Gh}{n:Nat}{D:List Deferred}{σ:St}{s':ab}{lp':List (Nat×Nat)}{a:Act}{w w':World}(h:Inv G n D σ a w)(d:Option Nat)(hd:∀i,d=some i→i<n)(av:AV)(v:Value)
 (hgood:b9 G' w')(hpres:aG G w G' w')(c6:aW G' w' s')
 (hlp:∀x∈σ.lp,x∈lp')(hlpn:∀i t,d=some i→bH av t→(i,t)∈lp')
 (hfree:∀i t,d=some i→(∃cs,av=.loc cs)→(t,i)∉σ.lp)
 (hown:∀i b,d≠some i→(∃j,G.O b=.slot i j)∨G.O b=.loc i→G'.O b=G.O b∧G'.R b=G.R b∧w'.heap[b]? =w.heap[b]?)
 (hcell:∀i b c j,d≠some i→G.O b=.loc i→G.O c=.cell b j→G'.O c=.cell b j∧G'.R c=G.R c∧w'.heap[c]? =w.heap[c]?)
 (hnew:∀i,d=some i→da G' w' ((σ.put d av).e) (a.put d v).tmps i av v):
 Inv G' n D {(σ.put d av)with s:=s',lp:=lp'} (a.put d v) w':=by
 cases d with
 |none=>
  refine⟨hgood,c6,h.size,fun i u hu=>?_,h.CG,fun i t ht=>hlp _ (h.HR i t ht),h.qW⟩
  exact da.frame (fun _ _ hv=>hpres.vr h.aO hv) (fun b=>hown i b (by simp)) (fun b c j=>hcell i b c j (by simp)) _ _ (fun t _ cs hcs=>⟨cs,hcs,rfl⟩) (h.ch i u hu)
 |some d=>
  refine⟨hgood,c6,by simp[Act.put,h.size],fun i u hu=>?_,fun i hi=>?_,fun i t ht=>?_,h.qW⟩
  ·by_cases hid:d=i
   ·subst hid
    have hu':u=v:=by
     have hlt:d<a.tmps.size:=by rw[h.size];exact hd d rfl
     simp[Act.put,hlt]at hu
     exact hu.symm
    subst hu'
    have:look (σ.put (some d) av).e d=av:=by simp[St.put,aP]
    show da G' w' (σ.put (some d) av).e _ d (look (σ.put (some d) av).e d) u
    rw[this]
    exact hnew d rfl
   ·have hne:(some d:Option Nat)≠some i:=fun e=>hid (Option.some.inj e)
    have hu':a.tmps[i]? =some u:=by simpa[Act.put,Array.getElem?_setIfInBounds_ne hid]using hu
    have:look (σ.put (some d) av).e i=look σ.e i:=by simp[St.put,aP,hid]
    show da G' w' (σ.put (some d) av).e _ i (look (σ.put (some d) av).e i) u
    rw[this]
    refine da.frame (fun _ _ hv=>hpres.vr h.aO hv) (fun b=>hown i b hne) (fun b c j=>hcell i b c j hne) _ _ (fun t ht cs hcs=>?_) (h.ch i u hu')
    have hmem:=h.HR i t ht
    by_cases hdt:d=t
    ·subst hdt
     simp only[St.put,aP,if_true]at hcs
     exact absurd hmem (hfree d i rfl ⟨cs,hcs⟩)
    ·refine⟨cs,by simpa[St.put,aP,hdt]using hcs,?_⟩
     simp[Act.put,Array.getElem?_setIfInBounds_ne hdt]
  ·have:d≠i:=by have:=hd d rfl;omega
   simp[St.put,aP,this,h.CG i hi]
  ·by_cases hid:d=i
   ·subst hid
    simp only[St.put,aP,if_true]at ht
    exact hlpn d t rfl ht
   ·simp only[St.put,aP,hid,if_false]at ht
    exact hlp _ (h.HR i t ht)
end Go.AB
end
