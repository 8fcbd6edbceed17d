/- A part. -/
import Derived.Defers
import Derived.Test.YtgecakgfnjkkbaaGreatTt10
set_option linter.defProp false
set_option linter.unusedSimpArgs false
set_option linter.unusedVariables false
section
namespace Go.AB
open Go
section
variable{P:Program}{n:Nat}
def FND(P:Program)(f:FuncId)(args:List AV)(s:ae)(Q:List AV->ae->Prop):Prop:=
 ∀(G:Gh)(w:World)(vs:Array Value)(u:FrameMode),cE G w->xE G->bc G w s->lY w G.R args vs->
  CallsD P f vs u w fun e u' w'=>u'=u/\∃v rs s' G',e=.returned v/\Q rs s'/\cE G' w'/\bc G' w' s'/\nz G' w' rs v/\aI G w G' w'
theorem FND.of{f:FuncId}{res:List jt}{ic:IC}{args:List AV}{s:ae}{Q:List AV->ae->Prop}(hD:wD P n)(hf:eO P f n res ic=true)(hv:rP args=true)(hn:args.length<=n)
 (hw:fW P ic (xq res Q) (start args s)):FND P f args s Q:=by
 intro G w vs u hg ho hs ha
 unfold eO at hf
 split at hf<;>try(cases hf;done)
 rename_i fn hfn
 simp only[Bool.and_eq_true,beq_iff_eq]at hf
 obtain⟨⟨rfl,nN⟩,hf⟩:=hf
 split at hf<;>try(cases hf;done)
 rename_i c hb
 refine callsD_of_wp hfn hb (cT hD ic c G w (xq res Q) _ G _ _ w hf ?_ (rv hg hs ha hv hn) (aI.refl G w) hw)
 intro x G' E' a' w' h hp hq
 have fin:rP (lj E' res)=true/\Q (lj E' res) E'.s->a'.defers=[]/\∃v,(results fn a'.tmps).run P w'=.ok v w'/\∃v' rs s' G'',Ending.returned v=.returned v'/\Q rs s'/\cE G'' w'/\bc G'' w' s'/\nz G'' w' rs v'/\aI G w G'' w':=by
  intro hq
  obtain⟨eo,hQ⟩:=hq
  exact⟨h.qE,B8 nN h hp eo hQ⟩
 cases x with
 |ret=>exact fin hq
 |normal=>exact fin hq
 |_=>exact hq.elim
def OE:List Operand->List Nat->Bool
 |[],[]=>true
 |.tmp t::r,y::ys=>t==y&&OE r ys
 |_,_=>false
def Zt(g:Nat)(ys:List Nat):Code->Bool
 |.region _ ops false=>match ops.toList with
  |[⟨none,.defer ⟨.value (.func g'),args,_⟩,_,_,_,none⟩]=>g'==g&&OE args.toList ys
  |_=>false
 |_=>false
def SN(P:Program)(f:FuncId)(n:Nat)(res:List jt)(ic1:IC)(g:Nat)(ys:List Nat)(ic2:IC):Bool:=match P.funcs[f]? with
 |some fn=>fn.ntmps==n&&lh P fn.results.toList res&&(match fn.body with
  |some (.seq c1 (.seq cd c2))=>lW P n c1 ic1&&(Zt g ys cd&&(lW P n c2 ic2&&sS P g))
  |_=>false)
 |none=>false
def CF(bs:List Nat):List AV:=bs.map fun b=>.ref b 0
theorem Cy{G:Gh}{D:List Deferred}{E:St}{a:Act}{w:World}(h:Inv G n D E a w):∀(os:List Operand)(ys bs:List Nat),OE os ys=true->ys.map (look E.e)=CF bs->os.map a.eval=bs.map fun b=>Value.pointer (some ⟨b,0,none⟩)
 |[],[],bs,_,hb=>by
  cases bs with
  |nil=>rfl
  |cons b bs=>cases hb
 |.tmp t::os,y::ys,bs,hc,hb=>by
  cases bs with
  |nil=>cases hb
  |cons b bs=>
   simp only[OE,Bool.and_eq_true,beq_iff_eq]at hc
   obtain⟨rfl,hc⟩:=hc
   rw[List.map_cons]at hb
   injection hb with h1 h2
   rw[List.map_cons,List.map_cons,Cy h os ys bs hc h2]
   congr 1
   have hx:bN (.tmp t) (.t t)=true:=by simp[bN]
   have hb:=BR.aR h hx
   have e:xg true E (.t t)=.ref b 0:=by
    show vi true (look E.e t)=_
    rw[h1];rfl
   rw[e]at hb
   have hv:VR w G.R (.ref b 0) (a.eval (.tmp t)):=hb
   generalize a.eval (.tmp t)=v at hv
   cases hv
   rfl
 |[],_::_,_,hc,_=>by cases hc
 |.tmp _::_,[],_,hc,_=>by cases hc
 |.const _::_,_,_,hc,_=>by cases hc
 |.global _::_,_,_,hc,_=>by cases hc
 |.func _::_,_,_,hc,_=>by cases hc
def Yk(P:Program)(g:Nat)(bs:List Nat)(res:List jt)(Q:List AV->ae->Prop):Exit->St->Prop
 |.ret,E=>FND P g (CF bs) E.s fun rs s'=>ke rs=true/\rP (lj {E with s:=s'} res)=true/\Q (lj {E with s:=s'} res) s'
 |_,_=>False
def FN.ofD{f:FuncId}{res:List jt}{ic1 ic2:IC}{g:Nat}{ys:List Nat}{args:List AV}{s:ae}{Q:List AV->ae->Prop}(hD:wD P n)(hf:SN P f n res ic1 g ys ic2=true)(hv:rP args=true)(hn:args.length<=n)
 (hw:fW P ic1 (fun x E=>x=.normal/\∃bs,ys.map (look E.e)=CF bs/\fW P ic2 (Yk P g bs res Q) E) (start args s)):FN P f args s Q:=by
 intro G w vs hg ho hs ha
 unfold SN at hf
 split at hf<;>try(cases hf;done)
 rename_i fn hfn
 simp only[Bool.and_eq_true,beq_iff_eq]at hf
 obtain⟨⟨rfl,nN⟩,hf⟩:=hf
 split at hf<;>try(cases hf;done)
 rename_i c1 cd c2 hb
 simp only[Bool.and_eq_true]at hf
 obtain⟨k1,kd,k2,kg⟩:=hf
 refine calls_of_wp_defers hfn hb (wp_seq (cT hD ic1 c1 G w (fun x E=>x=.normal/\∃bs,ys.map (look E.e)=CF bs/\fW P ic2 (Yk P g bs res Q) E) _ G _ _ w k1 ?_ (rv hg hs ha hv hn) (aI.refl G w) hw))
 rintro x G1 σ1 a1 w1 h1 hp1 ⟨rfl,bs,hbs,hw2⟩
 show(Code.seq cd c2).wp P _ a1 w1
 refine wp_seq ?_
 unfold Zt at kd
 split at kd<;>try(cases kd;done)
 rename_i id ops
 split at kd<;>try(cases kd;done)
 rename_i g' Zs ajl dty ajk aji ajP
 simp only[Bool.and_eq_true,beq_iff_eq]at kd
 obtain⟨rfl,kd⟩:=kd
 have hev:=Cy h1 _ _ _ kd hbs
 let d:Deferred:={target:=.fn (.func g') #[],args:=(bs.map fun b=>Value.pointer (some ⟨b,0,none⟩)).toArray}
 refine wp_region_list ?_
 rw[ajP]
 show BD P ops _ a1 w1 _ _
 refine Dv (by simp[Region.wanted]) ?_
 have bS:(execOp a1.eval {dst:=none,op:=.defer {callee:=.value (.func g'),args:=Zs,argTypes:=ajl},type:=dty,pos:=ajk,after:=aji,guard:=none}).run P w1=.ok (.defer d) w1:=by
  have e2:Zs.map a1.eval=(bs.map fun b=>Value.pointer (some ⟨b,0,none⟩)).toArray:=by
   apply Array.ext'
   simp[hev]
  simp[execOp,resolve,Act.eval,Deferred.ofValue,e2,d]
 unfold Oper.wp
 rw[bS]
 have h1':Inv G1 fn.ntmps [d] σ1 {a1 with defers:=[d]} w1:=⟨h1.aZ,h1.store,h1.size,h1.cG,h1.EB,h1.Mj,rfl⟩
 show c2.wp P _ {a1 with defers:=d::a1.defers} w1
 rw[h1.qE]
 refine cT hD ic2 c2 G w (Yk P g' bs res Q) _ G1 σ1 _ w1 k2 ?_ h1' hp1 hw2
 intro x G2 σ2 a2 w2 h2 hp2 hq
 cases x with
 |ret=>
  show Leaves P fn a2.tmps _ a2.defers .returning w2
  rw[h2.qE]
  unfold sS at kg
  split at kg<;>try(cases kg;done)
  rename_i gfn hgf
  rw[Bool.and_eq_true]at kg
  refine leaves_cons BY (f:=g') (args:=(bs.map fun b=>Value.pointer (some ⟨b,0,none⟩)).toArray) (by simp[invoke,lS hgf kg.1 kg.2]) ?_
  have KH:lY w2 G2.outer.R (CF bs) (bs.map fun b=>Value.pointer (some ⟨b,0,none⟩)).toArray:=by
   refine⟨by simp[CF],fun j c u hc hu=>?_⟩
   unfold CF at hc
   rw[List.getElem?_map]at hc
   rw[List.getElem?_toArray,List.getElem?_map]at hu
   cases hj:bs[j]? with
   |none=>rw[hj]at hc;cases hc
   |some b=>
    rw[hj]at hc hu
    injection hc with hc;injection hu with hu
    subst hc hu
    exact .ref b 0
  refine CallsD.mono (hq G2.outer w2 _ .returning h2.mo.1 (pP G2) h2.mo.2 KH) ?_
  rintro e u' w3 ⟨rfl,v,rs,s',G3,rfl,⟨hok,eo,hQ⟩,hg3,hs3,hr3,hp3⟩
  obtain⟨G4,h4,hp4⟩:=h2.behind (d:=none) rfl hok hg3 hs3 hr3 hp3
  exact B8 nN h4 (hp2.trans hp4) eo hQ
 |_=>exact hq.elim
end
@[go_sem]abbrev sF{α:Type}[aP α](n:Nat)(l:List α):AV:=.sl false n l.length (flat l)
@[go_sem]abbrev sT{α:Type}[aP α](n:Nat)(l:List α):AV:=.sl true n l.length (flat l)
def Gu{S O:Type}{body:S->Option (S⊕O)}(I:S->Prop)(μ:S->Nat)(Mn:O->Prop)
 (step:∀s,I s->∃x,body s=some x/\(match x with|.inl t=>I t/\μ t<μ s|.inr o=>Mn o)):∀(n:Nat)(s:S),I s->μ s<n->∃o,cC body n s=some o/\Mn o
 |0,_,_,h=>absurd h (Nat.not_lt_zero _)
 |n+1,s,hi,hn=>by
  obtain⟨x,hx,h⟩:=step s hi
  cases x with
  |inl t=>
   obtain⟨o,h1,h2⟩:=Gu I μ Mn step n t h.1 A_
   grind [cC]
  |inr o=>grind [cC]
def dw{S O:Type}{body:S->Option (S⊕O)}{s0:S}(I:S->Prop)(μ:S->Nat)(Mn:O->Prop)(h0:I s0)(hμ:μ s0<18446744073709551616)
 (step:∀s,I s->∃x,body s=some x/\(match x with|.inl t=>I t/\μ t<μ s|.inr o=>Mn o)):∃o,iter body s0=some o/\Mn o:=
 Gu I μ Mn step _ s0 h0 hμ
def iter_eq{S O:Type}{body:S->Option (S⊕O)}{s0:S}{o:O}(I:S->Prop)(μ:S->Nat)(h0:I s0)(hμ:μ s0<18446744073709551616)
 (step:∀s,I s->(∃t,body s=some (.inl t)/\I t/\μ t<μ s)\/body s=some (.inr o)):iter body s0=some o:=by
 obtain⟨p,h1,h2⟩:=dw I μ (fun p=>p=o) h0 hμ fun s hs=>by
  rcases step s hs with⟨t,h1,h2⟩|h1
  ·exact⟨_,h1,h2⟩
  grind
 rw[h1,h2]
theorem an{n:Int}(h1:-9223372036854775808<=n)(h2:n<=9223372036854775807):aC n=n:=by
 unfold aC IntKind.wrap
 have:(2^IntKind.i64.bits)=18446744073709551616:=D_
 have h3:(2^(IntKind.i64.bits -1))=9223372036854775808:=D_
 simp[IntKind.signed,Bool.true_and]
 grind
@[simp]theorem aN{α β:Type}(a:α)(f:α->Option β):aQ (some a) f=f a:=rfl
@[simp]theorem afe{α β:Type}(f:α->Option β):aQ none f=none:=rfl
@[simp]theorem Iu{α β:Type}(a:α)(f:α->Option β):jn (some a) f=f a:=rfl
@[simp]theorem ail{α β:Type}(f:α->Option β):jn none f=none:=rfl
@[simp]theorem ajb{X Y α:Type}(x:X)(F:X->Option α)(G:Y->Option α):nE (some (.inl x)) F G=F x:=rfl
@[simp]theorem ajc{X Y α:Type}(y:Y)(F:X->Option α)(G:Y->Option α):nE (some (.inr y)) F G=G y:=rfl
@[simp]theorem alg{X Y α:Type}(x:X)(F:X->Option α)(G:Y->Option α):yx (some (.inl x)) F G=F x:=rfl
@[simp]theorem alh{X Y α:Type}(y:Y)(F:X->Option α)(G:Y->Option α):yx (some (.inr y)) F G=G y:=rfl
@[simp]theorem ali{α:Type}(o:Option α):jn o (fun a=>some a)=o:=by cases o<;>rfl
@[simp]theorem ajd{α:Type}(o:Option α):aQ o (fun a=>some a)=o:=by cases o<;>rfl
theorem bk{α:Type}{c:Prop}[Decidable c](h:c)(o:Option α):a8 c o=o:=if_pos h
@[simp]theorem QN{α:Type}[Decidable True](o:Option α):a8 True o=o:=if_pos trivial
@[simp]theorem JF{α:Type}(z:α)(o:Option α):jA true z o=o:=rfl
@[simp]theorem YS{α:Type}(z:α)(o:Option α):jA false z o=some z:=rfl
@[simp]theorem afj{A B C:Type}(f:A->C)(g:B->C)(a:A):eY f g (.inl a)=f a:=rfl
@[simp]theorem afk{A B C:Type}(f:A->C)(g:B->C)(b:B):eY f g (.inr b)=g b:=rfl
theorem Pe{α:Type}[aP α]{l:List α}{i:Int}(h:i.toNat<l.length):ix l i=l[i.toNat]:=by grind [ix,List.getElem?_eq_getElem]
theorem gr{α:Type}[aP α]{l:List α}{k:Nat}(h:k<l.length):ix l (k:Int)=l[k]:=by grind [Pe]
theorem TQ{α:Type}[aP α]{l:List α}{k:Nat}{a:α}(h:l[k]? =some a):ix l (k:Int)=a:=by grind [ix]
def od{S O:Type}{body:S->Option (S⊕O)}{s0:S}{o:O}(n:Nat)(st:Nat->S)(h0:st 0=s0)(hn:n<18446744073709551615)(hs:∀k,k<n->body (st k)=some (.inl (st (k+1))))(he:body (st n)=some (.inr o)):iter body s0=some o:=by
 have key:∀j,j<=n->∀m,cC body (m+1+j) (st (n -j))=some o:=by
  intro j
  induction j with
  |zero=>grind [cC]
  |succ j ih=>grind [cC]
 have:=key n (Nat.le_refl n) (18446744073709551616 -1 -n)
 rw[Nat.sub_self,h0,show 18446744073709551616 -1 -n+1+n=18446744073709551616 by omega]at this
 exact this
def Dg{A O:Type}{body:A×Int->Option ((A×Int)⊕O)}{a0:A}{o:O}(n:Nat)(acc:Nat->A)(h0:acc 0=a0)(hn:n<4611686018427387904)(hs:∀k,k<n->body (acc k,(k:Int))=some (.inl (acc (k+1),aC ((k:Int)+1))))(he:body (acc n,(n:Int))=some (.inr o)):iter body (a0,0)=some o:=
 od n (fun k=>(acc k,k)) A_ AT (fun k hk=>by grind [an]) he
def oP{O:Type}{body:Int->Option (Int⊕O)}{o:O}(n:Nat)(hn:n<4611686018427387904)(hs:∀k,k<n->body (k:Int)=some (.inl (aC ((k:Int)+1))))(he:body (n:Int)=some (.inr o)):iter body 0=some o:=
 od n (fun k=>k) rfl AT (fun k hk=>by grind [an]) he
def e7{α β:Type}{o:Option α}{a:α}{K:α->Option β}{r:Option β}(h:o=some a)(k:K a=r):jn o K=r:=H_
def ah{α β:Type}{o:Option α}{a:α}{K:α->Option β}{r:Option β}(h:o=some a)(k:K a=r):aQ o K=r:=H_
def dT{X Y α:Type}{o:Option (X⊕Y)}{z:X⊕Y}{F:X->Option α}{G:Y->Option α}{r:Option α}(h:o=some z)(k:(match z with|.inl a=>F a|.inr b=>G b)=r):yx o F G=r:=by
 rw[h]
 cases z<;>exact k
def rR{X Y α:Type}{o:Option (X⊕Y)}{z:X⊕Y}{F:X->Option α}{G:Y->Option α}{r:Option α}(h:o=some z)(k:(match z with|.inl a=>F a|.inr b=>G b)=r):nE o F G=r:=by
 rw[h]
 cases z<;>exact k
def aA{α:Type}{c:Prop}[Decidable c]{o r:Option α}(h:c)(k:o=r):a8 c o=r:=H_
def aM{α:Type}{c:Prop}[Decidable c]{a b r:α}(h:c)(k:a=r):(if c then a else b)=r:=A_
def al{α:Type}{c:Prop}[Decidable c]{a b r:α}(h:¬c)(k:b=r):(if c then a else b)=r:=A_
inductive Hv{S O:Type}(body:S->Option (S⊕O)):Nat->S->O->Prop
 |stop {m:Nat} {s:S} {o:O} (h:body s=some (.inr o)):Hv body (m+1) s o
 |step {m:Nat} {s t:S} {o:O} (h:body s=some (.inl t)) (k:Hv body m t o):Hv body (m+1) s o
theorem Hv.cC{S O:Type}{body:S->Option (S⊕O)}{m:Nat}{s:S}{o:O}(h:Hv body m s o):∀n,m<=n->cC body n s=some o:=by
 induction h with
 |stop h=>
  intro n hn
  obtain⟨k,rfl⟩:∃k,n=k+1:=⟨n -1,AT⟩
  grind [AB.cC]
 |step h _ ih=>
  intro n hn
  obtain⟨k,rfl⟩:∃k,n=k+1:=⟨n -1,AT⟩
  grind [AB.cC]
theorem Hv.iter{S O:Type}{body:S->Option (S⊕O)}{m:Nat}{s:S}{o:O}(h:Hv body m s o)(hm:m<=18446744073709551616):iter body s=some o:=h.cC _ hm
end Go.AB
end
section
set_option linter.unusedSectionVars false
namespace Go.AB
open Go
section
variable{α:Type}[aP α]
def Rv(l:List α)(i j:Int):List α:=(l.set i.toNat (ix l j)).set j.toNat (ix l i)
theorem YV(l:List α)(i j:Int):(Rv l i j).length=l.length:=by grind [Rv,List.length_set]
theorem abI{P S:List α}(x:α):ix (P++x::S) ((P.length:Nat):Int)=x:=by grind [gr]
theorem Yo{P S:List α}(x y:α):(P++x::S).set P.length y=P++y::S:=BY
def JI(P M S:List α)(x y:α):Rv (P++x::M++y::S) ((P.length:Nat):Int) (((P.length+1+M.length:Nat)):Int)=P++y::M++x::S:=by
 have l2:∀z,(P++z::M).length=P.length+1+M.length:=fun z=>A_
 grind [Rv,Int.toNat_natCast,ix,abI,Yo]
def y8(l:List α)(a b:Nat):Nat->List α
 |0=>l
 |k+1=>Rv (y8 l a b k) ((a+k:Nat):Int) ((b+k:Nat):Int)
def Hk(l:List α)(a b:Nat):∀k,(y8 l a b k).length=l.length
 |0=>rfl
 |k+1=>by rw[y8,YV];exact Hk l a b k
def Hj(P M S:List α):∀(k:Nat)(A B A' B':List α),A.length=k->B.length=k->A'.length=B'.length->y8 (P++(A++A')++M++(B++B')++S) P.length (P.length+(A++A').length+M.length) k=P++(B++A')++M++(A++B')++S
 |0,A,B,A',B',h1,h2,_=>by
  obtain rfl:A=[]:=List.eq_nil_of_length_eq_zero h1
  obtain rfl:B=[]:=List.eq_nil_of_length_eq_zero h2
  simp[y8]
 |k+1,A,B,A',B',h1,h2,h'=>by
  obtain⟨A,x,rfl⟩:∃A0 x,A=A0++[x]:=by
   rcases List.eq_nil_or_concat A with rfl|⟨A0,x,rfl⟩
   ·simp at h1
   grind
  obtain⟨B,y,rfl⟩:∃B0 y,B=B0++[y]:=by
   rcases List.eq_nil_or_concat B with rfl|⟨B0,y,rfl⟩
   ·simp at h2
   grind
  have l1:=S_
  have l2:=U_
  have hi:=Hj P M S k A B (x::A') (y::B') l1 l2 A_
  have e:P++((A++[x])++A')++M++((B++[y])++B')++S=P++(A++(x::A'))++M++(B++(y::B'))++S:=BY
  rw[y8,e,show((A++[x])++A').length=(A++(x::A')).length by simp,hi]
  have sw:=JI (P++B) (A'++M++A) (B'++S) x y
  rw[show P.length+k=(P++B).length by simp[l2],show P.length+(A++x::A').length+M.length+k=(P++B).length+1+(A'++M++A).length by simp;omega]
  have e2:P++(B++x::A')++M++(A++y::B')++S=P++B++x::(A'++M++A)++y::(B'++S):=BY
  rw[e2,sw]
  simp
def Ao(P A M B S:List α)(h:A.length=B.length):y8 (P++A++M++B++S) P.length (P.length+A.length+M.length) A.length=P++B++M++A++S:=by
 have:=Hj P M S A.length A B [] [] rfl h.symm rfl
 grind
end
end Go.AB
end
section
set_option linter.unusedSectionVars false
namespace Go.AB
open Go
structure TP{α:Type}(lt:α->α->Bool):Prop where
 V9:∀x y,lt x y=true->lt y x=false
 tr:∀x y z,lt y x=false->lt z y=false->lt z x=false
section
variable{α:Type}(lt:α->α->Bool)
def jT(l:List α):Prop:=l.Pairwise fun x y=>lt y x=false
variable{lt}
theorem jT.app{A B:List α}:jT lt (A++B)↔jT lt A/\jT lt B/\∀a∈A,∀b∈B,lt b a=false:=List.pairwise_append
def jT.one(x:α):jT lt [x]:=List.pairwise_singleton _ _
theorem TP.last(h:TP lt){A:List α}(hA:jT lt A){u v:α}(hu:A.getLast?=some u)(hv:v∈A):lt u v=false:=by
 obtain⟨A,rfl⟩:=List.getLast?_eq_some_iff.1 hu
 rcases List.mem_append.1 hv with hv|hv
 ·grind [jT.app]
 ·have:v=u:=A_
  subst this
  cases e:lt v v with
  |false=>rfl
  |true=>rw[<-e];exact h.V9 v v e
theorem TP.head(h:TP lt){A:List α}(hA:jT lt A){u v:α}(hu:A.head?=some u)(hv:v∈A):lt v u=false:=by
 cases A with
 |nil=>cases hu
 |cons a A=>
  cases hu
  rcases List.mem_cons.1 hv with rfl|hv
  ·cases e:lt v v with
   |false=>rfl
   |true=>rw[<-e];exact h.V9 v v e
  ·exact(List.pairwise_cons.1 hA).1 v hv
def TP.OL(h:TP lt){A B:List α}(hA:jT lt A)(hB:jT lt B)(hab:∀u v,A.getLast?=some u->B.head?=some v->lt v u=false):∀a∈A,∀b∈B,lt b a=false:=fun a ha b hb=>by
 cases eA:A.getLast? with
 |none=>grind
 |some u=>
  cases eB:B.head? with
  |none=>simp_all
  |some v=>exact h.tr _ _ _ (h.tr _ _ _ (h.last hA eA ha) (hab u v eA eB)) (h.head hB eB hb)
theorem TP.put(h:TP lt){A B:List α}{x:α}(hs:jT lt (A++B))(h1:∀u,A.getLast?=some u->lt x u=false)(h2:∀v,B.head?=some v->lt v x=false):jT lt (A++x::B):=by
 obtain⟨hA,hB,hc⟩:=jT.app.1 hs
 have c1:=h.OL hA (jT.one x) (fun u v hu hv=>A_)
 have c2:=h.OL (jT.one x) hB (fun u v hu hv=>A_)
 refine jT.app.2 ⟨hA,List.pairwise_cons.2 ⟨fun b hb=>c2 x BY b hb,hB⟩,fun a ha b hb=>?_⟩
 grind
def TP.abi(h:TP lt){A B C D U V:List α}(h1:jT lt (A++B))(h2:jT lt (C++D))(hAD:∀u v,A.getLast?=some u->D.head?=some v->lt v u=false)(hCB:∀u v,C.getLast?=some u->B.head?=some v->lt v u=false)
 (hU:U.Perm (A++C))(hV:V.Perm (B++D))(sU:jT lt U)(sV:jT lt V):(U++V).Perm ((A++B)++(C++D))/\jT lt (U++V):=by
 obtain⟨a1,a2,a3⟩:=jT.app.1 h1
 obtain⟨b1,b2,b3⟩:=jT.app.1 h2
 have k1:=h.OL a1 b2 hAD
 have k2:=h.OL b1 a2 hCB
 refine⟨(hU.append hV).trans ?_,jT.app.2 ⟨sU,sV,fun a ha b hb=>?_⟩⟩
 ·grind [List.append_assoc,List.Perm.append_left,List.Perm.append_right,List.perm_append_comm]
 grind
end
theorem oz(a b:UInt8)(x y:List UInt8):Op.bytesLess (a::x) (b::y)=(decide (a<b)||(a==b&&Op.bytesLess x y)):=rfl
def rS:TP Op.bytesLess:=by
 refine⟨fun x=>?_,fun x=>?_⟩
 ·induction x with
  |nil=>intro y h;cases y with
   |nil=>rfl
   |cons b y=>rfl
  |cons a x ih=>
   intro y h
   cases y with
   |nil=>cases h
   |cons b y=>
    rw[oz]at h⊢
    grind
 ·induction x with
  |nil=>intro y z h1 h2;cases z with
   |nil=>rfl
   |cons c z=>cases y with
    |nil=>exact h2
    |cons b y=>rfl
  |cons a x ih=>
   intro y z h1 h2
   cases y with
   |nil=>cases h1
   |cons b y=>
    cases z with
    |nil=>cases h2
    |cons c z=>
     rw[oz]at h1 h2⊢
     grind
section
variable{α:Type}[aP α]
theorem VK(l:List α){i j:Int}(h:i.toNat≠j.toNat):Rv l i j=Rv l j i:=by grind [Rv,List.set_comm]
def Uf(P T Y:List α)(x:α){k:Nat}(hk:k<Y.length):Rv (P++(Y.take k++x::Y.drop k)++T) ((P.length+k:Nat):Int) ((P.length+k+1:Nat):Int)=P++(Y.take (k+1)++x::Y.drop (k+1))++T:=by
 have e1:=List.drop_eq_getElem_cons hk
 have:=JI (P++Y.take k) [] (Y.drop (k+1)++T) x Y[k]
 grind
def Pn(P T Y:List α)(x:α){k:Nat}(hk:k<Y.length):Rv (P++(Y.take (k+1)++x::Y.drop (k+1))++T) ((P.length+k+1:Nat):Int) ((P.length+k:Nat):Int)=P++(Y.take k++x::Y.drop k)++T:=by
 have e1:=List.drop_eq_getElem_cons hk
 have e2:Y.take (k+1)=Y.take k++[Y[k]]:=BY
 have lk:(P++Y.take k).length=P.length+k:=A_
 have:=JI (P++Y.take k) [] (Y.drop (k+1)++T) Y[k] x
 rw[VK _ A_,e1]
 grind
def uQ{Y:List α}{k:Nat}{u:α}(hk:k<=Y.length)(h:(Y.take k).getLast?=some u):0<k/\∃h:k -1<Y.length,u=Y[k -1]:=A_
def head_drop{Y:List α}{k:Nat}{v:α}(h:(Y.drop k).head?=some v):∃h:k<Y.length,v=Y[k]:=by grind [List.head?_drop,List.getElem?_eq_some_iff]
def j9(P X T:List α){k:Nat}(hk:k<X.length):ix (P++X++T) ((P.length+k:Nat):Int)=X[k]:=by
 rw[gr A_]
 grind
end
end Go.AB
end
section
namespace Go.AB
open Go
def iY{P:Program}{live:List (Nat×Bool)}{b:IC}{Q:Exit->St->Prop}{E:St}(n:Nat)(R:Nat->St->Prop)(hn:n<4611686018427387904)(h0:R 0 (E.fu live))
 (h1:∀k,k<n->∀(J:St->Prop)(τ:St),R k τ->(∀U',R (k+1) U'->J U')->fW P b (pK live J Q) τ)(h2:∀(J:St->Prop)(τ:St),R n τ->fW P b (pK live J Q) τ):fW P (.loop live b) Q E:=by
 refine lM (body:=fun k:Nat=>if k<n then some (.inl (k+1))else some (.inr ())) (s0:=0) (kf:=fun _=>True) (fun k τ=>k<=n/\R k τ) ⟨Nat.zero_le _,h0⟩ ?_ ⟨(),od n (fun k=>k) rfl AT (fun k hk=>if_pos hk) (if_neg (Nat.lt_irrefl _)),trivial⟩
 rintro J k τ ⟨hk,hR⟩ hb
 by_cases hlt:k<n
 ·rw[if_pos hlt,bJ]at hb
  exact h1 k hlt J τ hR fun U' h'=>hb U' ⟨hlt,h'⟩
 ·obtain rfl:k=n:=AT
  exact h2 J τ hR
def ahn{α:Type}[aP α](l:List α)(sp:List AV){n:Nat}(hn:n=aP.w α){j:Int}(h0:0<=j)(h:j<l.length):j.toNat*n+n<=(flat l++sp).length/\views (AB.sub (flat l++sp) (j.toNat*n) n)=aP.cells (ix l j):=by
 subst hn
 have hj:j.toNat<l.length:=AT
 have hs:=ik l sp (aP.w α) j.toNat 1 rfl AT
 refine⟨?_,?_⟩
 ·rw[List.length_append,ax]
  have:(j.toNat+1)*aP.w α<=l.length*aP.w α:=Nat.mul_le_mul_right _ AT
  rw[Nat.add_mul,Nat.one_mul]at this
  omega
 ·rw[Nat.one_mul]at hs
  rw[hs,List.drop_eq_getElem_cons hj]
  have:ix l j=l[j.toNat]:=by unfold ix;simp[hj]
  rw[this]
  show views (flat [l[j.toNat]])=_
  rw[aH]
  unfold flat
  simp
def akE{α:Type}[aP α](l:List α)(sp:List AV){n:Nat}(hn:n=aP.w α)(x:α){j:Int}(h0:0<=j)(h:j<l.length):setAt (flat l++sp) (j.toNat*n) (aP.cells x)=flat (l.set j.toNat x)++sp:=by
 have hj:j.toNat<l.length:=AT
 have hs:=jz l [x] sp n j.toNat hn C3
 have e:flat [x]=aP.cells x:=ω
 rw[e]at hs
 rw[hs,List.set_eq_take_append_cons_drop,if_pos hj]
 simp
def Ha{α:Type}[aP α](l:List α){n:Nat}(hn:n=aP.w α){j:Int}(h0:0<=j)(h:j<l.length):j.toNat*n+n<=(flat l).length/\views (AB.sub (flat l) (j.toNat*n) n)=aP.cells (ix l j):=by
 have:=ahn l [] hn h0 h
 rwa[List.append_nil]at this
def LZ{α:Type}[aP α](l:List α){n:Nat}(hn:n=aP.w α)(x:α){j:Int}(h0:0<=j)(h:j<l.length):setAt (flat l) (j.toNat*n) (aP.cells x)=flat (l.set j.toNat x):=by
 have:=akE l [] hn x h0 h
 rwa[List.append_nil,List.append_nil]at this
def Wi(pre cs post:List AV):List AV:=pre++cs++post
@[go_sem]theorem ah3(c:AV)(cs r:List AV):Wi [] (c::cs) r=c::Wi [] cs r:=rfl
@[go_sem]theorem ai7(r:List AV):Wi [] [] r=r:=rfl
@[go_sem]theorem ah4(p cs r:List AV)(a:AV):Wi p cs (a::r)=Wi p (cs++[a]) r:=by simp[Wi]
theorem Mr(p cs r:List AV):(Wi p cs r).length=p.length+cs.length+r.length:=by simp[Wi];omega
@[go_sem]theorem akW(p cs r:List AV)(k n:Nat)(h:k+n<=cs.length):(p.length+k+n<=(Wi p cs r).length)=True:=by rw[Mr];exact eq_true AT
@[go_sem]theorem ai6(p cs r:List AV)(n:Nat)(h:n<=cs.length):(p.length+n<=(Wi p cs r).length)=True:=by rw[Mr];exact eq_true AT
@[go_sem]theorem adj(p cs r:List AV)(k n:Nat)(h:k+n<=cs.length):AB.sub (Wi p cs r) (p.length+k) n=AB.sub cs k n:=by
  unfold AB.sub Wi
  rw[List.append_assoc,<-List.drop_drop,List.drop_left,List.drop_append_of_le_length AT,List.take_append_of_le_length P_]
@[go_sem]theorem aiU(p cs r:List AV)(n:Nat)(h:n<=cs.length):AB.sub (Wi p cs r) p.length n=AB.sub cs 0 n:=adj p cs r 0 n AT
theorem Ah(p cs r:List AV)(k:Nat)(news:List AV)(h:k+news.length<=cs.length):setAt (Wi p cs r) (p.length+k) news=Wi p (setAt cs k news) r:=by
 unfold setAt Wi
 have e1:(p++cs++r).take (p.length+k)=p++cs.take k:=by rw[List.append_assoc,List.take_append,List.take_of_length_le AT,Nat.add_sub_cancel_left,List.take_append_of_le_length AT]
 have e2:(p++cs++r).drop (p.length+k+news.length)=cs.drop (k+news.length)++r:=by rw[List.append_assoc,Nat.add_assoc,<-List.drop_drop,List.drop_left,List.drop_append_of_le_length h]
 rw[e1,e2]
 simp[List.append_assoc]
@[go_sem]theorem Vb(p cs r:List AV)(k:Nat)(news:List AV)(h:k+news.length<=cs.length):setAt (Wi p cs r) (p.length+k) news=Wi p (setAt cs k news) r:=Ah p cs r k news h
theorem Ic(p cs r:List AV)(k:Nat)(h:k<cs.length):(Wi p cs r)[p.length+k]? =cs[k]? :=by
 unfold Wi
 rw[List.append_assoc,List.getElem?_append_right AT,Nat.add_sub_cancel_left,List.getElem?_append_left h]
@[go_sem]theorem abe(p cs r:List AV)(k:Nat)(h:k<cs.length):(Wi p cs r)[p.length+k]? =cs[k]? :=Ic p cs r k h
@[go_sem]theorem WL(p cs r:List AV)(h:0<cs.length):(Wi p cs r)[p.length]? =cs[0]? :=Ic p cs r 0 h
def Rr(p cs r:List AV)(k:Nat)(K:List AV->AV->Prop)(h:k<cs.length):kA (p.length+k) (Wi p cs r) K=kA k cs fun cs' a=>K (Wi p cs' r) a:=by
 unfold kA
 rw[Ic p cs r k h]
 cases cs[k]? with
 |none=>rfl
 |some a=>
  cases a<;>try rfl
  ·rename_i o sz n ds
   show K (setAt (Wi p cs r) (p.length+k) [.sl false sz n ds]) _=K (Wi p (setAt cs k [.sl false sz n ds]) r) _
   rw[Ah p cs r k [.sl false sz n ds] (show k+1<=cs.length by omega)]
  ·rename_i tb m es
   show K (setAt (Wi p cs r) (p.length+k) [.sl false 1 m es]) _=K (Wi p (setAt cs k [.sl false 1 m es]) r) _
   rw[Ah p cs r k [.sl false 1 m es] (show k+1<=cs.length by omega)]
@[go_sem]theorem Vm(p cs r:List AV)(k:Nat)(K:List AV->AV->Prop)(h:k<cs.length):kA (p.length+k) (Wi p cs r) K=kA k cs fun cs' a=>K (Wi p cs' r) a:=Rr p cs r k K h
def I9{k:IntKind}{a b:Int}(h:0<=a):0<=lz k a b/\lz k a b<=a:=by
 unfold lz
 have hp:(0:Int)<2^(min b.toNat k.bits):=Int.pow_pos By
 rw[Int.fdiv_eq_ediv_of_nonneg _ (Int.le_of_lt hp)]
 exact⟨Int.ediv_nonneg h (Int.le_of_lt hp),Int.ediv_le_self _ h⟩
def Vu{n:Int}(h0:0<=n)(h1:n<256):((ju n).toNat:Int)=n:=by
 unfold ju
 have e:IntKind.u8.wrap n=n:=by
  show n.emod 256=n
  exact Int.emod_eq_of_lt h0 h1
 rw[e]
 show((UInt8.ofNat n.toNat).toNat:Int)=n
 rw[UInt8.toNat_ofNat']
 omega
def YJ{n:Int}(h0:0<=n)(h1:n<4294967296):((eC n).toNat:Int)=n:=by
 unfold eC
 have e:IntKind.u32.wrap n=n:=by
  show n.emod 4294967296=n
  exact Int.emod_eq_of_lt h0 h1
 rw[e]
 show((UInt32.ofNat n.toNat).toNat:Int)=n
 rw[UInt32.toNat_ofNat']
 omega
@[go_sem]theorem ame(x:UInt8)(k:Int):((ju (lz .u8 (x.toNat:Int) k)).toNat:Int)=lz .u8 (x.toNat:Int) k:=by
  have:=I9 (k:=.u8) (a:=(x.toNat:Int)) (b:=k) AT
  have:=x.toNat_lt
  exact Vu AT AT
@[go_sem]theorem ahv(k:Int):((ju (lz .u8 128 k)).toNat:Int)=lz .u8 128 k:=by
  have:=I9 (k:=.u8) (a:=128) (b:=k) AT
  exact Vu AT AT
@[go_sem]theorem aly(x:UInt32)(k:Int):((eC (lz .u32 (x.toNat:Int) k)).toNat:Int)=lz .u32 (x.toNat:Int) k:=by
  have:=I9 (k:=.u32) (a:=(x.toNat:Int)) (b:=k) AT
  have:=x.toNat_lt
  exact YJ AT AT
attribute[go_sem] Nat.add_zero
@[go_sem]theorem cF{α:Type}(l:List α)(hi:Int):part l 0 hi=l.take hi.toNat:=by
  unfold part
  rw[Int.toNat_zero,List.drop_zero,Int.sub_zero]
@[go_sem]theorem agl(n:Nat):((6:Int)<=((n+6:Nat):Int))=True:=eq_true AT
@[go_sem]theorem ajq(l:List UInt8):l.getD 0 0=ix l 0:=rfl
@[go_sem]theorem mO:((0:Int)<=0)=True:=eq_true By
@[go_sem]theorem alM:((0:Int)<=1)=True:=eq_true By
@[go_sem]theorem alN:((0:Int)<=2)=True:=eq_true By
@[go_sem]theorem alO:((0:Int)<=3)=True:=eq_true By
@[go_sem]theorem alP:((0:Int)<=4)=True:=eq_true By
@[go_sem]theorem alQ:((0:Int)<=6)=True:=eq_true By
@[go_sem]theorem alR:((0:Int)<=8)=True:=eq_true By
@[go_sem]theorem ak9:((0:Int)<=16)=True:=eq_true By
@[go_sem]theorem ala:((0:Int)<=24)=True:=eq_true By
structure Ba where
 used:Bool
 own:Bool
 buf:aO
def Ba.zero:Ba:=⟨false,true,⟨[]⟩⟩
def zj(T B o:Nat)(b:Ba):AV:=bif b.used then .ref B o else .oy T
def wM(b:Ba):AV:=bif b.own then .bb 5 b.buf.b.length (flat b.buf.b)else .sl false 1 b.buf.b.length (flat b.buf.b)
@[go_sem]theorem adF(T B o:Nat):zj T B o Ba.zero=.oy T:=rfl
@[go_sem]theorem adG:wM Ba.zero=.bb 5 0 []:=rfl
@[go_sem]theorem afw(ne:Bool)(vs:List AV):Kx ne (.jg vs)=.no:=rfl
structure V5 where
instance:aP V5:=⟨1,fun _=>[.ml],.mk,By,fun _=>rfl,fun _=>rfl⟩
end Go.AB
end
