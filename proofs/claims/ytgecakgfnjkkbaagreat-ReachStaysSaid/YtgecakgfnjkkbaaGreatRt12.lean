/- A part. -/
import Derived.Defers
import Derived.Test.YtgecakgfnjkkbaaGreatRt10
set_option linter.defProp false
set_option linter.unusedSimpArgs false
set_option linter.unusedVariables false
section
namespace Go.AB
open Go
section
variable{P:Program}{n:Nat}
def FND(P:Program)(f:FuncId)(args:List AV)(s:ae)(Q:List AV->ae->Prop):Prop:=
 ∀(G:Gh)(w:World)(vs:Array Value)(u:FrameMode),cq G w->xI G->ba G w s->k8 w G.R args vs->
  CallsD P f vs u w fun e u' w'=>u'=u/\∃v rs s' G',e=.returned v/\Q rs s'/\cq G' w'/\ba G' w' s'/\nt G' w' rs v/\aI G w G' w'
theorem FND.of{f:FuncId}{res:List jr}{ic:IC}{args:List AV}{s:ae}{Q:List AV->ae->Prop}(hD:wE P n)(hf:ey P f n res ic=true)(hv:rL args=true)(hn:args.length<=n)
 (hw:fY P ic (xu res Q) (start args s)):FND P f args s Q:=by
 intro G w vs u hg ho hs ha
 unfold ey at hf
 split at hf<;>try(cases hf;done)
 rename_i fn hfn
 simp only[Bool.and_eq_true,beq_iff_eq]at hf
 obtain⟨⟨rfl,oc⟩,hf⟩:=hf
 split at hf<;>try(cases hf;done)
 rename_i c hb
 refine callsD_of_wp hfn hb (cU hD ic c G w (xu res Q) _ G _ _ w hf ?_ (ry hg hs ha hv hn) (aI.refl G w) hw)
 intro x G' E' a' w' h hp hq
 have fin:rL (lq E' res)=true/\Q (lq E' res) E'.s->a'.defers=[]/\∃v,(results fn a'.tmps).run P w'=.ok v w'/\∃v' rs s' G'',Ending.returned v=.returned v'/\Q rs s'/\cq G'' w'/\ba G'' w' s'/\nt G'' w' rs v'/\aI G w G'' w':=by
  intro hq
  obtain⟨ee,hQ⟩:=hq
  exact⟨h.qL,Ck oc h hp ee hQ⟩
 cases x with
 |ret=>exact fin hq
 |normal=>exact fin hq
 |_=>exact hq.elim
def O1:List Operand->List Nat->Bool
 |[],[]=>true
 |.tmp t::r,y::ys=>t==y&&O1 r ys
 |_,_=>false
def aac(g:Nat)(ys:List Nat):Code->Bool
 |.region _ ops false=>match ops.toList with
  |[⟨none,.defer ⟨.value (.func g'),args,_⟩,_,_,_,none⟩]=>g'==g&&O1 args.toList ys
  |_=>false
 |_=>false
def TF(P:Program)(f:FuncId)(n:Nat)(res:List jr)(ic1:IC)(g:Nat)(ys:List Nat)(ic2:IC):Bool:=match P.funcs[f]? with
 |some fn=>fn.ntmps==n&&ln P fn.results.toList res&&(match fn.body with
  |some (.seq c1 (.seq cd c2))=>lZ P n c1 ic1&&(aac g ys cd&&(lZ P n c2 ic2&&sQ P g))
  |_=>false)
 |none=>false
def CQ(bs:List Nat):List AV:=bs.map fun b=>.ref b 0
theorem CL{G:Gh}{D:List Deferred}{E:St}{a:Act}{w:World}(h:Inv G n D E a w):∀(os:List Operand)(ys bs:List Nat),O1 os ys=true->ys.map (look E.e)=CQ bs->os.map a.eval=bs.map fun b=>Value.pointer (some ⟨b,0,none⟩)
 |[],[],bs,_,hb=>by
  cases bs with
  |nil=>rfl
  |cons b bs=>cases hb
 |.tmp t::os,y::ys,bs,hc,hb=>by
  cases bs with
  |nil=>cases hb
  |cons b bs=>
   simp only[O1,Bool.and_eq_true,beq_iff_eq]at hc
   obtain⟨rfl,hc⟩:=hc
   rw[List.map_cons]at hb
   injection hb with h1 h2
   rw[List.map_cons,List.map_cons,CL h os ys bs hc h2]
   congr 1
   have hx:bN (.tmp t) (.t t)=true:=by simp[bN]
   have hb:=BR.aQ h hx
   have e:xg true E (.t t)=.ref b 0:=by
    show vi true (look E.e t)=_
    rw[h1];rfl
   rw[e]at hb
   have hv:VR w G.R (.ref b 0) (a.eval (.tmp t)):=hb
   generalize a.eval (.tmp t)=v at hv
   cases hv
   rfl
 |[],_::_,_,hc,_=>by cases hc
 |.tmp _::_,[],_,hc,_=>by cases hc
 |.const _::_,_,_,hc,_=>by cases hc
 |.global _::_,_,_,hc,_=>by cases hc
 |.func _::_,_,_,hc,_=>by cases hc
def YX(P:Program)(g:Nat)(bs:List Nat)(res:List jr)(Q:List AV->ae->Prop):Exit->St->Prop
 |.ret,E=>FND P g (CQ bs) E.s fun rs s'=>ko rs=true/\rL (lq {E with s:=s'} res)=true/\Q (lq {E with s:=s'} res) s'
 |_,_=>False
def FN.ofD{f:FuncId}{res:List jr}{ic1 ic2:IC}{g:Nat}{ys:List Nat}{args:List AV}{s:ae}{Q:List AV->ae->Prop}(hD:wE P n)(hf:TF P f n res ic1 g ys ic2=true)(hv:rL args=true)(hn:args.length<=n)
 (hw:fY P ic1 (fun x E=>x=.normal/\∃bs,ys.map (look E.e)=CQ bs/\fY P ic2 (YX P g bs res Q) E) (start args s)):FN P f args s Q:=by
 intro G w vs hg ho hs ha
 unfold TF at hf
 split at hf<;>try(cases hf;done)
 rename_i fn hfn
 simp only[Bool.and_eq_true,beq_iff_eq]at hf
 obtain⟨⟨rfl,oc⟩,hf⟩:=hf
 split at hf<;>try(cases hf;done)
 rename_i c1 cd c2 hb
 simp only[Bool.and_eq_true]at hf
 obtain⟨k1,kd,k2,kg⟩:=hf
 refine calls_of_wp_defers hfn hb (wp_seq (cU hD ic1 c1 G w (fun x E=>x=.normal/\∃bs,ys.map (look E.e)=CQ bs/\fY P ic2 (YX P g bs res Q) E) _ G _ _ w k1 ?_ (ry hg hs ha hv hn) (aI.refl G w) hw))
 rintro x G1 σ1 a1 w1 h1 hp1 ⟨rfl,bs,hbs,hw2⟩
 show(Code.seq cd c2).wp P _ a1 w1
 refine wp_seq ?_
 unfold aac at kd
 split at kd<;>try(cases kd;done)
 rename_i id ops
 split at kd<;>try(cases kd;done)
 rename_i g' aab aj1 dty aj0 ajY aku
 simp only[Bool.and_eq_true,beq_iff_eq]at kd
 obtain⟨rfl,kd⟩:=kd
 have hev:=CL h1 _ _ _ kd hbs
 let d:Deferred:={target:=.fn (.func g') #[],args:=(bs.map fun b=>Value.pointer (some ⟨b,0,none⟩)).toArray}
 refine wp_region_list ?_
 rw[aku]
 show BM P ops _ a1 w1 _ _
 refine DF (by simp[Region.wanted]) ?_
 have bU:(execOp a1.eval {dst:=none,op:=.defer {callee:=.value (.func g'),args:=aab,argTypes:=aj1},type:=dty,pos:=aj0,after:=ajY,guard:=none}).run P w1=.ok (.defer d) w1:=by
  have e2:aab.map a1.eval=(bs.map fun b=>Value.pointer (some ⟨b,0,none⟩)).toArray:=by
   apply Array.ext'
   simp[hev]
  simp[execOp,resolve,Act.eval,Deferred.ofValue,e2,d]
 unfold Oper.wp
 rw[bU]
 have h1':Inv G1 fn.ntmps [d] σ1 {a1 with defers:=[d]} w1:=⟨h1.bc,h1.store,h1.size,h1.cH,h1.E6,h1.MG,rfl⟩
 show c2.wp P _ {a1 with defers:=d::a1.defers} w1
 rw[h1.qL]
 refine cU hD ic2 c2 G w (YX P g' bs res Q) _ G1 σ1 _ w1 k2 ?_ h1' hp1 hw2
 intro x G2 σ2 a2 w2 h2 hp2 hq
 cases x with
 |ret=>
  show Leaves P fn a2.tmps _ a2.defers .returning w2
  rw[h2.qL]
  unfold sQ at kg
  split at kg<;>try(cases kg;done)
  rename_i gfn hgf
  rw[Bool.and_eq_true]at kg
  refine leaves_cons BY (f:=g') (args:=(bs.map fun b=>Value.pointer (some ⟨b,0,none⟩)).toArray) (by simp[invoke,lT hgf kg.1 kg.2]) ?_
  have K3:k8 w2 G2.outer.R (CQ bs) (bs.map fun b=>Value.pointer (some ⟨b,0,none⟩)).toArray:=by
   refine⟨by simp[CQ],fun j c u hc hu=>?_⟩
   unfold CQ at hc
   rw[List.getElem?_map]at hc
   rw[List.getElem?_toArray,List.getElem?_map]at hu
   cases hj:bs[j]? with
   |none=>rw[hj]at hc;cases hc
   |some b=>
    rw[hj]at hc hu
    injection hc with hc;injection hu with hu
    subst hc hu
    exact .ref b 0
  refine CallsD.mono (hq G2.outer w2 _ .returning h2.mA.1 (p9 G2) h2.mA.2 K3) ?_
  rintro e u' w3 ⟨rfl,v,rs,s',G3,rfl,⟨hok,ee,hQ⟩,hg3,hs3,hr3,hp3⟩
  obtain⟨G4,h4,hp4⟩:=h2.behind (d:=none) rfl hok hg3 hs3 hr3 hp3
  exact Ck oc h4 (hp2.trans hp4) ee hQ
 |_=>exact hq.elim
end
@[go_sem]abbrev sF{α:Type}[aO α](n:Nat)(l:List α):AV:=.sl false n l.length (flat l)
@[go_sem]abbrev sT{α:Type}[aO α](n:Nat)(l:List α):AV:=.sl true n l.length (flat l)
def GZ{S O:Type}{body:S->Option (S⊕O)}(I:S->Prop)(μ:S->Nat)(MM:O->Prop)
 (step:∀s,I s->∃x,body s=some x/\(match x with|.inl t=>I t/\μ t<μ s|.inr o=>MM o)):∀(n:Nat)(s:S),I s->μ s<n->∃o,cD body n s=some o/\MM o
 |0,_,_,h=>absurd h (Nat.not_lt_zero _)
 |n+1,s,hi,hn=>by
  obtain⟨x,hx,h⟩:=step s hi
  cases x with
  |inl t=>
   obtain⟨o,h1,h2⟩:=GZ I μ MM step n t h.1 A_
   grind [cD]
  |inr o=>grind [cD]
def eh{S O:Type}{body:S->Option (S⊕O)}{s0:S}(I:S->Prop)(μ:S->Nat)(MM:O->Prop)(h0:I s0)(hμ:μ s0<18446744073709551616)
 (step:∀s,I s->∃x,body s=some x/\(match x with|.inl t=>I t/\μ t<μ s|.inr o=>MM o)):∃o,iter body s0=some o/\MM o:=
 GZ I μ MM step _ s0 h0 hμ
def iter_eq{S O:Type}{body:S->Option (S⊕O)}{s0:S}{o:O}(I:S->Prop)(μ:S->Nat)(h0:I s0)(hμ:μ s0<18446744073709551616)
 (step:∀s,I s->(∃t,body s=some (.inl t)/\I t/\μ t<μ s)\/body s=some (.inr o)):iter body s0=some o:=by
 obtain⟨p,h1,h2⟩:=eh I μ (fun p=>p=o) h0 hμ fun s hs=>by
  rcases step s hs with⟨t,h1,h2⟩|h1
  ·exact⟨_,h1,h2⟩
  grind
 rw[h1,h2]
theorem ao{n:Int}(h1:-9223372036854775808<=n)(h2:n<=9223372036854775807):aC n=n:=by
 unfold aC IntKind.wrap
 have:(2^IntKind.i64.bits)=18446744073709551616:=D_
 have h3:(2^(IntKind.i64.bits -1))=9223372036854775808:=D_
 simp[IntKind.signed,Bool.true_and]
 grind
@[simp]theorem aL{α β:Type}(a:α)(f:α->Option β):aZ (some a) f=f a:=rfl
@[simp]theorem afQ{α β:Type}(f:α->Option β):aZ none f=none:=rfl
@[simp]theorem I1{α β:Type}(a:α)(f:α->Option β):jn (some a) f=f a:=rfl
@[simp]theorem ai3{α β:Type}(f:α->Option β):jn none f=none:=rfl
@[simp]theorem ajR{X Y α:Type}(x:X)(F:X->Option α)(G:Y->Option α):nV (some (.inl x)) F G=F x:=rfl
@[simp]theorem ajS{X Y α:Type}(y:Y)(F:X->Option α)(G:Y->Option α):nV (some (.inr y)) F G=G y:=rfl
@[simp]theorem alY{X Y α:Type}(x:X)(F:X->Option α)(G:Y->Option α):zj (some (.inl x)) F G=F x:=rfl
@[simp]theorem alZ{X Y α:Type}(y:Y)(F:X->Option α)(G:Y->Option α):zj (some (.inr y)) F G=G y:=rfl
@[simp]theorem al0{α:Type}(o:Option α):jn o (fun a=>some a)=o:=by cases o<;>rfl
@[simp]theorem ajT{α:Type}(o:Option α):aZ o (fun a=>some a)=o:=by cases o<;>rfl
theorem bI{α:Type}{c:Prop}[Decidable c](h:c)(o:Option α):a8 c o=o:=if_pos h
@[simp]theorem Rk{α:Type}[Decidable True](o:Option α):a8 True o=o:=if_pos trivial
@[simp]theorem JX{α:Type}(z:α)(o:Option α):kc true z o=o:=rfl
@[simp]theorem Zy{α:Type}(z:α)(o:Option α):kc false z o=some z:=rfl
@[simp]theorem afW{A B C:Type}(f:A->C)(g:B->C)(a:A):jg f g (.inl a)=f a:=rfl
@[simp]theorem afX{A B C:Type}(f:A->C)(g:B->C)(b:B):jg f g (.inr b)=g b:=rfl
theorem Lt{α:Type}[aO α]{l:List α}{i:Int}(h:i.toNat<l.length):ix l i=l[i.toNat]:=by grind [ix,List.getElem?_eq_getElem]
theorem gh{α:Type}[aO α]{l:List α}{k:Nat}(h:k<l.length):ix l (k:Int)=l[k]:=by grind [Lt]
theorem UA{α:Type}[aO α]{l:List α}{k:Nat}{a:α}(h:l[k]? =some a):ix l (k:Int)=a:=by grind [ix]
def oE{S O:Type}{body:S->Option (S⊕O)}{s0:S}{o:O}(n:Nat)(st:Nat->S)(h0:st 0=s0)(hn:n<18446744073709551615)(hs:∀k,k<n->body (st k)=some (.inl (st (k+1))))(he:body (st n)=some (.inr o)):iter body s0=some o:=by
 have key:∀j,j<=n->∀m,cD body (m+1+j) (st (n -j))=some o:=by
  intro j
  induction j with
  |zero=>grind [cD]
  |succ j ih=>grind [cD]
 have:=key n (Nat.le_refl n) (18446744073709551616 -1 -n)
 rw[Nat.sub_self,h0,show 18446744073709551616 -1 -n+1+n=18446744073709551616 by omega]at this
 exact this
def Dr{A O:Type}{body:A×Int->Option ((A×Int)⊕O)}{a0:A}{o:O}(n:Nat)(acc:Nat->A)(h0:acc 0=a0)(hn:n<4611686018427387904)(hs:∀k,k<n->body (acc k,(k:Int))=some (.inl (acc (k+1),aC ((k:Int)+1))))(he:body (acc n,(n:Int))=some (.inr o)):iter body (a0,0)=some o:=
 oE n (fun k=>(acc k,k)) A_ AT (fun k hk=>by grind [ao]) he
def kA{O:Type}{body:Int->Option (Int⊕O)}{o:O}(n:Nat)(hn:n<4611686018427387904)(hs:∀k,k<n->body (k:Int)=some (.inl (aC ((k:Int)+1))))(he:body (n:Int)=some (.inr o)):iter body 0=some o:=
 oE n (fun k=>k) rfl AT (fun k hk=>by grind [ao]) he
def eJ{α β:Type}{o:Option α}{a:α}{K:α->Option β}{r:Option β}(h:o=some a)(k:K a=r):jn o K=r:=H_
def ah{α β:Type}{o:Option α}{a:α}{K:α->Option β}{r:Option β}(h:o=some a)(k:K a=r):aZ o K=r:=H_
def dm{X Y α:Type}{o:Option (X⊕Y)}{z:X⊕Y}{F:X->Option α}{G:Y->Option α}{r:Option α}(h:o=some z)(k:(match z with|.inl a=>F a|.inr b=>G b)=r):zj o F G=r:=by
 rw[h]
 cases z<;>exact k
def mN{X Y α:Type}{o:Option (X⊕Y)}{z:X⊕Y}{F:X->Option α}{G:Y->Option α}{r:Option α}(h:o=some z)(k:(match z with|.inl a=>F a|.inr b=>G b)=r):nV o F G=r:=by
 rw[h]
 cases z<;>exact k
def ay{α:Type}{c:Prop}[Decidable c]{o r:Option α}(h:c)(k:o=r):a8 c o=r:=H_
def aM{α:Type}{c:Prop}[Decidable c]{a b r:α}(h:c)(k:a=r):(if c then a else b)=r:=A_
def an{α:Type}{c:Prop}[Decidable c]{a b r:α}(h:¬c)(k:b=r):(if c then a else b)=r:=A_
inductive HX{S O:Type}(body:S->Option (S⊕O)):Nat->S->O->Prop
 |stop {m:Nat} {s:S} {o:O} (h:body s=some (.inr o)):HX body (m+1) s o
 |step {m:Nat} {s t:S} {o:O} (h:body s=some (.inl t)) (k:HX body m t o):HX body (m+1) s o
theorem HX.cD{S O:Type}{body:S->Option (S⊕O)}{m:Nat}{s:S}{o:O}(h:HX body m s o):∀n,m<=n->cD body n s=some o:=by
 induction h with
 |stop h=>
  intro n hn
  obtain⟨k,rfl⟩:∃k,n=k+1:=⟨n -1,AT⟩
  grind [AB.cD]
 |step h _ ih=>
  intro n hn
  obtain⟨k,rfl⟩:∃k,n=k+1:=⟨n -1,AT⟩
  grind [AB.cD]
theorem HX.iter{S O:Type}{body:S->Option (S⊕O)}{m:Nat}{s:S}{o:O}(h:HX body m s o)(hm:m<=18446744073709551616):iter body s=some o:=h.cD _ hm
end Go.AB
end
section
set_option linter.unusedSectionVars false
namespace Go.AB
open Go
section
variable{α:Type}[aO α]
def R9(l:List α)(i j:Int):List α:=(l.set i.toNat (ix l j)).set j.toNat (ix l i)
theorem ZC(l:List α)(i j:Int):(R9 l i j).length=l.length:=by grind [R9,List.length_set]
theorem acs{P S:List α}(x:α):ix (P++x::S) ((P.length:Nat):Int)=x:=by grind [gh]
theorem Y3{P S:List α}(x y:α):(P++x::S).set P.length y=P++y::S:=BY
def J0(P M S:List α)(x y:α):R9 (P++x::M++y::S) ((P.length:Nat):Int) (((P.length+1+M.length:Nat)):Int)=P++y::M++x::S:=by
 have l2:∀z,(P++z::M).length=P.length+1+M.length:=fun z=>A_
 grind [R9,Int.toNat_natCast,ix,acs,Y3]
def zd(l:List α)(a b:Nat):Nat->List α
 |0=>l
 |k+1=>R9 (zd l a b k) ((a+k:Nat):Int) ((b+k:Nat):Int)
def HK(l:List α)(a b:Nat):∀k,(zd l a b k).length=l.length
 |0=>rfl
 |k+1=>by rw[zd,ZC];exact HK l a b k
def HJ(P M S:List α):∀(k:Nat)(A B A' B':List α),A.length=k->B.length=k->A'.length=B'.length->zd (P++(A++A')++M++(B++B')++S) P.length (P.length+(A++A').length+M.length) k=P++(B++A')++M++(A++B')++S
 |0,A,B,A',B',h1,h2,_=>by
  obtain rfl:A=[]:=List.eq_nil_of_length_eq_zero h1
  obtain rfl:B=[]:=List.eq_nil_of_length_eq_zero h2
  simp[zd]
 |k+1,A,B,A',B',h1,h2,h'=>by
  obtain⟨A,x,rfl⟩:∃A0 x,A=A0++[x]:=by
   rcases List.eq_nil_or_concat A with rfl|⟨A0,x,rfl⟩
   ·simp at h1
   grind
  obtain⟨B,y,rfl⟩:∃B0 y,B=B0++[y]:=by
   rcases List.eq_nil_or_concat B with rfl|⟨B0,y,rfl⟩
   ·simp at h2
   grind
  have l1:=Q_
  have l2:=Ux
  have hi:=HJ P M S k A B (x::A') (y::B') l1 l2 A_
  have e:P++((A++[x])++A')++M++((B++[y])++B')++S=P++(A++(x::A'))++M++(B++(y::B'))++S:=BY
  rw[zd,e,show((A++[x])++A').length=(A++(x::A')).length by simp,hi]
  have sw:=J0 (P++B) (A'++M++A) (B'++S) x y
  rw[show P.length+k=(P++B).length by simp[l2],show P.length+(A++x::A').length+M.length+k=(P++B).length+1+(A'++M++A).length by simp;omega]
  have e2:P++(B++x::A')++M++(A++y::B')++S=P++B++x::(A'++M++A)++y::(B'++S):=BY
  rw[e2,sw]
  simp
def Az(P A M B S:List α)(h:A.length=B.length):zd (P++A++M++B++S) P.length (P.length+A.length+M.length) A.length=P++B++M++A++S:=by
 have:=HJ P M S A.length A B [] [] rfl h.symm rfl
 grind
end
end Go.AB
end
section
set_option linter.unusedSectionVars false
namespace Go.AB
open Go
structure TP{α:Type}(lt:α->α->Bool):Prop where
 WN:∀x y,lt x y=true->lt y x=false
 tr:∀x y z,lt y x=false->lt z y=false->lt z x=false
section
variable{α:Type}(lt:α->α->Bool)
def jS(l:List α):Prop:=l.Pairwise fun x y=>lt y x=false
variable{lt}
theorem jS.app{A B:List α}:jS lt (A++B)↔jS lt A/\jS lt B/\∀a∈A,∀b∈B,lt b a=false:=List.pairwise_append
def jS.one(x:α):jS lt [x]:=List.pairwise_singleton _ _
theorem TP.last(h:TP lt){A:List α}(hA:jS lt A){u v:α}(hu:A.getLast?=some u)(hv:v∈A):lt u v=false:=by
 obtain⟨A,rfl⟩:=List.getLast?_eq_some_iff.1 hu
 rcases List.mem_append.1 hv with hv|hv
 ·grind [jS.app]
 ·have:v=u:=A_
  subst this
  cases e:lt v v with
  |false=>rfl
  |true=>rw[<-e];exact h.WN v v e
theorem TP.head(h:TP lt){A:List α}(hA:jS lt A){u v:α}(hu:A.head?=some u)(hv:v∈A):lt v u=false:=by
 cases A with
 |nil=>cases hu
 |cons a A=>
  cases hu
  rcases List.mem_cons.1 hv with rfl|hv
  ·cases e:lt v v with
   |false=>rfl
   |true=>rw[<-e];exact h.WN v v e
  ·exact(List.pairwise_cons.1 hA).1 v hv
def TP.O9(h:TP lt){A B:List α}(hA:jS lt A)(hB:jS lt B)(hab:∀u v,A.getLast?=some u->B.head?=some v->lt v u=false):∀a∈A,∀b∈B,lt b a=false:=fun a ha b hb=>by
 cases eA:A.getLast? with
 |none=>grind
 |some u=>
  cases eB:B.head? with
  |none=>simp_all
  |some v=>exact h.tr _ _ _ (h.tr _ _ _ (h.last hA eA ha) (hab u v eA eB)) (h.head hB eB hb)
theorem TP.put(h:TP lt){A B:List α}{x:α}(hs:jS lt (A++B))(h1:∀u,A.getLast?=some u->lt x u=false)(h2:∀v,B.head?=some v->lt v x=false):jS lt (A++x::B):=by
 obtain⟨hA,hB,hc⟩:=jS.app.1 hs
 have c1:=h.O9 hA (jS.one x) (fun u v hu hv=>A_)
 have c2:=h.O9 (jS.one x) hB (fun u v hu hv=>A_)
 refine jS.app.2 ⟨hA,List.pairwise_cons.2 ⟨fun b hb=>c2 x BY b hb,hB⟩,fun a ha b hb=>?_⟩
 grind
def TP.ab2(h:TP lt){A B C D U V:List α}(h1:jS lt (A++B))(h2:jS lt (C++D))(hAD:∀u v,A.getLast?=some u->D.head?=some v->lt v u=false)(hCB:∀u v,C.getLast?=some u->B.head?=some v->lt v u=false)
 (hU:U.Perm (A++C))(hV:V.Perm (B++D))(sU:jS lt U)(sV:jS lt V):(U++V).Perm ((A++B)++(C++D))/\jS lt (U++V):=by
 obtain⟨a1,a2,a3⟩:=jS.app.1 h1
 obtain⟨b1,b2,b3⟩:=jS.app.1 h2
 have k1:=h.O9 a1 b2 hAD
 have k2:=h.O9 b1 a2 hCB
 refine⟨(hU.append hV).trans ?_,jS.app.2 ⟨sU,sV,fun a ha b hb=>?_⟩⟩
 ·grind [List.append_assoc,List.Perm.append_left,List.Perm.append_right,List.perm_append_comm]
 grind
end
theorem oR(a b:UInt8)(x y:List UInt8):Op.bytesLess (a::x) (b::y)=(decide (a<b)||(a==b&&Op.bytesLess x y)):=rfl
def rN:TP Op.bytesLess:=by
 refine⟨fun x=>?_,fun x=>?_⟩
 ·induction x with
  |nil=>intro y h;cases y with
   |nil=>rfl
   |cons b y=>rfl
  |cons a x ih=>
   intro y h
   cases y with
   |nil=>cases h
   |cons b y=>
    rw[oR]at h⊢
    grind
 ·induction x with
  |nil=>intro y z h1 h2;cases z with
   |nil=>rfl
   |cons c z=>cases y with
    |nil=>exact h2
    |cons b y=>rfl
  |cons a x ih=>
   intro y z h1 h2
   cases y with
   |nil=>cases h1
   |cons b y=>
    cases z with
    |nil=>cases h2
    |cons c z=>
     rw[oR]at h1 h2⊢
     grind
section
variable{α:Type}[aO α]
theorem Wv(l:List α){i j:Int}(h:i.toNat≠j.toNat):R9 l i j=R9 l j i:=by grind [R9,List.set_comm]
def UW(P T Y:List α)(x:α){k:Nat}(hk:k<Y.length):R9 (P++(Y.take k++x::Y.drop k)++T) ((P.length+k:Nat):Int) ((P.length+k+1:Nat):Int)=P++(Y.take (k+1)++x::Y.drop (k+1))++T:=by
 have e1:=List.drop_eq_getElem_cons hk
 have:=J0 (P++Y.take k) [] (Y.drop (k+1)++T) x Y[k]
 grind
def PO(P T Y:List α)(x:α){k:Nat}(hk:k<Y.length):R9 (P++(Y.take (k+1)++x::Y.drop (k+1))++T) ((P.length+k+1:Nat):Int) ((P.length+k:Nat):Int)=P++(Y.take k++x::Y.drop k)++T:=by
 have e1:=List.drop_eq_getElem_cons hk
 have e2:Y.take (k+1)=Y.take k++[Y[k]]:=BY
 have lk:(P++Y.take k).length=P.length+k:=A_
 have:=J0 (P++Y.take k) [] (Y.drop (k+1)++T) Y[k] x
 rw[Wv _ A_,e1]
 grind
def uQ{Y:List α}{k:Nat}{u:α}(hk:k<=Y.length)(h:(Y.take k).getLast?=some u):0<k/\∃h:k -1<Y.length,u=Y[k -1]:=A_
def head_drop{Y:List α}{k:Nat}{v:α}(h:(Y.drop k).head?=some v):∃h:k<Y.length,v=Y[k]:=by grind [List.head?_drop,List.getElem?_eq_some_iff]
def kl(P X T:List α){k:Nat}(hk:k<X.length):ix (P++X++T) ((P.length+k:Nat):Int)=X[k]:=by
 rw[gh A_]
 grind
end
end Go.AB
end
section
namespace Go.AB
open Go
def ja{P:Program}{live:List (Nat×Bool)}{b:IC}{Q:Exit->St->Prop}{E:St}(n:Nat)(R:Nat->St->Prop)(hn:n<4611686018427387904)(h0:R 0 (E.fk live))
 (h1:∀k,k<n->∀(J:St->Prop)(τ:St),R k τ->(∀U',R (k+1) U'->J U')->fY P b (pX live J Q) τ)(h2:∀(J:St->Prop)(τ:St),R n τ->fY P b (pX live J Q) τ):fY P (.loop live b) Q E:=by
 refine lN (body:=fun k:Nat=>if k<n then some (.inl (k+1))else some (.inr ())) (s0:=0) (kf:=fun _=>True) (fun k τ=>k<=n/\R k τ) ⟨Nat.zero_le _,h0⟩ ?_ ⟨(),oE n (fun k=>k) rfl AT (fun k hk=>if_pos hk) (if_neg (Nat.lt_irrefl _)),trivial⟩
 rintro J k τ ⟨hk,hR⟩ hb
 by_cases hlt:k<n
 ·rw[if_pos hlt,bB]at hb
  exact h1 k hlt J τ hR fun U' h'=>hb U' ⟨hlt,h'⟩
 ·obtain rfl:k=n:=AT
  exact h2 J τ hR
def ah5{α:Type}[aO α](l:List α)(sp:List AV){n:Nat}(hn:n=aO.w α){j:Int}(h0:0<=j)(h:j<l.length):j.toNat*n+n<=(flat l++sp).length/\views (AB.sub (flat l++sp) (j.toNat*n) n)=aO.cells (ix l j):=by
 subst hn
 have hj:j.toNat<l.length:=AT
 have hs:=gJ l sp (aO.w α) j.toNat 1 rfl AT
 refine⟨?_,?_⟩
 ·rw[List.length_append,au]
  have:(j.toNat+1)*aO.w α<=l.length*aO.w α:=Nat.mul_le_mul_right _ AT
  rw[Nat.add_mul,Nat.one_mul]at this
  omega
 ·rw[Nat.one_mul]at hs
  rw[hs,List.drop_eq_getElem_cons hj]
  have:ix l j=l[j.toNat]:=by unfold ix;simp[hj]
  rw[this]
  show views (flat [l[j.toNat]])=_
  rw[aF]
  unfold flat
  simp
def alk{α:Type}[aO α](l:List α)(sp:List AV){n:Nat}(hn:n=aO.w α)(x:α){j:Int}(h0:0<=j)(h:j<l.length):setAt (flat l++sp) (j.toNat*n) (aO.cells x)=flat (l.set j.toNat x)++sp:=by
 have hj:j.toNat<l.length:=AT
 have hs:=im l [x] sp n j.toNat hn C_
 have e:flat [x]=aO.cells x:=υ
 rw[e]at hs
 rw[hs,List.set_eq_take_append_cons_drop,if_pos hj]
 simp
def HC{α:Type}[aO α](l:List α){n:Nat}(hn:n=aO.w α){j:Int}(h0:0<=j)(h:j<l.length):j.toNat*n+n<=(flat l).length/\views (AB.sub (flat l) (j.toNat*n) n)=aO.cells (ix l j):=by
 have:=ah5 l [] hn h0 h
 rwa[List.append_nil]at this
def Mo{α:Type}[aO α](l:List α){n:Nat}(hn:n=aO.w α)(x:α){j:Int}(h0:0<=j)(h:j<l.length):setAt (flat l) (j.toNat*n) (aO.cells x)=flat (l.set j.toNat x):=by
 have:=alk l [] hn x h0 h
 rwa[List.append_nil,List.append_nil]at this
def Wi(pre cs post:List AV):List AV:=pre++cs++post
@[go_sem]theorem aiM(c:AV)(cs r:List AV):Wi [] (c::cs) r=c::Wi [] cs r:=rfl
@[go_sem]theorem ajN(r:List AV):Wi [] [] r=r:=rfl
@[go_sem]theorem aiN(p cs r:List AV)(a:AV):Wi p cs (a::r)=Wi p (cs++[a]) r:=by simp[Wi]
theorem MR(p cs r:List AV):(Wi p cs r).length=p.length+cs.length+r.length:=by simp[Wi];omega
@[go_sem]theorem alE(p cs r:List AV)(k n:Nat)(h:k+n<=cs.length):(p.length+k+n<=(Wi p cs r).length)=True:=by rw[MR];exact eq_true AT
@[go_sem]theorem ajM(p cs r:List AV)(n:Nat)(h:n<=cs.length):(p.length+n<=(Wi p cs r).length)=True:=by rw[MR];exact eq_true AT
@[go_sem]theorem ad0(p cs r:List AV)(k n:Nat)(h:k+n<=cs.length):AB.sub (Wi p cs r) (p.length+k) n=AB.sub cs k n:=by
  unfold AB.sub Wi
  rw[List.append_assoc,<-List.drop_drop,List.drop_left,List.drop_append_of_le_length AT,List.take_append_of_le_length N_]
@[go_sem]theorem ajz(p cs r:List AV)(n:Nat)(h:n<=cs.length):AB.sub (Wi p cs r) p.length n=AB.sub cs 0 n:=ad0 p cs r 0 n AT
theorem Ar(p cs r:List AV)(k:Nat)(news:List AV)(h:k+news.length<=cs.length):setAt (Wi p cs r) (p.length+k) news=Wi p (setAt cs k news) r:=by
 unfold setAt Wi
 have e1:(p++cs++r).take (p.length+k)=p++cs.take k:=by rw[List.append_assoc,List.take_append,List.take_of_length_le AT,Nat.add_sub_cancel_left,List.take_append_of_le_length AT]
 have e2:(p++cs++r).drop (p.length+k+news.length)=cs.drop (k+news.length)++r:=by rw[List.append_assoc,Nat.add_assoc,<-List.drop_drop,List.drop_left,List.drop_append_of_le_length h]
 rw[e1,e2]
 simp[List.append_assoc]
@[go_sem]theorem VS(p cs r:List AV)(k:Nat)(news:List AV)(h:k+news.length<=cs.length):setAt (Wi p cs r) (p.length+k) news=Wi p (setAt cs k news) r:=Ar p cs r k news h
theorem IH(p cs r:List AV)(k:Nat)(h:k<cs.length):(Wi p cs r)[p.length+k]? =cs[k]? :=by
 unfold Wi
 rw[List.append_assoc,List.getElem?_append_right AT,Nat.add_sub_cancel_left,List.getElem?_append_left h]
@[go_sem]theorem abY(p cs r:List AV)(k:Nat)(h:k<cs.length):(Wi p cs r)[p.length+k]? =cs[k]? :=IH p cs r k h
@[go_sem]theorem Xu(p cs r:List AV)(h:0<cs.length):(Wi p cs r)[p.length]? =cs[0]? :=IH p cs r 0 h
def R5(p cs r:List AV)(k:Nat)(K:List AV->AV->Prop)(h:k<cs.length):kH (p.length+k) (Wi p cs r) K=kH k cs fun cs' a=>K (Wi p cs' r) a:=by
 unfold kH
 rw[IH p cs r k h]
 cases cs[k]? with
 |none=>rfl
 |some a=>
  cases a<;>try rfl
  ·rename_i o sz n ds
   show K (setAt (Wi p cs r) (p.length+k) [.sl false sz n ds]) _=K (Wi p (setAt cs k [.sl false sz n ds]) r) _
   rw[Ar p cs r k [.sl false sz n ds] (show k+1<=cs.length by omega)]
  ·rename_i tb m es
   show K (setAt (Wi p cs r) (p.length+k) [.sl false 1 m es]) _=K (Wi p (setAt cs k [.sl false 1 m es]) r) _
   rw[Ar p cs r k [.sl false 1 m es] (show k+1<=cs.length by omega)]
@[go_sem]theorem V3(p cs r:List AV)(k:Nat)(K:List AV->AV->Prop)(h:k<cs.length):kH (p.length+k) (Wi p cs r) K=kH k cs fun cs' a=>K (Wi p cs' r) a:=R5 p cs r k K h
def JG{k:IntKind}{a b:Int}(h:0<=a):0<=lA k a b/\lA k a b<=a:=by
 unfold lA
 have hp:(0:Int)<2^(min b.toNat k.bits):=Int.pow_pos B_
 rw[Int.fdiv_eq_ediv_of_nonneg _ (Int.le_of_lt hp)]
 exact⟨Int.ediv_nonneg h (Int.le_of_lt hp),Int.ediv_le_self _ h⟩
def Wb{n:Int}(h0:0<=n)(h1:n<256):((jt n).toNat:Int)=n:=by
 unfold jt
 have e:IntKind.u8.wrap n=n:=by
  show n.emod 256=n
  exact Int.emod_eq_of_lt h0 h1
 rw[e]
 show((UInt8.ofNat n.toNat).toNat:Int)=n
 rw[UInt8.toNat_ofNat']
 omega
def Zp{n:Int}(h0:0<=n)(h1:n<4294967296):((eu n).toNat:Int)=n:=by
 unfold eu
 have e:IntKind.u32.wrap n=n:=by
  show n.emod 4294967296=n
  exact Int.emod_eq_of_lt h0 h1
 rw[e]
 show((UInt32.ofNat n.toNat).toNat:Int)=n
 rw[UInt32.toNat_ofNat']
 omega
@[go_sem]theorem amU(x:UInt8)(k:Int):((jt (lA .u8 (x.toNat:Int) k)).toNat:Int)=lA .u8 (x.toNat:Int) k:=by
  have:=JG (k:=.u8) (a:=(x.toNat:Int)) (b:=k) AT
  have:=x.toNat_lt
  exact Wb AT AT
@[go_sem]theorem aid(k:Int):((jt (lA .u8 128 k)).toNat:Int)=lA .u8 128 k:=by
  have:=JG (k:=.u8) (a:=128) (b:=k) AT
  exact Wb AT AT
@[go_sem]theorem amd(x:UInt32)(k:Int):((eu (lA .u32 (x.toNat:Int) k)).toNat:Int)=lA .u32 (x.toNat:Int) k:=by
  have:=JG (k:=.u32) (a:=(x.toNat:Int)) (b:=k) AT
  have:=x.toNat_lt
  exact Zp AT AT
attribute[go_sem] Nat.add_zero
@[go_sem]theorem cy{α:Type}(l:List α)(hi:Int):part l 0 hi=l.take hi.toNat:=by
  unfold part
  rw[Int.toNat_zero,List.drop_zero,Int.sub_zero]
@[go_sem]theorem ag1(n:Nat):((6:Int)<=((n+6:Nat):Int))=True:=eq_true AT
@[go_sem]theorem aj5(l:List UInt8):l.getD 0 0=ix l 0:=rfl
@[go_sem]theorem mi:((0:Int)<=0)=True:=eq_true B_
@[go_sem]theorem amr:((0:Int)<=1)=True:=eq_true B_
@[go_sem]theorem ams:((0:Int)<=2)=True:=eq_true B_
@[go_sem]theorem amt:((0:Int)<=3)=True:=eq_true B_
@[go_sem]theorem amu:((0:Int)<=4)=True:=eq_true B_
@[go_sem]theorem amv:((0:Int)<=6)=True:=eq_true B_
@[go_sem]theorem amw:((0:Int)<=8)=True:=eq_true B_
@[go_sem]theorem alR:((0:Int)<=16)=True:=eq_true B_
@[go_sem]theorem alS:((0:Int)<=24)=True:=eq_true B_
structure Bk where
 used:Bool
 own:Bool
 buf:bg
def Bk.zero:Bk:=⟨false,true,⟨[]⟩⟩
def zq(T B o:Nat)(b:Bk):AV:=bif b.used then .ref B o else .oQ T
def wL(b:Bk):AV:=bif b.own then .bb 5 b.buf.b.length (flat b.buf.b)else .sl false 1 b.buf.b.length (flat b.buf.b)
@[go_sem]theorem aej(T B o:Nat):zq T B o Bk.zero=.oQ T:=rfl
@[go_sem]theorem aek:wL Bk.zero=.bb 5 0 []:=rfl
@[go_sem]theorem af9(ne:Bool)(vs:List AV):KR ne (.iJ vs)=.no:=rfl
structure WK where
instance:aO WK:=⟨1,fun _=>[.mw],.mk,B_,fun _=>rfl,fun _=>rfl⟩
end Go.AB
end
