/- A part. -/
import Derived.Defers
import Derived.Test.YtgecakgfnjkkbaaGreatFt10
set_option linter.unusedSimpArgs false
set_option linter.unusedVariables false
section
namespace Go.AB
open Go
section
variable{P:Program}{n:Nat}
def FND(P:Program)(f:FuncId)(args:List AV)(s:ae)(Q:List AV->ae->Prop):Prop:=
 ∀(G:Gh)(w:World)(vs:Array Value)(u:FrameMode),cq G w->vW G->a8 G w s->mn w G.R args vs->
  CallsD P f vs u w fun e u' w'=>u'=u/\∃v rs s' G',e=.returned v/\Q rs s'/\cq G' w'/\a8 G' w' s'/\mB G' w' rs v/\aG G w G' w'
theorem FND.of{f:FuncId}{res:List jB}{ic:IC}{args:List AV}{s:ae}{Q:List AV->ae->Prop}(hD:uM P n)(hf:eH P f n res ic=true)(hv:qf args=true)(hn:args.length<=n)
 (hw:fD P ic (vJ res Q) (start args s)):FND P f args s Q:=by
 intro G w vs u hg ho hs ha
 unfold eH at hf
 split at hf<;>try(cases hf;done)
 rename_i fn hfn
 simp only[Bool.and_eq_true,beq_iff_eq]at hf
 obtain⟨⟨rfl,mJ⟩,hf⟩:=hf
 split at hf<;>try(cases hf;done)
 rename_i c hb
 refine callsD_of_wp hfn hb (cJ hD ic c G w (vJ res Q) _ G _ _ w hf ?_ (pT hg hs ha hv hn) (aG.refl G w) hw)
 intro x G' E' a' w' h hp hq
 have fin:qf (kp E' res)=true/\Q (kp E' res) E'.s->a'.defers=[]/\∃v,(results fn a'.tmps).run P w'=.ok v w'/\∃v' rs s' G'',Ending.returned v=.returned v'/\Q rs s'/\cq G'' w'/\a8 G'' w' s'/\mB G'' w' rs v'/\aG G w G'' w':=by
  intro hq
  obtain⟨dq,hQ⟩:=hq
  exact⟨h.pn,Ap mJ h hp dq hQ⟩
 cases x with
 |ret=>exact fin hq
 |normal=>exact fin hq
 |_=>exact hq.elim
def Mh:List Operand->List Nat->Bool
 |[],[]=>true
 |.tmp t::r,y::ys=>t==y&&Mh r ys
 |_,_=>false
def WI(g:Nat)(ys:List Nat):Code->Bool
 |.region _ ops false=>match ops.toList with
  |[⟨none,.defer ⟨.value (.func g'),args,_⟩,_,_,_,none⟩]=>g'==g&&Mh args.toList ys
  |_=>false
 |_=>false
def Qr(P:Program)(f:FuncId)(n:Nat)(res:List jB)(ic1:IC)(g:Nat)(ys:List Nat)(ic2:IC):Bool:=match P.funcs[f]? with
 |some fn=>fn.ntmps==n&&ko P fn.results.toList res&&(match fn.body with
  |some (.seq c1 (.seq cd c2))=>k8 P n c1 ic1&&(WI g ys cd&&(k8 P n c2 ic2&&tJ P g))
  |_=>false)
 |none=>false
def AZ(bs:List Nat):List AV:=bs.map fun b=>.ref b 0
theorem AS{G:Gh}{D:List Deferred}{E:St}{a:Act}{w:World}(h:Inv G n D E a w):∀(os:List Operand)(ys bs:List Nat),Mh os ys=true->ys.map (look E.e)=AZ bs->os.map a.eval=bs.map fun b=>Value.pointer (some ⟨b,0,none⟩)
 |[],[],bs,_,hb=>by
  cases bs with
  |nil=>rfl
  |cons b bs=>cases hb
 |.tmp t::os,y::ys,bs,hc,hb=>by
  cases bs with
  |nil=>cases hb
  |cons b bs=>
   simp only[Mh,Bool.and_eq_true,beq_iff_eq]at hc
   obtain⟨rfl,hc⟩:=hc
   rw[List.map_cons]at hb
   injection hb with h1 h2
   rw[List.map_cons,List.map_cons,AS h os ys bs hc h2]
   congr 1
   have hx:bI (.tmp t) (.t t)=true:=by simp[bI]
   have hb:=BR.aV h hx
   have e:xg true E (.t t)=.ref b 0:=by
    show tZ true (look E.e t)=_
    rw[h1];rfl
   rw[e]at hb
   have hv:VR w G.R (.ref b 0) (a.eval (.tmp t)):=hb
   generalize a.eval (.tmp t)=v at hv
   cases hv
   rfl
 |[],_::_,_,hc,_=>by cases hc
 |.tmp _::_,[],_,hc,_=>by cases hc
 |.const _::_,_,_,hc,_=>by cases hc
 |.global _::_,_,_,hc,_=>by cases hc
 |.func _::_,_,_,hc,_=>by cases hc
def Vz(P:Program)(g:Nat)(bs:List Nat)(res:List jB)(Q:List AV->ae->Prop):Exit->St->Prop
 |.ret,E=>FND P g (AZ bs) E.s fun rs s'=>jA rs=true/\qf (kp {E with s:=s'} res)=true/\Q (kp {E with s:=s'} res) s'
 |_,_=>False
theorem FN.ofD{f:FuncId}{res:List jB}{ic1 ic2:IC}{g:Nat}{ys:List Nat}{args:List AV}{s:ae}{Q:List AV->ae->Prop}(hD:uM P n)(hf:Qr P f n res ic1 g ys ic2=true)(hv:qf args=true)(hn:args.length<=n)
 (hw:fD P ic1 (fun x E=>x=.normal/\∃bs,ys.map (look E.e)=AZ bs/\fD P ic2 (Vz P g bs res Q) E) (start args s)):FN P f args s Q:=by
 intro G w vs hg ho hs ha
 unfold Qr at hf
 split at hf<;>try(cases hf;done)
 rename_i fn hfn
 simp only[Bool.and_eq_true,beq_iff_eq]at hf
 obtain⟨⟨rfl,mJ⟩,hf⟩:=hf
 split at hf<;>try(cases hf;done)
 rename_i c1 cd c2 hb
 simp only[Bool.and_eq_true]at hf
 obtain⟨k1,kd,k2,kg⟩:=hf
 refine calls_of_wp_defers hfn hb (wp_seq (cJ hD ic1 c1 G w (fun x E=>x=.normal/\∃bs,ys.map (look E.e)=AZ bs/\fD P ic2 (Vz P g bs res Q) E) _ G _ _ w k1 ?_ (pT hg hs ha hv hn) (aG.refl G w) hw))
 rintro x G1 σ1 a1 w1 h1 hp1 ⟨rfl,bs,hbs,hw2⟩
 show(Code.seq cd c2).wp P _ a1 w1
 refine wp_seq ?_
 unfold WI at kd
 split at kd<;>try(cases kd;done)
 rename_i id ops
 split at kd<;>try(cases kd;done)
 rename_i g' WH agt dty ags agp agU
 simp only[Bool.and_eq_true,beq_iff_eq]at kd
 obtain⟨rfl,kd⟩:=kd
 have hev:=AS h1 _ _ _ kd hbs
 let d:Deferred:={target:=.fn (.func g') #[],args:=(bs.map fun b=>Value.pointer (some ⟨b,0,none⟩)).toArray}
 refine wp_region_list ?_
 rw[agU]
 show zT P ops _ a1 w1 _ _
 refine BE (by simp[Region.wanted]) ?_
 have bR:(execOp a1.eval {dst:=none,op:=.defer {callee:=.value (.func g'),args:=WH,argTypes:=agt},type:=dty,pos:=ags,after:=agp,guard:=none}).run P w1=.ok (.defer d) w1:=by
  have e2:WH.map a1.eval=(bs.map fun b=>Value.pointer (some ⟨b,0,none⟩)).toArray:=by
   apply Array.ext'
   simp[hev]
  simp[execOp,resolve,Act.eval,Deferred.ofValue,e2,d]
 unfold Oper.wp
 rw[bR]
 have h1':Inv G1 fn.ntmps [d] σ1 {a1 with defers:=[d]} w1:=⟨h1.ba,h1.store,h1.size,h1.cu,h1.CL,h1.JY,rfl⟩
 show c2.wp P _ {a1 with defers:=d::a1.defers} w1
 rw[h1.pn]
 refine cJ hD ic2 c2 G w (Vz P g' bs res Q) _ G1 σ1 _ w1 k2 ?_ h1' hp1 hw2
 intro x G2 σ2 a2 w2 h2 hp2 hq
 cases x with
 |ret=>
  show Leaves P fn a2.tmps _ a2.defers .returning w2
  rw[h2.pn]
  unfold tJ at kg
  split at kg<;>try(cases kg;done)
  rename_i gfn hgf
  rw[Bool.and_eq_true]at kg
  refine leaves_cons (by simp) (f:=g') (args:=(bs.map fun b=>Value.pointer (some ⟨b,0,none⟩)).toArray) (by simp[invoke,kX hgf kg.1 kg.2]) ?_
  have Iw:mn w2 G2.outer.R (AZ bs) (bs.map fun b=>Value.pointer (some ⟨b,0,none⟩)).toArray:=by
   refine⟨by simp[AZ],fun j c u hc hu=>?_⟩
   unfold AZ at hc
   rw[List.getElem?_map]at hc
   rw[List.getElem?_toArray,List.getElem?_map]at hu
   cases hj:bs[j]? with
   |none=>rw[hj]at hc;cases hc
   |some b=>
    rw[hj]at hc hu
    injection hc with hc;injection hu with hu
    subst hc hu
    exact .ref b 0
  refine CallsD.mono (hq G2.outer w2 _ .returning h2.lz.1 (ot G2) h2.lz.2 Iw) ?_
  rintro e u' w3 ⟨rfl,v,rs,s',G3,rfl,⟨hok,dq,hQ⟩,hg3,hs3,hr3,hp3⟩
  obtain⟨G4,h4,hp4⟩:=h2.behind (d:=none) rfl hok hg3 hs3 hr3 hp3
  exact Ap mJ h4 (hp2.trans hp4) dq hQ
 |_=>exact hq.elim
end
@[go_sem]abbrev sF{α:Type}[aP α](n:Nat)(l:List α):AV:=.sl false n l.length (flat l)
@[go_sem]abbrev sT{α:Type}[aP α](n:Nat)(l:List α):AV:=.sl true n l.length (flat l)
theorem Ep{S O:Type}{body:S->Option (S⊕O)}(I:S->Prop)(μ:S->Nat)(J1:O->Prop)
 (step:∀s,I s->∃x,body s=some x/\(match x with|.inl t=>I t/\μ t<μ s|.inr o=>J1 o)):∀(n:Nat)(s:S),I s->μ s<n->∃o,ch body n s=some o/\J1 o
 |0,_,_,h=>absurd h (Nat.not_lt_zero _)
 |n+1,s,hi,hn=>by
  obtain⟨x,hx,h⟩:=step s hi
  cases x with
  |inl t=>
   obtain⟨o,h1,h2⟩:=Ep I μ J1 step n t h.1 (by grind)
   grind [ch]
  |inr o=>grind [ch]
theorem eP{S O:Type}{body:S->Option (S⊕O)}{s0:S}(I:S->Prop)(μ:S->Nat)(J1:O->Prop)(h0:I s0)(hμ:μ s0<18446744073709551616)
 (step:∀s,I s->∃x,body s=some x/\(match x with|.inl t=>I t/\μ t<μ s|.inr o=>J1 o)):∃o,iter body s0=some o/\J1 o:=
 Ep I μ J1 step _ s0 h0 hμ
theorem iter_eq{S O:Type}{body:S->Option (S⊕O)}{s0:S}{o:O}(I:S->Prop)(μ:S->Nat)(h0:I s0)(hμ:μ s0<18446744073709551616)
 (step:∀s,I s->(∃t,body s=some (.inl t)/\I t/\μ t<μ s)\/body s=some (.inr o)):iter body s0=some o:=by
 obtain⟨p,h1,h2⟩:=eP I μ (fun p=>p=o) h0 hμ fun s hs=>by
  rcases step s hs with⟨t,h1,h2⟩|h1
  ·exact⟨_,h1,h2⟩
  grind
 rw[h1,h2]
theorem ar{n:Int}(h1:-9223372036854775808<=n)(h2:n<=9223372036854775807):aC n=n:=by
 unfold aC IntKind.wrap
 have:(2^IntKind.i64.bits)=18446744073709551616:=by rfl
 have h3:(2^(IntKind.i64.bits -1))=9223372036854775808:=by rfl
 simp[IntKind.signed,Bool.true_and]
 grind
@[simp]theorem aJ{α β:Type}(a:α)(f:α->Option β):bn (some a) f=f a:=rfl
@[simp]theorem aco{α β:Type}(f:α->Option β):bn none f=none:=rfl
@[simp]theorem Gr{α β:Type}(a:α)(f:α->Option β):jn (some a) f=f a:=rfl
@[simp]theorem afv{α β:Type}(f:α->Option β):jn none f=none:=rfl
@[simp]theorem agi{X Y α:Type}(x:X)(F:X->Option α)(G:Y->Option α):rA (some (.inl x)) F G=F x:=rfl
@[simp]theorem agj{X Y α:Type}(y:Y)(F:X->Option α)(G:Y->Option α):rA (some (.inr y)) F G=G y:=rfl
@[simp]theorem aif{X Y α:Type}(x:X)(F:X->Option α)(G:Y->Option α):Dt (some (.inl x)) F G=F x:=rfl
@[simp]theorem aih{X Y α:Type}(y:Y)(F:X->Option α)(G:Y->Option α):Dt (some (.inr y)) F G=G y:=rfl
@[simp]theorem aii{α:Type}(o:Option α):jn o (fun a=>some a)=o:=by cases o<;>rfl
@[simp]theorem agk{α:Type}(o:Option α):bn o (fun a=>some a)=o:=by cases o<;>rfl
theorem bK{α:Type}{c:Prop}[Decidable c](h:c)(o:Option α):bt c o=o:=if_pos h
@[simp]theorem OA{α:Type}[Decidable True](o:Option α):bt True o=o:=if_pos trivial
@[simp]theorem Hm{α:Type}(z:α)(o:Option α):jv true z o=o:=rfl
@[simp]theorem V7{α:Type}(z:α)(o:Option α):jv false z o=some z:=rfl
@[simp]theorem acu{A B C:Type}(f:A->C)(g:B->C)(a:A):kF f g (.inl a)=f a:=rfl
@[simp]theorem acv{A B C:Type}(f:A->C)(g:B->C)(b:B):kF f g (.inr b)=g b:=rfl
theorem Rf{α:Type}[aP α]{l:List α}{i:Int}(h:i.toNat<l.length):ix l i=l[i.toNat]:=by grind [ix,List.getElem?_eq_getElem]
theorem gv{α:Type}[aP α]{l:List α}{k:Nat}(h:k<l.length):ix l (k:Int)=l[k]:=by grind [Rf]
theorem Rg{α:Type}[aP α]{l:List α}{k:Nat}{a:α}(h:l[k]? =some a):ix l (k:Int)=a:=by grind [ix]
theorem mU{S O:Type}{body:S->Option (S⊕O)}{s0:S}{o:O}(n:Nat)(st:Nat->S)(h0:st 0=s0)(hn:n<18446744073709551615)(hs:∀k,k<n->body (st k)=some (.inl (st (k+1))))(he:body (st n)=some (.inr o)):iter body s0=some o:=by
 have key:∀j,j<=n->∀m,ch body (m+1+j) (st (n -j))=some o:=by
  intro j
  induction j with
  |zero=>grind [ch]
  |succ j ih=>grind [ch]
 have:=key n (Nat.le_refl n) (18446744073709551616 -1 -n)
 rw[Nat.sub_self,h0,show 18446744073709551616 -1 -n+1+n=18446744073709551616 by omega]at this
 exact this
theorem Bu{A O:Type}{body:A×Int->Option ((A×Int)⊕O)}{a0:A}{o:O}(n:Nat)(acc:Nat->A)(h0:acc 0=a0)(hn:n<4611686018427387904)(hs:∀k,k<n->body (acc k,(k:Int))=some (.inl (acc (k+1),aC ((k:Int)+1))))(he:body (acc n,(n:Int))=some (.inr o)):iter body (a0,0)=some o:=
 mU n (fun k=>(acc k,k)) (by grind) (by omega) (fun k hk=>by grind [ar]) he
theorem pF{O:Type}{body:Int->Option (Int⊕O)}{o:O}(n:Nat)(hn:n<4611686018427387904)(hs:∀k,k<n->body (k:Int)=some (.inl (aC ((k:Int)+1))))(he:body (n:Int)=some (.inr o)):iter body 0=some o:=
 mU n (fun k=>k) rfl (by omega) (fun k hk=>by grind [ar]) he
theorem ey{α β:Type}{o:Option α}{a:α}{K:α->Option β}{r:Option β}(h:o=some a)(k:K a=r):jn o K=r:=by simp_all
theorem ag{α β:Type}{o:Option α}{a:α}{K:α->Option β}{r:Option β}(h:o=some a)(k:K a=r):bn o K=r:=by simp_all
theorem dv{X Y α:Type}{o:Option (X⊕Y)}{z:X⊕Y}{F:X->Option α}{G:Y->Option α}{r:Option α}(h:o=some z)(k:(match z with|.inl a=>F a|.inr b=>G b)=r):Dt o F G=r:=by
 rw[h]
 cases z<;>exact k
theorem sH{X Y α:Type}{o:Option (X⊕Y)}{z:X⊕Y}{F:X->Option α}{G:Y->Option α}{r:Option α}(h:o=some z)(k:(match z with|.inl a=>F a|.inr b=>G b)=r):rA o F G=r:=by
 rw[h]
 cases z<;>exact k
theorem aD{α:Type}{c:Prop}[Decidable c]{o r:Option α}(h:c)(k:o=r):bt c o=r:=by simp_all
theorem aM{α:Type}{c:Prop}[Decidable c]{a b r:α}(h:c)(k:a=r):(if c then a else b)=r:=by grind
theorem al{α:Type}{c:Prop}[Decidable c]{a b r:α}(h:¬c)(k:b=r):(if c then a else b)=r:=by grind
inductive CF{S O:Type}(body:S->Option (S⊕O)):Nat->S->O->Prop
 |stop {m:Nat} {s:S} {o:O} (h:body s=some (.inr o)):CF body (m+1) s o
 |step {m:Nat} {s t:S} {o:O} (h:body s=some (.inl t)) (k:CF body m t o):CF body (m+1) s o
theorem CF.ch{S O:Type}{body:S->Option (S⊕O)}{m:Nat}{s:S}{o:O}(h:CF body m s o):∀n,m<=n->ch body n s=some o:=by
 induction h with
 |stop h=>
  intro n hn
  obtain⟨k,rfl⟩:∃k,n=k+1:=⟨n -1,by omega⟩
  grind [AB.ch]
 |step h _ ih=>
  intro n hn
  obtain⟨k,rfl⟩:∃k,n=k+1:=⟨n -1,by omega⟩
  grind [AB.ch]
theorem CF.iter{S O:Type}{body:S->Option (S⊕O)}{m:Nat}{s:S}{o:O}(h:CF body m s o)(hm:m<=18446744073709551616):iter body s=some o:=h.ch _ hm
end Go.AB
end
section
set_option linter.unusedSectionVars false
namespace Go.AB
open Go
section
variable{α:Type}[aP α]
def Ph(l:List α)(i j:Int):List α:=(l.set i.toNat (ix l j)).set j.toNat (ix l i)
theorem Wc(l:List α)(i j:Int):(Ph l i j).length=l.length:=by grind [Ph,List.length_set]
theorem Y3{P S:List α}(x:α):ix (P++x::S) ((P.length:Nat):Int)=x:=by grind [gv]
theorem VE{P S:List α}(x y:α):(P++x::S).set P.length y=P++y::S:=by simp
theorem Hp(P M S:List α)(x y:α):Ph (P++x::M++y::S) ((P.length:Nat):Int) (((P.length+1+M.length:Nat)):Int)=P++y::M++x::S:=by
 have l2:∀z,(P++z::M).length=P.length+1+M.length:=fun z=>by grind
 grind [Ph,Int.toNat_natCast,ix,Y3,VE]
def xD(l:List α)(a b:Nat):Nat->List α
 |0=>l
 |k+1=>Ph (xD l a b k) ((a+k:Nat):Int) ((b+k:Nat):Int)
theorem E3(l:List α)(a b:Nat):∀k,(xD l a b k).length=l.length
 |0=>rfl
 |k+1=>by rw[xD,Wc];exact E3 l a b k
theorem E2(P M S:List α):∀(k:Nat)(A B A' B':List α),A.length=k->B.length=k->A'.length=B'.length->xD (P++(A++A')++M++(B++B')++S) P.length (P.length+(A++A').length+M.length) k=P++(B++A')++M++(A++B')++S
 |0,A,B,A',B',h1,h2,_=>by
  obtain rfl:A=[]:=List.eq_nil_of_length_eq_zero h1
  obtain rfl:B=[]:=List.eq_nil_of_length_eq_zero h2
  simp[xD]
 |k+1,A,B,A',B',h1,h2,h'=>by
  obtain⟨A,x,rfl⟩:∃A0 x,A=A0++[x]:=by
   rcases List.eq_nil_or_concat A with rfl|⟨A0,x,rfl⟩
   ·simp at h1
   grind
  obtain⟨B,y,rfl⟩:∃B0 y,B=B0++[y]:=by
   rcases List.eq_nil_or_concat B with rfl|⟨B0,y,rfl⟩
   ·simp at h2
   grind
  have l1:=by simpa using h1
  have l2:=by simpa using h2
  have hi:=E2 P M S k A B (x::A') (y::B') l1 l2 (by grind)
  have e:P++((A++[x])++A')++M++((B++[y])++B')++S=P++(A++(x::A'))++M++(B++(y::B'))++S:=by simp
  rw[xD,e,show((A++[x])++A').length=(A++(x::A')).length by simp,hi]
  have sw:=Hp (P++B) (A'++M++A) (B'++S) x y
  rw[show P.length+k=(P++B).length by simp[l2],show P.length+(A++x::A').length+M.length+k=(P++B).length+1+(A'++M++A).length by simp;omega]
  have e2:P++(B++x::A')++M++(A++y::B')++S=P++B++x::(A'++M++A)++y::(B'++S):=by simp
  rw[e2,sw]
  simp
theorem yO(P A M B S:List α)(h:A.length=B.length):xD (P++A++M++B++S) P.length (P.length+A.length+M.length) A.length=P++B++M++A++S:=by
 have:=E2 P M S A.length A B [] [] rfl h.symm rfl
 grind
end
end Go.AB
end
section
set_option linter.unusedSectionVars false
namespace Go.AB
open Go
structure TP{α:Type}(lt:α->α->Bool):Prop where
 TG:∀x y,lt x y=true->lt y x=false
 tr:∀x y z,lt y x=false->lt z y=false->lt z x=false
section
variable{α:Type}(lt:α->α->Bool)
def jj(l:List α):Prop:=l.Pairwise fun x y=>lt y x=false
variable{lt}
theorem jj.app{A B:List α}:jj lt (A++B)↔jj lt A/\jj lt B/\∀a∈A,∀b∈B,lt b a=false:=List.pairwise_append
theorem jj.one(x:α):jj lt [x]:=List.pairwise_singleton _ _
theorem TP.last(h:TP lt){A:List α}(hA:jj lt A){u v:α}(hu:A.getLast?=some u)(hv:v∈A):lt u v=false:=by
 obtain⟨A,rfl⟩:=List.getLast?_eq_some_iff.1 hu
 rcases List.mem_append.1 hv with hv|hv
 ·grind [jj.app]
 ·have:v=u:=by grind
  subst this
  cases e:lt v v with
  |false=>rfl
  |true=>rw[<-e];exact h.TG v v e
theorem TP.head(h:TP lt){A:List α}(hA:jj lt A){u v:α}(hu:A.head?=some u)(hv:v∈A):lt v u=false:=by
 cases A with
 |nil=>cases hu
 |cons a A=>
  cases hu
  rcases List.mem_cons.1 hv with rfl|hv
  ·cases e:lt v v with
   |false=>rfl
   |true=>rw[<-e];exact h.TG v v e
  ·exact(List.pairwise_cons.1 hA).1 v hv
theorem TP.Mo(h:TP lt){A B:List α}(hA:jj lt A)(hB:jj lt B)(hab:∀u v,A.getLast?=some u->B.head?=some v->lt v u=false):∀a∈A,∀b∈B,lt b a=false:=fun a ha b hb=>by
 cases eA:A.getLast? with
 |none=>grind
 |some u=>
  cases eB:B.head? with
  |none=>simp_all
  |some v=>exact h.tr _ _ _ (h.tr _ _ _ (h.last hA eA ha) (hab u v eA eB)) (h.head hB eB hb)
theorem TP.put(h:TP lt){A B:List α}{x:α}(hs:jj lt (A++B))(h1:∀u,A.getLast?=some u->lt x u=false)(h2:∀v,B.head?=some v->lt v x=false):jj lt (A++x::B):=by
 obtain⟨hA,hB,hc⟩:=jj.app.1 hs
 have c1:=h.Mo hA (jj.one x) (fun u v hu hv=>by grind)
 have c2:=h.Mo (jj.one x) hB (fun u v hu hv=>by grind)
 refine jj.app.2 ⟨hA,List.pairwise_cons.2 ⟨fun b hb=>c2 x (by simp) b hb,hB⟩,fun a ha b hb=>?_⟩
 grind
theorem TP.YE(h:TP lt){A B C D U V:List α}(h1:jj lt (A++B))(h2:jj lt (C++D))(hAD:∀u v,A.getLast?=some u->D.head?=some v->lt v u=false)(hCB:∀u v,C.getLast?=some u->B.head?=some v->lt v u=false)
 (hU:U.Perm (A++C))(hV:V.Perm (B++D))(sU:jj lt U)(sV:jj lt V):(U++V).Perm ((A++B)++(C++D))/\jj lt (U++V):=by
 obtain⟨a1,a2,a3⟩:=jj.app.1 h1
 obtain⟨b1,b2,b3⟩:=jj.app.1 h2
 have k1:=h.Mo a1 b2 hAD
 have k2:=h.Mo b1 a2 hCB
 refine⟨(hU.append hV).trans ?_,jj.app.2 ⟨sU,sV,fun a ha b hb=>?_⟩⟩
 ·grind [List.append_assoc,List.Perm.append_left,List.Perm.append_right,List.perm_append_comm]
 grind
end
theorem nh(a b:UInt8)(x y:List UInt8):Op.bytesLess (a::x) (b::y)=(decide (a<b)||(a==b&&Op.bytesLess x y)):=rfl
theorem qh:TP Op.bytesLess:=by
 refine⟨fun x=>?_,fun x=>?_⟩
 ·induction x with
  |nil=>intro y h;cases y with
   |nil=>rfl
   |cons b y=>rfl
  |cons a x ih=>
   intro y h
   cases y with
   |nil=>cases h
   |cons b y=>
    rw[nh]at h⊢
    grind
 ·induction x with
  |nil=>intro y z h1 h2;cases z with
   |nil=>rfl
   |cons c z=>cases y with
    |nil=>exact h2
    |cons b y=>rfl
  |cons a x ih=>
   intro y z h1 h2
   cases y with
   |nil=>cases h1
   |cons b y=>
    cases z with
    |nil=>cases h2
    |cons c z=>
     rw[nh]at h1 h2⊢
     grind
section
variable{α:Type}[aP α]
theorem Tq(l:List α){i j:Int}(h:i.toNat≠j.toNat):Ph l i j=Ph l j i:=by grind [Ph,List.set_comm]
theorem RA(P T Y:List α)(x:α){k:Nat}(hk:k<Y.length):Ph (P++(Y.take k++x::Y.drop k)++T) ((P.length+k:Nat):Int) ((P.length+k+1:Nat):Int)=P++(Y.take (k+1)++x::Y.drop (k+1))++T:=by
 have e1:=List.drop_eq_getElem_cons hk
 have:=Hp (P++Y.take k) [] (Y.drop (k+1)++T) x Y[k]
 grind
theorem M0(P T Y:List α)(x:α){k:Nat}(hk:k<Y.length):Ph (P++(Y.take (k+1)++x::Y.drop (k+1))++T) ((P.length+k+1:Nat):Int) ((P.length+k:Nat):Int)=P++(Y.take k++x::Y.drop k)++T:=by
 have e1:=List.drop_eq_getElem_cons hk
 have e2:Y.take (k+1)=Y.take k++[Y[k]]:=by simp
 have lk:(P++Y.take k).length=P.length+k:=by grind
 have:=Hp (P++Y.take k) [] (Y.drop (k+1)++T) Y[k] x
 rw[Tq _ (by grind),e1]
 grind
theorem sR{Y:List α}{k:Nat}{u:α}(hk:k<=Y.length)(h:(Y.take k).getLast?=some u):0<k/\∃h:k -1<Y.length,u=Y[k -1]:=by grind
theorem head_drop{Y:List α}{k:Nat}{v:α}(h:(Y.drop k).head?=some v):∃h:k<Y.length,v=Y[k]:=by grind [List.head?_drop,List.getElem?_eq_some_iff]
theorem jz(P X T:List α){k:Nat}(hk:k<X.length):ix (P++X++T) ((P.length+k:Nat):Int)=X[k]:=by
 rw[gv (by grind)]
 grind
end
end Go.AB
end
section
namespace Go.AB
open Go
theorem iq{P:Program}{live:List (Nat×Bool)}{b:IC}{Q:Exit->St->Prop}{E:St}(n:Nat)(R:Nat->St->Prop)(hn:n<4611686018427387904)(h0:R 0 (E.eQ live))
 (h1:∀k,k<n->∀(J:St->Prop)(τ:St),R k τ->(∀U',R (k+1) U'->J U')->fD P b (og live J Q) τ)(h2:∀(J:St->Prop)(τ:St),R n τ->fD P b (og live J Q) τ):fD P (.loop live b) Q E:=by
 refine kR (body:=fun k:Nat=>if k<n then some (.inl (k+1))else some (.inr ())) (s0:=0) (kf:=fun _=>True) (fun k τ=>k<=n/\R k τ) ⟨Nat.zero_le _,h0⟩ ?_ ⟨(),mU n (fun k=>k) rfl (by omega) (fun k hk=>if_pos hk) (if_neg (Nat.lt_irrefl _)),trivial⟩
 rintro J k τ ⟨hk,hR⟩ hb
 by_cases hlt:k<n
 ·rw[if_pos hlt,bO]at hb
  exact h1 k hlt J τ hR fun U' h'=>hb U' ⟨hlt,h'⟩
 ·obtain rfl:k=n:=by omega
  exact h2 J τ hR
theorem aey{α:Type}[aP α](l:List α)(sp:List AV){n:Nat}(hn:n=aP.w α){j:Int}(h0:0<=j)(h:j<l.length):j.toNat*n+n<=(flat l++sp).length/\views (AB.sub (flat l++sp) (j.toNat*n) n)=aP.cells (ix l j):=by
 subst hn
 have hj:j.toNat<l.length:=by omega
 have hs:=lL l sp (aP.w α) j.toNat 1 rfl (by omega)
 refine⟨?_,?_⟩
 ·rw[List.length_append,aA]
  have:(j.toNat+1)*aP.w α<=l.length*aP.w α:=Nat.mul_le_mul_right _ (by omega)
  rw[Nat.add_mul,Nat.one_mul]at this
  omega
 ·rw[Nat.one_mul]at hs
  rw[hs,List.drop_eq_getElem_cons hj]
  have:ix l j=l[j.toNat]:=by unfold ix;simp[hj]
  rw[this]
  show views (flat [l[j.toNat]])=_
  rw[aN]
  unfold flat
  simp
theorem ahF{α:Type}[aP α](l:List α)(sp:List AV){n:Nat}(hn:n=aP.w α)(x:α){j:Int}(h0:0<=j)(h:j<l.length):setAt (flat l++sp) (j.toNat*n) (aP.cells x)=flat (l.set j.toNat x)++sp:=by
 have hj:j.toNat<l.length:=by omega
 have hs:=mP l [x] sp n j.toNat hn (by simp;omega)
 have e:flat [x]=aP.cells x:=by unfold flat;simp
 rw[e]at hs
 rw[hs,List.set_eq_take_append_cons_drop,if_pos hj]
 simp
theorem EV{α:Type}[aP α](l:List α){n:Nat}(hn:n=aP.w α){j:Int}(h0:0<=j)(h:j<l.length):j.toNat*n+n<=(flat l).length/\views (AB.sub (flat l) (j.toNat*n) n)=aP.cells (ix l j):=by
 have:=aey l [] hn h0 h
 rwa[List.append_nil]at this
theorem JG{α:Type}[aP α](l:List α){n:Nat}(hn:n=aP.w α)(x:α){j:Int}(h0:0<=j)(h:j<l.length):setAt (flat l) (j.toNat*n) (aP.cells x)=flat (l.set j.toNat x):=by
 have:=ahF l [] hn x h0 h
 rwa[List.append_nil,List.append_nil]at this
def Wi(pre cs post:List AV):List AV:=pre++cs++post
@[go_sem]theorem afe(c:AV)(cs r:List AV):Wi [] (c::cs) r=c::Wi [] cs r:=rfl
@[go_sem]theorem agd(r:List AV):Wi [] [] r=r:=rfl
@[go_sem]theorem aff(p cs r:List AV)(a:AV):Wi p cs (a::r)=Wi p (cs++[a]) r:=by simp[Wi]
theorem J6(p cs r:List AV):(Wi p cs r).length=p.length+cs.length+r.length:=by simp[Wi];omega
@[go_sem]theorem ahW(p cs r:List AV)(k n:Nat)(h:k+n<=cs.length):(p.length+k+n<=(Wi p cs r).length)=True:=by rw[J6];exact eq_true (by omega)
@[go_sem]theorem agc(p cs r:List AV)(n:Nat)(h:n<=cs.length):(p.length+n<=(Wi p cs r).length)=True:=by rw[J6];exact eq_true (by omega)
@[go_sem]theorem aay(p cs r:List AV)(k n:Nat)(h:k+n<=cs.length):AB.sub (Wi p cs r) (p.length+k) n=AB.sub cs k n:=by
  unfold AB.sub Wi
  rw[List.append_assoc,<-List.drop_drop,List.drop_left,List.drop_append_of_le_length (by omega),List.take_append_of_le_length (by rw[List.length_drop];omega)]
@[go_sem]theorem af0(p cs r:List AV)(n:Nat)(h:n<=cs.length):AB.sub (Wi p cs r) p.length n=AB.sub cs 0 n:=aay p cs r 0 n (by omega)
theorem yI(p cs r:List AV)(k:Nat)(news:List AV)(h:k+news.length<=cs.length):setAt (Wi p cs r) (p.length+k) news=Wi p (setAt cs k news) r:=by
 unfold setAt Wi
 have e1:(p++cs++r).take (p.length+k)=p++cs.take k:=by rw[List.append_assoc,List.take_append,List.take_of_length_le (by omega),Nat.add_sub_cancel_left,List.take_append_of_le_length (by omega)]
 have e2:(p++cs++r).drop (p.length+k+news.length)=cs.drop (k+news.length)++r:=by rw[List.append_assoc,Nat.add_assoc,<-List.drop_drop,List.drop_left,List.drop_append_of_le_length h]
 rw[e1,e2]
 simp[List.append_assoc]
@[go_sem]theorem SB(p cs r:List AV)(k:Nat)(news:List AV)(h:k+news.length<=cs.length):setAt (Wi p cs r) (p.length+k) news=Wi p (setAt cs k news) r:=yI p cs r k news h
theorem Gb(p cs r:List AV)(k:Nat)(h:k<cs.length):(Wi p cs r)[p.length+k]? =cs[k]? :=by
 unfold Wi
 rw[List.append_assoc,List.getElem?_append_right (by omega),Nat.add_sub_cancel_left,List.getElem?_append_left h]
@[go_sem]theorem YA(p cs r:List AV)(k:Nat)(h:k<cs.length):(Wi p cs r)[p.length+k]? =cs[k]? :=Gb p cs r k h
@[go_sem]theorem Uh(p cs r:List AV)(h:0<cs.length):(Wi p cs r)[p.length]? =cs[0]? :=Gb p cs r 0 h
theorem Pe(p cs r:List AV)(k:Nat)(K:List AV->AV->Prop)(h:k<cs.length):jM (p.length+k) (Wi p cs r) K=jM k cs fun cs' a=>K (Wi p cs' r) a:=by
 unfold jM
 rw[Gb p cs r k h]
 cases cs[k]? with
 |none=>rfl
 |some a=>
  cases a<;>try rfl
  ·rename_i o sz n ds
   show K (setAt (Wi p cs r) (p.length+k) [.sl false sz n ds]) _=K (Wi p (setAt cs k [.sl false sz n ds]) r) _
   rw[yI p cs r k [.sl false sz n ds] (show k+1<=cs.length by omega)]
  ·rename_i tb m es
   show K (setAt (Wi p cs r) (p.length+k) [.sl false 1 m es]) _=K (Wi p (setAt cs k [.sl false 1 m es]) r) _
   rw[yI p cs r k [.sl false 1 m es] (show k+1<=cs.length by omega)]
@[go_sem]theorem SR(p cs r:List AV)(k:Nat)(K:List AV->AV->Prop)(h:k<cs.length):jM (p.length+k) (Wi p cs r) K=jM k cs fun cs' a=>K (Wi p cs' r) a:=Pe p cs r k K h
theorem G6{k:IntKind}{a b:Int}(h:0<=a):0<=j8 k a b/\j8 k a b<=a:=by
 unfold j8
 have hp:(0:Int)<2^(min b.toNat k.bits):=Int.pow_pos (by decide)
 rw[Int.fdiv_eq_ediv_of_nonneg _ (Int.le_of_lt hp)]
 exact⟨Int.ediv_nonneg h (Int.le_of_lt hp),Int.ediv_le_self _ h⟩
theorem Ta{n:Int}(h0:0<=n)(h1:n<256):((iM n).toNat:Int)=n:=by
 unfold iM
 have e:IntKind.u8.wrap n=n:=by
  show n.emod 256=n
  exact Int.emod_eq_of_lt h0 h1
 rw[e]
 show((UInt8.ofNat n.toNat).toNat:Int)=n
 rw[UInt8.toNat_ofNat']
 omega
theorem VY{n:Int}(h0:0<=n)(h1:n<4294967296):((dF n).toNat:Int)=n:=by
 unfold dF
 have e:IntKind.u32.wrap n=n:=by
  show n.emod 4294967296=n
  exact Int.emod_eq_of_lt h0 h1
 rw[e]
 show((UInt32.ofNat n.toNat).toNat:Int)=n
 rw[UInt32.toNat_ofNat']
 omega
@[go_sem]theorem aje(x:UInt8)(k:Int):((iM (j8 .u8 (x.toNat:Int) k)).toNat:Int)=j8 .u8 (x.toNat:Int) k:=by
  have:=G6 (k:=.u8) (a:=(x.toNat:Int)) (b:=k) (by omega)
  have:=x.toNat_lt
  exact Ta (by omega) (by omega)
@[go_sem]theorem aeG(k:Int):((iM (j8 .u8 128 k)).toNat:Int)=j8 .u8 128 k:=by
  have:=G6 (k:=.u8) (a:=128) (b:=k) (by omega)
  exact Ta (by omega) (by omega)
@[go_sem]theorem aiv(x:UInt32)(k:Int):((dF (j8 .u32 (x.toNat:Int) k)).toNat:Int)=j8 .u32 (x.toNat:Int) k:=by
  have:=G6 (k:=.u32) (a:=(x.toNat:Int)) (b:=k) (by omega)
  have:=x.toNat_lt
  exact VY (by omega) (by omega)
attribute[go_sem] Nat.add_zero
@[go_sem]theorem cE{α:Type}(l:List α)(hi:Int):part l 0 hi=l.take hi.toNat:=by
  unfold part
  rw[Int.toNat_zero,List.drop_zero,Int.sub_zero]
@[go_sem]theorem ady(n:Nat):((6:Int)<=((n+6:Nat):Int))=True:=eq_true (by omega)
@[go_sem]theorem agx(l:List UInt8):l.getD 0 0=ix l 0:=rfl
@[go_sem]theorem mI:((0:Int)<=0)=True:=eq_true (by decide)
@[go_sem]theorem aiJ:((0:Int)<=1)=True:=eq_true (by decide)
@[go_sem]theorem aiK:((0:Int)<=2)=True:=eq_true (by decide)
@[go_sem]theorem aiL:((0:Int)<=3)=True:=eq_true (by decide)
@[go_sem]theorem aiM:((0:Int)<=4)=True:=eq_true (by decide)
@[go_sem]theorem aiN:((0:Int)<=6)=True:=eq_true (by decide)
@[go_sem]theorem aiO:((0:Int)<=8)=True:=eq_true (by decide)
@[go_sem]theorem ah9:((0:Int)<=16)=True:=eq_true (by decide)
@[go_sem]theorem aia:((0:Int)<=24)=True:=eq_true (by decide)
structure zt where
 used:Bool
 own:Bool
 buf:bk
def zt.zero:zt:=⟨false,true,⟨[]⟩⟩
def xP(T B o:Nat)(b:zt):AV:=bif b.used then .ref B o else .ng T
def uU(b:zt):AV:=bif b.own then .bb 5 b.buf.b.length (flat b.buf.b)else .sl false 1 b.buf.b.length (flat b.buf.b)
@[go_sem]theorem aaS(T B o:Nat):xP T B o zt.zero=.ng T:=rfl
@[go_sem]theorem aaT:uU zt.zero=.bb 5 0 []:=rfl
@[go_sem]theorem acH(ne:Bool)(vs:List AV):Il ne (.iL vs)=.no:=rfl
structure TE where
instance:aP TE:=⟨1,fun _=>[.lx],.mk,by decide,fun _=>rfl,fun _=>rfl⟩
end Go.AB
end
