/- A part. -/
import Derived.Test.YtplacgnfinmfbaaGreatDoorFr6
import Derived.Defers
import Derived.Test.YtplacgnfinmfbaaGreatDoorRows
import Derived.Test.YtplacgnfinmfbaaGreatDoorCards
import Derived.Test.YtplacgnfinmfbaaGreatDoorTie
import Derived.SevenTiedAt
import Derived.Laws.RangeAny
import Derived.LoopTactic
import Derived.Lib.Bytealg
import Derived.Laws.Externs
import Derived.Lib.Walk
import Derived.Lib.BytesEntry
import Derived.Lib.UnsafeStr
set_option linter.defProp false
set_option linter.unusedSimpArgs false
set_option linter.unusedVariables false
section
namespace Go.AB
open Go
section
variable{P:Program}{n:Nat}
def ZX(P:Program)(f:FuncId)(args:List AV)(s:ae)(Q:List AV->ae->Prop):Prop:=
 ∀(G:Gh)(w:World)(vs:Array Value)(u:FrameMode),cS G w->wV G->bB G w s->vp w G.R args vs->
  CallsD P f vs u w fun e u' w'=>u'=u/\∃v rs s' G',e=.returned v/\Q rs s'/\cS G' w'/\bB G' w' s'/\ri G' w' rs v/\aR G w G' w'
theorem ZX.of{f:FuncId}{res:List kT}{ic:IC}{args:List AV}{s:ae}{Q:List AV->ae->Prop}(hD:vP P n)(hf:m5 P f n res ic=true)(hv:rl args=true)(hn:args.length<=n)
 (hw:gx P ic (yn res Q) (start args s)):ZX P f args s Q:=by
 intro G w vs u hg ho hs ha
 unfold m5 at hf
 split at hf<;>try(cases hf;done)
 rename_i fn hfn
 simp only[Bool.and_eq_true,beq_iff_eq]at hf
 obtain⟨⟨rfl,kC⟩,hf⟩:=hf
 split at hf<;>try(cases hf;done)
 rename_i c hb
 refine callsD_of_wp hfn hb (cV hD ic c G w (yn res Q) _ G _ _ w hf ?_ (qR hg hs ha hv hn) (aR.refl G w) hw)
 intro x G' E' a' w' h hp hq
 have fin:rl (lA E' res)=true/\Q (lA E' res) E'.s->a'.defers=[]/\∃v,(results fn a'.tmps).run P w'=.ok v w'/\∃v' rs s' G'',Ending.returned v=.returned v'/\Q rs s'/\cS G'' w'/\bB G'' w' s'/\ri G'' w' rs v'/\aR G w G'' w':=by
  intro hq
  obtain⟨dY,hQ⟩:=hq
  exact⟨h.ry,Bo kC h hp dY hQ⟩
 cases x with
 |ret=>exact fin hq
 |normal=>exact fin hq
 |_=>exact hq.elim
def Le:List Operand->List Nat->Bool
 |[],[]=>true
 |.tmp t::r,y::ys=>t==y&&Le r ys
 |_,_=>false
def UL(g:Nat)(ys:List Nat):Code->Bool
 |.region _ ops false=>match ops.toList with
  |[⟨none,.defer ⟨.value (.func g'),args,_⟩,_,_,_,none⟩]=>g'==g&&Le args.toList ys
  |_=>false
 |_=>false
def OR(P:Program)(f:FuncId)(n:Nat)(res:List kT)(ic1:IC)(g:Nat)(ys:List Nat)(ic2:IC):Bool:=match P.funcs[f]? with
 |some fn=>fn.ntmps==n&&kl P fn.results.toList res&&(match fn.body with
  |some (.seq c1 (.seq cd c2))=>mr P n c1 ic1&&(UL g ys cd&&(mr P n c2 ic2&&we P g))
  |_=>false)
 |none=>false
def BP(bs:List Nat):List AV:=bs.map fun b=>.ref b 0
theorem BL{G:Gh}{D:List Deferred}{σ:St}{a:Act}{w:World}(h:Inv G n D σ a w):∀(os:List Operand)(ys bs:List Nat),Le os ys=true->ys.map (look σ.e)=BP bs->os.map a.eval=bs.map fun b=>Value.pointer (some ⟨b,0,none⟩)
 |[],[],bs,_,hb=>by
  cases bs with
  |nil=>rfl
  |cons b bs=>cases hb
 |.tmp t::os,y::ys,bs,hc,hb=>by
  cases bs with
  |nil=>cases hb
  |cons b bs=>
   simp only[Le,Bool.and_eq_true,beq_iff_eq]at hc
   obtain⟨rfl,hc⟩:=hc
   rw[List.map_cons]at hb
   injection hb with h1 h2
   rw[List.map_cons,List.map_cons,BL h os ys bs hc h2]
   congr 1
   have hx:cj (.tmp t) (.t t)=true:=by simp[cj]
   have hb:=BR.bn h hx
   have e:xg true σ (.t t)=.ref b 0:=by
    show vK true (look σ.e t)=_
    rw[h1];rfl
   rw[e]at hb
   have hv:VR w G.R (.ref b 0) (a.eval (.tmp t)):=hb
   generalize a.eval (.tmp t)=v at hv
   cases hv
   rfl
 |[],_::_,_,hc,_=>by cases hc
 |.tmp _::_,[],_,hc,_=>by cases hc
 |.const _::_,_,_,hc,_=>by cases hc
 |.global _::_,_,_,hc,_=>by cases hc
 |.func _::_,_,_,hc,_=>by cases hc
def TQ(P:Program)(g:Nat)(bs:List Nat)(res:List kT)(Q:List AV->ae->Prop):Exit->St->Prop
 |.ret,σ=>ZX P g (BP bs) σ.s fun rs s'=>ku rs=true/\rl (lA {σ with s:=s'} res)=true/\Q (lA {σ with s:=s'} res) s'
 |_,_=>False
def FN.ofD{f:FuncId}{res:List kT}{ic1 ic2:IC}{g:Nat}{ys:List Nat}{args:List AV}{s:ae}{Q:List AV->ae->Prop}(hD:vP P n)(hf:OR P f n res ic1 g ys ic2=true)(hv:rl args=true)(hn:args.length<=n)
 (hw:gx P ic1 (fun x σ=>x=.normal/\∃bs,ys.map (look σ.e)=BP bs/\gx P ic2 (TQ P g bs res Q) σ) (start args s)):FN P f args s Q:=by
 intro G w vs hg ho hs ha
 unfold OR at hf
 split at hf<;>try(cases hf;done)
 rename_i fn hfn
 simp only[Bool.and_eq_true,beq_iff_eq]at hf
 obtain⟨⟨rfl,kC⟩,hf⟩:=hf
 split at hf<;>try(cases hf;done)
 rename_i c1 cd c2 hb
 simp only[Bool.and_eq_true]at hf
 obtain⟨k1,kd,k2,kg⟩:=hf
 refine calls_of_wp_defers hfn hb (wp_seq (cV hD ic1 c1 G w (fun x σ=>x=.normal/\∃bs,ys.map (look σ.e)=BP bs/\gx P ic2 (TQ P g bs res Q) σ) _ G _ _ w k1 ?_ (qR hg hs ha hv hn) (aR.refl G w) hw))
 rintro x G1 σ1 a1 w1 h1 hp1 ⟨rfl,bs,hbs,hw2⟩
 show(Code.seq cd c2).wp P _ a1 w1
 refine wp_seq ?_
 unfold UL at kd
 split at kd<;>try(cases kd;done)
 rename_i id ops
 split at kd<;>try(cases kd;done)
 rename_i g' UJ aez dty aey aew aeY
 simp only[Bool.and_eq_true,beq_iff_eq]at kd
 obtain⟨rfl,kd⟩:=kd
 have hev:=BL h1 _ _ _ kd hbs
 let d:Deferred:={target:=.fn (.func g') #[],args:=(bs.map fun b=>Value.pointer (some ⟨b,0,none⟩)).toArray}
 refine wp_region_list ?_
 rw[aeY]
 show x4 P ops _ a1 w1 _ _
 refine CE (by simp[Region.wanted]) ?_
 have cG:(execOp a1.eval {dst:=none,op:=.defer {callee:=.value (.func g'),args:=UJ,argTypes:=aez},type:=dty,pos:=aey,after:=aew,guard:=none}).run P w1=.ok (.defer d) w1:=by
  have e2:UJ.map a1.eval=(bs.map fun b=>Value.pointer (some ⟨b,0,none⟩)).toArray:=by
   apply Array.ext'
   simp[hev]
  simp[execOp,resolve,Act.eval,Deferred.ofValue,e2,d]
 unfold Oper.wp
 rw[cG]
 have h1':Inv G1 fn.ntmps [d] σ1 {a1 with defers:=[d]} w1:=⟨h1.bF,h1.store,h1.size,h1.da,h1.EH,h1.Kx,rfl⟩
 show c2.wp P _ {a1 with defers:=d::a1.defers} w1
 rw[h1.ry]
 refine cV hD ic2 c2 G w (TQ P g' bs res Q) _ G1 σ1 _ w1 k2 ?_ h1' hp1 hw2
 intro x G2 σ2 a2 w2 h2 hp2 hq
 cases x with
 |ret=>
  show Leaves P fn a2.tmps _ a2.defers .returning w2
  rw[h2.ry]
  unfold we at kg
  split at kg<;>try(cases kg;done)
  rename_i gfn hgf
  rw[Bool.and_eq_true]at kg
  refine leaves_cons B_ (f:=g') (args:=(bs.map fun b=>Value.pointer (some ⟨b,0,none⟩)).toArray) (by simp[invoke,mh hgf kg.1 kg.2]) ?_
  have Iv:vp w2 G2.outer.R (BP bs) (bs.map fun b=>Value.pointer (some ⟨b,0,none⟩)).toArray:=by
   refine⟨by simp[BP],fun j c u hc hu=>?_⟩
   unfold BP at hc
   rw[List.getElem?_map]at hc
   rw[List.getElem?_toArray,List.getElem?_map]at hu
   cases hj:bs[j]? with
   |none=>rw[hj]at hc;cases hc
   |some b=>
    rw[hj]at hc hu
    injection hc with hc;injection hu with hu
    subst hc hu
    exact .ref b 0
  refine CallsD.mono (hq G2.outer w2 _ .returning h2.mG.1 (pB G2) h2.mG.2 Iv) ?_
  rintro e u' w3 ⟨rfl,v,rs,s',G3,rfl,⟨hok,dY,hQ⟩,hg3,hs3,hr3,hp3⟩
  obtain⟨G4,h4,hp4⟩:=h2.behind (d:=none) rfl hok hg3 hs3 hr3 hp3
  exact Bo kC h4 (hp2.trans hp4) dY hQ
 |_=>exact hq.elim
end
end Go.AB
end
section
namespace Go.Proofs.YtplacgnfinmfbaaGreatDoor
open Go
set_option maxRecDepth 100000
theorem RC:Rows.frameParsesRow.wfByText (OpenSpec.ofChange Rows.frameParsesSpec)=true:=by kernel_rfl
theorem RD:Tryz.pinned.checked.prog.mainIs=some (true, "b2177a98a635e4c490ed61a895036120674d964ff060c9bdf97e9f060d3466ee".toList):=by kernel_rfl
theorem RE:Tryz.prog.funcNamed "catchword/catchwordlaw14.FrameParses" =some 3:=by kernel_rfl
theorem RF:false=Tryz.pinned.checked.prog.looks []:=by kernel_rfl
theorem RG:Tryz.f3.params= #[22,3,4]:=by kernel_rfl
theorem RH:([22,3,4].all fun u=>!Tryz.prog.wantsStandIn u)=true:=by kernel_rfl
theorem RJ:false=Rows.frameParsesRow.goesBy Tryz.pinned.checked.prog:=by kernel_rfl
end Go.Proofs.YtplacgnfinmfbaaGreatDoor
end
section
namespace Go.AB
open Go
@[go_sem]abbrev sF{α:Type}[bz α](n:Nat)(l:List α):AV:=.sl false n l.length (flat l)
@[go_sem]abbrev sT{α:Type}[bz α](n:Nat)(l:List α):AV:=.sl true n l.length (flat l)
def E0{S O:Type}{body:S->Option (S⊕O)}(I:S->Prop)(μ:S->Nat)(JJ:O->Prop)
 (step:∀s,I s->∃x,body s=some x/\(match x with|.inl t=>I t/\μ t<μ s|.inr o=>JJ o)):∀(n:Nat)(s:S),I s->μ s<n->∃o,cE body n s=some o/\JJ o
 |0,_,_,h=>absurd h (Nat.not_lt_zero _)
 |n+1,s,hi,hn=>by
  obtain⟨x,hx,h⟩:=step s hi
  cases x with
  |inl t=>
   obtain⟨o,h1,h2⟩:=E0 I μ JJ step n t h.1 A_
   grind [cE]
  |inr o=>grind [cE]
def cF{S O:Type}{body:S->Option (S⊕O)}{s0:S}(I:S->Prop)(μ:S->Nat)(JJ:O->Prop)(h0:I s0)(hμ:μ s0<18446744073709551616)
 (step:∀s,I s->∃x,body s=some x/\(match x with|.inl t=>I t/\μ t<μ s|.inr o=>JJ o)):∃o,iter body s0=some o/\JJ o:=
 E0 I μ JJ step _ s0 h0 hμ
def iter_eq{S O:Type}{body:S->Option (S⊕O)}{s0:S}{o:O}(I:S->Prop)(μ:S->Nat)(h0:I s0)(hμ:μ s0<18446744073709551616)
 (step:∀s,I s->(∃t,body s=some (.inl t)/\I t/\μ t<μ s)\/body s=some (.inr o)):iter body s0=some o:=by
 obtain⟨p,h1,h2⟩:=cF I μ (fun p=>p=o) h0 hμ fun s hs=>by
  rcases step s hs with⟨t,h1,h2⟩|h1
  ·exact⟨_,h1,h2⟩
  grind
 rw[h1,h2]
theorem ak{n:Int}(h1:-9223372036854775808<=n)(h2:n<=9223372036854775807):ao n=n:=by
 unfold ao IntKind.wrap
 have:(2^IntKind.i64.bits:Int)=18446744073709551616:=BY
 have h3:(2^(IntKind.i64.bits -1):Int)=9223372036854775808:=BY
 rw[this,h3]
 simp only[IntKind.signed,Bool.true_and,decide_eq_true_eq]
 grind
@[simp]theorem aB{α β:Type}(a:α)(f:α->Option β):aL (some a) f=f a:=rfl
@[simp]theorem aad{α β:Type}(f:α->Option β):aL none f=none:=rfl
@[simp]theorem rJ{α β:Type}(a:α)(f:α->Option β):jn (some a) f=f a:=rfl
@[simp]theorem adt{α β:Type}(f:α->Option β):jn none f=none:=rfl
@[simp]theorem aeo{X Y α:Type}(x:X)(F:X->Option α)(G:Y->Option α):lJ (some (.inl x)) F G=F x:=rfl
@[simp]theorem aep{X Y α:Type}(y:Y)(F:X->Option α)(G:Y->Option α):lJ (some (.inr y)) F G=G y:=rfl
@[simp]theorem agv{X Y α:Type}(x:X)(F:X->Option α)(G:Y->Option α):nD (some (.inl x)) F G=F x:=rfl
@[simp]theorem agw{X Y α:Type}(y:Y)(F:X->Option α)(G:Y->Option α):nD (some (.inr y)) F G=G y:=rfl
@[simp]theorem agx{α:Type}(o:Option α):jn o (fun a=>some a)=o:=by cases o<;>rfl
@[simp]theorem aeq{α:Type}(o:Option α):aL o (fun a=>some a)=o:=by cases o<;>rfl
theorem aP{α:Type}{c:Prop}[Decidable c](h:c)(o:Option α):aI c o=o:=if_pos h
@[simp]theorem Fb{α:Type}[Decidable True](o:Option α):aI True o=o:=if_pos trivial
@[simp]theorem si{α:Type}(z:α)(o:Option α):eu true z o=o:=rfl
@[simp]theorem Hw{α:Type}(z:α)(o:Option α):eu false z o=some z:=rfl
@[simp]theorem aai{A B C:Type}(f:A->C)(g:B->C)(a:A):ir f g (.inl a)=f a:=rfl
@[simp]theorem aaj{A B C:Type}(f:A->C)(g:B->C)(b:B):ir f g (.inr b)=g b:=rfl
theorem U7{α:Type}[bz α]{l:List α}{i:Int}(h:i.toNat<l.length):ix l i=l[i.toNat]:=by grind [ix,List.getElem?_eq_getElem]
theorem eK{α:Type}[bz α]{l:List α}{k:Nat}(h:k<l.length):ix l (k:Int)=l[k]:=by grind [U7]
theorem Ko{α:Type}[bz α]{l:List α}{k:Nat}{a:α}(h:l[k]? =some a):ix l (k:Int)=a:=by grind [ix]
set_option maxRecDepth 4000
open Go.Proofs.Tryz (prog)
open Go.RowKit
def Dw{w:World}{R:Nat->Nat}{a b:AV}{vs:Array Value}(h:vp w R [a,b] vs):∃v0 v1,vs= #[v0,v1]/\VR w R a v0/\VR w R b v1:=by
 obtain⟨hl,hr⟩:=h
 obtain⟨l⟩:=vs
 match l,hl with
 |[v0,v1],_=>exact⟨v0,v1,rfl,hr 0 _ _ rfl rfl,hr 1 _ _ rfl rfl⟩
 |[],hl=>simp at hl
 |[_],hl=>simp at hl
 |_::_::_::_,hl=>simp at hl
def Jy{w:World}{R:Nat->Nat}{a:AV}{vs:Array Value}(h:vp w R [a] vs):∃v0,vs= #[v0]/\VR w R a v0:=by
 obtain⟨hl,hr⟩:=h
 obtain⟨l⟩:=vs
 match l,hl with
 |[v0],_=>exact⟨v0,rfl,hr 0 _ _ rfl rfl⟩
 |[],hl=>simp at hl
 |_::_::_,hl=>simp at hl
def AJ(a:ByteArray)(c:Int)(w:World):Calls prog 187 #[.string a,.int .u8 c] w fun e w'=>e=.returned (.int .i64 (Lib.indexByte a.data.toList c.toNat.toUInt8))/\w'=w:=by
 have mixed:=mix
 have t3:prog.underlying 3=some (.int .i64):=C_
 have u3:=run_underlying t3
 go_enter Go.Proofs.Tryz.func187,(show Go.Proofs.Tryz.f187.ntmps=8 from rfl)
 go_wp2
 rw[run_callFunc_extern Go.Proofs.Tryz.func235 C_ C_ C_ (e:=Extern.BytealgIndexByte.indexByte) C_,Lib.run_indexByteString]
 simp only[Result.andThen]
 rw[Oper.upon_value]
 go_wp2
 go_ret
 exact⟨rfl,rfl⟩
def gu(s:aC)(c:UInt8):Option Int:=some (Lib.indexByte s.b c)
def qb{a:aC}{c:UInt8}{s:ae}{Q:List AV->ae->Prop}(h:ok (gu a c) fun r=>Q [.int .i64 r] s):FN prog 187 [.str a.b,.int .u8 c.toNat] s Q:=by
 unfold gu at h
 rw[bK]at h
 intro G w vs h1 h2 h3 h4
 obtain⟨v0,v1,rfl,k0,k1⟩:=Dw h4
 rw[VR.jC k0,VR.dI k1]
 refine(AJ _ _ w).mono fun e w'⟨he,hw⟩=>?_
 subst hw
 refine⟨_,_,s,G,he,h,h1,h3,⟨?_,trivial⟩,aR.refl G w'⟩
 have e:((c.toNat:Int).toNat).toUInt8=c:=B_
 rw[e]
 exact .int _ _
def Gt(a:ByteArray)(c:UInt8)(w:World):Calls prog 289 #[.string a,.string ⟨#[c]⟩] w fun e w'=>e=.returned (.int .i64 (Lib.indexByte a.data.toList c))/\w'=w:=by
 have mixed:=mix
 have t3:prog.underlying 3=some (.int .i64):=C_
 have u3:=run_underlying t3
 have t9:prog.underlying 9=some .string:=C_
 have u9:=run_underlying t9
 go_enter Go.Proofs.Tryz.func289,(show Go.Proofs.Tryz.f289.ntmps=143 from rfl)
 go_wp2
 ·rename_i hc
  go_ret
  refine⟨?_,rfl⟩
  have e:a.toList=[c]:=(eq_of_beq hc).symm
  have e2:a.data.toList=[c]:=by
   obtain⟨⟨l⟩⟩:=a
   simpa using e
  rw[e2]
  simp[Lib.indexByte]
 ·rw[run_callFunc_extern Go.Proofs.Tryz.func235 C_ C_ C_ (e:=Extern.BytealgIndexByte.indexByte) C_,Lib.run_indexByteString]
  simp only[Result.andThen]
  rw[Oper.upon_value]
  go_wp2
  go_ret
  exact⟨rfl,rfl⟩
def gP(s sub:aC):Option Int:=aI (sub.b.length=1) (some (Lib.indexByte s.b (ix sub.b 0)))
def uc{a b:aC}{s:ae}{Q:List AV->ae->Prop}(h:ok (gP a b) fun r=>Q [.int .i64 r] s):FN prog 289 [.str a.b,.str b.b] s Q:=by
 unfold gP at h
 rw[il,bK]at h
 obtain⟨hl,h⟩:=h
 obtain⟨c,hc⟩:∃c,b.b=[c]:=List.length_eq_one_iff.1 hl
 rw[hc]at h⊢
 intro G w vs h1 h2 h3 h4
 obtain⟨v0,v1,rfl,k0,k1⟩:=Dw h4
 rw[VR.jC k0,VR.jC k1]
 refine(Gt _ c w).mono fun e w'⟨he,hw⟩=>?_
 subst hw
 exact⟨_,_,s,G,he,h,h1,h3,⟨.int _ _,trivial⟩,aR.refl G w'⟩
def cD(c:UInt8):Bool:=decide (48<=c.toNat)&&decide (c.toNat<=57)
def E1{G:Gh}{w:World}{s:ByteArray}{pos:Nat}(h:cS G w):cS (G.wT w.heap.size .none 0) (w.iter s pos)/\aR G w (G.wT w.heap.size .none 0) (w.iter s pos)/\(∀{st:ae},bB G w st->bB (G.wT w.heap.size .none 0) (w.iter s pos) st):=by
 obtain⟨q1,q2,q3⟩:=gE h (.stringIter s pos) .none 0
 refine⟨q1,q2,fun hs=>hs.mono h q2 (fun b hb=>?_) (fun b c j _ hc=>?_)⟩
 ·obtain⟨k1,k2,k3⟩:=q3 b iF
  exact⟨k1.trans hb,k2,k3⟩
 ·obtain⟨k1,k2,k3⟩:=q3 c (by rw[hc];simp)
  exact⟨k1.trans hc,k2,k3⟩
theorem Lp(s:ByteArray)(pos:Nat)(h:pos<s.size):s.data.toList.drop pos=(s[pos]'h)::s.data.toList.drop (pos+1):=by
 have hl:pos<s.data.toList.length:=IN
 rw[List.drop_eq_getElem_cons hl]
 rfl
def Ms(s:ByteArray)(w:World){r:Bool}(hr:s.data.toList.all cD=r):Calls prog 219 #[.string s] w fun e w'=>e=.returned (.bool r)/\∃pos,w'=w.iter s pos:=by
 have mixed:=mix
 have t3:prog.underlying 3=some (.int .i64):=C_
 have u3:=run_underlying t3
 have t9:prog.underlying 9=some .string:=C_
 have u9:=run_underlying t9
 go_enter Go.Proofs.Tryz.func219,(show Go.Proofs.Tryz.f219.ntmps=13 from rfl)
 go_wp2
 go_loopw [] (fun w'=>∃pos,w'=w.iter s pos/\(s.data.toList.drop pos).all cD=r) (fun w'=>s.size -w'.iterPos w.heap.size)
 case atStart=>exact⟨0,rfl,hr⟩
 case round=>
  obtain⟨pos,rfl,dY⟩:=hrel
  by_cases hp:pos<s.size
  ·rw[Lp s pos hp,List.all_cons]at dY
   by_cases ha:(s[pos]'hp).toNat<128
   ·have hnx:∀ty,(Instr.next (.pointer (some ⟨w.heap.size,0,none⟩)) true ty).run prog (w.iter s pos)=_:=fun ty=>run_next_ascii w s pos ty hp ha
    generalize(s[pos]'hp)=c at hnx dY ha
    go_wp2
    all_goals first
     |(go_ret
       have hc:cD c=false:=j_
       rw[hc]at dY
       rw[<-dY]
       exact⟨rfl,_,rfl⟩)
     |(refine⟨⟨pos+1,rfl,?_⟩,AT⟩
       have hc:cD c=true:=j_
       rw[hc,Bool.true_and]at dY
       exact dY)
   ·have hnx:∀ty,(Instr.next (.pointer (some ⟨w.heap.size,0,none⟩)) true ty).run prog (w.iter s pos)=_:=fun ty=>run_next_any w s pos ty hp
    have hd:=(decode_high s pos hp AT).1
    have hd2:=decode_le s pos
    have hc:cD (s[pos]'hp)=false:=j_
    rw[hc]at dY
    generalize(Utf8.decode s pos).1=d at hnx hd hd2
    go_wp2
    all_goals first
     |omega
     |(go_ret
       rw[<-dY]
       exact⟨rfl,_,rfl⟩)
     |(exfalso;omega)
  ·have hnx:∀ty,(Instr.next (.pointer (some ⟨w.heap.size,0,none⟩)) true ty).run prog (w.iter s pos)=_:=fun ty=>run_next_end w s pos ty hp
   rw[List.drop_eq_nil_of_le (by simpa using(by omega:s.size<=pos))]at dY
   go_wp2
   go_ret
   rw[<-dY]
   exact⟨rfl,_,rfl⟩
def nQ(s:aC):Option Bool:=some (s.b.all cD)
def CD{a:aC}{s:ae}{Q:List AV->ae->Prop}(h:ok (nQ a) fun r=>Q [.bool r] s):FN prog 219 [.str a.b] s Q:=by
 unfold nQ at h
 rw[bK]at h
 intro G w vs h1 h2 h3 h4
 obtain⟨v0,rfl,k0⟩:=Jy h4
 rw[VR.jC k0]
 refine(Ms ⟨a.b.toArray⟩ w (r:=a.b.all cD) B_).mono fun e w'⟨he,pos,hw⟩=>?_
 subst hw
 obtain⟨q1,q2,q3⟩:=E1 (s:=⟨a.b.toArray⟩) (pos:=pos) h1
 exact⟨_,_,s,_,he,h,q1,q3 h3,⟨.bool _,trivial⟩,q2⟩
end Go.AB
end
section
set_option maxRecDepth 4000
namespace Go.AB
open Go Go.RowKit
open Go.Proofs.Tryz (prog)
def gH(st:Int×Bool)(c:UInt8):Int×Bool:=
 let over:=st.2||decide (st.1>(2147483647 -((c.toNat:Int) -48)).tdiv 10)
 (if over then st.1 else 10*st.1+((c.toNat:Int) -48),over)
def ml:List UInt8->Int×Bool->Int×Int
 |[],st=>if st.2 then(0,5)else(st.1,0)
 |c::l,st=>if cD c then ml l (gH st c)else(0,11)
def yH(r:Int×Int)(l:List UInt8)(v4 v5:Value):Prop:=∃(n:Int)(over:Bool),v4=.int .i64 n/\v5=.bool over/\0<=n/\n<=2147483647/\ml l (n,over)=r
theorem yH.step{r:Int×Int}{c:UInt8}{l:List UInt8}{n m:Int}{over o:Bool}(hd:48<=(c.toNat:Int)/\(c.toNat:Int)<=57)(h0:0<=n)(h1:n<=2147483647)(h:ml l (gH (n,over) c)=r)
 (ho:o=(over||decide (n>(2147483647 -((c.toNat:Int) -48)).tdiv 10)))(hm:m=if o then n else 10*n+((c.toNat:Int) -48)):yH r l (.int .i64 m) (.bool o):=by
 subst ho;subst hm
 refine⟨_,_,rfl,rfl,?_,?_,h⟩
 ·split<;>omega
 ·split
  ·omega
  ·rename_i hh
   have hh:¬n>(2147483647 -((c.toNat:Int) -48)).tdiv 10:=by simp at hh;omega
   rw[Int.tdiv_eq_ediv_of_nonneg AT]at hh
   omega
theorem Ie{c:Int}(hd:48<=c/\c<=57):((((2147483647 -(((c -48+2147483648)% 4294967296 -2147483648+9223372036854775808)% 18446744073709551616 -9223372036854775808)+9223372036854775808)% 18446744073709551616 -9223372036854775808).tdiv 10+9223372036854775808)% 18446744073709551616 -9223372036854775808)=(2147483647 -(c -48)).tdiv 10:=by
 have e1:((c -48+2147483648)% 4294967296 -2147483648+9223372036854775808)% 18446744073709551616 -9223372036854775808=c -48:=AT
 rw[e1]
 have e2:(2147483647 -(c -48)+9223372036854775808)% 18446744073709551616 -9223372036854775808=2147483647 -(c -48):=AT
 rw[e2,Int.tdiv_eq_ediv_of_nonneg AT]
 omega
def Ox{c n:Int}(hd:48<=c/\c<=57)(h0:0<=n)(h1:n<=2147483647):((10*n+9223372036854775808)% 18446744073709551616 -9223372036854775808+(((c -48+2147483648)% 4294967296 -2147483648+9223372036854775808)% 18446744073709551616 -9223372036854775808)+9223372036854775808)% 18446744073709551616 -9223372036854775808=10*n+(c -48):=AT
set_option maxHeartbeats 40000000 in
def Ga(s:ByteArray)(w:World){r:Int×Int}(hr:(if s.data.toList=[]then(0,11)else ml s.data.toList (0,false))=r):Calls prog 220 #[.string s] w fun e w'=>e=.returned (.tuple #[.int .i64 r.1,.int .i64 r.2])/\(w'=w\/∃pos,w'=w.iter s pos):=by
 have mixed:=mix
 have t3:prog.underlying 3=some (.int .i64):=C_
 have u3:=run_underlying t3
 have t9:prog.underlying 9=some .string:=C_
 have u9:=run_underlying t9
 go_enter Go.Proofs.Tryz.func220,(show Go.Proofs.Tryz.f220.ntmps=36 from rfl)
 go_wp2
 ·have hq:= ‹s.toList.isEmpty=true›
  have hc:s.data.toList=[]:=by
   obtain⟨⟨l⟩⟩:=s
   simpa using hq
  rw[if_pos hc]at hr
  subst hr
  go_ret2
  exact⟨rfl,.inl rfl⟩
 have hq:= ‹s.toList.isEmpty=false›
 have hc:s.data.toList≠[]:=by
  obtain⟨⟨l⟩⟩:=s
  simpa using hq
 rw[if_neg hc]at hr
 go_loopw [4,5] (fun v4 v5 w'=>∃(pos:Nat),w'=w.iter s pos/\yH r (s.data.toList.drop pos) v4 v5) (fun _ _ w'=>s.size -w'.iterPos w.heap.size)
 case atStart=>exact⟨0,rfl,0,false,rfl,rfl,AT,AT,hr⟩
 case round=>
  obtain⟨pos,rfl,n,over,rfl,rfl,hn0,hn1,dY⟩:=hrel
  by_cases hp:pos<s.size
  ·rw[Lp s pos hp,ml]at dY
   by_cases ha:(s[pos]'hp).toNat<128
   ·have hnx:∀ty,(Instr.next (.pointer (some ⟨w.heap.size,0,none⟩)) true ty).run prog (w.iter s pos)=_:=fun ty=>run_next_ascii w s pos ty hp ha
    generalize(s[pos]'hp)=c at hnx dY ha
    by_cases hdig:48<=(c.toNat:Int)/\(c.toNat:Int)<=57
    ·have hc:cD c=true:=j_
     rw[if_pos hc]at dY
     cases over<;>go_wp2
     all_goals first
      |(exfalso;omega)
      |(refine⟨⟨_,_,_,_,⟨pos+1,rfl,?_⟩,rfl,rfl,rfl,rfl⟩,AT⟩
        first
         |exact yH.step hdig hn0 hn1 dY rfl rfl
         |(have hx:= ‹(!decide (_<n))=true›
           simp only[Bool.not_eq_true']at hx
           refine yH.step hdig hn0 hn1 dY (by rw[Ie hdig];rfl) ?_
           rw[hx]
           exact Ox hdig hn0 hn1)
         |(have hx:= ‹(!decide (_<n))=false›
           simp only[Bool.not_eq_false']at hx
           refine yH.step hdig hn0 hn1 dY (by rw[Ie hdig];rfl) ?_
           rw[hx]
           rfl))
    ·have hc:cD c=false:=j_
     rw[hc]at dY
     have dY:((0:Int),(11:Int))=r:=dY
     subst dY
     cases over<;>go_wp2
     all_goals first
      |(exfalso;omega)
      |(go_ret2
        exact⟨rfl,.inr ⟨_,rfl⟩⟩)
   ·have hnx:∀ty,(Instr.next (.pointer (some ⟨w.heap.size,0,none⟩)) true ty).run prog (w.iter s pos)=_:=fun ty=>run_next_any w s pos ty hp
    have hd:=(decode_high s pos hp AT).1
    have hd2:=decode_le s pos
    have hc:cD (s[pos]'hp)=false:=j_
    rw[hc]at dY
    have dY:((0:Int),(11:Int))=r:=dY
    subst dY
    generalize(Utf8.decode s pos).1=d at hnx hd hd2
    cases over<;>go_wp2
    all_goals first
     |(exfalso;omega)
     |(go_ret2
       exact⟨rfl,.inr ⟨_,rfl⟩⟩)
  ·have hnx:∀ty,(Instr.next (.pointer (some ⟨w.heap.size,0,none⟩)) true ty).run prog (w.iter s pos)=_:=fun ty=>run_next_end w s pos ty hp
   rw[List.drop_eq_nil_of_le (by simpa using(by omega:s.size<=pos))]at dY
   cases over<;>go_wp2
   all_goals(go_ret2;subst dY;exact⟨rfl,.inr ⟨_,rfl⟩⟩)
def mF(s:aC):Option (Int×Int):=some (if s.b=[]then(0,11)else ml s.b (0,false))
def vE{a:aC}{s:ae}{Q:List AV->ae->Prop}(h:ok (mF a) fun r=>Q [.int .i64 r.1,.int .i64 r.2] s):FN prog 220 [.str a.b] s Q:=by
 unfold mF at h
 rw[bK]at h
 intro G w vs h1 h2 h3 h4
 obtain⟨v0,rfl,k0⟩:=Jy h4
 rw[VR.jC k0]
 refine(Ga ⟨a.b.toArray⟩ w (r:=if a.b=[]then(0,11)else ml a.b (0,false)) B_).mono fun e w'⟨he,hw⟩=>?_
 generalize(if a.b=[]then((0:Int),(11:Int))else ml a.b (0,false))=r at h he
 have kC:∀(G':Gh)(w':World),ri G' w' [.int .i64 r.1,.int .i64 r.2] (.tuple #[.int .i64 r.1,.int .i64 r.2]):=fun G' w'=>⟨_,rfl,rfl,fun j x y hx hy=>by
  match j,hx,hy with
  |0,hx,hy=>injection hx with hx;injection hy with hy;subst hx;subst hy;exact⟨.int _ _,trivial⟩
  |1,hx,hy=>injection hx with hx;injection hy with hy;subst hx;subst hy;exact⟨.int _ _,trivial⟩
  |_+2,hx,_=>simp at hx⟩
 rcases hw with hw|⟨pos,hw⟩
 ·subst hw
  exact⟨_,_,s,G,he,h,h1,h3,kC _ _,aR.refl G w'⟩
 ·subst hw
  obtain⟨q1,q2,q3⟩:=E1 (s:=⟨a.b.toArray⟩) (pos:=pos) h1
  exact⟨_,_,s,_,he,h,q1,q3 h3,kC _ _,q2⟩
end Go.AB
end
section
set_option maxRecDepth 4000
namespace Go.AB
open Go
open Go.Proofs.Tryz (prog)
open Go.RowKit
def Js{P:Program}(a:Addr)(cap:Nat)(c:Int)(w:World):(Extern.BytealgIndexByte.indexByte #[.slice (some a) 0 cap,.int .u8 c]).run P w=.ok (.int .i64 (-1)) w:=rfl
def pT{v:Value}{cv r:Int}{w:World}(hr:(Extern.BytealgIndexByte.indexByte #[v,.int .u8 cv]).run prog w=.ok (.int .i64 r) w):Calls prog 169 #[v,.int .u8 cv] w fun e w'=>e=.returned (.int .i64 r)/\w'=w:=by
 have mixed:=mix
 go_enter Go.Proofs.Tryz.func169,(show Go.Proofs.Tryz.f169.ntmps=8 from rfl)
 go_wp2
 rw[run_callFunc_extern Go.Proofs.Tryz.func223 C_ C_ C_ (e:=Extern.BytealgIndexByte.indexByte) C_,hr]
 simp only[Result.andThen]
 rw[Oper.upon_value]
 go_wp2
 go_ret
 exact⟨rfl,rfl⟩
theorem BD:∀l:List UInt8,Lib.bytesOf (l.map fun c=>(c.toNat:Int))=l
 |[]=>rfl
 |c::l=>by
  have h:=BD l
  unfold Lib.bytesOf at h⊢
  rw[List.map_cons,List.map_cons,h]
  congr 1
  simp
def fI(s:List UInt8)(c:UInt8):Option Int:=some (Lib.indexByte s c)
def vX{a:List UInt8}{c:UInt8}{s:ae}{Q:List AV->ae->Prop}(h:ok (fI a c) fun r=>Q [.int .i64 r] s):FN prog 169 [.sl false 1 a.length (flat a),.int .u8 c.toNat] s Q:=by
 unfold fI at h
 rw[bK]at h
 intro G w vs h1 h2 h3 h4
 obtain⟨v0,v1,rfl,k0,k1⟩:=Dw h4
 rw[VR.dI k1]
 have ec:((c.toNat:Int).toNat).toUInt8=c:=B_
 have fin:∀(e:Ending)(w':World)(r:Int),r=Lib.indexByte a c->e=.returned (.int .i64 r)/\w'=w->∃v rs s' G',e=.returned v/\Q rs s'/\cS G' w'/\bB G' w' s'/\ri G' w' rs v/\aR G w G' w':=by
  rintro e w' r hr ⟨he,hw⟩
  subst hw;subst hr
  exact⟨_,_,s,G,he,h,h1,h3,⟨.int _ _,trivial⟩,aR.refl G w'⟩
 have e0:∀b:List UInt8,a=[]->Lib.indexByte a c=-1:=fun _ e=>by subst e;rfl
 rcases VR.jd k0 with⟨(e|⟨_,ad,cap,e⟩),h0,_⟩|⟨b,off,cap,e,hcl,hRb,gv,hat⟩
 ·subst e
  have ha:a=[]:=List.eq_nil_of_length_eq_zero h0
  exact(pT (Lib.run_indexByteNil w 0 0 _)).mono fun e w' hh=>fin e w' _ (e0 a ha).symm hh
 ·subst e
  have ha:a=[]:=List.eq_nil_of_length_eq_zero h0
  exact(pT (Js ad cap _ w)).mono fun e w' hh=>fin e w' _ (e0 a ha).symm hh
 ·subst e
  obtain⟨u,u1,u2,_⟩:=hat
  have oA:∀i,i<a.length->w.cell? ⟨b,off+i,none⟩=some (.int .u8 ((a.map fun c=>(c.toNat:Int)).getD i 0)):=by
   intro i hi
   have hfj:(flat a)[i]? =some (.int .u8 (a[i]).toNat):=by
    have hm:∀l:List UInt8,flat l=l.map fun c=>AV.int .u8 c.toNat:=fun l=>by
     induction l with
     |nil=>rfl
     |cons c l ih=>rw[List.map_cons,<-ih];rfl
    rw[hm,List.getElem?_map,List.getElem?_eq_getElem hi];rfl
   rw[u1 i _ hfj,VR.dI (u2 i _ hfj)]
   simp[List.getD_eq_getElem?_getD,hi]
  refine(pT (Lib.run_indexByteSlice w b off a.length cap (a.map fun c=>(c.toNat:Int)) B_ oA _)).mono fun e w' hh=>fin e w' _ ?_ hh
  rw[BD,ec]
end Go.AB
end
section
namespace Go.AB
open Go
@[go_sem]theorem abq(l:List UInt8)(hi:Int):(l.drop 1).take (hi -1).toNat=part l 1 hi:=rfl
def Wi(pre cs post:List AV):List AV:=pre++cs++post
@[go_sem]theorem adb(c:AV)(cs r:List AV):Wi [] (c::cs) r=c::Wi [] cs r:=rfl
@[go_sem]theorem aej(r:List AV):Wi [] [] r=r:=rfl
@[go_sem]theorem ade(p cs r:List AV)(a:AV):Wi p cs (a::r)=Wi p (cs++[a]) r:=by simp[Wi]
theorem JL(p cs r:List AV):(Wi p cs r).length=p.length+cs.length+r.length:=by simp[Wi];omega
@[go_sem]theorem af6(p cs r:List AV)(k n:Nat)(h:k+n<=cs.length):(p.length+k+n<=(Wi p cs r).length)=True:=by rw[JL];exact eq_true AT
@[go_sem]theorem aei(p cs r:List AV)(n:Nat)(h:n<=cs.length):(p.length+n<=(Wi p cs r).length)=True:=by rw[JL];exact eq_true AT
@[go_sem]theorem Yv(p cs r:List AV)(k n:Nat)(h:k+n<=cs.length):AB.sub (Wi p cs r) (p.length+k) n=AB.sub cs k n:=by
  unfold AB.sub Wi
  rw[List.append_assoc,<-List.drop_drop,List.drop_left,List.drop_append_of_le_length AT,List.take_append_of_le_length O_]
@[go_sem]theorem ad5(p cs r:List AV)(n:Nat)(h:n<=cs.length):AB.sub (Wi p cs r) p.length n=AB.sub cs 0 n:=Yv p cs r 0 n AT
theorem zq(p cs r:List AV)(k:Nat)(news:List AV)(h:k+news.length<=cs.length):setAt (Wi p cs r) (p.length+k) news=Wi p (setAt cs k news) r:=by
 unfold setAt Wi
 have e1:(p++cs++r).take (p.length+k)=p++cs.take k:=by rw[List.append_assoc,List.take_append,List.take_of_length_le AT,Nat.add_sub_cancel_left,List.take_append_of_le_length AT]
 have e2:(p++cs++r).drop (p.length+k+news.length)=cs.drop (k+news.length)++r:=by rw[List.append_assoc,Nat.add_assoc,<-List.drop_drop,List.drop_left,List.drop_append_of_le_length h]
 rw[e1,e2]
 simp[List.append_assoc]
@[go_sem]theorem QH(p cs r:List AV)(k:Nat)(news:List AV)(h:k+news.length<=cs.length):setAt (Wi p cs r) (p.length+k) news=Wi p (setAt cs k news) r:=zq p cs r k news h
theorem Gm(p cs r:List AV)(k:Nat)(h:k<cs.length):(Wi p cs r)[p.length+k]? =cs[k]? :=by
 unfold Wi
 rw[List.append_assoc,List.getElem?_append_right AT,Nat.add_sub_cancel_left,List.getElem?_append_left h]
@[go_sem]theorem Ws(p cs r:List AV)(k:Nat)(h:k<cs.length):(Wi p cs r)[p.length+k]? =cs[k]? :=Gm p cs r k h
@[go_sem]theorem R9(p cs r:List AV)(h:0<cs.length):(Wi p cs r)[p.length]? =cs[0]? :=Gm p cs r 0 h
def NF(p cs r:List AV)(k:Nat)(K:List AV->AV->Prop)(h:k<cs.length):lG (p.length+k) (Wi p cs r) K=lG k cs fun cs' a=>K (Wi p cs' r) a:=by
 unfold lG
 rw[Gm p cs r k h]
 cases cs[k]? with
 |none=>rfl
 |some a=>
  cases a<;>try rfl
  ·rename_i o sz n ds
   show K (setAt (Wi p cs r) (p.length+k) [.sl false sz n ds]) _=K (Wi p (setAt cs k [.sl false sz n ds]) r) _
   rw[zq p cs r k [.sl false sz n ds] (show k+1<=cs.length by omega)]
  ·rename_i tb m es
   show K (setAt (Wi p cs r) (p.length+k) [.sl false 1 m es]) _=K (Wi p (setAt cs k [.sl false 1 m es]) r) _
   rw[zq p cs r k [.sl false 1 m es] (show k+1<=cs.length by omega)]
@[go_sem]theorem Jz(p cs r:List AV)(k:Nat)(K:List AV->AV->Prop)(h:k<cs.length):lG (p.length+k) (Wi p cs r) K=lG k cs fun cs' a=>K (Wi p cs' r) a:=NF p cs r k K h
def Hh{k:IntKind}{a b:Int}(h:0<=a):0<=kJ k a b/\kJ k a b<=a:=by
 unfold kJ
 have hp:(0:Int)<2^(min b.toNat k.bits):=Int.pow_pos BY
 rw[Int.fdiv_eq_ediv_of_nonneg _ (Int.le_of_lt hp)]
 exact⟨Int.ediv_nonneg h (Int.le_of_lt hp),Int.ediv_le_self _ h⟩
def Q1{n:Int}(h0:0<=n)(h1:n<256):((eR n).toNat:Int)=n:=by
 unfold eR
 have e:IntKind.u8.wrap n=n:=by
  show n.emod 256=n
  exact Int.emod_eq_of_lt h0 h1
 rw[e]
 show((UInt8.ofNat n.toNat).toNat:Int)=n
 rw[UInt8.toNat_ofNat']
 omega
def Ug{n:Int}(h0:0<=n)(h1:n<4294967296):((cf n).toNat:Int)=n:=by
 unfold cf
 have e:IntKind.u32.wrap n=n:=by
  show n.emod 4294967296=n
  exact Int.emod_eq_of_lt h0 h1
 rw[e]
 show((UInt32.ofNat n.toNat).toNat:Int)=n
 rw[UInt32.toNat_ofNat']
 omega
@[go_sem]theorem ahr(x:UInt8)(k:Int):((eR (kJ .u8 (x.toNat:Int) k)).toNat:Int)=kJ .u8 (x.toNat:Int) k:=by
  have:=Hh (k:=.u8) (a:=(x.toNat:Int)) (b:=k) AT
  have:=x.toNat_lt
  exact Q1 AT AT
@[go_sem]theorem acN(k:Int):((eR (kJ .u8 128 k)).toNat:Int)=kJ .u8 128 k:=by
  have:=Hh (k:=.u8) (a:=128) (b:=k) AT
  exact Q1 AT AT
@[go_sem]theorem agL(x:UInt32)(k:Int):((cf (kJ .u32 (x.toNat:Int) k)).toNat:Int)=kJ .u32 (x.toNat:Int) k:=by
  have:=Hh (k:=.u32) (a:=(x.toNat:Int)) (b:=k) AT
  have:=x.toNat_lt
  exact Ug AT AT
attribute[go_sem] Nat.add_zero
@[go_sem]theorem dE{α:Type}(l:List α)(hi:Int):part l 0 hi=l.take hi.toNat:=by
  unfold part
  rw[Int.toNat_zero,List.drop_zero,Int.sub_zero]
@[go_sem]theorem abi(n:Nat):((6:Int)<=((n+6:Nat):Int))=True:=eq_true AT
@[go_sem]theorem aeD(l:List UInt8):l.getD 0 0=ix l 0:=rfl
@[go_sem]theorem rE:((0:Int)<=0)=True:=eq_true BY
@[go_sem]theorem agY:((0:Int)<=1)=True:=eq_true BY
@[go_sem]theorem agZ:((0:Int)<=2)=True:=eq_true BY
@[go_sem]theorem ag0:((0:Int)<=3)=True:=eq_true BY
@[go_sem]theorem ag1:((0:Int)<=4)=True:=eq_true BY
@[go_sem]theorem ag2:((0:Int)<=6)=True:=eq_true BY
@[go_sem]theorem ag3:((0:Int)<=8)=True:=eq_true BY
@[go_sem]theorem agn:((0:Int)<=16)=True:=eq_true BY
@[go_sem]theorem ago:((0:Int)<=24)=True:=eq_true BY
structure vq where
 used:Bool
 own:Bool
 buf:aC
def vq.zero:vq:=⟨false,true,⟨[]⟩⟩
def sv(T B o:Nat)(b:vq):AV:=bif b.used then .ref B o else .oo T
def oi(b:vq):AV:=bif b.own then .bb 5 b.buf.b.length (flat b.buf.b)else .sl false 1 b.buf.b.length (flat b.buf.b)
@[go_sem]theorem YL(T B o:Nat):sv T B o vq.zero=.oo T:=rfl
@[go_sem]theorem YM:oi vq.zero=.bb 5 0 []:=rfl
@[go_sem]theorem aau(ne:Bool)(vs:List AV):Io ne (.jV vs)=.no:=rfl
structure Mq where
instance:bz Mq:=⟨1,fun _=>[.l9],.mk,BY,fun _=>rfl,fun _=>rfl⟩
end Go.AB
end
section
set_option maxRecDepth 16000
namespace Go.AB
open Go
open Go.Proofs.Tryz (prog)
attribute[-go_sem] Nat.add_zero rE dE
def abF:aaY prog 188:=fun x w=>by
 rw[run_callFunc_extern Go.Proofs.Tryz.func188 C_ C_ C_ (e:=Extern.AbiNoEscape.same) C_]
 rfl
theorem QI{s:ae}{B:Nat}{o:SO}(h:s B=some o):s.set B o=s:=by
 funext i
 unfold ae.set
 split
 ·rename_i e;subst e;exact h.symm
 ·rfl
def xn{b:vq}{B T o:Nat}{pre post:List AV}{s:ae}{Q:List AV->ae->Prop}(hB:s B=some (.cells (Wi pre [sv T B o b,oi b] post)))(eB:pre.length=o)
 (lB:Cv prog T (pre.length+2+post.length) o 109=true)(hq:Q [] (s.set B (.cells (Wi pre [.ref B o,oi b] post)))):FN prog 144 [.ref B o] s Q:=by
 subst eB
 obtain⟨u,ow,bf⟩:=b
 have hl:(Wi pre [sv T B pre.length ⟨u,ow,bf⟩,oi ⟨u,ow,bf⟩] post).length=pre.length+2+post.length:=by rw[JL];rfl
 have ha:(Wi pre [sv T B pre.length ⟨u,ow,bf⟩,oi ⟨u,ow,bf⟩] post)[pre.length]? =some (sv T B pre.length ⟨u,ow,bf⟩):=by rw[R9 _ _ _ B_];rfl
 refine FS 20 [] 0x10a0d3bf91570fe3013dac9c8261a29ce555fc8e320e189c8b564c5e8d25832592deca909b46281841811afada2139087e ?_
 have hB':=hB
 cases u with
 |true=>
  have e:sv T B pre.length ⟨true,ow,bf⟩=.ref B pre.length:=rfl
  rw[e]at hB' hB
  rw[QI hB]at hq
  refine Xg8 hB' ?_
  exact⟨fun h=>h.elim,fun _ _=>hq⟩
 |false=>
  have e:sv T B pre.length ⟨false,ow,bf⟩=.oo T:=rfl
  rw[e]at hB' ha hl
  refine Xg9 hB' gq ?_
  refine⟨fun _=>⟨k_,abF,T,ha,by rw[hl];exact lB,hq⟩,fun h=>F_⟩
def aK(b:vq)(c:UInt8):Option (Mq×vq):=
 aI (b.own=true)<|
 aI (b.buf.b.length+1<=room)<|
 some (Mq.mk,⟨true,true,⟨b.buf.b++[c]⟩⟩)
def ck{b_0:vq}{c_1:UInt8}{B0:Nat}{preB0 postB0:List AV}{oB0 TB0:Nat}{s:ae}{Q:List AV->ae->Prop}(hB0:s B0=some (.cells (Wi preB0 [sv TB0 B0 oB0 b_0,oi b_0] postB0)))(eB0:preB0.length=oB0)(lB0:Cv prog TB0 (preB0.length+2+postB0.length) oB0 109=true):
 ok (aK b_0 c_1) (fun r=>Q [.l9] (s.set B0 (.cells (Wi preB0 [sv TB0 B0 oB0 r.2,oi r.2] postB0))))->FN prog 105 [.ref B0 oB0,.int .u8 c_1.toNat] s Q:=by
 unfold aK
 rintro⟨r,h1,h2⟩
 unfold aI at h1
 split at h1<;>try(cases h1;done)
 rename_i how
 split at h1<;>try(cases h1;done)
 rename_i hrm
 injection h1 with h1
 subst h1
 subst eB0
 obtain⟨u,ow,bf⟩:=b_0
 obtain rfl:ow=true:=how
 refine FS 17 [⟨4,true,none⟩] 0x7259852fe6bdb48d22b411108e1bc073644b033ad64d323520c7dca4bf75d542db2d46b2934ab9241671083fa ?_
 refine Xh0 ?_
 refine xn hB0 rfl lB0 ?_
 have e1:oi ⟨u,true,bf⟩=.bb 5 bf.b.length (flat bf.b):=rfl
 rw[e1]
 refine Xh1 gq ?_
 rw[Jz _ _ _ _ _ B_]
 refine Xh1 gq ?_
 have e2:oi ⟨true,true,⟨bf.b++[c_1]⟩⟩=.bb 5 (bf.b.length+1) (flat bf.b++[.int .u8 c_1.toNat]):=by
  show AV.bb 5 (bf.b++[c_1]).length (flat (bf.b++[c_1]))=_
  rw[fq,List.length_append];rfl
 refine⟨by rw[Nat.mul_one];exact hrm,?_⟩
 have h3:Q [.l9] (s.set B0 (.cells (Wi preB0 [.ref B0 preB0.length,oi ⟨true,true,⟨bf.b++[c_1]⟩⟩] postB0))):=h2
 rw[e2]at h3
 exact h3
def eJ(b:vq)(x:aC):Option (Int×Mq×vq):=
 aI (b.own=true)<|
 aI (b.buf.b.length+x.b.length<=room)<|
 some ((x.b.length:Int),Mq.mk,⟨true,true,⟨b.buf.b++x.b⟩⟩)
def mS{b_0:vq}{s_1:aC}{B0:Nat}{preB0 postB0:List AV}{oB0 TB0:Nat}{s:ae}{Q:List AV->ae->Prop}(hB0:s B0=some (.cells (Wi preB0 [sv TB0 B0 oB0 b_0,oi b_0] postB0)))(eB0:preB0.length=oB0)(lB0:Cv prog TB0 (preB0.length+2+postB0.length) oB0 109=true):
 ok (eJ b_0 s_1) (fun r=>Q [.int .i64 r.1,.l9] (s.set B0 (.cells (Wi preB0 [sv TB0 B0 oB0 r.2.2,oi r.2.2] postB0))))->FN prog 101 [.ref B0 oB0,.str s_1.b] s Q:=by
 unfold eJ
 rintro⟨r,h1,h2⟩
 unfold aI at h1
 split at h1<;>try(cases h1;done)
 rename_i how
 split at h1<;>try(cases h1;done)
 rename_i hrm
 injection h1 with h1
 subst h1
 subst eB0
 obtain⟨u,ow,bf⟩:=b_0
 obtain rfl:ow=true:=how
 refine FS 19 [⟨4,true,none⟩,⟨5,true,none⟩] 0xb66a9800ff499cd3accb6b7efd1b50fa79c78e3d0fe5c6995e57b8f9a4c6a87ade505ef25099b10d4c3cc00844b ?_
 refine Xh0 ?_
 refine xn hB0 rfl lB0 ?_
 have e1:oi ⟨u,true,bf⟩=.bb 5 bf.b.length (flat bf.b):=rfl
 rw[e1]
 refine Xh1 gq ?_
 rw[Jz _ _ _ _ _ B_]
 refine Xh1 gq ?_
 have e2:oi ⟨true,true,⟨bf.b++s_1.b⟩⟩=.bb 5 (bf.b.length+s_1.b.length) (flat bf.b++flat s_1.b):=by
  show AV.bb 5 (bf.b++s_1.b).length (flat (bf.b++s_1.b))=_
  rw[fq,List.length_append]
 refine⟨by rw[Nat.mul_one];exact hrm,?_⟩
 have h3:Q [.int .i64 s_1.b.length,.l9] (s.set B0 (.cells (Wi preB0 [.ref B0 preB0.length,oi ⟨true,true,⟨bf.b++s_1.b⟩⟩] postB0))):=h2
 rw[e2]at h3
 exact h3
def bD(b:vq):Option (aC×vq):=aI (b.own=true/\b.buf.b.length<=room)<|some (b.buf,⟨b.used,false,b.buf⟩)
set_option maxHeartbeats 2000000 in
set_option maxRecDepth 100000 in
def HD{w:World}{B o:Nat}(hc:w.cell? ⟨B,o+1,none⟩=some (.slice none 0 0)):
 Calls prog 62 #[.pointer (some ⟨B,o,none⟩)] w fun e w'=>e=.returned (.string ⟨#[]⟩)/\w'=w.drew:=by
 have hUS:(Builtin.unsafeString_ #[165,3] 9 #[.pointer none,.int .i64 0]).run prog w.drew=.ok (.string .empty) w.drew:=Lib.run_unsafeString_none _ _ _ _ none
 have hSD:(Builtin.unsafeSliceData_ #[22] 165 #[.slice none 0 0]).run prog w.drew=.ok (.pointer none) w.drew:=Lib.run_unsafeSliceData_nil _ _ _ _ _
 have c1:w.drew.cell? ⟨B,o+1,none⟩=some (.slice none 0 0):=hc
 have mixed:=mix
 go_enter Go.Proofs.Tryz.func62,(show Go.Proofs.Tryz.f62.ntmps=14 from rfl)
 go_wp2
 go_region
 all_goals(go_wp2;go_ret;exact⟨rfl,rfl⟩)
set_option maxHeartbeats 2000000 in
set_option maxRecDepth 100000 in
def HE{w:World}{B o g cap:Nat}{cur:Array Value}{fz:Nat×Nat}{l:List UInt8}(hc:w.cell? ⟨B,o+1,none⟩=some (.slice (some ⟨g,0,none⟩) l.length cap))(hg:w.heap[g]? =some (.cells cur 5 fz))(h0:l≠[])(gv:cap≠0)(hsz:l.length<=cur.size)(hm:l.length<=9223372036854775807)
 (gl:∀(j:Nat)(x:UInt8),l[j]? =some x->w.cell? ⟨g,j,none⟩=some (.int .u8 x.toNat)):
 Calls prog 62 #[.pointer (some ⟨B,o,none⟩)] w fun e w'=>e=.returned (.string ⟨l.toArray⟩)/\w'=w.drew.freeze ⟨g,0,none⟩ l.length:=by
 have hUS:(Builtin.unsafeString_ #[165,3] 9 #[.pointer (some ⟨g,0,none⟩),.int .i64 l.length]).run prog w.drew=.ok (.string ⟨l.toArray⟩) (w.drew.freeze ⟨g,0,none⟩ l.length):=
  Lib.run_unsafeString_row w.drew 165 3 9 5 C_ C_ g cur.size (by have hg':w.drew.heap[g]? =some (.cells cur 5 fz):=hg;simp[World.shape?,hg']) l h0 hsz hm (fun j x hj=>by
   have:=gl j x hj
   simp only[Addr.add,Nat.zero_add]
   split
   ·rename_i e;subst e;exact this
   ·exact this)
 have hSD:(Builtin.unsafeSliceData_ #[22] 165 #[.slice (some ⟨g,0,none⟩) l.length cap]).run prog w.drew=.ok (.pointer (some ⟨g,0,none⟩)) w.drew:=Lib.run_unsafeSliceData_row _ _ _ _ _ _ gv
 have c1:w.drew.cell? ⟨B,o+1,none⟩=some (.slice (some ⟨g,0,none⟩) l.length cap):=hc
 have mixed:=mix
 clear gl hc hm hsz gv
 go_enter Go.Proofs.Tryz.func62,(show Go.Proofs.Tryz.f62.ntmps=14 from rfl)
 go_wp2
 go_region
 all_goals(go_wp2;go_ret;exact⟨rfl,rfl⟩)
end Go.AB
end
section
set_option maxRecDepth 4000
namespace Go.AB
open Go
open Go.Proofs.Tryz (prog)
def zQ{w:World}{g n:Nat}{c:Array Value}{t:TypeId}{fz:Nat×Nat}(hg:w.heap[g]? =some (.cells c t fz)):
 (∀b,b≠g->(w.freeze ⟨g,0,none⟩ n).heap[b]? =w.heap[b]?)/\(w.freeze ⟨g,0,none⟩ n).heap.size=w.heap.size/\∃fz',(w.freeze ⟨g,0,none⟩ n).heap[g]? =some (.cells c t fz'):=by
 unfold World.freeze
 split
 ·exact⟨fun _ _=>rfl,rfl,fz,hg⟩
 ·refine⟨fun b hb=>?_,B_,?_⟩
  ·simp only[Array.getElem?_modify]
   rw[if_neg AT]
  ·simp only[Array.getElem?_modify,if_true,hg,Option.map_some]
   exact⟨_,rfl⟩
def It{w:World}{g n:Nat}{c:Array Value}{t:TypeId}{fz:Nat×Nat}(hg:w.heap[g]? =some (.cells c t fz))(b k:Nat):(w.freeze ⟨g,0,none⟩ n).cell? ⟨b,k,none⟩=w.cell? ⟨b,k,none⟩:=by
 obtain⟨h1,_,fz',h2⟩:=zQ (n:=n) hg
 by_cases hb:b=g
 ·subst hb
  rw[cell_of_row _ h2,cell_of_row _ hg]
 ·exact World.cell?_of_block (h1 b hb)
def QO{G:Gh}{w:World}{s:ae}{B o n:Nat}{cs:List AV}{ds:List AV}(hg:cS G w)(hs:bB G w s)(hB:s B=some (.cells cs))(ho:cs[o]? =some (.bb 5 n ds)):
 bB (G.gY (.cell B o) .frame) w (s.set B (.cells (setAt cs o [.sl false 1 n ds])))/\cS (G.gY (.cell B o) .frame) w/\aR G w (G.gY (.cell B o) .frame) w:=by
 have hne:∀b,G.O b≠.cell B o->(G.gY (.cell B o) .frame).O b=G.O b:=fun b hb=>by simp[hb]
 have m7:cS (G.gY (.cell B o) .frame) w:=⟨fun b hb=>by rw[hne b (by rw[hg.mn b hb];simp),hg.mn b hb],hg.nc⟩
 have cM:aR G w (G.gY (.cell B o) .frame) w:=⟨rfl,rfl,rfl,Nat.le_refl _,Nat.le_refl _,fun _ _=>Nat.le_refl _,fun _ _ _ _=>rfl,fun _ _ _=>rfl,fun b _ hb=>⟨by rw[hne b iF,hb],rfl⟩,fun b _ hb=>⟨by rw[hne b iF,hb],rfl⟩⟩
 refine⟨?_,m7,cM⟩
 obtain⟨q2,q3,c,t,q4,q5,q6⟩:=hs B _ hB
 intro b' ob hb'
 unfold ae.set at hb'
 by_cases hbg:b'=B
 ·rw[if_pos hbg]at hb';injection hb' with hb';subst hb';subst hbg
  exact⟨by rw[hne b' U_,q2],q3,c,t,q4,dS.take (av:=.bb 5 n ds) q5 ho,Ex.setAt q6 (by intro z hz;rw[List.mem_singleton]at hz;subst hz;rfl) o⟩
 ·rw[if_neg hbg]at hb'
  obtain⟨r1,r2,r3⟩:=hs b' ob hb'
  refine⟨by rw[hne b' (by rw[r1];simp),r1],r2,?_⟩
  cases ob with
  |cells cs'=>
   obtain⟨c0,t0,r4,r5,r6⟩:=r3
   exact⟨c0,t0,r4,r5.mono (fun _ _ hv=>hv) (fun b'' j u5=>⟨by rw[hne b'' (by rw[u5];intro e;injection e with e _;exact hbg e),u5],rfl,rfl⟩),r6⟩
  |map es=>exact r3
theorem zP:∀l:List UInt8,flat l=l.map fun c=>AV.int .u8 c.toNat
 |[]=>rfl
 |c::l=>by rw[List.map_cons,<-zP l];rfl
theorem Ir(l:List UInt8)(j:Nat):(flat l)[j]? =l[j]?.map fun c=>AV.int .u8 c.toNat:=by rw[zP,List.getElem?_map]
def eY{b_0:vq}{B0:Nat}{preB0 postB0:List AV}{oB0 TB0:Nat}{s:ae}{Q:List AV->ae->Prop}(hB0:s B0=some (.cells (Wi preB0 [sv TB0 B0 oB0 b_0,oi b_0] postB0)))(eB0:preB0.length=oB0)(lB0:Cv prog TB0 (preB0.length+2+postB0.length) oB0 109=true):
 ok (bD b_0) (fun r=>Q [.str r.1.b] (s.set B0 (.cells (Wi preB0 [sv TB0 B0 oB0 r.2,oi r.2] postB0))))->FN prog 62 [.ref B0 oB0] s Q:=by
 unfold bD
 rintro⟨r,h1,h2⟩
 unfold aI at h1
 split at h1<;>try(cases h1;done)
 rename_i how
 injection h1 with h1
 subst h1
 subst eB0
 obtain⟨u,ow,⟨l⟩⟩:=b_0
 obtain⟨how,bP⟩:=how
 obtain rfl:ow=true:=how
 have bP:l.length<=room:=bP
 intro G w vs hg Pd hs ha
 have hvs:vs= #[.pointer (some ⟨B0,preB0.length,none⟩)]:=by
  obtain⟨hl,hr⟩:=ha
  obtain⟨vl⟩:=vs
  match vl,hl with
  |[v],_=>rw[VR.gK (hr 0 _ v rfl rfl)]
  |[],hl=>simp at hl
  |_::_::_,hl=>simp at hl
 subst hvs
 let A:=sv TB0 B0 preB0.length ⟨u,true,⟨l⟩⟩
 have hbb:(Wi preB0 [A,oi ⟨u,true,⟨l⟩⟩] postB0)[preB0.length+1]? =some (.bb 5 l.length (flat l)):=by rw[Ws _ _ _ _ B_];rfl
 have AI:setAt (Wi preB0 [A,oi ⟨u,true,⟨l⟩⟩] postB0) (preB0.length+1) [.sl false 1 l.length (flat l)]=Wi preB0 [A,.sl false 1 l.length (flat l)] postB0:=by rw[QH _ _ _ _ _ B_];rfl
 obtain⟨k1,k2,k3⟩:=QO hg hs hB0 hbb
 rw[AI]at k1
 have hq:Q [.str l] (s.set B0 (.cells (Wi preB0 [A,.sl false 1 l.length (flat l)] postB0))):=h2
 obtain⟨q2,q3,c,t,q4,q5,q6⟩:=hs B0 _ hB0
 have hlt:preB0.length+1<c.size:=by rw[q5.1];exact(List.getElem?_eq_some_iff.1 hbb).1
 have gl:=Array.getElem?_eq_getElem hlt
 obtain⟨hv,hw⟩:=q5.2 _ _ _ hbb gl
 have hwc:w.cell? ⟨B0,preB0.length+1,none⟩=some c[preB0.length+1]:=by rw[cell_of_row w q4,gl]
 generalize c[preB0.length+1]=v at hv hw hwc
 cases l with
 |nil=>
  obtain rfl:=VR.Sx hv
  refine(HD hwc).mono fun e w'⟨he,hw'⟩=>?_
  subst hw'
  refine⟨_,_,_,G.gY (.cell B0 (preB0.length+1)) .frame,he,hq,⟨k2.mn,k2.nc⟩,?_,⟨.str _,trivial⟩,k3.trans (aR.drew _ w)⟩
  exact k1.mono k2 (aR.drew _ w) (fun _ hb=>⟨hb,rfl,rfl⟩) (fun _ _ _ _ hc=>⟨hc,rfl,rfl⟩)
 |cons x l'=>
  generalize hL:x::l'=L at*
  have hL0:L≠[]:=by rw[<-hL];simp
  have jR:0<L.length:=by rw[<-hL];simp
  rcases VR.jd (VR.Pn hv)with⟨_,h0,_⟩|⟨g,off,cap,rfl,hcl,hRb,gv,hat⟩
  ·omega
  ·obtain⟨b',Xy,cur,fz,e1,e2,e3,e4,e5,e6⟩:=hw _ _ _ rfl (.inr jR)
   injection e1 with e1;injection e1 with e1 e1' _
   subst e1;subst e1'
   obtain rfl:off=0:=e6.2.2.1
   have oA:∀(j:Nat)(y:UInt8),L[j]? =some y->w.cell? ⟨g,j,none⟩=some (.int .u8 y.toNat):=by
    intro j y hj
    obtain⟨uu,u1,u2,_⟩:=hat
    have hfj:(flat L)[j]? =some (.int .u8 y.toNat):=by rw[Ir,hj];rfl
    have:=u1 j _ hfj
    rw[Nat.zero_add]at this
    rw[this,VR.dI (u2 j _ hfj)]
   refine(HE hwc e4 hL0 AT (by rw[e5];omega) (by have:room=140737488355328:=rfl;omega) oA).mono fun e w'⟨he,hw'⟩=>?_
   subst hw'
   obtain⟨f1,f2,fz',f3⟩:=zQ (w:=w.drew) (n:=L.length) e4
   have hgO:G.O g=.cell B0 (preB0.length+1):=e2
   let G':=G.gY (.cell B0 (preB0.length+1)) .frame
   have aaC:G'.O g=.frame:=by simp[G',hgO]
   have hfc:=It (w:=w.drew) (n:=L.length) e4
   have hne:∀b,G.O b≠.cell B0 (preB0.length+1)->G'.O b=G.O b:=fun b hb=>by simp[G',hb]
   have cM:aR G w G' (w.drew.freeze ⟨g,0,none⟩ L.length):=by
    refine⟨?_,?_,?_,?_,?_,fun _ _=>Nat.le_refl _,fun b k _ _=>hfc b k,fun b _ hb=>?_,fun b _ hb=>⟨?_,rfl⟩,fun b _ hb=>⟨?_,rfl⟩⟩
    ·unfold World.freeze;split<;>rfl
    ·unfold World.freeze;split<;>rfl
    ·unfold World.freeze;split<;>rfl
    ·unfold World.freeze;split<;>exact Nat.le_succ _
    ·rw[f2];exact Nat.le_refl _
    ·exact f1 b (fun e=>by subst e;rw[hgO]at hb;rcases hb with hb|hb<;>cases hb)
    ·rw[hne b iF,hb]
    ·rw[hne b iF,hb]
   have hvr:∀a v,VR w G'.R a v->VR (w.drew.freeze ⟨g,0,none⟩ L.length) G'.R a v:=fun a v h=>VR.mono (w:=w) (fun _=>Nat.le_refl _) (fun b k _=>hfc b k) h
   refine⟨_,_,_,G',he,hq,⟨fun b hb=>?_,fun b hb=>?_⟩,?_,⟨.str _,trivial⟩,cM⟩
   ·rw[f2]at hb;exact k2.mn b hb
   ·rw[f2]at hb;exact k2.nc b hb
   ·refine k1.xT hvr (fun b hb=>⟨hb,rfl,f1 b (fun e=>by subst e;rw[aaC]at hb;cases hb)⟩) (fun b c' j _ hc=>⟨hc,rfl,f1 c' (fun e=>by subst e;rw[aaC]at hc;cases hc)⟩)
end Go.AB
end
