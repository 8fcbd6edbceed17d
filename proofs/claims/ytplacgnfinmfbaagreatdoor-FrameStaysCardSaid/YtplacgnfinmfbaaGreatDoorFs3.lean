/- A part. -/
import Derived.Test.YtplacgnfinmfbaaGreatDoorFs2
import Derived.Laws.Cells
import Derived.Laws.Strings
import Derived.Laws.Pointers
import Derived.Laws.Small
import Derived.LaidEqlPtr
import Derived.Laws.Concat
set_option linter.unusedSimpArgs false
set_option linter.unusedVariables false
section
namespace Go.AB
open Go
theorem yd{v:Value}{a:AV}(h:cR v a=true)(w:World)(R:Nat->Nat):VR w R a v:=by
 unfold cR at h
 split at h
 ·obtain rfl:=beq_iff_eq.1 h;exact .bool _
 ·rw[Bool.and_eq_true]at h;obtain⟨h1,h2⟩:=h;obtain rfl:=of_decide_eq_true h1;obtain rfl:=beq_iff_eq.1 h2;exact .int _ _
 ·obtain rfl:=beq_iff_eq.1 h
  rename_i s
  have:∀b:ByteArray,b=⟨b.data.toList.toArray⟩:=fun b=>by cases b;simp
  conv=>rhs;rw[this s]
  exact .str _
 ·exact .fj
 ·exact .slnil _ _
 ·exact .Hn _ _
 ·exact .bb _ _ _ _ (.slnil _ _) (fun _=>rfl)
 ·exact .ud
 ·exact .py
 ·exact .kQ
 ·cases h
theorem YT{v:Value}{a:AV}(h:cR v a=true):dp a=true:=by
 unfold cR at h
 split at h<;>first|rfl|cases h
theorem BO{vs:List Value}{as:List AV}(h:LP vs as=true):vs.length=as.length/\∀(j:Nat)(c:AV)(v:Value),as[j]? =some c->vs[j]? =some v->cR v c=true:=by
 induction vs generalizing as with
 |nil=>cases as with
  |nil=>exact⟨rfl,fun j c v hc=>by simp at hc⟩
  |cons=>simp[LP]at h
 |cons v vs ih=>cases as with
  |nil=>simp[LP]at h
  |cons a as=>
   simp only[LP,Bool.and_eq_true]at h
   obtain⟨h1,h2⟩:=ih h.2
   refine⟨by simp[h1],fun j c u hc hu=>?_⟩
   cases j with
   |zero=>simp at hc hu;subst hc;subst hu;exact h.1
   |succ j=>exact h2 j c u (by simpa using hc) (by simpa using hu)
theorem Up{v:Value}{a:AV}(h:cR v a=true):pQ a=true:=by
 unfold cR at h
 split at h<;>first|rfl|cases h
theorem Ch:∀{vs:List Value}{as:List AV},LP vs as=true->Fl as
 |[],[],_=>Fl.nil
 |v::vs,a::as,h=>by
  simp only[LP,Bool.and_eq_true]at h
  intro c hc
  rcases List.mem_cons.1 hc with rfl|hc
  ·exact Up h.1
  ·exact Ch h.2 c hc
 |[],_::_,h=>by simp[LP]at h
 |_::_,[],h=>by simp[LP]at h
theorem Uq{vs:Array Value}{cs:List AV}(h:LP vs.toList cs=true)(w:World)(R:Nat->Nat):VR w R (.agg cs) (.agg vs):=by
 obtain⟨h1,h2⟩:=BO h
 exact .agg cs vs (Ch h) (by simpa using h1) fun j c v hc hv=>yd (h2 j c v hc (by simpa using hv)) w R
theorem Cg{v:Value}{a:AV}(h:cR v a=true)(G:Gh)(w:World)(o:cZ):dy G w o a v:=by
 unfold cR at h
 split at h<;>first|(cases h;done)|trivial|skip
 ·rename_i own sz
  cases own with
  |false=>trivial
  |true=>intro base m cap hv hc;injection hv with _ h2 h3;omega
 ·intro base m cap hv hc;injection hv with _ h2 h3;omega
section
variable{P:Program}{G:Gh}{n:Nat}{D:List Deferred}{E:St}{a:Act}{w:World}
def BR(G:Gh)(w:World)(E:St)(a:Act)(x:IX):AV->Value->Prop
 |.loc cs,v=>∃i b c t,x=.t i/\look E.e i=.loc cs/\a.tmps[i]? =some v/\v=.pointer (some ⟨b,0,none⟩)/\G.O b=.loc i/\G.R b=0/\w.heap[b]? =some (.cells c t (0,0))/\dq G w (.cell b) cs c/\Fl cs
 |.lp d off,v=>∃b,v=.pointer (some ⟨b,off,none⟩)/\∀cs,look E.e d=.loc cs->a.tmps[d]? =some (.pointer (some ⟨b,0,none⟩))
 |.when _ _,_=>True
 |.us _ _ _,_=>True
 |av,v=>VR w G.R av v
def XR(G:Gh)(w:World)(E:St)(a:Act)(x:IX):AV->Value->Prop
 |.when b av,v=>b=true->inner av=true->BR G w E a x av v
 |av,v=>BR G w E a x av v
theorem BR.vr{x:IX}{av:AV}{v:Value}(h:dp av=true)(hv:BR G w E a x av v):VR w G.R av v:=by cases av<;>simp_all [dp,BR]
theorem XR.br{x:IX}{av:AV}{v:Value}(hv:XR G w E a x av v):BR G w E a x (xT true av) v:=by
 cases av<;>try exact hv
 rename_i b av
 cases b with
 |false=>
  have:xT true (.when false av)=.undef:=by simp[xT]
  rw[this];exact VR.undef v
 |true=>
  cases hi:inner av with
  |false=>
   have:xT true (.when true av)=.undef:=by simp[xT,hi]
   rw[this];exact VR.undef v
  |true=>
   have:xT true (.when true av)=av:=by simp[xT,hi]
   rw[this];exact hv rfl hi
theorem XR.VU{i:Nat}(hi:a.tmps[i]? =some (a.eval (.tmp i))){av:AV}(hl:look E.e i=av)(h:dc G w E.e a.tmps i av (a.eval (.tmp i))):XR G w E a (.t i) av (a.eval (.tmp i)):=by
 have base:∀av:AV,(∀cs,av=.loc cs->look E.e i=.loc cs)->dc G w E.e a.tmps i av (a.eval (.tmp i))->BR G w E a (.t i) av (a.eval (.tmp i)):=by
  intro av hl h
  cases av with
  |loc cs=>
   obtain⟨b,c,t,h1,h2,h3,h4,h5⟩:=h
   exact⟨i,b,c,t,rfl,hl cs rfl,hi,h1,h2,h3,h4,h5⟩
  |lp d off=>exact h
  |iP vs=>
   obtain⟨ys,h1,h2⟩:=h
   rw[h1]
   exact VR.iP vs ys h2.1 fun j c u hc hu=>(h2.2 j c u hc hu).1
  | «when» b av=>trivial
  |us sz m cs=>trivial
  |_=>exact h.1
 cases av with
 | «when» b av=>exact fun hb hin=>base av (fun cs hcs=>by subst hcs;cases hin) (h.1 hb)
 |_=>exact base _ (fun cs hcs=>by rw[hl,hcs]) h
theorem fR{i:Nat}(hi:i<a.tmps.size):a.tmps[i]? =some (a.eval (.tmp i)):=by simp[Act.eval,Array.getD_eq_getD_getElem?,hi]
theorem XR.aV(h:Inv G n D E a w){o:Operand}{x:IX}(hx:bQ o x=true):XR G w E a x (E.x x) (a.eval o):=by
 unfold bQ at hx
 split at hx
 ·rename_i t i
  obtain rfl:=beq_iff_eq.1 hx
  rcases Nat.lt_or_ge t n with ht|ht
  ·have hs:t<a.tmps.size:=by rw[h.size];exact ht
   exact XR.VU (fR hs) rfl (h.cm t _ (fR hs))
  ·have:E.x (.t t)=.undef:=h.EI t ht
   rw[this];exact VR.undef _
 ·exact Uq hx w G.R
 ·rename_i v av _
  have hv:=yd hx w G.R
  have hi:=YT hx
  show XR G w E a _ av v
  cases av<;>first|exact hv|(simp[dp]at hi)
 ·rename_i f g
  obtain rfl:=beq_iff_eq.1 hx
  exact VR.fn f [] [] #[] #[] rfl (fun j c v hc=>by simp at hc) rfl (fun j c v hc=>by simp at hc)
 ·cases hx
theorem BR.aV(h:Inv G n D E a w){o:Operand}{x:IX}(hx:bQ o x=true):BR G w E a x (xg true E x) (a.eval o):=(XR.aV h hx).br
def NR(G:Gh)(w:World)(E:St)(a:Act)(av:AV)(v:Value):Prop:=
 match av with
 |.lp d off=>∃b,v=.pointer (some ⟨b,off,none⟩)/\∀cs,look E.e d=.loc cs->a.tmps[d]? =some (.pointer (some ⟨b,0,none⟩))
 |av=>dp av=true/\VR w G.R av v/\view av=av
end
def gP(r:PR)(av:AV):Prop:=r=.dh av\/∃c,r=.fw c av/\c
theorem gP.dh{a av:AV}(h:gP (.dh a) av):av=a:=by
 rcases h with h|⟨c,h,_⟩
 ·grind
 ·cases h
theorem gP.fw{c:Prop}{a av:AV}(h:gP (.fw c a) av):av=a/\c:=by
 rcases h with h|⟨c',h,hc⟩
 ·cases h
 grind
theorem gP.no{av:AV}(h:gP .no av):False:=by rcases h with h|⟨c',h,hc⟩<;>cases h
theorem kJ{a:AV}(h:dp a=true):dp (view a)=true:=by cases a<;>simp_all [dp,view]
theorem vp(a:AV):view (view a)=view a:=by cases a<;>rfl
section
variable{P:Program}{G:Gh}{n:Nat}{D:List Deferred}{E:St}{a:Act}{w:World}
theorem NR.view{av:AV}{v:Value}(hi:dp av=true)(h:VR w G.R av v):NR G w E a (view av) v:=by
 have:dp (AB.view av)=true/\VR w G.R (AB.view av) v/\AB.view (AB.view av)=AB.view av:=⟨kJ hi,h.view,vp _⟩
 cases av<;>first|exact this|grind [dp]
theorem NR.mk{av:AV}{v:Value}(hi:dp av=true)(h:VR w G.R av v)(hv:AB.view av=av):NR G w E a av v:=hv▸NR.view hi h
theorem VR.lU{R:Nat->Nat}{b:Bool}{v:Value}(h:VR w R (.bool b) v):v=.bool b:=by cases h;rfl
theorem VR.dj{R:Nat->Nat}{k:IntKind}{m:Int}{v:Value}(h:VR w R (.int k m) v):v=.int k m:=by cases h;rfl
theorem VR.iJ{R:Nat->Nat}{s:List UInt8}{v:Value}(h:VR w R (.str s) v):v=.string ⟨s.toArray⟩:=by cases h;rfl
theorem VR.s9{R:Nat->Nat}{v:Value}(h:VR w R .fj v):v=.pointer none:=by cases h;rfl
theorem VR.fZ{R:Nat->Nat}{b o:Nat}{v:Value}(h:VR w R (.ref b o) v):v=.pointer (some ⟨b,o,none⟩):=by cases h;rfl
theorem VR.df{R:Nat->Nat}{b o l c:Nat}{v:Value}(h:VR w R (.arr b o l c) v):v=.slice (some ⟨b,o,none⟩) l c\/(l=0/\c=0/\v=.slice none 0 0):=by
 cases h with
 |arr=>grind
 |Hn=>grind
theorem VR.yN{R:Nat->Nat}{b o l c:Nat}{v:Value}(h:VR w R (.arr b o l c) v)(hc:0<c):v=.slice (some ⟨b,o,none⟩) l c:=by
 rcases h.df with h|⟨_,h,_⟩
 ·exact h
 ·omega
theorem VR.ZK{R:Nat->Nat}{b:Nat}{v:Value}(h:VR w R (.mp b) v):v=.map (some b):=by cases h;rfl
theorem VR.RJ{R:Nat->Nat}{v:Value}(h:VR w R .ud v):v=.map none:=by cases h;rfl
theorem VR.Vm{R:Nat->Nat}{cs:List AV}{v:Value}(h:VR w R (.agg cs) v):∃vs:Array Value,v=.agg vs/\vs.size=cs.length/\(∀(j:Nat)(c:AV)(u:Value),cs[j]? =some c->vs[j]? =some u->VR w R c u)/\Fl cs:=by cases h with|agg _ vs hf hl hr=>grind
theorem VR.NY{R:Nat->Nat}{cs:List AV}{v:Value}(h:VR w R (.iP cs) v):∃vs:Array Value,v=.tuple vs/\vs.size=cs.length/\∀(j:Nat)(c:AV)(u:Value),cs[j]? =some c->vs[j]? =some u->VR w R c u:=by cases h with|iP _ vs hl hr=>grind
def At(w:World)(R:Nat->Nat)(b off:Nat)(cs:List AV):Prop:=∃u:Nat->Value,(∀(j:Nat)(c:AV),cs[j]? =some c->w.cell? ⟨b,off+j,none⟩=some (u j))/\(∀(j:Nat)(c:AV),cs[j]? =some c->VR w R c (u j))/\Fl cs
theorem VR.Mp{R:Nat->Nat}{cs:List AV}{v:Value}(h:VR w R (.sp cs) v):∃b off,v=.pointer (some ⟨b,off,none⟩)/\off+cs.length<=R b/\At w R b off cs:=by cases h with|sp _ b off u hf hR hc hr=>exact⟨b,off,rfl,hR,u,hc,hr,hf⟩
def xW(own:Bool)(v:Value):Prop:=v=.slice none 0 0\/(own=false/\∃a cap,v=.slice (some a) 0 cap)
theorem xW.own{v:Value}(h:xW true v):v=.slice none 0 0:=h.elim id fun h=>by cases h.1
theorem xW.ex{own:Bool}{v:Value}(h:xW own v):∃base cap,v=.slice base 0 cap:=by
 rcases h with h|⟨_,a,cap,h⟩
 ·grind
 grind
theorem VR.ik{R:Nat->Nat}{own:Bool}{sz m:Nat}{cs:List AV}{v:Value}(h:VR w R (.sl own sz m cs) v):
 (xW own v/\m=0/\cs=[])\/∃b off cap,v=.slice (some ⟨b,off,none⟩) m cap/\cs.length=m*sz/\off+cs.length<=R b/\m<=cap/\At w R b off cs:=by
 cases h with
 |slnil=>exact .inl ⟨.inl rfl,rfl,rfl⟩
 |sle=>exact .inl ⟨.inr ⟨rfl,_,_,rfl⟩,rfl,rfl⟩
 |sl _ _ _ _ b off cap u hf hl hR fL hc hr=>exact .inr ⟨b,off,cap,rfl,hl,hR,fL,u,hc,hr,hf⟩
theorem VR.RG{R:Nat->Nat}{f:Nat}{x y:List AV}{v:Value}(h:VR w R (.fn f x y) v):∃vf vc:Array Value,v=.func (.func f) vf vc/\vf.size=x.length/\(∀(j:Nat)(c:AV)(u:Value),x[j]? =some c->vf[j]? =some u->VR w R c u)/\
 vc.size=y.length/\(∀(j:Nat)(c:AV)(u:Value),y[j]? =some c->vc[j]? =some u->VR w R c u):=by
 cases h with|fn _ _ _ vf vc h1 h2 h3 h4=>grind
def runs(P:Program)(a:Act)(op:Op)(ty:TypeId)(w:World)(v:Value):Prop:=∀(d:Option Tmp)(pos:String)(after:Array Edge)(g:Option (Nat×Bool)),(execOp a.eval ⟨d,op,ty,pos,after,g⟩).run P w=.ok (.value v) w
theorem aaV(h:Inv G n D E a w){op:Op}{ty:TypeId}{x:IX}(hc:aA P op ty (.oM false x)=true){av:AV}(hv:gP (pv (.oM false x) (xg true E) E) av):
 ∃v,runs P a op ty w v/\NR G w E a av v:=by
 have key:∀y,bQ y x=true->NR G w E a av (a.eval y):=fun y hy=>by
  have hb:=BR.aV h hy
  have hv':gP (Px (xg true E x)) av:=hv
  unfold Px at hv'
  cases hi:dp (xg true E x)with
  |false=>rw[hi]at hv';exact hv'.no.elim
  |true=>
   rw[hi]at hv'
   rw[hv'.dh]
   exact NR.view hi (hb.vr hi)
 cases op<;>first|(simp[aA]at hc;done)|skip
 ·rename_i y
  exact⟨a.eval y,fun _ _ _ _=>rfl,key y hc⟩
 ·rename_i y
  exact⟨a.eval y,fun _ _ _ _=>rfl,key y hc⟩
theorem adJ{g:Bool}{x:IX}{v:Value}{p:Bool}(hg:g=true)(hx:XR G w E a x (E.x x) v)(h:Rf (E.x x)=some (g,p)):v=.bool p:=by
 subst hg
 generalize E.x x=av at*
 unfold Rf at h
 split at h
 ·injection h with h;injection h with _ h;subst h;cases hx;rfl
 ·injection h with h;injection h with h1 h2;subst h1;subst h2
  have:=hx rfl rfl
  cases this;rfl
 ·cases h
theorem Rg{g:Bool}{x:IX}{v:Value}{p:Bool}(hg:g=true)(hx:XR G w E a x (E.x x) v)(h:Zm (E.x x)=some (g,p)):v=.bool p:=by grind [adJ,Zm]
theorem Wc(h:Inv G n D E a w){op:Op}{ty:TypeId}{c x y:IX}(hc:aA P op ty (.pick c x y)=true){av:AV}(hv:gP (pv (.pick c x y) (xg true E) E) av):
 ∃v,runs P a op ty w v/\NR G w E a av v:=by
 cases op<;>first|(simp[aA]at hc;done)|skip
 rename_i c' x' y'
 simp only[aA,Bool.and_eq_true]at hc
 have hbc:=BR.aV h hc.1.1
 have hbx:=XR.aV h hc.1.2
 have hby:=XR.aV h hc.2
 have hv':gP (GP (E.x x) (E.x y) (xg true E c)) av:=hv
 generalize xg true E c=cv at hbc hv'
 unfold GP at hv'
 split at hv'
 ·rename_i b
  have hcv:a.eval c'=.bool b:=VR.lU hbc
  unfold SE at hv'
  split at hv'
  ·rename_i g1 p g2 q hp hq
   rcases hv' with hv'|⟨c1,hv',hc1⟩
   ·cases hv'
   injection hv' with h1 h2
   subst h1 h2
   refine⟨.bool (bif b then p else q),fun _ _ _ _=>?_,NR.mk rfl (.bool _) rfl⟩
   cases b with
   |true=>
    have:=Rg (hc1.1 rfl) hbx hp
    simp[execOp,hcv,asBool,this]
   |false=>
    have:=Rg (hc1.2 rfl) hby hq
    simp[execOp,hcv,asBool,this]
  ·exact hv'.no.elim
 ·exact hv'.no.elim
theorem afi(h:Inv G n D E a w){op:Op}{ty:TypeId}{uo:UnOp}{x:IX}(hc:aA P op ty (.un uo x)=true){av:AV}(hv:gP (pv (.un uo x) (xg true E) E) av):
 ∃v,runs P a op ty w v/\NR G w E a av v:=by
 cases op<;>first|(simp[aA]at hc;done)|skip
 rename_i u t y
 simp only[aA,Bool.and_eq_true,decide_eq_true_eq]at hc
 obtain⟨rfl,hy⟩:=hc
 have hb:=BR.aV h hy
 have hv':gP (YD uo (xg true E x)) av:=hv
 generalize xg true E x=xv at hb hv'
 unfold YD at hv'
 split at hv'
 ·rename_i b
  have e:a.eval y=.bool b:=VR.lU hb
  rw[hv'.dh]
  exact⟨.bool (!b),fun _ _ _ _=>by simp[execOp,e,Op.unary],NR.mk rfl (.bool _) rfl⟩
 ·rename_i k m
  have e:a.eval y=.int k m:=VR.dj hb
  rw[hv'.dh]
  exact⟨.int k (k.wrap (0 -m)),fun _ _ _ _=>by simp[execOp,e,Op.unary,Op.intArith],NR.mk rfl (.int _ _) rfl⟩
 ·exact hv'.no.elim
theorem PI(h:Inv G n D E a w){op:Op}{ty:TypeId}{k:IntKind}{x:IX}(hc:aA P op ty (.mF k x)=true){av:AV}(hv:gP (pv (.mF k x) (xg true E) E) av):
 ∃v,runs P a op ty w v/\NR G w E a av v:=by
 cases op<;>first|(simp[aA]at hc;done)|skip
 rename_i s t y
 simp only[aA,Bool.and_eq_true]at hc
 obtain⟨hy,hc2⟩:=hc
 split at hc2
 ·rename_i k1 k2 hs ht
  have:=of_decide_eq_true hc2
  subst this
  have hb:=BR.aV h hy
  have hv':gP (uV k (xg true E x)) av:=hv
  generalize xg true E x=xv at hb hv'
  unfold uV at hv'
  split at hv'
  ·rename_i k' m
   have e:a.eval y=.int k' m:=VR.dj hb
   rw[hv'.dh]
   exact⟨.int k (k.wrap m),fun _ _ _ _=>by simp[execOp,e,convert,underlying,hs,ht,Conv.intToInt],NR.mk rfl (.int _ _) rfl⟩
  ·exact hv'.no.elim
 ·cases hc2
theorem K4(h:Inv G n D E a w){op:Op}{ty:TypeId}{x:IX}(hc:aA P op ty (.nilCheck x)=true){av:AV}(hv:gP (pv (.nilCheck x) (xg true E) E) av):
 ∃v,runs P a op ty w v/\NR G w E a av v:=by
 cases op<;>first|(simp[aA]at hc;done)|skip
 rename_i y
 have hb:=BR.aV h hc
 have hv':gP (lD (xg true E x)) av:=hv
 generalize xg true E x=xv at hb hv'
 unfold lD at hv'
 split at hv'
 ·rename_i b o
  have e:a.eval y=.pointer (some ⟨b,o,none⟩):=VR.fZ hb
  rw[hv'.dh]
  exact⟨_,fun _ _ _ _=>by simp[execOp,e],NR.mk rfl (.ref _ _) rfl⟩
 ·exact hv'.no.elim
theorem aaN(h:Inv G n D E a w){op:Op}{ty:TypeId}{bo:BinOp}{x y:IX}(hc:aA P op ty (.bin bo x y)=true){av:AV}(hv:gP (pv (.bin bo x y) (xg true E) E) av):
 ∃v,runs P a op ty w v/\NR G w E a av v:=by
 cases op<;>first|(simp[aA]at hc;done)|skip
 rename_i b t u v yt
 simp only[aA,Bool.and_eq_true,decide_eq_true_eq]at hc
 obtain⟨⟨rfl,hx⟩,hy⟩:=hc
 have hbx:=BR.aV h hx
 have hby:=BR.aV h hy
 have hv':gP (LK bo (xg true E x) (xg true E y)) av:=hv
 generalize xg true E x=xv at hbx hv'
 generalize xg true E y=yv at hby hv'
 unfold LK at hv'
 split at hv'
 ·rename_i k p k' q
  have e1:a.eval u=.int k p:=VR.dj hbx
  have e2:a.eval v=.int k' q:=VR.dj hby
  have fin:∀(V:AV)(r:Value),dp V=true->AB.view V=V->VR w G.R V r->gP (kk k k' (.dh V)) av->(k=k'->runs P a (.binOp bo t u v yt) ty w r)->∃v',runs P a (.binOp bo t u v yt) ty w v'/\NR G w E a av v':=by
   intro V r h1 h2 h3 h4 h5
   unfold kk Vz at h4
   by_cases hk:k=k'
   ·rw[decide_eq_true hk]at h4
    rw[h4.dh]
    grind [NR.mk]
   ·rw[decide_eq_false hk]at h4;exact h4.no.elim
  cases bo
  case shl=>
   obtain⟨rfl,h0⟩:=gP.fw hv'
   exact⟨_,fun _ _ _ _=>by simp[execOp,e1,e2,eqGuard,binOp,Op.shift,Int.not_lt.2 h0,jo],NR.mk rfl (.int _ _) rfl⟩
  case shr=>
   obtain⟨rfl,h0⟩:=gP.fw hv'
   exact⟨_,fun _ _ _ _=>by simp[execOp,e1,e2,eqGuard,binOp,Op.shift,Int.not_lt.2 h0],NR.mk rfl (.int _ _) rfl⟩
  case quo=>
   have kE:gP (kk k k' (.fw (q≠0) (.int k (jo k (p.tdiv q))))) av:=hv'
   unfold kk Vz at kE
   by_cases hk:k=k'
   ·rw[decide_eq_true hk]at kE
    obtain⟨rfl,h0⟩:=gP.fw kE
    subst hk
    exact⟨_,fun _ _ _ _=>by simp[execOp,e1,e2,eqGuard,binOp,Op.intDiv,h0,jo],NR.mk rfl (.int _ _) rfl⟩
   ·rw[decide_eq_false hk]at kE;exact kE.no.elim
  case rem=>
   have kE:gP (kk k k' (.fw (q≠0) (.int k (p.tmod q)))) av:=hv'
   unfold kk Vz at kE
   by_cases hk:k=k'
   ·rw[decide_eq_true hk]at kE
    obtain⟨rfl,h0⟩:=gP.fw kE
    subst hk
    exact⟨_,fun _ _ _ _=>by simp[execOp,e1,e2,eqGuard,binOp,Op.intDiv,h0],NR.mk rfl (.int _ _) rfl⟩
   ·rw[decide_eq_false hk]at kE;exact kE.no.elim
  case add=>exact fin _ _ rfl rfl (.int _ _) hv' fun hk _ _ _ _=>by subst hk;simp[execOp,e1,e2,eqGuard,binOp,Op.intArith,jo]
  case sub=>exact fin _ _ rfl rfl (.int _ _) hv' fun hk _ _ _ _=>by subst hk;simp[execOp,e1,e2,eqGuard,binOp,Op.intArith,jo]
  case mul=>exact fin _ _ rfl rfl (.int _ _) hv' fun hk _ _ _ _=>by subst hk;simp[execOp,e1,e2,eqGuard,binOp,Op.intArith,jo]
  case and=>exact fin _ _ rfl rfl (.int _ _) hv' fun hk _ _ _ _=>by subst hk;simp[execOp,e1,e2,eqGuard,binOp,Op.intBits]
  case or=>exact fin _ _ rfl rfl (.int _ _) hv' fun hk _ _ _ _=>by subst hk;simp[execOp,e1,e2,eqGuard,binOp,Op.intBits]
  case xor=>exact fin _ _ rfl rfl (.int _ _) hv' fun hk _ _ _ _=>by subst hk;simp[execOp,e1,e2,eqGuard,binOp,Op.intBits]
  case andNot=>exact fin _ _ rfl rfl (.int _ _) hv' fun hk _ _ _ _=>by subst hk;simp[execOp,e1,e2,eqGuard,binOp,Op.intBits]
  case eql=>exact fin _ _ rfl rfl (.bool _) hv' fun hk _ _ _ _=>by subst hk;simp[execOp,e1,e2,eqGuard,binOp,Op.intCmp]
  case neq=>exact fin _ _ rfl rfl (.bool _) hv' fun hk _ _ _ _=>by subst hk;simp[execOp,e1,e2,eqGuard,binOp,Op.intCmp]
  case lss=>exact fin _ _ rfl rfl (.bool _) hv' fun hk _ _ _ _=>by subst hk;simp[execOp,e1,e2,eqGuard,binOp,Op.intCmp]
  case leq=>exact fin _ _ rfl rfl (.bool _) hv' fun hk _ _ _ _=>by subst hk;simp[execOp,e1,e2,eqGuard,binOp,Op.intCmp]
  case gtr=>exact fin _ _ rfl rfl (.bool _) hv' fun hk _ _ _ _=>by subst hk;simp[execOp,e1,e2,eqGuard,binOp,Op.intCmp]
  case geq=>exact fin _ _ rfl rfl (.bool _) hv' fun hk _ _ _ _=>by subst hk;simp[execOp,e1,e2,eqGuard,binOp,Op.intCmp]
 ·rename_i p q
  have e1:a.eval u=.string ⟨p.toArray⟩:=VR.iJ hbx
  have e2:a.eval v=.string ⟨q.toArray⟩:=VR.iJ hby
  have tl:∀l:List UInt8,(ByteArray.mk l.toArray).toList=l:=fun l=>by simp_all
  cases bo<;>first|exact(gP.no hv').elim|skip
  case add=>
   obtain⟨rfl,h0⟩:=gP.fw hv'
   have h0':p.length+q.length<=9223372036854775807:=by
    have:((p.length+q.length:Nat):Int)<=9223372036854775807:=h0
    omega
   refine⟨.string ⟨(p++q).toArray⟩,fun _ _ _ _=>?_,NR.mk rfl (.str _) rfl⟩
   have hr:=run_string_add_sum (P:=P) w ⟨p.toArray⟩ ⟨q.toArray⟩ (by grind [ByteArray.size])
   rw[ByteArray.mk_append_mk]at hr
   simp[execOp,e1,e2,eqGuard,binOp,hr]
  all_goals
   rw[gP.dh hv']
   exact⟨.bool _,fun _ _ _ _=>by simp[execOp,e1,e2,eqGuard,binOp,Op.stringOp,tl],NR.mk rfl (.bool _) rfl⟩
 ·exact hv'.no.elim
theorem aaQ(h:Inv G n D E a w){op:Op}{ty:TypeId}{ne:Bool}{x y:IX}(hc:aA P op ty (.XD ne x y)=true){av:AV}(hv:gP (pv (.XD ne x y) (xg true E) E) av):
 ∃v,runs P a op ty w v/\NR G w E a av v:=by
 cases op<;>first|(simp[aA]at hc;done)|skip
 rename_i b t u v yt
 simp only[aA,Bool.and_eq_true,decide_eq_true_eq]at hc
 obtain⟨⟨⟨rfl,hx⟩,hy⟩,ht⟩:=hc
 have hbx:=BR.aV h hx
 have hby:=BR.aV h hy
 have hv':gP (L7 ne (xg true E x) (xg true E y)) av:=hv
 generalize xg true E x=xv at hbx hv'
 generalize xg true E y=yv at hby hv'
 have htb:P.underlying t=some .bool:=by
  unfold Xg at ht
  split at ht
  ·assumption
  ·cases ht
 unfold L7 at hv'
 split at hv'
 ·rename_i p q
  have e1:a.eval u=.bool p:=VR.lU hbx
  have e2:a.eval v=.bool q:=VR.lU hby
  rw[hv'.dh]
  refine⟨.bool ((p==q)!=ne),fun _ _ _ _=>?_,NR.mk rfl (.bool _) rfl⟩
  cases ne<;>simp[execOp,e1,e2,eqGuard,binOp,run_equal_bool w t p q htb]
 ·exact hv'.no.elim
theorem Ax{w:World}(d:Nat){t e:TypeId}(hte:P.underlying t=some (.pointer e))(p q:Option Addr)(hpq:p=none\/q=none):
 (Op.equalIn (d+1) t (.pointer p) (.pointer q)).run P w=.ok (p.isNone&&q.isNone) w:=by
 rcases hpq with rfl|rfl
 ·simp[Op.equalIn,run_underlying hte]
 ·cases p<;>simp[Op.equalIn,run_underlying hte]
theorem oR{w:World}(d:Nat){t e:TypeId}(hte:P.underlying t=some (.slice e))(b:Addr)(l c:Nat):
 (Op.equalIn (d+1) t (.slice (some b) l c) (.slice none 0 0)).run P w=.ok false w:=by
 simp[Op.equalIn,run_underlying hte]
theorem aaS(h:Inv G n D E a w){op:Op}{ty:TypeId}{ne:Bool}{x y:IX}(hc:aA P op ty (.T5 ne x y)=true){av:AV}(hv:gP (pv (.T5 ne x y) (xg true E) E) av):
 ∃v,runs P a op ty w v/\NR G w E a av v:=by
 cases op<;>first|(simp[aA]at hc;done)|skip
 rename_i b t u v yt
 simp only[aA,Bool.and_eq_true,decide_eq_true_eq]at hc
 obtain⟨⟨⟨rfl,hx⟩,hy⟩,ht⟩:=hc
 have hbx:=BR.aV h hx
 have hby:=BR.aV h hy
 have hv':gP (EL ne (xg true E x) (xg true E y)) av:=hv
 generalize xg true E x=xv at hbx hv'
 generalize xg true E y=yv at hby hv'
 have htb:∃e j,P.underlying t=some (.pointer e)/\P.info? e=some j:=by
  unfold afd at ht
  split at ht
  ·grind [Option.isSome_iff_exists]
  ·cases ht
 obtain⟨e,je,hte,hje⟩:=htb
 have eqn:∀p q:Option Addr,(p=none\/q=none)->(Op.equal t (.pointer p) (.pointer q)).run P w=.ok (p.isNone&&q.isNone) w:=by exact fun p q hpq=>Ax 9999 hte p q hpq
 have fin:∀p q:Option Addr,a.eval u=.pointer p->a.eval v=.pointer q->(p=none\/q=none)->runs P a (.binOp (if ne=true then .neq else .eql) t u v yt) ty w (.bool ((p.isNone&&q.isNone)!=ne)):=by
  intro p q e1 e2 hpq _ _ _ _
  cases ne<;>simp[execOp,e1,e2,eqGuard,binOp,eqn p q hpq]
 unfold EL at hv'
 split at hv'
 ·rw[hv'.dh]
  refine⟨_,fin _ _ (VR.s9 hbx) (VR.s9 hby) (.inl rfl),NR.mk rfl ?_ rfl⟩
  cases ne<;>exact .bool _
 ·rw[hv'.dh]
  refine⟨_,fin _ _ (VR.fZ hbx) (VR.s9 hby) (.inr rfl),NR.mk rfl ?_ rfl⟩
  cases ne<;>exact .bool _
 ·rw[hv'.dh]
  refine⟨_,fin _ _ (VR.s9 hbx) (VR.fZ hby) (.inl rfl),NR.mk rfl ?_ rfl⟩
  cases ne<;>exact .bool _
 ·rename_i b o b' o'
  by_cases hbo:b=b'/\o=o'
  ·obtain⟨rfl,rfl⟩:=hbo
   simp only[beq_self_eq_true,Bool.and_self,cond_true]at hv'
   rw[hv'.dh]
   have e1:=VR.fZ hbx
   have e2:=VR.fZ hby
   have hq:(Op.equal t (.pointer (some ⟨b,o,none⟩)) (.pointer (some ⟨b,o,none⟩))).run P w=.ok true w:=by
    have hd:∀d:Nat,(Op.equalIn (d+1) t (.pointer (some ⟨b,o,none⟩)) (.pointer (some ⟨b,o,none⟩))).run P w=.ok true w:=fun d=>by simp[Op.equalIn,run_underlying hte,sizeOf,typeInfo,hje,run_sameAddr_same]
    exact hd 9999
   refine⟨.bool (!ne),fun _ _ _ _=>?_,NR.mk rfl (.bool _) rfl⟩
   cases ne<;>simp[execOp,e1,e2,eqGuard,binOp,hq]
  ·have:(b==b'&&o==o')=false:=by
    cases hh:(b==b'&&o==o')with
    |false=>rfl
    |true=>grind
   rw[this]at hv'
   exact hv'.no.elim
 ·exact hv'.no.elim
theorem aaT(h:Inv G n D E a w){op:Op}{ty:TypeId}{ne:Bool}{x y:IX}(hc:aA P op ty (.T6 ne x y)=true){av:AV}(hv:gP (pv (.T6 ne x y) (xg true E) E) av):
 ∃v,runs P a op ty w v/\NR G w E a av v:=by
 cases op<;>first|(simp[aA]at hc;done)|skip
 rename_i b t u v yt
 simp only[aA,Bool.and_eq_true,decide_eq_true_eq]at hc
 obtain⟨⟨⟨rfl,hx⟩,hy⟩,ht⟩:=hc
 have hbx:=BR.aV h hx
 obtain⟨e,hte⟩:∃e,P.underlying t=some (.slice e):=by grind [cI]
 have fin:∀(d:Addr)(l c:Nat),a.eval u=.slice (some d) l c->a.eval v=.slice none 0 0->runs P a (.binOp (if ne=true then .neq else .eql) t u v yt) ty w (.bool ne):=by
  intro d l c e1 e2 _ _ _ _
  have:(Op.equal t (.slice (some d) l c) (.slice none 0 0)).run P w=.ok false w:=oR 9999 hte d l c
  cases ne<;>simp[execOp,e1,e2,eqGuard,binOp,this]
 cases y with
 |t i=>exact(gP.no hv).elim
 |c yv=>
  by_cases hyv:∃z,yv=.sl true z 0 []
  ·obtain⟨z,rfl⟩:=hyv
   have e2:a.eval v=.slice none 0 0:=by
    unfold bQ at hy
    cases v<;>simp at hy
    rename_i c
    show c=_
    unfold cR at hy
    split at hy<;>simp_all
   have hv':gP (Q3 ne (xg true E x) (.sl true z 0 [])) av:=hv
   generalize xg true E x=xv at hbx hv'
   unfold Q3 at hv'
   split at hv'
   ·rename_i o z' m cs _ _ _
    rw[hv'.dh]
    rcases VR.ik hbx with⟨_,h0,_⟩|⟨b,off,cap,e1,_⟩
    ·cases h0
    ·exact⟨_,fin _ _ _ e1 e2,NR.mk rfl (.bool _) rfl⟩
   ·rw[hv'.dh]
    exact⟨_,fin _ _ _ (VR.yN hbx (Nat.succ_pos _)) e2,NR.mk rfl (.bool _) rfl⟩
   ·exact hv'.no.elim
  ·have:pv (.T6 ne x (.c yv)) (xg true E) E=.no:=by
    unfold pv
    split<;>first|rfl|grind|grind
   rw[this]at hv
   exact hv.no.elim
end
theorem add_eq(b off i:Nat):(⟨b,off,none⟩:Addr).add i=⟨b,off+i,none⟩:=by grind [Addr.add]
theorem cell_of_row(w:World){b:Nat}{c:Array Value}{t:TypeId}{fr:Nat×Nat}(hg:w.heap[b]? =some (.cells c t fr))(j:Nat):w.cell? ⟨b,j,none⟩=c[j]? :=by grind [World.cell?]
theorem I4(cs:List AV)(off n j:Nat):(sub cs off n)[j]? =if j<n then cs[off+j]? else none:=by grind [sub]
theorem eY(cs:List AV)(j:Nat):(views cs)[j]? =(cs[j]?).map view:=by simp[views]
section
variable{P:Program}{G:Gh}{n:Nat}{D:List Deferred}{E:St}{a:Act}{w:World}
theorem At.views{R:Nat->Nat}{b off:Nat}{cs:List AV}(h:At w R b off cs):At w R b off (views cs):=by
 obtain⟨u,h1,h2,hf⟩:=h
 refine⟨u,fun j c hj=>?_,fun j c hj=>?_,hf.views⟩<;>rw[eY]at hj<;>cases hc:cs[j]? <;>rw[hc]at hj<;>simp at hj
 ·grind
 ·rw[<-hj];exact(h2 j _ hc).view
theorem At.sub{R:Nat->Nat}{b off:Nat}{cs:List AV}(h:At w R b off cs)(o n:Nat):At w R b (off+o) (sub cs o n):=by
 obtain⟨u,h1,h2,hf⟩:=h
 refine⟨fun j=>u (o+j),fun j c hj=>?_,fun j c hj=>?_,hf.sub o n⟩<;>rw[I4]at hj<;>split at hj<;>try(cases hj;done)
 ·grind
 grind
theorem At.KW{b:Nat}{cs:List AV}{c:Array Value}{t:TypeId}{fr:Nat×Nat}{o:Nat->cZ}(hh:w.heap[b]? =some (.cells c t fr))(hc:dq G w o cs c)(hf:Fl cs):At w G.R b 0 cs:=by
 refine⟨fun j=>c.getD j undef,fun j x hj=>?_,fun j x hj=>?_,hf⟩
 all_goals
  have hlt:j<c.size:=by rw[hc.1];exact(List.getElem?_eq_some_iff.1 hj).1
  have hcj:c[j]? =some (c.getD j undef):=by simp[Array.getD_eq_getD_getElem?,hlt]
 ·rw[Nat.zero_add,cell_of_row w hh,hcj]
 ·exact(hc.2 j x _ hj hcj).1
theorem Hf(cs:List AV)(off n:Nat):AB.sub (AB.views cs) off n=AB.views (AB.sub cs off n):=by simp[AB.sub,AB.views,List.map_drop,List.map_take]
theorem At.GK{b:Nat}{cs:List AV}{c:Array Value}{t t':TypeId}{fr:Nat×Nat}{o:Nat->cZ}(hh:w.heap[b]? =some (.cells c t fr))(hc:dq G w o cs c)(hf:AK t' cs):At w G.R b 0 (AB.views cs):=by
 refine⟨fun j=>c.getD j undef,fun j x hj=>?_,fun j x hj=>?_,hf.views⟩
 all_goals
  have hlt:j<c.size:=by rw[hc.1];have:=(List.getElem?_eq_some_iff.1 hj).1;simpa[AB.views]using this
  have hcj:c[j]? =some (c.getD j undef):=by simp[Array.getD_eq_getD_getElem?,hlt]
 ·rw[Nat.zero_add,cell_of_row w hh,hcj]
 ·have Mk:j<cs.length:=by rw[<-hc.1];exact hlt
  have hx:AB.view cs[j]=x:=by
   simp only[AB.views,List.getElem?_map,List.getElem?_eq_getElem Mk,Option.map_some]at hj
   injection hj
  rw[<-hx]
  exact(hc.2 j cs[j] _ (List.getElem?_eq_getElem Mk) hcj).1.view
theorem rB{n off:Nat}{cs ds:List AV}(h:iq n off cs=some ds):off+n<=cs.length/\ds=views (sub cs off n):=by grind [iq,decide_eq_true,decide_eq_false]
theorem jD{cs:List AV}{off n:Nat}(h:off+n<=cs.length):(AB.sub cs off n).length=n:=by grind [AB.sub]
theorem D2(h:Inv G n D E a w){x:IX}{p:AV}{v:Value}(hb:BR G w E a x p v){m:Nat}{cs:List AV}(hr:rd E p m=some cs):
 ∃b off,v=.pointer (some ⟨b,off,none⟩)/\cs.length=m/\At w G.R b off cs/\views cs=cs:=by
 have vv:∀l:List AV,views (views l)=views l:=fun l=>by simp[views,vp,Function.comp_def]
 unfold rd at hr
 split at hr
 ·rename_i ds
  obtain⟨hl,rfl⟩:=rB hr
  obtain⟨i,b,c,t,_,_,_,hv,_,_,hh,hc,hfl⟩:=hb
  have hat:=((At.KW hh hc hfl).sub 0 m).views
  simp only[Nat.add_zero]at hat
  grind [AB.views,jD]
 ·rename_i d off
  unfold lr at hr
  split at hr
  ·rename_i ds hd
   obtain⟨hl,rfl⟩:=rB hr
   obtain⟨b,hv,ht⟩:=hb
   have ht:=ht ds hd
   have hs:=h.cm d _ ht
   rw[hd]at hs
   obtain⟨b',c,t,h1,h2,h3,h4,h5,h6⟩:=hs
   injection h1 with h1;injection h1 with h1;injection h1 with h1 _ _
   subst h1
   have hat:=((At.KW h4 h5 h6).sub off m).views
   rw[Nat.zero_add]at hat
   grind [AB.views,jD]
  ·cases hr
 ·rename_i ds
  obtain⟨hl,rfl⟩:=rB hr
  obtain⟨b,off,hv,hR,hat⟩:=VR.Mp hb
  have hat:=(hat.sub 0 m).views
  grind [AB.views,jD]
 ·rename_i b off
  unfold su at hr
  split at hr
  ·rename_i ds hs
   obtain⟨hl,rfl⟩:=rB hr
   have hv:=VR.fZ hb
   obtain⟨h1,h2,c,t,h3,h4,h5⟩:=h.store b _ hs
   have hat:=(At.GK h3 h4 h5).sub off m
   rw[Nat.zero_add,Hf]at hat
   grind [AB.views,jD]
  ·cases hr
 ·cases hr
theorem j8{t:TypeId}{m:Nat}(h:dT P t m=true):∃i,P.info? t=some i/\i.size=m:=by grind [dT]
theorem run_sizeOf{t:TypeId}{m:Nat}(h:dT P t m=true)(w:World):(sizeOf t).run P w=.ok m w:=by
 obtain⟨i,h1,h2⟩:=j8 h
 simp[sizeOf,typeInfo,h1,h2]
theorem Ay{t:TypeId}{multi:Bool}(h:sC P t multi=true)(w:World):(isAgg t).run P w=.ok multi w:=by
 unfold sC at h
 split at h
 ·rename_i hh;subst h;simp[isAgg,underlying,hh]
 ·rename_i hh;subst h;simp[isAgg,underlying,hh]
 ·rename_i d h1 h2 hh
  have hm:multi=false:=by simpa using h
  subst hm
  simp only[isAgg,underlying,run_program,Sem.run_bind,Result.andThen_ok,hh,Sem.run_pure]
 ·cases h
theorem At.k9{R:Nat->Nat}{b off:Nat}{cs:List AV}(h:At w R b off cs):∃us:List Value,us.length=cs.length/\(∀(j:Nat)(v:Value),us[j]? =some v->w.cell? ((⟨b,off,none⟩:Addr).add j)=some v)/\
 (∀(j:Nat)(c:AV)(v:Value),cs[j]? =some c->us[j]? =some v->VR w R c v):=by
 obtain⟨u,h1,h2,_⟩:=h
 have key:∀(j:Nat)(v:Value),((List.range cs.length).map u)[j]? =some v->∃hj:j<cs.length,v=u j:=by
  intro j v hj
  rw[List.getElem?_map]at hj
  by_cases hlt:j<cs.length
  ·grind
  ·grind
 refine⟨(List.range cs.length).map u,by simp,fun j v hj=>?_,fun j c v hc hj=>?_⟩
 ·obtain⟨hlt,rfl⟩:=key j v hj
  rw[add_eq]
  simp_all
 grind
theorem px{R:Nat->Nat}{t:TypeId}{m:Nat}{multi:Bool}(hs:dT P t m=true)(hm:sC P t multi=true)(h1:(multi||m==1)=true){b off:Nat}{cs:List AV}(hl:cs.length=m)(hat:At w R b off cs):
 ∃v,(loadVar t ⟨b,off,none⟩).run P w=.ok v w/\VR w R (ny multi cs) v:=by
 have hfl:Fl cs:=by obtain⟨_,_,_,hf⟩:=hat;exact hf
 obtain⟨us,hul,hc,hv⟩:=hat.k9
 cases multi with
 |true=>
  have:=run_loadCells_list (P:=P) w ⟨b,off,none⟩ us hc
  rw[hul,hl]at this
  refine⟨.agg us.toArray,by simp[loadVar,Ay hm,run_sizeOf hs,this],?_⟩
  show VR w R (.agg cs) _
  exact .agg cs us.toArray hfl (by simp[hul]) fun j c v hcj hvj=>hv j c v hcj (by grind)
 |false=>
  have hm1:m=1:=by simpa using h1
  subst hm1
  match cs,hl with
  |[c],_=>
   match us,hul with
   |[u],_=>
    have h0:=hc 0 u rfl
    rw[add_eq]at h0
    refine⟨u,by simp[loadVar,Ay hm,show(w.cell? ⟨b,off,none⟩)=some u from h0],hv 0 c u rfl rfl⟩
theorem QG{a av:AV}(h:gP (Xq a) av):av=a/\dp a=true:=by
 unfold Xq at h
 cases hi:dp a with
 |true=>rw[hi]at h;exact⟨h.dh,rfl⟩
 |false=>rw[hi]at h;exact h.no.elim
theorem Ev{multi:Bool}{cs:List AV}(hv:views cs=cs):AB.view (ny multi cs)=ny multi cs:=by
 cases multi with
 |true=>rfl
 |false=>cases cs with
  |nil=>rfl
  |cons c l=>simp only[views,List.map_cons,List.cons.injEq]at hv;exact hv.1
theorem Oo(h:Inv G n D E a w){op:Op}{ty:TypeId}{m:Nat}{multi:Bool}{x:IX}(hc:aA P op ty (.load m multi x)=true){av:AV}(hv:gP (pv (.load m multi x) (xg true E) E) av):
 ∃v,runs P a op ty w v/\NR G w E a av v:=by
 cases op<;>first|(simp[aA]at hc;done)|skip
 rename_i t y
 simp only[aA,Bool.and_eq_true]at hc
 obtain⟨⟨⟨hs,hm⟩,h1⟩,hy⟩:=hc
 have hb:=BR.aV h hy
 have hv':gP (mi multi (rd E (xg true E x) m)) av:=hv
 cases hr:rd E (xg true E x) m with
 |none=>rw[hr]at hv';exact hv'.no.elim
 |some cs=>
  rw[hr]at hv'
  obtain⟨rfl,hi⟩:=QG hv'
  obtain⟨b,off,e,hl,hat,hvw⟩:=D2 h hb hr
  obtain⟨v,cH,hvr⟩:=px hs hm h1 hl hat
  exact⟨v,fun _ _ _ _=>by simp[execOp,e,Instr.loadAt,Instr.sureAddr,cH],NR.mk hi hvr (Ev hvw)⟩
theorem zz{t:TypeId}(h:M8 P t=true):P.underlying t=some .string:=by grind [M8]
theorem PM(h:Inv G n D E a w){op:Op}{ty:TypeId}{x i:IX}(hc:aA P op ty (.kX x i)=true){av:AV}(hv:gP (pv (.kX x i) (xg true E) E) av):
 ∃v,runs P a op ty w v/\NR G w E a av v:=by
 cases op<;>first|(simp[aA]at hc;done)|skip
 rename_i t y j
 simp only[aA,Bool.and_eq_true]at hc
 obtain⟨⟨hy,hj⟩,ht⟩:=hc
 have ht:=zz ht
 have hb:=BR.aV h hy
 have hbi:=BR.aV h hj
 have hv':gP (vj (xg true E x) (xg true E i)) av:=hv
 generalize xg true E x=xv at hb hv'
 generalize xg true E i=iv at hbi hv'
 unfold vj at hv'
 split at hv'
 ·rename_i s k q
  obtain⟨rfl,h0,hlt⟩:=hv'.fw
  have e1:a.eval y=.string ⟨s.toArray⟩:=VR.iJ hb
  have e2:a.eval j=.int k q:=VR.dj hbi
  have hq:q.toNat<s.length:=by omega
  have hg:(ByteArray.mk s.toArray)[q.toNat]? =some (s.getD q.toNat 0):=by
   have hsz:q.toNat<(ByteArray.mk s.toArray).size:=by simpa[ByteArray.size]using hq
   rw[show(ByteArray.mk s.toArray)[q.toNat]? =some ((ByteArray.mk s.toArray)[q.toNat]'hsz) from getElem?_pos (ByteArray.mk s.toArray) q.toNat hsz]
   have:(ByteArray.mk s.toArray)[q.toNat]=s.toArray[q.toNat]'(by grind):=rfl
   rw[this]
   simp[List.getD_eq_getElem?_getD,List.getElem?_eq_getElem hq]
  refine⟨.int .u8 (s.getD q.toNat 0).toNat,fun _ _ _ _=>by simp[execOp,e1,e2,Instr.index,underlying,ht,asIntOf,h0,hg],NR.mk rfl (.int _ _) rfl⟩
 ·exact hv'.no.elim
theorem c3{t e:TypeId}(h:cI P t=some e):P.underlying t=some (.slice e):=by grind [cI]
theorem IE(h:Inv G n D E a w){op:Op}{ty:TypeId}{off:Nat}{x:IX}(hc:aA P op ty (.fieldAddr off x)=true){av:AV}(hv:gP (pv (.fieldAddr off x) (xg true E) E) av):
 ∃v,runs P a op ty w v/\NR G w E a av v:=by
 cases op<;>first|(simp[aA]at hc;done)|skip
 rename_i t y i
 simp only[aA,Bool.and_eq_true]at hc
 obtain⟨hy,hc⟩:=hc
 split at hc<;>try(cases hc;done)
 rename_i fs ht
 split at hc<;>try(cases hc;done)
 rename_i f hf
 simp only[Bool.and_eq_true,beq_iff_eq]at hc
 obtain⟨rfl,hsz⟩:=hc
 split at hsz<;>try(cases hsz;done)
 rename_i ti hti
 have jg:ti.size≠0:=by have:=of_decide_eq_true hsz;omega
 have hb:=BR.aV h hy
 have cH:∀b o,a.eval y=.pointer (some ⟨b,o,none⟩)->runs P a (.fieldAddr t y i) ty w (.pointer (some ⟨b,o+f.offset,none⟩)):=by
  intro b o e _ _ _ _
  simp[execOp,e,Instr.fieldAt,underlying,ht,hf,Instr.sureAddr,fieldPlace,sizeOf,typeInfo,hti,jg,add_eq]
 have hv':gP (gj f.offset x (xg true E x)) av:=hv
 generalize hxv:xg true E x=xv at hb hv'
 unfold gj at hv'
 split at hv'
 ·rename_i d o
  rw[hv'.dh]
  obtain⟨b,h1,h2⟩:=hb
  exact⟨_,cH b o h1,b,rfl,h2⟩
 ·rename_i cs
  by_cases dt:f.offset<=cs.length
  ·rw[decide_eq_true dt]at hv'
   rw[hv'.dh]
   obtain⟨b,o,e,hR,u,h1,h2,hfl⟩:=VR.Mp hb
   refine⟨_,cH b o e,NR.mk rfl (.sp _ b (o+f.offset) (fun j=>u (f.offset+j)) (hfl.drop _) (by simp;omega) (fun j c hj=>?_) (fun j c hj=>?_)) rfl⟩
   ·grind
   grind
  ·rw[decide_eq_false dt]at hv';exact hv'.no.elim
 ·rename_i b o
  rw[hv'.dh]
  exact⟨_,cH b o (VR.fZ hb),NR.mk rfl (.ref _ _) rfl⟩
 ·rename_i cs
  unfold Pw at hv'
  split at hv'
  ·rename_i j
   obtain⟨rfl,_⟩:=hv'.fw
   obtain⟨i',b,c,t',e1,hl,htm,hvv,_⟩:=hb
   injection e1 with e1
   subst e1
   exact⟨_,cH b 0 hvv,b,by grind,fun _ _=>by rw[htm,hvv]⟩
  ·exact hv'.no.elim
 ·exact hv'.no.elim
end
section
variable{P:Program}{G:Gh}{n:Nat}{D:List Deferred}{E:St}{a:Act}{w:World}
theorem Q5{k:Int}{m sz len:Nat}(h0:0<=k)(h1:k<m)(hl:len=m*sz):k.toNat*sz+sz<=len:=by
 have:k.toNat+1<=m:=by omega
 calc k.toNat*sz+sz=(k.toNat+1)*sz:=by grind
  _<=m*sz:=Nat.mul_le_mul_right _ this
  _=len:=hl.symm
theorem IG(h:Inv G n D E a w){op:Op}{ty:TypeId}{z:List AV}{x i:IX}(hc:aA P op ty (.indexAddr z x i)=true){av:AV}(hv:gP (pv (.indexAddr z x i) (xg true E) E) av):
 ∃v,runs P a op ty w v/\NR G w E a av v:=by
 cases op<;>first|(simp[aA]at hc;done)|skip
 rename_i t y j
 simp only[aA,Bool.and_eq_true]at hc
 obtain⟨⟨hy,hj⟩,hc⟩:=hc
 split at hc<;>try(cases hc;done)
 rename_i e ht
 have ht:=c3 ht
 have hb:=BR.aV h hy
 have hbi:=BR.aV h hj
 have hv':gP (jJ z (xg true E x) (xg true E i)) av:=hv
 generalize xg true E x=xv at hb hv'
 generalize xg true E i=iv at hbi hv'
 have cH:∀b o l c k q,a.eval y=.slice (some ⟨b,o,none⟩) l c->a.eval j=.int k q->0<=q->q<l->runs P a (.indexAddr t y j) ty w (.pointer (some ⟨b,o+q.toNat*z.length,none⟩)):=by
  intro b o l c k q e1 e2 h0 h1 _ _ _ _
  simp[execOp,e1,e2,Instr.indexAt,asIntOf,run_underlying ht,h0,h1,run_sizeOf hc,add_eq]
 unfold jJ at hv'
 split at hv'
 ·rename_i ow s m cs k q
  cases hs:s==z.length with
  |false=>rw[hs]at hv';exact hv'.no.elim
  |true=>
   rw[hs]at hv'
   have hs:=beq_iff_eq.1 hs
   obtain⟨rfl,h0,h1⟩:=hv'.fw
   have e2:a.eval j=.int k q:=VR.dj hbi
   rcases VR.ik hb with⟨_,rfl,_⟩|⟨b,o,cap,e1,hl,hR,fL,hat⟩
   ·grind
   ·rw[hs]at hl
    have dt:=Q5 h0 h1 hl
    have hlen:(views (AB.sub cs (q.toNat*z.length) z.length)).length=z.length:=by simp only[AB.views,List.length_map,jD dt]
    have Zz:pad z (views (AB.sub cs (q.toNat*z.length) z.length))=views (AB.sub cs (q.toNat*z.length) z.length):=by
     unfold pad
     rw[hlen,beq_self_eq_true];rfl
    have ahY:=(hat.sub (q.toNat*z.length) z.length).views
    obtain⟨u,u1,u2,u3⟩:=ahY
    rw[Zz]
    refine⟨_,cH b o m cap k q e1 e2 h0 h1,NR.mk rfl (.sp _ b (o+q.toNat*z.length) u u3 ?_ u1 u2) rfl⟩
    grind
 ·rename_i b o m c k q
  obtain⟨rfl,h0,h1⟩:=hv'.fw
  rcases VR.df hb with e0|⟨h2,_,_⟩
  ·exact⟨_,cH b o m c k q e0 (VR.dj hbi) h0 h1,NR.mk rfl (.ref _ _) rfl⟩
  ·omega
 ·exact hv'.no.elim
theorem Fx(h:Inv G n D E a w){op:Op}{ty:TypeId}{sz len:Nat}{x i:IX}(hc:aA P op ty (.iQ sz len x i)=true){av:AV}(hv:gP (pv (.iQ sz len x i) (xg true E) E) av):
 ∃v,runs P a op ty w v/\NR G w E a av v:=by
 cases op<;>first|(simp[aA]at hc;done)|skip
 rename_i t y j
 simp only[aA,Bool.and_eq_true]at hc
 obtain⟨⟨hy,hj⟩,hc⟩:=hc
 split at hc<;>try(cases hc;done)
 rename_i l e ht
 simp only[Bool.and_eq_true,beq_iff_eq]at hc
 obtain⟨rfl,hs⟩:=hc
 have hb:=BR.aV h hy
 have hbi:=BR.aV h hj
 have hv':gP (fT sz l x (xg true E x) (xg true E i)) av:=hv
 generalize hxv:xg true E x=xv at hb hv'
 generalize xg true E i=iv at hbi hv'
 have cH:∀b o k q,a.eval y=.pointer (some ⟨b,o,none⟩)->a.eval j=.int k q->0<=q->q<l->runs P a (.indexAddr t y j) ty w (.pointer (some ⟨b,o+q.toNat*sz,none⟩)):=by
  intro b o k q e1 e2 h0 h1 _ _ _ _
  simp[execOp,e1,e2,Instr.indexAt,asIntOf,run_underlying ht,Instr.sureAddr,h0,h1,run_sizeOf hs,add_eq]
 unfold fT at hv'
 split at hv'
 ·rename_i d o k q
  obtain⟨rfl,h0,h1⟩:=hv'.fw
  obtain⟨b,e1,h2⟩:=hb
  exact⟨_,cH b o k q e1 (VR.dj hbi) h0 h1,b,rfl,h2⟩
 ·rename_i cs k q
  by_cases dt:l*sz<=cs.length
  ·rw[decide_eq_true dt]at hv'
   obtain⟨rfl,h0,h1⟩:=hv'.fw
   obtain⟨b,o,e,hR,u,u1,u2,u3⟩:=VR.Mp hb
   have hf:=Q5 (sz:=sz) h0 h1 rfl
   refine⟨_,cH b o k q e (VR.dj hbi) h0 h1,NR.mk rfl (.sp _ b (o+q.toNat*sz) (fun j=>u (q.toNat*sz+j)) (u3.drop _) (by simp;omega) (fun j c hj=>?_) (fun j c hj=>?_)) rfl⟩
   ·grind
   grind
  ·rw[decide_eq_false dt]at hv';exact hv'.no.elim
 ·rename_i b o k q
  obtain⟨rfl,h0,h1⟩:=hv'.fw
  exact⟨_,cH b o k q (VR.fZ hb) (VR.dj hbi) h0 h1,NR.mk rfl (.ref _ _) rfl⟩
 ·rename_i cs k q
  unfold Pw at hv'
  split at hv'
  ·rename_i j'
   obtain⟨rfl,h0,h1⟩:=hv'.fw
   obtain⟨i',b,c,t',e1,hl,htm,hvv,_⟩:=hb
   injection e1 with e1
   subst e1
   exact⟨_,cH b 0 k q hvv (VR.dj hbi) h0 h1,b,by grind,fun _ _=>by rw[htm,hvv]⟩
  ·exact hv'.no.elim
 ·exact hv'.no.elim
theorem jj{lo:Option Operand}{li:Option IX}(h:Inv G n D E a w)(hc:EH lo li=true){d l:Int}(hl:EC (xg true E) li d=some l):
 (lo=none/\l=d)\/(∃k o,lo=some o/\a.eval o=.int k l):=by
 unfold EH at hc
 split at hc
 ·injection hl with hl;grind
 ·rename_i o x
  have hb:=BR.aV h hc
  unfold EC at hl
  simp only at hl
  split at hl
  ·rename_i k q hq
   injection hl with hl;subst hl
   rw[hq]at hb
   exact .inr ⟨k,o,rfl,VR.dj hb⟩
  ·cases hl
 ·cases hc
theorem iC(E3:Bool)(len cap:Nat){lo hi:Option Value}{l hh:Int}(hlo:(lo=none/\l=0)\/∃k,lo=some (.int k l))(hhi:(hi=none/\hh=len)\/∃k,hi=some (.int k hh))
 (h0:0<=l)(h1:l<=hh)(h2:hh<=cap):(Instr.sliceBounds E3 len cap lo hi none).run P w=.ok (l.toNat,hh.toNat,cap) w:=by
 have hb:∀(k:IntKind)(q:Int)(y:Nat)(c:BoundsCode),0<=q->q<=y->(Instr.sliceBound (.int k q) y c).run P w=.ok q.toNat w:=by
  intro k q y c hq hy
  simp[Instr.sliceBound,asIntOf,hq,hy]
 rcases hhi with⟨rfl,rfl⟩|⟨k,rfl⟩
 ·rcases hlo with⟨rfl,rfl⟩|⟨k',rfl⟩
  ·simp[Instr.sliceBounds]
  ·simp[Instr.sliceBounds,hb k' l len _ h0 h1]
 ·have:=hb k hh cap (if E3 then .sliceAcap else .sliceAlen) (by omega) h2
  rcases hlo with⟨rfl,rfl⟩|⟨k',rfl⟩
  ·simp[Instr.sliceBounds,this]
  ·have h3:=hb k' l hh.toNat .sliceB h0 (by omega)
   simp[Instr.sliceBounds,this,h3]
theorem Az(E3:Bool)(len cap:Nat){lo:Option Value}{l hh m:Int}{kh km:IntKind}(hlo:(lo=none/\l=0)\/∃k,lo=some (.int k l))
 (h0:0<=l)(h1:l<=hh)(h2:hh<=m)(h3:m<=cap):(Instr.sliceBounds E3 len cap lo (some (.int kh hh)) (some (.int km m))).run P w=.ok (l.toNat,hh.toNat,m.toNat) w:=by
 have hb:∀(k:IntKind)(q:Int)(y:Nat)(c:BoundsCode),0<=q->q<=y->(Instr.sliceBound (.int k q) y c).run P w=.ok q.toNat w:=by
  intro k q y c hq hy
  simp[Instr.sliceBound,asIntOf,hq,hy]
 have e1:=hb km m cap (if E3 then .slice3Acap else .slice3Alen) (by omega) h3
 have e2:=hb kh hh m.toNat .slice3B (by omega) (by omega)
 rcases hlo with⟨rfl,rfl⟩|⟨k',rfl⟩
 ·simp[Instr.sliceBounds,e1,e2]
 ·have e3:=hb k' l hh.toNat .slice3C h0 (by omega)
  simp[Instr.sliceBounds,e1,e2,e3]
theorem lC{lo:Option Operand}{l d:Int}(h:(lo=none/\l=d)\/(∃k o,lo=some o/\a.eval o=.int k l)):(lo.map a.eval=none/\l=d)\/∃k,lo.map a.eval=some (.int k l):=by grind
theorem SN(h:Inv G n D E a w){op:Op}{ty:TypeId}{sz:Nat}{x:IX}{lo hi mx:Option IX}(hc:aA P op ty (.slice sz x lo hi mx)=true){av:AV}(hv:gP (pv (.slice sz x lo hi mx) (xg true E) E) av):
 ∃v,runs P a op ty w v/\NR G w E a av v:=by
 cases op<;>first|(simp[aA]at hc;done)|skip
 rename_i t y l' h' m'
 simp only[aA,Bool.and_eq_true]at hc
 obtain⟨⟨⟨⟨hy,hlo⟩,hhi⟩,hmx⟩,hc⟩:=hc
 split at hc<;>try(cases hc;done)
 rename_i e ht
 have ht:=c3 ht
 cases mx with
 |some m=>
  have hb:=BR.aV h hy
  have hv':gP (oT sz (xg true E) lo hi m (xg true E x)) av:=hv
  generalize xg true E x=xv at hb hv'
  unfold oT at hv'
  split at hv'
  ·rename_i b o len cap
   unfold AD at hv'
   split at hv'
   ·rename_i l hh mm hl hhh hmm
    obtain⟨rfl,h0,h1,h2,h3⟩:=hv'.fw
    have bl:=lC (jj h hlo hl)
    cases hi with
    |none=>cases hhh
    |some hi'=>
    have bh:=jj h hhi (d:=0) hhh
    have bm:=jj h hmx (d:=0) hmm
    rcases bh with⟨hn,_⟩|⟨kh,oh,eh1,eh2⟩
    ·grind [EH]
    rcases bm with⟨hn,_⟩|⟨km,om,em1,em2⟩
    ·grind [EH]
    subst eh1;subst em1
    have cH:=Az (P:=P) (w:=w) (kh:=kh) (km:=km) true len cap bl h0 h1 h2 h3
    have e3:hh.toNat -l.toNat=(hh -l).toNat:=by omega
    rcases VR.df hb with e1|⟨rfl,rfl,e1⟩
    ·by_cases hcl:mm.toNat=l.toNat
     ·have e5:jF o mm.toNat l.toNat sz=o:=by unfold jF;rw[hcl,beq_self_eq_true];rfl
      rw[e5]
      refine⟨.slice (some ⟨b,o,none⟩) (hh -l).toNat (mm.toNat -l.toNat),fun _ _ _ _=>?_,NR.mk rfl (.arr _ _ _ _) rfl⟩
      simp[execOp,e1,Instr.sliceAt,run_underlying ht,Instr.slice,eh2,em2,cH,run_sizeOf hc,hcl,e3]
     ·have e5:jF o mm.toNat l.toNat sz=o+l.toNat*sz:=by
       unfold jF
       rw[show(mm.toNat==l.toNat)=false by grind];rfl
      rw[e5]
      refine⟨.slice (some ⟨b,o+l.toNat*sz,none⟩) (hh -l).toNat (mm.toNat -l.toNat),fun _ _ _ _=>?_,NR.mk rfl (.arr _ _ _ _) rfl⟩
      simp[execOp,e1,Instr.sliceAt,run_underlying ht,Instr.slice,eh2,em2,cH,run_sizeOf hc,hcl,e3,add_eq]
    ·have h6:mm=0:=by omega
     have h4:hh=0:=by omega
     have h5:l=0:=by omega
     subst h6;subst h4;subst h5
     refine⟨.slice none 0 0,fun _ _ _ _=>?_,NR.mk rfl (by exact .Hn _ _) rfl⟩
     simp[execOp,e1,Instr.sliceAt,run_underlying ht,Instr.slice,eh2,em2,cH,run_sizeOf hc]
   ·exact hv'.no.elim
  ·exact hv'.no.elim
 |none=>
  have hm':m'=none:=by
   cases m' with
   |none=>rfl
   |some _=>simp[EH]at hmx
  subst hm'
  have hb:=BR.aV h hy
  have hv':gP (uv sz (xg true E) lo hi (xg true E x)) av:=hv
  generalize xg true E x=xv at hb hv'
  unfold uv at hv'
  split at hv'
  ·rename_i ow s m cs
   cases hs:s==sz with
   |false=>rw[hs]at hv';exact hv'.no.elim
   |true=>
    rw[hs]at hv'
    obtain rfl:=beq_iff_eq.1 hs
    have kE:gP (B4 s m cs (EC (xg true E) lo 0) (EC (xg true E) hi m)) av:=hv'
    unfold B4 at kE
    split at kE
    ·rename_i l hh hl hhh
     cases h1s:Nat.ble 1 s with
     |false=>rw[h1s]at kE;exact kE.no.elim
     |true=>
     rw[h1s]at kE
     have hs1:1<=s:=Nat.le_of_ble_eq_true h1s
     obtain⟨rfl,h0,h1,h2⟩:=kE.fw
     have bl:=lC (jj h hlo hl)
     have bh:=lC (jj h hhi hhh)
     rcases VR.ik hb with⟨e1,rfl,rfl⟩|⟨b,o,cap,e1,hlen,hR,fL,hat⟩
     ·have hl0:l=0:=by omega
      have hh0:hh=0:=by omega
      subst hl0;subst hh0
      have vI:AB.sub ([]:List AV) ((0:Int).toNat*s) ((0 -0:Int).toNat*s)=[]:=by simp[AB.sub]
      rcases e1 with e1|⟨_,ad,cap,e1⟩
      ·refine⟨.slice none 0 0,fun _ _ _ _=>?_,NR.mk rfl ?_ rfl⟩
       ·have:=iC (P:=P) (w:=w) true 0 0 bl bh (by omega) (by omega) (by omega)
        simp[execOp,e1,Instr.sliceAt,run_underlying ht,Instr.slice,this,run_sizeOf hc]
       ·rw[vI]
        show VR _ _ (.sl false s (0/s) []) _
        rw[Nat.zero_div];exact .slnil _ _
      ·refine⟨.slice (some (if cap=0 then ad else ad.add 0)) 0 cap,fun _ _ _ _=>?_,NR.mk rfl ?_ rfl⟩
       ·have:=iC (P:=P) (w:=w) true 0 cap bl bh (by omega) (by omega) (by omega)
        by_cases hc0:cap=0
        ·subst hc0
         simp[execOp,e1,Instr.sliceAt,run_underlying ht,Instr.slice,this,run_sizeOf hc]
        ·simp[execOp,e1,Instr.sliceAt,run_underlying ht,Instr.slice,this,run_sizeOf hc,hc0]
       ·rw[vI]
        show VR _ _ (.sl false s (0/s) []) _
        rw[Nat.zero_div];exact .sle _ _ _
     ·have cH:=iC (P:=P) (w:=w) true m cap bl bh h0 h1 (by omega)
      have dt:l.toNat*s+(hh -l).toNat*s<=cs.length:=by
       rw[hlen,<-Nat.add_mul]
       exact Nat.mul_le_mul_right _ (by omega)
      have hdiv:(AB.sub cs (l.toNat*s) ((hh -l).toNat*s)).length/s=(hh -l).toNat:=by rw[jD dt];exact Nat.mul_div_cancel _ hs1
      rw[hdiv]
      by_cases hcl:cap=l.toNat
      ·subst hcl
       have hz:(hh -l).toNat=0:=by omega
       refine⟨.slice (some ⟨b,o,none⟩) (hh -l).toNat (l.toNat -l.toNat),fun _ _ _ _=>?_,NR.mk rfl ?_ rfl⟩
       ·have e3:hh.toNat -l.toNat=(hh -l).toNat:=by omega
        simp[execOp,e1,Instr.sliceAt,run_underlying ht,Instr.slice,cH,run_sizeOf hc,e3]
       ·rw[hz]
        have:AB.sub cs (l.toNat*s) (0*s)=[]:=by simp[AB.sub]
        rw[this]
        exact .sl false s 0 [] b o _ (fun _=>undef) Fl.nil (by simp) (by simp;omega) (Nat.zero_le _) (fun j c hj=>by simp at hj) (fun j c hj=>by simp at hj)
      ·refine⟨.slice (some ⟨b,o+l.toNat*s,none⟩) (hh -l).toNat (cap -l.toNat),fun _ _ _ _=>?_,NR.mk rfl ?_ rfl⟩
       ·have e3:hh.toNat -l.toNat=(hh -l).toNat:=by omega
        simp[execOp,e1,Instr.sliceAt,run_underlying ht,Instr.slice,cH,run_sizeOf hc,hcl,e3,add_eq]
       ·obtain⟨u,u1,u2,u3⟩:=hat.sub (l.toNat*s) ((hh -l).toNat*s)
        exact .sl false s _ _ b _ _ u u3 (jD dt) (by grind [jD]) (by omega) u1 u2
    ·exact kE.no.elim
  ·rename_i b o m cap
   have kE:gP (zw sz b o cap (EC (xg true E) lo 0) (EC (xg true E) hi m)) av:=hv'
   unfold zw at kE
   split at kE
   ·rename_i l hh hl hhh
    obtain⟨rfl,h0,h1,h2⟩:=kE.fw
    have bl:=lC (jj h hlo hl)
    have bh:=lC (jj h hhi hhh)
    have cH:=iC (P:=P) (w:=w) true m cap bl bh h0 h1 h2
    have e3:hh.toNat -l.toNat=(hh -l).toNat:=by omega
    rcases VR.df hb with e1|⟨rfl,rfl,e1⟩
    ·by_cases hcl:cap=l.toNat
     ·have e5:jF o cap l.toNat sz=o:=by unfold jF;rw[hcl,beq_self_eq_true];rfl
      rw[e5]
      refine⟨.slice (some ⟨b,o,none⟩) (hh -l).toNat (cap -l.toNat),fun _ _ _ _=>?_,NR.mk rfl (.arr _ _ _ _) rfl⟩
      simp[execOp,e1,Instr.sliceAt,run_underlying ht,Instr.slice,cH,run_sizeOf hc,<-hcl,e3]
      grind
     ·have e5:jF o cap l.toNat sz=o+l.toNat*sz:=by
       unfold jF
       rw[show(cap==l.toNat)=false by grind];rfl
      rw[e5]
      refine⟨.slice (some ⟨b,o+l.toNat*sz,none⟩) (hh -l).toNat (cap -l.toNat),fun _ _ _ _=>?_,NR.mk rfl (.arr _ _ _ _) rfl⟩
      simp[execOp,e1,Instr.sliceAt,run_underlying ht,Instr.slice,cH,run_sizeOf hc,hcl,e3,add_eq]
    ·have h3:l=0:=by omega
     have h4:hh=0:=by omega
     subst h3;subst h4
     refine⟨.slice none 0 0,fun _ _ _ _=>?_,NR.mk rfl (by exact .Hn _ _) rfl⟩
     simp[execOp,e1,Instr.sliceAt,run_underlying ht,Instr.slice,cH,run_sizeOf hc]
   ·exact kE.no.elim
  ·exact hv'.no.elim
theorem PN(h:Inv G n D E a w){op:Op}{ty:TypeId}{x:IX}{lo hi:Option IX}(hc:aA P op ty (.pC x lo hi)=true){av:AV}(hv:gP (pv (.pC x lo hi) (xg true E) E) av):
 ∃v,runs P a op ty w v/\NR G w E a av v:=by
 cases op<;>first|(simp[aA]at hc;done)|skip
 rename_i t y l' h' m'
 cases m' with
 |some _=>simp[aA]at hc
 |none=>
  simp only[aA,Bool.and_eq_true]at hc
  obtain⟨⟨⟨hy,hlo⟩,hhi⟩,ht⟩:=hc
  have ht:=zz ht
  have hb:=BR.aV h hy
  have hv':gP (lI (xg true E) lo hi (xg true E x)) av:=hv
  generalize xg true E x=xv at hb hv'
  unfold lI at hv'
  split at hv'
  ·rename_i s
   have kE:gP (zx s (EC (xg true E) lo 0) (EC (xg true E) hi s.length)) av:=hv'
   unfold zx at kE
   split at kE
   ·rename_i l hh hl hhh
    obtain⟨rfl,h0,h1,h2⟩:=kE.fw
    have bl:=lC (jj h hlo hl)
    have bh:=lC (jj h hhi hhh)
    have e1:=VR.iJ hb
    have cH:=iC (P:=P) (w:=w) false s.length s.length bl bh h0 h1 h2
    have hsz:(ByteArray.mk s.toArray).size=s.length:=by simp[ByteArray.size]
    refine⟨.string ⟨((s.drop l.toNat).take (hh -l).toNat).toArray⟩,fun _ _ _ _=>?_,NR.mk rfl (.str _) rfl⟩
    have hex:(ByteArray.mk s.toArray).extract l.toNat hh.toNat=⟨((s.drop l.toNat).take (hh -l).toNat).toArray⟩:=by
     apply ByteArray.ext
     rw[ByteArray.data_extract]
     apply Array.ext'
     simp only[Array.toList_extract,List.extract_eq_take_drop]
     congr 1
     omega
    simp[execOp,e1,Instr.sliceAt,run_underlying ht,Instr.slice,hsz,cH,hex]
   ·exact kE.no.elim
  ·exact hv'.no.elim
theorem qR{b:Builtin}{c:Call}{ys:List Operand}{ts:List TypeId}(h:Qq b c=some (ys,ts)):c={callee:=.builtin b,args:=ys.toArray,argTypes:=ts.toArray}:=by
 unfold Qq at h
 split at h
 ·rename_i b' hb
  split at h
  ·rename_i hbb
   injection h with h;injection h with h1 h2
   subst hbb;subst h1;subst h2
   cases c;simp_all
  ·cases h
 ·cases h
theorem aaU(h:Inv G n D E a w){op:Op}{ty:TypeId}{cls:Nat}{x:IX}(hc:aA P op ty (.len cls x)=true){av:AV}(hv:gP (pv (.len cls x) (xg true E) E) av):
 ∃v,runs P a op ty w v/\NR G w E a av v:=by
 cases op<;>first|(simp[aA]at hc;done)|skip
 rename_i c
 simp only[aA]at hc
 split at hc<;>try(cases hc;done)
 rename_i y ys t ts hb
 have hce:=qR hb
 subst hce
 rw[Bool.and_eq_true]at hc
 obtain⟨hy,hlt⟩:=hc
 have hb:=BR.aV h hy
 have hv':gP (Bu E.s cls (xg true E x)) av:=hv
 generalize xg true E x=xv at hb hv'
 have fin:∀(m:Nat),av=.int .i64 m->(∀w',w'=w->(Builtin.len_ (t::ts).toArray ty ((y::ys).toArray.map a.eval)).run P w'=.ok (.int .i64 m) w')->∃v,runs P a (.call {callee:=.builtin .len,args:=(y::ys).toArray,argTypes:=(t::ts).toArray}) ty w v/\NR G w E a av v:=by
  intro m hm hr
  subst hm
  exact⟨.int .i64 m,fun _ _ _ _=>by simp[execOp,resolve,invoke,builtin]at hr⊢;simp[hr],NR.mk rfl (.int _ _) rfl⟩
 unfold aey at hlt
 split at hlt<;>try(cases hlt;done)
 all_goals
  rename_i ht
  obtain rfl:=beq_iff_eq.1 hlt
  unfold Bu at hv'
  split at hv'<;>rename_i hcl<;>try(cases hcl;done)
 ·rename_i ow s m cs
  refine fin m hv'.dh fun w' _=>?_
  rcases VR.ik hb with⟨e0,rfl,_⟩|⟨b,o,cap,e1,_⟩
  ·obtain⟨_,_,e1⟩:=e0.ex
   simp[Builtin.len_,run_underlying ht,goInt,e1]
  ·simp[Builtin.len_,run_underlying ht,goInt,e1]
 ·rename_i b o m c
  refine fin m hv'.dh fun w' _=>?_
  rcases VR.df hb with e1|⟨rfl,_,e1⟩<;>simp[Builtin.len_,run_underlying ht,goInt,e1]
 ·exact hv'.no.elim
 ·rename_i s
  refine fin s.length hv'.dh fun w' _=>?_
  have e1:=VR.iJ hb
  have hsz:(ByteArray.mk s.toArray).size=s.length:=by simp[ByteArray.size]
  simp only[List.map_toArray,List.map_cons,e1]
  simp[Builtin.len_,run_underlying ht,goInt,hsz]
 ·exact hv'.no.elim
 ·refine fin 0 hv'.dh fun w' _=>?_
  simp[Builtin.len_,run_underlying ht,goInt,VR.RJ hb]
 ·rename_i b
  unfold Mx at hv'
  split at hv'
  ·rename_i es hs
   refine fin es.length hv'.dh fun w' hw'=>?_
   subst hw'
   obtain⟨_,_,sP,clock,hh,hsz,_⟩:=h.store b _ hs
   have hg:(getObj b).run P w'=.ok (.map sP clock) w':=by simp[getObj,Sem.run,hh]
   simp[Builtin.len_,run_underlying ht,goInt,VR.ZK hb,hg,hsz]
  ·exact hv'.no.elim
 ·exact hv'.no.elim
theorem VJ(mx:Bool)(k:IntKind)(h:Inv G n D E a w):∀(xs:List IX)(ys:List Operand),iI ys xs=true->∀(m r:Int),KO mx m (xs.map (xg true E))=some r->
 ((ys.map a.eval).foldlM (if mx then Builtin.max2 else Builtin.min2) (.int k m)).run P w=.ok (.int k r) w:=by
 intro xs
 induction xs with
 |nil=>
  intro ys hc m r hr
  cases ys with
  |nil=>simp[KO]at hr;subst hr;rfl
  |cons _ _=>simp[iI]at hc
 |cons x xs ih=>
  intro ys hc m r hr
  cases ys with
  |nil=>simp[iI]at hc
  |cons y ys=>
   simp only[iI,Bool.and_eq_true]at hc
   have hb:=BR.aV h hc.1
   simp only[List.map_cons]at hr⊢
   generalize xg true E x=xv at hb hr
   cases xv<;>simp only[KO]at hr<;>try(cases hr;done)
   rename_i k' q
   have e:=VR.dj hb
   grind [Sem.run_bind,Builtin.max2,max,Sem.run_pure,Builtin.min2,min]
theorem MP(h:Inv G n D E a w){op:Op}{ty:TypeId}{k:Nat}{x:IX}(hc:aA P op ty (.extract x k)=true){av:AV}(hv:gP (pv (.extract x k) (xg true E) E) av):
 ∃v,runs P a op ty w v/\NR G w E a av v:=by
 cases op<;>first|(simp[aA]at hc;done)|skip
 rename_i y j
 simp only[aA,Bool.and_eq_true,beq_iff_eq]at hc
 obtain⟨hy,rfl⟩:=hc
 have hb:=BR.aV h hy
 have hv':gP (pP k (xg true E x)) av:=hv
 generalize xg true E x=xv at hb hv'
 unfold pP at hv'
 split at hv'
 ·rename_i vs
  obtain⟨us,e1,hl,hr⟩:=VR.NY hb
  cases hk:vs[k]? with
  |none=>rw[hk]at hv';exact hv'.no.elim
  |some c=>
   rw[hk]at hv'
   obtain⟨rfl,hi⟩:=QG hv'
   have hlt:k<us.size:=by rw[hl];exact(List.getElem?_eq_some_iff.1 hk).1
   have hu:=Array.getElem?_eq_getElem hlt
   exact⟨us[k],fun _ _ _ _=>by simp[execOp,e1,Instr.extract,hu],NR.mk hi (hr k c _ hk hu).view (vp _)⟩
 ·exact hv'.no.elim
end
end Go.AB
end
