/- A part. -/
import Derived.Test.YtkeagffgdajggaaGreatSt2
import Derived.Laws.Cells
import Derived.Laws.Strings
import Derived.Laws.Pointers
import Derived.Laws.Small
import Derived.LaidEqlPtr
import Derived.Laws.Concat
set_option linter.unusedSimpArgs false
set_option linter.unusedVariables false
section
namespace Go.AB
open Go
theorem q9{v:Value}{a:AV}(h:cR v a=true)(w:World)(R:Nat->Nat):VR w R a v:=by
 unfold cR at h
 split at h
 ·obtain rfl:=beq_iff_eq.1 h;exact .bool _
 ·rw[Bool.and_eq_true]at h;obtain⟨h1,h2⟩:=h;obtain rfl:=of_decide_eq_true h1;obtain rfl:=beq_iff_eq.1 h2;exact .int _ _
 ·obtain rfl:=beq_iff_eq.1 h
  rename_i s
  have:∀b:ByteArray,b=⟨b.data.toList.toArray⟩:=fun b=>by cases b;simp
  conv=>rhs;rw[this s]
  exact .str _
 ·exact .cZ
 ·exact .slnil _ _
 ·exact .FM _ _
 ·exact .bb _ _ _ _ (.slnil _ _) (fun _=>rfl)
 ·exact .sd
 ·exact .nn
 ·exact .kp
 ·cases h
theorem Ov{v:Value}{a:AV}(h:cR v a=true):cO a=true:=by
 unfold cR at h
 split at h<;>first|rfl|cases h
theorem AW{vs:List Value}{as:List AV}(h:Ke vs as=true):vs.length=as.length/\∀(j:Nat)(c:AV)(v:Value),as[j]? =some c->vs[j]? =some v->cR v c=true:=by
 induction vs generalizing as with
 |nil=>cases as with
  |nil=>exact⟨rfl,fun j c v hc=>by simp at hc⟩
  |cons=>simp[Ke]at h
 |cons v vs ih=>cases as with
  |nil=>simp[Ke]at h
  |cons a as=>
   simp only[Ke,Bool.and_eq_true]at h
   obtain⟨h1,h2⟩:=ih h.2
   refine⟨by simp[h1],fun j c u hc hu=>?_⟩
   cases j with
   |zero=>simp at hc hu;subst hc;subst hu;exact h.1
   |succ j=>exact h2 j c u (by simpa using hc) (by simpa using hu)
theorem Rr{v:Value}{a:AV}(h:cR v a=true):oE a=true:=by
 unfold cR at h
 split at h<;>first|rfl|cases h
theorem BA:∀{vs:List Value}{as:List AV},Ke vs as=true->Fl as
 |[],[],_=>Fl.nil
 |v::vs,a::as,h=>by
  simp only[Ke,Bool.and_eq_true]at h
  intro c hc
  rcases List.mem_cons.1 hc with rfl|hc
  ·exact Rr h.1
  ·exact BA h.2 c hc
 |[],_::_,h=>by simp[Ke]at h
 |_::_,[],h=>by simp[Ke]at h
theorem Lz{vs:Array Value}{cs:List AV}(h:Ke vs.toList cs=true)(w:World)(R:Nat->Nat):VR w R (.agg cs) (.agg vs):=by
 obtain⟨h1,h2⟩:=AW h
 exact .agg cs vs (BA h) (by simpa using h1) fun j c v hc hv=>q9 (h2 j c v hc (by simpa using hv)) w R
theorem Bz{v:Value}{a:AV}(h:cR v a=true)(G:Gh)(w:World)(o:cD):cQ G w o a v:=by
 unfold cR at h
 split at h<;>first|(cases h;done)|trivial|skip
 ·rename_i own sz
  cases own with
  |false=>trivial
  |true=>intro base m cap hv hc;injection hv with _ h2 h3;omega
 ·intro base m cap hv hc;injection hv with _ h2 h3;omega
section
variable{P:Program}{G:Gh}{n:Nat}{D:List Deferred}{E:St}{a:Act}{w:World}
def BR(G:Gh)(w:World)(E:St)(a:Act)(x:IX):AV->Value->Prop
 |.loc cs,v=>∃i b c t,x=.t i/\look E.e i=.loc cs/\a.tmps[i]? =some v/\v=.pointer (some ⟨b,0,none⟩)/\G.O b=.loc i/\G.R b=0/\w.heap[b]? =some (.cells c t (0,0))/\cP G w (.cell b) cs c/\Fl cs
 |.lp d off,v=>∃b,v=.pointer (some ⟨b,off,none⟩)/\∀cs,look E.e d=.loc cs->a.tmps[d]? =some (.pointer (some ⟨b,0,none⟩))
 |.when _ _,_=>True
 |.us _ _ _,_=>True
 |av,v=>VR w G.R av v
def XR(G:Gh)(w:World)(E:St)(a:Act)(x:IX):AV->Value->Prop
 |.when b av,v=>b=true->inner av=true->BR G w E a x av v
 |av,v=>BR G w E a x av v
theorem BR.vr{x:IX}{av:AV}{v:Value}(h:cO av=true)(hv:BR G w E a x av v):VR w G.R av v:=by cases av<;>simp_all [cO,BR]
theorem XR.br{x:IX}{av:AV}{v:Value}(hv:XR G w E a x av v):BR G w E a x (vz true av) v:=by
 cases av<;>try exact hv
 rename_i b av
 cases b with
 |false=>
  have:vz true (.when false av)=.undef:=by simp[vz]
  rw[this];exact VR.undef v
 |true=>
  cases hi:inner av with
  |false=>
   have:vz true (.when true av)=.undef:=by simp[vz,hi]
   rw[this];exact VR.undef v
  |true=>
   have:vz true (.when true av)=av:=by simp[vz,hi]
   rw[this];exact hv rfl hi
theorem XR.Sr{i:Nat}(hi:a.tmps[i]? =some (a.eval (.tmp i))){av:AV}(hl:look E.e i=av)(h:cN G w E.e a.tmps i av (a.eval (.tmp i))):XR G w E a (.t i) av (a.eval (.tmp i)):=by
 have base:∀av:AV,(∀cs,av=.loc cs->look E.e i=.loc cs)->cN G w E.e a.tmps i av (a.eval (.tmp i))->BR G w E a (.t i) av (a.eval (.tmp i)):=by
  intro av hl h
  cases av with
  |loc cs=>
   obtain⟨b,c,t,h1,h2,h3,h4,h5⟩:=h
   exact⟨i,b,c,t,rfl,hl cs rfl,hi,h1,h2,h3,h4,h5⟩
  |lp d off=>exact h
  |gb vs=>
   obtain⟨ys,h1,h2⟩:=h
   rw[h1]
   exact VR.gb vs ys h2.1 fun j c u hc hu=>(h2.2 j c u hc hu).1
  | «when» b av=>trivial
  |us sz m cs=>trivial
  |_=>exact h.1
 cases av with
 | «when» b av=>exact fun hb hin=>base av (fun cs hcs=>by subst hcs;cases hin) (h.1 hb)
 |_=>exact base _ (fun cs hcs=>by rw[hl,hcs]) h
theorem fh{i:Nat}(hi:i<a.tmps.size):a.tmps[i]? =some (a.eval (.tmp i)):=by simp[Act.eval,Array.getD_eq_getD_getElem?,hi]
theorem XR.aG(h:Inv G n D E a w){o:Operand}{x:IX}(hx:bp o x=true):XR G w E a x (E.x x) (a.eval o):=by
 unfold bp at hx
 split at hx
 ·rename_i t i
  obtain rfl:=beq_iff_eq.1 hx
  rcases Nat.lt_or_ge t n with ht|ht
  ·have hs:t<a.tmps.size:=by rw[h.size];exact ht
   exact XR.Sr (fh hs) rfl (h.bO t _ (fh hs))
  ·have:E.x (.t t)=.undef:=h.DE t ht
   rw[this];exact VR.undef _
 ·exact Lz hx w G.R
 ·rename_i v av _
  have hv:=q9 hx w G.R
  have hi:=Ov hx
  show XR G w E a _ av v
  cases av<;>first|exact hv|(simp[cO]at hi)
 ·rename_i f g
  obtain rfl:=beq_iff_eq.1 hx
  exact VR.fn f [] [] #[] #[] rfl (fun j c v hc=>by simp at hc) rfl (fun j c v hc=>by simp at hc)
 ·cases hx
theorem BR.aG(h:Inv G n D E a w){o:Operand}{x:IX}(hx:bp o x=true):BR G w E a x (xg true E x) (a.eval o):=(XR.aG h hx).br
def NR(G:Gh)(w:World)(E:St)(a:Act)(av:AV)(v:Value):Prop:=
 match av with
 |.lp d off=>∃b,v=.pointer (some ⟨b,off,none⟩)/\∀cs,look E.e d=.loc cs->a.tmps[d]? =some (.pointer (some ⟨b,0,none⟩))
 |av=>cO av=true/\VR w G.R av v/\view av=av
end
def fG(r:PR)(av:AV):Prop:=r=.cT av\/∃c,r=.prt c av/\c
theorem fG.cT{a av:AV}(h:fG (.cT a) av):av=a:=by
 rcases h with h|⟨c,h,_⟩
 ·injection h with h;exact h.symm
 ·cases h
theorem fG.prt{c:Prop}{a av:AV}(h:fG (.prt c a) av):av=a/\c:=by
 rcases h with h|⟨c',h,hc⟩
 ·cases h
 ·injection h with h1 h2;exact⟨h2.symm,h1▸hc⟩
theorem fG.no{av:AV}(h:fG .no av):False:=by rcases h with h|⟨c',h,hc⟩<;>cases h
theorem jW{a:AV}(h:cO a=true):cO (view a)=true:=by cases a<;>simp_all [cO,view]
theorem kM(a:AV):view (view a)=view a:=by cases a<;>rfl
section
variable{P:Program}{G:Gh}{n:Nat}{D:List Deferred}{E:St}{a:Act}{w:World}
theorem NR.view{av:AV}{v:Value}(hi:cO av=true)(h:VR w G.R av v):NR G w E a (view av) v:=by
 have:cO (AB.view av)=true/\VR w G.R (AB.view av) v/\AB.view (AB.view av)=AB.view av:=⟨jW hi,h.view,kM _⟩
 cases av<;>first|exact this|(simp[cO]at hi)
theorem NR.mk{av:AV}{v:Value}(hi:cO av=true)(h:VR w G.R av v)(hv:AB.view av=av):NR G w E a av v:=hv▸NR.view hi h
theorem VR.fR{R:Nat->Nat}{b:Bool}{v:Value}(h:VR w R (.bool b) v):v=.bool b:=by cases h;rfl
theorem VR.bT{R:Nat->Nat}{k:IntKind}{m:Int}{v:Value}(h:VR w R (.int k m) v):v=.int k m:=by cases h;rfl
theorem VR.eV{R:Nat->Nat}{s:List UInt8}{v:Value}(h:VR w R (.str s) v):v=.string ⟨s.toArray⟩:=by cases h;rfl
theorem VR.rp{R:Nat->Nat}{v:Value}(h:VR w R .cZ v):v=.pointer none:=by cases h;rfl
theorem VR.fu{R:Nat->Nat}{b o:Nat}{v:Value}(h:VR w R (.ref b o) v):v=.pointer (some ⟨b,o,none⟩):=by cases h;rfl
theorem VR.cc{R:Nat->Nat}{b o l c:Nat}{v:Value}(h:VR w R (.arr b o l c) v):v=.slice (some ⟨b,o,none⟩) l c\/(l=0/\c=0/\v=.slice none 0 0):=by
 cases h with
 |arr=>exact .inl rfl
 |FM=>exact .inr ⟨rfl,rfl,rfl⟩
theorem VR.pM{R:Nat->Nat}{b o l c:Nat}{v:Value}(h:VR w R (.arr b o l c) v)(hc:0<c):v=.slice (some ⟨b,o,none⟩) l c:=by
 rcases h.cc with h|⟨_,h,_⟩
 ·exact h
 ·omega
theorem VR.KF{R:Nat->Nat}{b:Nat}{v:Value}(h:VR w R (.mp b) v):v=.map (some b):=by cases h;rfl
theorem VR.IW{R:Nat->Nat}{v:Value}(h:VR w R .sd v):v=.map none:=by cases h;rfl
theorem VR.wj{R:Nat->Nat}{cs:List AV}{v:Value}(h:VR w R (.agg cs) v):∃vs:Array Value,v=.agg vs/\vs.size=cs.length/\(∀(j:Nat)(c:AV)(u:Value),cs[j]? =some c->vs[j]? =some u->VR w R c u)/\Fl cs:=by cases h with|agg _ vs hf hl hr=>exact⟨vs,rfl,hl,hr,hf⟩
theorem VR.LX{R:Nat->Nat}{cs:List AV}{v:Value}(h:VR w R (.gb cs) v):∃vs:Array Value,v=.tuple vs/\vs.size=cs.length/\∀(j:Nat)(c:AV)(u:Value),cs[j]? =some c->vs[j]? =some u->VR w R c u:=by cases h with|gb _ vs hl hr=>exact⟨vs,rfl,hl,hr⟩
def At(w:World)(R:Nat->Nat)(b off:Nat)(cs:List AV):Prop:=∃u:Nat->Value,(∀(j:Nat)(c:AV),cs[j]? =some c->w.cell? ⟨b,off+j,none⟩=some (u j))/\(∀(j:Nat)(c:AV),cs[j]? =some c->VR w R c (u j))/\Fl cs
theorem VR.PA{R:Nat->Nat}{cs:List AV}{v:Value}(h:VR w R (.sp cs) v):∃b off,v=.pointer (some ⟨b,off,none⟩)/\off+cs.length<=R b/\At w R b off cs:=by cases h with|sp _ b off u hf hR hc hr=>exact⟨b,off,rfl,hR,u,hc,hr,hf⟩
def vC(own:Bool)(v:Value):Prop:=v=.slice none 0 0\/(own=false/\∃a cap,v=.slice (some a) 0 cap)
theorem vC.own{v:Value}(h:vC true v):v=.slice none 0 0:=h.elim id fun h=>by cases h.1
theorem vC.ex{own:Bool}{v:Value}(h:vC own v):∃base cap,v=.slice base 0 cap:=by
 rcases h with h|⟨_,a,cap,h⟩
 ·exact⟨_,_,h⟩
 ·exact⟨_,_,h⟩
theorem VR.fD{R:Nat->Nat}{own:Bool}{sz m:Nat}{cs:List AV}{v:Value}(h:VR w R (.sl own sz m cs) v):
 (vC own v/\m=0/\cs=[])\/∃b off cap,v=.slice (some ⟨b,off,none⟩) m cap/\cs.length=m*sz/\off+cs.length<=R b/\m<=cap/\At w R b off cs:=by
 cases h with
 |slnil=>exact .inl ⟨.inl rfl,rfl,rfl⟩
 |sle=>exact .inl ⟨.inr ⟨rfl,_,_,rfl⟩,rfl,rfl⟩
 |sl _ _ _ _ b off cap u hf hl hR fQ hc hr=>exact .inr ⟨b,off,cap,rfl,hl,hR,fQ,u,hc,hr,hf⟩
theorem VR.Gr{R:Nat->Nat}{f:Nat}{x y:List AV}{v:Value}(h:VR w R (.fn f x y) v):∃vf vc:Array Value,v=.func (.func f) vf vc/\vf.size=x.length/\(∀(j:Nat)(c:AV)(u:Value),x[j]? =some c->vf[j]? =some u->VR w R c u)/\
 vc.size=y.length/\(∀(j:Nat)(c:AV)(u:Value),y[j]? =some c->vc[j]? =some u->VR w R c u):=by
 cases h with|fn _ _ _ vf vc h1 h2 h3 h4=>exact⟨vf,vc,rfl,h1,h2,h3,h4⟩
def runs(P:Program)(a:Act)(op:Op)(ty:TypeId)(w:World)(v:Value):Prop:=∀(d:Option Tmp)(pos:String)(after:Array Edge)(g:Option (Nat×Bool)),(execOp a.eval ⟨d,op,ty,pos,after,g⟩).run P w=.ok (.value v) w
theorem WK(h:Inv G n D E a w){op:Op}{ty:TypeId}{x:IX}(hc:aq P op ty (.iJ false x)=true){av:AV}(hv:fG (pv (.iJ false x) (xg true E) E) av):
 ∃v,runs P a op ty w v/\NR G w E a av v:=by
 have key:∀y,bp y x=true->NR G w E a av (a.eval y):=fun y hy=>by
  have hb:=BR.aG h hy
  have hv':fG (Ni (xg true E x)) av:=hv
  unfold Ni at hv'
  cases hi:cO (xg true E x)with
  |false=>rw[hi]at hv';exact hv'.no.elim
  |true=>
   rw[hi]at hv'
   rw[hv'.cT]
   exact NR.view hi (hb.vr hi)
 cases op<;>first|(simp[aq]at hc;done)|skip
 ·rename_i y
  exact⟨a.eval y,fun _ _ _ _=>rfl,key y hc⟩
 ·rename_i y
  exact⟨a.eval y,fun _ _ _ _=>rfl,key y hc⟩
theorem Zz{g:Bool}{x:IX}{v:Value}{p:Bool}(hg:g=true)(hx:XR G w E a x (E.x x) v)(h:O3 (E.x x)=some (g,p)):v=.bool p:=by
 subst hg
 generalize E.x x=av at*
 unfold O3 at h
 split at h
 ·injection h with h;injection h with _ h;subst h;cases hx;rfl
 ·injection h with h;injection h with h1 h2;subst h1;subst h2
  have:=hx rfl rfl
  cases this;rfl
 ·cases h
theorem O4{g:Bool}{x:IX}{v:Value}{p:Bool}(hg:g=true)(hx:XR G w E a x (E.x x) v)(h:Vn (E.x x)=some (g,p)):v=.bool p:=by
 refine Zz hg hx ?_
 unfold Vn at h
 split at h
 ·injection h with h;injection h with h1 _;rw[hg]at h1;cases h1
 ·exact h
theorem SI(h:Inv G n D E a w){op:Op}{ty:TypeId}{c x y:IX}(hc:aq P op ty (.pick c x y)=true){av:AV}(hv:fG (pv (.pick c x y) (xg true E) E) av):
 ∃v,runs P a op ty w v/\NR G w E a av v:=by
 cases op<;>first|(simp[aq]at hc;done)|skip
 rename_i c' x' y'
 simp only[aq,Bool.and_eq_true]at hc
 have hbc:=BR.aG h hc.1.1
 have hbx:=XR.aG h hc.1.2
 have hby:=XR.aG h hc.2
 have hv':fG (Fj (E.x x) (E.x y) (xg true E c)) av:=hv
 generalize xg true E c=cv at hbc hv'
 unfold Fj at hv'
 split at hv'
 ·rename_i b
  have hcv:a.eval c'=.bool b:=VR.fR hbc
  unfold Qc at hv'
  split at hv'
  ·rename_i g1 p g2 q hp hq
   rcases hv' with hv'|⟨c1,hv',hc1⟩
   ·cases hv'
   injection hv' with h1 h2
   subst h1 h2
   refine⟨.bool (bif b then p else q),fun _ _ _ _=>?_,NR.mk rfl (.bool _) rfl⟩
   cases b with
   |true=>
    have:=O4 (hc1.1 rfl) hbx hp
    simp[execOp,hcv,asBool,this]
   |false=>
    have:=O4 (hc1.2 rfl) hby hq
    simp[execOp,hcv,asBool,this]
  ·exact hv'.no.elim
 ·exact hv'.no.elim
theorem aaY(h:Inv G n D E a w){op:Op}{ty:TypeId}{uo:UnOp}{x:IX}(hc:aq P op ty (.un uo x)=true){av:AV}(hv:fG (pv (.un uo x) (xg true E) E) av):
 ∃v,runs P a op ty w v/\NR G w E a av v:=by
 cases op<;>first|(simp[aq]at hc;done)|skip
 rename_i u t y
 simp only[aq,Bool.and_eq_true,decide_eq_true_eq]at hc
 obtain⟨rfl,hy⟩:=hc
 have hb:=BR.aG h hy
 have hv':fG (UJ uo (xg true E x)) av:=hv
 generalize xg true E x=xv at hb hv'
 unfold UJ at hv'
 split at hv'
 ·rename_i b
  have e:a.eval y=.bool b:=VR.fR hb
  rw[hv'.cT]
  exact⟨.bool (!b),fun _ _ _ _=>by simp[execOp,e,Op.unary],NR.mk rfl (.bool _) rfl⟩
 ·rename_i k m
  have e:a.eval y=.int k m:=VR.bT hb
  rw[hv'.cT]
  exact⟨.int k (k.wrap (0 -m)),fun _ _ _ _=>by simp[execOp,e,Op.unary,Op.intArith],NR.mk rfl (.int _ _) rfl⟩
 ·exact hv'.no.elim
theorem Nq(h:Inv G n D E a w){op:Op}{ty:TypeId}{k:IntKind}{x:IX}(hc:aq P op ty (.cC k x)=true){av:AV}(hv:fG (pv (.cC k x) (xg true E) E) av):
 ∃v,runs P a op ty w v/\NR G w E a av v:=by
 cases op<;>first|(simp[aq]at hc;done)|skip
 rename_i s t y
 simp only[aq,Bool.and_eq_true]at hc
 obtain⟨hy,hc2⟩:=hc
 split at hc2
 ·rename_i k1 k2 hs ht
  have:=of_decide_eq_true hc2
  subst this
  have hb:=BR.aG h hy
  have hv':fG (sR k (xg true E x)) av:=hv
  generalize xg true E x=xv at hb hv'
  unfold sR at hv'
  split at hv'
  ·rename_i k' m
   have e:a.eval y=.int k' m:=VR.bT hb
   rw[hv'.cT]
   exact⟨.int k (k.wrap m),fun _ _ _ _=>by simp[execOp,e,convert,underlying,hs,ht,Conv.intToInt],NR.mk rfl (.int _ _) rfl⟩
  ·exact hv'.no.elim
 ·cases hc2
theorem Jz(h:Inv G n D E a w){op:Op}{ty:TypeId}{x:IX}(hc:aq P op ty (.nilCheck x)=true){av:AV}(hv:fG (pv (.nilCheck x) (xg true E) E) av):
 ∃v,runs P a op ty w v/\NR G w E a av v:=by
 cases op<;>first|(simp[aq]at hc;done)|skip
 rename_i y
 have hb:=BR.aG h hc
 have hv':fG (kG (xg true E x)) av:=hv
 generalize xg true E x=xv at hb hv'
 unfold kG at hv'
 split at hv'
 ·rename_i b o
  have e:a.eval y=.pointer (some ⟨b,o,none⟩):=VR.fu hb
  rw[hv'.cT]
  exact⟨_,fun _ _ _ _=>by simp[execOp,e],NR.mk rfl (.ref _ _) rfl⟩
 ·exact hv'.no.elim
theorem WB(h:Inv G n D E a w){op:Op}{ty:TypeId}{bo:BinOp}{x y:IX}(hc:aq P op ty (.bin bo x y)=true){av:AV}(hv:fG (pv (.bin bo x y) (xg true E) E) av):
 ∃v,runs P a op ty w v/\NR G w E a av v:=by
 cases op<;>first|(simp[aq]at hc;done)|skip
 rename_i b t u v yt
 simp only[aq,Bool.and_eq_true,decide_eq_true_eq]at hc
 obtain⟨⟨rfl,hx⟩,hy⟩:=hc
 have hbx:=BR.aG h hx
 have hby:=BR.aG h hy
 have hv':fG (J8 bo (xg true E x) (xg true E y)) av:=hv
 generalize xg true E x=xv at hbx hv'
 generalize xg true E y=yv at hby hv'
 unfold J8 at hv'
 split at hv'
 ·rename_i k p k' q
  have e1:a.eval u=.int k p:=VR.bT hbx
  have e2:a.eval v=.int k' q:=VR.bT hby
  have fin:∀(V:AV)(r:Value),cO V=true->AB.view V=V->VR w G.R V r->fG (kk k k' (.cT V)) av->(k=k'->runs P a (.binOp bo t u v yt) ty w r)->∃v',runs P a (.binOp bo t u v yt) ty w v'/\NR G w E a av v':=by
   intro V r h1 h2 h3 h4 h5
   unfold kk Nb at h4
   by_cases hk:k=k'
   ·rw[decide_eq_true hk]at h4
    rw[h4.cT]
    exact⟨r,h5 hk,NR.mk h1 h3 h2⟩
   ·rw[decide_eq_false hk]at h4;exact h4.no.elim
  cases bo
  case shl=>
   obtain⟨rfl,h0⟩:=fG.prt hv'
   exact⟨_,fun _ _ _ _=>by simp[execOp,e1,e2,eqGuard,binOp,Op.shift,Int.not_lt.2 h0,lS],NR.mk rfl (.int _ _) rfl⟩
  case shr=>
   obtain⟨rfl,h0⟩:=fG.prt hv'
   exact⟨_,fun _ _ _ _=>by simp[execOp,e1,e2,eqGuard,binOp,Op.shift,Int.not_lt.2 h0],NR.mk rfl (.int _ _) rfl⟩
  case quo=>
   have jV:fG (kk k k' (.prt (q≠0) (.int k (lS k (p.tdiv q))))) av:=hv'
   unfold kk Nb at jV
   by_cases hk:k=k'
   ·rw[decide_eq_true hk]at jV
    obtain⟨rfl,h0⟩:=fG.prt jV
    subst hk
    exact⟨_,fun _ _ _ _=>by simp[execOp,e1,e2,eqGuard,binOp,Op.intDiv,h0,lS],NR.mk rfl (.int _ _) rfl⟩
   ·rw[decide_eq_false hk]at jV;exact jV.no.elim
  case rem=>
   have jV:fG (kk k k' (.prt (q≠0) (.int k (p.tmod q)))) av:=hv'
   unfold kk Nb at jV
   by_cases hk:k=k'
   ·rw[decide_eq_true hk]at jV
    obtain⟨rfl,h0⟩:=fG.prt jV
    subst hk
    exact⟨_,fun _ _ _ _=>by simp[execOp,e1,e2,eqGuard,binOp,Op.intDiv,h0],NR.mk rfl (.int _ _) rfl⟩
   ·rw[decide_eq_false hk]at jV;exact jV.no.elim
  case add=>exact fin _ _ rfl rfl (.int _ _) hv' fun hk _ _ _ _=>by subst hk;simp[execOp,e1,e2,eqGuard,binOp,Op.intArith,lS]
  case sub=>exact fin _ _ rfl rfl (.int _ _) hv' fun hk _ _ _ _=>by subst hk;simp[execOp,e1,e2,eqGuard,binOp,Op.intArith,lS]
  case mul=>exact fin _ _ rfl rfl (.int _ _) hv' fun hk _ _ _ _=>by subst hk;simp[execOp,e1,e2,eqGuard,binOp,Op.intArith,lS]
  case and=>exact fin _ _ rfl rfl (.int _ _) hv' fun hk _ _ _ _=>by subst hk;simp[execOp,e1,e2,eqGuard,binOp,Op.intBits]
  case or=>exact fin _ _ rfl rfl (.int _ _) hv' fun hk _ _ _ _=>by subst hk;simp[execOp,e1,e2,eqGuard,binOp,Op.intBits]
  case xor=>exact fin _ _ rfl rfl (.int _ _) hv' fun hk _ _ _ _=>by subst hk;simp[execOp,e1,e2,eqGuard,binOp,Op.intBits]
  case andNot=>exact fin _ _ rfl rfl (.int _ _) hv' fun hk _ _ _ _=>by subst hk;simp[execOp,e1,e2,eqGuard,binOp,Op.intBits]
  case eql=>exact fin _ _ rfl rfl (.bool _) hv' fun hk _ _ _ _=>by subst hk;simp[execOp,e1,e2,eqGuard,binOp,Op.intCmp]
  case neq=>exact fin _ _ rfl rfl (.bool _) hv' fun hk _ _ _ _=>by subst hk;simp[execOp,e1,e2,eqGuard,binOp,Op.intCmp]
  case lss=>exact fin _ _ rfl rfl (.bool _) hv' fun hk _ _ _ _=>by subst hk;simp[execOp,e1,e2,eqGuard,binOp,Op.intCmp]
  case leq=>exact fin _ _ rfl rfl (.bool _) hv' fun hk _ _ _ _=>by subst hk;simp[execOp,e1,e2,eqGuard,binOp,Op.intCmp]
  case gtr=>exact fin _ _ rfl rfl (.bool _) hv' fun hk _ _ _ _=>by subst hk;simp[execOp,e1,e2,eqGuard,binOp,Op.intCmp]
  case geq=>exact fin _ _ rfl rfl (.bool _) hv' fun hk _ _ _ _=>by subst hk;simp[execOp,e1,e2,eqGuard,binOp,Op.intCmp]
 ·rename_i p q
  have e1:a.eval u=.string ⟨p.toArray⟩:=VR.eV hbx
  have e2:a.eval v=.string ⟨q.toArray⟩:=VR.eV hby
  have tl:∀l:List UInt8,(ByteArray.mk l.toArray).toList=l:=fun l=>by rw[ByteArray.toList_eq]
  cases bo<;>first|exact(fG.no hv').elim|skip
  case add=>
   obtain⟨rfl,h0⟩:=fG.prt hv'
   have h0':p.length+q.length<=9223372036854775807:=by
    have:((p.length+q.length:Nat):Int)<=9223372036854775807:=h0
    omega
   refine⟨.string ⟨(p++q).toArray⟩,fun _ _ _ _=>?_,NR.mk rfl (.str _) rfl⟩
   have hr:=run_string_add_sum (P:=P) w ⟨p.toArray⟩ ⟨q.toArray⟩ (by simpa[ByteArray.size]using h0')
   rw[ByteArray.mk_append_mk]at hr
   simp[execOp,e1,e2,eqGuard,binOp,hr]
  all_goals
   rw[fG.cT hv']
   exact⟨.bool _,fun _ _ _ _=>by simp[execOp,e1,e2,eqGuard,binOp,Op.stringOp,tl],NR.mk rfl (.bool _) rfl⟩
 ·exact hv'.no.elim
theorem WE(h:Inv G n D E a w){op:Op}{ty:TypeId}{ne:Bool}{x y:IX}(hc:aq P op ty (.RG ne x y)=true){av:AV}(hv:fG (pv (.RG ne x y) (xg true E) E) av):
 ∃v,runs P a op ty w v/\NR G w E a av v:=by
 cases op<;>first|(simp[aq]at hc;done)|skip
 rename_i b t u v yt
 simp only[aq,Bool.and_eq_true,decide_eq_true_eq]at hc
 obtain⟨⟨⟨rfl,hx⟩,hy⟩,ht⟩:=hc
 have hbx:=BR.aG h hx
 have hby:=BR.aG h hy
 have hv':fG (Ku ne (xg true E x) (xg true E y)) av:=hv
 generalize xg true E x=xv at hbx hv'
 generalize xg true E y=yv at hby hv'
 have htb:P.underlying t=some .bool:=by
  unfold TB at ht
  split at ht
  ·assumption
  ·cases ht
 unfold Ku at hv'
 split at hv'
 ·rename_i p q
  have e1:a.eval u=.bool p:=VR.fR hbx
  have e2:a.eval v=.bool q:=VR.fR hby
  rw[hv'.cT]
  refine⟨.bool ((p==q)!=ne),fun _ _ _ _=>?_,NR.mk rfl (.bool _) rfl⟩
  cases ne<;>simp[execOp,e1,e2,eqGuard,binOp,run_equal_bool w t p q htb]
 ·exact hv'.no.elim
theorem yH{w:World}(d:Nat){t e:TypeId}(hte:P.underlying t=some (.pointer e))(p q:Option Addr)(hpq:p=none\/q=none):
 (Op.equalIn (d+1) t (.pointer p) (.pointer q)).run P w=.ok (p.isNone&&q.isNone) w:=by
 rcases hpq with rfl|rfl
 ·simp[Op.equalIn,run_underlying hte]
 ·cases p<;>simp[Op.equalIn,run_underlying hte]
theorem xp{w:World}(d:Nat){t e:TypeId}(hte:P.underlying t=some (.slice e))(b:Addr)(l c:Nat):
 (Op.equalIn (d+1) t (.slice (some b) l c) (.slice none 0 0)).run P w=.ok false w:=by
 simp[Op.equalIn,run_underlying hte]
theorem WI(h:Inv G n D E a w){op:Op}{ty:TypeId}{ne:Bool}{x y:IX}(hc:aq P op ty (.HO ne x y)=true){av:AV}(hv:fG (pv (.HO ne x y) (xg true E) E) av):
 ∃v,runs P a op ty w v/\NR G w E a av v:=by
 cases op<;>first|(simp[aq]at hc;done)|skip
 rename_i b t u v yt
 simp only[aq,Bool.and_eq_true,decide_eq_true_eq]at hc
 obtain⟨⟨⟨rfl,hx⟩,hy⟩,ht⟩:=hc
 have hbx:=BR.aG h hx
 have hby:=BR.aG h hy
 have hv':fG (DJ ne (xg true E x) (xg true E y)) av:=hv
 generalize xg true E x=xv at hbx hv'
 generalize xg true E y=yv at hby hv'
 have htb:∃e j,P.underlying t=some (.pointer e)/\P.info? e=some j:=by
  unfold aaT at ht
  split at ht
  ·rename_i e he
   obtain⟨j,hj⟩:=Option.isSome_iff_exists.1 ht
   exact⟨e,j,he,hj⟩
  ·cases ht
 obtain⟨e,je,hte,hje⟩:=htb
 have eqn:∀p q:Option Addr,(p=none\/q=none)->(Op.equal t (.pointer p) (.pointer q)).run P w=.ok (p.isNone&&q.isNone) w:=by exact fun p q hpq=>yH 9999 hte p q hpq
 have fin:∀p q:Option Addr,a.eval u=.pointer p->a.eval v=.pointer q->(p=none\/q=none)->runs P a (.binOp (if ne=true then .neq else .eql) t u v yt) ty w (.bool ((p.isNone&&q.isNone)!=ne)):=by
  intro p q e1 e2 hpq _ _ _ _
  cases ne<;>simp[execOp,e1,e2,eqGuard,binOp,eqn p q hpq]
 unfold DJ at hv'
 split at hv'
 ·rw[hv'.cT]
  refine⟨_,fin _ _ (VR.rp hbx) (VR.rp hby) (.inl rfl),NR.mk rfl ?_ rfl⟩
  cases ne<;>exact .bool _
 ·rw[hv'.cT]
  refine⟨_,fin _ _ (VR.fu hbx) (VR.rp hby) (.inr rfl),NR.mk rfl ?_ rfl⟩
  cases ne<;>exact .bool _
 ·rw[hv'.cT]
  refine⟨_,fin _ _ (VR.rp hbx) (VR.fu hby) (.inl rfl),NR.mk rfl ?_ rfl⟩
  cases ne<;>exact .bool _
 ·rename_i b o b' o'
  by_cases hbo:b=b'/\o=o'
  ·obtain⟨rfl,rfl⟩:=hbo
   simp only[beq_self_eq_true,Bool.and_self,cond_true]at hv'
   rw[hv'.cT]
   have e1:=VR.fu hbx
   have e2:=VR.fu hby
   have hq:(Op.equal t (.pointer (some ⟨b,o,none⟩)) (.pointer (some ⟨b,o,none⟩))).run P w=.ok true w:=by
    have hd:∀d:Nat,(Op.equalIn (d+1) t (.pointer (some ⟨b,o,none⟩)) (.pointer (some ⟨b,o,none⟩))).run P w=.ok true w:=fun d=>by simp[Op.equalIn,run_underlying hte,sizeOf,typeInfo,hje,run_sameAddr_same]
    exact hd 9999
   refine⟨.bool (!ne),fun _ _ _ _=>?_,NR.mk rfl (.bool _) rfl⟩
   cases ne<;>simp[execOp,e1,e2,eqGuard,binOp,hq]
  ·have:(b==b'&&o==o')=false:=by
    cases hh:(b==b'&&o==o')with
    |false=>rfl
    |true=>simp at hh;exact absurd hh hbo
   rw[this]at hv'
   exact hv'.no.elim
 ·exact hv'.no.elim
end
theorem add_eq(b off i:Nat):(⟨b,off,none⟩:Addr).add i=⟨b,off+i,none⟩:=by
 unfold Addr.add
 by_cases h:i=0<;>simp[h]
theorem cell_of_row(w:World){b:Nat}{c:Array Value}{t:TypeId}{fr:Nat×Nat}(hg:w.heap[b]? =some (.cells c t fr))(j:Nat):w.cell? ⟨b,j,none⟩=c[j]? :=by
 unfold World.cell?
 rw[hg];simp
theorem Bd(cs:List AV)(off n j:Nat):(sub cs off n)[j]? =if j<n then cs[off+j]? else none:=by
 unfold sub
 rw[List.getElem?_take]
 split
 ·rw[List.getElem?_drop]
 ·rfl
theorem dH(cs:List AV)(j:Nat):(views cs)[j]? =(cs[j]?).map view:=by simp[views]
section
variable{P:Program}{G:Gh}{n:Nat}{D:List Deferred}{E:St}{a:Act}{w:World}
theorem At.views{R:Nat->Nat}{b off:Nat}{cs:List AV}(h:At w R b off cs):At w R b off (views cs):=by
 obtain⟨u,h1,h2,hf⟩:=h
 refine⟨u,fun j c hj=>?_,fun j c hj=>?_,hf.views⟩<;>rw[dH]at hj<;>cases hc:cs[j]? <;>rw[hc]at hj<;>simp at hj
 ·exact h1 j _ hc
 ·rw[<-hj];exact(h2 j _ hc).view
theorem At.sub{R:Nat->Nat}{b off:Nat}{cs:List AV}(h:At w R b off cs)(o n:Nat):At w R b (off+o) (sub cs o n):=by
 obtain⟨u,h1,h2,hf⟩:=h
 refine⟨fun j=>u (o+j),fun j c hj=>?_,fun j c hj=>?_,hf.sub o n⟩<;>rw[Bd]at hj<;>split at hj<;>try(cases hj;done)
 ·rw[Nat.add_assoc];exact h1 _ c hj
 ·exact h2 _ c hj
theorem At.Jq{b:Nat}{cs:List AV}{c:Array Value}{t:TypeId}{fr:Nat×Nat}{o:Nat->cD}(hh:w.heap[b]? =some (.cells c t fr))(hc:cP G w o cs c)(hf:Fl cs):At w G.R b 0 cs:=by
 refine⟨fun j=>c.getD j undef,fun j x hj=>?_,fun j x hj=>?_,hf⟩
 all_goals
  have hlt:j<c.size:=by rw[hc.1];exact(List.getElem?_eq_some_iff.1 hj).1
  have hcj:c[j]? =some (c.getD j undef):=by simp[Array.getD_eq_getD_getElem?,hlt]
 ·rw[Nat.zero_add,cell_of_row w hh,hcj]
 ·exact(hc.2 j x _ hj hcj).1
theorem FC(cs:List AV)(off n:Nat):AB.sub (AB.views cs) off n=AB.views (AB.sub cs off n):=by simp[AB.sub,AB.views,List.map_drop,List.map_take]
theorem At.Fc{b:Nat}{cs:List AV}{c:Array Value}{t t':TypeId}{fr:Nat×Nat}{o:Nat->cD}(hh:w.heap[b]? =some (.cells c t fr))(hc:cP G w o cs c)(hf:xH t' cs):At w G.R b 0 (AB.views cs):=by
 refine⟨fun j=>c.getD j undef,fun j x hj=>?_,fun j x hj=>?_,hf.views⟩
 all_goals
  have hlt:j<c.size:=by rw[hc.1];have:=(List.getElem?_eq_some_iff.1 hj).1;simpa[AB.views]using this
  have hcj:c[j]? =some (c.getD j undef):=by simp[Array.getD_eq_getD_getElem?,hlt]
 ·rw[Nat.zero_add,cell_of_row w hh,hcj]
 ·have Vz:j<cs.length:=by rw[<-hc.1];exact hlt
  have hx:AB.view cs[j]=x:=by
   simp only[AB.views,List.getElem?_map,List.getElem?_eq_getElem Vz,Option.map_some]at hj
   injection hj
  rw[<-hx]
  exact(hc.2 j cs[j] _ (List.getElem?_eq_getElem Vz) hcj).1.view
theorem pY{n off:Nat}{cs ds:List AV}(h:gL n off cs=some ds):off+n<=cs.length/\ds=views (sub cs off n):=by
 unfold gL at h
 by_cases hl:off+n<=cs.length
 ·rw[decide_eq_true hl]at h;injection h with h;exact⟨hl,h.symm⟩
 ·rw[decide_eq_false hl]at h;cases h
theorem ja{cs:List AV}{off n:Nat}(h:off+n<=cs.length):(AB.sub cs off n).length=n:=by unfold AB.sub;simp;omega
theorem CU(h:Inv G n D E a w){x:IX}{p:AV}{v:Value}(hb:BR G w E a x p v){m:Nat}{cs:List AV}(hr:rd E p m=some cs):
 ∃b off,v=.pointer (some ⟨b,off,none⟩)/\cs.length=m/\At w G.R b off cs/\views cs=cs:=by
 have vv:∀l:List AV,views (views l)=views l:=fun l=>by simp[views,kM,Function.comp_def]
 unfold rd at hr
 split at hr
 ·rename_i ds
  obtain⟨hl,rfl⟩:=pY hr
  obtain⟨i,b,c,t,_,_,_,hv,_,_,hh,hc,hfl⟩:=hb
  have hat:=((At.Jq hh hc hfl).sub 0 m).views
  simp only[Nat.add_zero]at hat
  exact⟨b,0,hv,by simp[AB.views,ja hl],hat,vv _⟩
 ·rename_i d off
  unfold kB at hr
  split at hr
  ·rename_i ds hd
   obtain⟨hl,rfl⟩:=pY hr
   obtain⟨b,hv,ht⟩:=hb
   have ht:=ht ds hd
   have hs:=h.bO d _ ht
   rw[hd]at hs
   obtain⟨b',c,t,h1,h2,h3,h4,h5,h6⟩:=hs
   injection h1 with h1;injection h1 with h1;injection h1 with h1 _ _
   subst h1
   have hat:=((At.Jq h4 h5 h6).sub off m).views
   rw[Nat.zero_add]at hat
   exact⟨b,off,hv,by simp[AB.views,ja hl],hat,vv _⟩
  ·cases hr
 ·rename_i ds
  obtain⟨hl,rfl⟩:=pY hr
  obtain⟨b,off,hv,hR,hat⟩:=VR.PA hb
  have hat:=(hat.sub 0 m).views
  exact⟨b,off,hv,by simp[AB.views,ja hl],hat,vv _⟩
 ·rename_i b off
  unfold tL at hr
  split at hr
  ·rename_i ds hs
   obtain⟨hl,rfl⟩:=pY hr
   have hv:=VR.fu hb
   obtain⟨h1,h2,c,t,h3,h4,h5⟩:=h.store b _ hs
   have hat:=(At.Fc h3 h4 h5).sub off m
   rw[Nat.zero_add,FC]at hat
   exact⟨b,off,hv,by simp[AB.views,ja hl],hat,vv _⟩
  ·cases hr
 ·cases hr
theorem jF{t:TypeId}{m:Nat}(h:cH P t m=true):∃i,P.info? t=some i/\i.size=m:=by
 unfold cH at h
 split at h
 ·exact⟨_,by assumption,by simpa using h⟩
 ·cases h
theorem run_sizeOf{t:TypeId}{m:Nat}(h:cH P t m=true)(w:World):(sizeOf t).run P w=.ok m w:=by
 obtain⟨i,h1,h2⟩:=jF h
 simp[sizeOf,typeInfo,h1,h2]
theorem te{t:TypeId}{multi:Bool}(h:oy P t multi=true)(w:World):(isAgg t).run P w=.ok multi w:=by
 unfold oy at h
 split at h
 ·rename_i hh;subst h;simp[isAgg,underlying,hh]
 ·rename_i hh;subst h;simp[isAgg,underlying,hh]
 ·rename_i d h1 h2 hh
  have hm:multi=false:=by simpa using h
  subst hm
  simp only[isAgg,underlying,run_program,Sem.run_bind,Result.andThen_ok,hh,Sem.run_pure]
 ·cases h
theorem At.ki{R:Nat->Nat}{b off:Nat}{cs:List AV}(h:At w R b off cs):∃us:List Value,us.length=cs.length/\(∀(j:Nat)(v:Value),us[j]? =some v->w.cell? ((⟨b,off,none⟩:Addr).add j)=some v)/\
 (∀(j:Nat)(c:AV)(v:Value),cs[j]? =some c->us[j]? =some v->VR w R c v):=by
 obtain⟨u,h1,h2,_⟩:=h
 have key:∀(j:Nat)(v:Value),((List.range cs.length).map u)[j]? =some v->∃hj:j<cs.length,v=u j:=by
  intro j v hj
  rw[List.getElem?_map]at hj
  by_cases hlt:j<cs.length
  ·rw[List.getElem?_range hlt]at hj;simp at hj;exact⟨hlt,hj.symm⟩
  ·rw[List.getElem?_eq_none (by simpa using hlt)]at hj;simp at hj
 refine⟨(List.range cs.length).map u,by simp,fun j v hj=>?_,fun j c v hc hj=>?_⟩
 ·obtain⟨hlt,rfl⟩:=key j v hj
  rw[add_eq]
  exact h1 j cs[j] (List.getElem?_eq_getElem hlt)
 ·obtain⟨_,rfl⟩:=key j v hj
  exact h2 j c hc
theorem nY{R:Nat->Nat}{t:TypeId}{m:Nat}{multi:Bool}(hs:cH P t m=true)(hm:oy P t multi=true)(h1:(multi||m==1)=true){b off:Nat}{cs:List AV}(hl:cs.length=m)(hat:At w R b off cs):
 ∃v,(loadVar t ⟨b,off,none⟩).run P w=.ok v w/\VR w R (oz multi cs) v:=by
 have hfl:Fl cs:=by obtain⟨_,_,_,hf⟩:=hat;exact hf
 obtain⟨us,hul,hc,hv⟩:=hat.ki
 cases multi with
 |true=>
  have:=run_loadCells_list (P:=P) w ⟨b,off,none⟩ us hc
  rw[hul,hl]at this
  refine⟨.agg us.toArray,by simp[loadVar,te hm,run_sizeOf hs,this],?_⟩
  show VR w R (.agg cs) _
  exact .agg cs us.toArray hfl (by simp[hul]) fun j c v hcj hvj=>hv j c v hcj (by simpa using hvj)
 |false=>
  have hm1:m=1:=by simpa using h1
  subst hm1
  match cs,hl with
  |[c],_=>
   match us,hul with
   |[u],_=>
    have h0:=hc 0 u rfl
    rw[add_eq]at h0
    refine⟨u,by simp[loadVar,te hm,show(w.cell? ⟨b,off,none⟩)=some u from h0],hv 0 c u rfl rfl⟩
theorem OE{a av:AV}(h:fG (U3 a) av):av=a/\cO a=true:=by
 unfold U3 at h
 cases hi:cO a with
 |true=>rw[hi]at h;exact⟨h.cT,rfl⟩
 |false=>rw[hi]at h;exact h.no.elim
theorem Dt{multi:Bool}{cs:List AV}(hv:views cs=cs):AB.view (oz multi cs)=oz multi cs:=by
 cases multi with
 |true=>rfl
 |false=>cases cs with
  |nil=>rfl
  |cons c l=>simp only[views,List.map_cons,List.cons.injEq]at hv;exact hv.1
theorem Hi(h:Inv G n D E a w){op:Op}{ty:TypeId}{m:Nat}{multi:Bool}{x:IX}(hc:aq P op ty (.load m multi x)=true){av:AV}(hv:fG (pv (.load m multi x) (xg true E) E) av):
 ∃v,runs P a op ty w v/\NR G w E a av v:=by
 cases op<;>first|(simp[aq]at hc;done)|skip
 rename_i t y
 simp only[aq,Bool.and_eq_true]at hc
 obtain⟨⟨⟨hs,hm⟩,h1⟩,hy⟩:=hc
 have hb:=BR.aG h hy
 have hv':fG (iC multi (rd E (xg true E x) m)) av:=hv
 cases hr:rd E (xg true E x) m with
 |none=>rw[hr]at hv';exact hv'.no.elim
 |some cs=>
  rw[hr]at hv'
  obtain⟨rfl,hi⟩:=OE hv'
  obtain⟨b,off,e,hl,hat,hvw⟩:=CU h hb hr
  obtain⟨v,bk,hvr⟩:=nY hs hm h1 hl hat
  exact⟨v,fun _ _ _ _=>by simp[execOp,e,Instr.loadAt,Instr.sureAddr,bk],NR.mk hi hvr (Dt hvw)⟩
theorem xw{t:TypeId}(h:Ll P t=true):P.underlying t=some .string:=by
 unfold Ll at h
 split at h
 ·assumption
 ·cases h
theorem Nu(h:Inv G n D E a w){op:Op}{ty:TypeId}{x i:IX}(hc:aq P op ty (.de x i)=true){av:AV}(hv:fG (pv (.de x i) (xg true E) E) av):
 ∃v,runs P a op ty w v/\NR G w E a av v:=by
 cases op<;>first|(simp[aq]at hc;done)|skip
 rename_i t y j
 simp only[aq,Bool.and_eq_true]at hc
 obtain⟨⟨hy,hj⟩,ht⟩:=hc
 have ht:=xw ht
 have hb:=BR.aG h hy
 have hbi:=BR.aG h hj
 have hv':fG (tj (xg true E x) (xg true E i)) av:=hv
 generalize xg true E x=xv at hb hv'
 generalize xg true E i=iv at hbi hv'
 unfold tj at hv'
 split at hv'
 ·rename_i s k q
  obtain⟨rfl,h0,hlt⟩:=hv'.prt
  have e1:a.eval y=.string ⟨s.toArray⟩:=VR.eV hb
  have e2:a.eval j=.int k q:=VR.bT hbi
  have hq:q.toNat<s.length:=by omega
  have hg:(ByteArray.mk s.toArray)[q.toNat]? =some (s.getD q.toNat 0):=by
   have hsz:q.toNat<(ByteArray.mk s.toArray).size:=by simpa[ByteArray.size]using hq
   rw[show(ByteArray.mk s.toArray)[q.toNat]? =some ((ByteArray.mk s.toArray)[q.toNat]'hsz) from getElem?_pos (ByteArray.mk s.toArray) q.toNat hsz]
   have:(ByteArray.mk s.toArray)[q.toNat]=s.toArray[q.toNat]'(by simpa using hq):=rfl
   rw[this]
   simp[List.getD_eq_getElem?_getD,List.getElem?_eq_getElem hq]
  refine⟨.int .u8 (s.getD q.toNat 0).toNat,fun _ _ _ _=>by simp[execOp,e1,e2,Instr.index,underlying,ht,asIntOf,h0,hg],NR.mk rfl (.int _ _) rfl⟩
 ·exact hv'.no.elim
theorem cz{t e:TypeId}(h:cq P t=some e):P.underlying t=some (.slice e):=by
 unfold cq at h
 split at h
 ·rename_i ht;injection h with h;subst h;exact ht
 ·cases h
theorem Hg(h:Inv G n D E a w){op:Op}{ty:TypeId}{off:Nat}{x:IX}(hc:aq P op ty (.fieldAddr off x)=true){av:AV}(hv:fG (pv (.fieldAddr off x) (xg true E) E) av):
 ∃v,runs P a op ty w v/\NR G w E a av v:=by
 cases op<;>first|(simp[aq]at hc;done)|skip
 rename_i t y i
 simp only[aq,Bool.and_eq_true]at hc
 obtain⟨hy,hc⟩:=hc
 split at hc<;>try(cases hc;done)
 rename_i fs ht
 split at hc<;>try(cases hc;done)
 rename_i f hf
 simp only[Bool.and_eq_true,beq_iff_eq]at hc
 obtain⟨rfl,hsz⟩:=hc
 split at hsz<;>try(cases hsz;done)
 rename_i ti hti
 have gQ:ti.size≠0:=by have:=of_decide_eq_true hsz;omega
 have hb:=BR.aG h hy
 have bk:∀b o,a.eval y=.pointer (some ⟨b,o,none⟩)->runs P a (.fieldAddr t y i) ty w (.pointer (some ⟨b,o+f.offset,none⟩)):=by
  intro b o e _ _ _ _
  simp[execOp,e,Instr.fieldAt,underlying,ht,hf,Instr.sureAddr,fieldPlace,sizeOf,typeInfo,hti,gQ,add_eq]
 have hv':fG (fC f.offset x (xg true E x)) av:=hv
 generalize hxv:xg true E x=xv at hb hv'
 unfold fC at hv'
 split at hv'
 ·rename_i d o
  rw[hv'.cT]
  obtain⟨b,h1,h2⟩:=hb
  exact⟨_,bk b o h1,b,rfl,h2⟩
 ·rename_i cs
  by_cases cF:f.offset<=cs.length
  ·rw[decide_eq_true cF]at hv'
   rw[hv'.cT]
   obtain⟨b,o,e,hR,u,h1,h2,hfl⟩:=VR.PA hb
   refine⟨_,bk b o e,NR.mk rfl (.sp _ b (o+f.offset) (fun j=>u (f.offset+j)) (hfl.drop _) (by simp;omega) (fun j c hj=>?_) (fun j c hj=>?_)) rfl⟩
   ·rw[List.getElem?_drop]at hj
    rw[Nat.add_assoc];exact h1 _ c hj
   ·rw[List.getElem?_drop]at hj
    exact h2 _ c hj
  ·rw[decide_eq_false cF]at hv';exact hv'.no.elim
 ·rename_i b o
  rw[hv'.cT]
  exact⟨_,bk b o (VR.fu hb),NR.mk rfl (.ref _ _) rfl⟩
 ·rename_i cs
  unfold Sg at hv'
  split at hv'
  ·rename_i j
   obtain⟨rfl,_⟩:=hv'.prt
   obtain⟨i',b,c,t',e1,hl,htm,hvv,_⟩:=hb
   injection e1 with e1
   subst e1
   exact⟨_,bk b 0 hvv,b,by rw[Nat.zero_add],fun _ _=>by rw[htm,hvv]⟩
  ·exact hv'.no.elim
 ·exact hv'.no.elim
end
section
variable{P:Program}{G:Gh}{n:Nat}{D:List Deferred}{E:St}{a:Act}{w:World}
theorem Vj{k:Int}{m sz len:Nat}(h0:0<=k)(h1:k<m)(hl:len=m*sz):k.toNat*sz+sz<=len:=by
 have:k.toNat+1<=m:=by omega
 calc k.toNat*sz+sz=(k.toNat+1)*sz:=by rw[Nat.add_mul,Nat.one_mul]
  _<=m*sz:=Nat.mul_le_mul_right _ this
  _=len:=hl.symm
theorem Hh(h:Inv G n D E a w){op:Op}{ty:TypeId}{z:List AV}{x i:IX}(hc:aq P op ty (.indexAddr z x i)=true){av:AV}(hv:fG (pv (.indexAddr z x i) (xg true E) E) av):
 ∃v,runs P a op ty w v/\NR G w E a av v:=by
 cases op<;>first|(simp[aq]at hc;done)|skip
 rename_i t y j
 simp only[aq,Bool.and_eq_true]at hc
 obtain⟨⟨hy,hj⟩,hc⟩:=hc
 split at hc<;>try(cases hc;done)
 rename_i e ht
 have ht:=cz ht
 have hb:=BR.aG h hy
 have hbi:=BR.aG h hj
 have hv':fG (ji z (xg true E x) (xg true E i)) av:=hv
 generalize xg true E x=xv at hb hv'
 generalize xg true E i=iv at hbi hv'
 have bk:∀b o l c k q,a.eval y=.slice (some ⟨b,o,none⟩) l c->a.eval j=.int k q->0<=q->q<l->runs P a (.indexAddr t y j) ty w (.pointer (some ⟨b,o+q.toNat*z.length,none⟩)):=by
  intro b o l c k q e1 e2 h0 h1 _ _ _ _
  simp[execOp,e1,e2,Instr.indexAt,asIntOf,run_underlying ht,h0,h1,run_sizeOf hc,add_eq]
 unfold ji at hv'
 split at hv'
 ·rename_i ow s m cs k q
  cases hs:s==z.length with
  |false=>rw[hs]at hv';exact hv'.no.elim
  |true=>
   rw[hs]at hv'
   have hs:=beq_iff_eq.1 hs
   obtain⟨rfl,h0,h1⟩:=hv'.prt
   have e2:a.eval j=.int k q:=VR.bT hbi
   rcases VR.fD hb with⟨_,rfl,_⟩|⟨b,o,cap,e1,hl,hR,fQ,hat⟩
   ·simp at h1;omega
   ·rw[hs]at hl
    have cF:=Vj h0 h1 hl
    have hlen:(views (AB.sub cs (q.toNat*z.length) z.length)).length=z.length:=by simp only[AB.views,List.length_map,ja cF]
    have VD:pad z (views (AB.sub cs (q.toNat*z.length) z.length))=views (AB.sub cs (q.toNat*z.length) z.length):=by
     unfold pad
     rw[hlen,beq_self_eq_true];rfl
    have adu:=(hat.sub (q.toNat*z.length) z.length).views
    obtain⟨u,u1,u2,u3⟩:=adu
    rw[VD]
    refine⟨_,bk b o m cap k q e1 e2 h0 h1,NR.mk rfl (.sp _ b (o+q.toNat*z.length) u u3 ?_ u1 u2) rfl⟩
    rw[hlen]
    omega
 ·rename_i b o m c k q
  obtain⟨rfl,h0,h1⟩:=hv'.prt
  rcases VR.cc hb with e0|⟨h2,_,_⟩
  ·exact⟨_,bk b o m c k q e0 (VR.bT hbi) h0 h1,NR.mk rfl (.ref _ _) rfl⟩
  ·omega
 ·exact hv'.no.elim
theorem iA{lo:Option Operand}{li:Option IX}(h:Inv G n D E a w)(hc:DD lo li=true){d l:Int}(hl:Dx (xg true E) li d=some l):
 (lo=none/\l=d)\/(∃k o,lo=some o/\a.eval o=.int k l):=by
 unfold DD at hc
 split at hc
 ·injection hl with hl;exact .inl ⟨rfl,hl.symm⟩
 ·rename_i o x
  have hb:=BR.aG h hc
  unfold Dx at hl
  simp only at hl
  split at hl
  ·rename_i k q hq
   injection hl with hl;subst hl
   rw[hq]at hb
   exact .inr ⟨k,o,rfl,VR.bT hb⟩
  ·cases hl
 ·cases hc
theorem gB(DN:Bool)(len cap:Nat){lo hi:Option Value}{l hh:Int}(hlo:(lo=none/\l=0)\/∃k,lo=some (.int k l))(hhi:(hi=none/\hh=len)\/∃k,hi=some (.int k hh))
 (h0:0<=l)(h1:l<=hh)(h2:hh<=cap):(Instr.sliceBounds DN len cap lo hi none).run P w=.ok (l.toNat,hh.toNat,cap) w:=by
 have hb:∀(k:IntKind)(q:Int)(y:Nat)(c:BoundsCode),0<=q->q<=y->(Instr.sliceBound (.int k q) y c).run P w=.ok q.toNat w:=by
  intro k q y c hq hy
  simp[Instr.sliceBound,asIntOf,hq,hy]
 rcases hhi with⟨rfl,rfl⟩|⟨k,rfl⟩
 ·rcases hlo with⟨rfl,rfl⟩|⟨k',rfl⟩
  ·simp[Instr.sliceBounds]
  ·simp[Instr.sliceBounds,hb k' l len _ h0 h1]
 ·have:=hb k hh cap (if DN then .sliceAcap else .sliceAlen) (by omega) h2
  rcases hlo with⟨rfl,rfl⟩|⟨k',rfl⟩
  ·simp[Instr.sliceBounds,this]
  ·have h3:=hb k' l hh.toNat .sliceB h0 (by omega)
   simp[Instr.sliceBounds,this,h3]
theorem yI(DN:Bool)(len cap:Nat){lo:Option Value}{l hh m:Int}{kh km:IntKind}(hlo:(lo=none/\l=0)\/∃k,lo=some (.int k l))
 (h0:0<=l)(h1:l<=hh)(h2:hh<=m)(h3:m<=cap):(Instr.sliceBounds DN len cap lo (some (.int kh hh)) (some (.int km m))).run P w=.ok (l.toNat,hh.toNat,m.toNat) w:=by
 have hb:∀(k:IntKind)(q:Int)(y:Nat)(c:BoundsCode),0<=q->q<=y->(Instr.sliceBound (.int k q) y c).run P w=.ok q.toNat w:=by
  intro k q y c hq hy
  simp[Instr.sliceBound,asIntOf,hq,hy]
 have e1:=hb km m cap (if DN then .slice3Acap else .slice3Alen) (by omega) h3
 have e2:=hb kh hh m.toNat .slice3B (by omega) (by omega)
 rcases hlo with⟨rfl,rfl⟩|⟨k',rfl⟩
 ·simp[Instr.sliceBounds,e1,e2]
 ·have e3:=hb k' l hh.toNat .slice3C h0 (by omega)
  simp[Instr.sliceBounds,e1,e2,e3]
theorem kF{lo:Option Operand}{l d:Int}(h:(lo=none/\l=d)\/(∃k o,lo=some o/\a.eval o=.int k l)):(lo.map a.eval=none/\l=d)\/∃k,lo.map a.eval=some (.int k l):=by
 rcases h with⟨rfl,h⟩|⟨k,o,rfl,h⟩
 ·exact .inl ⟨rfl,h⟩
 ·exact .inr ⟨k,by simp[h]⟩
theorem Qh(h:Inv G n D E a w){op:Op}{ty:TypeId}{sz:Nat}{x:IX}{lo hi mx:Option IX}(hc:aq P op ty (.slice sz x lo hi mx)=true){av:AV}(hv:fG (pv (.slice sz x lo hi mx) (xg true E) E) av):
 ∃v,runs P a op ty w v/\NR G w E a av v:=by
 cases op<;>first|(simp[aq]at hc;done)|skip
 rename_i t y l' h' m'
 simp only[aq,Bool.and_eq_true]at hc
 obtain⟨⟨⟨⟨hy,hlo⟩,hhi⟩,hmx⟩,hc⟩:=hc
 split at hc<;>try(cases hc;done)
 rename_i e ht
 have ht:=cz ht
 cases mx with
 |some m=>
  have hb:=BR.aG h hy
  have hv':fG (qa sz (xg true E) lo hi m (xg true E x)) av:=hv
  generalize xg true E x=xv at hb hv'
  unfold qa at hv'
  split at hv'
  ·rename_i b o len cap
   unfold zc at hv'
   split at hv'
   ·rename_i l hh mm hl hhh hmm
    obtain⟨rfl,h0,h1,h2,h3⟩:=hv'.prt
    have bl:=kF (iA h hlo hl)
    cases hi with
    |none=>cases hhh
    |some hi'=>
    have bh:=iA h hhi (d:=0) hhh
    have bm:=iA h hmx (d:=0) hmm
    rcases bh with⟨hn,_⟩|⟨kh,oh,eh1,eh2⟩
    ·subst hn;unfold DD at hhi;cases hhi
    rcases bm with⟨hn,_⟩|⟨km,om,em1,em2⟩
    ·subst hn;unfold DD at hmx;cases hmx
    subst eh1;subst em1
    have bk:=yI (P:=P) (w:=w) (kh:=kh) (km:=km) true len cap bl h0 h1 h2 h3
    have e3:hh.toNat -l.toNat=(hh -l).toNat:=by omega
    rcases VR.cc hb with e1|⟨rfl,rfl,e1⟩
    ·by_cases hcl:mm.toNat=l.toNat
     ·have e5:iE o mm.toNat l.toNat sz=o:=by unfold iE;rw[hcl,beq_self_eq_true];rfl
      rw[e5]
      refine⟨.slice (some ⟨b,o,none⟩) (hh -l).toNat (mm.toNat -l.toNat),fun _ _ _ _=>?_,NR.mk rfl (.arr _ _ _ _) rfl⟩
      simp[execOp,e1,Instr.sliceAt,run_underlying ht,Instr.slice,eh2,em2,bk,run_sizeOf hc,hcl,e3]
     ·have e5:iE o mm.toNat l.toNat sz=o+l.toNat*sz:=by
       unfold iE
       rw[show(mm.toNat==l.toNat)=false by simpa using hcl];rfl
      rw[e5]
      refine⟨.slice (some ⟨b,o+l.toNat*sz,none⟩) (hh -l).toNat (mm.toNat -l.toNat),fun _ _ _ _=>?_,NR.mk rfl (.arr _ _ _ _) rfl⟩
      simp[execOp,e1,Instr.sliceAt,run_underlying ht,Instr.slice,eh2,em2,bk,run_sizeOf hc,hcl,e3,add_eq]
    ·have h6:mm=0:=by omega
     have h4:hh=0:=by omega
     have h5:l=0:=by omega
     subst h6;subst h4;subst h5
     refine⟨.slice none 0 0,fun _ _ _ _=>?_,NR.mk rfl (by exact .FM _ _) rfl⟩
     simp[execOp,e1,Instr.sliceAt,run_underlying ht,Instr.slice,eh2,em2,bk,run_sizeOf hc]
   ·exact hv'.no.elim
  ·exact hv'.no.elim
 |none=>
  have hm':m'=none:=by
   cases m' with
   |none=>rfl
   |some _=>simp[DD]at hmx
  subst hm'
  have hb:=BR.aG h hy
  have hv':fG (sv sz (xg true E) lo hi (xg true E x)) av:=hv
  generalize xg true E x=xv at hb hv'
  unfold sv at hv'
  split at hv'
  ·rename_i ow s m cs
   cases hs:s==sz with
   |false=>rw[hs]at hv';exact hv'.no.elim
   |true=>
    rw[hs]at hv'
    obtain rfl:=beq_iff_eq.1 hs
    have jV:fG (Bc s m cs (Dx (xg true E) lo 0) (Dx (xg true E) hi m)) av:=hv'
    unfold Bc at jV
    split at jV
    ·rename_i l hh hl hhh
     cases h1s:Nat.ble 1 s with
     |false=>rw[h1s]at jV;exact jV.no.elim
     |true=>
     rw[h1s]at jV
     have hs1:1<=s:=Nat.le_of_ble_eq_true h1s
     obtain⟨rfl,h0,h1,h2⟩:=jV.prt
     have bl:=kF (iA h hlo hl)
     have bh:=kF (iA h hhi hhh)
     rcases VR.fD hb with⟨e1,rfl,rfl⟩|⟨b,o,cap,e1,hlen,hR,fQ,hat⟩
     ·have hl0:l=0:=by omega
      have hh0:hh=0:=by omega
      subst hl0;subst hh0
      have iH:AB.sub ([]:List AV) ((0:Int).toNat*s) ((0 -0:Int).toNat*s)=[]:=by simp[AB.sub]
      rcases e1 with e1|⟨_,ad,cap,e1⟩
      ·refine⟨.slice none 0 0,fun _ _ _ _=>?_,NR.mk rfl ?_ rfl⟩
       ·have:=gB (P:=P) (w:=w) true 0 0 bl bh (by omega) (by omega) (by omega)
        simp[execOp,e1,Instr.sliceAt,run_underlying ht,Instr.slice,this,run_sizeOf hc]
       ·rw[iH]
        show VR _ _ (.sl false s (0/s) []) _
        rw[Nat.zero_div];exact .slnil _ _
      ·refine⟨.slice (some (if cap=0 then ad else ad.add 0)) 0 cap,fun _ _ _ _=>?_,NR.mk rfl ?_ rfl⟩
       ·have:=gB (P:=P) (w:=w) true 0 cap bl bh (by omega) (by omega) (by omega)
        by_cases hc0:cap=0
        ·subst hc0
         simp[execOp,e1,Instr.sliceAt,run_underlying ht,Instr.slice,this,run_sizeOf hc]
        ·simp[execOp,e1,Instr.sliceAt,run_underlying ht,Instr.slice,this,run_sizeOf hc,hc0]
       ·rw[iH]
        show VR _ _ (.sl false s (0/s) []) _
        rw[Nat.zero_div];exact .sle _ _ _
     ·have bk:=gB (P:=P) (w:=w) true m cap bl bh h0 h1 (by omega)
      have cF:l.toNat*s+(hh -l).toNat*s<=cs.length:=by
       rw[hlen,<-Nat.add_mul]
       exact Nat.mul_le_mul_right _ (by omega)
      have hdiv:(AB.sub cs (l.toNat*s) ((hh -l).toNat*s)).length/s=(hh -l).toNat:=by rw[ja cF];exact Nat.mul_div_cancel _ hs1
      rw[hdiv]
      by_cases hcl:cap=l.toNat
      ·subst hcl
       have hz:(hh -l).toNat=0:=by omega
       refine⟨.slice (some ⟨b,o,none⟩) (hh -l).toNat (l.toNat -l.toNat),fun _ _ _ _=>?_,NR.mk rfl ?_ rfl⟩
       ·have e3:hh.toNat -l.toNat=(hh -l).toNat:=by omega
        simp[execOp,e1,Instr.sliceAt,run_underlying ht,Instr.slice,bk,run_sizeOf hc,e3]
       ·rw[hz]
        have:AB.sub cs (l.toNat*s) (0*s)=[]:=by simp[AB.sub]
        rw[this]
        exact .sl false s 0 [] b o _ (fun _=>undef) Fl.nil (by simp) (by simp;omega) (Nat.zero_le _) (fun j c hj=>by simp at hj) (fun j c hj=>by simp at hj)
      ·refine⟨.slice (some ⟨b,o+l.toNat*s,none⟩) (hh -l).toNat (cap -l.toNat),fun _ _ _ _=>?_,NR.mk rfl ?_ rfl⟩
       ·have e3:hh.toNat -l.toNat=(hh -l).toNat:=by omega
        simp[execOp,e1,Instr.sliceAt,run_underlying ht,Instr.slice,bk,run_sizeOf hc,hcl,e3,add_eq]
       ·obtain⟨u,u1,u2,u3⟩:=hat.sub (l.toNat*s) ((hh -l).toNat*s)
        exact .sl false s _ _ b _ _ u u3 (ja cF) (by rw[ja cF];omega) (by omega) u1 u2
    ·exact jV.no.elim
  ·rename_i b o m cap
   have jV:fG (xr sz b o cap (Dx (xg true E) lo 0) (Dx (xg true E) hi m)) av:=hv'
   unfold xr at jV
   split at jV
   ·rename_i l hh hl hhh
    obtain⟨rfl,h0,h1,h2⟩:=jV.prt
    have bl:=kF (iA h hlo hl)
    have bh:=kF (iA h hhi hhh)
    have bk:=gB (P:=P) (w:=w) true m cap bl bh h0 h1 h2
    have e3:hh.toNat -l.toNat=(hh -l).toNat:=by omega
    rcases VR.cc hb with e1|⟨rfl,rfl,e1⟩
    ·by_cases hcl:cap=l.toNat
     ·have e5:iE o cap l.toNat sz=o:=by unfold iE;rw[hcl,beq_self_eq_true];rfl
      rw[e5]
      refine⟨.slice (some ⟨b,o,none⟩) (hh -l).toNat (cap -l.toNat),fun _ _ _ _=>?_,NR.mk rfl (.arr _ _ _ _) rfl⟩
      simp[execOp,e1,Instr.sliceAt,run_underlying ht,Instr.slice,bk,run_sizeOf hc,<-hcl,e3]
      simp[hcl,<-e3]
     ·have e5:iE o cap l.toNat sz=o+l.toNat*sz:=by
       unfold iE
       rw[show(cap==l.toNat)=false by simpa using hcl];rfl
      rw[e5]
      refine⟨.slice (some ⟨b,o+l.toNat*sz,none⟩) (hh -l).toNat (cap -l.toNat),fun _ _ _ _=>?_,NR.mk rfl (.arr _ _ _ _) rfl⟩
      simp[execOp,e1,Instr.sliceAt,run_underlying ht,Instr.slice,bk,run_sizeOf hc,hcl,e3,add_eq]
    ·have h3:l=0:=by omega
     have h4:hh=0:=by omega
     subst h3;subst h4
     refine⟨.slice none 0 0,fun _ _ _ _=>?_,NR.mk rfl (by exact .FM _ _) rfl⟩
     simp[execOp,e1,Instr.sliceAt,run_underlying ht,Instr.slice,bk,run_sizeOf hc]
   ·exact jV.no.elim
  ·exact hv'.no.elim
theorem Nv(h:Inv G n D E a w){op:Op}{ty:TypeId}{x:IX}{lo hi:Option IX}(hc:aq P op ty (.js x lo hi)=true){av:AV}(hv:fG (pv (.js x lo hi) (xg true E) E) av):
 ∃v,runs P a op ty w v/\NR G w E a av v:=by
 cases op<;>first|(simp[aq]at hc;done)|skip
 rename_i t y l' h' m'
 cases m' with
 |some _=>simp[aq]at hc
 |none=>
  simp only[aq,Bool.and_eq_true]at hc
  obtain⟨⟨⟨hy,hlo⟩,hhi⟩,ht⟩:=hc
  have ht:=xw ht
  have hb:=BR.aG h hy
  have hv':fG (kL (xg true E) lo hi (xg true E x)) av:=hv
  generalize xg true E x=xv at hb hv'
  unfold kL at hv'
  split at hv'
  ·rename_i s
   have jV:fG (xt s (Dx (xg true E) lo 0) (Dx (xg true E) hi s.length)) av:=hv'
   unfold xt at jV
   split at jV
   ·rename_i l hh hl hhh
    obtain⟨rfl,h0,h1,h2⟩:=jV.prt
    have bl:=kF (iA h hlo hl)
    have bh:=kF (iA h hhi hhh)
    have e1:=VR.eV hb
    have bk:=gB (P:=P) (w:=w) false s.length s.length bl bh h0 h1 h2
    have hsz:(ByteArray.mk s.toArray).size=s.length:=by simp[ByteArray.size]
    refine⟨.string ⟨((s.drop l.toNat).take (hh -l).toNat).toArray⟩,fun _ _ _ _=>?_,NR.mk rfl (.str _) rfl⟩
    have hex:(ByteArray.mk s.toArray).extract l.toNat hh.toNat=⟨((s.drop l.toNat).take (hh -l).toNat).toArray⟩:=by
     apply ByteArray.ext
     rw[ByteArray.data_extract]
     apply Array.ext'
     simp only[Array.toList_extract,List.extract_eq_take_drop]
     congr 1
     omega
    simp[execOp,e1,Instr.sliceAt,run_underlying ht,Instr.slice,hsz,bk,hex]
   ·exact jV.no.elim
  ·exact hv'.no.elim
theorem nN{b:Builtin}{c:Call}{ys:List Operand}{ts:List TypeId}(h:NV b c=some (ys,ts)):c={callee:=.builtin b,args:=ys.toArray,argTypes:=ts.toArray}:=by
 unfold NV at h
 split at h
 ·rename_i b' hb
  split at h
  ·rename_i hbb
   injection h with h;injection h with h1 h2
   subst hbb;subst h1;subst h2
   cases c;simp at hb;simp[hb]
  ·cases h
 ·cases h
theorem WJ(h:Inv G n D E a w){op:Op}{ty:TypeId}{cls:Nat}{x:IX}(hc:aq P op ty (.len cls x)=true){av:AV}(hv:fG (pv (.len cls x) (xg true E) E) av):
 ∃v,runs P a op ty w v/\NR G w E a av v:=by
 cases op<;>first|(simp[aq]at hc;done)|skip
 rename_i c
 simp only[aq]at hc
 split at hc<;>try(cases hc;done)
 rename_i y ys t ts hb
 have hce:=nN hb
 subst hce
 rw[Bool.and_eq_true]at hc
 obtain⟨hy,hlt⟩:=hc
 have hb:=BR.aG h hy
 have hv':fG (Al E.s cls (xg true E x)) av:=hv
 generalize xg true E x=xv at hb hv'
 have fin:∀(m:Nat),av=.int .i64 m->(∀w',w'=w->(Builtin.len_ (t::ts).toArray ty ((y::ys).toArray.map a.eval)).run P w'=.ok (.int .i64 m) w')->∃v,runs P a (.call {callee:=.builtin .len,args:=(y::ys).toArray,argTypes:=(t::ts).toArray}) ty w v/\NR G w E a av v:=by
  intro m hm hr
  subst hm
  exact⟨.int .i64 m,fun _ _ _ _=>by simp[execOp,resolve,invoke,builtin]at hr⊢;simp[hr],NR.mk rfl (.int _ _) rfl⟩
 unfold aas at hlt
 split at hlt<;>try(cases hlt;done)
 all_goals
  rename_i ht
  obtain rfl:=beq_iff_eq.1 hlt
  unfold Al at hv'
  split at hv'<;>rename_i hcl<;>try(cases hcl;done)
 ·rename_i ow s m cs
  refine fin m hv'.cT fun w' _=>?_
  rcases VR.fD hb with⟨e0,rfl,_⟩|⟨b,o,cap,e1,_⟩
  ·obtain⟨_,_,e1⟩:=e0.ex
   simp[Builtin.len_,run_underlying ht,goInt,e1]
  ·simp[Builtin.len_,run_underlying ht,goInt,e1]
 ·rename_i b o m c
  refine fin m hv'.cT fun w' _=>?_
  rcases VR.cc hb with e1|⟨rfl,_,e1⟩<;>simp[Builtin.len_,run_underlying ht,goInt,e1]
 ·exact hv'.no.elim
 ·rename_i s
  refine fin s.length hv'.cT fun w' _=>?_
  have e1:=VR.eV hb
  have hsz:(ByteArray.mk s.toArray).size=s.length:=by simp[ByteArray.size]
  simp only[List.map_toArray,List.map_cons,e1]
  simp[Builtin.len_,run_underlying ht,goInt,hsz]
 ·exact hv'.no.elim
 ·refine fin 0 hv'.cT fun w' _=>?_
  simp[Builtin.len_,run_underlying ht,goInt,VR.IW hb]
 ·rename_i b
  unfold KQ at hv'
  split at hv'
  ·rename_i es hs
   refine fin es.length hv'.cT fun w' hw'=>?_
   subst hw'
   obtain⟨_,_,gM,clock,hh,hsz,_⟩:=h.store b _ hs
   have hg:(getObj b).run P w'=.ok (.map gM clock) w':=by simp[getObj,Sem.run,hh]
   simp[Builtin.len_,run_underlying ht,goInt,VR.KF hb,hg,hsz]
  ·exact hv'.no.elim
 ·exact hv'.no.elim
theorem Sk(mx:Bool)(k:IntKind)(h:Inv G n D E a w):∀(xs:List IX)(ys:List Operand),fI ys xs=true->∀(m r:Int),Jm mx m (xs.map (xg true E))=some r->
 ((ys.map a.eval).foldlM (if mx then Builtin.max2 else Builtin.min2) (.int k m)).run P w=.ok (.int k r) w:=by
 intro xs
 induction xs with
 |nil=>
  intro ys hc m r hr
  cases ys with
  |nil=>simp[Jm]at hr;subst hr;rfl
  |cons _ _=>simp[fI]at hc
 |cons x xs ih=>
  intro ys hc m r hr
  cases ys with
  |nil=>simp[fI]at hc
  |cons y ys=>
   simp only[fI,Bool.and_eq_true]at hc
   have hb:=BR.aG h hc.1
   simp only[List.map_cons]at hr⊢
   generalize xg true E x=xv at hb hr
   cases xv<;>simp only[Jm]at hr<;>try(cases hr;done)
   rename_i k' q
   have e:=VR.bT hb
   have:=ih ys hc.2 _ r hr
   rw[List.foldlM_cons]
   simp only[Sem.run_bind,e]
   cases mx with
   |true=>
    have:(Builtin.max2 (.int k m) (.int k' q)).run P w=.ok (.int k (max m q)) w:=by
     simp only[Builtin.max2,Sem.run_pure]
     congr 2
     omega
    simp_all
   |false=>
    have:(Builtin.min2 (.int k m) (.int k' q)).run P w=.ok (.int k (min m q)) w:=by
     simp only[Builtin.min2,Sem.run_pure]
     congr 2
     omega
    simp_all
theorem K9(h:Inv G n D E a w){op:Op}{ty:TypeId}{k:Nat}{x:IX}(hc:aq P op ty (.extract x k)=true){av:AV}(hv:fG (pv (.extract x k) (xg true E) E) av):
 ∃v,runs P a op ty w v/\NR G w E a av v:=by
 cases op<;>first|(simp[aq]at hc;done)|skip
 rename_i y j
 simp only[aq,Bool.and_eq_true,beq_iff_eq]at hc
 obtain⟨hy,rfl⟩:=hc
 have hb:=BR.aG h hy
 have hv':fG (oC k (xg true E x)) av:=hv
 generalize xg true E x=xv at hb hv'
 unfold oC at hv'
 split at hv'
 ·rename_i vs
  obtain⟨us,e1,hl,hr⟩:=VR.LX hb
  cases hk:vs[k]? with
  |none=>rw[hk]at hv';exact hv'.no.elim
  |some c=>
   rw[hk]at hv'
   obtain⟨rfl,hi⟩:=OE hv'
   have hlt:k<us.size:=by rw[hl];exact(List.getElem?_eq_some_iff.1 hk).1
   have hu:=Array.getElem?_eq_getElem hlt
   exact⟨us[k],fun _ _ _ _=>by simp[execOp,e1,Instr.extract,hu],NR.mk hi (hr k c _ hk hu).view (kM _)⟩
 ·exact hv'.no.elim
end
end Go.AB
end
