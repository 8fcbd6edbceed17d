/- A part. -/
import Derived.Test.YtgecakgfnjkkbaaGreatTt2
import Derived.LaidEqlPtr
import Derived.Laws.Concat
set_option linter.defProp false
set_option linter.unusedSimpArgs false
set_option linter.unusedVariables false
section
namespace Go.AB
open Go
def gO(r:PR)(av:AV):Prop:=r=.da av\/∃c,r=.prt c av/\c
theorem gO.da{a av:AV}(h:gO (.da a) av):av=a:=by
 rcases h with h|⟨c,h,_⟩
 ·grind
 ·cases h
def gO.prt{c:Prop}{a av:AV}(h:gO (.prt c a) av):av=a/\c:=by
 rcases h with h|⟨c',h,hc⟩
 ·cases h
 grind
theorem gO.no{av:AV}(h:gO .no av):False:=by rcases h with h|⟨c',h,hc⟩<;>cases h
theorem lK{a:AV}(h:dJ a=true):dJ (view a)=true:=by cases a<;>simp_all [dJ,view]
theorem mD(a:AV):view (view a)=view a:=by cases a<;>rfl
section
variable{P:Program}{G:Gh}{n:Nat}{D:List Deferred}{E:St}{a:Act}{w:World}
theorem NR.view{av:AV}{v:Value}(hi:dJ av=true)(h:VR w G.R av v):NR G w E a (view av) v:=by
 have:dJ (AB.view av)=true/\VR w G.R (AB.view av) v/\AB.view (AB.view av)=AB.view av:=⟨lK hi,h.view,mD _⟩
 cases av<;>first|exact this|grind [dJ]
theorem NR.mk{av:AV}{v:Value}(hi:dJ av=true)(h:VR w G.R av v)(hv:AB.view av=av):NR G w E a av v:=hv▸NR.view hi h
theorem VR.iu{R:Nat->Nat}{b:Bool}{v:Value}(h:VR w R (.bool b) v):v=.bool b:=TM
theorem VR.cu{R:Nat->Nat}{k:IntKind}{m:Int}{v:Value}(h:VR w R (.int k m) v):v=.int k m:=TM
theorem VR.gH{R:Nat->Nat}{s:List UInt8}{v:Value}(h:VR w R (.str s) v):v=.string ⟨s.toArray⟩:=TM
def VR.tM{R:Nat->Nat}{v:Value}(h:VR w R .fN v):v=.pointer none:=TM
theorem VR.gk{R:Nat->Nat}{b o:Nat}{v:Value}(h:VR w R (.ref b o) v):v=.pointer (some ⟨b,o,none⟩):=TM
def VR.cW{R:Nat->Nat}{b o l c:Nat}{v:Value}(h:VR w R (.arr b o l c) v):v=.slice (some ⟨b,o,none⟩) l c\/(l=0/\c=0/\v=.slice none 0 0):=by
 cases h with
 |arr=>grind
 |HC=>grind
def VR.pJ{R:Nat->Nat}{b o l c:Nat}{v:Value}(h:VR w R (.arr b o l c) v)(hc:0<c):v=.slice (some ⟨b,o,none⟩) l c:=by
 rcases h.cW with h|⟨_,h,_⟩
 ·exact h
 ·omega
theorem VR.Nh{R:Nat->Nat}{b:Nat}{v:Value}(h:VR w R (.mp b) v):v=.map (some b):=TM
theorem VR.KS{R:Nat->Nat}{v:Value}(h:VR w R .ud v):v=.map none:=TM
theorem VR.uO{R:Nat->Nat}{cs:List AV}{v:Value}(h:VR w R (.agg cs) v):∃vs:Array Value,v=.agg vs/\vs.size=cs.length/\(∀(j:Nat)(c:AV)(u:Value),cs[j]? =some c->vs[j]? =some u->VR w R c u)/\Fl cs:=by cases h with|agg _ vs hf hl hr=>grind
def VR.O8{R:Nat->Nat}{cs:List AV}{v:Value}(h:VR w R (.jg cs) v):∃vs:Array Value,v=.tuple vs/\vs.size=cs.length/\∀(j:Nat)(c:AV)(u:Value),cs[j]? =some c->vs[j]? =some u->VR w R c u:=by cases h with|jg _ vs hl hr=>grind
def At(w:World)(R:Nat->Nat)(b off:Nat)(cs:List AV):Prop:=∃u:Nat->Value,(∀(j:Nat)(c:AV),cs[j]? =some c->w.cell? ⟨b,off+j,none⟩=some (u j))/\(∀(j:Nat)(c:AV),cs[j]? =some c->VR w R c (u j))/\Fl cs
def VR.Ni{R:Nat->Nat}{cs:List AV}{v:Value}(h:VR w R (.sp cs) v):∃b off,v=.pointer (some ⟨b,off,none⟩)/\off+cs.length<=R b/\At w R b off cs:=by cases h with|sp _ b off u hf hR hc hr=>exact⟨b,off,rfl,hR,u,hc,hr,hf⟩
def xD(own:Bool)(v:Value):Prop:=v=.slice none 0 0\/(own=false/\∃a cap,v=.slice (some a) 0 cap)
def xD.own{v:Value}(h:xD true v):v=.slice none 0 0:=h.elim id fun h=>A_
def xD.ex{own:Bool}{v:Value}(h:xD own v):∃base cap,v=.slice base 0 cap:=by
 rcases h with h|⟨_,a,cap,h⟩
 ·grind
 grind
def VR.gq{R:Nat->Nat}{own:Bool}{sz m:Nat}{cs:List AV}{v:Value}(h:VR w R (.sl own sz m cs) v):
 (xD own v/\m=0/\cs=[])\/∃b off cap,v=.slice (some ⟨b,off,none⟩) m cap/\cs.length=m*sz/\off+cs.length<=R b/\m<=cap/\At w R b off cs:=by
 cases h with
 |slnil=>exact .inl ⟨.inl rfl,rfl,rfl⟩
 |sle=>exact .inl ⟨.inr ⟨rfl,_,_,rfl⟩,rfl,rfl⟩
 |sl _ _ _ _ b off cap u hf hl hR fI hc hr=>exact .inr ⟨b,off,cap,rfl,hl,hR,fI,u,hc,hr,hf⟩
def VR.Im{R:Nat->Nat}{f:Nat}{x y:List AV}{v:Value}(h:VR w R (.fn f x y) v):∃vf vc:Array Value,v=.func (.func f) vf vc/\vf.size=x.length/\(∀(j:Nat)(c:AV)(u:Value),x[j]? =some c->vf[j]? =some u->VR w R c u)/\
 vc.size=y.length/\(∀(j:Nat)(c:AV)(u:Value),y[j]? =some c->vc[j]? =some u->VR w R c u):=by
 cases h with|fn _ _ _ vf vc h1 h2 h3 h4=>grind
def runs(P:Program)(a:Act)(op:Op)(ty:TypeId)(w:World)(v:Value):Prop:=∀(d:Option Tmp)(pos:String)(after:Array Edge)(g:Option (Nat×Bool)),(execOp a.eval ⟨d,op,ty,pos,after,g⟩).run P w=.ok (.value v) w
def acN(h:Inv G n D E a w){op:Op}{ty:TypeId}{x:IX}(hc:aw P op ty (.oU false x)=true){av:AV}(hv:gO (pv (.oU false x) (xg true E) E) av):
 ∃v,runs P a op ty w v/\NR G w E a av v:=by
 have key:∀y,bN y x=true->NR G w E a av (a.eval y):=fun y hy=>by
  have hb:=BR.aR h hy
  have hv':gO (QM (xg true E x)) av:=hv
  unfold QM at hv'
  cases hi:dJ (xg true E x)with
  |false=>rw[hi]at hv';exact hv'.no.elim
  |true=>
   rw[hi]at hv'
   rw[hv'.da]
   exact NR.view hi (hb.vr hi)
 cases op<;>first|(simp[aw]at hc;done)|skip
 ·rename_i y
  exact⟨a.eval y,fun _ _ _ _=>rfl,key y hc⟩
 ·rename_i y
  exact⟨a.eval y,fun _ _ _ _=>rfl,key y hc⟩
theorem afA{g:Bool}{x:IX}{v:Value}{p:Bool}(hg:g=true)(hx:XR G w E a x (E.x x) v)(h:SV (E.x x)=some (g,p)):v=.bool p:=by
 subst hg
 generalize E.x x=av at*
 unfold SV at h
 split at h
 ·injection h with h;injection h with _ h;subst h;cases hx;rfl
 ·injection h with h;injection h with h1 h2;subst h1;subst h2
  have:=hx rfl rfl
  cases this;rfl
 ·cases h
def SX{g:Bool}{x:IX}{v:Value}{p:Bool}(hg:g=true)(hx:XR G w E a x (E.x x) v)(h:gv2 (E.x x)=some (g,p)):v=.bool p:=by grind [afA,gv2]
def X0(h:Inv G n D E a w){op:Op}{ty:TypeId}{c x y:IX}(hc:aw P op ty (.pick c x y)=true){av:AV}(hv:gO (pv (.pick c x y) (xg true E) E) av):
 ∃v,runs P a op ty w v/\NR G w E a av v:=by
 cases op<;>first|(simp[aw]at hc;done)|skip
 simp[aw,Bool.and_eq_true]at hc
 have hbc:=BR.aR h hc.1.1
 have hbx:=XR.aR h hc.1.2
 have hby:=XR.aR h hc.2
 have hv':gO (GW (E.x x) (E.x y) (xg true E c)) av:=hv
 generalize xg true E c=cv at hbc hv'
 unfold GW at hv'
 split at hv'
 ·rename_i b
  have hcv:=VR.iu hbc
  unfold UF at hv'
  split at hv'
  ·rename_i g1 p g2 q hp hq
   rcases hv' with hv'|⟨c1,hv',hc1⟩
   ·cases hv'
   injection hv' with h1 h2
   subst h1 h2
   refine⟨.bool (bif b then p else q),fun _ _ _ _=>?_,NR.mk rfl (.bool _) rfl⟩
   cases b with
   |true=>
    have:=SX (hc1.1 rfl) hbx hp
    simp[execOp,hcv,asBool,this]
   |false=>
    have:=SX (hc1.2 rfl) hby hq
    simp[execOp,hcv,asBool,this]
  ·exact hv'.no.elim
 ·exact hv'.no.elim
def agW(h:Inv G n D E a w){op:Op}{ty:TypeId}{uo:UnOp}{x:IX}(hc:aw P op ty (.un uo x)=true){av:AV}(hv:gO (pv (.un uo x) (xg true E) E) av):
 ∃v,runs P a op ty w v/\NR G w E a av v:=by
 cases op<;>first|(simp[aw]at hc;done)|skip
 simp[aw,Bool.and_eq_true,decide_eq_true_eq]at hc
 obtain⟨rfl,hy⟩:=hc
 have hb:=BR.aR h hy
 have hv':gO (unV uo (xg true E x)) av:=hv
 generalize xg true E x=xv at hb hv'
 unfold unV at hv'
 split at hv'
 ·rename_i b
  have e:=VR.iu hb
  rw[hv'.da]
  exact⟨.bool (!b),fun _ _ _ _=>by simp[execOp,e,Op.unary],NR.mk rfl (.bool _) rfl⟩
 ·rename_i k m
  have e:=VR.cu hb
  rw[hv'.da]
  exact⟨.int k (k.wrap (0 -m)),fun _ _ _ _=>by simp[execOp,e,Op.unary,Op.intArith],NR.mk rfl (.int _ _) rfl⟩
 ·exact hv'.no.elim
def QV(h:Inv G n D E a w){op:Op}{ty:TypeId}{k:IntKind}{x:IX}(hc:aw P op ty (.ni k x)=true){av:AV}(hv:gO (pv (.ni k x) (xg true E) E) av):
 ∃v,runs P a op ty w v/\NR G w E a av v:=by
 cases op<;>first|(simp[aw]at hc;done)|skip
 simp[aw,Bool.and_eq_true]at hc
 obtain⟨hy,hc2⟩:=hc
 split at hc2
 ·rename_i k1 k2 hs ht
  have:=of_decide_eq_true hc2
  subst this
  have hb:=BR.aR h hy
  have hv':gO (uJ k (xg true E x)) av:=hv
  generalize xg true E x=xv at hb hv'
  unfold uJ at hv'
  split at hv'
  ·rename_i k' m
   have e:=VR.cu hb
   rw[hv'.da]
   exact⟨.int k (k.wrap m),fun _ _ _ _=>by simp[execOp,e,convert,underlying,hs,ht,Conv.intToInt],NR.mk rfl (.int _ _) rfl⟩
  ·exact hv'.no.elim
 ·cases hc2
def LH(h:Inv G n D E a w){op:Op}{ty:TypeId}{x:IX}(hc:aw P op ty (.nilCheck x)=true){av:AV}(hv:gO (pv (.nilCheck x) (xg true E) E) av):
 ∃v,runs P a op ty w v/\NR G w E a av v:=by
 cases op<;>first|(simp[aw]at hc)|skip
 have hb:=BR.aR h hc
 have hv':gO (mj (xg true E x)) av:=hv
 generalize xg true E x=xv at hb hv'
 unfold mj at hv'
 split at hv'
 ·have e:=VR.gk hb
  rw[hv'.da]
  exact⟨_,fun _ _ _ _=>by simp[execOp,e],NR.mk rfl (.ref _ _) rfl⟩
 ·exact hv'.no.elim
def acE(h:Inv G n D E a w){op:Op}{ty:TypeId}{bo:BinOp}{x y:IX}(hc:aw P op ty (.bin bo x y)=true){av:AV}(hv:gO (pv (.bin bo x y) (xg true E) E) av):
 ∃v,runs P a op ty w v/\NR G w E a av v:=by
 cases op<;>first|(simp[aw]at hc;done)|skip
 rename_i b t u v yt
 simp only[aw,Bool.and_eq_true,decide_eq_true_eq]at hc
 obtain⟨⟨rfl,hx⟩,hy⟩:=hc
 have hbx:=BR.aR h hx
 have hby:=BR.aR h hy
 have hv':gO (Mv bo (xg true E x) (xg true E y)) av:=hv
 generalize xg true E x=xv at hbx hv'
 generalize xg true E y=yv at hby hv'
 unfold Mv at hv'
 split at hv'
 ·rename_i k p k' q
  have e1:a.eval u=.int k p:=VR.cu hbx
  have e2:a.eval v=.int k' q:=VR.cu hby
  have fin:∀(V:AV)(r:Value),dJ V=true->AB.view V=V->VR w G.R V r->gO (kk k k' (.da V)) av->(k=k'->runs P a (.binOp bo t u v yt) ty w r)->∃v',runs P a (.binOp bo t u v yt) ty w v'/\NR G w E a av v':=by
   intro V r h1 h2 h3 h4 h5
   unfold kk QF at h4
   by_cases hk:k=k'
   ·rw[decide_eq_true hk]at h4
    rw[h4.da]
    grind [NR.mk]
   ·rw[decide_eq_false hk]at h4;exact h4.no.elim
  cases bo
  case shl=>
   obtain⟨rfl,h0⟩:=gO.prt hv'
   exact⟨_,fun _ _ _ _=>by simp[execOp,e1,e2,eqGuard,binOp,Op.shift,Int.not_lt.2 h0,j6],NR.mk rfl (.int _ _) rfl⟩
  case shr=>
   obtain⟨rfl,h0⟩:=gO.prt hv'
   exact⟨_,fun _ _ _ _=>by simp[execOp,e1,e2,eqGuard,binOp,Op.shift,Int.not_lt.2 h0],NR.mk rfl (.int _ _) rfl⟩
  case quo=>
   have lJ:gO (kk k k' (.prt (q≠0) (.int k (j6 k (p.tdiv q))))) av:=hv'
   unfold kk QF at lJ
   by_cases hk:k=k'
   ·rw[decide_eq_true hk]at lJ
    obtain⟨rfl,h0⟩:=gO.prt lJ
    subst hk
    exact⟨_,fun _ _ _ _=>by simp[execOp,e1,e2,eqGuard,binOp,Op.intDiv,h0,j6],NR.mk rfl (.int _ _) rfl⟩
   ·rw[decide_eq_false hk]at lJ;exact lJ.no.elim
  case rem=>
   have lJ:gO (kk k k' (.prt (q≠0) (.int k (p.tmod q)))) av:=hv'
   unfold kk QF at lJ
   by_cases hk:k=k'
   ·rw[decide_eq_true hk]at lJ
    obtain⟨rfl,h0⟩:=gO.prt lJ
    subst hk
    exact⟨_,fun _ _ _ _=>by simp[execOp,e1,e2,eqGuard,binOp,Op.intDiv,h0],NR.mk rfl (.int _ _) rfl⟩
   ·rw[decide_eq_false hk]at lJ;exact lJ.no.elim
  case add=>exact fin _ _ rfl rfl (.int _ _) hv' fun hk _ _ _ _=>Xc0
  case sub=>exact fin _ _ rfl rfl (.int _ _) hv' fun hk _ _ _ _=>Xc0
  case mul=>exact fin _ _ rfl rfl (.int _ _) hv' fun hk _ _ _ _=>Xc0
  case and=>exact fin _ _ rfl rfl (.int _ _) hv' fun hk _ _ _ _=>z_
  case or=>exact fin _ _ rfl rfl (.int _ _) hv' fun hk _ _ _ _=>z_
  case xor=>exact fin _ _ rfl rfl (.int _ _) hv' fun hk _ _ _ _=>z_
  case andNot=>exact fin _ _ rfl rfl (.int _ _) hv' fun hk _ _ _ _=>z_
  case eql=>exact fin _ _ rfl rfl (.bool _) hv' fun hk _ _ _ _=>aT
  case neq=>exact fin _ _ rfl rfl (.bool _) hv' fun hk _ _ _ _=>aT
  case lss=>exact fin _ _ rfl rfl (.bool _) hv' fun hk _ _ _ _=>aT
  case leq=>exact fin _ _ rfl rfl (.bool _) hv' fun hk _ _ _ _=>aT
  case gtr=>exact fin _ _ rfl rfl (.bool _) hv' fun hk _ _ _ _=>aT
  case geq=>exact fin _ _ rfl rfl (.bool _) hv' fun hk _ _ _ _=>aT
 ·rename_i p q
  have e1:a.eval u=.string ⟨p.toArray⟩:=VR.gH hbx
  have e2:a.eval v=.string ⟨q.toArray⟩:=VR.gH hby
  have tl:∀l:List UInt8,(ByteArray.mk l.toArray).toList=l:=fun l=>H_
  cases bo<;>first|exact(gO.no hv').elim|skip
  case add=>
   obtain⟨rfl,h0⟩:=gO.prt hv'
   have h0':p.length+q.length<=9223372036854775807:=by
    have:((p.length+q.length:Nat):Int)<=9223372036854775807:=h0
    omega
   refine⟨.string ⟨(p++q).toArray⟩,fun _ _ _ _=>?_,NR.mk rfl (.str _) rfl⟩
   have hr:=run_string_add_sum (P:=P) w ⟨p.toArray⟩ ⟨q.toArray⟩ (by grind [ByteArray.size])
   rw[ByteArray.mk_append_mk]at hr
   simp[execOp,e1,e2,eqGuard,binOp,hr]
  all_goals
   rw[gO.da hv']
   exact⟨.bool _,fun _ _ _ _=>by simp[execOp,e1,e2,eqGuard,binOp,Op.stringOp,tl],NR.mk rfl (.bool _) rfl⟩
 ·exact hv'.no.elim
def acH(h:Inv G n D E a w){op:Op}{ty:TypeId}{ne:Bool}{x y:IX}(hc:aw P op ty (.ZA ne x y)=true){av:AV}(hv:gO (pv (.ZA ne x y) (xg true E) E) av):
 ∃v,runs P a op ty w v/\NR G w E a av v:=by
 cases op<;>first|(simp[aw]at hc;done)|skip
 rename_i b t u v yt
 simp[aw,Bool.and_eq_true,decide_eq_true_eq]at hc
 obtain⟨⟨⟨rfl,hx⟩,hy⟩,ht⟩:=hc
 have hbx:=BR.aR h hx
 have hby:=BR.aR h hy
 have hv':gO (MW ne (xg true E x) (xg true E y)) av:=hv
 generalize xg true E x=xv at hbx hv'
 generalize xg true E y=yv at hby hv'
 have htb:P.underlying t=some .bool:=by
  unfold Ze at ht
  split at ht
  ·assumption
  ·cases ht
 unfold MW at hv'
 split at hv'
 ·rename_i p q
  have e1:=VR.iu hbx
  have e2:=VR.iu hby
  rw[hv'.da]
  refine⟨.bool ((p==q)!=ne),fun _ _ _ _=>?_,NR.mk rfl (.bool _) rfl⟩
  cases ne<;>simp[execOp,e1,e2,eqGuard,binOp,run_equal_bool w t p q htb]
 ·exact hv'.no.elim
def Af{w:World}(d:Nat){t e:TypeId}(hte:P.underlying t=some (.pointer e))(p q:Option Addr)(hpq:p=none\/q=none):
 (Op.equalIn (d+1) t (.pointer p) (.pointer q)).run P w=.ok (p.isNone&&q.isNone) w:=by
 rcases hpq with rfl|rfl
 ·simp[Op.equalIn,run_underlying hte]
 ·cases p<;>simp[Op.equalIn,run_underlying hte]
def pS{w:World}(d:Nat){t e:TypeId}(hte:P.underlying t=some (.slice e))(b:Addr)(l c:Nat):
 (Op.equalIn (d+1) t (.slice (some b) l c) (.slice none 0 0)).run P w=.ok false w:=by
 simp[Op.equalIn,run_underlying hte]
def acK(h:Inv G n D E a w){op:Op}{ty:TypeId}{ne:Bool}{x y:IX}(hc:aw P op ty (.VS ne x y)=true){av:AV}(hv:gO (pv (.VS ne x y) (xg true E) E) av):
 ∃v,runs P a op ty w v/\NR G w E a av v:=by
 cases op<;>first|(simp[aw]at hc;done)|skip
 rename_i b t u v yt
 simp only[aw,Bool.and_eq_true,decide_eq_true_eq]at hc
 obtain⟨⟨⟨rfl,hx⟩,hy⟩,ht⟩:=hc
 have hbx:=BR.aR h hx
 have hby:=BR.aR h hy
 have hv':gO (EF ne (xg true E x) (xg true E y)) av:=hv
 generalize xg true E x=xv at hbx hv'
 generalize xg true E y=yv at hby hv'
 have htb:∃e j,P.underlying t=some (.pointer e)/\P.info? e=some j:=by
  unfold agT at ht
  split at ht
  ·grind [Option.isSome_iff_exists]
  ·cases ht
 obtain⟨e,je,hte,hje⟩:=htb
 have eqn:∀p q:Option Addr,(p=none\/q=none)->(Op.equal t (.pointer p) (.pointer q)).run P w=.ok (p.isNone&&q.isNone) w:=by exact fun p q hpq=>Af 9999 hte p q hpq
 have fin:∀p q:Option Addr,a.eval u=.pointer p->a.eval v=.pointer q->(p=none\/q=none)->runs P a (.binOp (if ne=true then .neq else .eql) t u v yt) ty w (.bool ((p.isNone&&q.isNone)!=ne)):=by
  intro p q e1 e2 hpq _ _ _ _
  cases ne<;>simp[execOp,e1,e2,eqGuard,binOp,eqn p q hpq]
 unfold EF at hv'
 split at hv'
 ·rw[hv'.da]
  refine⟨_,fin _ _ (VR.tM hbx) (VR.tM hby) (.inl rfl),NR.mk rfl ?_ rfl⟩
  cases ne<;>exact .bool _
 ·rw[hv'.da]
  refine⟨_,fin _ _ (VR.gk hbx) (VR.tM hby) (.inr rfl),NR.mk rfl ?_ rfl⟩
  cases ne<;>exact .bool _
 ·rw[hv'.da]
  refine⟨_,fin _ _ (VR.tM hbx) (VR.gk hby) (.inl rfl),NR.mk rfl ?_ rfl⟩
  cases ne<;>exact .bool _
 ·rename_i b o b' o'
  by_cases hbo:b=b'/\o=o'
  ·obtain⟨rfl,rfl⟩:=hbo
   simp only[beq_self_eq_true,Bool.and_self,cond_true]at hv'
   rw[hv'.da]
   have e1:=VR.gk hbx
   have e2:=VR.gk hby
   have hq:(Op.equal t (.pointer (some ⟨b,o,none⟩)) (.pointer (some ⟨b,o,none⟩))).run P w=.ok true w:=by
    have hd:∀d:Nat,(Op.equalIn (d+1) t (.pointer (some ⟨b,o,none⟩)) (.pointer (some ⟨b,o,none⟩))).run P w=.ok true w:=fun d=>by simp[Op.equalIn,run_underlying hte,sizeOf,typeInfo,hje,run_sameAddr_same]
    exact hd 9999
   refine⟨.bool (!ne),fun _ _ _ _=>?_,NR.mk rfl (.bool _) rfl⟩
   cases ne<;>simp[execOp,e1,e2,eqGuard,binOp,hq]
  ·have:(b==b'&&o==o')=false:=by
    cases hh:(b==b'&&o==o')with
    |false=>rfl
    |true=>grind
   rw[this]at hv'
   exact hv'.no.elim
 ·exact hv'.no.elim
def acL(h:Inv G n D E a w){op:Op}{ty:TypeId}{ne:Bool}{x y:IX}(hc:aw P op ty (.VT ne x y)=true){av:AV}(hv:gO (pv (.VT ne x y) (xg true E) E) av):
 ∃v,runs P a op ty w v/\NR G w E a av v:=by
 cases op<;>first|(simp[aw]at hc;done)|skip
 rename_i b t u v yt
 simp only[aw,Bool.and_eq_true,decide_eq_true_eq]at hc
 obtain⟨⟨⟨rfl,hx⟩,hy⟩,ht⟩:=hc
 have hbx:=BR.aR h hx
 obtain⟨e,hte⟩:∃e,P.underlying t=some (.slice e):=by grind [cU]
 have fin:∀(d:Addr)(l c:Nat),a.eval u=.slice (some d) l c->a.eval v=.slice none 0 0->runs P a (.binOp (if ne=true then .neq else .eql) t u v yt) ty w (.bool ne):=by
  intro d l c e1 e2 _ _ _ _
  have:(Op.equal t (.slice (some d) l c) (.slice none 0 0)).run P w=.ok false w:=pS 9999 hte d l c
  cases ne<;>simp[execOp,e1,e2,eqGuard,binOp,this]
 cases y with
 |t i=>exact(gO.no hv).elim
 |c yv=>
  by_cases hyv:∃z,yv=.sl true z 0 []
  ·obtain⟨z,rfl⟩:=hyv
   have e2:a.eval v=.slice none 0 0:=by
    unfold bN at hy
    cases v<;>simp at hy
    rename_i c
    show c=_
    unfold cR at hy
    split at hy<;>simp_all
   have hv':gO (SD ne (xg true E x) (.sl true z 0 [])) av:=hv
   generalize xg true E x=xv at hbx hv'
   unfold SD at hv'
   split at hv'
   ·rename_i o z' m cs _ _ _
    rw[hv'.da]
    rcases VR.gq hbx with⟨_,h0,_⟩|⟨b,off,cap,e1,_⟩
    ·cases h0
    ·exact⟨_,fin _ _ _ e1 e2,NR.mk rfl (.bool _) rfl⟩
   ·rw[hv'.da]
    exact⟨_,fin _ _ _ (VR.pJ hbx (Nat.succ_pos _)) e2,NR.mk rfl (.bool _) rfl⟩
   ·exact hv'.no.elim
  ·have:pv (.VT ne x (.c yv)) (xg true E) E=.no:=by
    unfold pv
    split<;>first|rfl|grind|grind
   rw[this]at hv
   exact hv.no.elim
end
theorem add_eq(b off i:Nat):(⟨b,off,none⟩:Addr).add i=⟨b,off+i,none⟩:=by grind [Addr.add]
theorem cell_of_row(w:World){b:Nat}{c:Array Value}{t:TypeId}{fr:Nat×Nat}(hg:w.heap[b]? =some (.cells c t fr))(j:Nat):w.cell? ⟨b,j,none⟩=c[j]? :=by grind [World.cell?]
theorem Ca(cs:List AV)(off n j:Nat):(sub cs off n)[j]? =if j<n then cs[off+j]? else none:=by grind [sub]
theorem fh(cs:List AV)(j:Nat):(views cs)[j]? =(cs[j]?).map view:=bY
section
variable{P:Program}{G:Gh}{n:Nat}{D:List Deferred}{E:St}{a:Act}{w:World}
theorem At.views{R:Nat->Nat}{b off:Nat}{cs:List AV}(h:At w R b off cs):At w R b off (views cs):=by
 obtain⟨u,h1,h2,hf⟩:=h
 refine⟨u,fun j c hj=>?_,fun j c hj=>?_,hf.views⟩<;>rw[fh]at hj<;>cases hc:cs[j]? <;>rw[hc]at hj<;>simp at hj
 ·grind
 ·rw[<-hj];exact(h2 j _ hc).view
theorem At.sub{R:Nat->Nat}{b off:Nat}{cs:List AV}(h:At w R b off cs)(o n:Nat):At w R b (off+o) (sub cs o n):=by
 obtain⟨u,h1,h2,hf⟩:=h
 refine⟨fun j=>u (o+j),fun j c hj=>?_,fun j c hj=>?_,hf.sub o n⟩<;>rw[Ca]at hj<;>try(done)
 ·grind
 grind
def At.Lv{b:Nat}{cs:List AV}{c:Array Value}{t:TypeId}{fr:Nat×Nat}{o:Nat->dp}(hh:w.heap[b]? =some (.cells c t fr))(hc:dF G w o cs c)(hf:Fl cs):At w G.R b 0 cs:=by
 refine⟨fun j=>c.getD j undef,fun j x hj=>?_,fun j x hj=>?_,hf⟩
 all_goals
  have hlt:j<c.size:=by rw[hc.1];exact(List.getElem?_eq_some_iff.1 hj).1
  have hcj:c[j]? =some (c.getD j undef):=H_
 ·rw[Nat.zero_add,cell_of_row w hh,hcj]
 ·exact(hc.2 j x _ hj hcj).1
theorem Hr(cs:List AV)(off n:Nat):AB.sub (AB.views cs) off n=AB.views (AB.sub cs off n):=by simp[AB.sub,AB.views,List.map_drop]
def At.GQ{b:Nat}{cs:List AV}{c:Array Value}{t t':TypeId}{fr:Nat×Nat}{o:Nat->dp}(hh:w.heap[b]? =some (.cells c t fr))(hc:dF G w o cs c)(hf:Eu t' cs):At w G.R b 0 (AB.views cs):=by
 refine⟨fun j=>c.getD j undef,fun j x hj=>?_,fun j x hj=>?_,hf.views⟩
 all_goals
  have hlt:j<c.size:=by rw[hc.1];have:=(List.getElem?_eq_some_iff.1 hj).1;simpa[AB.views]using this
  have hcj:c[j]? =some (c.getD j undef):=H_
 ·rw[Nat.zero_add,cell_of_row w hh,hcj]
 ·have Qy:j<cs.length:=by rw[<-hc.1];exact hlt
  have hx:=by
   simp only[AB.views,List.getElem?_map,List.getElem?_eq_getElem Qy]at hj
   injection hj
  rw[<-hx]
  exact(hc.2 j cs[j] _ (List.getElem?_eq_getElem Qy) hcj).1.view
def ss{n off:Nat}{cs ds:List AV}(h:fP n off cs=some ds):off+n<=cs.length/\ds=views (sub cs off n):=by grind [fP,decide_eq_true,decide_eq_false]
theorem kI{cs:List AV}{off n:Nat}(h:off+n<=cs.length):(AB.sub cs off n).length=n:=by grind [AB.sub]
def DN(h:Inv G n D E a w){x:IX}{p:AV}{v:Value}(hb:BR G w E a x p v){m:Nat}{cs:List AV}(hr:rd E p m=some cs):
 ∃b off,v=.pointer (some ⟨b,off,none⟩)/\cs.length=m/\At w G.R b off cs/\views cs=cs:=by
 have vv:∀l:List AV,views (views l)=views l:=fun l=>by simp[views,mD]
 unfold rd at hr
 split at hr
 ·rename_i ds
  obtain⟨hl,rfl⟩:=ss hr
  obtain⟨i,b,c,t,_,_,_,hv,_,_,hh,hc,hfl⟩:=hb
  have hat:=((At.Lv hh hc hfl).sub 0 m).views
  grind [AB.views,kI]
 ·rename_i d off
  unfold l6 at hr
  split at hr
  ·rename_i ds hd
   obtain⟨hl,rfl⟩:=ss hr
   obtain⟨b,hv,ht⟩:=hb
   have ht:=ht ds hd
   have hs:=h.cG d _ ht
   rw[hd]at hs
   obtain⟨b',c,t,h1,h2,h3,h4,h5,h6⟩:=hs
   injection h1 with h1;injection h1 with h1;injection h1 with h1 _ _
   subst h1
   have hat:=((At.Lv h4 h5 h6).sub off m).views
   grind [AB.views,kI]
  ·cases hr
 ·rename_i ds
  obtain⟨hl,rfl⟩:=ss hr
  obtain⟨b,off,hv,hR,hat⟩:=VR.Ni hb
  have hat:=(hat.sub 0 m).views
  grind [AB.views,kI]
 ·rename_i b off
  unfold rj at hr
  split at hr
  ·rename_i ds hs
   obtain⟨hl,rfl⟩:=ss hr
   have hv:=VR.gk hb
   obtain⟨h1,h2,c,t,h3,h4,h5⟩:=h.store b _ hs
   have hat:=(At.GQ h3 h4 h5).sub off m
   rw[Nat.zero_add,Hr]at hat
   grind [AB.views,kI]
  ·cases hr
 ·cases hr
theorem lq{t:TypeId}{m:Nat}(h:di P t m=true):∃i,P.info? t=some i/\i.size=m:=by grind [di]
theorem run_sizeOf{t:TypeId}{m:Nat}(h:di P t m=true)(w:World):(sizeOf t).run P w=.ok m w:=by
 obtain⟨i,h1,h2⟩:=lq h
 simp[sizeOf,typeInfo,h1,h2]
theorem va{t:TypeId}{multi:Bool}(h:qA P t multi=true)(w:World):(isAgg t).run P w=.ok multi w:=by
 unfold qA at h
 split at h
 ·rename_i hh;subst h;simp[isAgg,underlying,hh]
 ·rename_i hh;subst h;simp[isAgg,underlying,hh]
 ·rename_i d h1 h2 hh
  have hm:=KT
  subst hm
  simp[isAgg,underlying,run_program,Sem.run_bind,Result.andThen_ok,hh,Sem.run_pure]
 ·cases h
theorem At.lU{R:Nat->Nat}{b off:Nat}{cs:List AV}(h:At w R b off cs):∃us:List Value,us.length=cs.length/\(∀(j:Nat)(v:Value),us[j]? =some v->w.cell? ((⟨b,off,none⟩:Addr).add j)=some v)/\
 (∀(j:Nat)(c:AV)(v:Value),cs[j]? =some c->us[j]? =some v->VR w R c v):=by
 obtain⟨u,h1,h2,_⟩:=h
 have key:∀j v,((List.range cs.length).map u)[j]? =some v->∃hj:j<cs.length,v=u j:=A_
 refine⟨(List.range cs.length).map u,BY,fun j v hj=>?_,fun j c v hc hj=>?_⟩
 ·obtain⟨hlt,rfl⟩:=key j v hj
  rw[add_eq]
  simp_all
 grind
def qk{R:Nat->Nat}{t:TypeId}{m:Nat}{multi:Bool}(hs:di P t m=true)(hm:qA P t multi=true)(h1:(multi||m==1)=true){b off:Nat}{cs:List AV}(hl:cs.length=m)(hat:At w R b off cs):
 ∃v,(loadVar t ⟨b,off,none⟩).run P w=.ok v w/\VR w R (oq multi cs) v:=by
 have hfl:Fl cs:=j_
 obtain⟨us,hul,hc,hv⟩:=hat.lU
 cases multi with
 |true=>
  have:=run_loadCells_list (P:=P) w ⟨b,off,none⟩ us hc
  rw[hul,hl]at this
  refine⟨.agg us.toArray,by simp[loadVar,va hm,run_sizeOf hs,this],?_⟩
  exact .agg cs us.toArray hfl A_ fun j c v hcj hvj=>hv j c v hcj A_
 |false=>
  have hm1:m=1:=A_
  subst hm1
  match cs,hl with
  |[c],_=>
   match us,hul with
   |[u],_=>
    have h0:=hc 0 u rfl
    refine⟨u,by simp[loadVar,va hm,show(w.cell? ⟨b,off,none⟩)=some u from h0],hv 0 c u rfl rfl⟩
def Sc{a av:AV}(h:gO (Zp a) av):av=a/\dJ a=true:=by
 unfold Zp at h
 cases hi:dJ a with
 |true=>rw[hi]at h;exact⟨h.da,rfl⟩
 |false=>rw[hi]at h;exact h.no.elim
def Ef{multi:Bool}{cs:List AV}(hv:views cs=cs):AB.view (oq multi cs)=oq multi cs:=by
 cases multi with
 |true=>rfl
 |false=>cases cs with
  |nil=>rfl
  |cons c l=>simp[views,List.map_cons,List.cons.injEq]at hv;exact hv.1
def IT(h:Inv G n D E a w){op:Op}{ty:TypeId}{m:Nat}{multi:Bool}{x:IX}(hc:aw P op ty (.load m multi x)=true){av:AV}(hv:gO (pv (.load m multi x) (xg true E) E) av):
 ∃v,runs P a op ty w v/\NR G w E a av v:=by
 cases op<;>first|(simp[aw]at hc;done)|skip
 rename_i t y
 simp only[aw,Bool.and_eq_true]at hc
 obtain⟨⟨⟨hs,hm⟩,h1⟩,hy⟩:=hc
 have hb:=BR.aR h hy
 have hv':gO (j5 multi (rd E (xg true E x) m)) av:=hv
 cases hr:rd E (xg true E x) m with
 |none=>rw[hr]at hv';exact hv'.no.elim
 |some cs=>
  rw[hr]at hv'
  obtain⟨rfl,hi⟩:=Sc hv'
  obtain⟨b,off,e,hl,hat,hvw⟩:=DN h hb hr
  obtain⟨v,bS,hvr⟩:=qk hs hm h1 hl hat
  exact⟨v,fun _ _ _ _=>by simp[execOp,e,Instr.loadAt,Instr.sureAddr,bS],NR.mk hi hvr (Ef hvw)⟩
theorem y7{t:TypeId}(h:Ob P t=true):P.underlying t=some .string:=by grind [Ob]
def QZ(h:Inv G n D E a w){op:Op}{ty:TypeId}{x i:IX}(hc:aw P op ty (.lT x i)=true){av:AV}(hv:gO (pv (.lT x i) (xg true E) E) av):
 ∃v,runs P a op ty w v/\NR G w E a av v:=by
 cases op<;>first|(simp[aw]at hc;done)|skip
 rename_i t y j
 simp only[aw,Bool.and_eq_true]at hc
 obtain⟨⟨hy,hj⟩,ht⟩:=hc
 have ht:=y7 ht
 have hb:=BR.aR h hy
 have hbi:=BR.aR h hj
 have hv':gO (vd (xg true E x) (xg true E i)) av:=hv
 generalize xg true E x=xv at hb hv'
 generalize xg true E i=iv at hbi hv'
 unfold vd at hv'
 split at hv'
 ·rename_i s k q
  obtain⟨rfl,h0,hlt⟩:=hv'.prt
  have e1:a.eval y=.string ⟨s.toArray⟩:=VR.gH hb
  have e2:a.eval j=.int k q:=VR.cu hbi
  have hq:q.toNat<s.length:=AT
  have hg:(ByteArray.mk s.toArray)[q.toNat]? =some (s.getD q.toNat 0):=by
   have hsz:q.toNat<(ByteArray.mk s.toArray).size:=by simpa[ByteArray.size]using hq
   rw[getElem?_pos (ByteArray.mk s.toArray) q.toNat hsz]
   have:(ByteArray.mk s.toArray)[q.toNat]=s.toArray[q.toNat]' A_:=rfl
   rw[this]
   simp[List.getD_eq_getElem?_getD,List.getElem?_eq_getElem hq]
  refine⟨.int .u8 (s.getD q.toNat 0).toNat,fun _ _ _ _=>by simp[execOp,e1,e2,Instr.index,underlying,ht,asIntOf,h0,hg],NR.mk rfl (.int _ _) rfl⟩
 ·exact hv'.no.elim
theorem dj{t e:TypeId}(h:cU P t=some e):P.underlying t=some (.slice e):=by grind [cU]
def IQ(h:Inv G n D E a w){op:Op}{ty:TypeId}{off:Nat}{x:IX}(hc:aw P op ty (.fieldAddr off x)=true){av:AV}(hv:gO (pv (.fieldAddr off x) (xg true E) E) av):
 ∃v,runs P a op ty w v/\NR G w E a av v:=by
 cases op<;>first|(simp[aw]at hc;done)|skip
 rename_i t y i
 simp only[aw,Bool.and_eq_true]at hc
 obtain⟨hy,hc⟩:=hc
 split at hc<;>try(cases hc;done)
 rename_i fs ht
 split at hc<;>try(cases hc;done)
 rename_i f hf
 simp only[Bool.and_eq_true,beq_iff_eq]at hc
 obtain⟨rfl,hsz⟩:=hc
 split at hsz<;>try(cases hsz;done)
 rename_i ti hti
 have jW:ti.size≠0:=by have:=of_decide_eq_true hsz;omega
 have hb:=BR.aR h hy
 have bS:∀b o,a.eval y=.pointer (some ⟨b,o,none⟩)->runs P a (.fieldAddr t y i) ty w (.pointer (some ⟨b,o+f.offset,none⟩)):=by
  intro b o e _ _ _ _
  simp[execOp,e,Instr.fieldAt,underlying,ht,hf,Instr.sureAddr,fieldPlace,sizeOf,typeInfo,hti,jW,add_eq]
 have hv':gO (gP f.offset x (xg true E x)) av:=hv
 generalize hxv:xg true E x=xv at hb hv'
 unfold gP at hv'
 split at hv'
 ·rename_i d o
  rw[hv'.da]
  obtain⟨b,h1,h2⟩:=hb
  exact⟨_,bS b o h1,b,rfl,h2⟩
 ·rename_i cs
  by_cases dn:f.offset<=cs.length
  ·rw[decide_eq_true dn]at hv'
   rw[hv'.da]
   obtain⟨b,o,e,hR,u,h1,h2,hfl⟩:=VR.Ni hb
   refine⟨_,bS b o e,NR.mk rfl (.sp _ b (o+f.offset) (fun j=>u (f.offset+j)) (hfl.drop _) C3 (fun j c hj=>?_) (fun j c hj=>?_)) rfl⟩
   ·grind
   grind
  ·rw[decide_eq_false dn]at hv';exact hv'.no.elim
 ·rename_i b o
  rw[hv'.da]
  exact⟨_,bS b o (VR.gk hb),NR.mk rfl (.ref _ _) rfl⟩
 ·rename_i cs
  unfold QJ at hv'
  split at hv'
  ·rename_i j
   obtain⟨rfl,_⟩:=hv'.prt
   obtain⟨i',b,c,t',e1,hl,htm,hvv,_⟩:=hb
   injection e1 with e1
   subst e1
   exact⟨_,bS b 0 hvv,b,A_,fun _ _=>by rw[htm,hvv]⟩
  ·exact hv'.no.elim
 ·exact hv'.no.elim
end
section
variable{P:Program}{G:Gh}{n:Nat}{D:List Deferred}{E:St}{a:Act}{w:World}
def SJ{k:Int}{m sz len:Nat}(h0:0<=k)(h1:k<m)(hl:len=m*sz):k.toNat*sz+sz<=len:=by
 have:k.toNat+1<=m:=AT
 calc k.toNat*sz+sz=(k.toNat+1)*sz:=by grind
  _<=m*sz:=Nat.mul_le_mul_right _ this
  _=len:=hl.symm
def IS(h:Inv G n D E a w){op:Op}{ty:TypeId}{z:List AV}{x i:IX}(hc:aw P op ty (.indexAddr z x i)=true){av:AV}(hv:gO (pv (.indexAddr z x i) (xg true E) E) av):
 ∃v,runs P a op ty w v/\NR G w E a av v:=by
 cases op<;>first|(simp[aw]at hc;done)|skip
 rename_i t y j
 simp only[aw,Bool.and_eq_true]at hc
 obtain⟨⟨hy,hj⟩,hc⟩:=hc
 split at hc<;>try(cases hc;done)
 rename_i e ht
 have ht:=dj ht
 have hb:=BR.aR h hy
 have hbi:=BR.aR h hj
 have hv':gO (kS z (xg true E x) (xg true E i)) av:=hv
 generalize xg true E x=xv at hb hv'
 generalize xg true E i=iv at hbi hv'
 have bS:∀b o l c k q,a.eval y=.slice (some ⟨b,o,none⟩) l c->a.eval j=.int k q->0<=q->q<l->runs P a (.indexAddr t y j) ty w (.pointer (some ⟨b,o+q.toNat*z.length,none⟩)):=by
  intro b o l c k q e1 e2 h0 h1 _ _ _ _
  simp[execOp,e1,e2,Instr.indexAt,asIntOf,run_underlying ht,h0,h1,run_sizeOf hc,add_eq]
 unfold kS at hv'
 split at hv'
 ·rename_i ow s m cs k q
  cases hs:s==z.length with
  |false=>rw[hs]at hv';exact hv'.no.elim
  |true=>
   rw[hs]at hv'
   have hs:=beq_iff_eq.1 hs
   obtain⟨rfl,h0,h1⟩:=hv'.prt
   have e2:a.eval j=.int k q:=VR.cu hbi
   rcases VR.gq hb with⟨_,rfl,_⟩|⟨b,o,cap,e1,hl,hR,fI,hat⟩
   ·grind
   ·rw[hs]at hl
    have dn:=SJ h0 h1 hl
    have hlen:(views (AB.sub cs (q.toNat*z.length) z.length)).length=z.length:=by simp only[AB.views,List.length_map,kI dn]
    have abw:pad z (views (AB.sub cs (q.toNat*z.length) z.length))=views (AB.sub cs (q.toNat*z.length) z.length):=by
     unfold pad
     rw[hlen,beq_self_eq_true];rfl
    have ajw:=(hat.sub (q.toNat*z.length) z.length).views
    obtain⟨u,u1,u2,u3⟩:=ajw
    rw[abw]
    refine⟨_,bS b o m cap k q e1 e2 h0 h1,NR.mk rfl (.sp _ b (o+q.toNat*z.length) u u3 ?_ u1 u2) rfl⟩
    grind
 ·rename_i b o m c k q
  obtain⟨rfl,h0,h1⟩:=hv'.prt
  rcases VR.cW hb with e0|⟨h2,_,_⟩
  ·exact⟨_,bS b o m c k q e0 (VR.cu hbi) h0 h1,NR.mk rfl (.ref _ _) rfl⟩
  ·omega
 ·exact hv'.no.elim
def E0(h:Inv G n D E a w){op:Op}{ty:TypeId}{sz len:Nat}{x i:IX}(hc:aw P op ty (.jE sz len x i)=true){av:AV}(hv:gO (pv (.jE sz len x i) (xg true E) E) av):
 ∃v,runs P a op ty w v/\NR G w E a av v:=by
 cases op<;>first|(simp[aw]at hc;done)|skip
 rename_i t y j
 simp only[aw,Bool.and_eq_true]at hc
 obtain⟨⟨hy,hj⟩,hc⟩:=hc
 split at hc<;>try(cases hc;done)
 rename_i l e ht
 simp only[Bool.and_eq_true,beq_iff_eq]at hc
 obtain⟨rfl,hs⟩:=hc
 have hb:=BR.aR h hy
 have hbi:=BR.aR h hj
 have hv':gO (gA sz l x (xg true E x) (xg true E i)) av:=hv
 generalize hxv:xg true E x=xv at hb hv'
 generalize xg true E i=iv at hbi hv'
 have bS:∀b o k q,a.eval y=.pointer (some ⟨b,o,none⟩)->a.eval j=.int k q->0<=q->q<l->runs P a (.indexAddr t y j) ty w (.pointer (some ⟨b,o+q.toNat*sz,none⟩)):=by
  intro b o k q e1 e2 h0 h1 _ _ _ _
  simp[execOp,e1,e2,Instr.indexAt,asIntOf,run_underlying ht,Instr.sureAddr,h0,h1,run_sizeOf hs,add_eq]
 unfold gA at hv'
 split at hv'
 ·rename_i d o k q
  obtain⟨rfl,h0,h1⟩:=hv'.prt
  obtain⟨b,e1,h2⟩:=hb
  exact⟨_,bS b o k q e1 (VR.cu hbi) h0 h1,b,rfl,h2⟩
 ·rename_i cs k q
  by_cases dn:l*sz<=cs.length
  ·rw[decide_eq_true dn]at hv'
   obtain⟨rfl,h0,h1⟩:=hv'.prt
   obtain⟨b,o,e,hR,u,u1,u2,u3⟩:=VR.Ni hb
   have hf:=SJ (sz:=sz) h0 h1 rfl
   refine⟨_,bS b o k q e (VR.cu hbi) h0 h1,NR.mk rfl (.sp _ b (o+q.toNat*sz) (fun j=>u (q.toNat*sz+j)) (u3.drop _) C3 (fun j c hj=>?_) (fun j c hj=>?_)) rfl⟩
   ·grind
   grind
  ·rw[decide_eq_false dn]at hv';exact hv'.no.elim
 ·rename_i b o k q
  obtain⟨rfl,h0,h1⟩:=hv'.prt
  exact⟨_,bS b o k q (VR.gk hb) (VR.cu hbi) h0 h1,NR.mk rfl (.ref _ _) rfl⟩
 ·rename_i cs k q
  unfold QJ at hv'
  split at hv'
  ·rename_i j'
   obtain⟨rfl,h0,h1⟩:=hv'.prt
   obtain⟨i',b,c,t',e1,hl,htm,hvv,_⟩:=hb
   injection e1 with e1
   subst e1
   exact⟨_,bS b 0 k q hvv (VR.cu hbi) h0 h1,b,A_,fun _ _=>by rw[htm,hvv]⟩
  ·exact hv'.no.elim
 ·exact hv'.no.elim
def jY{lo:Option Operand}{li:Option IX}(h:Inv G n D E a w)(hc:EA lo li=true){d l:Int}(hl:Gx (xg true E) li d=some l):
 (lo=none/\l=d)\/(∃k o,lo=some o/\a.eval o=.int k l):=by
 unfold EA at hc
 split at hc
 ·injection hl with hl;grind
 ·rename_i o x
  have hb:=BR.aR h hc
  unfold Gx at hl
  simp at hl
  split at hl
  ·rename_i k q hq
   injection hl with hl;subst hl
   rw[hq]at hb
   exact .inr ⟨k,o,rfl,VR.cu hb⟩
  ·cases hl
 ·cases hc
def jl(EO:Bool)(len cap:Nat){lo hi:Option Value}{l hh:Int}(hlo:(lo=none/\l=0)\/∃k,lo=some (.int k l))(hhi:(hi=none/\hh=len)\/∃k,hi=some (.int k hh))
 (h0:0<=l)(h1:l<=hh)(h2:hh<=cap):(Instr.sliceBounds EO len cap lo hi none).run P w=.ok (l.toNat,hh.toNat,cap) w:=by
 have hb:∀k(q:Int)(y:Nat) c,0<=q->q<=y->(Instr.sliceBound (.int k q) y c).run P w=.ok q.toNat w:=by
  intro k q y c hq hy
  simp[Instr.sliceBound,asIntOf,hq,hy]
 rcases hhi with⟨rfl,rfl⟩|⟨k,rfl⟩
 ·rcases hlo with⟨rfl,rfl⟩|⟨k',rfl⟩
  ·simp[Instr.sliceBounds]
  ·simp[Instr.sliceBounds,hb k' l len _ h0 h1]
 ·have:=hb k hh cap (if EO then .sliceAcap else .sliceAlen) AT h2
  rcases hlo with⟨rfl,rfl⟩|⟨k',rfl⟩
  ·simp[Instr.sliceBounds,this]
  ·have h3:=hb k' l hh.toNat .sliceB h0 AT
   simp[Instr.sliceBounds,this,h3]
def Ag(EO:Bool)(len cap:Nat){lo:Option Value}{l hh m:Int}{kh km:IntKind}(hlo:(lo=none/\l=0)\/∃k,lo=some (.int k l))
 (h0:0<=l)(h1:l<=hh)(h2:hh<=m)(h3:m<=cap):(Instr.sliceBounds EO len cap lo (some (.int kh hh)) (some (.int km m))).run P w=.ok (l.toNat,hh.toNat,m.toNat) w:=by
 have hb:∀k(q:Int)(y:Nat) c,0<=q->q<=y->(Instr.sliceBound (.int k q) y c).run P w=.ok q.toNat w:=by
  intro k q y c hq hy
  simp[Instr.sliceBound,asIntOf,hq,hy]
 have e1:=hb km m cap (if EO then .slice3Acap else .slice3Alen) AT h3
 have e2:=hb kh hh m.toNat .slice3B AT AT
 rcases hlo with⟨rfl,rfl⟩|⟨k',rfl⟩
 ·simp[Instr.sliceBounds,e1,e2]
 ·have e3:=hb k' l hh.toNat .slice3C h0 AT
  simp[Instr.sliceBounds,e1,e2,e3]
def mh{lo:Option Operand}{l d:Int}(h:(lo=none/\l=d)\/(∃k o,lo=some o/\a.eval o=.int k l)):(lo.map a.eval=none/\l=d)\/∃k,lo.map a.eval=some (.int k l):=A_
def UN(h:Inv G n D E a w){op:Op}{ty:TypeId}{sz:Nat}{x:IX}{lo hi mx:Option IX}(hc:aw P op ty (.slice sz x lo hi mx)=true){av:AV}(hv:gO (pv (.slice sz x lo hi mx) (xg true E) E) av):
 ∃v,runs P a op ty w v/\NR G w E a av v:=by
 cases op<;>first|(simp[aw]at hc;done)|skip
 rename_i t y l' h' m'
 simp only[aw,Bool.and_eq_true]at hc
 obtain⟨⟨⟨⟨hy,hlo⟩,hhi⟩,hmx⟩,hc⟩:=hc
 split at hc<;>try(cases hc;done)
 rename_i e ht
 have ht:=dj ht
 cases mx with
 |some m=>
  have hb:=BR.aR h hy
  have hv':gO (pU sz (xg true E) lo hi m (xg true E x)) av:=hv
  generalize xg true E x=xv at hb hv'
  unfold pU at hv'
  split at hv'
  ·rename_i b o len cap
   unfold Aj at hv'
   split at hv'
   ·rename_i l hh mm hl hhh hmm
    obtain⟨rfl,h0,h1,h2,h3⟩:=hv'.prt
    have bl:=mh (jY h hlo hl)
    cases hi with
    |none=>cases hhh
    |some hi'=>
    have bh:=jY h hhi (d:=0) hhh
    have bm:=jY h hmx (d:=0) hmm
    rcases bh with⟨hn,_⟩|⟨kh,oh,eh1,eh2⟩
    ·grind [EA]
    rcases bm with⟨hn,_⟩|⟨km,om,em1,em2⟩
    ·grind [EA]
    subst eh1;subst em1
    have bS:=Ag (P:=P) (w:=w) (kh:=kh) (km:=km) true len cap bl h0 h1 h2 h3
    have e3:hh.toNat -l.toNat=(hh -l).toNat:=AT
    rcases VR.cW hb with e1|⟨rfl,rfl,e1⟩
    ·by_cases hcl:mm.toNat=l.toNat
     ·have e5:jF o mm.toNat l.toNat sz=o:=by unfold jF;rw[hcl,beq_self_eq_true];rfl
      rw[e5]
      refine⟨.slice (some ⟨b,o,none⟩) (hh -l).toNat (mm.toNat -l.toNat),fun _ _ _ _=>?_,NR.mk rfl (.arr _ _ _ _) rfl⟩
      simp[execOp,e1,Instr.sliceAt,run_underlying ht,Instr.slice,eh2,em2,bS,run_sizeOf hc,hcl,e3]
     ·have e5:jF o mm.toNat l.toNat sz=o+l.toNat*sz:=by
       unfold jF
       rw[show(mm.toNat==l.toNat)=false by grind];rfl
      rw[e5]
      refine⟨.slice (some ⟨b,o+l.toNat*sz,none⟩) (hh -l).toNat (mm.toNat -l.toNat),fun _ _ _ _=>?_,NR.mk rfl (.arr _ _ _ _) rfl⟩
      simp[execOp,e1,Instr.sliceAt,run_underlying ht,Instr.slice,eh2,em2,bS,run_sizeOf hc,hcl,e3,add_eq]
    ·have h6:mm=0:=AT
     have h4:hh=0:=AT
     have h5:l=0:=AT
     subst h6;subst h4;subst h5
     refine⟨.slice none 0 0,fun _ _ _ _=>?_,NR.mk rfl (by exact .HC _ _) rfl⟩
     simp[execOp,e1,Instr.sliceAt,run_underlying ht,Instr.slice,eh2,em2,bS,run_sizeOf hc]
   ·exact hv'.no.elim
  ·exact hv'.no.elim
 |none=>
  have hm':m'=none:=by
   cases m' with
   |none=>rfl
   |some _=>simp[EA]at hmx
  subst hm'
  have hb:=BR.aR h hy
  have hv':gO (ur sz (xg true E) lo hi (xg true E x)) av:=hv
  generalize xg true E x=xv at hb hv'
  unfold ur at hv'
  split at hv'
  ·rename_i ow s m cs
   cases hs:s==sz with
   |false=>rw[hs]at hv';exact hv'.no.elim
   |true=>
    rw[hs]at hv'
    obtain rfl:=beq_iff_eq.1 hs
    have lJ:gO (B9 s m cs (Gx (xg true E) lo 0) (Gx (xg true E) hi m)) av:=hv'
    unfold B9 at lJ
    split at lJ
    ·rename_i l hh hl hhh
     cases h1s:Nat.ble 1 s with
     |false=>rw[h1s]at lJ;exact lJ.no.elim
     |true=>
     rw[h1s]at lJ
     have hs1:1<=s:=Nat.le_of_ble_eq_true h1s
     obtain⟨rfl,h0,h1,h2⟩:=lJ.prt
     have bl:=mh (jY h hlo hl)
     have bh:=mh (jY h hhi hhh)
     rcases VR.gq hb with⟨e1,rfl,rfl⟩|⟨b,o,cap,e1,hlen,hR,fI,hat⟩
     ·have hl0:l=0:=AT
      have hh0:hh=0:=AT
      subst hl0;subst hh0
      have gn:AB.sub ([]:List AV) ((0:Int).toNat*s) ((0 -0:Int).toNat*s)=[]:=by simp[AB.sub]
      rcases e1 with e1|⟨_,ad,cap,e1⟩
      ·refine⟨.slice none 0 0,fun _ _ _ _=>?_,NR.mk rfl ?_ rfl⟩
       ·have:=jl (P:=P) (w:=w) true 0 0 bl bh AT AT AT
        simp[execOp,e1,Instr.sliceAt,run_underlying ht,Instr.slice,this,run_sizeOf hc]
       ·rw[gn]
        show VR _ _ (.sl false s (0/s) []) _
        rw[Nat.zero_div];exact .slnil _ _
      ·refine⟨.slice (some (if cap=0 then ad else ad.add 0)) 0 cap,fun _ _ _ _=>?_,NR.mk rfl ?_ rfl⟩
       ·have:=jl (P:=P) (w:=w) true 0 cap bl bh AT AT AT
        by_cases hc0:cap=0
        ·subst hc0
         simp[execOp,e1,Instr.sliceAt,run_underlying ht,Instr.slice,this,run_sizeOf hc]
        ·simp[execOp,e1,Instr.sliceAt,run_underlying ht,Instr.slice,this,run_sizeOf hc,hc0]
       ·rw[gn]
        show VR _ _ (.sl false s (0/s) []) _
        rw[Nat.zero_div];exact .sle _ _ _
     ·have bS:=jl (P:=P) (w:=w) true m cap bl bh h0 h1 AT
      have dn:l.toNat*s+(hh -l).toNat*s<=cs.length:=by
       rw[hlen,<-Nat.add_mul]
       exact Nat.mul_le_mul_right _ AT
      have hdiv:(AB.sub cs (l.toNat*s) ((hh -l).toNat*s)).length/s=(hh -l).toNat:=by rw[kI dn];exact Nat.mul_div_cancel _ hs1
      rw[hdiv]
      by_cases hcl:cap=l.toNat
      ·subst hcl
       have hz:(hh -l).toNat=0:=AT
       refine⟨.slice (some ⟨b,o,none⟩) (hh -l).toNat (l.toNat -l.toNat),fun _ _ _ _=>?_,NR.mk rfl ?_ rfl⟩
       ·have e3:hh.toNat -l.toNat=(hh -l).toNat:=AT
        simp[execOp,e1,Instr.sliceAt,run_underlying ht,Instr.slice,bS,run_sizeOf hc,e3]
       ·rw[hz]
        have:AB.sub cs (l.toNat*s) (0*s)=[]:=by simp[AB.sub]
        rw[this]
        exact .sl false s 0 [] b o _ (fun _=>undef) Fl.nil BY C3 (Nat.zero_le _) (fun j c hj=>K_) (fun j c hj=>K_)
      ·refine⟨.slice (some ⟨b,o+l.toNat*s,none⟩) (hh -l).toNat (cap -l.toNat),fun _ _ _ _=>?_,NR.mk rfl ?_ rfl⟩
       ·have e3:hh.toNat -l.toNat=(hh -l).toNat:=AT
        simp[execOp,e1,Instr.sliceAt,run_underlying ht,Instr.slice,bS,run_sizeOf hc,hcl,e3,add_eq]
       ·obtain⟨u,u1,u2,u3⟩:=hat.sub (l.toNat*s) ((hh -l).toNat*s)
        exact .sl false s _ _ b _ _ u u3 (kI dn) (by grind [kI]) AT u1 u2
    ·exact lJ.no.elim
  ·rename_i b o m cap
   have lJ:gO (y6 sz b o cap (Gx (xg true E) lo 0) (Gx (xg true E) hi m)) av:=hv'
   unfold y6 at lJ
   split at lJ
   ·rename_i l hh hl hhh
    obtain⟨rfl,h0,h1,h2⟩:=lJ.prt
    have bl:=mh (jY h hlo hl)
    have bh:=mh (jY h hhi hhh)
    have bS:=jl (P:=P) (w:=w) true m cap bl bh h0 h1 h2
    have e3:hh.toNat -l.toNat=(hh -l).toNat:=AT
    rcases VR.cW hb with e1|⟨rfl,rfl,e1⟩
    ·by_cases hcl:cap=l.toNat
     ·have e5:jF o cap l.toNat sz=o:=by unfold jF;rw[hcl,beq_self_eq_true];rfl
      rw[e5]
      refine⟨.slice (some ⟨b,o,none⟩) (hh -l).toNat (cap -l.toNat),fun _ _ _ _=>?_,NR.mk rfl (.arr _ _ _ _) rfl⟩
      simp[execOp,e1,Instr.sliceAt,run_underlying ht,Instr.slice,bS,run_sizeOf hc,<-hcl,e3]
      grind
     ·have e5:jF o cap l.toNat sz=o+l.toNat*sz:=by
       unfold jF
       rw[show(cap==l.toNat)=false by grind];rfl
      rw[e5]
      refine⟨.slice (some ⟨b,o+l.toNat*sz,none⟩) (hh -l).toNat (cap -l.toNat),fun _ _ _ _=>?_,NR.mk rfl (.arr _ _ _ _) rfl⟩
      simp[execOp,e1,Instr.sliceAt,run_underlying ht,Instr.slice,bS,run_sizeOf hc,hcl,e3,add_eq]
    ·have h3:l=0:=AT
     have h4:hh=0:=AT
     subst h3;subst h4
     refine⟨.slice none 0 0,fun _ _ _ _=>?_,NR.mk rfl (by exact .HC _ _) rfl⟩
     simp[execOp,e1,Instr.sliceAt,run_underlying ht,Instr.slice,bS,run_sizeOf hc]
   ·exact lJ.no.elim
  ·exact hv'.no.elim
def Q1(h:Inv G n D E a w){op:Op}{ty:TypeId}{x:IX}{lo hi:Option IX}(hc:aw P op ty (.qo x lo hi)=true){av:AV}(hv:gO (pv (.qo x lo hi) (xg true E) E) av):
 ∃v,runs P a op ty w v/\NR G w E a av v:=by
 cases op<;>first|(simp[aw]at hc;done)|skip
 rename_i t y l' h' m'
 cases m' with
 |some _=>simp[aw]at hc
 |none=>
  simp only[aw,Bool.and_eq_true]at hc
  obtain⟨⟨⟨hy,hlo⟩,hhi⟩,ht⟩:=hc
  have ht:=y7 ht
  have hb:=BR.aR h hy
  have hv':gO (mB (xg true E) lo hi (xg true E x)) av:=hv
  generalize xg true E x=xv at hb hv'
  unfold mB at hv'
  split at hv'
  ·rename_i s
   have lJ:=hv'
   unfold DX at lJ
   split at lJ
   ·rename_i l hh hl hhh
    obtain⟨rfl,h0,h1,h2⟩:=lJ.prt
    have bl:=mh (jY h hlo hl)
    have bh:=mh (jY h hhi hhh)
    have e1:=VR.gH hb
    have bS:=jl (P:=P) (w:=w) false s.length s.length bl bh h0 h1 h2
    have hsz:(ByteArray.mk s.toArray).size=s.length:=by simp[ByteArray.size]
    refine⟨.string ⟨((s.drop l.toNat).take (hh -l).toNat).toArray⟩,fun _ _ _ _=>?_,NR.mk rfl (.str _) rfl⟩
    have hex:(ByteArray.mk s.toArray).extract l.toNat hh.toNat=⟨((s.drop l.toNat).take (hh -l).toNat).toArray⟩:=by
     apply ByteArray.ext
     rw[ByteArray.data_extract]
     apply Array.ext'
     simp only[Array.toList_extract,List.extract_eq_take_drop]
     congr 1
     omega
    simp[execOp,e1,Instr.sliceAt,run_underlying ht,Instr.slice,hsz,bS,hex]
   ·exact lJ.no.elim
  ·exact hv'.no.elim
def qc{b:Builtin}{c:Call}{ys:List Operand}{ts:List TypeId}(h:Rx b c=some (ys,ts)):c={callee:=.builtin b,args:=ys.toArray,argTypes:=ts.toArray}:=by
 unfold Rx at h
 split at h
 ·split at h
  ·rename_i hbb
   injection h with h;injection h with h1 h2
   subst h1;subst h2
   cases c;simp_all
  ·cases h
 ·cases h
def acM(h:Inv G n D E a w){op:Op}{ty:TypeId}{cls:Nat}{x:IX}(hc:aw P op ty (.len cls x)=true){av:AV}(hv:gO (pv (.len cls x) (xg true E) E) av):
 ∃v,runs P a op ty w v/\NR G w E a av v:=by
 cases op<;>first|(simp[aw]at hc;done)|skip
 rename_i c
 simp only[aw]at hc
 split at hc<;>try(cases hc;done)
 rename_i y ys t ts hb
 have hce:=qc hb
 subst hce
 rw[Bool.and_eq_true]at hc
 obtain⟨hy,hlt⟩:=hc
 have hb:=BR.aR h hy
 have hv':gO (BB E.s cls (xg true E x)) av:=hv
 generalize xg true E x=xv at hb hv'
 have fin:∀(m:Nat),av=.int .i64 m->(∀w',w'=w->(Builtin.len_ (t::ts).toArray ty ((y::ys).toArray.map a.eval)).run P w'=.ok (.int .i64 m) w')->∃v,runs P a (.call {callee:=.builtin .len,args:=(y::ys).toArray,argTypes:=(t::ts).toArray}) ty w v/\NR G w E a av v:=by
  intro m hm hr
  subst hm
  exact⟨.int .i64 m,fun _ _ _ _=>by simp[execOp,resolve,invoke,builtin]at hr⊢;simp[hr],NR.mk rfl (.int _ _) rfl⟩
 unfold agm at hlt
 split at hlt<;>try(cases hlt;done)
 all_goals
  rename_i ht
  obtain rfl:=beq_iff_eq.1 hlt
  unfold BB at hv'
  split at hv'<;>rename_i hcl<;>try(cases hcl;done)
 ·rename_i ow s m cs
  refine fin m hv'.da fun w' _=>?_
  rcases VR.gq hb with⟨e0,rfl,_⟩|⟨b,o,cap,e1,_⟩
  ·obtain⟨_,_,e1⟩:=e0.ex
   simp[Builtin.len_,run_underlying ht,goInt,e1]
  ·simp[Builtin.len_,run_underlying ht,goInt,e1]
 ·rename_i b o m c
  refine fin m hv'.da fun w' _=>?_
  rcases VR.cW hb with e1|⟨rfl,_,e1⟩<;>simp[Builtin.len_,run_underlying ht,goInt,e1]
 ·exact hv'.no.elim
 ·rename_i s
  refine fin s.length hv'.da fun w' _=>?_
  have e1:=VR.gH hb
  have hsz:(ByteArray.mk s.toArray).size=s.length:=by simp[ByteArray.size]
  simp only[List.map_toArray,List.map_cons,e1]
  simp[Builtin.len_,run_underlying ht,goInt,hsz]
 ·exact hv'.no.elim
 ·refine fin 0 hv'.da fun w' _=>?_
  simp[Builtin.len_,run_underlying ht,goInt,VR.KS hb]
 ·rename_i b
  unfold Nv at hv'
  split at hv'
  ·rename_i es hs
   refine fin es.length hv'.da fun w' hw'=>?_
   subst hw'
   obtain⟨_,_,jC,clock,hh,hsz,_⟩:=h.store b _ hs
   have hg:(getObj b).run P w'=.ok (.map jC clock) w':=by simp[getObj,Sem.run,hh]
   simp[Builtin.len_,run_underlying ht,goInt,VR.Nh hb,hg,hsz]
  ·exact hv'.no.elim
 ·exact hv'.no.elim
def XD(mx:Bool)(k:IntKind)(h:Inv G n D E a w):∀(xs:List IX)(ys:List Operand),gX ys xs=true->∀(m r:Int),Ln mx m (xs.map (xg true E))=some r->
 ((ys.map a.eval).foldlM (if mx then Builtin.max2 else Builtin.min2) (.int k m)).run P w=.ok (.int k r) w:=by
 intro xs
 induction xs with
 |nil=>
  intro ys hc m r hr
  cases ys with
  |nil=>simp[Ln]at hr;subst hr;rfl
  |cons _ _=>simp[gX]at hc
 |cons x xs ih=>
  intro ys hc m r hr
  cases ys with
  |nil=>simp[gX]at hc
  |cons y ys=>
   simp[gX,Bool.and_eq_true]at hc
   have hb:=BR.aR h hc.1
   simp only[List.map_cons]at hr⊢
   generalize xg true E x=xv at hb hr
   cases xv<;>simp[Ln]at hr<;>try(cases hr)
   have e:=VR.cu hb
   grind [Sem.run_bind,Builtin.max2,max,Sem.run_pure,Builtin.min2,min]
def NQ(h:Inv G n D E a w){op:Op}{ty:TypeId}{k:Nat}{x:IX}(hc:aw P op ty (.extract x k)=true){av:AV}(hv:gO (pv (.extract x k) (xg true E) E) av):
 ∃v,runs P a op ty w v/\NR G w E a av v:=by
 cases op<;>first|(simp[aw]at hc;done)|skip
 simp[aw,Bool.and_eq_true,beq_iff_eq]at hc
 obtain⟨hy,rfl⟩:=hc
 have hb:=BR.aR h hy
 have hv':gO (qF k (xg true E x)) av:=hv
 generalize xg true E x=xv at hb hv'
 unfold qF at hv'
 split at hv'
 ·rename_i vs
  obtain⟨us,e1,hl,hr⟩:=VR.O8 hb
  cases hk:vs[k]? with
  |none=>rw[hk]at hv';exact hv'.no.elim
  |some c=>
   rw[hk]at hv'
   obtain⟨rfl,hi⟩:=Sc hv'
   have hlt:k<us.size:=A_
   have hu:=Array.getElem?_eq_getElem hlt
   exact⟨us[k],fun _ _ _ _=>by simp[execOp,e1,Instr.extract,hu],NR.mk hi (hr k c _ hk hu).view (mD _)⟩
 ·exact hv'.no.elim
end
end Go.AB
end
