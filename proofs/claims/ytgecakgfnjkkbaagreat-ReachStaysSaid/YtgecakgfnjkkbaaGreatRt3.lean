/- A part. -/
import Derived.Test.YtgecakgfnjkkbaaGreatRt2
import Derived.LaidEqlPtr
import Derived.Laws.Concat
set_option linter.defProp false
set_option linter.unusedSimpArgs false
set_option linter.unusedVariables false
section
namespace Go.AB
open Go
def gN(r:PR)(av:AV):Prop:=r=.c8 av\/∃c,r=.prt c av/\c
theorem gN.c8{a av:AV}(h:gN (.c8 a) av):av=a:=by
 rcases h with h|⟨c,h,_⟩
 ·grind
 ·cases h
def gN.prt{c:Prop}{a av:AV}(h:gN (.prt c a) av):av=a/\c:=by
 rcases h with h|⟨c',h,hc⟩
 ·cases h
 grind
theorem gN.no{av:AV}(h:gN .no av):False:=by rcases h with h|⟨c',h,hc⟩<;>cases h
theorem lL{a:AV}(h:dF a=true):dF (view a)=true:=by cases a<;>simp_all [dF,view]
theorem mJ(a:AV):view (view a)=view a:=by cases a<;>rfl
section
variable{P:Program}{G:Gh}{n:Nat}{D:List Deferred}{E:St}{a:Act}{w:World}
theorem NR.view{av:AV}{v:Value}(hi:dF av=true)(h:VR w G.R av v):NR G w E a (view av) v:=by
 have:dF (AB.view av)=true/\VR w G.R (AB.view av) v/\AB.view (AB.view av)=AB.view av:=⟨lL hi,h.view,mJ _⟩
 cases av<;>first|exact this|grind [dF]
theorem NR.mk{av:AV}{v:Value}(hi:dF av=true)(h:VR w G.R av v)(hv:AB.view av=av):NR G w E a av v:=hv▸NR.view hi h
theorem VR.gF{R:Nat->Nat}{b:Bool}{v:Value}(h:VR w R (.bool b) v):v=.bool b:=R_
theorem VR.b9{R:Nat->Nat}{k:IntKind}{m:Int}{v:Value}(h:VR w R (.int k m) v):v=.int k m:=R_
theorem VR.gm{R:Nat->Nat}{s:List UInt8}{v:Value}(h:VR w R (.str s) v):v=.string ⟨s.toArray⟩:=R_
def VR.tN{R:Nat->Nat}{v:Value}(h:VR w R .fM v):v=.pointer none:=R_
theorem VR.gG{R:Nat->Nat}{b o:Nat}{v:Value}(h:VR w R (.ref b o) v):v=.pointer (some ⟨b,o,none⟩):=R_
def VR.cK{R:Nat->Nat}{b o l c:Nat}{v:Value}(h:VR w R (.arr b o l c) v):v=.slice (some ⟨b,o,none⟩) l c\/(l=0/\c=0/\v=.slice none 0 0):=by
 cases h with
 |arr=>grind
 |Ia=>grind
def VR.pW{R:Nat->Nat}{b o l c:Nat}{v:Value}(h:VR w R (.arr b o l c) v)(hc:0<c):v=.slice (some ⟨b,o,none⟩) l c:=by
 rcases h.cK with h|⟨_,h,_⟩
 ·exact h
 ·omega
theorem VR.NG{R:Nat->Nat}{b:Nat}{v:Value}(h:VR w R (.mp b) v):v=.map (some b):=R_
theorem VR.Ld{R:Nat->Nat}{v:Value}(h:VR w R .uf v):v=.map none:=R_
def VR.yu{R:Nat->Nat}{cs:List AV}{v:Value}(h:VR w R (.agg cs) v):∃vs:Array Value,v=.agg vs/\vs.size=cs.length/\(∀(j:Nat)(c:AV)(u:Value),cs[j]? =some c->vs[j]? =some u->VR w R c u)/\Fl cs:=by cases h with|agg _ vs hf hl hr=>grind
def VR.PA{R:Nat->Nat}{cs:List AV}{v:Value}(h:VR w R (.iJ cs) v):∃vs:Array Value,v=.tuple vs/\vs.size=cs.length/\∀(j:Nat)(c:AV)(u:Value),cs[j]? =some c->vs[j]? =some u->VR w R c u:=by cases h with|iJ _ vs hl hr=>grind
def At(w:World)(R:Nat->Nat)(b off:Nat)(cs:List AV):Prop:=∃u:Nat->Value,(∀(j:Nat)(c:AV),cs[j]? =some c->w.cell? ⟨b,off+j,none⟩=some (u j))/\(∀(j:Nat)(c:AV),cs[j]? =some c->VR w R c (u j))/\Fl cs
def VR.NH{R:Nat->Nat}{cs:List AV}{v:Value}(h:VR w R (.sp cs) v):∃b off,v=.pointer (some ⟨b,off,none⟩)/\off+cs.length<=R b/\At w R b off cs:=by cases h with|sp _ b off u hf hR hc hr=>exact⟨b,off,rfl,hR,u,hc,hr,hf⟩
def xH(own:Bool)(v:Value):Prop:=v=.slice none 0 0\/(own=false/\∃a cap,v=.slice (some a) 0 cap)
def xH.own{v:Value}(h:xH true v):v=.slice none 0 0:=h.elim id fun h=>A_
def xH.ex{own:Bool}{v:Value}(h:xH own v):∃base cap,v=.slice base 0 cap:=by
 rcases h with h|⟨_,a,cap,h⟩
 ·grind
 grind
def VR.gR{R:Nat->Nat}{own:Bool}{sz m:Nat}{cs:List AV}{v:Value}(h:VR w R (.sl own sz m cs) v):
 (xH own v/\m=0/\cs=[])\/∃b off cap,v=.slice (some ⟨b,off,none⟩) m cap/\cs.length=m*sz/\off+cs.length<=R b/\m<=cap/\At w R b off cs:=by
 cases h with
 |slnil=>exact .inl ⟨.inl rfl,rfl,rfl⟩
 |sle=>exact .inl ⟨.inr ⟨rfl,_,_,rfl⟩,rfl,rfl⟩
 |sl _ _ _ _ b off cap u hf hl hR fh hc hr=>exact .inr ⟨b,off,cap,rfl,hl,hR,fh,u,hc,hr,hf⟩
def VR.IT{R:Nat->Nat}{f:Nat}{x y:List AV}{v:Value}(h:VR w R (.fn f x y) v):∃vf vc:Array Value,v=.func (.func f) vf vc/\vf.size=x.length/\(∀(j:Nat)(c:AV)(u:Value),x[j]? =some c->vf[j]? =some u->VR w R c u)/\
 vc.size=y.length/\(∀(j:Nat)(c:AV)(u:Value),y[j]? =some c->vc[j]? =some u->VR w R c u):=by
 cases h with|fn _ _ _ vf vc h1 h2 h3 h4=>grind
def runs(P:Program)(a:Act)(op:Op)(ty:TypeId)(w:World)(v:Value):Prop:=∀(d:Option Tmp)(pos:String)(after:Array Edge)(g:Option (Nat×Bool)),(execOp a.eval ⟨d,op,ty,pos,after,g⟩).run P w=.ok (.value v) w
def adt(h:Inv G n D E a w){op:Op}{ty:TypeId}{x:IX}(hc:aw P op ty (.px false x)=true){av:AV}(hv:gN (pv (.px false x) (xg true E) E) av):
 ∃v,runs P a op ty w v/\NR G w E a av v:=by
 have key:∀y,bN y x=true->NR G w E a av (a.eval y):=fun y hy=>by
  have hb:=BR.aQ h hy
  have hv':gN (Rj (xg true E x)) av:=hv
  unfold Rj at hv'
  cases hi:dF (xg true E x)with
  |false=>rw[hi]at hv';exact hv'.no.elim
  |true=>
   rw[hi]at hv'
   rw[hv'.c8]
   exact NR.view hi (hb.vr hi)
 cases op<;>first|(simp[aw]at hc;done)|skip
 ·rename_i y
  exact⟨a.eval y,fun _ _ _ _=>rfl,key y hc⟩
 ·rename_i y
  exact⟨a.eval y,fun _ _ _ _=>rfl,key y hc⟩
theorem agd{g:Bool}{x:IX}{v:Value}{p:Bool}(hg:g=true)(hx:XR G w E a x (E.x x) v)(h:TL (E.x x)=some (g,p)):v=.bool p:=by
 subst hg
 generalize E.x x=av at*
 unfold TL at h
 split at h
 ·injection h with h;injection h with _ h;subst h;cases hx;rfl
 ·injection h with h;injection h with h1 h2;subst h1;subst h2
  have:=hx rfl rfl
  cases this;rfl
 ·cases h
def TM{g:Bool}{x:IX}{v:Value}{p:Bool}(hg:g=true)(hx:XR G w E a x (E.x x) v)(h:gv2 (E.x x)=some (g,p)):v=.bool p:=by grind [agd,gv2]
def YG(h:Inv G n D E a w){op:Op}{ty:TypeId}{c x y:IX}(hc:aw P op ty (.pick c x y)=true){av:AV}(hv:gN (pv (.pick c x y) (xg true E) E) av):
 ∃v,runs P a op ty w v/\NR G w E a av v:=by
 cases op<;>first|(simp[aw]at hc;done)|skip
 simp[aw,Bool.and_eq_true]at hc
 have hbc:=BR.aQ h hc.1.1
 have hbx:=XR.aQ h hc.1.2
 have hby:=XR.aQ h hc.2
 have hv':gN (Hv (E.x x) (E.x y) (xg true E c)) av:=hv
 generalize xg true E c=cv at hbc hv'
 unfold Hv at hv'
 split at hv'
 ·rename_i b
  have hcv:=VR.gF hbc
  unfold Vl at hv'
  split at hv'
  ·rename_i g1 p g2 q hp hq
   rcases hv' with hv'|⟨c1,hv',hc1⟩
   ·cases hv'
   injection hv' with h1 h2
   subst h1 h2
   refine⟨.bool (bif b then p else q),fun _ _ _ _=>?_,NR.mk rfl (.bool _) rfl⟩
   cases b with
   |true=>
    have:=TM (hc1.1 rfl) hbx hp
    simp[execOp,hcv,asBool,this]
   |false=>
    have:=TM (hc1.2 rfl) hby hq
    simp[execOp,hcv,asBool,this]
  ·exact hv'.no.elim
 ·exact hv'.no.elim
def ahC(h:Inv G n D E a w){op:Op}{ty:TypeId}{uo:UnOp}{x:IX}(hc:aw P op ty (.un uo x)=true){av:AV}(hv:gN (pv (.un uo x) (xg true E) E) av):
 ∃v,runs P a op ty w v/\NR G w E a av v:=by
 cases op<;>first|(simp[aw]at hc;done)|skip
 simp[aw,Bool.and_eq_true,decide_eq_true_eq]at hc
 obtain⟨rfl,hy⟩:=hc
 have hb:=BR.aQ h hy
 have hv':gN (unV uo (xg true E x)) av:=hv
 generalize xg true E x=xv at hb hv'
 unfold unV at hv'
 split at hv'
 ·rename_i b
  have e:=VR.gF hb
  rw[hv'.c8]
  exact⟨.bool (!b),fun _ _ _ _=>by simp[execOp,e,Op.unary],NR.mk rfl (.bool _) rfl⟩
 ·rename_i k m
  have e:=VR.b9 hb
  rw[hv'.c8]
  exact⟨.int k (k.wrap (0 -m)),fun _ _ _ _=>by simp[execOp,e,Op.unary,Op.intArith],NR.mk rfl (.int _ _) rfl⟩
 ·exact hv'.no.elim
def Rv(h:Inv G n D E a w){op:Op}{ty:TypeId}{k:IntKind}{x:IX}(hc:aw P op ty (.nx k x)=true){av:AV}(hv:gN (pv (.nx k x) (xg true E) E) av):
 ∃v,runs P a op ty w v/\NR G w E a av v:=by
 cases op<;>first|(simp[aw]at hc;done)|skip
 simp[aw,Bool.and_eq_true]at hc
 obtain⟨hy,hc2⟩:=hc
 split at hc2
 ·rename_i k1 k2 hs ht
  have:=of_decide_eq_true hc2
  subst this
  have hb:=BR.aQ h hy
  have hv':gN (uL k (xg true E x)) av:=hv
  generalize xg true E x=xv at hb hv'
  unfold uL at hv'
  split at hv'
  ·rename_i k' m
   have e:=VR.b9 hb
   rw[hv'.c8]
   exact⟨.int k (k.wrap m),fun _ _ _ _=>by simp[execOp,e,convert,underlying,hs,ht,Conv.intToInt],NR.mk rfl (.int _ _) rfl⟩
  ·exact hv'.no.elim
 ·cases hc2
def L6(h:Inv G n D E a w){op:Op}{ty:TypeId}{x:IX}(hc:aw P op ty (.nilCheck x)=true){av:AV}(hv:gN (pv (.nilCheck x) (xg true E) E) av):
 ∃v,runs P a op ty w v/\NR G w E a av v:=by
 cases op<;>first|(simp[aw]at hc)|skip
 have hb:=BR.aQ h hc
 have hv':gN (mr (xg true E x)) av:=hv
 generalize xg true E x=xv at hb hv'
 unfold mr at hv'
 split at hv'
 ·have e:=VR.gG hb
  rw[hv'.c8]
  exact⟨_,fun _ _ _ _=>by simp[execOp,e],NR.mk rfl (.ref _ _) rfl⟩
 ·exact hv'.no.elim
def adk(h:Inv G n D E a w){op:Op}{ty:TypeId}{bo:BinOp}{x y:IX}(hc:aw P op ty (.bin bo x y)=true){av:AV}(hv:gN (pv (.bin bo x y) (xg true E) E) av):
 ∃v,runs P a op ty w v/\NR G w E a av v:=by
 cases op<;>first|(simp[aw]at hc;done)|skip
 rename_i b t u v yt
 simp only[aw,Bool.and_eq_true,decide_eq_true_eq]at hc
 obtain⟨⟨rfl,hx⟩,hy⟩:=hc
 have hbx:=BR.aQ h hx
 have hby:=BR.aQ h hy
 have hv':gN (MU bo (xg true E x) (xg true E y)) av:=hv
 generalize xg true E x=xv at hbx hv'
 generalize xg true E y=yv at hby hv'
 unfold MU at hv'
 split at hv'
 ·rename_i k p k' q
  have e1:a.eval u=.int k p:=VR.b9 hbx
  have e2:a.eval v=.int k' q:=VR.b9 hby
  have fin:∀(V:AV)(r:Value),dF V=true->AB.view V=V->VR w G.R V r->gN (kk k k' (.c8 V)) av->(k=k'->runs P a (.binOp bo t u v yt) ty w r)->∃v',runs P a (.binOp bo t u v yt) ty w v'/\NR G w E a av v':=by
   intro V r h1 h2 h3 h4 h5
   unfold kk Q9 at h4
   by_cases hk:k=k'
   ·rw[decide_eq_true hk]at h4
    rw[h4.c8]
    grind [NR.mk]
   ·rw[decide_eq_false hk]at h4;exact h4.no.elim
  cases bo
  case shl=>
   obtain⟨rfl,h0⟩:=gN.prt hv'
   exact⟨_,fun _ _ _ _=>by simp[execOp,e1,e2,eqGuard,binOp,Op.shift,Int.not_lt.2 h0,ke],NR.mk rfl (.int _ _) rfl⟩
  case shr=>
   obtain⟨rfl,h0⟩:=gN.prt hv'
   exact⟨_,fun _ _ _ _=>by simp[execOp,e1,e2,eqGuard,binOp,Op.shift,Int.not_lt.2 h0],NR.mk rfl (.int _ _) rfl⟩
  case quo=>
   have lK:gN (kk k k' (.prt (q≠0) (.int k (ke k (p.tdiv q))))) av:=hv'
   unfold kk Q9 at lK
   by_cases hk:k=k'
   ·rw[decide_eq_true hk]at lK
    obtain⟨rfl,h0⟩:=gN.prt lK
    subst hk
    exact⟨_,fun _ _ _ _=>by simp[execOp,e1,e2,eqGuard,binOp,Op.intDiv,h0,ke],NR.mk rfl (.int _ _) rfl⟩
   ·rw[decide_eq_false hk]at lK;exact lK.no.elim
  case rem=>
   have lK:gN (kk k k' (.prt (q≠0) (.int k (p.tmod q)))) av:=hv'
   unfold kk Q9 at lK
   by_cases hk:k=k'
   ·rw[decide_eq_true hk]at lK
    obtain⟨rfl,h0⟩:=gN.prt lK
    subst hk
    exact⟨_,fun _ _ _ _=>by simp[execOp,e1,e2,eqGuard,binOp,Op.intDiv,h0],NR.mk rfl (.int _ _) rfl⟩
   ·rw[decide_eq_false hk]at lK;exact lK.no.elim
  case add=>exact fin _ _ rfl rfl (.int _ _) hv' fun hk _ _ _ _=>Xb9
  case sub=>exact fin _ _ rfl rfl (.int _ _) hv' fun hk _ _ _ _=>Xb9
  case mul=>exact fin _ _ rfl rfl (.int _ _) hv' fun hk _ _ _ _=>Xb9
  case and=>exact fin _ _ rfl rfl (.int _ _) hv' fun hk _ _ _ _=>Φ
  case or=>exact fin _ _ rfl rfl (.int _ _) hv' fun hk _ _ _ _=>Φ
  case xor=>exact fin _ _ rfl rfl (.int _ _) hv' fun hk _ _ _ _=>Φ
  case andNot=>exact fin _ _ rfl rfl (.int _ _) hv' fun hk _ _ _ _=>Φ
  case eql=>exact fin _ _ rfl rfl (.bool _) hv' fun hk _ _ _ _=>aT
  case neq=>exact fin _ _ rfl rfl (.bool _) hv' fun hk _ _ _ _=>aT
  case lss=>exact fin _ _ rfl rfl (.bool _) hv' fun hk _ _ _ _=>aT
  case leq=>exact fin _ _ rfl rfl (.bool _) hv' fun hk _ _ _ _=>aT
  case gtr=>exact fin _ _ rfl rfl (.bool _) hv' fun hk _ _ _ _=>aT
  case geq=>exact fin _ _ rfl rfl (.bool _) hv' fun hk _ _ _ _=>aT
 ·rename_i p q
  have e1:a.eval u=.string ⟨p.toArray⟩:=VR.gm hbx
  have e2:a.eval v=.string ⟨q.toArray⟩:=VR.gm hby
  have tl:∀l:List UInt8,(ByteArray.mk l.toArray).toList=l:=fun l=>H_
  cases bo<;>first|exact(gN.no hv').elim|skip
  case add=>
   obtain⟨rfl,h0⟩:=gN.prt hv'
   have h0':p.length+q.length<=9223372036854775807:=by
    have:((p.length+q.length:Nat):Int)<=9223372036854775807:=h0
    omega
   refine⟨.string ⟨(p++q).toArray⟩,fun _ _ _ _=>?_,NR.mk rfl (.str _) rfl⟩
   have hr:=run_string_add_sum (P:=P) w ⟨p.toArray⟩ ⟨q.toArray⟩ (by grind [ByteArray.size])
   rw[ByteArray.mk_append_mk]at hr
   simp[execOp,e1,e2,eqGuard,binOp,hr]
  all_goals
   rw[gN.c8 hv']
   exact⟨.bool _,fun _ _ _ _=>by simp[execOp,e1,e2,eqGuard,binOp,Op.stringOp,tl],NR.mk rfl (.bool _) rfl⟩
 ·exact hv'.no.elim
def adn(h:Inv G n D E a w){op:Op}{ty:TypeId}{ne:Bool}{x y:IX}(hc:aw P op ty (.eqB ne x y)=true){av:AV}(hv:gN (pv (.eqB ne x y) (xg true E) E) av):
 ∃v,runs P a op ty w v/\NR G w E a av v:=by
 cases op<;>first|(simp[aw]at hc;done)|skip
 rename_i b t u v yt
 simp[aw,Bool.and_eq_true,decide_eq_true_eq]at hc
 obtain⟨⟨⟨rfl,hx⟩,hy⟩,ht⟩:=hc
 have hbx:=BR.aQ h hx
 have hby:=BR.aQ h hy
 have hv':gN (Np ne (xg true E x) (xg true E y)) av:=hv
 generalize xg true E x=xv at hbx hv'
 generalize xg true E y=yv at hby hv'
 have htb:P.underlying t=some .bool:=by
  unfold ZV at ht
  split at ht
  ·assumption
  ·cases ht
 unfold Np at hv'
 split at hv'
 ·rename_i p q
  have e1:=VR.gF hbx
  have e2:=VR.gF hby
  rw[hv'.c8]
  refine⟨.bool ((p==q)!=ne),fun _ _ _ _=>?_,NR.mk rfl (.bool _) rfl⟩
  cases ne<;>simp[execOp,e1,e2,eqGuard,binOp,run_equal_bool w t p q htb]
 ·exact hv'.no.elim
def Ap{w:World}(d:Nat){t e:TypeId}(hte:P.underlying t=some (.pointer e))(p q:Option Addr)(hpq:p=none\/q=none):
 (Op.equalIn (d+1) t (.pointer p) (.pointer q)).run P w=.ok (p.isNone&&q.isNone) w:=by
 rcases hpq with rfl|rfl
 ·simp[Op.equalIn,run_underlying hte]
 ·cases p<;>simp[Op.equalIn,run_underlying hte]
def qc{w:World}(d:Nat){t e:TypeId}(hte:P.underlying t=some (.slice e))(b:Addr)(l c:Nat):
 (Op.equalIn (d+1) t (.slice (some b) l c) (.slice none 0 0)).run P w=.ok false w:=by
 simp[Op.equalIn,run_underlying hte]
def adq(h:Inv G n D E a w){op:Op}{ty:TypeId}{ne:Bool}{x y:IX}(hc:aw P op ty (.WB ne x y)=true){av:AV}(hv:gN (pv (.WB ne x y) (xg true E) E) av):
 ∃v,runs P a op ty w v/\NR G w E a av v:=by
 cases op<;>first|(simp[aw]at hc;done)|skip
 rename_i b t u v yt
 simp only[aw,Bool.and_eq_true,decide_eq_true_eq]at hc
 obtain⟨⟨⟨rfl,hx⟩,hy⟩,ht⟩:=hc
 have hbx:=BR.aQ h hx
 have hby:=BR.aQ h hy
 have hv':gN (Fa ne (xg true E x) (xg true E y)) av:=hv
 generalize xg true E x=xv at hbx hv'
 generalize xg true E y=yv at hby hv'
 have htb:∃e j,P.underlying t=some (.pointer e)/\P.info? e=some j:=by
  unfold ahz at ht
  split at ht
  ·grind [Option.isSome_iff_exists]
  ·cases ht
 obtain⟨e,je,hte,hje⟩:=htb
 have eqn:∀p q:Option Addr,(p=none\/q=none)->(Op.equal t (.pointer p) (.pointer q)).run P w=.ok (p.isNone&&q.isNone) w:=by exact fun p q hpq=>Ap 9999 hte p q hpq
 have fin:∀p q:Option Addr,a.eval u=.pointer p->a.eval v=.pointer q->(p=none\/q=none)->runs P a (.binOp (if ne=true then .neq else .eql) t u v yt) ty w (.bool ((p.isNone&&q.isNone)!=ne)):=by
  intro p q e1 e2 hpq _ _ _ _
  cases ne<;>simp[execOp,e1,e2,eqGuard,binOp,eqn p q hpq]
 unfold Fa at hv'
 split at hv'
 ·rw[hv'.c8]
  refine⟨_,fin _ _ (VR.tN hbx) (VR.tN hby) (.inl rfl),NR.mk rfl ?_ rfl⟩
  cases ne<;>exact .bool _
 ·rw[hv'.c8]
  refine⟨_,fin _ _ (VR.gG hbx) (VR.tN hby) (.inr rfl),NR.mk rfl ?_ rfl⟩
  cases ne<;>exact .bool _
 ·rw[hv'.c8]
  refine⟨_,fin _ _ (VR.tN hbx) (VR.gG hby) (.inl rfl),NR.mk rfl ?_ rfl⟩
  cases ne<;>exact .bool _
 ·rename_i b o b' o'
  by_cases hbo:b=b'/\o=o'
  ·obtain⟨rfl,rfl⟩:=hbo
   simp only[beq_self_eq_true,Bool.and_self,cond_true]at hv'
   rw[hv'.c8]
   have e1:=VR.gG hbx
   have e2:=VR.gG hby
   have hq:(Op.equal t (.pointer (some ⟨b,o,none⟩)) (.pointer (some ⟨b,o,none⟩))).run P w=.ok true w:=by
    have hd:∀d:Nat,(Op.equalIn (d+1) t (.pointer (some ⟨b,o,none⟩)) (.pointer (some ⟨b,o,none⟩))).run P w=.ok true w:=fun d=>by simp[Op.equalIn,run_underlying hte,sizeOf,typeInfo,hje,run_sameAddr_same]
    exact hd 9999
   refine⟨.bool (!ne),fun _ _ _ _=>?_,NR.mk rfl (.bool _) rfl⟩
   cases ne<;>simp[execOp,e1,e2,eqGuard,binOp,hq]
  ·have:(b==b'&&o==o')=false:=by
    cases hh:(b==b'&&o==o')with
    |false=>rfl
    |true=>grind
   rw[this]at hv'
   exact hv'.no.elim
 ·exact hv'.no.elim
def adr(h:Inv G n D E a w){op:Op}{ty:TypeId}{ne:Bool}{x y:IX}(hc:aw P op ty (.WC ne x y)=true){av:AV}(hv:gN (pv (.WC ne x y) (xg true E) E) av):
 ∃v,runs P a op ty w v/\NR G w E a av v:=by
 cases op<;>first|(simp[aw]at hc;done)|skip
 rename_i b t u v yt
 simp only[aw,Bool.and_eq_true,decide_eq_true_eq]at hc
 obtain⟨⟨⟨rfl,hx⟩,hy⟩,ht⟩:=hc
 have hbx:=BR.aQ h hx
 obtain⟨e,hte⟩:∃e,P.underlying t=some (.slice e):=by grind [cV]
 have fin:∀(d:Addr)(l c:Nat),a.eval u=.slice (some d) l c->a.eval v=.slice none 0 0->runs P a (.binOp (if ne=true then .neq else .eql) t u v yt) ty w (.bool ne):=by
  intro d l c e1 e2 _ _ _ _
  have:(Op.equal t (.slice (some d) l c) (.slice none 0 0)).run P w=.ok false w:=qc 9999 hte d l c
  cases ne<;>simp[execOp,e1,e2,eqGuard,binOp,this]
 cases y with
 |t i=>exact(gN.no hv).elim
 |c yv=>
  by_cases hyv:∃z,yv=.sl true z 0 []
  ·obtain⟨z,rfl⟩:=hyv
   have e2:a.eval v=.slice none 0 0:=by
    unfold bN at hy
    cases v<;>simp at hy
    rename_i c
    show c=_
    unfold cR at hy
    split at hy<;>simp_all
   have hv':gN (Tv ne (xg true E x) (.sl true z 0 [])) av:=hv
   generalize xg true E x=xv at hbx hv'
   unfold Tv at hv'
   split at hv'
   ·rename_i o z' m cs _ _ _
    rw[hv'.c8]
    rcases VR.gR hbx with⟨_,h0,_⟩|⟨b,off,cap,e1,_⟩
    ·cases h0
    ·exact⟨_,fin _ _ _ e1 e2,NR.mk rfl (.bool _) rfl⟩
   ·rw[hv'.c8]
    exact⟨_,fin _ _ _ (VR.pW hbx (Nat.succ_pos _)) e2,NR.mk rfl (.bool _) rfl⟩
   ·exact hv'.no.elim
  ·have:pv (.WC ne x (.c yv)) (xg true E) E=.no:=by
    unfold pv
    split<;>first|rfl|grind|grind
   rw[this]at hv
   exact hv.no.elim
end
theorem add_eq(b off i:Nat):(⟨b,off,none⟩:Addr).add i=⟨b,off+i,none⟩:=by grind [Addr.add]
theorem cell_of_row(w:World){b:Nat}{c:Array Value}{t:TypeId}{fr:Nat×Nat}(hg:w.heap[b]? =some (.cells c t fr))(j:Nat):w.cell? ⟨b,j,none⟩=c[j]? :=by grind [World.cell?]
theorem Cm(cs:List AV)(off n j:Nat):(sub cs off n)[j]? =if j<n then cs[off+j]? else none:=by grind [sub]
theorem fx(cs:List AV)(j:Nat):(views cs)[j]? =(cs[j]?).map view:=bY
section
variable{P:Program}{G:Gh}{n:Nat}{D:List Deferred}{E:St}{a:Act}{w:World}
theorem At.views{R:Nat->Nat}{b off:Nat}{cs:List AV}(h:At w R b off cs):At w R b off (views cs):=by
 obtain⟨u,h1,h2,hf⟩:=h
 refine⟨u,fun j c hj=>?_,fun j c hj=>?_,hf.views⟩<;>rw[fx]at hj<;>cases hc:cs[j]? <;>rw[hc]at hj<;>simp at hj
 ·grind
 ·rw[<-hj];exact(h2 j _ hc).view
theorem At.sub{R:Nat->Nat}{b off:Nat}{cs:List AV}(h:At w R b off cs)(o n:Nat):At w R b (off+o) (sub cs o n):=by
 obtain⟨u,h1,h2,hf⟩:=h
 refine⟨fun j=>u (o+j),fun j c hj=>?_,fun j c hj=>?_,hf.sub o n⟩<;>rw[Cm]at hj<;>try(done)
 ·grind
 grind
def At.LQ{b:Nat}{cs:List AV}{c:Array Value}{t:TypeId}{fr:Nat×Nat}{o:Nat->dh}(hh:w.heap[b]? =some (.cells c t fr))(hc:dY G w o cs c)(hf:Fl cs):At w G.R b 0 cs:=by
 refine⟨fun j=>c.getD j undef,fun j x hj=>?_,fun j x hj=>?_,hf⟩
 all_goals
  have hlt:j<c.size:=by rw[hc.1];exact(List.getElem?_eq_some_iff.1 hj).1
  have hcj:c[j]? =some (c.getD j undef):=H_
 ·rw[Nat.zero_add,cell_of_row w hh,hcj]
 ·exact(hc.2 j x _ hj hcj).1
theorem HR(cs:List AV)(off n:Nat):AB.sub (AB.views cs) off n=AB.views (AB.sub cs off n):=by simp[AB.sub,AB.views,List.map_drop]
def At.Hp{b:Nat}{cs:List AV}{c:Array Value}{t t':TypeId}{fr:Nat×Nat}{o:Nat->dh}(hh:w.heap[b]? =some (.cells c t fr))(hc:dY G w o cs c)(hf:Gk t' cs):At w G.R b 0 (AB.views cs):=by
 refine⟨fun j=>c.getD j undef,fun j x hj=>?_,fun j x hj=>?_,hf.views⟩
 all_goals
  have hlt:j<c.size:=by rw[hc.1];have:=(List.getElem?_eq_some_iff.1 hj).1;simpa[AB.views]using this
  have hcj:c[j]? =some (c.getD j undef):=H_
 ·rw[Nat.zero_add,cell_of_row w hh,hcj]
 ·have Q2:j<cs.length:=by rw[<-hc.1];exact hlt
  have hx:=by
   simp only[AB.views,List.getElem?_map,List.getElem?_eq_getElem Q2]at hj
   injection hj
  rw[<-hx]
  exact(hc.2 j cs[j] _ (List.getElem?_eq_getElem Q2) hcj).1.view
def sn{n off:Nat}{cs ds:List AV}(h:fN n off cs=some ds):off+n<=cs.length/\ds=views (sub cs off n):=by grind [fN,decide_eq_true,decide_eq_false]
theorem kM{cs:List AV}{off n:Nat}(h:off+n<=cs.length):(AB.sub cs off n).length=n:=by grind [AB.sub]
def DV(h:Inv G n D E a w){x:IX}{p:AV}{v:Value}(hb:BR G w E a x p v){m:Nat}{cs:List AV}(hr:rd E p m=some cs):
 ∃b off,v=.pointer (some ⟨b,off,none⟩)/\cs.length=m/\At w G.R b off cs/\views cs=cs:=by
 have vv:∀l:List AV,views (views l)=views l:=fun l=>by simp[views,mJ]
 unfold rd at hr
 split at hr
 ·rename_i ds
  obtain⟨hl,rfl⟩:=sn hr
  obtain⟨i,b,c,t,_,_,_,hv,_,_,hh,hc,hfl⟩:=hb
  have hat:=((At.LQ hh hc hfl).sub 0 m).views
  grind [AB.views,kM]
 ·rename_i d off
  unfold l9 at hr
  split at hr
  ·rename_i ds hd
   obtain⟨hl,rfl⟩:=sn hr
   obtain⟨b,hv,ht⟩:=hb
   have ht:=ht ds hd
   have hs:=h.cH d _ ht
   rw[hd]at hs
   obtain⟨b',c,t,h1,h2,h3,h4,h5,h6⟩:=hs
   injection h1 with h1;injection h1 with h1;injection h1 with h1 _ _
   subst h1
   have hat:=((At.LQ h4 h5 h6).sub off m).views
   grind [AB.views,kM]
  ·cases hr
 ·rename_i ds
  obtain⟨hl,rfl⟩:=sn hr
  obtain⟨b,off,hv,hR,hat⟩:=VR.NH hb
  have hat:=(hat.sub 0 m).views
  grind [AB.views,kM]
 ·rename_i b off
  unfold rk at hr
  split at hr
  ·rename_i ds hs
   obtain⟨hl,rfl⟩:=sn hr
   have hv:=VR.gG hb
   obtain⟨h1,h2,c,t,h3,h4,h5⟩:=h.store b _ hs
   have hat:=(At.Hp h3 h4 h5).sub off m
   rw[Nat.zero_add,HR]at hat
   grind [AB.views,kM]
  ·cases hr
 ·cases hr
theorem lx{t:TypeId}{m:Nat}(h:df P t m=true):∃i,P.info? t=some i/\i.size=m:=by grind [df]
theorem run_sizeOf{t:TypeId}{m:Nat}(h:df P t m=true)(w:World):(sizeOf t).run P w=.ok m w:=by
 obtain⟨i,h1,h2⟩:=lx h
 simp[sizeOf,typeInfo,h1,h2]
theorem va{t:TypeId}{multi:Bool}(h:qG P t multi=true)(w:World):(isAgg t).run P w=.ok multi w:=by
 unfold qG at h
 split at h
 ·rename_i hh;subst h;simp[isAgg,underlying,hh]
 ·rename_i hh;subst h;simp[isAgg,underlying,hh]
 ·rename_i d h1 h2 hh
  have hm:=J_
  subst hm
  simp[isAgg,underlying,run_program,Sem.run_bind,Result.andThen_ok,hh,Sem.run_pure]
 ·cases h
theorem At.lV{R:Nat->Nat}{b off:Nat}{cs:List AV}(h:At w R b off cs):∃us:List Value,us.length=cs.length/\(∀(j:Nat)(v:Value),us[j]? =some v->w.cell? ((⟨b,off,none⟩:Addr).add j)=some v)/\
 (∀(j:Nat)(c:AV)(v:Value),cs[j]? =some c->us[j]? =some v->VR w R c v):=by
 obtain⟨u,h1,h2,_⟩:=h
 have key:∀j v,((List.range cs.length).map u)[j]? =some v->∃hj:j<cs.length,v=u j:=A_
 refine⟨(List.range cs.length).map u,BY,fun j v hj=>?_,fun j c v hc hj=>?_⟩
 ·obtain⟨hlt,rfl⟩:=key j v hj
  rw[add_eq]
  simp_all
 grind
def qu{R:Nat->Nat}{t:TypeId}{m:Nat}{multi:Bool}(hs:df P t m=true)(hm:qG P t multi=true)(h1:(multi||m==1)=true){b off:Nat}{cs:List AV}(hl:cs.length=m)(hat:At w R b off cs):
 ∃v,(loadVar t ⟨b,off,none⟩).run P w=.ok v w/\VR w R (oM multi cs) v:=by
 have hfl:Fl cs:=l7
 obtain⟨us,hul,hc,hv⟩:=hat.lV
 cases multi with
 |true=>
  have:=run_loadCells_list (P:=P) w ⟨b,off,none⟩ us hc
  rw[hul,hl]at this
  refine⟨.agg us.toArray,by simp[loadVar,va hm,run_sizeOf hs,this],?_⟩
  exact .agg cs us.toArray hfl A_ fun j c v hcj hvj=>hv j c v hcj A_
 |false=>
  have hm1:m=1:=A_
  subst hm1
  match cs,hl with
  |[c],_=>
   match us,hul with
   |[u],_=>
    have h0:=hc 0 u rfl
    refine⟨u,by simp[loadVar,va hm,show(w.cell? ⟨b,off,none⟩)=some u from h0],hv 0 c u rfl rfl⟩
def SU{a av:AV}(h:gN (Z8 a) av):av=a/\dF a=true:=by
 unfold Z8 at h
 cases hi:dF a with
 |true=>rw[hi]at h;exact⟨h.c8,rfl⟩
 |false=>rw[hi]at h;exact h.no.elim
def EJ{multi:Bool}{cs:List AV}(hv:views cs=cs):AB.view (oM multi cs)=oM multi cs:=by
 cases multi with
 |true=>rfl
 |false=>cases cs with
  |nil=>rfl
  |cons c l=>simp[views,List.map_cons,List.cons.injEq]at hv;exact hv.1
def Jo(h:Inv G n D E a w){op:Op}{ty:TypeId}{m:Nat}{multi:Bool}{x:IX}(hc:aw P op ty (.load m multi x)=true){av:AV}(hv:gN (pv (.load m multi x) (xg true E) E) av):
 ∃v,runs P a op ty w v/\NR G w E a av v:=by
 cases op<;>first|(simp[aw]at hc;done)|skip
 rename_i t y
 simp only[aw,Bool.and_eq_true]at hc
 obtain⟨⟨⟨hs,hm⟩,h1⟩,hy⟩:=hc
 have hb:=BR.aQ h hy
 have hv':gN (j9 multi (rd E (xg true E x) m)) av:=hv
 cases hr:rd E (xg true E x) m with
 |none=>rw[hr]at hv';exact hv'.no.elim
 |some cs=>
  rw[hr]at hv'
  obtain⟨rfl,hi⟩:=SU hv'
  obtain⟨b,off,e,hl,hat,hvw⟩:=DV h hb hr
  obtain⟨v,bU,hvr⟩:=qu hs hm h1 hl hat
  exact⟨v,fun _ _ _ _=>by simp[execOp,e,Instr.loadAt,Instr.sureAddr,bU],NR.mk hi hvr (EJ hvw)⟩
theorem zc{t:TypeId}(h:OD P t=true):P.underlying t=some .string:=by grind [OD]
def RA(h:Inv G n D E a w){op:Op}{ty:TypeId}{x i:IX}(hc:aw P op ty (.lU x i)=true){av:AV}(hv:gN (pv (.lU x i) (xg true E) E) av):
 ∃v,runs P a op ty w v/\NR G w E a av v:=by
 cases op<;>first|(simp[aw]at hc;done)|skip
 rename_i t y j
 simp only[aw,Bool.and_eq_true]at hc
 obtain⟨⟨hy,hj⟩,ht⟩:=hc
 have ht:=zc ht
 have hb:=BR.aQ h hy
 have hbi:=BR.aQ h hj
 have hv':gN (vd (xg true E x) (xg true E i)) av:=hv
 generalize xg true E x=xv at hb hv'
 generalize xg true E i=iv at hbi hv'
 unfold vd at hv'
 split at hv'
 ·rename_i s k q
  obtain⟨rfl,h0,hlt⟩:=hv'.prt
  have e1:a.eval y=.string ⟨s.toArray⟩:=VR.gm hb
  have e2:a.eval j=.int k q:=VR.b9 hbi
  have hq:q.toNat<s.length:=AT
  have hg:(ByteArray.mk s.toArray)[q.toNat]? =some (s.getD q.toNat 0):=by
   have hsz:q.toNat<(ByteArray.mk s.toArray).size:=by simpa[ByteArray.size]using hq
   rw[getElem?_pos (ByteArray.mk s.toArray) q.toNat hsz]
   have:(ByteArray.mk s.toArray)[q.toNat]=s.toArray[q.toNat]' A_:=rfl
   rw[this]
   simp[List.getD_eq_getElem?_getD,List.getElem?_eq_getElem hq]
  refine⟨.int .u8 (s.getD q.toNat 0).toNat,fun _ _ _ _=>by simp[execOp,e1,e2,Instr.index,underlying,ht,asIntOf,h0,hg],NR.mk rfl (.int _ _) rfl⟩
 ·exact hv'.no.elim
theorem de{t e:TypeId}(h:cV P t=some e):P.underlying t=some (.slice e):=by grind [cV]
def Jm(h:Inv G n D E a w){op:Op}{ty:TypeId}{off:Nat}{x:IX}(hc:aw P op ty (.fieldAddr off x)=true){av:AV}(hv:gN (pv (.fieldAddr off x) (xg true E) E) av):
 ∃v,runs P a op ty w v/\NR G w E a av v:=by
 cases op<;>first|(simp[aw]at hc;done)|skip
 rename_i t y i
 simp only[aw,Bool.and_eq_true]at hc
 obtain⟨hy,hc⟩:=hc
 split at hc<;>try(cases hc;done)
 rename_i fs ht
 split at hc<;>try(cases hc;done)
 rename_i f hf
 simp only[Bool.and_eq_true,beq_iff_eq]at hc
 obtain⟨rfl,hsz⟩:=hc
 split at hsz<;>try(cases hsz;done)
 rename_i ti hti
 have jW:ti.size≠0:=by have:=of_decide_eq_true hsz;omega
 have hb:=BR.aQ h hy
 have bU:∀b o,a.eval y=.pointer (some ⟨b,o,none⟩)->runs P a (.fieldAddr t y i) ty w (.pointer (some ⟨b,o+f.offset,none⟩)):=by
  intro b o e _ _ _ _
  simp[execOp,e,Instr.fieldAt,underlying,ht,hf,Instr.sureAddr,fieldPlace,sizeOf,typeInfo,hti,jW,add_eq]
 have hv':gN (gP f.offset x (xg true E x)) av:=hv
 generalize hxv:xg true E x=xv at hb hv'
 unfold gP at hv'
 split at hv'
 ·rename_i d o
  rw[hv'.c8]
  obtain⟨b,h1,h2⟩:=hb
  exact⟨_,bU b o h1,b,rfl,h2⟩
 ·rename_i cs
  by_cases dE:f.offset<=cs.length
  ·rw[decide_eq_true dE]at hv'
   rw[hv'.c8]
   obtain⟨b,o,e,hR,u,h1,h2,hfl⟩:=VR.NH hb
   refine⟨_,bU b o e,NR.mk rfl (.sp _ b (o+f.offset) (fun j=>u (f.offset+j)) (hfl.drop _) C_ (fun j c hj=>?_) (fun j c hj=>?_)) rfl⟩
   ·grind
   grind
  ·rw[decide_eq_false dE]at hv';exact hv'.no.elim
 ·rename_i b o
  rw[hv'.c8]
  exact⟨_,bU b o (VR.gG hb),NR.mk rfl (.ref _ _) rfl⟩
 ·rename_i cs
  unfold Re at hv'
  split at hv'
  ·rename_i j
   obtain⟨rfl,_⟩:=hv'.prt
   obtain⟨i',b,c,t',e1,hl,htm,hvv,_⟩:=hb
   injection e1 with e1
   subst e1
   exact⟨_,bU b 0 hvv,b,A_,fun _ _=>by rw[htm,hvv]⟩
  ·exact hv'.no.elim
 ·exact hv'.no.elim
end
section
variable{P:Program}{G:Gh}{n:Nat}{D:List Deferred}{E:St}{a:Act}{w:World}
def TB{k:Int}{m sz len:Nat}(h0:0<=k)(h1:k<m)(hl:len=m*sz):k.toNat*sz+sz<=len:=by
 have:k.toNat+1<=m:=AT
 calc k.toNat*sz+sz=(k.toNat+1)*sz:=by grind
  _<=m*sz:=Nat.mul_le_mul_right _ this
  _=len:=hl.symm
def Jn(h:Inv G n D E a w){op:Op}{ty:TypeId}{z:List AV}{x i:IX}(hc:aw P op ty (.indexAddr z x i)=true){av:AV}(hv:gN (pv (.indexAddr z x i) (xg true E) E) av):
 ∃v,runs P a op ty w v/\NR G w E a av v:=by
 cases op<;>first|(simp[aw]at hc;done)|skip
 rename_i t y j
 simp only[aw,Bool.and_eq_true]at hc
 obtain⟨⟨hy,hj⟩,hc⟩:=hc
 split at hc<;>try(cases hc;done)
 rename_i e ht
 have ht:=de ht
 have hb:=BR.aQ h hy
 have hbi:=BR.aQ h hj
 have hv':gN (kU z (xg true E x) (xg true E i)) av:=hv
 generalize xg true E x=xv at hb hv'
 generalize xg true E i=iv at hbi hv'
 have bU:∀b o l c k q,a.eval y=.slice (some ⟨b,o,none⟩) l c->a.eval j=.int k q->0<=q->q<l->runs P a (.indexAddr t y j) ty w (.pointer (some ⟨b,o+q.toNat*z.length,none⟩)):=by
  intro b o l c k q e1 e2 h0 h1 _ _ _ _
  simp[execOp,e1,e2,Instr.indexAt,asIntOf,run_underlying ht,h0,h1,run_sizeOf hc,add_eq]
 unfold kU at hv'
 split at hv'
 ·rename_i ow s m cs k q
  cases hs:s==z.length with
  |false=>rw[hs]at hv';exact hv'.no.elim
  |true=>
   rw[hs]at hv'
   have hs:=beq_iff_eq.1 hs
   obtain⟨rfl,h0,h1⟩:=hv'.prt
   have e2:a.eval j=.int k q:=VR.b9 hbi
   rcases VR.gR hb with⟨_,rfl,_⟩|⟨b,o,cap,e1,hl,hR,fh,hat⟩
   ·grind
   ·rw[hs]at hl
    have dE:=TB h0 h1 hl
    have hlen:(views (AB.sub cs (q.toNat*z.length) z.length)).length=z.length:=by simp only[AB.views,List.length_map,kM dE]
    have acg:pad z (views (AB.sub cs (q.toNat*z.length) z.length))=views (AB.sub cs (q.toNat*z.length) z.length):=by
     unfold pad
     rw[hlen,beq_self_eq_true];rfl
    have akb:=(hat.sub (q.toNat*z.length) z.length).views
    obtain⟨u,u1,u2,u3⟩:=akb
    rw[acg]
    refine⟨_,bU b o m cap k q e1 e2 h0 h1,NR.mk rfl (.sp _ b (o+q.toNat*z.length) u u3 ?_ u1 u2) rfl⟩
    grind
 ·rename_i b o m c k q
  obtain⟨rfl,h0,h1⟩:=hv'.prt
  rcases VR.cK hb with e0|⟨h2,_,_⟩
  ·exact⟨_,bU b o m c k q e0 (VR.b9 hbi) h0 h1,NR.mk rfl (.ref _ _) rfl⟩
  ·omega
 ·exact hv'.no.elim
def Fy(h:Inv G n D E a w){op:Op}{ty:TypeId}{sz len:Nat}{x i:IX}(hc:aw P op ty (.jz sz len x i)=true){av:AV}(hv:gN (pv (.jz sz len x i) (xg true E) E) av):
 ∃v,runs P a op ty w v/\NR G w E a av v:=by
 cases op<;>first|(simp[aw]at hc;done)|skip
 rename_i t y j
 simp only[aw,Bool.and_eq_true]at hc
 obtain⟨⟨hy,hj⟩,hc⟩:=hc
 split at hc<;>try(cases hc;done)
 rename_i l e ht
 simp only[Bool.and_eq_true,beq_iff_eq]at hc
 obtain⟨rfl,hs⟩:=hc
 have hb:=BR.aQ h hy
 have hbi:=BR.aQ h hj
 have hv':gN (gy sz l x (xg true E x) (xg true E i)) av:=hv
 generalize hxv:xg true E x=xv at hb hv'
 generalize xg true E i=iv at hbi hv'
 have bU:∀b o k q,a.eval y=.pointer (some ⟨b,o,none⟩)->a.eval j=.int k q->0<=q->q<l->runs P a (.indexAddr t y j) ty w (.pointer (some ⟨b,o+q.toNat*sz,none⟩)):=by
  intro b o k q e1 e2 h0 h1 _ _ _ _
  simp[execOp,e1,e2,Instr.indexAt,asIntOf,run_underlying ht,Instr.sureAddr,h0,h1,run_sizeOf hs,add_eq]
 unfold gy at hv'
 split at hv'
 ·rename_i d o k q
  obtain⟨rfl,h0,h1⟩:=hv'.prt
  obtain⟨b,e1,h2⟩:=hb
  exact⟨_,bU b o k q e1 (VR.b9 hbi) h0 h1,b,rfl,h2⟩
 ·rename_i cs k q
  by_cases dE:l*sz<=cs.length
  ·rw[decide_eq_true dE]at hv'
   obtain⟨rfl,h0,h1⟩:=hv'.prt
   obtain⟨b,o,e,hR,u,u1,u2,u3⟩:=VR.NH hb
   have hf:=TB (sz:=sz) h0 h1 rfl
   refine⟨_,bU b o k q e (VR.b9 hbi) h0 h1,NR.mk rfl (.sp _ b (o+q.toNat*sz) (fun j=>u (q.toNat*sz+j)) (u3.drop _) C_ (fun j c hj=>?_) (fun j c hj=>?_)) rfl⟩
   ·grind
   grind
  ·rw[decide_eq_false dE]at hv';exact hv'.no.elim
 ·rename_i b o k q
  obtain⟨rfl,h0,h1⟩:=hv'.prt
  exact⟨_,bU b o k q (VR.gG hb) (VR.b9 hbi) h0 h1,NR.mk rfl (.ref _ _) rfl⟩
 ·rename_i cs k q
  unfold Re at hv'
  split at hv'
  ·rename_i j'
   obtain⟨rfl,h0,h1⟩:=hv'.prt
   obtain⟨i',b,c,t',e1,hl,htm,hvv,_⟩:=hb
   injection e1 with e1
   subst e1
   exact⟨_,bU b 0 k q hvv (VR.b9 hbi) h0 h1,b,A_,fun _ _=>by rw[htm,hvv]⟩
  ·exact hv'.no.elim
 ·exact hv'.no.elim
def j5{lo:Option Operand}{li:Option IX}(h:Inv G n D E a w)(hc:E5 lo li=true){d l:Int}(hl:G7 (xg true E) li d=some l):
 (lo=none/\l=d)\/(∃k o,lo=some o/\a.eval o=.int k l):=by
 unfold E5 at hc
 split at hc
 ·injection hl with hl;grind
 ·rename_i o x
  have hb:=BR.aQ h hc
  unfold G7 at hl
  simp at hl
  split at hl
  ·rename_i k q hq
   injection hl with hl;subst hl
   rw[hq]at hb
   exact .inr ⟨k,o,rfl,VR.b9 hb⟩
  ·cases hl
 ·cases hc
def jk(Fi:Bool)(len cap:Nat){lo hi:Option Value}{l hh:Int}(hlo:(lo=none/\l=0)\/∃k,lo=some (.int k l))(hhi:(hi=none/\hh=len)\/∃k,hi=some (.int k hh))
 (h0:0<=l)(h1:l<=hh)(h2:hh<=cap):(Instr.sliceBounds Fi len cap lo hi none).run P w=.ok (l.toNat,hh.toNat,cap) w:=by
 have hb:∀k(q:Int)(y:Nat) c,0<=q->q<=y->(Instr.sliceBound (.int k q) y c).run P w=.ok q.toNat w:=by
  intro k q y c hq hy
  simp[Instr.sliceBound,asIntOf,hq,hy]
 rcases hhi with⟨rfl,rfl⟩|⟨k,rfl⟩
 ·rcases hlo with⟨rfl,rfl⟩|⟨k',rfl⟩
  ·simp[Instr.sliceBounds]
  ·simp[Instr.sliceBounds,hb k' l len _ h0 h1]
 ·have:=hb k hh cap (if Fi then .sliceAcap else .sliceAlen) AT h2
  rcases hlo with⟨rfl,rfl⟩|⟨k',rfl⟩
  ·simp[Instr.sliceBounds,this]
  ·have h3:=hb k' l hh.toNat .sliceB h0 AT
   simp[Instr.sliceBounds,this,h3]
def Aq(Fi:Bool)(len cap:Nat){lo:Option Value}{l hh m:Int}{kh km:IntKind}(hlo:(lo=none/\l=0)\/∃k,lo=some (.int k l))
 (h0:0<=l)(h1:l<=hh)(h2:hh<=m)(h3:m<=cap):(Instr.sliceBounds Fi len cap lo (some (.int kh hh)) (some (.int km m))).run P w=.ok (l.toNat,hh.toNat,m.toNat) w:=by
 have hb:∀k(q:Int)(y:Nat) c,0<=q->q<=y->(Instr.sliceBound (.int k q) y c).run P w=.ok q.toNat w:=by
  intro k q y c hq hy
  simp[Instr.sliceBound,asIntOf,hq,hy]
 have e1:=hb km m cap (if Fi then .slice3Acap else .slice3Alen) AT h3
 have e2:=hb kh hh m.toNat .slice3B AT AT
 rcases hlo with⟨rfl,rfl⟩|⟨k',rfl⟩
 ·simp[Instr.sliceBounds,e1,e2]
 ·have e3:=hb k' l hh.toNat .slice3C h0 AT
  simp[Instr.sliceBounds,e1,e2,e3]
def mo{lo:Option Operand}{l d:Int}(h:(lo=none/\l=d)\/(∃k o,lo=some o/\a.eval o=.int k l)):(lo.map a.eval=none/\l=d)\/∃k,lo.map a.eval=some (.int k l):=A_
def Vs(h:Inv G n D E a w){op:Op}{ty:TypeId}{sz:Nat}{x:IX}{lo hi mx:Option IX}(hc:aw P op ty (.slice sz x lo hi mx)=true){av:AV}(hv:gN (pv (.slice sz x lo hi mx) (xg true E) E) av):
 ∃v,runs P a op ty w v/\NR G w E a av v:=by
 cases op<;>first|(simp[aw]at hc;done)|skip
 rename_i t y l' h' m'
 simp only[aw,Bool.and_eq_true]at hc
 obtain⟨⟨⟨⟨hy,hlo⟩,hhi⟩,hmx⟩,hc⟩:=hc
 split at hc<;>try(cases hc;done)
 rename_i e ht
 have ht:=de ht
 cases mx with
 |some m=>
  have hb:=BR.aQ h hy
  have hv':gN (qf sz (xg true E) lo hi m (xg true E x)) av:=hv
  generalize xg true E x=xv at hb hv'
  unfold qf at hv'
  split at hv'
  ·rename_i b o len cap
   unfold Au at hv'
   split at hv'
   ·rename_i l hh mm hl hhh hmm
    obtain⟨rfl,h0,h1,h2,h3⟩:=hv'.prt
    have bl:=mo (j5 h hlo hl)
    cases hi with
    |none=>cases hhh
    |some hi'=>
    have bh:=j5 h hhi (d:=0) hhh
    have bm:=j5 h hmx (d:=0) hmm
    rcases bh with⟨hn,_⟩|⟨kh,oh,eh1,eh2⟩
    ·grind [E5]
    rcases bm with⟨hn,_⟩|⟨km,om,em1,em2⟩
    ·grind [E5]
    subst eh1;subst em1
    have bU:=Aq (P:=P) (w:=w) (kh:=kh) (km:=km) true len cap bl h0 h1 h2 h3
    have e3:hh.toNat -l.toNat=(hh -l).toNat:=AT
    rcases VR.cK hb with e1|⟨rfl,rfl,e1⟩
    ·by_cases hcl:mm.toNat=l.toNat
     ·have e5:jA o mm.toNat l.toNat sz=o:=by unfold jA;rw[hcl,beq_self_eq_true];rfl
      rw[e5]
      refine⟨.slice (some ⟨b,o,none⟩) (hh -l).toNat (mm.toNat -l.toNat),fun _ _ _ _=>?_,NR.mk rfl (.arr _ _ _ _) rfl⟩
      simp[execOp,e1,Instr.sliceAt,run_underlying ht,Instr.slice,eh2,em2,bU,run_sizeOf hc,hcl,e3]
     ·have e5:jA o mm.toNat l.toNat sz=o+l.toNat*sz:=by
       unfold jA
       rw[show(mm.toNat==l.toNat)=false by grind];rfl
      rw[e5]
      refine⟨.slice (some ⟨b,o+l.toNat*sz,none⟩) (hh -l).toNat (mm.toNat -l.toNat),fun _ _ _ _=>?_,NR.mk rfl (.arr _ _ _ _) rfl⟩
      simp[execOp,e1,Instr.sliceAt,run_underlying ht,Instr.slice,eh2,em2,bU,run_sizeOf hc,hcl,e3,add_eq]
    ·have h6:mm=0:=AT
     have h4:hh=0:=AT
     have h5:l=0:=AT
     subst h6;subst h4;subst h5
     refine⟨.slice none 0 0,fun _ _ _ _=>?_,NR.mk rfl (by exact .Ia _ _) rfl⟩
     simp[execOp,e1,Instr.sliceAt,run_underlying ht,Instr.slice,eh2,em2,bU,run_sizeOf hc]
   ·exact hv'.no.elim
  ·exact hv'.no.elim
 |none=>
  have hm':m'=none:=by
   cases m' with
   |none=>rfl
   |some _=>simp[E5]at hmx
  subst hm'
  have hb:=BR.aQ h hy
  have hv':gN (ux sz (xg true E) lo hi (xg true E x)) av:=hv
  generalize xg true E x=xv at hb hv'
  unfold ux at hv'
  split at hv'
  ·rename_i ow s m cs
   cases hs:s==sz with
   |false=>rw[hs]at hv';exact hv'.no.elim
   |true=>
    rw[hs]at hv'
    obtain rfl:=beq_iff_eq.1 hs
    have lK:gN (Cl s m cs (G7 (xg true E) lo 0) (G7 (xg true E) hi m)) av:=hv'
    unfold Cl at lK
    split at lK
    ·rename_i l hh hl hhh
     cases h1s:Nat.ble 1 s with
     |false=>rw[h1s]at lK;exact lK.no.elim
     |true=>
     rw[h1s]at lK
     have hs1:1<=s:=Nat.le_of_ble_eq_true h1s
     obtain⟨rfl,h0,h1,h2⟩:=lK.prt
     have bl:=mo (j5 h hlo hl)
     have bh:=mo (j5 h hhi hhh)
     rcases VR.gR hb with⟨e1,rfl,rfl⟩|⟨b,o,cap,e1,hlen,hR,fh,hat⟩
     ·have hl0:l=0:=AT
      have hh0:hh=0:=AT
      subst hl0;subst hh0
      have fX:AB.sub ([]:List AV) ((0:Int).toNat*s) ((0 -0:Int).toNat*s)=[]:=by simp[AB.sub]
      rcases e1 with e1|⟨_,ad,cap,e1⟩
      ·refine⟨.slice none 0 0,fun _ _ _ _=>?_,NR.mk rfl ?_ rfl⟩
       ·have:=jk (P:=P) (w:=w) true 0 0 bl bh AT AT AT
        simp[execOp,e1,Instr.sliceAt,run_underlying ht,Instr.slice,this,run_sizeOf hc]
       ·rw[fX]
        show VR _ _ (.sl false s (0/s) []) _
        rw[Nat.zero_div];exact .slnil _ _
      ·refine⟨.slice (some (if cap=0 then ad else ad.add 0)) 0 cap,fun _ _ _ _=>?_,NR.mk rfl ?_ rfl⟩
       ·have:=jk (P:=P) (w:=w) true 0 cap bl bh AT AT AT
        by_cases hc0:cap=0
        ·subst hc0
         simp[execOp,e1,Instr.sliceAt,run_underlying ht,Instr.slice,this,run_sizeOf hc]
        ·simp[execOp,e1,Instr.sliceAt,run_underlying ht,Instr.slice,this,run_sizeOf hc,hc0]
       ·rw[fX]
        show VR _ _ (.sl false s (0/s) []) _
        rw[Nat.zero_div];exact .sle _ _ _
     ·have bU:=jk (P:=P) (w:=w) true m cap bl bh h0 h1 AT
      have dE:l.toNat*s+(hh -l).toNat*s<=cs.length:=by
       rw[hlen,<-Nat.add_mul]
       exact Nat.mul_le_mul_right _ AT
      have hdiv:(AB.sub cs (l.toNat*s) ((hh -l).toNat*s)).length/s=(hh -l).toNat:=by rw[kM dE];exact Nat.mul_div_cancel _ hs1
      rw[hdiv]
      by_cases hcl:cap=l.toNat
      ·subst hcl
       have hz:(hh -l).toNat=0:=AT
       refine⟨.slice (some ⟨b,o,none⟩) (hh -l).toNat (l.toNat -l.toNat),fun _ _ _ _=>?_,NR.mk rfl ?_ rfl⟩
       ·have e3:hh.toNat -l.toNat=(hh -l).toNat:=AT
        simp[execOp,e1,Instr.sliceAt,run_underlying ht,Instr.slice,bU,run_sizeOf hc,e3]
       ·rw[hz]
        have:AB.sub cs (l.toNat*s) (0*s)=[]:=by simp[AB.sub]
        rw[this]
        exact .sl false s 0 [] b o _ (fun _=>undef) Fl.nil BY C_ (Nat.zero_le _) (fun j c hj=>Lg) (fun j c hj=>Lg)
      ·refine⟨.slice (some ⟨b,o+l.toNat*s,none⟩) (hh -l).toNat (cap -l.toNat),fun _ _ _ _=>?_,NR.mk rfl ?_ rfl⟩
       ·have e3:hh.toNat -l.toNat=(hh -l).toNat:=AT
        simp[execOp,e1,Instr.sliceAt,run_underlying ht,Instr.slice,bU,run_sizeOf hc,hcl,e3,add_eq]
       ·obtain⟨u,u1,u2,u3⟩:=hat.sub (l.toNat*s) ((hh -l).toNat*s)
        exact .sl false s _ _ b _ _ u u3 (kM dE) (by grind [kM]) AT u1 u2
    ·exact lK.no.elim
  ·rename_i b o m cap
   have lK:gN (zb sz b o cap (G7 (xg true E) lo 0) (G7 (xg true E) hi m)) av:=hv'
   unfold zb at lK
   split at lK
   ·rename_i l hh hl hhh
    obtain⟨rfl,h0,h1,h2⟩:=lK.prt
    have bl:=mo (j5 h hlo hl)
    have bh:=mo (j5 h hhi hhh)
    have bU:=jk (P:=P) (w:=w) true m cap bl bh h0 h1 h2
    have e3:hh.toNat -l.toNat=(hh -l).toNat:=AT
    rcases VR.cK hb with e1|⟨rfl,rfl,e1⟩
    ·by_cases hcl:cap=l.toNat
     ·have e5:jA o cap l.toNat sz=o:=by unfold jA;rw[hcl,beq_self_eq_true];rfl
      rw[e5]
      refine⟨.slice (some ⟨b,o,none⟩) (hh -l).toNat (cap -l.toNat),fun _ _ _ _=>?_,NR.mk rfl (.arr _ _ _ _) rfl⟩
      simp[execOp,e1,Instr.sliceAt,run_underlying ht,Instr.slice,bU,run_sizeOf hc,<-hcl,e3]
      grind
     ·have e5:jA o cap l.toNat sz=o+l.toNat*sz:=by
       unfold jA
       rw[show(cap==l.toNat)=false by grind];rfl
      rw[e5]
      refine⟨.slice (some ⟨b,o+l.toNat*sz,none⟩) (hh -l).toNat (cap -l.toNat),fun _ _ _ _=>?_,NR.mk rfl (.arr _ _ _ _) rfl⟩
      simp[execOp,e1,Instr.sliceAt,run_underlying ht,Instr.slice,bU,run_sizeOf hc,hcl,e3,add_eq]
    ·have h3:l=0:=AT
     have h4:hh=0:=AT
     subst h3;subst h4
     refine⟨.slice none 0 0,fun _ _ _ _=>?_,NR.mk rfl (by exact .Ia _ _) rfl⟩
     simp[execOp,e1,Instr.sliceAt,run_underlying ht,Instr.slice,bU,run_sizeOf hc]
   ·exact lK.no.elim
  ·exact hv'.no.elim
def RB(h:Inv G n D E a w){op:Op}{ty:TypeId}{x:IX}{lo hi:Option IX}(hc:aw P op ty (.qy x lo hi)=true){av:AV}(hv:gN (pv (.qy x lo hi) (xg true E) E) av):
 ∃v,runs P a op ty w v/\NR G w E a av v:=by
 cases op<;>first|(simp[aw]at hc;done)|skip
 rename_i t y l' h' m'
 cases m' with
 |some _=>simp[aw]at hc
 |none=>
  simp only[aw,Bool.and_eq_true]at hc
  obtain⟨⟨⟨hy,hlo⟩,hhi⟩,ht⟩:=hc
  have ht:=zc ht
  have hb:=BR.aQ h hy
  have hv':gN (mI (xg true E) lo hi (xg true E x)) av:=hv
  generalize xg true E x=xv at hb hv'
  unfold mI at hv'
  split at hv'
  ·rename_i s
   have lK:=hv'
   unfold Et at lK
   split at lK
   ·rename_i l hh hl hhh
    obtain⟨rfl,h0,h1,h2⟩:=lK.prt
    have bl:=mo (j5 h hlo hl)
    have bh:=mo (j5 h hhi hhh)
    have e1:=VR.gm hb
    have bU:=jk (P:=P) (w:=w) false s.length s.length bl bh h0 h1 h2
    have hsz:(ByteArray.mk s.toArray).size=s.length:=by simp[ByteArray.size]
    refine⟨.string ⟨((s.drop l.toNat).take (hh -l).toNat).toArray⟩,fun _ _ _ _=>?_,NR.mk rfl (.str _) rfl⟩
    have hex:(ByteArray.mk s.toArray).extract l.toNat hh.toNat=⟨((s.drop l.toNat).take (hh -l).toNat).toArray⟩:=by
     apply ByteArray.ext
     rw[ByteArray.data_extract]
     apply Array.ext'
     simp only[Array.toList_extract,List.extract_eq_take_drop]
     congr 1
     omega
    simp[execOp,e1,Instr.sliceAt,run_underlying ht,Instr.slice,hsz,bU,hex]
   ·exact lK.no.elim
  ·exact hv'.no.elim
def qm{b:Builtin}{c:Call}{ys:List Operand}{ts:List TypeId}(h:Sc b c=some (ys,ts)):c={callee:=.builtin b,args:=ys.toArray,argTypes:=ts.toArray}:=by
 unfold Sc at h
 split at h
 ·split at h
  ·rename_i hbb
   injection h with h;injection h with h1 h2
   subst h1;subst h2
   cases c;simp_all
  ·cases h
 ·cases h
def ads(h:Inv G n D E a w){op:Op}{ty:TypeId}{cls:Nat}{x:IX}(hc:aw P op ty (.len cls x)=true){av:AV}(hv:gN (pv (.len cls x) (xg true E) E) av):
 ∃v,runs P a op ty w v/\NR G w E a av v:=by
 cases op<;>first|(simp[aw]at hc;done)|skip
 rename_i c
 simp only[aw]at hc
 split at hc<;>try(cases hc;done)
 rename_i y ys t ts hb
 have hce:=qm hb
 subst hce
 rw[Bool.and_eq_true]at hc
 obtain⟨hy,hlt⟩:=hc
 have hb:=BR.aQ h hy
 have hv':gN (BK E.s cls (xg true E x)) av:=hv
 generalize xg true E x=xv at hb hv'
 have fin:∀(m:Nat),av=.int .i64 m->(∀w',w'=w->(Builtin.len_ (t::ts).toArray ty ((y::ys).toArray.map a.eval)).run P w'=.ok (.int .i64 m) w')->∃v,runs P a (.call {callee:=.builtin .len,args:=(y::ys).toArray,argTypes:=(t::ts).toArray}) ty w v/\NR G w E a av v:=by
  intro m hm hr
  subst hm
  exact⟨.int .i64 m,fun _ _ _ _=>by simp[execOp,resolve,invoke,builtin]at hr⊢;simp[hr],NR.mk rfl (.int _ _) rfl⟩
 unfold ag2 at hlt
 split at hlt<;>try(cases hlt;done)
 all_goals
  rename_i ht
  obtain rfl:=beq_iff_eq.1 hlt
  unfold BK at hv'
  split at hv'<;>rename_i hcl<;>try(cases hcl;done)
 ·rename_i ow s m cs
  refine fin m hv'.c8 fun w' _=>?_
  rcases VR.gR hb with⟨e0,rfl,_⟩|⟨b,o,cap,e1,_⟩
  ·obtain⟨_,_,e1⟩:=e0.ex
   simp[Builtin.len_,run_underlying ht,goInt,e1]
  ·simp[Builtin.len_,run_underlying ht,goInt,e1]
 ·rename_i b o m c
  refine fin m hv'.c8 fun w' _=>?_
  rcases VR.cK hb with e1|⟨rfl,_,e1⟩<;>simp[Builtin.len_,run_underlying ht,goInt,e1]
 ·exact hv'.no.elim
 ·rename_i s
  refine fin s.length hv'.c8 fun w' _=>?_
  have e1:=VR.gm hb
  have hsz:(ByteArray.mk s.toArray).size=s.length:=by simp[ByteArray.size]
  simp only[List.map_toArray,List.map_cons,e1]
  simp[Builtin.len_,run_underlying ht,goInt,hsz]
 ·exact hv'.no.elim
 ·refine fin 0 hv'.c8 fun w' _=>?_
  simp[Builtin.len_,run_underlying ht,goInt,VR.Ld hb]
 ·rename_i b
  unfold NV at hv'
  split at hv'
  ·rename_i es hs
   refine fin es.length hv'.c8 fun w' hw'=>?_
   subst hw'
   obtain⟨_,_,jV,clock,hh,hsz,_⟩:=h.store b _ hs
   have hg:(getObj b).run P w'=.ok (.map jV clock) w':=by simp[getObj,Sem.run,hh]
   simp[Builtin.len_,run_underlying ht,goInt,VR.NG hb,hg,hsz]
  ·exact hv'.no.elim
 ·exact hv'.no.elim
def Yi(mx:Bool)(k:IntKind)(h:Inv G n D E a w):∀(xs:List IX)(ys:List Operand),gZ ys xs=true->∀(m r:Int),LK mx m (xs.map (xg true E))=some r->
 ((ys.map a.eval).foldlM (if mx then Builtin.max2 else Builtin.min2) (.int k m)).run P w=.ok (.int k r) w:=by
 intro xs
 induction xs with
 |nil=>
  intro ys hc m r hr
  cases ys with
  |nil=>simp[LK]at hr;subst hr;rfl
  |cons _ _=>simp[gZ]at hc
 |cons x xs ih=>
  intro ys hc m r hr
  cases ys with
  |nil=>simp[gZ]at hc
  |cons y ys=>
   simp[gZ,Bool.and_eq_true]at hc
   have hb:=BR.aQ h hc.1
   simp only[List.map_cons]at hr⊢
   generalize xg true E x=xv at hb hr
   cases xv<;>simp[LK]at hr<;>try(cases hr)
   have e:=VR.b9 hb
   grind [Sem.run_bind,Builtin.max2,max,Sem.run_pure,Builtin.min2,min]
def Oh(h:Inv G n D E a w){op:Op}{ty:TypeId}{k:Nat}{x:IX}(hc:aw P op ty (.extract x k)=true){av:AV}(hv:gN (pv (.extract x k) (xg true E) E) av):
 ∃v,runs P a op ty w v/\NR G w E a av v:=by
 cases op<;>first|(simp[aw]at hc;done)|skip
 simp[aw,Bool.and_eq_true,beq_iff_eq]at hc
 obtain⟨hy,rfl⟩:=hc
 have hb:=BR.aQ h hy
 have hv':gN (qM k (xg true E x)) av:=hv
 generalize xg true E x=xv at hb hv'
 unfold qM at hv'
 split at hv'
 ·rename_i vs
  obtain⟨us,e1,hl,hr⟩:=VR.PA hb
  cases hk:vs[k]? with
  |none=>rw[hk]at hv';exact hv'.no.elim
  |some c=>
   rw[hk]at hv'
   obtain⟨rfl,hi⟩:=SU hv'
   have hlt:k<us.size:=A_
   have hu:=Array.getElem?_eq_getElem hlt
   exact⟨us[k],fun _ _ _ _=>by simp[execOp,e1,Instr.extract,hu],NR.mk hi (hr k c _ hk hu).view (mJ _)⟩
 ·exact hv'.no.elim
end
end Go.AB
end
