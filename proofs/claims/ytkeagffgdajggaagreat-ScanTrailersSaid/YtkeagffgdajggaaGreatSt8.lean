/- A part. -/
import Derived.Test.YtkeagffgdajggaaGreatSt7
import Derived.Tactics
import Derived.Scope
import Derived.LoopN
import Derived.ScopeJumps
set_option linter.unusedSimpArgs false
set_option linter.unusedVariables false
section
namespace Go.AB
open Go
section
variable{P:Program}{G G':Gh}{n:Nat}{D:List Deferred}{E:St}{a:Act}{w w':World}
theorem Inv.K8(h:Inv G n D E a w){d:Option Nat}(hd:aS n d=true){av:AV}{v:Value}(hv:NR G w E a av v):Inv G n D ((bI E av d).put d av) (a.put d v) w:=by
 have hd':∀i,d=some i->i<n:=fun i hi=>by subst hi;simpa[aS]using hd
 by_cases hlp:∃t off,av=.lp t off
 ·obtain⟨t,off,rfl⟩:=hlp
  cases d with
  |none=>exact h
  |some i=>
   obtain⟨b,hv1,hv2⟩:=hv
   refine h.put (s':=E.s) (lp':=(i,t)::E.lp) (some i) hd' (.lp t off) v h.aJ (az.refl G w) h.store (fun x hx=>List.mem_cons_of_mem _ hx) (fun j t' hj ht=>?_) (fun j t' _⟨cs,hcs⟩=>by cases hcs)
    (fun _ _ _ _=>⟨rfl,rfl,rfl⟩) (fun _ _ _ _ _ _ hcc=>⟨hcc,rfl,rfl⟩) (fun j hj=>?_)
   ·injection hj with hj;subst hj
    have:t=t':=ht
    subst this
    exact List.mem_cons_self
   ·injection hj with hj;subst hj
    refine⟨b,hv1,fun cs hcs=>?_⟩
    by_cases hit:i=t
    ·subst hit;simp[St.put,aM]at hcs
    ·simp only[St.put,aM,hit,if_false]at hcs
     simpa[Act.put,Array.getElem?_setIfInBounds_ne hit]using hv2 cs hcs
 ·have hnr:cO av=true/\VR w G.R av v/\view av=av:=by
   cases av<;>first|exact hv|exact(hlp ⟨_,_,rfl⟩).elim
  have hl:bI E av d=E:=by cases av<;>first|rfl|exact(hlp ⟨_,_,rfl⟩).elim|exact absurd hnr.1 (by simp[cO])
  rw[hl]
  have:=h.put (s':=E.s) (lp':=E.lp) d hd' av v h.aJ (az.refl G w) h.store (fun _ hx=>hx) (fun i t _ ht=>(dN hnr.1 t ht).elim) (fun i t _⟨cs,hcs⟩=>(l8 hnr.1 cs hcs).elim)
   (fun _ _ _ _=>⟨rfl,rfl,rfl⟩) (fun _ _ _ _ _ _ hcc=>⟨hcc,rfl,rfl⟩) (fun i hi=>by
     rw[cN.nZ hnr.1]
     refine⟨hnr.2.1,?_⟩
     rw[<-hnr.2.2]
     exact cQ.view ..)
  cases d<;>exact this
theorem Inv.SF(h:Inv G n D E a w){d:Option Nat}(hd:aS n d=true):Inv G n D (E.put d (.gb [])) (a.put d undef) w:=by
 have:=h.put (s':=E.s) (lp':=E.lp) d (fun i hi=>by subst hi;simpa[aS]using hd) (.gb []) undef h.aJ (az.refl G w) h.store (fun _ hx=>hx) (fun i t _ ht=>ht.elim) (fun i t _⟨cs,hcs⟩=>by cases hcs)
  (fun _ _ _ _=>⟨rfl,rfl,rfl⟩) (fun _ _ _ _ _ _ hcc=>⟨hcc,rfl,rfl⟩) (fun i hi=>⟨#[],rfl,rfl,fun j x y hx=>by simp at hx⟩)
 cases d<;>exact this
theorem M0(h:Inv G n D E a w){op:Op}{ty:TypeId}{f:Nat}{x:IX}{d:Option Nat}{K:St->Prop}(hd:aS n d=true)(hc:aq P op ty (.vK f x)=true)(hw:gz P (.vK f x) d E K):mr P G n D w a op ty d K:=by
 cases op<;>first|(simp[aq]at hc;done)|skip
 rename_i c
 obtain⟨callee,ys,ats⟩:=c
 simp only[aq]at hc
 split at hc<;>try(cases hc;done)
 rename_i g
 simp only[Bool.and_eq_true,beq_iff_eq]at hc
 obtain⟨rfl,hxs⟩:=hc
 obtain⟨hi,hid,hk⟩:=(show FV P f E d K (E.x x) from hw)
 obtain⟨l⟩:=ys
 match l,hxs with
 |[y],hxs=>
  have hy:bp y x=true:=by simpa[fI]using hxs
  have hvr:VR w G.R (E.x x) (a.eval y):=by
   have:=XR.aG h hy
   generalize E.x x=av at hi this
   cases av<;>first|exact this|(simp[cO]at hi)
  have hiv:cO (view (E.x x))=true:=by generalize E.x x=av at hi;cases av<;>simp_all [cO,view]
  have hvv:view (view (E.x x))=view (E.x x):=by generalize E.x x=av;cases av<;>rfl
  intro pos after gd next Q hn
  refine aI (v:=a.eval y) ?_ (hn G _ _ _ (h.K8 hd (NR.mk hiv hvr.view hvv)) (az.refl G w) ?_)
  ·have bk:=hid (a.eval y) w
   simp[execOp,resolve,Act.eval,Deferred.ofValue,invoke]at bk⊢
   first|exact bk|(simp[bk])
  ·have e:bI E (view (E.x x)) d=E:=by
    generalize E.x x=av at hi
    cases av<;>cases d<;>first|rfl|(simp[cO]at hi)
   first|exact hk|(rw[e];exact hk)
 |[],hxs=>simp[fI]at hxs
 |_::_::_,hxs=>simp[fI]at hxs
theorem OR(h:Inv G n D E a w){op:Op}{ty:TypeId}{x:IX}{d:Option Nat}{K:St->Prop}(hd:aS n d=true)(hc:aq P op ty (.F5 x)=true)(hw:gz P (.F5 x) d E K):mr P G n D w a op ty d K:=by
 cases op<;>first|(simp[aq]at hc;done)|skip
 rename_i s t y
 simp only[aq,Bool.and_eq_true]at hc
 obtain⟨⟨hy,hs⟩,ht⟩:=hc
 have hw':Im E d K (E.x x):=hw
 generalize hxv:E.x x=xv at hw'
 unfold Im at hw'
 split at hw'
 ·rename_i b off
  have e1:=XR.ref h hy hxv
  generalize hsb:E.s b=ob at hw'
  unfold OI at hw'
  split at hw'
  ·rename_i cs
   obtain⟨hlt,hk⟩:=hw'
   obtain⟨t',hsh,_⟩:=h.store.shape hsb
   split at hs<;>try(cases hs;done)
   rename_i e hse
   split at hs<;>try(cases hs;done)
   rename_i j hj
   split at ht<;>try(cases ht;done)
   rename_i htu
   have bk:=Lib.run_to_unsafe (P:=P) w ⟨b,off,none⟩ hse htu hj (by simpa using hs) hsh hlt
   intro pos after g next Q hn
   refine aI (v:=.pointer (some ⟨b,off,none⟩)) ?_ (hn G _ _ _ (h.K8 hd (NR.mk rfl (.ref b off) rfl)) (az.refl G w) hk)
   simp[execOp,e1,bk]
  ·exact hw'.elim
 ·exact hw'.elim
theorem OQ(h:Inv G n D E a w){op:Op}{ty:TypeId}{u:Nat}{x:IX}{d:Option Nat}{K:St->Prop}(hd:aS n d=true)(hc:aq P op ty (.F4 u x)=true)(hw:gz P (.F4 u x) d E K):mr P G n D w a op ty d K:=by
 cases op<;>first|(simp[aq]at hc;done)|skip
 rename_i s t y
 simp only[aq,Bool.and_eq_true]at hc
 obtain⟨⟨hy,hs⟩,ht⟩:=hc
 have hw':Il P u E d K (E.x x):=hw
 generalize hxv:E.x x=xv at hw'
 unfold Il at hw'
 split at hw'
 ·rename_i b off
  have e1:=XR.ref h hy hxv
  generalize hsb:E.s b=ob at hw'
  unfold OH at hw'
  split at hw'
  ·rename_i cs
   obtain⟨t0,hct,hl,hk⟩:=hw'
   obtain⟨t',hsh,hfl⟩:=h.store.shape hsb
   have:t'=t0:=by
    rcases hfl _ (List.mem_of_getElem? hct)with h1|h1
    ·cases h1
    ·injection h1 with h1;exact h1.symm
   subst this
   split at hs<;>try(cases hs;done)
   rename_i hse
   split at ht<;>try(cases ht;done)
   rename_i e hte
   simp only[Bool.and_eq_true,beq_iff_eq]at ht
   obtain⟨rfl,hj⟩:=ht
   obtain⟨j,hj⟩:=Option.isSome_iff_exists.1 hj
   have bk:=Lib.run_from_unsafe (P:=P) w ⟨b,off,none⟩ hse hte hj hsh hl
   intro pos after g next Q hn
   refine aI (v:=.pointer (some ⟨b,off,none⟩)) ?_ (hn G _ _ _ (h.K8 hd (NR.mk rfl (.ref b off) rfl)) (az.refl G w) hk)
   simp[execOp,e1,bk]
  ·exact hw'.elim
 ·exact hw'.elim
theorem Nl(h:Inv G n D E a w){op:Op}{ty:TypeId}{o:qT}{d:Option Nat}{K:St->Prop}(hd:aS n d=true)(hc:aq P op ty o=true)(hw:Yi P o d E K):mr P G n D w a op ty d K:=by
 unfold Yi at hw
 cases hp:pv o (xg true E) E with
 |cT av=>
  rw[hp]at hw
  obtain⟨v,hr,hnr⟩:=xl h hc (av:=av) (.inl hp)
  exact fun pos after g next Q hn=>aI (hr d pos after g) (hn G _ _ _ (h.K8 hd hnr) (az.refl G w) hw)
 |prt c av=>
  rw[hp]at hw
  obtain⟨v,hr,hnr⟩:=xl h hc (av:=av) (.inr ⟨c,hp,hw.1⟩)
  exact fun pos after g next Q hn=>aI (hr d pos after g) (hn G _ _ _ (h.K8 hd hnr) (az.refl G w) hw.2)
 |no=>
  rw[hp]at hw
  have hw':gz P o d E K:=hw
  cases o with
  |iJ tr x=>exact RE h hd hc hw'
  |aA z=>exact(EG h hd).1 hc hw'
  |gH z=>exact(EG h hd).2 hc hw'
  |jf m x=>exact(LN h hd).1 hc hw'
  |qE m x=>exact(LN h hd).2 hc hw'
  |bB sz m z ps=>exact Ix h hd hc hw'
  |store m p v=>exact M6 h hd hc hw'
  |append sz by' x y=>exact Km h hd hc hw'
  |eP x=>exact Kp h hd hc hw'
  |gN x=>exact Gb h hd hc hw'
  |call f args=>exact Iy h hd hc hw'
  |gS sz by' z l c=>exact Kr h hd hc hw'
  |makeMap=>exact Iz h hd hc hw'
  |dj x args=>exact M1 h hd hc hw'
  |lookup kk z ok x k=>exact Kq h hd hc hw'
  |mapUpdate kk x k v=>exact DG h hd hc hw'
  |jg x=>exact Ko h hd hc hw'
  |qP x=>exact OS h hd hc hw'
  |jP sz m z ps=>exact Ga h hd hc hw'
  |fL sz by' z x y=>exact Iu h hd hc hw'
  |lV sz by' z x y=>exact Iw h hd hc hw'
  |zg sz m p v=>exact Ks h hd hc hw'
  |FQ sz m x=>exact OO h hd hc hw'
  |FR m t j u x=>exact OP h hd hc hw'
  |lU t x y=>exact Iv h hd hc hw'
  |F5 x=>exact OR h hd hc hw'
  |vK f x=>exact M0 h hd hc hw'
  |F4 u x=>exact OQ h hd hc hw'
  |vQ sz x y=>exact M3 h hd hc hw'
  |pI z x=>exact Kn h hd hc hw'
  |NY sz ow x=>exact RD h hd hc hw'
  |ux sz ow x=>exact M5 h hd hc hw'
  |lq x=>exact EI h hd hc hw'
  |lP off j x=>exact M4 h hd hc hw'
  |RH ne x=>exact RC h hd hc hw'
  |Yh f x y=>exact RF h hd hc hw'
  |vJ f i args=>exact MZ h hd hc hw'
  |_=>exact hw'.elim
def xb(P:Program)(ops:Array Oper)(o:Oper)(a:Act)(w:World)(next:Act->World->Prop)(Q:Exit->Act->World->Prop):Prop:=if Region.wanted o (yielded ops a.tmps)then o.wp P a w next Q\/(o.asks P a w/\LetsOut Q)else next (a.put o.dst undef) w
theorem Jr{ops:Array Oper}{o:Oper}{next:Act->World->Prop}{Q:Exit->Act->World->Prop}(hw:Region.wanted o (yielded ops a.tmps)=true)(h:o.wp P a w next Q):xb P ops o a w next Q:=by unfold xb;rw[if_pos hw];exact .inl h
theorem Fe{ops:Array Oper}{o:Oper}{next:Act->World->Prop}{Q:Exit->Act->World->Prop}(hw:Region.wanted o (yielded ops a.tmps)=false)(h:next (a.put o.dst undef) w):xb P ops o a w next Q:=by unfold xb;rw[if_neg (by simp[hw])];exact h
theorem It(h:Inv G n D E a w){d:Option Nat}(hd:aS n d=true)(av:AV)(hl:∀t,bd av t->∀i,d=some i->(i,t)∈E.lp):Inv G n D (E.put d (.when false av)) (a.put d undef) w:=by
 have:=h.put (s':=E.s) (lp':=E.lp) d (fun i hi=>by subst hi;simpa[aS]using hd) (.when false av) undef h.aJ (az.refl G w) h.store (fun _ hx=>hx) (fun i t hi ht=>hl t ht i hi) (fun i t _⟨cs,hcs⟩=>by cases hcs)
  (fun _ _ _ _=>⟨rfl,rfl,rfl⟩) (fun _ _ _ _ _ _ hcc=>⟨hcc,rfl,rfl⟩) (fun i hi=>⟨fun hh=>Bool.noConfusion hh,fun _=>rfl⟩)
 cases d<;>exact this
theorem gR(E:St):∀(av:AV)(d:Option Nat),(bI E av d).e=E.e/\(bI E av d).s=E.s/\∀x∈E.lp,x∈(bI E av d).lp
 |.lp t _,some i=>⟨rfl,rfl,fun x hx=>List.mem_cons_of_mem _ hx⟩
 |.lp t _,none=>⟨rfl,rfl,fun _ hx=>hx⟩
 |.when _ av,d=>gR E av d
 |.undef,_|.bool _,_|.int _ _,_|.str _,_|.cZ,_|.ref _ _,_|.sp _,_|.loc _,_|.sl _ _ _ _,_|.arr _ _ _ _,_|.agg _,_|.gb _,_|.fn _ _ _,_|.nn,_|.mp _,_|.sd,_|.us _ _ _,_|.one,_|.lW _,_|.kp,_|.bb _ _ _,_=>⟨rfl,rfl,fun _ hx=>hx⟩
theorem PT(h:Inv G n D E a w)(av:AV)(d:Option Nat):Inv G n D (bI E av d) a w:=by
 obtain⟨e1,e2,e3⟩:=gR E av d
 exact⟨h.aJ,by rw[e2];exact h.store,h.size,fun i v hv=>by rw[e1];exact h.bO i v hv,fun i hi=>by rw[e1];exact h.DE i hi,fun i t ht=>e3 _ (h.JX i t (by rw[e1]at ht;exact ht)),h.qG⟩
theorem yp:∀(av:AV)(d:Option Nat)(t:Nat),bd av t->∀i,d=some i->(i,t)∈(bI E av d).lp
 |.lp t' off,_,t,ht,i,rfl=>by have:t'=t:=ht;subst this;exact List.mem_cons_self
 |.when _ av,d,t,ht,i,hi=>yp av d t ht i hi
 |.undef,_,_,ht,_,_|.bool _,_,_,ht,_,_|.int _ _,_,_,ht,_,_|.str _,_,_,ht,_,_|.cZ,_,_,ht,_,_|.ref _ _,_,_,ht,_,_|.sp _,_,_,ht,_,_|.loc _,_,_,ht,_,_|.sl _ _ _ _,_,_,ht,_,_
 |.arr _ _ _ _,_,_,ht,_,_|.agg _,_,_,ht,_,_|.gb _,_,_,ht,_,_|.fn _ _ _,_,_,ht,_,_|.nn,_,_,ht,_,_|.mp _,_,_,ht,_,_|.sd,_,_,ht,_,_|.us _ _ _,_,_,ht,_,_|.one,_,_,ht,_,_|.lW _,_,_,ht,_,_|.kp,_,_,ht,_,_|.bb _ _ _,_,_,ht,_,_=>ht.elim
theorem Inv.sE{d:Option Nat}{av:AV}(h:Inv G n D (E.put d av) a w)(hd:aS n d=true):Inv G n D (E.put d (.when true av)) a w:=by
 cases d with
 |none=>exact h
 |some i=>
 have hlk:∀k,k≠i->look (E.put (some i) (.when true av)).e k=look (E.put (some i) av).e k:=fun k hk=>by simp[St.put,aM,Ne.symm hk]
 have e1:look (E.put (some i) av).e i=av:=by simp[St.put,aM]
 have e2:look (E.put (some i) (.when true av)).e i=.when true av:=by simp[St.put,aM]
 have Ph:∀d' cs,look (E.put (some i) (.when true av)).e d'=.loc cs->look (E.put (some i) av).e d'=.loc cs:=by
  intro d' cs hcs
  by_cases hd':d'=i
  ·subst hd';rw[e2]at hcs;cases hcs
  ·rw[hlk d' hd']at hcs;exact hcs
 have fr:∀k av' u,cN G w (E.put (some i) av).e a.tmps k av' u->cN G w (E.put (some i) (.when true av)).e a.tmps k av' u:=fun k av' u hv=>cN.frame (fun _ _ hv=>hv) (fun b _=>⟨rfl,rfl,rfl⟩) (fun _ _ _ _ hc=>⟨hc,rfl,rfl⟩) _ _ (fun d' _ cs hcs=>⟨cs,Ph d' cs hcs,rfl⟩) hv
 refine⟨h.aJ,h.store,h.size,fun k u hu=>?_,fun k hk=>?_,fun k t ht=>?_,h.qG⟩
 ·have hs:=h.bO k u hu
  by_cases hk:k=i
  ·subst hk
   rw[e1]at hs
   rw[e2]
   exact⟨fun _=>fr _ _ _ hs,fun hh=>Bool.noConfusion hh⟩
  ·rw[hlk k hk];exact fr _ _ _ hs
 ·have:k≠i:=by
   have:i<n:=by simpa[aS]using hd
   omega
  rw[hlk k this];exact h.DE k hk
 ·by_cases hk:k=i
  ·subst hk
   rw[e2]at ht
   exact h.JX k t (by rw[e1];exact ht)
  ·rw[hlk k hk]at ht;exact h.JX k t ht
theorem vy{ops:Array Oper}{tmps:Array Value}{j t:Nat}(h:(ops[j]?).bind (·.dst)=some t):yielded ops tmps j=(match tmps[t]? with|some (.bool b)=>some b|_=>none):=by
 unfold yielded
 rw[h]
 rfl
theorem BJ{ops:Array Oper}{o:Oper}{j t:Nat}{want b:Bool}(hg:o.guard=some (j,want))(ht:(ops[j]?).bind (·.dst)=some t)(hv:a.tmps[t]? =some (.bool b)):Region.wanted o (yielded ops a.tmps)=(b==want):=by
 unfold Region.wanted
 rw[hg]
 simp only[vy ht,hv]
 cases b<;>cases want<;>rfl
theorem HG(h:Inv G n D E a w){t:Nat}(hl:look E.e t≠.undef):∃v,a.tmps[t]? =some v/\cN G w E.e a.tmps t (look E.e t) v:=by
 have hlt:t<a.tmps.size:=by rw[h.size];exact h.Jk hl
 exact⟨_,fh hlt,h.bO t _ (fh hlt)⟩
theorem fP(h:Inv G n D E a w){ops:Array Oper}{o:Oper}{o':ai}{K:St->Prop}(hc:gn P n ops o o'=true)(hw:JW P o' E K){next:Act->World->Prop}{Q:Exit->Act->World->Prop}
 (hn:∀G' E' a' w',Inv G' n D E' a' w'->az G w G' w'->K E'->next a' w'):xb P ops o a w next Q:=by
 obtain⟨dst,op,ty,pos,after,g⟩:=o
 obtain⟨d,io,ig⟩:=o'
 simp only[gn,Bool.and_eq_true,beq_iff_eq]at hc
 obtain⟨⟨⟨rfl,hd⟩,hcg⟩,Vt⟩:=hc
 have runs:∀{E₁:St},Inv G n D E₁ a w->Yi P io dst E₁ K->(⟨dst,op,ty,pos,after,g⟩:Oper).wp P a w next Q:=fun h1 ho=>Nl h1 hd Vt ho pos after g next Q hn
 cases ig with
 |none=>
  cases g with
  |some g=>simp[Rw]at hcg
  |none=>exact Jr rfl (runs h hw)
 |some tw=>
  obtain⟨t,want⟩:=tw
  cases g with
  |none=>simp[Rw]at hcg
  |some jw=>
  obtain⟨j,xB⟩:=jw
  simp only[Rw,Bool.and_eq_true,beq_iff_eq]at hcg
  obtain⟨rfl,ht⟩:=hcg
  have hw':xY P io dst t xB E K (look E.e t):=hw
  have skip:∀{E₁:St},Inv G n D E₁ a w->K (E₁.put dst (.gb []))->next (a.put dst undef) w:=fun h1 hk=>hn G _ _ _ (h1.SF hd) (az.refl G w) hk
  have core:∀(g:Bool),Region.wanted ⟨dst,op,ty,pos,after,some (j,xB)⟩ (yielded ops a.tmps)=g->N4 P g io E dst K (pv io (xg g E) E)->xb P ops ⟨dst,op,ty,pos,after,some (j,xB)⟩ a w next Q:=by
   intro g hwt hx
   cases g with
   |true=>
    refine Jr hwt ?_
    cases hp:pv io (xg true E) E with
    |cT av=>
     rw[hp]at hx
     obtain⟨v,hr,hnr⟩:=xl h Vt (av:=av) (.inl hp)
     refine aI (hr _ _ _ _) (hn G _ _ _ ((h.K8 hd hnr).sE hd) (az.refl G w) hx)
    |prt c av=>
     rw[hp]at hx
     obtain⟨v,hr,hnr⟩:=xl h Vt (av:=av) (.inr ⟨c,hp,hx.1 rfl⟩)
     refine aI (hr _ _ _ _) (hn G _ _ _ ((h.K8 hd hnr).sE hd) (az.refl G w) hx.2)
    |no=>
     rw[hp]at hx
     exact runs h (hx.1 rfl)
   |false=>
    refine Fe hwt ?_
    cases hp:pv io (xg false E) E with
    |cT av=>
     rw[hp]at hx
     exact hn G _ _ _ (It (PT h av dst) hd av (fun t' ht' i hi=>yp av dst t' ht' i hi)) (az.refl G w) hx
    |prt c av=>
     rw[hp]at hx
     exact hn G _ _ _ (It (PT h av dst) hd av (fun t' ht' i hi=>yp av dst t' ht' i hi)) (az.refl G w) hx.2
    |no=>
     rw[hp]at hx
     exact skip h (hx.2 rfl)
  cases hlk:look E.e t with
  |bool b=>
   rw[hlk]at hw'
   obtain⟨v,hv1,hv2⟩:=HG h (t:=t) (by rw[hlk];simp)
   rw[hlk]at hv2
   have:=VR.fR hv2.1
   subst this
   exact core _ (BJ (o:=⟨dst,op,ty,pos,after,some (j,xB)⟩) rfl ht hv1) hw'
  | «when» b' g=>
    rw[hlk]at hw'
    obtain⟨v,hv1,hv2⟩:=HG h (t:=t) (by rw[hlk];simp)
    rw[hlk]at hv2
    cases g with
    |bool b=>
     have hx:N4 P (b'&&(b==xB)) io E dst K (pv io (xg (b'&&(b==xB)) E) E):=hw'
     cases b' with
     |true=>
      have hvb:=hv2.1 rfl
      have:=VR.fR hvb.1
      subst this
      exact core _ (BJ (o:=⟨dst,op,ty,pos,after,some (j,xB)⟩) rfl ht hv1) hx
     |false=>
      have:=hv2.2 rfl
      subst this
      have hwt:Region.wanted ⟨dst,op,ty,pos,after,some (j,xB)⟩ (yielded ops a.tmps)=false:=by
       unfold Region.wanted
       simp only[vy ht,hv1]
       rfl
      exact core _ hwt hx
    |_=>exact hw'.elim
  |gb vs=>
   rw[hlk]at hw'
   cases vs with
   |cons _ _=>exact hw'.elim
   |nil=>
    obtain⟨v,hv1,hv2⟩:=HG h (t:=t) (by rw[hlk];simp)
    rw[hlk]at hv2
    obtain⟨ys,rfl,_⟩:=hv2
    have hwt:Region.wanted ⟨dst,op,ty,pos,after,some (j,xB)⟩ (yielded ops a.tmps)=false:=by
     unfold Region.wanted
     simp only[vy ht,hv1]
     rfl
    exact Fe hwt (skip h hw')
  |_=>rw[hlk]at hw';exact hw'.elim
end
section
variable{P:Program}{G G':Gh}{n:Nat}{D:List Deferred}{E:St}{a:Act}{w w':World}
theorem pn{ops:Array Oper}{Q:Exit->Act->World->Prop}{K:St->Prop}(G₀:Gh)(w₀:World)
 (hn:∀G' E' a' w',Inv G' n D E' a' w'->az G₀ w₀ G' w'->K E'->Q .normal a' w'):∀(l:List Oper)(l':List ai)(G:Gh)(E:St)(a:Act)(w:World),bS P n ops l l'=true->Inv G n D E a w->az G₀ w₀ G w->swp P l' E K->wpList P ops Q l a w
 |[],[],G,E,a,w,_,h,hp,hk=>hn G E a w h hp hk
 |o::l,o'::l',G,E,a,w,hc,h,hp,hk=>by
  simp only[bS,Bool.and_eq_true]at hc
  show xb P ops o a w (wpList P ops Q l) Q
  exact fP h hc.1 hk fun G' E' a' w' h1 h2 h3=>pn G₀ w₀ hn l l' G' E' a' w' hc.2 h1 (hp.trans h2) h3
 |[],_::_,_,_,_,_,hc,_,_,_=>by simp[bS]at hc
 |_::_,[],_,_,_,_,hc,_,_,_=>by simp[bS]at hc
theorem E5(e:List (Nat×AV))(i:Nat):∀(live:List Nat),look (live.map fun j=>(j,dc (look e j))) i=if i∈live then dc (look e i)else .undef
 |[]=>rfl
 |j::live=>by
  rw[List.map_cons,aM,E5 e i live]
  by_cases h:j=i
  ·subst h;simp
  ·simp[h,Ne.symm h]
theorem xT(av:AV)(t:Nat):¬bd (dc av) t:=by cases av<;>simp[dc,bd]
theorem Inv.tG(h:Inv G n D E a w)(live:List Nat):Inv G n D (E.tG live) a w:=by
 have hl:∀i,look (E.tG live).e i=if i∈live then dc (look E.e i)else .undef:=fun i=>E5 E.e i live
 have hu:∀i v,cN G w (E.tG live).e a.tmps i .undef v:=fun i v=>⟨.undef _,trivial⟩
 refine⟨h.aJ,h.store,h.size,fun i v hv=>?_,fun i hi=>?_,fun i t ht=>?_,h.qG⟩
 ·rw[hl i]
  by_cases hi:i∈live
  ·rw[if_pos hi]
   have hs:=h.bO i v hv
   generalize look E.e i=av at hs
   have fr:∀av,(∀t,¬bd av t)->cN G w E.e a.tmps i av v->cN G w (E.tG live).e a.tmps i av v:=fun av hno hs=>cN.frame (fun _ _ hv=>hv) (fun b _=>⟨rfl,rfl,rfl⟩) (fun _ _ _ _ hc=>⟨hc,rfl,rfl⟩) _ _ (fun t ht=>(hno t ht).elim) hs
   cases av<;>first|exact hu i v|exact fr _ (fun t ht=>ht) hs
  ·rw[if_neg hi];exact hu i v
 ·rw[hl i]
  by_cases hi':i∈live
  ·rw[if_pos hi',h.DE i hi];rfl
  ·rw[if_neg hi']
 ·rw[hl i]at ht
  by_cases hi:i∈live
  ·rw[if_pos hi]at ht;exact(xT _ t ht).elim
  ·rw[if_neg hi]at ht;exact ht.elim
theorem Cp(e:List (Nat×AV))(i:Nat):∀(live:List (Nat×Bool)),look (live.map fun p=>(p.1,QX p.2 (dc (look e p.1)))) i=.undef\/look (live.map fun p=>(p.1,QX p.2 (dc (look e p.1)))) i=dc (look e i)\/look (live.map fun p=>(p.1,QX p.2 (dc (look e p.1)))) i=view (dc (look e i))
 |[]=>.inl rfl
 |p::live=>by
  rw[List.map_cons,aM]
  by_cases h:p.1=i
  ·rw[if_pos h,h]
   cases p.2 with
   |false=>exact .inr (.inl rfl)
   |true=>exact .inr (.inr rfl)
  ·rw[if_neg h];exact Cp e i live
theorem cN.abP{e:List (Nat×AV)}{tmps:Array Value}{i:Nat}{av:AV}{v:Value}(h:cN G w e tmps i av v):cN G w e tmps i (view av) v:=by cases av<;>first|exact h|exact⟨VR.undef _,trivial⟩|exact⟨VR.view h.1,cQ.view ..⟩
theorem Th(av:AV)(h:∀t,¬bd av t)(t:Nat):¬bd (view av) t:=by cases av<;>first|exact h t|exact fun h=>h
theorem Inv.df(h:Inv G n D E a w)(live:List (Nat×Bool)):Inv G n D (E.df live) a w:=by
 have fr:∀i v,a.tmps[i]? =some v->cN G w (E.df live).e a.tmps i (dc (look E.e i)) v:=fun i v hv=>by
  have hs:=h.bO i v hv
  generalize look E.e i=av at hs
  have fr:∀av,(∀t,¬bd av t)->cN G w E.e a.tmps i av v->cN G w (E.df live).e a.tmps i av v:=fun av hno hs=>cN.frame (fun _ _ hv=>hv) (fun b _=>⟨rfl,rfl,rfl⟩) (fun _ _ _ _ hc=>⟨hc,rfl,rfl⟩) _ _ (fun t ht=>(hno t ht).elim) hs
  cases av<;>first|exact⟨.undef _,trivial⟩|exact fr _ (fun t ht=>ht) hs
 have hl:=fun i=>Cp E.e i live
 refine⟨h.aJ,h.store,h.size,fun i v hv=>?_,fun i hi=>?_,fun i t ht=>?_,h.qG⟩
 ·rcases hl i with e|e|e
  ·have e':look (E.df live).e i=.undef:=e
   rw[e'];exact⟨.undef _,trivial⟩
  ·have e':look (E.df live).e i=dc (look E.e i):=e
   rw[e'];exact fr i v hv
  ·have e':look (E.df live).e i=view (dc (look E.e i)):=e
   rw[e'];exact cN.abP (fr i v hv)
 ·rcases hl i with e|e|e
  ·exact e
  ·have e':look (E.df live).e i=dc (look E.e i):=e
   rw[e',h.DE i hi];rfl
  ·have e':look (E.df live).e i=view (dc (look E.e i)):=e
   rw[e',h.DE i hi];rfl
 ·have ht':bd (look (E.df live).e i) t:=ht
  rcases hl i with e|e|e
  ·have e':look (E.df live).e i=.undef:=e
   rw[e']at ht';exact ht'.elim
  ·have e':look (E.df live).e i=dc (look E.e i):=e
   rw[e']at ht';exact(xT _ t ht').elim
  ·have e':look (E.df live).e i=view (dc (look E.e i)):=e
   rw[e']at ht';exact(Th _ (xT _) t ht').elim
def Tq(P:Program)(n:Nat):Prop:=
 ∀(D:List Deferred)(draw:Bool)(id:Nat)(ops:Array Oper)(bj:List ai)(q:Nat)(G:Gh)(E:St)(a:Act)(w:World)(K:St->Prop)(Q:Exit->Act->World->Prop),
  bS P n ops ops.toList bj=true->(draw=true->LB ops q bj=true)->Inv G n D E a w->Re P q bj E K->
  (∀G' E' a' w',Inv G' n D E' a' w'->az G w G' w'->K E'->Q .normal a' w')->(Code.region id ops draw).wp P Q a w
def Tr(P:Program)(n:Nat):Prop:=
 ∀(D:List Deferred)(draw:Bool)(id:Nat)(ops:Array Oper)(bj:List ai)(T:List Nat)(q:Nat)(G:Gh)(E:St)(a:Act)(w:World)(K:St->Prop)(Q:Exit->Act->World->Prop),
  bS P n ops ops.toList bj=true->(draw=true->FY T ops q bj=true)->Inv G n D E a w->fW T E.e=true->CR P T q bj E K->
  (∀G' E' a' w',Inv G' n D E' a' w'->az G w G' w'->K E'->Q .normal a' w')->(Code.region id ops draw).wp P Q a w
def Tp(P:Program)(n:Nat):Prop:=
 ∀(D:List Deferred)(id:Nat)(ops:Array Oper)(T:List Nat)(l:List Item)(G:Gh)(E:St)(a:Act)(w:World)(K:St->Prop)(Q:Exit->Act->World->Prop),
  U2 P T n ops l=true->Inv G n D E a w->fW T E.e=true->EC P T l E K->
  (∀G' E' a' w',Inv G' n D E' a' w'->az G w G' w'->K E'->Q .normal a' w')->(Code.region id ops true).wp P Q a w
def Ts(P:Program)(n:Nat):Prop:=
 ∀(D:List Deferred)(id:Nat)(ops:Array Oper)(fB:List (List Bool))(bj:List ai)(G:Gh)(E:St)(a:Act)(w:World)(K:St->Prop)(Q:Exit->Act->World->Prop),
  bS P n ops ops.toList bj=true->LD ops fB=true->Inv G n D E a w->NS P fB bj K bj (sH bj) E->
  (∀G' E' a' w',Inv G' n D E' a' w'->az G w G' w'->K E'->Q .normal a' w')->(Code.region id ops true).wp P Q a w
def Bf(P:Program)(n:Nat):Prop:=Tq P n/\Tr P n/\Tp P n/\Ts P n
def Rel(n:Nat)(D:List Deferred)(G₀:Gh)(w₀:World)(Q:Exit->St->Prop)(Q':Exit->Act->World->Prop):Prop:=∀x G' E' a' w',Inv G' n D E' a' w'->az G₀ w₀ G' w'->Q x E'->Q' x a' w'
theorem NI:∀(c:Code){L:List Code}{cr:Code}{l:Nat},ze c l=some (L,cr)->c=L.foldr Code.seq (.seq (.label l) cr)/\findLabel c l=some (Code.skip.seq cr):=by
 intro c
 induction c with
 |seq s c _ ih=>
  intro L cr l h
  have gen:(∀m,s≠.label m)->(if(findLabel s l).isNone then(ze c l).map fun p=>(s::p.1,p.2)else none)=some (L,cr)->Code.seq s c=L.foldr Code.seq (.seq (.label l) cr)/\findLabel (Code.seq s c) l=some (Code.skip.seq cr):=by
   intro _ h
   split at h
   ·rename_i hn
    cases hs:ze c l with
    |none=>rw[hs]at h;cases h
    |some p=>
     obtain⟨L1,r1⟩:=p
     rw[hs]at h
     injection h with h;injection h with h1 h2;subst h1;subst h2
     have hn':findLabel s l=none:=Option.isNone_iff_eq_none.1 hn
     obtain⟨q1,q2⟩:=ih hs
     refine⟨by rw[q1];rfl,?_⟩
     unfold findLabel
     rw[hn']
     exact q2
   ·cases h
  cases s with
  |label m=>
   have h:(if m==l then some (([]:List Code),c)else none)=some (L,cr):=h
   split at h
   ·rename_i hm
    injection h with h;injection h with h1 h2;subst h1;subst h2
    have hm':m=l:=by simpa using hm
    subst hm'
    exact⟨rfl,by simp[findLabel]⟩
   ·cases h
  |_=>exact gen (fun m e=>by cases e) h
 |_=>intro L cr l h;cases h
theorem mn{a:IC}(h:uY a=true):a=.skip:=by cases a<;>first|rfl|cases h
def nL(n:Nat)(D:List Deferred)(G₀:Gh)(w₀:World)(C:(St->Prop)->(St->Nat)->Prop)(a:Act)(w:World)(k:Nat):Prop:=∃I μ G τ,C I μ/\Inv G n D τ a w/\az G₀ w₀ G w/\I τ/\μ τ<=k
noncomputable def KP(n:Nat)(D:List Deferred)(G₀:Gh)(w₀:World)(C:(St->Prop)->(St->Nat)->Prop)(a:Act)(w:World):Nat:=Classical.epsilon fun k=>nL n D G₀ w₀ C a w k/\∀j,nL n D G₀ w₀ C a w j->k<=j
theorem zI{n:Nat}{D:List Deferred}{G₀:Gh}{w₀:World}{C:(St->Prop)->(St->Nat)->Prop}{a:Act}{w:World}(h:∃k,nL n D G₀ w₀ C a w k):
 nL n D G₀ w₀ C a w (KP n D G₀ w₀ C a w)/\∀j,nL n D G₀ w₀ C a w j->KP n D G₀ w₀ C a w<=j:=by
 refine Classical.epsilon_spec (p:=fun k=>nL n D G₀ w₀ C a w k/\∀j,nL n D G₀ w₀ C a w j->k<=j) ?_
 obtain⟨k,hk⟩:=h
 induction k using Nat.strongRecOn with
 |_ k ih=>
  by_cases hj:∃j,j<k/\nL n D G₀ w₀ C a w j
  ·obtain⟨j,hj,hj'⟩:=hj
   exact ih j hj hj'
  ·exact⟨k,hk,fun j hj'=>by
    rcases Nat.lt_or_ge j k with hlt|hge
    ·exact absurd ⟨j,hlt,hj'⟩ hj
    ·exact hge⟩
theorem cI(hD:Bf P n):∀(ic:IC)(c:Code)(G₀:Gh)(w₀:World)(Q:Exit->St->Prop)(Q':Exit->Act->World->Prop)(G:Gh)(E:St)(a:Act)(w:World),
 ks P n c ic=true->Rel n D G₀ w₀ Q Q'->Inv G n D E a w->az G₀ w₀ G w->fN P ic Q E->c.wp P Q' a w
 |.skip,c,G₀,w₀,Q,Q',G,E,a,w,hc,hr,h,hp,hw=>by
  cases c<;>first|(simp[ks]at hc;done)|skip
  exact wp_skip (hr _ G E a w h hp hw)
 |.bP q bj live,c,G₀,w₀,Q,Q',G,E,a,w,hc,hr,h,hp,hw=>by
  cases c<;>first|(simp[ks]at hc;done)|skip
  rename_i id ops draw
  simp only[ks,Bool.and_eq_true]at hc
  have hn:∀G' E' a' w',Inv G' n D E' a' w'->az G₀ w₀ G' w'->sr live Q E'->Q' .normal a' w':=fun G' E' a' w' h1 h2 h3=>hr _ G' _ a' w' (h1.tG live) h2 h3
  cases q with
  |none=>
   have hdr:draw=false:=by simpa using hc.2
   subst hdr
   exact wp_region_list (pn G₀ w₀ hn ops.toList bj G E a w hc.1 h hp hw)
  |some q=>
   have hdr:draw=true->LB ops q bj=true:=fun hd=>by
    have:=hc.2
    rw[hd]at this
    simpa using this
   exact hD.1 D draw id ops bj q G E a w _ Q' hc.1 hdr h hw fun G' E' a' w' h1 h2 h3=>hn G' E' a' w' h1 (hp.trans h2) h3
 |.C7 T q bj live,c,G₀,w₀,Q,Q',G,E,a,w,hc,hr,h,hp,hw=>by
  cases c<;>first|(simp[ks]at hc;done)|skip
  rename_i id ops draw
  simp only[ks,Bool.and_eq_true]at hc
  have hn:∀G' E' a' w',Inv G' n D E' a' w'->az G₀ w₀ G' w'->sr live Q E'->Q' .normal a' w':=fun G' E' a' w' h1 h2 h3=>hr _ G' _ a' w' (h1.tG live) h2 h3
  have hdr:draw=true->FY T ops q bj=true:=fun hd=>by
   have:=hc.2
   rw[hd]at this
   simpa using this
  exact hD.2.1 D draw id ops bj T q G E a w _ Q' hc.1 hdr h hw.1 hw.2 fun G' E' a' w' h1 h2 h3=>hn G' E' a' w' h1 (hp.trans h2) h3
 |.Az T l live,c,G₀,w₀,Q,Q',G,E,a,w,hc,hr,h,hp,hw=>by
  cases c<;>first|(simp[ks]at hc;done)|skip
  rename_i id ops draw
  simp only[ks,Bool.and_eq_true]at hc
  obtain⟨rfl,hc⟩:=hc
  have hn:∀G' E' a' w',Inv G' n D E' a' w'->az G₀ w₀ G' w'->sr live Q E'->Q' .normal a' w':=fun G' E' a' w' h1 h2 h3=>hr _ G' _ a' w' (h1.tG live) h2 h3
  exact hD.2.2.1 D id ops T l G E a w _ Q' hc h hw.1 hw.2 fun G' E' a' w' h1 h2 h3=>hn G' E' a' w' h1 (hp.trans h2) h3
 |.Nx fB bj live,c,G₀,w₀,Q,Q',G,E,a,w,hc,hr,h,hp,hw=>by
  cases c<;>first|(simp[ks]at hc;done)|skip
  rename_i id ops draw
  simp only[ks,Bool.and_eq_true]at hc
  obtain⟨rfl,hc1,hc2⟩:=hc
  have hn:∀G' E' a' w',Inv G' n D E' a' w'->az G₀ w₀ G' w'->sr live Q E'->Q' .normal a' w':=fun G' E' a' w' h1 h2 h3=>hr _ G' _ a' w' (h1.tG live) h2 h3
  exact hD.2.2.2 D id ops fB bj G E a w _ Q' hc1 hc2 h hw fun G' E' a' w' h1 h2 h3=>hn G' E' a' w' h1 (hp.trans h2) h3
 |.seq x y,c,G₀,w₀,Q,Q',G,E,a,w,hc,hr,h,hp,hw=>by
  cases c<;>first|(simp[ks]at hc;done)|skip
  rename_i c1 c2
  simp only[ks,Bool.and_eq_true]at hc
  refine wp_seq (cI hD x c1 G₀ w₀ (AO P y Q) _ G E a w hc.1 ?_ h hp ?_)
  ·intro e G' E' a' w' h1 h2 h3
   cases e with
   |normal=>exact cI hD y c2 G₀ w₀ Q Q' G' E' a' w' hc.2 hr h1 h2 h3
   |_=>exact hr _ G' E' a' w' h1 h2 h3
  ·have:(fun x τ=>match x with|.normal=>fN P y Q τ|x=>Q x τ)=AO P y Q:=by
    funext e τ;cases e<;>rfl
   have hw':fN P x (fun x τ=>match x with|.normal=>fN P y Q τ|x=>Q x τ) E:=hw
   rw[this]at hw'
   exact hw'
 |.cond cx x y,c,G₀,w₀,Q,Q',G,E,a,w,hc,hr,h,hp,hw=>by
  cases c<;>first|(simp[ks]at hc;done)|skip
  rename_i o c1 c2
  simp only[ks,Bool.and_eq_true]at hc
  obtain⟨⟨hx,h1⟩,h2⟩:=hc
  have hb:=XR.aG h hx
  have hw':LI P x y Q E (E.x cx):=by
   have:fN P (.cond cx x y) Q E=LI P x y Q E (E.x cx):=by
    show(match E.x cx with|.bool v=>(v=true->fN P x Q E)/\(v=false->fN P y Q E)|_=>False)=_
    cases E.x cx<;>rfl
   rw[<-this];exact hw
  generalize E.x cx=xv at hb hw'
  cases xv<;>try exact hw'.elim
  rename_i v
  have hv:=VR.fR hb
  exact wp_cond_split hv (fun hv=>cI hD x c1 G₀ w₀ Q Q' G E a w h1 hr h hp (hw'.1 hv)) (fun hv=>cI hD y c2 G₀ w₀ Q Q' G E a w h2 hr h hp (hw'.2 hv))
 |.block id x,c,G₀,w₀,Q,Q',G,E,a,w,hc,hr,h,hp,hw=>by
  cases c<;>first|(simp[ks]at hc;done)|skip
  rename_i id' c1
  simp only[ks,Bool.and_eq_true,beq_iff_eq]at hc
  obtain⟨rfl,hc⟩:=hc
  refine wp_block (cI hD x c1 G₀ w₀ (J9 id' Q) _ G E a w hc ?_ h hp hw)
  intro e G' E' a' w' h1 h2 h3
  cases e with
  |exit i=>
   have h3':(bif i==id' then Q .normal E' else Q (.exit i) E'):=h3
   by_cases hi:i=id'
   ·have:(i==id')=true:=by simpa using hi
    rw[this]at h3'
    simpa[Exit.inBlock,hi]using hr _ G' E' a' w' h1 h2 h3'
   ·have:(i==id')=false:=by simpa using hi
    rw[this]at h3'
    simpa[Exit.inBlock,hi]using hr _ G' E' a' w' h1 h2 h3'
  |_=>exact hr _ G' E' a' w' h1 h2 h3
 |.loop live x,c,G₀,w₀,Q,Q',G,E,a,w,hc,hr,h,hp,hw=>by
  cases c<;>first|(simp[ks]at hc;done)|skip
  rename_i c1
  simp only[ks]at hc
  obtain⟨I,μ,h0,hI⟩:=hw
  have key:∀(m:Nat)(G:Gh)(E:St)(a:Act)(w:World),Inv G n D E a w->az G₀ w₀ G w->I E->μ E<m->Code.rounds P c1 Q' m a w:=by
   intro m
   induction m with
   |zero=>intro G E a w _ _ _ hm;omega
   |succ m ih=>
    intro G E a w h hp hi hm
    rw[rounds_succ]
    refine cI hD x c1 G₀ w₀ (E6 live I μ (μ E) Q) _ G E a w hc ?_ h hp (hI E hi)
    intro e G' E' a' w' h1 h2 h3
    cases e with
    |normal=>exact ih G' _ a' w' (h1.df live) h2 h3.1 (by have:=h3.2;omega)
    |_=>exact hr _ G' E' a' w' h1 h2 h3
  exact wp_loop_rounds (μ (E.df live)+1) (key _ G _ a w (h.df live) hp h0 (by omega))
 |.join live x y,c,G₀,w₀,Q,Q',G,E,a,w,hc,hr,h,hp,hw=>by
  cases c<;>first|(simp[ks]at hc;done)|skip
  rename_i c1 c2
  simp only[ks,Bool.and_eq_true]at hc
  obtain⟨J,h0,hJ⟩:=hw
  refine wp_seq (cI hD x c1 G₀ w₀ (nA live J Q) _ G E a w hc.1 ?_ h hp h0)
  intro e G' E' a' w' h1 h2 h3
  cases e with
  |normal=>exact cI hD y c2 G₀ w₀ Q Q' G' _ a' w' hc.2 hr (h1.df live) h2 (hJ _ h3)
  |_=>exact hr _ G' E' a' w' h1 h2 h3
 |.exit id,c,G₀,w₀,Q,Q',G,E,a,w,hc,hr,h,hp,hw=>by
  cases c<;>first|(simp[ks]at hc;done)|skip
  simp only[ks,beq_iff_eq]at hc
  subst hc
  exact wp_exit (hr _ G E a w h hp hw)
 |.scope x,c,G₀,w₀,Q,Q',G,E,a,w,hc,hr,h,hp,hw=>by
  cases c<;>first|(simp[ks]at hc;done)|skip
  rename_i c1
  simp only[ks]at hc
  have hw':fN P x (Lh Q) E:=by
   have:(fun x τ=>match x with|.goto _=>False|x=>Q x τ)=Lh Q:=by funext e τ;cases e<;>rfl
   have hw':fN P x (fun x τ=>match x with|.goto _=>False|x=>Q x τ) E:=hw
   rw[this]at hw'
   exact hw'
  refine wp_scope_straight (cI hD x c1 G₀ w₀ (Lh Q) _ G E a w hc ?_ h hp hw')
  intro e G' E' a' w' h1 h2 h3
  cases e with
  |goto l=>exact h3
  |_=>exact hr _ G' E' a' w' h1 h2 h3
 |.vu l live x1 x2 x3 y,c,G₀,w₀,Q,Q',G,E,a,w,hc,hr,h,hp,hw=>by
  unfold ks at hc
  split at hc<;>try(cases hc;done)
  all_goals first|(rename_i he;cases he;done)|skip
  rename_i c1 m aeU x1' x2' x3' y' he
  injection he with e1 e2 e3 e4 e5 e6
  subst e1;subst e2;subst e3;subst e4;subst e5;subst e6
  have hw':fN P x1 (AO P x2 (AO P x3 (JL live (Sc P l live y Q) Q))) E:=by rw[<-Ki];exact hw
  let C:(St->Prop)->(St->Nat)->Prop:=fun I μ=>∀τ,I τ->fN P y (KL l live (fun ρ'=>I ρ'/\μ ρ'<μ τ) Q) τ
  have key:∀(L:List Code)(cr:Code),ze c1 l=some (L,cr)->ks P n cr y=true->
   (∀Q0:Exit->Act->World->Prop,(∀e a w,e≠.normal->(∃G τ,Inv G n D τ a w/\az G₀ w₀ G w/\JL live (Sc P l live y Q) Q e τ)->Q0 e a w)->
     (∀a w,(∃G τ,Inv G n D τ a w/\az G₀ w₀ G w/\Sc P l live y Q (τ.df live))->((Code.label l).seq cr).wp P Q0 a w)->(L.foldr Code.seq (.seq (.label l) cr)).wp P Q0 a w)->
   (Code.scope c1).wp P Q' a w:=by
   intro L cr hsp hcr Gk
   obtain⟨hc1,hfl⟩:=NI _ hsp
   refine wp_scope_jumps l (fun a w=>∃k,nL n D G₀ w₀ C a w k) (KP n D G₀ w₀ C) hfl ?_ ?_
   ·rw[hc1]
    refine Gk _ (fun e a' w' he⟨G',τ,h1,h2,h3⟩=>?_) (fun a' w'⟨G',τ,h1,h2,h3⟩=>?_)
    ·cases e with
     |goto l=>exact h3.elim
     |normal=>exact absurd rfl he
     |_=>exact hr _ G' τ a' w' h1 h2 h3
    ·obtain⟨I,μ,h4,hI⟩:=h3
     refine wp_seq (wp_label ?_)
     refine cI hD y cr G₀ w₀ _ _ G' _ a' w' hcr ?_ (h1.df live) h2 (hI _ h4)
     intro e G2 σ2 a2 w2 q1 q2 q3
     cases e with
     |goto l=>exact⟨q3.1,_,I,μ,G2,_,hI,q1.df live,q2,q3.2.1,Nat.le_refl _⟩
     |_=>exact hr _ G2 σ2 a2 w2 q1 q2 q3
   ·intro a' w' hJ
    obtain⟨I,μ,G',τ,hI,h1,h2,h3,h4⟩:=(zI hJ).1
    refine wp_seq (wp_skip ?_)
    refine cI hD y cr G₀ w₀ _ _ G' τ a' w' hcr ?_ h1 h2 (hI _ h3)
    intro e G2 σ2 a2 w2 q1 q2 q3
    cases e with
    |goto l=>
     have hk:nL n D G₀ w₀ C a2 w2 (μ (σ2.df live)):=⟨I,μ,G2,_,hI,q1.df live,q2,q3.2.1,Nat.le_refl _⟩
     refine⟨q3.1,⟨_,hk⟩,?_⟩
     have:=(zI ⟨_,hk⟩).2 _ hk
     have:=q3.2.2
     omega
    |_=>exact hr _ G2 σ2 a2 w2 q1 q2 q3
  split at hc
  ·rename_i cr hsp
   simp only[Bool.and_eq_true]at hc
   obtain⟨k1,k2,k3,hcr⟩:=hc
   rw[mn k1,mn k2,mn k3]at hw'
   exact key _ _ hsp hcr fun Q0 _ hb=>hb _ _ ⟨G,E,h,hp,hw'⟩
  ·rename_i s1 cr hsp
   simp only[Bool.and_eq_true]at hc
   obtain⟨k1,k2,k3,hcr⟩:=hc
   rw[mn k2,mn k3]at hw'
   refine key _ _ hsp hcr fun Q0 ha hb=>wp_seq (cI hD x1 s1 G₀ w₀ _ _ G E a w k1 ?_ h hp hw')
   intro e G' E' a' w' h1 h2 h3
   cases e with
   |normal=>exact hb _ _ ⟨G',E',h1,h2,h3⟩
   |_=>exact ha _ _ _ (by simp) ⟨G',E',h1,h2,h3⟩
  ·rename_i s1 s2 cr hsp
   simp only[Bool.and_eq_true]at hc
   obtain⟨k1,k2,k3,hcr⟩:=hc
   rw[mn k3]at hw'
   refine key _ _ hsp hcr fun Q0 ha hb=>wp_seq (cI hD x1 s1 G₀ w₀ _ _ G E a w k1 ?_ h hp hw')
   intro e G' E' a' w' h1 h2 h3
   cases e with
   |normal=>
    refine wp_seq (cI hD x2 s2 G₀ w₀ _ _ G' E' a' w' k2 ?_ h1 h2 h3)
    intro e G' E' a' w' h1 h2 h3
    cases e with
    |normal=>exact hb _ _ ⟨G',E',h1,h2,h3⟩
    |_=>exact ha _ _ _ (by simp) ⟨G',E',h1,h2,h3⟩
   |_=>exact ha _ _ _ (by simp) ⟨G',E',h1,h2,h3⟩
  ·rename_i s1 s2 s3 cr hsp
   simp only[Bool.and_eq_true]at hc
   obtain⟨k1,k2,k3,hcr⟩:=hc
   refine key _ _ hsp hcr fun Q0 ha hb=>wp_seq (cI hD x1 s1 G₀ w₀ _ _ G E a w k1 ?_ h hp hw')
   intro e G' E' a' w' h1 h2 h3
   cases e with
   |normal=>
    refine wp_seq (cI hD x2 s2 G₀ w₀ _ _ G' E' a' w' k2 ?_ h1 h2 h3)
    intro e G' E' a' w' h1 h2 h3
    cases e with
    |normal=>
     refine wp_seq (cI hD x3 s3 G₀ w₀ _ _ G' E' a' w' k3 ?_ h1 h2 h3)
     intro e G' E' a' w' h1 h2 h3
     cases e with
     |normal=>exact hb _ _ ⟨G',E',h1,h2,h3⟩
     |_=>exact ha _ _ _ (by simp) ⟨G',E',h1,h2,h3⟩
    |_=>exact ha _ _ _ (by simp) ⟨G',E',h1,h2,h3⟩
   |_=>exact ha _ _ _ (by simp) ⟨G',E',h1,h2,h3⟩
  ·cases hc
 |.label l,c,G₀,w₀,Q,Q',G,E,a,w,hc,hr,h,hp,hw=>by
  cases c<;>first|(simp[ks]at hc;done)|skip
  exact wp_label (hr _ G E a w h hp hw)
 |.goto l,c,G₀,w₀,Q,Q',G,E,a,w,hc,hr,h,hp,hw=>by
  cases c<;>first|(simp[ks]at hc;done)|skip
  simp only[ks,beq_iff_eq]at hc
  subst hc
  exact wp_goto (hr _ G E a w h hp hw)
 |.dead,c,G₀,w₀,Q,Q',G,E,a,w,hc,hr,h,hp,hw=>(show False from hw).elim
 |.ret,c,G₀,w₀,Q,Q',G,E,a,w,hc,hr,h,hp,hw=>by
  cases c<;>first|(simp[ks]at hc;done)|skip
  exact wp_ret (hr _ G E a w h hp hw)
end
structure mw where
 t:Nat
 own:Bool
 cell:Option (Nat×Bool):=none
 deriving Inhabited
def Qv(multi:Bool):Option (List AV)->AV
 |some cs=>oz multi cs
 |none=>.undef
def qS(E:St)(r:mw):AV:=match r.cell with
 |none=>bif r.own then look E.e r.t else view (look E.e r.t)
 |some (n,multi)=>Qv multi (rd E (look E.e r.t) n)
def kC(E:St)(res:List mw):List AV:=res.map (qS E)
def iW(P:Program):List ResultVar->List mw->Bool
 |[],[]=>true
 |.tmp t::r,i::s=>t==i.t&&i.cell.isNone&&(!i.own||s.all fun j=>!(j.own&&j.t==i.t))&&iW P r s
 |.cell t ty::r,i::s=>t==i.t&&!i.own&&(match i.cell with
  |some (n,multi)=>cH P ty n&&oy P ty multi&&(multi||n==1)
  |none=>false)&&iW P r s
 |_,_=>false
def qc:Nat->List AV->List (Nat×AV)
 |_,[]=>[]
 |i,a::r=>(i,view a)::qc (i+1) r
def start(args:List AV)(s:ab):St:={e:=qc 0 args,lp:=[],s:=s}
def Bm(cs:List AV):Bool:=cs.all cO
def Hx(res:List mw)(Q:List AV->ab->Prop):Exit->St->Prop
 |.ret,E=>Bm (kC E res)=true/\Q (kC E res) E.s
 |.normal,E=>Bm (kC E res)=true/\Q (kC E res) E.s
 |_,_=>False
def aY(P:Program)(f:FuncId)(n:Nat)(res:List mw)(ic:IC):Bool:=match P.funcs[f]? with
 |some fn=>fn.ntmps==n&&iW P fn.results.toList res&&(match fn.body with
  |some c=>ks P n c ic
  |none=>false)
 |none=>false
section
variable{P:Program}{G G':Gh}{n:Nat}{D:List Deferred}{E:St}{a:Act}{w w':World}
theorem nC(i:Nat):∀(args:List AV)(k:Nat),look (qc k args) i=if k<=i then(match args[i -k]? with|some a=>view a|none=>.undef)else .undef
 |[],k=>by
  show AV.undef=_
  split<;>simp
 |a::r,k=>by
  show look ((k,view a)::qc (k+1) r) i=_
  rw[aM,nC i r (k+1)]
  by_cases h:k=i
  ·subst h;simp
  ·by_cases h2:k<=i
   ·have h3:k+1<=i:=by omega
    have h4:i -k=(i -(k+1))+1:=by omega
    rw[if_neg h,if_pos h3,if_pos h2,h4,List.getElem?_cons_succ]
   ·rw[if_neg h,if_neg (by omega),if_neg h2]
theorem zf{args:List AV}{s:ab}{vs:Array Value}(hg:bR G w)(hs:aO G w s)(ha:nq w G.R args vs)(hv:Bm args=true)(hn:args.length<=n):
 Inv G n [] (start args s) {tmps:=vs++Array.replicate (n -vs.size) undef,defers:=[]} w:=by
 have hsz:vs.size=args.length:=ha.1
 refine⟨hg,hs,by simp;omega,fun i v hi=>?_,fun i hi=>?_,fun i t ht=>?_,rfl⟩
 ·show cN G w (qc 0 args) _ i (look (qc 0 args) i) v
  rw[nC,if_pos (Nat.zero_le _),Nat.sub_zero]
  cases hai:args[i]? with
  |none=>exact⟨.undef _,trivial⟩
  |some av=>
   have hlt:i<args.length:=(List.getElem?_eq_some_iff.1 hai).1
   have hvi:vs[i]? =some v:=by
    have hi':(vs++Array.replicate (n -vs.size) undef)[i]? =some v:=hi
    rw[Array.getElem?_append_left (by omega)]at hi'
    exact hi'
   have hV:cO av=true:=by
    have:=List.all_eq_true.1 hv
    exact this av (List.mem_of_getElem? hai)
   exact cN.wW hV (ha.2 i av v hai hvi)
 ·show look (qc 0 args) i=.undef
  rw[nC,if_pos (Nat.zero_le _),Nat.sub_zero,List.getElem?_eq_none (by omega)]
 ·have ht':bd (look (qc 0 args) i) t:=ht
  rw[nC,if_pos (Nat.zero_le _),Nat.sub_zero]at ht'
  cases hai:args[i]? with
  |none=>rw[hai]at ht';exact ht'.elim
  |some av=>
   rw[hai]at ht'
   have hV:cO av=true:=List.all_eq_true.1 hv av (List.mem_of_getElem? hai)
   exact(dN (jW hV) t ht').elim
def Fp:List mw->Nat->Nat->Option Nat
 |[],_,_=>none
 |r::s,k,i=>bif r.own&&r.t==i then some k else Fp s (k+1) i
def Cw(G:Gh)(res:List mw):cD->cD
 |.none=>.none
 |.frame=>.frame
 |.sh=>.sh
 |.slot i j=>(match j,Fp res 0 i with
  |0,some k=>.res k
  |_,_=>.none)
 |.cell b j=>if G.O b=.sh then .cell b j else .none
 |_=>.none
theorem Fq:∀(vs:List ResultVar)(res:List mw),iW P vs res=true->vs.length=res.length
 |[],[],_=>rfl
 |v::vs,r::res,h=>by
  have:iW P vs res=true:=by cases v<;>simp only[iW,Bool.and_eq_true]at h<;>exact h.2
  simp[Fq vs res this]
 |[],_::_,h=>by simp[iW]at h
 |_::_,[],h=>by simp[iW]at h
theorem vo:∀(vs:List ResultVar)(res:List mw)(k j:Nat)(r:mw),iW P vs res=true->res[j]? =some r->r.own=true->Fp res k r.t=some (k+j)
 |v::vs,r0::res,k,0,r,_,hj,ho=>by
  simp at hj;subst hj
  simp[Fp,ho]
 |v::vs,r0::res,k,j+1,r,h,hj,ho=>by
  have hj':res[j]? =some r:=by simpa using hj
  have ZU:iW P vs res=true:=by cases v<;>simp only[iW,Bool.and_eq_true]at h<;>exact h.2
  have hne:(r0.own&&r0.t==r.t)=false:=by
   cases hr0:r0.own with
   |false=>rfl
   |true=>
    cases v with
    |cell=>simp[iW,hr0]at h
    |tmp t=>
    simp only[iW,Bool.and_eq_true]at h
    have h1:=h.1.2
    rw[hr0]at h1
    have h1':∀x∈res,x.own=false\/¬x.t=r0.t:=by simpa using h1
    rcases h1' r (List.mem_of_getElem? hj')with e|e
    ·rw[ho]at e;cases e
    ·simpa using fun e'=>e e'.symm
  show(bif r0.own&&r0.t==r.t then some k else Fp res (k+1) r.t)=_
  rw[hne]
  show Fp res (k+1) r.t=_
  rw[vo vs res (k+1) j r ZU hj' ho]
  congr 1;omega
 |[],r0::res,_,_,_,h,_,_=>by simp[iW]at h
 |_,[],_,_,_,_,hj,_=>by simp at hj
theorem cN.Ss{G:Gh}{w:World}{e:List (Nat×AV)}{tmps:Array Value}{i:Nat}{a:AV}{v:Value}(h:cO a=true\/cO (view a)=true):cN G w e tmps i a v->(VR w G.R a v/\cQ G w (.slot i 0) a v):=by cases a<;>simp_all [cO,view,cN]
def JE(vs:Array Value):Value:=if h:vs.size=1 then vs[0]else .tuple vs
theorem mapM_some{α β:Type}(f:α->Sem β)(w:World):∀(l:List α)(vs:List β),l.length=vs.length->(∀(j:Nat)(x:α)(v:β),l[j]? =some x->vs[j]? =some v->(f x).run P w=.ok v w)->(l.mapM f).run P w=.ok vs w
 |[],[],_,_=>by simp
 |x::l,v::vs,hl,h=>by
  rw[List.mapM_cons]
  simp[h 0 x v rfl rfl,mapM_some f w l vs (by simpa using hl) (fun j y z hy hz=>h (j+1) y z (by simpa using hy) (by simpa using hz))]
 |[],_::_,hl,_=>by simp at hl
 |_::_,[],hl,_=>by simp at hl
def yx(tmps:Array Value):ResultVar->Sem Value
 |.tmp t=>pure (tmps.getD t undef)
 |.cell a t=>do loadVar t (<-asAddr (tmps.getD a undef))
theorem JF{fn:Func}(tmps:Array Value)(w:World)(vs:List Value)(hl:fn.results.toList.length=vs.length)(h:∀(j:Nat)(x:ResultVar)(v:Value),fn.results.toList[j]? =some x->vs[j]? =some v->(yx tmps x).run P w=.ok v w):
 (results fn tmps).run P w=.ok (JE vs.toArray) w:=by
 have e:(fn.results.toList.mapM (yx tmps)).run P w=.ok vs w:=mapM_some _ w _ _ hl h
 unfold results
 rw[Array.mapM_eq_mapM_toList]
 have key:∀F:ResultVar->Sem Value,F=yx tmps->(do let vs<-List.toArray<$>fn.results.toList.mapM F;pure (if h:vs.size=1 then vs[0]else .tuple vs):Sem Value).run P w=.ok (JE vs.toArray) w:=by
  intro F hF
  subst hF
  simp only[Sem.run_bind,Sem.run_map,e,Result.andThen_ok]
  rfl
 exact key _ (by funext x;cases x<;>rfl)
theorem Ms{fn:Func}{res:List mw}{Q:List AV->ab->Prop}{E':St}{a':Act}(ko:iW P fn.results.toList res=true)(h:Inv G' n D E' a' w')(hp:az G w G' w')(cE:Bm (kC E' res)=true)(hQ:Q (kC E' res) E'.s):
 ∃v,(results fn a'.tmps).run P w'=.ok v w'/\∃v' rs s' G'',Ending.returned v=.returned v'/\Q rs s'/\bR G'' w'/\aO G'' w' s'/\nj G'' w' rs v'/\az G w G'' w':=by
 let G2:Gh:=⟨G'.R,fun b=>Cw G' res (G'.O b)⟩
 have hV:∀(j:Nat)(r:mw),res[j]? =some r->cO (qS E' r)=true:=fun j r hj=>by
  refine List.all_eq_true.1 cE _ ?_
  exact List.mem_map.2 ⟨r,List.mem_of_getElem? hj,rfl⟩
 have hlen:=Fq _ _ ko
 have get:∀(vs:List ResultVar)(rs:List mw),iW P vs rs=true->∀(j:Nat)(x:ResultVar)(r:mw),vs[j]? =some x->rs[j]? =some r->
  (x=.tmp r.t/\r.cell=none)\/∃ty n m,x=.cell r.t ty/\r.cell=some (n,m)/\r.own=false/\cH P ty n=true/\oy P ty m=true/\(m||n==1)=true:=by
  intro vs
  induction vs with
  |nil=>intro rs _ j x r hx;simp at hx
  |cons v vs ih=>
   intro rs hh j x r hx hr
   cases rs with
   |nil=>simp at hr
   |cons r0 rs=>
    cases j with
    |succ j=>
     refine ih rs ?_ j x r (by simpa using hx) (by simpa using hr)
     cases v<;>simp only[iW,Bool.and_eq_true]at hh<;>exact hh.2
    |zero=>
     simp at hx hr;subst hx;subst hr
     cases v with
     |tmp t=>
      simp only[iW,Bool.and_eq_true,beq_iff_eq]at hh
      exact .inl ⟨by rw[hh.1.1.1],by simpa using hh.1.1.2⟩
     |cell t ty=>
      simp only[iW,Bool.and_eq_true,beq_iff_eq]at hh
      obtain⟨⟨⟨h1,h2⟩,h3⟩,_⟩:=hh
      split at h3
      ·rename_i n m hc
       simp only[Bool.and_eq_true]at h3
       exact .inr ⟨ty,n,m,by rw[h1],hc,by simpa using h2,h3.1.1,h3.1.2,h3.2⟩
      ·cases h3
 have BN:∀(j:Nat)(x:ResultVar)(r:mw),fn.results.toList[j]? =some x->res[j]? =some r->∃v,(yx a'.tmps x).run P w'=.ok v w'/\VR w' G2.R (qS E' r) v/\cQ G2 w' (.res j) (qS E' r) v:=by
  intro j x r hx hj
  have hi:=hV j r hj
  have hlk:look E'.e r.t≠.undef:=by
   intro e
   unfold qS at hi
   rw[e]at hi
   cases hr:r.cell with
   |none=>
    rw[hr]at hi
    cases ho:r.own with
    |true=>rw[ho]at hi;cases hi
    |false=>rw[ho]at hi;cases hi
   |some nm=>rw[hr]at hi;obtain⟨n1,m1⟩:=nm;cases hi
  have hlt:r.t<a'.tmps.size:=by rw[h.size];exact h.Jk hlk
  rcases get _ _ ko j x r hx hj with⟨rfl,cS⟩|⟨ty,n1,m1,rfl,cS,ho,hs1,ha1,h11⟩
  ·refine⟨a'.tmps.getD r.t undef,rfl,?_⟩
   have hi':cO (look E'.e r.t)=true\/cO (view (look E'.e r.t))=true:=by
    unfold qS at hi
    rw[cS]at hi
    cases hr:r.own with
    |true=>rw[hr]at hi;exact .inl hi
    |false=>rw[hr]at hi;exact .inr hi
   have hs:=h.bO r.t _ (fh hlt)
   replace hs:=cN.Ss hi' hs
   have he:a'.eval (.tmp r.t)=a'.tmps.getD r.t undef:=rfl
   rw[he]at hs
   unfold qS
   rw[cS]
   cases hr:r.own with
   |false=>exact⟨hs.1.view,cQ.view ..⟩
   |true=>
    refine⟨hs.1,?_⟩
    have ho:=hs.2
    show cQ G2 w' (.res j) (look E'.e r.t) _
    unfold cQ at ho⊢
    split
    ·rename_i sz m cs hsl
     rw[hsl]at ho
     intro base m' cap hv hc
     obtain⟨b,off,c,e,fz,q1,q2,q3⟩:=ho base m' cap hv hc
     refine⟨b,off,c,e,fz,q1,?_,q3⟩
     show Cw G' res (G'.O b)=.res j
     rw[q2]
     have:=vo fn.results.toList res 0 j r ko hj hr
     simp[Cw,this]
    ·rename_i e m cs hsl
     rw[hsl]at ho
     intro base m' cap hv hc
     obtain⟨b,off,c,fz,q1,q2,q3⟩:=ho base m' cap hv hc
     refine⟨b,off,c,fz,q1,?_,q3⟩
     show Cw G' res (G'.O b)=.res j
     rw[q2]
     have:=vo fn.results.toList res 0 j r ko hj hr
     simp[Cw,this]
    ·trivial
  ·unfold qS at hi⊢
   rw[cS]at hi⊢
   have hb:BR G' w' E' a' (.t r.t) (look E'.e r.t) (a'.tmps.getD r.t undef):=by
    have:=BR.aG h (o:=.tmp r.t) (x:=.t r.t) (by simp[bp])
    have hun:xg true E' (.t r.t)=vz true (look E'.e r.t):=rfl
    rw[hun]at this
    generalize look E'.e r.t=av at this hi
    cases av<;>first|exact this|(cases hi;done)|trivial
   have hi:cO (Qv m1 (rd E' (look E'.e r.t) n1))=true:=hi
   show∃v,_/\VR w' G2.R (Qv m1 (rd E' (look E'.e r.t) n1)) v/\cQ G2 w' (.res j) (Qv m1 (rd E' (look E'.e r.t) n1)) v
   cases hrd:rd E' (look E'.e r.t) n1 with
   |none=>rw[hrd]at hi;cases hi
   |some cs=>
    obtain⟨b,off,e,hl,hat,hvw⟩:=CU h hb hrd
    obtain⟨v,bk,hvr⟩:=nY hs1 ha1 h11 hl hat
    refine⟨v,?_,hvr,?_⟩
    ·show(do loadVar ty (<-asAddr (a'.tmps.getD r.t undef)):Sem Value).run P w'=_
     rw[e]
     simp[asAddr,bk]
    ·have IU:=Dt (multi:=m1) hvw
     show cQ G2 w' (.res j) (oz m1 cs) v
     rw[<-IU];exact cQ.view ..
 have ZE:∃vs:List Value,fn.results.toList.length=vs.length/\∀(j:Nat)(x:ResultVar)(r:mw)(v:Value),fn.results.toList[j]? =some x->res[j]? =some r->vs[j]? =some v->(yx a'.tmps x).run P w'=.ok v w'/\VR w' G2.R (qS E' r) v/\cQ G2 w' (.res j) (qS E' r) v:=by
  have hch:∀j:Fin fn.results.toList.length,∃v,∀(x:ResultVar)(r:mw),fn.results.toList[j.1]? =some x->res[j.1]? =some r->(yx a'.tmps x).run P w'=.ok v w'/\VR w' G2.R (qS E' r) v/\cQ G2 w' (.res j.1) (qS E' r) v:=by
   intro j
   have hr:j.1<res.length:=by rw[<-hlen];exact j.2
   obtain⟨v,hv⟩:=BN j.1 _ _ (List.getElem?_eq_getElem j.2) (List.getElem?_eq_getElem hr)
   refine⟨v,fun x r hx hr'=>?_⟩
   rw[List.getElem?_eq_getElem j.2]at hx
   rw[List.getElem?_eq_getElem hr]at hr'
   injection hx with hx;injection hr' with hr'
   subst hx;subst hr'
   exact hv
  refine⟨List.ofFn fun j=>(hch j).choose,by simp,fun j x r v hx hr hv=>?_⟩
  have hj:j<fn.results.toList.length:=(List.getElem?_eq_some_iff.1 hx).1
  have:=(hch ⟨j,hj⟩).choose_spec x r hx hr
  simp only[List.getElem?_ofFn,hj,dite_true]at hv
  injection hv with hv
  rw[hv]at this
  exact this
 obtain⟨vs,hvl,hvs⟩:=ZE
 refine⟨_,JF a'.tmps w' vs hvl (fun j x v hx hv=>by
  have hj:j<res.length:=by rw[<-hlen];exact(List.getElem?_eq_some_iff.1 hx).1
  exact(hvs j x _ v hx (List.getElem?_eq_getElem hj) hv).1),?_⟩
 have wc:∀(j:Nat)(r:mw)(v:Value),res[j]? =some r->vs[j]? =some v->VR w' G2.R (qS E' r) v/\cQ G2 w' (.res j) (qS E' r) v:=by
  intro j r v hr hv
  have hj:j<fn.results.toList.length:=by rw[hvl];exact(List.getElem?_eq_some_iff.1 hv).1
  exact(hvs j _ r v (List.getElem?_eq_getElem hj) hr hv).2
 have adO:vs.length=res.length:=by rw[<-hvl,hlen]
 refine⟨_,kC E' res,E'.s,G2,rfl,hQ,⟨fun b hb=>?_,h.aJ.iT⟩,?_,?_,?_⟩
 ·show Cw G' res (G'.O b)=.none
  rw[h.aJ.ik b hb];rfl
 ·refine h.store.wX (fun _ _ hv=>hv) (fun b hb=>⟨?_,rfl,rfl⟩) (fun b c j hb hc=>⟨?_,rfl,rfl⟩)
  ·show Cw G' res (G'.O b)=.sh
   rw[hb];rfl
  ·show Cw G' res (G'.O c)=.cell b j
   rw[hc];simp[Cw,hb]
 ·match res,vs,adO,wc with
  |[],[],_,_=>exact⟨#[],rfl,rfl,fun j x y hx=>by simp[kC]at hx⟩
  |[r],[v],_,wc=>
   have h1:=wc 0 r v rfl rfl
   have h2:=hV 0 r rfl
   show Qu G2 w' (qS E' r) v
   generalize qS E' r=av at h1 h2
   cases av<;>first|exact h1|cases h2
  |r1::r2::rr,v1::v2::vv,hl2,wc=>
   refine⟨_,rfl,by simpa[kC]using hl2,fun j x y hx hy=>?_⟩
   have hx':((r1::r2::rr).map (qS E'))[j]? =some x:=hx
   rw[List.getElem?_map]at hx'
   cases hj:(r1::r2::rr)[j]? with
   |none=>rw[hj]at hx';cases hx'
   |some r=>
    rw[hj]at hx'
    injection hx' with hx'
    have hy':(v1::v2::vv)[j]? =some y:=by simpa using hy
    subst hx'
    exact wc j r y hj hy'
 ·refine⟨hp.os,hp.tape,hp.output,hp.drawn,hp.size,hp.mono,hp.lK,hp.frame,fun b hb ho=>?_,fun b hb ho=>?_⟩
  ·obtain⟨e1,e2⟩:=hp.iG b hb ho
   exact⟨by show Cw G' res (G'.O b)=_;rw[e1];rfl,e2⟩
  ·obtain⟨e1,e2⟩:=hp.pd b hb ho
   exact⟨by show Cw G' res (G'.O b)=_;rw[e1];rfl,e2⟩
theorem FN.of{f:FuncId}{res:List mw}{ic:IC}{args:List AV}{s:ab}{Q:List AV->ab->Prop}(hD:Bf P n)(hf:aY P f n res ic=true)(hv:Bm args=true)(hn:args.length<=n)
 (hw:fN P ic (Hx res Q) (start args s)):FN P f args s Q:=by
 intro G w vs hg ho hs ha
 unfold aY at hf
 split at hf<;>try(cases hf;done)
 rename_i fn hfn
 simp only[Bool.and_eq_true,beq_iff_eq]at hf
 obtain⟨⟨rfl,ko⟩,hf⟩:=hf
 split at hf<;>try(cases hf;done)
 rename_i c hb
 refine calls_of_wp hfn hb (cI hD ic c G w (Hx res Q) _ G _ _ w hf ?_ (zf hg hs ha hv hn) (az.refl G w) hw)
 intro x G' E' a' w' h hp hq
 have fin:Bm (kC E' res)=true/\Q (kC E' res) E'.s->a'.defers=[]/\∃v,(results fn a'.tmps).run P w'=.ok v w'/\∃v' rs s' G'',Ending.returned v=.returned v'/\Q rs s'/\bR G'' w'/\aO G'' w' s'/\nj G'' w' rs v'/\az G w G'' w':=by
  intro hq
  obtain⟨cE,hQ⟩:=hq
  exact⟨h.qG,Ms ko h hp cE hQ⟩
 cases x with
 |ret=>exact fin hq
 |normal=>exact fin hq
 |_=>exact hq.elim
end
theorem fm{f f':IX->AV}:∀(xs:List IX),(∀x∈xs,f x=f' x)->bQ f xs=bQ f' xs
 |[],_=>rfl
 |x::xs,h=>by
  show MH (f x) (bQ f xs)=MH (f' x) (bQ f' xs)
  rw[h x List.mem_cons_self,fm xs fun y hy=>h y (List.mem_cons_of_mem _ hy)]
theorem uO{f f':IX->AV}:∀(ps:List (Nat×Nat×IX))(cs:List AV),(∀x∈ps.map (fun p=>p.2.2),f x=f' x)->fill f cs ps=fill f' cs ps
 |[],_,_=>rfl
 |(off,n,x)::ps,cs,h=>by
  have h1:f x=f' x:=h x (by simp)
  have ih:∀cs,fill f cs ps=fill f' cs ps:=fun cs=>uO ps cs fun y hy=>h y (by simp only[List.map_cons,List.mem_cons];exact .inr hy)
  unfold fill
  rw[h1]
  simp only[ih]
theorem kE{f f':IX->AV}(o:Option IX)(d:Int)(h:∀x∈oX o,f x=f' x):Dx f o d=Dx f' o d:=by
 cases o with
 |none=>rfl
 |some x=>simp only[Dx,h x (by simp[oX])]
theorem Qe{o:qT}{f f':IX->AV}{E E':St}(h:∀x∈cJ o,f x=f' x)(hx:∀x∈cJ o,E.x x=E'.x x)(hs:E.s=E'.s)(hrd:∀x∈cJ o,∀n,rd E (f x) n=rd E' (f x) n):pv o f E=pv o f' E':=by
 cases o<;>(try rfl)
 case iJ tr x=>cases tr<;>first|rfl|(show Ni (f x)=Ni (f' x);rw[h x (by simp[cJ])])
 case pick c x y=>show Fj (E.x x) (E.x y) (f c)=Fj (E'.x x) (E'.x y) (f' c);rw[h c (by simp[cJ]),hx x (by simp[cJ]),hx y (by simp[cJ])]
 case build z ps=>show Br (fill f z ps)=Br (fill f' z ps);rw[uO ps z h]
 case load n m x=>show iC m (rd E (f x) n)=iC m (rd E' (f' x) n);rw[hrd x (by simp[cJ]),h x (by simp[cJ])]
 case lQ k x=>show yn k E.s (f x)=yn k E'.s (f' x);rw[h x (by simp[cJ]),hs]
 case bM z m x=>show E4 z m E.s (f x)=E4 z m E'.s (f' x);rw[h x (by simp[cJ]),hs]
 case eP x=>show pJ (f x)=pJ (f' x);rw[h x (by simp[cJ])]
 case nilCheck x=>show kG (f x)=kG (f' x);rw[h x (by simp[cJ])]
 case bin b x y=>show J8 b (f x) (f y)=J8 b (f' x) (f' y);rw[h x (by simp[cJ]),h y (by simp[cJ])]
 case RG b x y=>show Ku b (f x) (f y)=Ku b (f' x) (f' y);rw[h x (by simp[cJ]),h y (by simp[cJ])]
 case HO b x y=>show DJ b (f x) (f y)=DJ b (f' x) (f' y);rw[h x (by simp[cJ]),h y (by simp[cJ])]
 case un u x=>show UJ u (f x)=UJ u (f' x);rw[h x (by simp[cJ])]
 case cC k x=>show sR k (f x)=sR k (f' x);rw[h x (by simp[cJ])]
 case de x i=>show tj (f x) (f i)=tj (f' x) (f' i);rw[h x (by simp[cJ]),h i (by simp[cJ])]
 case fieldAddr off x=>show fC off x (f x)=fC off x (f' x);rw[h x (by simp[cJ])]
 case indexAddr sz x i=>show ji sz (f x) (f i)=ji sz (f' x) (f' i);rw[h x (by simp[cJ]),h i (by simp[cJ])]
 case slice sz x lo hi mx=>
  cases mx with
  |some m=>
   have e1:=kE (f:=f) (f':=f') lo 0 fun y hy=>h y (by simp[cJ,hy])
   have e2:=kE (f:=f) (f':=f') hi 0 fun y hy=>h y (by simp[cJ,hy])
   have e3:=kE (f:=f) (f':=f') (some m) 0 fun y hy=>h y (by simp[cJ,hy])
   show qa sz f lo hi m (f x)=qa sz f' lo hi m (f' x)
   rw[h x (by simp[cJ])]
   unfold qa
   simp only[e1,e2,e3]
  |none=>
   have e1:=kE (f:=f) (f':=f') lo 0 fun y hy=>h y (by simp[cJ,hy])
   have e2:=fun d=>kE (f:=f) (f':=f') hi d fun y hy=>h y (by simp[cJ,hy])
   show sv sz f lo hi (f x)=sv sz f' lo hi (f' x)
   rw[h x (by simp[cJ])]
   unfold sv
   simp only[e1,e2]
 case js x lo hi=>
  have e1:=kE (f:=f) (f':=f') lo 0 fun y hy=>h y (by simp[cJ,hy])
  have e2:=fun d=>kE (f:=f) (f':=f') hi d fun y hy=>h y (by simp[cJ,hy])
  show kL f lo hi (f x)=kL f' lo hi (f' x)
  rw[h x (by simp[cJ])]
  unfold kL
  simp only[e1,e2]
 case Q7 b x=>show IA b (f x)=IA b (f' x);rw[h x (by simp[cJ])]
 case Vi b x=>show Kv b (f x)=Kv b (f' x);rw[h x (by simp[cJ])]
 case cap x=>show Kf (f x)=Kf (f' x);rw[h x (by simp[cJ])]
 case extract x k=>show oC k (f x)=oC k (f' x);rw[h x (by simp[cJ])]
 case len c x=>show Al E.s c (f x)=Al E'.s c (f' x);rw[h x (by simp[cJ]),hs]
 case gT m xs=>
  show tc m (xs.map f)=tc m (xs.map f')
  rw[show xs.map f=xs.map f' from List.map_congr_left h]
 case lI fi xs ys=>
  show s8 fi (bQ f xs) (bQ f ys)=s8 fi (bQ f' xs) (bQ f' ys)
  rw[fm xs fun x hx=>h x (by simp[cJ,hx]),fm ys fun x hx=>h x (by simp[cJ,hx])]
def dr(o:ai)(E:St):St:=match o.op with
 |.iJ true x=>E.drain x
 |_=>E
def step(E:St)(o:ai)(v:AV):St:=(bI (dr o E) v o.dst).put o.dst v
theorem OM{o:ai}{E:St}(h:qv o E≠.no):dr o E=E:=by
 obtain⟨d,op,g⟩:=o
 unfold dr
 split
 ·rename_i x hop
  simp only at hop
  subst hop
  refine absurd ?_ h
  cases g with
  |none=>rfl
  |some tw=>
   obtain⟨t,want⟩:=tw
   show JB (.iJ true x) want E (look E.e t)=.no
   unfold JB
   split<;>rfl
 ·rfl
inductive Y(P:Program)(E:St):ai->AV->Prop where
 |pure (o:ai) (v:AV) (h:(qv o E=.cT v\/∃c,qv o E=.prt c v/\c)):Y P E o v
 |iJ (d:Option Nat) (x:IX) (h:cO (E.x x)=true):Y P E ⟨d,.iJ true x,none⟩ (E.x x)
 |call (d:Option Nat) (f:Nat) (args:List IX) (as rs:List AV) (h1:bQ (xg true E) args=some as) (h2:iw rs=true) (h3:FE P f as E.s rs E.s):Y P E ⟨d,.call f args,none⟩ (dX rs)
 |Ie (d:Option Nat) (f:Nat) (args:List IX) (t:Nat) (want g0 b:Bool) (rs:List AV) (h0:O3 (look E.e t)=some (g0,b)) (h2:iw rs=true)
   (h1:(g0&&(b==want))=true->∃as,bQ (xg true E) args=some as/\FE P f as E.s rs E.s):Y P E ⟨d,.call f args,some (t,want)⟩ (.when (g0&&(b==want)) (dX rs))
 |dj (d:Option Nat) (x:IX) (args:List IX) (f:Nat) (as rs:List AV) (h1:callee x args true E f as) (hf:uQ P f=true) (h2:iw rs=true) (h3:FE P f as E.s rs E.s):Y P E ⟨d,.dj x args,none⟩ (dX rs)
 |BB (d:Option Nat) (x:IX) (args:List IX) (t:Nat) (want g0 b:Bool) (rs:List AV) (h0:O3 (look E.e t)=some (g0,b)) (h2:iw rs=true)
   (h1:(g0&&(b==want))=true->∃f as,callee x args true E f as/\uQ P f=true/\FE P f as E.s rs E.s):Y P E ⟨d,.dj x args,some (t,want)⟩ (.when (g0&&(b==want)) (dX rs))
 |TR (o:ai) (v:AV) (h:(CP o E=.cT v\/∃c,CP o E=.prt c v/\c)):Y P E o v
theorem WX{o:qT}{want:Bool}{E:St}{a:AV}:(∃g b,O3 a=some (g,b)/\JB o want E a=N5 (W0 o) (g&&(b==want)) (pv o (xg (g&&(b==want)) E) E))\/JB o want E a=.no:=by
 unfold JB
 split
 ·exact .inl ⟨_,_,rfl,rfl⟩
 ·exact .inl ⟨_,_,rfl,rfl⟩
 ·exact .inr rfl
theorem Qk{o:qT}{want:Bool}{E:St}{a:AV}:(∃g b,O3 a=some (g,b)/\Mp o want E a=J0 (g&&(b==want)) (qe (xg (g&&(b==want)) E) E.s o))\/Mp o want E a=.no:=by
 unfold Mp
 split
 ·exact .inl ⟨_,_,rfl,rfl⟩
 ·exact .inl ⟨_,_,rfl,rfl⟩
 ·exact .inr rfl
theorem A3{P:Program}{o:qT}{d:Option Nat}{t:Nat}{want:Bool}{E:St}{K:St->Prop}{a:AV}{g b:Bool}(h:O3 a=some (g,b)):xY P o d t want E K a=N4 P (g&&(b==want)) o E d K (pv o (xg (g&&(b==want)) E) E):=by
 unfold O3 at h
 split at h
 ·injection h with h;injection h with h1 h2;subst h1;subst h2;rfl
 ·injection h with h;injection h with h1 h2;subst h1;subst h2;rfl
 ·cases h
theorem xe{v:AV}(h:vk v=true):aZ v=true/\(∀t,¬bd v t)/\(∀τ d,bI τ v d=τ):=by cases v<;>first|(simp[vk,cO]at h;done)|exact⟨rfl,fun t h=>h,fun τ d=>by cases d<;>rfl⟩
theorem CQ{f:IX->AV}{s:ab}{o:qT}{v:AV}(h:qe f s o=.cT v\/∃c,qe f s o=.prt c v):vk v=true/\(∀g τ,pv o g τ=.no)/\(∀x,o≠.iJ true x):=by
 have tt:∀{r:PR}{u:AV},r=.cT u->(r=.cT v\/∃c,r=.prt c v)->v=u:=by
  intro r u hr h
  subst hr
  rcases h with h|⟨c,h⟩
  ·injection h with h;exact h.symm
  ·cases h
 have tp:∀{r:PR}{u:AV}{c:Prop},r=.prt c u->(r=.cT v\/∃c,r=.prt c v)->v=u:=by
  intro r u c hr h
  subst hr
  rcases h with h|⟨c',h⟩
  ·cases h
  ·injection h with _ h;exact h.symm
 have tn:∀{r:PR},r=.no->¬(r=.cT v\/∃c,r=.prt c v):=by
  intro r hr h
  subst hr
  rcases h with h|⟨c',h⟩<;>cases h
 have ok:∀(k:Bool)(a:AV)(b:Bool),(k=false->cO a=true)->vk (KZ k a b)=true:=by
  intro k a b ha
  cases k with
  |true=>rfl
  |false=>show vk a=true;have:=ha rfl;cases a<;>first|exact this|rfl
 unfold qe at h
 split at h
 ·rename_i x
  refine⟨?_,fun g τ=>rfl,fun x h=>by cases h⟩
  cases hx:f x<;>rw[hx]at h<;>first|(exact absurd h (tn rfl))|(rw[tt rfl h];rfl)
 ·rename_i sz n z ps
  refine⟨?_,fun g τ=>rfl,fun x h=>by cases h⟩
  cases hx:fill f z ps<;>rw[hx]at h
  ·exact absurd h (tn rfl)
  ·rw[tp rfl h];rfl
 ·rename_i kk zero k x ky
  refine⟨?_,fun g τ=>rfl,fun x h=>by cases h⟩
  have ck:∀{c:Prop}{a:AV}{b:Bool},(NW k c (KZ k a b)=.cT v\/∃c',NW k c (KZ k a b)=.prt c' v)->vk v=true:=by
   intro c a b h
   unfold NW at h
   cases hp:CK k (KZ k a b)with
   |false=>rw[hp]at h;exact absurd h (tn rfl)
   |true=>
    rw[hp]at h
    rw[tp rfl h]
    refine ok k a b fun hk=>?_
    subst hk;exact hp
  have ck':∀{c:Prop}{o:Option AV},(NW k c (uy zero k o)=.cT v\/∃c',NW k c (uy zero k o)=.prt c' v)->vk v=true:=by
   intro c o h
   cases o with
   |none=>exact ck h
   |some a=>exact ck h
  unfold ij at h
  split at h
  ·unfold s5 at h
   split at h
   ·exact ck' h
   ·exact absurd h (tn rfl)
  ·exact ck h
  ·exact absurd h (tn rfl)
 ·rename_i x
  refine⟨?_,fun g τ=>rfl,fun x h=>by cases h⟩
  unfold AA at h
  split at h
  ·rw[tt rfl h];rfl
  ·exact absurd h (tn rfl)
 ·rename_i x
  refine⟨?_,fun g τ=>rfl,fun x h=>by cases h⟩
  unfold zk at h
  split at h
  ·rw[tt rfl h];rfl
  ·exact absurd h (tn rfl)
 ·exact absurd h (tn rfl)
theorem Ql{o:ai}{E:St}{v:AV}(h:CP o E=.cT v\/∃c,CP o E=.prt c v/\c):
 aZ v=true/\(∀t,¬bd v t)/\(∀τ d,bI τ v d=τ)/\dr o E=E:=by
 obtain⟨d,op,g⟩:=o
 have hdr:(∀x,op≠.iJ true x)->dr ⟨d,op,g⟩ E=E:=by
  intro h
  unfold dr
  split
  ·rename_i x hx;exact absurd hx (h x)
  ·rfl
 have wk:∀{r:PR},(r=.cT v\/∃c,r=.prt c v/\c)->(r=.cT v\/∃c,r=.prt c v):=fun h=>h.imp id fun⟨c,h,_⟩=>⟨c,h⟩
 cases g with
 |none=>
  have h':qe (xg true E) E.s op=.cT v\/∃c,qe (xg true E) E.s op=.prt c v:=wk h
  obtain⟨h1,_,h3⟩:=CQ h'
  obtain⟨f1,f2,f3⟩:=xe h1
  exact⟨f1,f2,f3,hdr h3⟩
 |some tw=>
  obtain⟨t,want⟩:=tw
  have h':Mp op want E (look E.e t)=.cT v\/∃c,Mp op want E (look E.e t)=.prt c v:=wk h
  rcases Qk (o:=op) (want:=want) (E:=E) (a:=look E.e t)with⟨g0,b,hg0,hl⟩|hl<;>rw[hl]at h'
  case inr=>rcases h' with h'|⟨c,h'⟩<;>cases h'
  generalize(g0&&(b==want))=gg at h'
  have h2:J0 gg (qe (xg gg E) E.s op)=.cT v\/∃c,J0 gg (qe (xg gg E) E.s op)=.prt c v:=h'
  have:∃u,v=.when gg u/\(qe (xg gg E) E.s op=.cT u\/∃c,qe (xg gg E) E.s op=.prt c u):=by
   cases hq:qe (xg gg E) E.s op with
   |cT u=>
    rw[hq]at h2
    refine⟨u,?_,.inl rfl⟩
    rcases h2 with h2|⟨c,h2⟩
    ·injection h2 with h2;exact h2.symm
    ·cases h2
   |prt c u=>
    rw[hq]at h2
    refine⟨u,?_,.inr ⟨c,rfl⟩⟩
    rcases h2 with h2|⟨c,h2⟩
    ·cases h2
    ·injection h2 with _ h2;exact h2.symm
   |no=>rw[hq]at h2;rcases h2 with h2|⟨c,h2⟩<;>cases h2
  obtain⟨u,rfl,hu⟩:=this
  obtain⟨h1,_,h3⟩:=CQ hu
  obtain⟨f1,f2,f3⟩:=xe h1
  exact⟨rfl,fun t ht=>f2 t ht,fun τ d=>f3 τ d,hdr h3⟩
section
variable{P:Program}{G G':Gh}{n:Nat}{D:List Deferred}{E E':St}{a:Act}{w w':World}
theorem nG{rs:List AV}(h:iw rs=true)(E:St)(d:Option Nat):bI E (dX rs) d=E:=by
 match rs,h with
 |[],_=>cases d<;>rfl
 |[r],h=>
  show bI E r d=E
  cases r<;>first|(cases d<;>rfl)|(simp[iw,cO,PD]at h)
 |_::_::_,_=>cases d<;>rfl
theorem I0{r:AV}(hr:cO r=true)(E:St)(d:Option Nat):bI E r d=E:=by cases r<;>first|(cases d<;>rfl)|(simp[cO]at hr)
theorem nH{rs:List AV}(h:iw rs=true):aZ (dX rs)=true:=by
 match rs,h with
 |[],_=>rfl
 |[r],h=>
  show aZ r=true
  cases r<;>first|rfl|(simp[iw,cO,PD]at h)
 |_::_::_,_=>rfl
theorem Lb{o:ai}{K:St->Prop}(h:q1 P o E K):∃v,aZ v=true/\Y P E o v/\K (step E o v):=by
 have gen:qK E o.dst K (qv o E)->∃v,aZ v=true/\Y P E o v/\K (step E o v):=by
  intro hq
  cases hv:qv o E with
  |cT v=>rw[hv]at hq;exact⟨v,hq.1,.pure o v (.inl hv),by unfold step;rw[OM (by rw[hv];simp)];exact hq.2⟩
  |prt c v=>rw[hv]at hq;exact⟨v,hq.2.1,.pure o v (.inr ⟨c,hv,hq.1⟩),by unfold step;rw[OM (by rw[hv];simp)];exact hq.2.2⟩
  |no=>rw[hv]at hq;exact hq.elim
 have O0:∀{o:ai},qK E o.dst K (CP o E)->∃v,aZ v=true/\Y P E o v/\K (step E o v):=by
  intro o hq
  cases hv:CP o E with
  |cT v=>rw[hv]at hq;exact⟨v,hq.1,.TR o v (.inl hv),by unfold step;rw[(Ql (.inl hv)).2.2.2];exact hq.2⟩
  |prt c v=>rw[hv]at hq;exact⟨v,hq.2.1,.TR o v (.inr ⟨c,hv,hq.1⟩),by unfold step;rw[(Ql (.inr ⟨c,hv,hq.1⟩)).2.2.2];exact hq.2.2⟩
  |no=>rw[hv]at hq;exact hq.elim
 unfold q1 at h
 split at h
 ·rename_i d f args
  cases ha:bQ (xg true E) args with
  |none=>rw[ha]at h;exact h.elim
  |some as=>
   rw[ha]at h
   obtain⟨rs,h2,h3,h4⟩:=h
   refine⟨_,nH h2,.call d f args as rs ha h2 h3,?_⟩
   show K ((bI E (dX rs) d).put d (dX rs))
   rw[nG h2];exact h4
 ·rename_i d x
  obtain⟨h1,h2⟩:=h
  refine⟨_,?_,.iJ d x h1,?_⟩
  ·generalize E.x x=av at h1
   cases av<;>first|rfl|(simp[cO]at h1)
  ·show K ((bI (E.drain x) (E.x x) d).put d (E.x x))
   rw[I0 h1];exact h2
 ·rename_i d f args t want
  have h:∃g0 b,O3 (look E.e t)=some (g0,b)/\∃rs,iw rs=true/\((g0&&(b==want))=true->∃as,bQ (xg (g0&&(b==want)) E) args=some as/\FE P f as E.s rs E.s)/\K (E.put d (.when (g0&&(b==want)) (dX rs))):=by
   unfold CO at h
   split at h
   ·rename_i b hl;exact⟨true,b,by rw[hl];rfl,h⟩
   ·rename_i g b hl;exact⟨g,b,by rw[hl];rfl,h⟩
   ·exact h.elim
  obtain⟨g0,b,hl,rs,h2,h3,h4⟩:=h
  refine⟨_,rfl,.Ie d f args t want g0 b rs hl h2 (fun hb=>by
   obtain⟨as,q1,q2⟩:=h3 hb
   rw[hb]at q1
   exact⟨as,q1,q2⟩),?_⟩
  have:bI E (.when (g0&&(b==want)) (dX rs)) d=E:=nG h2 E d
  show K ((bI E (.when (g0&&(b==want)) (dX rs)) d).put d (.when (g0&&(b==want)) (dX rs)))
  rw[this];exact h4
 ·rename_i d x args
  cases hx:xg true E x<;>rw[hx]at h<;>try exact h.elim
  rename_i f first dZ
  cases ha:bQ (xg true E) args with
  |none=>rw[ha]at h;exact h.elim
  |some as=>
   rw[ha]at h
   obtain⟨hf,rs,h2,h3,h4⟩:=h
   refine⟨_,nH h2,.dj d x args f _ rs ⟨first,dZ,as,hx,ha,rfl⟩ hf h2 h3,?_⟩
   show K ((bI E (dX rs) d).put d (dX rs))
   rw[nG h2];exact h4
 ·rename_i d x args t want
  have h:∃g0 b,O3 (look E.e t)=some (g0,b)/\∃rs,iw rs=true/\((g0&&(b==want))=true->∃f as,callee x args (g0&&(b==want)) E f as/\uQ P f=true/\FE P f as E.s rs E.s)/\K (E.put d (.when (g0&&(b==want)) (dX rs))):=by
   unfold Ba at h
   split at h
   ·rename_i b hl;exact⟨true,b,by rw[hl];rfl,h⟩
   ·rename_i g b hl;exact⟨g,b,by rw[hl];rfl,h⟩
   ·exact h.elim
  obtain⟨g0,b,hl,rs,h2,h3,h4⟩:=h
  refine⟨_,rfl,.BB d x args t want g0 b rs hl h2 (fun hb=>by
   obtain⟨f,as,q1,q2⟩:=h3 hb
   rw[hb]at q1
   exact⟨f,as,q1,q2⟩),?_⟩
  have:bI E (.when (g0&&(b==want)) (dX rs)) d=E:=nG h2 E d
  show K ((bI E (.when (g0&&(b==want)) (dX rs)) d).put d (.when (g0&&(b==want)) (dX rs)))
  rw[this];exact h4
 ·exact O0 h
 ·exact O0 h
 ·exact O0 h
 ·exact O0 h
 ·exact O0 h
 ·exact gen h
end
end Go.AB
end
