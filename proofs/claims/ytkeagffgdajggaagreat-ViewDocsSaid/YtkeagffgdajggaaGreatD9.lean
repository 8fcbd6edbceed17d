/- A part of the proof. -/
import Derived.Test.YtkeagffgdajggaaGreatD8
set_option linter.unusedSimpArgs false
set_option linter.unusedVariables false
section
namespace Go.AB
open Go
section
variable{P:Program}{G G':Gh}{n:Nat}{D:List Deferred}{E E':St}{a:Act}{w w':World}
theorem Inv.xM{d:Option Nat}{av:AV}(h:Inv G n D (E.put d (.gK [])) a w)(hd:bz n d=true)(hnl:∀t,¬bD av t):Inv G n D (E.put d (.when false av)) a w:=by
 cases d with
 |none=>exact h
 |some i=>
  have hi:i<n:=by simpa[bz]using hd
  have e1:look (E.put (some i) (.gK [])).e i=.gK []:=by simp[St.put,aQ]
  have:=h.TS i hi (.when false av) hnl (fun cs e=>by cases e) (fun v hv=>by
   have hs:=h.cy i v hv
   rw[e1]at hs
   obtain⟨ys,rfl,h2⟩:=hs
   refine⟨fun hh=>Bool.noConfusion hh,fun _=>?_⟩
   have:ys= #[]:=Array.eq_empty_of_size_eq_zero (by simpa using h2.1)
   rw[this])
  refine this.eqv ⟨fun j=>?_,fun _=>Iff.rfl,rfl⟩
  simp only[St.put,aQ]
  split<;>rfl
theorem xE{rs:List AV}(h:j7 rs=true)(t:Nat):¬bD (fD rs) t:=by
 match rs,h with
 |[],_=>exact fun h=>h
 |[r],h=>exact IH h t
 |_::_::_,_=>exact fun h=>h
theorem XY{op:uC}{d:Option Nat}{v:AV}{K:St->Prop}(h:qe (xg true E) E.s op=.dI v\/∃c,qe (xg true E) E.s op=.prt c v/\c)(hk:K (E.put d v)):jB P op d E K:=by
 cases op<;>first|(rcases h with h|⟨c,h,_⟩<;>cases h;done)|skip
 case gS x=>
  show rX E d K (xg true E x)
  have h':xm (xg true E x)=.dI v\/∃c,xm (xg true E x)=.prt c v/\c:=h
  cases hx:xg true E x<;>rw[hx]at h'<;>first|(rcases h' with h'|⟨c,h',_⟩<;>cases h';done)|skip
  rcases h' with h'|⟨c,h',_⟩
  ·injection h' with h';subst h';exact hk
  ·cases h'
 case lookup kk z ok x k=>
  show SC E d K (jr kk z ok E.s (xg true E k) (xg true E x))
  have h':jr kk z ok E.s (xg true E k) (xg true E x)=.dI v\/∃c,jr kk z ok E.s (xg true E k) (xg true E x)=.prt c v/\c:=h
  rcases h' with h'|⟨c,h',hc⟩<;>rw[h']
  ·exact hk
  ·exact⟨hc,hk⟩
 case sH x=>
  show SC E d K (Dq (xg true E x))
  have h':Dq (xg true E x)=.dI v\/∃c,Dq (xg true E x)=.prt c v/\c:=h
  rcases h' with h'|⟨c,h',hc⟩<;>rw[h']
  ·exact hk
  ·exact⟨hc,hk⟩
 case kz x=>
  show SC E d K (E2 (xg true E x))
  have h':E2 (xg true E x)=.dI v\/∃c,E2 (xg true E x)=.prt c v/\c:=h
  rcases h' with h'|⟨c,h',hc⟩<;>rw[h']
  ·exact hk
  ·exact⟨hc,hk⟩
 case aN sz m z ps=>
  show Ax sz m E d K (fill (xg true E) z ps)
  have h':ID sz m (fill (xg true E) z ps)=.dI v\/∃c,ID sz m (fill (xg true E) z ps)=.prt c v/\c:=h
  cases hx:fill (xg true E) z ps<;>rw[hx]at h'
  ·rcases h' with h'|⟨c,h',_⟩<;>cases h'
  ·rcases h' with h'|⟨c,h',hc⟩
   ·cases h'
   ·injection h' with h1 h2;subst h1;subst h2;exact⟨hc,hk⟩
theorem Y.run(h:Inv G n D E a w){ops:Array Oper}{o:Oper}{o':ai}{v:AV}(hc:iB P n ops o o'=true)(hy:Y P E o' v){next:Act->World->Prop}{Q:Exit->Act->World->Prop}
 (hn:∀G' a' w',Inv G' n D (step E o' v) a' w'->aC G w G' w'->next a' w'):BF P ops o a w next Q:=by
 have gen:Ri P o' E (fun U=>U=step E o' v)->BF P ops o a w next Q:=fun hg=>gV h hc hg fun G' E' a' w' h1 h2 h3=>by subst h3;exact hn G' a' w' h1 h2
 cases hy with
 |ib d x hi=>
  refine gen ?_
  show Xq E x d (fun U=>U=step E ⟨d,.ib true x,none⟩ (E.x x)) (E.x x)
  refine⟨hi,?_⟩
  show _=(bU (E.drain x) (E.x x) d).put d (E.x x)
  rw[PL hi]
 |pure _ _ hq=>
  have hdr:dr o' E=E:=We (by rcases hq with hq|⟨c,hq,_⟩<;>rw[hq]<;>simp)
  have hst:step E o' v=(bU E v o'.dst).put o'.dst v:=by unfold step;rw[hdr]
  rw[hst]at hn gen
  obtain⟨d,op,g⟩:=o'
  cases g with
  |none=>
   refine gen ?_
   show YK P op E d (fun U=>U=(bU E v d).put d v) (pv op (xg true E) E)
   have hq':(pv op (xg true E) E=.dI v\/∃c,pv op (xg true E) E=.prt c v/\c):=hq
   rcases hq' with hq|⟨c,hq,hcc⟩
   ·rw[hq];rfl
   ·rw[hq];exact⟨hcc,rfl⟩
  |some tw=>
   obtain⟨t,want⟩:=tw
   have hq':(Qy op want E (look E.e t)=.dI v\/∃c,Qy op want E (look E.e t)=.prt c v/\c):=hq
   rcases ad4 (o:=op) (want:=want) (E:=E) (a:=look E.e t)with⟨g0,b,hg0,hl⟩|hl<;>rw[hl]at hq'
   case inr=>rcases hq' with hq|⟨c,hq,_⟩<;>cases hq
   have hgs:=fun K=>Fs (P:=P) (o:=op) (d:=d) (t:=t) (want:=want) (E:=E) (K:=K) hg0
   generalize(g0&&(b==want))=gg at hq' hgs
   have hq2:(VE (rdO op) gg (pv op (xg gg E) E)=.dI v\/∃c,VE (rdO op) gg (pv op (xg gg E) E)=.prt c v/\c):=hq'
   cases hp:pv op (xg gg E) E with
   |dI x=>
    refine gen ?_
    show Cs P op d t want E _ (look E.e t)
    rw[hgs]
    show VC P gg op E d (fun U=>U=(bU E v d).put d v) (pv op (xg gg E) E)
    rw[hp]
    rw[hp]at hq2
    rcases hq2 with hq|⟨c,hq,_⟩
    ·injection hq with hq;subst hq;rfl
    ·cases hq
   |prt c x=>
    refine gen ?_
    show Cs P op d t want E _ (look E.e t)
    rw[hgs]
    show VC P gg op E d (fun U=>U=(bU E v d).put d v) (pv op (xg gg E) E)
    rw[hp]
    rw[hp]at hq2
    rcases hq2 with hq|⟨c',hq,hcc⟩
    ·cases hq
    ·injection hq with hq1 hq2;subst hq1;subst hq2;exact⟨hcc,rfl⟩
   |no=>
    rw[hp]at hq2
    cases hr:rdO op with
    |false=>
     rw[hr]at hq2
     have hq3:(PR.no=.dI v\/∃c,PR.no=.prt c v/\c):=hq2
     rcases hq3 with hq|⟨c',hq,_⟩<;>cases hq
    |true=>
     rw[hr]at hq2
     have hq3:(PR.prt (gg=false) (.when gg .undef)=.dI v\/∃c,PR.prt (gg=false) (.when gg .undef)=.prt c v/\c):=hq2
     rcases hq3 with hq|⟨c',hq,hcc⟩
     ·cases hq
     injection hq with hq1 hq2
     subst hq1;subst hq2
     have hd:bz n d=true:=by
      simp only[iB,Bool.and_eq_true]at hc
      exact hc.1.1.2
     refine gV (K:=fun U=>U=E.put d (.gK [])) h hc ?_ fun G' E' a' w' k1 k2 k3=>?_
     ·show Cs P op d t want E (fun U=>U=E.put d (.gK [])) (look E.e t)
      rw[hgs]
      show VC P gg op E d (fun U=>U=E.put d (.gK [])) (pv op (xg gg E) E)
      rw[hp]
      exact⟨fun hb=>absurd (hb.symm.trans hcc) (by decide),fun _=>rfl⟩
     ·subst k3
      have e:(bU E (.when gg .undef) d).put d (.when gg .undef)=E.put d (.when false .undef):=by
       rw[hcc]
       have:bU E (.when false .undef) d=E:=by cases d<;>rfl
       show(bU E (.when false .undef) d).put d _=_
       rw[this]
      have hn':=hn
      simp only at hn'
      rw[e]at hn'
      exact hn' G' a' w' (k1.xM hd (fun _ h=>h)) k2
 |call d f args as rs h1 h2 h3=>
  refine gen ?_
  show uY P f E d _ (b7 (xg true E) args)
  rw[h1]
  refine FE.app h3 ⟨h2,?_⟩
  show _=(bU E (fD rs) d).put d (fD rs)
  rw[qT h2]
 |O4 d f args t want g0 b rs h0 h2 h1=>
  have hd:bz n d=true:=by
   simp only[iB,Bool.and_eq_true]at hc
   exact hc.1.1.2
  have hst:step E ⟨d,.call f args,some (t,want)⟩ (.when (g0&&(b==want)) (fD rs))=E.put d (.when (g0&&(b==want)) (fD rs)):=by
   show(bU E (.when (g0&&(b==want)) (fD rs)) d).put d (.when (g0&&(b==want)) (fD rs))=_
   have:bU E (.when (g0&&(b==want)) (fD rs)) d=E:=qT h2 E d
   rw[this]
  rw[hst]at hn
  refine gV (K:=fun U=>((g0&&(b==want))=true/\U=E.put d (fD rs))\/((g0&&(b==want))=false/\U=E.put d (.gK []))) h hc ?_ fun G' E' a' w' k1 k2 k3=>?_
  ·show Cs P (.call f args) d t want E _ (look E.e t)
   rw[Fs h0]
   refine⟨fun hb=>?_,fun hb=>.inr ⟨hb,rfl⟩⟩
   obtain⟨as,q1,q2⟩:=h1 hb
   show uY P f E d _ (b7 (xg true E) args)
   rw[q1]
   exact FE.app q2 ⟨h2,.inl ⟨hb,rfl⟩⟩
  ·rcases k3 with⟨hb,rfl⟩|⟨hb,rfl⟩
   ·rw[hb]at hn;exact hn G' a' w' (k1.xa hd) k2
   ·rw[hb]at hn;exact hn G' a' w' (k1.xM hd (xE h2)) k2
 |cG d x args f as rs h1 hf h2 h3=>
  obtain⟨first,eG,xs,q1,q2,rfl⟩:=h1
  refine gen ?_
  show zj P E (b7 (xg true E) args) d _ (xg true E x)
  rw[q1,q2]
  refine⟨hf,FE.app h3 ⟨h2,?_⟩⟩
  show _=(bU E (fD rs) d).put d (fD rs)
  rw[qT h2]
 |F8 d x args t want g0 b rs h0 h2 h1=>
  have hd:bz n d=true:=by
   simp only[iB,Bool.and_eq_true]at hc
   exact hc.1.1.2
  have hst:step E ⟨d,.cG x args,some (t,want)⟩ (.when (g0&&(b==want)) (fD rs))=E.put d (.when (g0&&(b==want)) (fD rs)):=by
   show(bU E (.when (g0&&(b==want)) (fD rs)) d).put d (.when (g0&&(b==want)) (fD rs))=_
   have:bU E (.when (g0&&(b==want)) (fD rs)) d=E:=qT h2 E d
   rw[this]
  rw[hst]at hn
  refine gV (K:=fun U=>((g0&&(b==want))=true/\U=E.put d (fD rs))\/((g0&&(b==want))=false/\U=E.put d (.gK []))) h hc ?_ fun G' E' a' w' k1 k2 k3=>?_
  ·show Cs P (.cG x args) d t want E _ (look E.e t)
   rw[Fs h0]
   refine⟨fun hb=>?_,fun hb=>.inr ⟨hb,rfl⟩⟩
   obtain⟨f,as,⟨first,eG,xs,q1,q2,rfl⟩,q4,q5⟩:=h1 hb
   show zj P E (b7 (xg true E) args) d _ (xg true E x)
   rw[q1,q2]
   exact⟨q4,FE.app q5 ⟨h2,.inl ⟨hb,rfl⟩⟩⟩
  ·rcases k3 with⟨hb,rfl⟩|⟨hb,rfl⟩
   ·rw[hb]at hn;exact hn G' a' w' (k1.xa hd) k2
   ·rw[hb]at hn;exact hn G' a' w' (k1.xM hd (xE h2)) k2
 |eff _ _ hq=>
  obtain⟨_,hnl,hlp,hdr⟩:=XX hq
  have hst:step E o' v=E.put o'.dst v:=by unfold step;rw[hdr,hlp]
  obtain⟨d,op,g⟩:=o'
  cases g with
  |none=>
   refine gen ?_
   have hq':qe (xg true E) E.s op=.dI v\/∃c,qe (xg true E) E.s op=.prt c v/\c:=hq
   show YK P op E d (fun U=>U=step E ⟨d,op,none⟩ v) (pv op (xg true E) E)
   rw[(HX (hq'.imp id fun⟨c,h,_⟩=>⟨c,h⟩)).2.1]
   exact XY hq' hst.symm
  |some tw=>
   obtain⟨t,want⟩:=tw
   have hd:bz n d=true:=by
    simp only[iB,Bool.and_eq_true]at hc
    exact hc.1.1.2
   have hq':Rk op want E (look E.e t)=.dI v\/∃c,Rk op want E (look E.e t)=.prt c v/\c:=hq
   rcases XW (o:=op) (want:=want) (E:=E) (a:=look E.e t)with⟨g0,b,hg0,hl⟩|hl<;>rw[hl]at hq'
   case inr=>rcases hq' with h'|⟨c,h',_⟩<;>cases h'
   have hgs:=fun K=>Fs (P:=P) (o:=op) (d:=d) (t:=t) (want:=want) (E:=E) (K:=K) hg0
   generalize(g0&&(b==want))=gg at hq' hgs
   obtain⟨u,hu,hv⟩:∃u,(gg=true->(qe (xg true E) E.s op=.dI u\/∃c,qe (xg true E) E.s op=.prt c u/\c))/\v=.when gg u:=by
    have h2:Re gg (qe (xg gg E) E.s op)=.dI v\/∃c,Re gg (qe (xg gg E) E.s op)=.prt c v/\c:=hq'
    cases hq2:qe (xg gg E) E.s op with
    |dI u=>
     rw[hq2]at h2
     refine⟨u,fun hb=>?_,?_⟩
     ·rw[hb]at hq2;exact .inl hq2
     ·rcases h2 with h2|⟨c,h2,_⟩
      ·injection h2 with h2;exact h2.symm
      ·cases h2
    |prt c u=>
     rw[hq2]at h2
     rcases h2 with h2|⟨c',h2,hc'⟩
     ·cases h2
     ·injection h2 with h3 h4
      refine⟨u,fun hb=>?_,h4.symm⟩
      rw[hb]at hq2
      subst h3
      exact .inr ⟨c,hq2,hc' hb⟩
    |no=>rw[hq2]at h2;rcases h2 with h2|⟨c,h2,_⟩<;>cases h2
   subst hv
   have hpn:∀f U,pv op f U=.no:=by
    intro f U
    have h2:Re gg (qe (xg gg E) E.s op)=.dI _\/∃c,Re gg (qe (xg gg E) E.s op)=.prt c _/\c:=hq'
    cases op<;>first|rfl|(rcases h2 with h2|⟨c,h2,_⟩<;>cases h2)
   rw[hst]at hn
   refine gV (K:=fun U=>(gg=true/\U=E.put d u)\/(gg=false/\U=E.put d (.gK []))) h hc ?_ fun G' E' a' w' k1 k2 k3=>?_
   ·show Cs P op d t want E _ (look E.e t)
    rw[hgs,hpn]
    unfold VC
    refine⟨fun hb=>?_,fun hb=>.inr ⟨hb,rfl⟩⟩
    show YK P op E d _ (pv op (xg true E) E)
    rw[hpn]
    exact XY (hu hb) (.inl ⟨hb,rfl⟩)
   ·rcases k3 with⟨hb,rfl⟩|⟨hb,rfl⟩
    ·rw[hb]at hn;exact hn G' a' w' (k1.xa hd) k2
    ·rw[hb]at hn;exact hn G' a' w' (k1.xM hd fun t ht=>hnl t ht) k2
theorem TQ{ops:Array Oper}{Q:Exit->Act->World->Prop}{K:St->Prop}(G₀:Gh)(w₀:World)
 (hn:∀G' E' a' w',Inv G' n D E' a' w'->aC G₀ w₀ G' w'->K E'->Q .normal a' w'):∀(q:Nat)(l:List Oper)(l':List ai)(G:Gh)(E:St)(a:Act)(w:World),cd P n ops l l'=true->Inv G n D E a w->aC G₀ w₀ G w->YO P q l' E K->wpList P ops Q l a w
 |0,l,l',G,E,a,w,hc,h,hp,hk=>sP G₀ w₀ hn l l' G E a w hc h hp hk
 |_+1,[],[],G,E,a,w,_,h,hp,hk=>hn G E a w h hp hk
 |q+1,o::l,o'::l',G,E,a,w,hc,h,hp,hk=>by
  simp only[cd,Bool.and_eq_true]at hc
  obtain⟨hf,hk⟩:=hk
  obtain⟨v,hv,hy,hk⟩:=SH hk
  show BF P ops o a w (wpList P ops Q l) Q
  exact hy.run h hc.1 fun G' a' w' h1 h2=>TQ G₀ w₀ hn q l l' G' _ a' w' hc.2 h1 (hp.trans h2) hk
 |_+1,[],_::_,_,_,_,_,hc,_,_,_=>by simp[cd]at hc
 |_+1,_::_,[],_,_,_,_,hc,_,_,_=>by simp[cd]at hc
abbrev uN:=List (Nat×ai×AV)
def Al(P:Program):St->uN->Prop
 |_,[]=>True
 |E,(_,o,v)::r=>aZ E o.dst=true/\bq v=true/\Y P E o v/\Al P (step E o v) r
def fin:St->uN->St
 |E,[]=>E
 |E,(_,o,v)::r=>fin (step E o v) r
theorem Al.eqv:∀{p:uN}{E E':St},mF E E'->Al P E p->Al P E' p
 |[],_,_,_,_=>trivial
 |(_,o,v)::r,_,_,h,⟨h1,h2,h3,h4⟩=>⟨by rw[<-h.free];exact h1,h2,h3.Tb (h.Tb o),Al.eqv (h.step o v) h4⟩
theorem Tt:∀(p:uN){E E':St},mF E E'->mF (fin E p) (fin E' p)
 |[],_,_,h=>h
 |(_,o,v)::r,_,_,h=>Tt r (h.step o v)
theorem x7{o:ai}{i:Nat}(h:iD o i=true):i∈cy o:=by
 unfold iD at h
 split at h
 ·rename_i j hop
  have:j=i:=by simpa using h
  subst this
  refine List.mem_append_right _ ?_
  rw[hop]
  exact List.mem_cons_self
 ·cases h
theorem YX{x y:ai}(h:ap x y=true):gZ x.dst (cy y)=true/\gZ y.dst (cy x)=true/\(∀i j,x.dst=some i->y.dst=some j->i≠j)/\Xu x y=true/\Xu y x=true/\(∀i,y.dst=some i->iD x i=false)/\(∀i,x.dst=some i->iD y i=false):=by
 unfold ap at h
 simp only[Bool.and_eq_true]at h
 refine⟨h.1.1.2,h.1.2,fun i j hi hj=>?_,h.1.1.1.1,h.1.1.1.2,fun i hi=>?_,fun i hi=>?_⟩
 ·have:=h.2
  rw[hi,hj]at this
  simpa using this
 ·have:=h.1.2
  rw[hi]at this
  simp[gZ]at this
  cases hd:iD x i with
  |false=>rfl
  |true=>exact absurd (x7 hd) this
 ·have:=h.1.1.2
  rw[hi]at this
  simp[gZ]at this
  cases hd:iD y i with
  |false=>rfl
  |true=>exact absurd (x7 hd) this
theorem pull{x:Nat×ai×AV}:∀(pre:uN)(post:uN)(E:St),(∀y∈pre,ap y.2.1 x.2.1=true)->Al P E (pre++x::post)->
 aZ E x.2.1.dst=true/\bq x.2.2=true/\Y P E x.2.1 x.2.2/\Al P (step E x.2.1 x.2.2) (pre++post)/\mF (fin (step E x.2.1 x.2.2) (pre++post)) (fin E (pre++x::post))
 |[],post,E,_,h=>⟨h.1,h.2.1,h.2.2.1,h.2.2.2,mF.refl _⟩
 |(k,o,v)::pre,post,E,hap,h=>by
  obtain⟨h1,h2,h3,h4⟩:=h
  obtain⟨i1,i2,i3,i4,i5⟩:=pull pre post (step E o v) (fun y hy=>hap y (List.mem_cons_of_mem _ hy)) h4
  obtain⟨a1,a2,a3,a4,a5,a6,a7⟩:=YX (hap (k,o,v) List.mem_cons_self)
  have hfx:aZ E x.2.1.dst=true:=by
   cases hd:x.2.1.dst with
   |none=>rfl
   |some j=>
    rw[hd]at i1
    have i1':bq (look (step E o v).e j)=true:=i1
    rw[jc,if_neg (fun e=>a3 j j e hd rfl)]at i1'
    show bq (look E.e j)=true
    split at i1'
    ·rw[wF]at i1';exact i1'
    ·exact i1'
  have hfo:aZ (step E x.2.1 x.2.2) o.dst=true:=by
   cases hd:o.dst with
   |none=>rfl
   |some j=>
    rw[hd]at h1
    show bq (look (step E x.2.1 x.2.2).e j)=true
    rw[jc,if_neg (fun e=>a3 j j hd e rfl)]
    split
    ·rw[wF];exact h1
    ·exact h1
  have Gx:mF (step (step E o v) x.2.1 x.2.2) (step (step E x.2.1 x.2.2) o v):=Vr a3 a6 a7
  refine⟨hfx,i2,i3.Tb (OU h1 h2 a1 a4).symm,⟨hfo,h2,h3.Tb (OU hfx i2 a2 a5),i4.eqv Gx⟩,?_⟩
  exact(Tt (pre++post) Gx.symm).trans i5
end
end Go.AB
end
section
namespace Go.AB
open Go
section
variable{P:Program}{G G':Gh}{n:Nat}{D:List Deferred}{E E':St}{a:Act}{w w':World}{ops:Array Oper}{bF:List ai}{q:Nat}
def mk:Nat->List ai->List AV->uN
 |k,o::l,v::vs=>(k,o,v)::mk (k+1) l vs
 |_,_,_=>[]
theorem QA{K:St->Prop}:∀(q:Nat)(l:List ai)(E:St)(k:Nat),q<=l.length->YO P q l E K->∃vs:List AV,vs.length=q/\Al P E (mk k l vs)/\swp P (l.drop q) (fin E (mk k l vs)) K
 |0,l,E,k,_,h=>⟨[],rfl,by cases l<;>trivial,by cases l<;>exact h⟩
 |q+1,[],_,_,hl,_=>by simp at hl
 |q+1,o::l,E,k,hl,h=>by
  obtain⟨hf,h1⟩:=h
  obtain⟨v,hv,hy,hk⟩:=SH h1
  obtain⟨vs,h2,h3,h4⟩:=QA q l (step E o v) (k+1) (by simpa using hl) hk
  exact⟨v::vs,by simp[h2],⟨hf,hv,hy,h3⟩,h4⟩
theorem Nd:∀(l:List ai)(vs:List AV)(k:Nat)(i:Nat)(o:ai)(v:AV),(i,o,v)∈mk k l vs->∃j,i=k+j/\j<vs.length/\l[j]? =some o
 |[],_,_,_,_,_,h=>by simp[mk]at h
 |_::_,[],_,_,_,_,h=>by simp[mk]at h
 |o'::l,v'::vs,k,i,o,v,h=>by
  rcases List.mem_cons.1 h with h|h
  ·injection h with h1 h2;injection h2 with h2 h3;subst h1;subst h2
   exact⟨0,rfl,by simp,rfl⟩
  ·obtain⟨j,h1,h2,h3⟩:=Nd l vs (k+1) i o v h
   exact⟨j+1,by omega,by simpa using h2,by simpa using h3⟩
theorem CV:∀(l:List ai)(vs:List AV)(k:Nat),(mk k l vs).Pairwise fun x y=>x.1<y.1
 |[],_,_=>by simp[mk]
 |_::_,[],_=>by simp[mk]
 |o::l,v::vs,k=>by
  refine List.Pairwise.cons (fun y hy=>?_) (CV l vs (k+1))
  obtain⟨i,o',v'⟩:=y
  obtain⟨j,h1,_⟩:=Nd l vs (k+1) i o' v' hy
  show k<i
  omega
theorem Si:∀(l:List ai)(vs:List AV)(k j:Nat),j<vs.length->j<l.length->∃o v,(k+j,o,v)∈mk k l vs
 |[],_,_,_,_,h=>by simp at h
 |_::_,[],_,_,h,_=>by simp at h
 |o::l,v::vs,k,0,_,_=>⟨o,v,List.mem_cons_self⟩
 |o::l,v::vs,k,j+1,h1,h2=>by
  obtain⟨o',v',h⟩:=Si l vs (k+1) j (by simpa using h1) (by simpa using h2)
  refine⟨o',v',List.mem_cons_of_mem _ ?_⟩
  rw[show k+(j+1)=k+1+j by omega]
  exact h
theorem gp:∀(l:List Oper)(l':List ai),cd P n ops l l'=true->l.length=l'.length/\∀(k:Nat)(o:Oper)(o':ai),l[k]? =some o->l'[k]? =some o'->iB P n ops o o'=true
 |[],[],_=>⟨rfl,fun k o o' h=>by simp at h⟩
 |o::l,o'::l',h=>by
  simp only[cd,Bool.and_eq_true]at h
  obtain⟨h1,h2⟩:=gp l l' h.2
  refine⟨by simp[h1],fun k x x' hx hx'=>?_⟩
  cases k with
  |zero=>simp at hx hx';subst hx;subst hx';exact h.1
  |succ k=>exact h2 k x x' (by simpa using hx) (by simpa using hx')
 |[],_::_,h=>by simp[cd]at h
 |_::_,[],h=>by simp[cd]at h
theorem qz{Q:Exit->Act->World->Prop}{i:Nat}{o:Oper}{next:Act->World->Prop}(ho:ops[i]? =some o)(h:BF P ops o a w next Q):wpOp P ops Q i next a w:=by
 unfold wpOp
 simp only[ho]
 exact h
theorem nE{j i:Nat}{o:Oper}(ho:ops[j]? =some o):iw ops j i=true↔∃e∈o.after,Region.binds .any e=true/\e.on=i:=by
 unfold iw
 rw[ho]
 show(o.after.any fun e=>Region.binds .any e&&e.on==i)=true↔_
 rw[Array.any_eq_true']
 simp only[Bool.and_eq_true,beq_iff_eq]
theorem Ah{K:St->Prop}{Q:Exit->Act->World->Prop}(G₀:Gh)(w₀:World)(hc:cd P n ops ops.toList bF=true)
 (hn:∀G' E' a' w',Inv G' n D E' a' w'->aC G₀ w₀ G' w'->K E'->Q .normal a' w'):∀(l:List ai)(k:Nat)(aM:Array Bool)(G:Gh)(E:St)(a:Act)(w:World),l=bF.drop k->te ops l.length k aM=true->
 swp P l E K->Inv G n D E a w->aC G₀ w₀ G w->wpAny P .any ops Q l.length aM a w
 |[],_,aM,G,E,a,w,_,ht,hk,h,hp=>⟨List.isEmpty_iff.1 ht,hn G E a w h hp hk⟩
 |o'::l,k,aM,G,E,a,w,hl,ht,hk,h,hp=>by
  have ht':(Region.ready .any ops aM==[k]&&te ops l.length (k+1) (aM.setIfInBounds k true))=true:=ht
  simp only[Bool.and_eq_true,beq_iff_eq]at ht'
  obtain⟨hr,ht'⟩:=ht'
  obtain⟨hlen,lY⟩:=gp _ _ hc
  have hk':bF[k]? =some o':=by
   have:(bF.drop k)[0]? =some o':=by rw[<-hl];rfl
   simpa using this
  have agI:l=bF.drop (k+1):=by
   have:(bF.drop k).tail=l:=by rw[<-hl];rfl
   rw[<-this];simp
  have akm:k<ops.toList.length:=by rw[hlen];exact(List.getElem?_eq_some_iff.1 hk').1
  have ho:ops.toList[k]? =some ops.toList[k]:=List.getElem?_eq_getElem akm
  refine⟨fun h0=>absurd h0 (by rw[hr];simp),fun i hi=>?_⟩
  rw[hr]at hi
  have:i=k:=by simpa using hi
  subst this
  refine qz (by simp) (gV h (lY i _ _ ho hk') hk fun G' E' a' w' h1 h2 h3=>?_)
  exact Ah G₀ w₀ hc hn l (i+1) _ G' E' a' w' agI ht' h3 h1 (hp.trans h2)
structure Good(ops:Array Oper)(bF:List ai)(q:Nat)(kW:uN)(aM:Array Bool):Prop where
 size:aM.size=ops.size
 un:∀k o v,(k,o,v)∈kW->k<q/\aM.getD k true=false/\bF[k]? =some o
 li:∀k,k<q->(∀o v,(k,o,v)∉kW)->aM.getD k false=true
 tl:∀j,q<=j->j<ops.size->aM.getD j true=false
 cl:∀m,m<q->aM.getD m false=true->∀i,iw ops m i=true->aM.getD i false=true
 sorted:kW.Pairwise fun x y=>x.1<y.1
theorem lX{l:Array Bool}{i:Nat}(h:l.getD i false=true):l.getD i true=true:=by
 rcases Nat.lt_or_ge i l.size with hi|hi
 ·simp[hi]at h⊢;exact h
 ·simp[Array.getElem?_eq_none hi]at h
theorem T4{aM:Array Bool}(hg:Good ops bF q [] aM):aM=rP ops.size q:=by
 apply Array.ext
 ·simp[rP,hg.size]
 ·intro i h1 h2
  simp only[rP,Array.getElem_map,Array.getElem_range]
  have hi:i<ops.size:=by rw[<-hg.size];exact h1
  by_cases hq:i<q
  ·have:=hg.li i hq (fun o v=>by simp)
   simp[h1]at this
   simp[hq,this]
  ·have:=hg.tl i (by omega) hi
   simp[h1]at this
   simp[hq,this]
theorem kO{j:Nat}{aM:Array Bool}(h:j∈Region.ready .any ops aM):j<ops.size/\aM.getD j true=false/\∀i,iw ops j i=true->aM.getD i false=true:=by
 obtain⟨h0,o,ho,eH⟩:=mem_ready.1 h
 refine⟨(Array.getElem?_eq_some_iff.1 ho).1,h0,fun i hi=>?_⟩
 obtain⟨e,he,hb,hon⟩:=(nE ho).1 hi
 rw[<-hon]
 exact eH e he hb
theorem Lb{pre post:uN}{x:Nat×ai×AV}{aM:Array Bool}(hg:Good ops bF q (pre++x::post) aM)(hr:x.1∈Region.ready .any ops aM):Good ops bF q (pre++post) (aM.setIfInBounds x.1 true):=by
 obtain⟨xk,xo,xv⟩:=x
 obtain⟨r1,r2,r3⟩:=kO hr
 have hxq:xk<q:=(hg.un xk xo xv (by simp)).1
 have hxs:xk<aM.size:=by rw[hg.size];exact r1
 have ft:∀y,y∈pre++post->y∈pre++(xk,xo,xv)::post:=fun y hy=>by
  rcases List.mem_append.1 hy with h|h
  ·exact List.mem_append_left _ h
  ·exact List.mem_append_right _ (List.mem_cons_of_mem _ h)
 have vj:=List.pairwise_append.1 hg.sorted
 have aks:∀y∈pre,y.1<xk:=fun y hy=>vj.2.2 y hy (xk,xo,xv) List.mem_cons_self
 have WS:∀y∈post,xk<y.1:=fun y hy=>(List.pairwise_cons.1 vj.2.1).1 y hy
 have hne:∀y∈pre++post,y.1≠xk:=fun y hy=>by
  rcases List.mem_append.1 hy with h|h
  ·have:=aks y h;omega
  ·have:=WS y h;omega
 refine⟨by simp[hg.size],fun k o v hk=>?_,fun k hk hno=>?_,fun j h1 h2=>?_,fun m hm hl i hi=>?_,?_⟩
 ·obtain⟨u1,u2,u3⟩:=hg.un k o v (ft _ hk)
  exact⟨u1,by rw[getD_set_ne true (Ne.symm (hne _ hk))];exact u2,u3⟩
 ·by_cases hkx:xk=k
  ·subst hkx;simp[hxs]
  ·rw[getD_set_ne false hkx]
   refine hg.li k hk fun o v hm=>?_
   rcases List.mem_append.1 hm with h|h
   ·exact hno o v (List.mem_append_left _ h)
   ·rcases List.mem_cons.1 h with h|h
    ·injection h with h;exact hkx h.symm
    ·exact hno o v (List.mem_append_right _ h)
 ·rw[getD_set_ne true (by omega)];exact hg.tl j h1 h2
 ·by_cases hmx:xk=m
  ·subst hmx;exact getD_set_true (r3 i hi)
  ·rw[getD_set_ne false hmx]at hl
   exact getD_set_true (hg.cl m hm hl i hi)
 ·rw[List.pairwise_append]
  exact⟨vj.1,(List.pairwise_cons.1 vj.2.1).2,fun y hy z hz=>vj.2.2 y hy z (List.mem_cons_of_mem _ hz)⟩
theorem Yj{Q:Exit->Act->World->Prop}(G₀:Gh)(w₀:World)(f:Nat)(hc:cd P n ops ops.toList bF=true)(hq:q<=ops.size)(h1:Tf ops q=true)(h2:KW ops q=true)(h3:aba ops q bF=true)(h4:q<ops.size->Region.ready .any ops (rP ops.size q)=[q]):
 ∀(m:Nat)(kW:uN),kW.length=m->∀(aM:Array Bool)(E:St),Good ops bF q kW aM->Al P E kW->
  (∀G a w,Inv G n D (fin E kW) a w->aC G₀ w₀ G w->wpAny P .any ops Q f (rP ops.size q) a w)->∀(G:Gh)(a:Act)(w:World),Inv G n D E a w->aC G₀ w₀ G w->wpAny P .any ops Q (m+f) aM a w:=by
 intro m
 induction m with
 |zero=>
  intro kW hp aM E hg _ hT G a w h hpr
  have:kW=[]:=List.eq_nil_of_length_eq_zero hp
  subst this
  rw[T4 hg,Nat.zero_add]
  exact hT G a w h hpr
 |succ m ih=>
  intro kW hp aM E hg hch hT G a w h hpr
  obtain⟨hlen,lY⟩:=gp _ _ hc
  rw[show m+1+f=(m+f)+1 by omega]
  refine⟨fun h0=>?_,fun i hi=>?_⟩
  ·
   cases kW with
   |nil=>simp at hp
   |cons x kW=>
    obtain⟨k,o,v⟩:=x
    obtain⟨u1,u2,u3⟩:=hg.un k o v List.mem_cons_self
    have zA:k∈Region.ready .any ops aM:=by
     have hk:k<ops.size:=by omega
     refine mem_ready.2 ⟨u2,ops[k],Array.getElem?_eq_getElem hk,fun e he hb=>?_⟩
     have hs:=List.all_eq_true.1 h1 k (List.mem_range.2 u1)
     rw[Array.getElem?_eq_getElem hk]at hs
     have:=Array.all_eq_true_iff_forall_mem.1 hs e he
     rw[hb]at this
     have hlt:e.on<k:=by simpa using this
     refine hg.li e.on (by omega) fun o' v' hm=>?_
     rcases List.mem_cons.1 hm with hm|hm
     ·injection hm with hm;omega
     ·have:=(List.pairwise_cons.1 hg.sorted).1 _ hm
      simp at this
      omega
    rw[h0]at zA
    cases zA
  ·obtain⟨r1,r2,r3⟩:=kO hi
   have hne:∃k o v,(k,o,v)∈kW:=by
    cases kW with
    |nil=>simp at hp
    |cons x kW=>exact⟨x.1,x.2.1,x.2.2,List.mem_cons_self⟩
   have hiq:i<q:=by
    refine Classical.byContradiction fun hge=>?_
    have hqs:q<ops.size:=by omega
    by_cases hiq':i=q
    ·subst hiq'
     have eH:∀(d k:Nat),k<i->i -k=d->aM.getD k false=true:=by
      intro d
      induction d using Nat.strongRecOn with
      |_ d ihd=>
       intro k hk hd
       have hs:((List.range i).all fun k=>(List.range (i+1)).any fun m=>decide (k<m)&&iw ops m k)=true:=by
        unfold KW at h2
        rw[Bool.or_eq_true]at h2
        rcases h2 with h2|h2
        ·have:=beq_iff_eq.1 h2;omega
        ·exact h2
       obtain⟨m',hm1,hm2⟩:=List.any_eq_true.1 (List.all_eq_true.1 hs k (List.mem_range.2 hk))
       rw[Bool.and_eq_true,decide_eq_true_eq]at hm2
       have ako:=List.mem_range.1 hm1
       by_cases hmi:m'=i
       ·subst hmi;exact r3 k hm2.2
       ·exact hg.cl m' (by omega) (ihd (i -m') (by omega) m' (by omega) rfl) k hm2.2
     obtain⟨k,o,v,hk⟩:=hne
     obtain⟨u1,u2,u3⟩:=hg.un k o v hk
     have:=lX (eH _ k u1 rfl)
     rw[u2]at this
     cases this
    ·have hnr:i∉Region.ready .any ops (rP ops.size q):=by rw[h4 hqs];simpa using hiq'
     apply hnr
     refine mem_ready.2 ⟨?_,ops[i],Array.getElem?_eq_getElem r1,fun e he hb=>?_⟩
     ·simp[rP,r1];omega
     ·have hl:=r3 e.on ((nE (Array.getElem?_eq_getElem r1)).2 ⟨e,he,hb,rfl⟩)
      have hlt:e.on<q:=by
       refine Classical.byContradiction fun hnl=>?_
       by_cases hs:e.on<ops.size
       ·have:=hg.tl e.on (by omega) hs
        have:=lX hl
        simp_all
       ·have:aM.getD e.on false=false:=by simp[Array.getElem?_eq_none (show aM.size<=e.on by rw[hg.size];omega)]
        rw[this]at hl;cases hl
      simp[rP,show e.on<ops.size by omega,hlt]
   have hin:∃o v,(i,o,v)∈kW:=by
    apply Classical.byContradiction
    intro hno
    have:=hg.li i hiq fun o v hm=>hno ⟨o,v,hm⟩
    have:=lX this
    rw[r2]at this
    cases this
   obtain⟨o',v,hin⟩:=hin
   obtain⟨pre,post,rfl⟩:=List.append_of_mem hin
   have vj:=List.pairwise_append.1 hg.sorted
   have hap:∀y∈pre,ap y.2.1 o'=true:=by
    intro y hy
    obtain⟨k,o,u⟩:=y
    have hlt:k<i:=vj.2.2 _ hy _ List.mem_cons_self
    obtain⟨u1,u2,u3⟩:=hg.un k o u (List.mem_append_left _ hy)
    obtain⟨_,_,u4⟩:=hg.un i o' v (by simp)
    have hs:=List.all_eq_true.1 (List.all_eq_true.1 h3 i (List.mem_range.2 hiq)) k (List.mem_range.2 hlt)
    rw[Bool.or_eq_true]at hs
    rcases hs with hs|hs
    ·have:=lX (r3 k hs)
     rw[u2]at this
     cases this
    ·unfold af0 at hs
     rw[u3,u4]at hs
     exact hs
   obtain⟨p1,p2,p3,p4,p5⟩:=pull pre post E hap hch
   obtain⟨_,_,u4⟩:=hg.un i o' v (by simp)
   have ho:ops.toList[i]? =some ops[i]:=by simp[r1]
   refine qz (o:=ops[i]) (by simp[r1]) (Y.run h (lY i _ _ ho u4) p3 fun G' a' w' k1 k2=>?_)
   exact ih (pre++post) (by simp at hp⊢;omega) _ (step E o' v) (Lb hg hi) p4 (fun G'' a'' w'' z1 z2=>hT G'' a'' w'' (z1.eqv p5) z2) G' a' w' k1 (hpr.trans k2)
theorem acr(hm:P.follows .mixedOrders=true):aaR P n:=by
 intro D draw id ops bF q G E a w K Q hc hd h hw hn
 cases draw with
 |false=>exact wp_region_list (TQ G w hn q ops.toList bF G E a w hc h (aC.refl G w) hw)
 |true=>
 have hd:=hd rfl
 simp only[Te,Bool.and_eq_true,decide_eq_true_eq]at hd
 obtain⟨hq,h1,h2,h3,h4⟩:=hd
 obtain⟨hlen,lY⟩:=gp _ _ hc
 have hsz:bF.length=ops.size:=by rw[<-hlen];simp
 obtain⟨vs,e1,e2,e3⟩:=QA q bF E 0 (by omega) hw
 have hmk:(mk 0 bF vs).length=q:=by
  have:∀(l:List ai)(vs:List AV)(k:Nat),vs.length<=l.length->(mk k l vs).length=vs.length:=by
   intro l
   induction l with
   |nil=>intro vs k hl;cases vs with
    |nil=>rfl
    |cons=>simp at hl
   |cons o l ih=>intro vs k hl;cases vs with
    |nil=>rfl
    |cons v vs=>simp[mk,ih vs (k+1) (by simpa using hl)]
  rw[this bF vs 0 (by omega),e1]
 refine wp_region_any hm ?_
 have hrq:q<ops.size->Region.ready .any ops (rP ops.size q)=[q]:=by
  intro hlt
  obtain⟨d,hd⟩:∃d,ops.size -q=d+1:=⟨ops.size -q -1,by omega⟩
  rw[hd]at h4
  simp only[te,Bool.and_eq_true,beq_iff_eq]at h4
  exact h4.1
 have hT:∀G' a' w',Inv G' n D (fin E (mk 0 bF vs)) a' w'->aC G w G' w'->wpAny P .any ops Q (ops.size -q) (rP ops.size q) a' w':=by
  intro G' a' w' z1 z2
  have hl:(bF.drop q).length=ops.size -q:=by rw[List.length_drop];omega
  have:=Ah G w hc hn (bF.drop q) q (rP ops.size q) G' _ a' w' rfl (by rw[hl];exact h4) e3 z1 z2
  rwa[hl]at this
 have nL:Good ops bF q (mk 0 bF vs) (Array.replicate ops.size false):=by
  have RU:∀k b,k<ops.size->(Array.replicate ops.size false).getD k b=false:=fun k b hk=>by simp[hk]
  refine⟨by simp,fun k o v hk=>?_,fun k hk hno=>?_,fun j _ hj=>RU j _ hj,fun m hm hl i hi=>?_,CV bF vs 0⟩
  ·obtain⟨j,j1,j2,j3⟩:=Nd bF vs 0 k o v hk
   have:k=j:=by omega
   subst this
   exact⟨by omega,RU k _ (by omega),j3⟩
  ·obtain⟨o,v,hh⟩:=Si bF vs 0 k (by omega) (by omega)
   rw[Nat.zero_add]at hh
   exact absurd hh (hno o v)
  ·rw[RU m _ (by omega)]at hl;cases hl
 have:=Yj (P:=P) (n:=n) (Q:=Q) G w (ops.size -q) hc hq h1 h2 h3 hrq q (mk 0 bF vs) hmk _ E nL e2 hT G a {w with drawn:=w.drawn+1} h.drew (aC.drew G w)
 rwa[show q+(ops.size -q)=ops.size by omega]at this
end
end Go.AB
end
section
namespace Go.AB
open Go
def kA(off:Nat):AV->AV
 |.loc cs=>.loc (match cs[off]? with|some (.sl _ sz n ds)=>setAt cs off [.sl false sz n ds]|_=>cs)
 |a=>a
def Up(o:ai)(E:St):St:=match o.op with
 |.ib true x=>E.drain x
 |.store _ _ x=>E.drain x
 |.append _ _ x _=>E.drain x
 |.mL off (.t i) _=>{E with e:=(i,kA off (look E.e i))::E.e}
 |_=>E
def dz(o:ai)(i:Nat)(a:AV):AV:=if gr o i=true then(match o.op with|.mL off _ _=>kA off a|_=>view a)else a
theorem Jk(off:Nat)(a:AV):bq (kA off a)=bq a:=by cases a<;>rfl
theorem Mp{off:Nat}{a:AV}{c:Nat}(h:bD (kA off a) c):bD a c:=by cases a<;>first|exact h|exact h.elim
theorem Ek(off:Nat)(a:AV):view (kA off a)=kA off (view a):=by cases a<;>rfl
theorem xI(cs:List AV)(off:Nat)(x:AV)(h:off<cs.length)(j:Nat):(setAt cs off [x])[j]? =if j=off then some x else cs[j]? :=by
 unfold setAt
 rw[List.append_assoc]
 by_cases h1:j<off
 ·rw[List.getElem?_append_left (by simp;omega),if_neg (by omega),List.getElem?_take,if_pos h1]
 ·rw[List.getElem?_append_right (by simp;omega)]
  have hl:(cs.take off).length=off:=by simp;omega
  rw[hl]
  by_cases h2:j=off
  ·subst h2;simp
  ·rw[if_neg h2,List.getElem?_append_right (by simp;omega),List.getElem?_drop]
   congr 1
   simp
   omega
theorem pN(off:Nat)(cs:List AV)(j:Nat):(match cs[off]? with|some (.sl _ sz n ds)=>setAt cs off [.sl false sz n ds]|_=>cs)[j]? =if j=off then(cs[j]?).map (fun a=>match a with|.sl _ sz n ds=>.sl false sz n ds|a=>a)else cs[j]? :=by
 cases hc:cs[off]? with
 |none=>
  by_cases hj:j=off
  ·subst hj;simp[hc]
  ·simp[hj]
 |some a=>
  have hlt:=(List.getElem?_eq_some_iff.1 hc).1
  cases a<;>first
   |(show(setAt cs off _)[j]? =_
     rw[xI _ _ _ hlt]
     by_cases hj:j=off
     ·subst hj;simp[hc]
     ·simp[hj])
   |(show cs[j]? =_
     by_cases hj:j=off
     ·subst hj;simp[hc]
     ·simp[hj])
theorem Pd(o1 o2:Nat)(a:AV):kA o1 (kA o2 a)=kA o2 (kA o1 a):=by
 cases a<;>first|rfl|skip
 rename_i cs
 show AV.loc _=AV.loc _
 congr 1
 apply List.ext_getElem?
 intro j
 rw[pN,pN,pN,pN]
 by_cases h1:j=o1
 ·by_cases h2:j=o2
  ·simp only[eq_true h1,eq_true h2,if_true]
  ·simp only[eq_true h1,eq_false h2,if_true,if_false]
 ·by_cases h2:j=o2
  ·simp only[eq_false h1,eq_true h2,if_true,if_false]
  ·simp only[eq_false h1,eq_false h2,if_false]
def bQ(E:St)(o:ai)(v:AV):St:=(bU (Up o E) v (sV o)).put (sV o) v
def Ud(sz bytes:Nat)(v:AV):AV->AV->Prop
 |.sl true s n cs,.sl _ s' m ds=>s=sz/\(s'=sz\/m=0)/\(n+m)*bytes<=room/\v=.sl true sz (n+m) (cs++views ds)
 |.sl true s n cs,.str ds=>s=sz/\sz=1/\(n+ds.length)*bytes<=room/\v=.sl true sz (n+ds.length) (cs++ds.map fun c=>.int .u8 c.toNat)
 |_,_=>False
theorem acg{sz bytes:Nat}{E:St}{x:IX}{d:Option Nat}{K:St->Prop}{a b:AV}(h:lQ sz bytes E x d K a b):∃v,Ud sz bytes v a b/\K ((E.drain x).put d v):=by
 unfold lQ at h
 split at h
 ·obtain⟨h1,h2,h3,h4⟩:=h;exact⟨_,⟨h1,h2,h3,rfl⟩,h4⟩
 ·obtain⟨h1,h2,h3,h4⟩:=h;exact⟨_,⟨h1,h2,h3,rfl⟩,h4⟩
 ·exact h.elim
theorem acf{sz bytes:Nat}{E:St}{x:IX}{d:Option Nat}{K:St->Prop}{a b v:AV}(h:Ud sz bytes v a b)(hk:K ((E.drain x).put d v)):lQ sz bytes E x d K a b:=by
 unfold Ud at h
 split at h
 ·obtain⟨h1,h2,h3,h4⟩:=h;subst h4;exact⟨h1,h2,h3,hk⟩
 ·obtain⟨h1,h2,h3,h4⟩:=h;subst h4;exact⟨h1,h2,h3,hk⟩
 ·exact h.elim
theorem L9{sz bytes:Nat}{a b v:AV}(h:Ud sz bytes v a b):∃n cs,v=.sl true sz n cs:=by
 unfold Ud at h
 split at h
 ·exact⟨_,_,h.2.2.2⟩
 ·exact⟨_,_,h.2.2.2⟩
 ·exact h.elim
inductive Y2(P:Program)(E:St):ai->AV->Prop where
 |eR (o:ai) (v:AV) (h0:Xk o.op=false) (hf:aZ E o.dst=true) (hv:bq v=true) (h:Y P E o v):Y2 P E o v
 |sto (n c:Nat) (x:IX) (eR:List AV) (h0:look E.e c=.loc eR) (h1:eR.length=n) (h2:dF (E.x x)=true) (h3:(bg (E.x x)).length=n):Y2 P E ⟨none,.store n (.t c) x,none⟩ (.loc (bg (E.x x)))
 |alo (d:Nat) (z:List AV) (h0:bq (look E.e d)=true) (h1:mf E.lp (some d)=true):Y2 P E ⟨some d,.an z,none⟩ (.loc z)
 |app (d sz bytes:Nat) (x y:IX) (v:AV) (h0:bq (look E.e d)=true) (h1:Ud sz bytes v (E.x x) (E.x y)):Y2 P E ⟨some d,.append sz bytes x y,none⟩ v
 |lod (d off i:Nat) (x:IX) (cs:List AV) (o:Bool) (s m:Nat) (ds:List AV) (h0:bq (look E.e d)=true) (h1:E.x x=.lp i off) (h2:look E.e i=.loc cs) (h3:cs[off]? =some (.sl o s m ds)) (h4:d≠i):Y2 P E ⟨some d,.mL off (.t i) x,none⟩ (.sl o s m ds)
def W8(o:ai):Option Nat:=match o with
 |⟨none,.store _ (.t c) _,none⟩=>some c
 |⟨some d,.an _,none⟩=>some d
 |_=>none
section
variable{P:Program}{G G':Gh}{n:Nat}{D:List Deferred}{E E':St}{a:Act}{w w':World}{T:List Nat}
theorem T1{o:ai}(h:Xk o.op=false):sV o=o.dst:=by
 obtain⟨d,op,g⟩:=o
 cases op<;>first|(cases h;done)|(cases d<;>cases g<;>rfl)
theorem Y8{o:ai}(h:Xk o.op=false):Up o E=dr o E:=by
 obtain⟨d,op,g⟩:=o
 cases op<;>first|(cases h;done)|rfl|skip
 rename_i b x
 cases b<;>rfl
theorem LV{o:ai}{v:AV}(h:Xk o.op=false):bQ E o v=step E o v:=by unfold bQ step;rw[T1 h,Y8 h]
theorem Nu{o:ai}{K:St->Prop}(h:q2 P o E K):∃v,Y2 P E o v/\K (bQ E o v):=by
 unfold q2 at h
 split at h
 ·rename_i m c x
  cases hl:look E.e c<;>rw[hl]at h<;>first|(exact h.elim)|skip
  rename_i eR
  obtain⟨h1,h2,h3,h4⟩:=h
  exact⟨_,.sto m c x eR hl h1 h2 h3,h4⟩
 ·rename_i d z
  exact⟨_,.alo d z h.1 h.2.1,h.2.2⟩
 ·rename_i d sz bytes x y
  obtain⟨v,h1,h2⟩:=acg h.2
  refine⟨v,.app d sz bytes x y v h.1 h1,?_⟩
  obtain⟨m,cs,rfl⟩:=L9 h1
  exact h2
 ·rename_i d off i x
  obtain⟨k0,k1,k2⟩:=h
  have k1':∃i' o',E.x x=.lp i' o'/\i'=i/\o'=off:=by
   unfold zE at k1
   split at k1
   ·rename_i h1 h2
    injection h1 with h1
    rw[Bool.and_eq_true,beq_iff_eq,beq_iff_eq]at k1
    exact⟨_,_,h2,by rw[k1.1,h1],k1.2⟩
   ·cases k1
  obtain⟨i',o',e1,rfl,rfl⟩:=k1'
  rw[e1]at k2
  have k2:(match look E.e i' with
   |.loc cs=>some d≠some i'/\qY o' cs fun cs' a=>K ((E.put (some i') (.loc cs')).put (some d) a)
   |_=>False):=k2
  cases hl:look E.e i'<;>rw[hl]at k2<;>first|(exact k2.elim)|skip
  rename_i cs
  obtain⟨k3,k4⟩:=k2
  unfold qY at k4
  split at k4
  ·rename_i o s m ds hc
   refine⟨.sl o s m ds,.lod d o' i' x cs o s m ds k0 e1 hl hc (fun e=>k3 (by rw[e])),?_⟩
   have e2:bQ E ⟨some d,.mL o' (.t i') x,none⟩ (.sl o s m ds)=(E.put (some i') (.loc (setAt cs o' [.sl false s m ds]))).put (some d) (.sl o s m ds):=by
    unfold bQ Up
    simp only[hl,kA,hc]
    rfl
   rw[e2];exact k4
  ·exact k4.elim
 ·exact h.elim
 ·exact h.elim
 ·exact h.elim
 ·exact h.elim
 ·rename_i h1 h2 h3 h3' h4 h5 h6 h7
  have h0:Xk o.op=false:=by
   obtain⟨d,op,g⟩:=o
   cases op<;>first|rfl|exact(h4 _ _ _ _ _ rfl).elim|exact(h5 _ _ _ rfl).elim|exact(h6 _ _ _ _ _ _ rfl).elim|exact(h7 _ _ _ _ _ rfl).elim
  obtain⟨v,q1,q2,q3⟩:=SH h.2
  exact⟨v,.eR o v h0 h.1 q1 q2,by rw[LV h0];exact q3⟩
theorem wC(x:IX)(i:Nat):look (E.drain x).e i=if(match x with|.t j=>j==i|.c _=>false)=true then view (look E.e i)else look E.e i:=by
 cases x with
 |c a=>rfl
 |t j=>
  show look ((j,view (look E.e j))::E.e) i=_
  rw[aQ]
  by_cases hj:j=i
  ·subst hj;simp
  ·simp[hj]
theorem Xl(o:ai)(i:Nat):look (Up o E).e i=dz o i (look E.e i):=by
 unfold dz
 obtain⟨d,op,g⟩:=o
 cases op<;>first|rfl|skip
 case ib b x=>
  cases b with
  |false=>rfl
  |true=>
   show look (E.drain x).e i=_
   rw[wC]
   cases x<;>rfl
 case store m p x=>
  show look (E.drain x).e i=_
  rw[wC]
  cases x<;>rfl
 case append sz bytes x y=>
  show look (E.drain x).e i=_
  rw[wC]
  cases x<;>rfl
 case mL off j x=>
  cases j with
  |c a=>rfl
  |t j=>
   show look ((j,kA off (look E.e j))::E.e) i=if(j==i)=true then kA off (look E.e i)else look E.e i
   rw[aQ]
   by_cases hj:j=i
   ·subst hj;simp
   ·simp[hj]
theorem Mq(x:IX):(E.drain x).s=E.s/\(E.drain x).lp=E.lp:=by cases x<;>exact⟨rfl,rfl⟩
theorem abb(o:ai):(Up o E).s=E.s/\(Up o E).lp=E.lp:=by
 unfold Up
 split
 ·exact Mq _
 ·exact Mq _
 ·exact Mq _
 ·exact⟨rfl,rfl⟩
 ·exact⟨rfl,rfl⟩
theorem dU(o:ai)(v:AV)(i:Nat):look (bQ E o v).e i=if sV o=some i then v else dz o i (look E.e i):=by
 unfold bQ
 rw[<-Xl]
 cases hd:sV o with
 |none=>simp[St.put,(jD (Up o E) v none).1]
 |some d=>
  show look ((d,v)::(bU (Up o E) v (some d)).e) i=_
  rw[aQ,(jD (Up o E) v (some d)).1]
  simp
theorem nx(o:ai)(v:AV):(bQ E o v).s=E.s:=by
 unfold bQ
 have:∀(U:St)(d:Option Nat)(x:AV),(U.put d x).s=U.s:=fun U d x=>by cases d<;>rfl
 rw[this,(jD (Up o E) v (sV o)).2.1,(abb o).1]
theorem iZ(o:ai)(v:AV)(x:Nat×Nat):x∈(bQ E o v).lp↔(x∈E.lp\/∃i,sV o=some i/\x.1=i/\bD v x.2):=by
 have h1:(bQ E o v).lp=(bU (Up o E) v (sV o)).lp:=by unfold bQ;cases sV o<;>rfl
 rw[h1,<-(abb (E:=E) o).2]
 exact HE v (sV o) x
def zc(T:List Nat)(E:St):Prop:=∀i c,c∈T->¬bD (look E.e i) c
def CT(T:List Nat)(o:ai)(v:AV):Prop:=∀i,sV o=some i->∀c,c∈T->¬bD v c
def Zt(T:List Nat)(o:ai):Prop:=∀c,W8 o=some c->c∈T
theorem Qh:∀{c:Nat}{a:AV},mN c a=true->¬bD a c
 |c,.lp t o,h=>fun(e:t=c)=>by
  subst e
  have h':(!Nat.beq t t)=true:=h
  rw[Nat.beq_refl]at h'
  cases h'
 |c,.when b a,h=>Qh (a:=a) h
 |_,.undef,_|_,.bool _,_|_,.int _ _,_|_,.str _,_|_,.dV,_|_,.ref _ _,_|_,.sp _,_|_,.loc _,_|_,.sl _ _ _ _,_|_,.arr _ _ _ _,_|_,.agg _,_|_,.gK _,_|_,.fn _ _ _,_|_,.ph,_|_,.mp _,_|_,.pj,_|_,.us _ _ _,_|_,.one,_|_,.ri _,_|_,.BD,_|_,.bb _ _ _,_=>fun h=>h
theorem Ly:∀{T:List Nat}{a:AV},tC T a=true->∀c,c∈T->¬bD a c
 |c'::T,a,h,c,hc=>by
  have h':(mN c' a&&tC T a)=true:=h
  rw[Bool.and_eq_true]at h'
  rcases List.mem_cons.1 hc with rfl|hc
  ·exact Qh h'.1
  ·exact Ly h'.2 c hc
theorem qg:∀{e:List (Nat×AV)},gY T e=true->∀i c,c∈T->¬bD (look e i) c
 |[],_,i,c,_=>fun h=>h
 |(j,a)::e,h,i,c,hc=>by
  have h':(tC T a&&gY T e)=true:=h
  rw[Bool.and_eq_true]at h'
  rw[aQ]
  split
  ·exact Ly h'.1 c hc
  ·exact qg h'.2 i c hc
theorem SY{v:AV}{c:Nat}(h:bD (view v) c):bD v c:=by cases v<;>first|exact h|exact h.elim
theorem Wf{o:ai}{i:Nat}{a:AV}{c:Nat}(h:bD (dz o i a) c):bD a c:=by
 unfold dz at h
 split at h
 ·split at h
  ·exact Mp h
  ·exact SY h
 ·exact h
theorem Ur(o:ai)(i:Nat)(a:AV):bq (dz o i a)=bq a:=by
 unfold dz
 split
 ·split
  ·exact Jk _ _
  ·exact wF _
 ·rfl
theorem KX{o:ai}{i:Nat}{a:AV}(h:¬gr o i=true):dz o i a=a:=if_neg h
theorem Za(x y:ai)(i:Nat)(a:AV):dz x i (dz y i a)=dz y i (dz x i a):=by
 unfold dz
 by_cases h1:gr x i=true<;>by_cases h2:gr y i=true<;>simp only[h1,h2,if_true,if_false,Bool.false_eq_true]
 split<;>split
 ·exact Pd _ _ _
 ·exact(Ek _ _).symm
 ·exact Ek _ _
 ·rfl
theorem Nv(m off o:Nat)(a:AV):mO m off (kA o a)=mO m off a:=by
 cases a<;>first|rfl|skip
 rename_i cs
 have hv:views (match cs[o]? with|some (.sl _ sz n ds)=>setAt cs o [.sl false sz n ds]|_=>cs)=views cs:=by
  apply List.ext_getElem?
  intro j
  rw[eW,eW,pN]
  by_cases hj:j=o
  ·rw[if_pos hj]
   cases cs[j]? with
   |none=>rfl
   |some b=>cases b<;>rfl
  ·rw[if_neg hj]
 have hlen:(match cs[o]? with|some (.sl _ sz n ds)=>setAt cs o [.sl false sz n ds]|_=>cs).length=cs.length:=by
  have:=congrArg List.length hv
  simpa[views]using this
 show gN m off _=gN m off cs
 generalize(match cs[o]? with|some (.sl _ sz n ds)=>setAt cs o [.sl false sz n ds]|_=>cs)=cs' at hv hlen⊢
 unfold gN
 rw[hlen]
 have hs:views (AB.sub cs' off m)=views (AB.sub cs off m):=by
  unfold AB.sub views
  unfold views at hv
  rw[List.map_take,List.map_drop,List.map_take,List.map_drop,hv]
 rw[hs]
theorem XZ(m off:Nat)(o:ai)(i:Nat)(a:AV):mO m off (dz o i a)=mO m off a:=by
 unfold dz
 split
 ·split
  ·exact Nv _ _ _ _
  ·exact HZ ..
 ·rfl
theorem tP{o:ai}{v:AV}(h:zc T E)(hs:CT T o v):zc T (bQ E o v):=fun i c hc=>by
 rw[dU]
 split
 ·rename_i ht;exact hs i ht c hc
 ·exact fun hh=>h i c hc (Wf hh)
theorem CU{o:ai}{v:AV}(h:zc T (bQ E o v)):CT T o v:=fun i hi c hc=>by
 have:=h i c hc
 rw[dU,if_pos hi]at this
 exact this
theorem X1{o:ai}{v:AV}(hy:Y2 P E o v)(p:AV)(m:Nat)(hp:∀c,W8 o=some c->¬bD p c):rd (bQ E o v) p m=rd E p m:=by
 cases p<;>try rfl
 ·rename_i b off
  show BM m off ((bQ E o v).s b)=BM m off (E.s b)
  rw[nx]
 ·rename_i d off
  show mO m off (look (bQ E o v).e d)=mO m off (look E.e d)
  rw[dU]
  by_cases hd:sV o=some d
  ·rw[if_pos hd]
   cases hy with
   |eR _ _ h0 hf hv h=>
    rw[T1 h0]at hd
    rw[hd]at hf
    rw[kc hv]
    exact(kc hf m off).symm
   |sto m' c x eR h0 h1 h2 h3=>
    have e:some c=some d:=hd
    injection e with e
    subst e
    exact(hp c rfl rfl).elim
   |alo d' z h0 h1=>
    have e:some d'=some d:=hd
    injection e with e
    subst e
    exact(hp d' rfl rfl).elim
   |app d' sz bytes x y _ h0 h1=>
    have e:some d'=some d:=hd
    injection e with e
    subst e
    obtain⟨k,cs,rfl⟩:=L9 h1
    rw[kc (av:=.sl true sz k cs) rfl]
    exact(kc h0 m off).symm
   |lod d' ZS i x cs o s m' ds h0 h1 h2 h3 h4=>
    have e:some d'=some d:=hd
    injection e with e
    subst e
    rw[kc (av:=.sl o s m' ds) rfl]
    exact(kc h0 m off).symm
  ·rw[if_neg hd]
   exact XZ ..
theorem agb{o:ai}(h:cOK o=true){a:AV}(ha:IX.c a∈dv o.op)(c:Nat):¬bD a c:=by
 have:=List.all_eq_true.1 h _ ha
 cases a<;>first|exact fun h=>h|(cases this;done)
theorem Vv{g:Bool}:∀{a:AV}{c:Nat},bD (Ak g a) c->bD a c:=by
 intro a c h
 cases a
 case when b a=>
  have h':bD (bif(b==g||b)&&inner a then a else AV.undef) c:=h
  cases hb:((b==g||b)&&inner a)<;>rw[hb]at h'
  ·exact h'.elim
  ·exact h'
 all_goals exact h
theorem YC{o:ai}(hc:cOK o=true)(h:zc T E){x:IX}(hx:x∈dv o.op)(g:Bool){c:Nat}(ht:c∈T):¬bD (xg g E x) c:=fun hh=>by
 have h':=Vv hh
 cases x with
 |c a=>exact agb hc hx c h'
 |t i=>exact h i c ht h'
theorem xf{o y:ai}{v:AV}(hy:Y2 P E y v)(hn:gZ (sV y) (cy o)=true)(hdr:Eb y o=true)(hc:cOK o=true)(hN:zc T E)(hT:Zt T y):OQ o E (bQ E y v):=by
 have key:∀i,i∈cy o->look (bQ E y v).e i=look E.e i:=by
  intro i hi
  have h1:¬gr y i=true:=by
   have:=List.all_eq_true.1 hdr i hi
   simpa using this
  rw[dU,if_neg,KX h1]
  intro hd
  rw[hd]at hn
  simp[gZ]at hn
  exact hn hi
 refine⟨fun x hx=>?_,fun t want hg=>?_,(nx y v).symm,fun x hx g m=>(X1 hy _ m fun c hc'=>YC hc hN hx g (hT c hc')).symm⟩
 ·cases x with
  |c a=>rfl
  |t i=>exact(key i (List.mem_append_right _ (il hx))).symm
 ·exact(key t (List.mem_append_left _ (by rw[hg];exact List.mem_cons_self))).symm
theorem Y2.Tb{o:ai}{v:AV}(hy:Y2 P E o v)(h:OQ o E E')(hf:∀i,o.dst=some i->bq (look E'.e i)=bq (look E.e i))(hl:∀i,W8 o=some i->mf E.lp (some i)=true->mf E'.lp (some i)=true):Y2 P E' o v:=by
 cases hy with
 |eR _ _ h0 hs hv h1=>
  refine .eR o v h0 ?_ hv (h1.Tb h)
  cases hd:o.dst with
  |none=>rfl
  |some i=>
   rw[hd]at hs
   show bq (look E'.e i)=true
   rw[hf i hd];exact hs
 |sto m c x eR h0 h1 h2 h3=>
  have e1:look E.e c=look E'.e c:=h.xs (.t c) (by simp[dv])
  have e2:E.x x=E'.x x:=h.xs x (by simp[dv])
  rw[e2]at h2 h3⊢
  exact .sto m c x eR (by rw[<-e1];exact h0) h1 h2 h3
 |alo d z h0 h1=>exact .alo d z (by rw[hf d rfl];exact h0) (hl d rfl h1)
 |app d sz bytes x y _ h0 h1=>
  have e1:E.x x=E'.x x:=h.xs x (by simp[dv])
  have e2:E.x y=E'.x y:=h.xs y (by simp[dv])
  exact .app d sz bytes x y v (by rw[hf d rfl];exact h0) (by rw[<-e1,<-e2];exact h1)
 |lod d off i x cs o s m ds h0 h1 h2 h3 h4=>
  have e1:E.x x=E'.x x:=h.xs x (by simp[dv])
  have e2:look E.e i=look E'.e i:=h.xs (.t i) (by simp[dv])
  exact .lod d off i x cs o s m ds (by rw[hf d rfl];exact h0) (by rw[<-e1];exact h1) (by rw[<-e2];exact h2) h3 h4
theorem mF.bQ(h:mF E E')(o:ai)(v:AV):mF (AB.bQ E o v) (AB.bQ E' o v):=⟨fun i=>by rw[dU,dU,h.e],fun x=>by rw[iZ,iZ,h.lp],by rw[nx,nx,h.s]⟩
theorem nU{l l':List (Nat×Nat)}{i:Nat}(h:∀x∈l',x.2=i->x∈l)(hf:mf l (some i)=true):mf l' (some i)=true:=by
 refine List.all_eq_true.2 fun x hx=>?_
 cases hb:Nat.beq x.2 i with
 |false=>rfl
 |true=>
  have:=List.all_eq_true.1 hf x (h x hx (Nat.eq_of_beq_eq_true hb))
  rw[hb]at this
  cases this
theorem Y2.eqv{o:ai}{v:AV}(hy:Y2 P E o v)(h:mF E E'):Y2 P E' o v:=hy.Tb (h.Tb o) (fun i _=>by rw[h.e]) fun i _ hf=>nU (fun x hx _=>(h.lp x).2 hx) hf
theorem IS{x y:ai}{u v:AV}(hne:∀i j,sV x=some i->sV y=some j->i≠j)(hxy:∀i,sV y=some i->gr x i=false)(hyx:∀i,sV x=some i->gr y i=false):mF (bQ (bQ E x u) y v) (bQ (bQ E y v) x u):=
 ⟨fun i=>by
   rw[dU,dU,dU,dU]
   by_cases h1:sV y=some i
   ·by_cases h2:sV x=some i
    ·exact absurd rfl (hne i i h2 h1)
    ·rw[if_pos h1,if_neg h2,if_pos h1,KX (by rw[hxy i h1];decide)]
   ·by_cases h2:sV x=some i
    ·rw[if_neg h1,if_pos h2,if_pos h2,KX (by rw[hyx i h2];decide)]
    ·rw[if_neg h1,if_neg h2,if_neg h2,if_neg h1]
     exact Za _ _ _ _,fun z=>by
   rw[iZ,iZ,iZ,iZ]
   constructor
   ·rintro((h|h)|h)
    ·exact .inl (.inl h)
    ·exact .inr h
    ·exact .inl (.inr h)
   ·rintro((h|h)|h)
    ·exact .inl (.inl h)
    ·exact .inr h
    ·exact .inl (.inr h),by rw[nx,nx,nx,nx]⟩
theorem Vj{eR news:List AV}(h:news.length=eR.length):setAt eR 0 news=news:=by
 unfold setAt
 rw[List.take_zero,List.nil_append,Nat.zero_add,h,List.drop_length,List.append_nil]
theorem Zm(d sz bytes:Nat)(x y:IX)(K:St->Prop):Ri P ⟨some d,.append sz bytes x y,none⟩ E K=lQ sz bytes E x (some d) K (E.x x) (E.x y):=by
 rw[PD,SG]
 unfold YK jB
 rfl
theorem Y2.run(h:Inv G n D E a w){ops:Array Oper}{o:Oper}{o':ai}{v:AV}(hc:iB P n ops o o'=true)(hy:Y2 P E o' v){next:Act->World->Prop}{Q:Exit->Act->World->Prop}
 (hn:∀G' a' w',Inv G' n D (bQ E o' v) a' w'->aC G w G' w'->next a' w'):BF P ops o a w next Q:=by
 have gen:Ri P o' E (fun U=>U=bQ E o' v)->BF P ops o a w next Q:=fun hg=>gV h hc hg fun G' E' a' w' h1 h2 h3=>by subst h3;exact hn G' a' w' h1 h2
 cases hy with
 |eR _ _ h0 _ _ h1=>exact h1.run h hc fun G' a' w' k1 k2=>hn G' a' w' (by rw[LV h0];exact k1) k2
 |sto m c x eR h0 h1 h2 h3=>
  refine gen ?_
  show N5 m E (.t c) x none _ (E.x x)
  refine⟨h2,h3,?_⟩
  have e:KP (E.drain x) (E.x (.t c)) (.t c) (bg (E.x x))=some ((E.drain x).put (some c) (.loc (bg (E.x x)))):=by
   have e1:E.x (.t c)=.loc eR:=h0
   rw[e1]
   show wrL (E.drain x) c (eA 0 (bg (E.x x)) eR)=_
   unfold eA
   rw[decide_eq_true (by omega),Vj (by omega)]
   rfl
  rw[e]
  rfl
 |alo d z h0 h1=>exact gen ⟨h1,rfl⟩
 |app d sz bytes x y _ h0 h1=>
  refine gen ?_
  rw[Zm]
  refine acf (d:=some d) (x:=x) h1 ?_
  obtain⟨k,cs,rfl⟩:=L9 h1
  rfl
 |lod d off i x cs o s m ds h0 h1 h2 h3 h4=>
  refine gen ?_
  rw[PD,Vb]
  show zE (.t i) off (E.x x)=true/\oz E (some d) _ (E.x x)
  rw[h1]
  refine⟨by simp[zE],?_⟩
  show match look E.e i with|.loc cs=>some d≠some i/\qY off cs _|_=>False
  rw[h2]
  refine⟨fun e=>h4 (by injection e),?_⟩
  unfold qY
  rw[h3]
  show(E.put (some i) _).put (some d) _=_
  unfold bQ Up
  simp only[h2,kA,h3]
  rfl
theorem Qz{ops:Array Oper}{Q:Exit->Act->World->Prop}{K:St->Prop}(G₀:Gh)(w₀:World)
 (hn:∀G' E' a' w',Inv G' n D E' a' w'->aC G₀ w₀ G' w'->K E'->Q .normal a' w'):∀(q:Nat)(l:List Oper)(l':List ai)(G:Gh)(E:St)(a:Act)(w:World),cd P n ops l l'=true->Inv G n D E a w->aC G₀ w₀ G w->HY P T q l' E K->wpList P ops Q l a w
 |0,l,l',G,E,a,w,hc,h,hp,hk=>sP G₀ w₀ hn l l' G E a w hc h hp hk
 |_+1,[],[],G,E,a,w,_,h,hp,hk=>hn G E a w h hp hk
 |q+1,o::l,o'::l',G,E,a,w,hc,h,hp,hk=>by
  simp only[cd,Bool.and_eq_true]at hc
  obtain⟨v,hy,hk⟩:=Nu hk
  show BF P ops o a w (wpList P ops Q l) Q
  exact hy.run h hc.1 fun G' a' w' h1 h2=>Qz G₀ w₀ hn q l l' G' _ a' w' hc.2 h1 (hp.trans h2) hk.2
 |_+1,[],_::_,_,_,_,_,hc,_,_,_=>by simp[cd]at hc
 |_+1,_::_,[],_,_,_,_,hc,_,_,_=>by simp[cd]at hc
def sW(P:Program)(T:List Nat):St->uN->Prop
 |_,[]=>True
 |E,(_,o,v)::r=>Y2 P E o v/\CT T o v/\Zt T o/\sW P T (bQ E o v) r
def Pv:St->uN->St
 |E,[]=>E
 |E,(_,o,v)::r=>Pv (bQ E o v) r
theorem sW.eqv:∀{p:uN}{E E':St},mF E E'->sW P T E p->sW P T E' p
 |[],_,_,_,_=>trivial
 |(_,o,v)::r,_,_,h,⟨h1,h2,h3,h4⟩=>⟨h1.eqv h,h2,h3,sW.eqv (h.bQ o v) h4⟩
theorem Pw:∀(p:uN){E E':St},mF E E'->mF (Pv E p) (Pv E' p)
 |[],_,_,h=>h
 |(_,o,v)::r,_,_,h=>Pw r (h.bQ o v)
theorem pO{o:ai}{i:Nat}(h:gr o i=true):i∈cy o:=by
 unfold gr at h
 split at h
 ·rename_i j hop
  have:j=i:=by simpa using h
  subst this
  refine List.mem_append_right _ ?_
  rw[hop];exact List.mem_cons_self
 ·rename_i m p j hop
  have:j=i:=by simpa using h
  subst this
  refine List.mem_append_right _ ?_
  rw[hop]
  cases p with
  |t k=>exact List.mem_cons_of_mem _ List.mem_cons_self
  |c k=>exact List.mem_cons_self
 ·rename_i sz bytes j y hop
  have:j=i:=by simpa using h
  subst this
  refine List.mem_append_right _ ?_
  rw[hop];exact List.mem_cons_self
 ·rename_i off j x hop
  have:j=i:=by simpa using h
  subst this
  refine List.mem_append_right _ ?_
  rw[hop];exact List.mem_cons_self
 ·cases h
theorem OV{x y:ai}(h:ap2 x y=true):gZ (sV x) (cy y)=true/\gZ (sV y) (cy x)=true/\(∀i j,sV x=some i->sV y=some j->i≠j)/\Eb x y=true/\Eb y x=true/\(∀i,sV y=some i->gr x i=false)/\(∀i,sV x=some i->gr y i=false)/\cOK x=true/\cOK y=true:=by
 unfold ap2 at h
 simp only[Bool.and_eq_true]at h
 obtain⟨⟨⟨⟨⟨c1,c2⟩,d1,d2⟩,n1⟩,n2⟩,hm⟩:=h
 refine⟨n1,n2,fun i j hi hj=>?_,d1,d2,fun i hi=>?_,fun i hi=>?_,c1,c2⟩
 ·rw[hi,hj]at hm
  simpa using hm
 ·rw[hi]at n2
  simp[gZ]at n2
  cases hd:gr x i with
  |false=>rfl
  |true=>exact absurd (pO hd) n2
 ·rw[hi]at n1
  simp[gZ]at n1
  cases hd:gr y i with
  |false=>rfl
  |true=>exact absurd (pO hd) n1
theorem AH{o:ai}{i:Nat}(h:o.dst=some i):sV o=some i:=by
 obtain⟨d,op,g⟩:=o
 have h':d=some i:=h
 subst h'
 cases op<;>rfl
theorem mg{y:ai}{v:AV}{i:Nat}(h:sV y≠some i):bq (look (bQ E y v).e i)=bq (look E.e i):=by
 rw[dU,if_neg h]
 exact Ur _ _ _
theorem abH{x:Nat×ai×AV}:∀(pre:uN)(post:uN)(E:St),zc T E->(∀y∈pre,ap2 y.2.1 x.2.1=true)->sW P T E (pre++x::post)->
 Y2 P E x.2.1 x.2.2/\CT T x.2.1 x.2.2/\Zt T x.2.1/\sW P T (bQ E x.2.1 x.2.2) (pre++post)/\mF (Pv (bQ E x.2.1 x.2.2) (pre++post)) (Pv E (pre++x::post))
 |[],post,E,_,_,h=>⟨h.1,h.2.1,h.2.2.1,h.2.2.2,mF.refl _⟩
 |(k,o,v)::pre,post,E,hN,hap,h=>by
  obtain⟨h1,h2,h3,h4⟩:=h
  obtain⟨i1,i2,i3,i4,i5⟩:=abH pre post (bQ E o v) (tP hN h2) (fun y hy=>hap y (List.mem_cons_of_mem _ hy)) h4
  obtain⟨a1,a2,a3,a4,a5,a6,a7,c1,c2⟩:=OV (hap (k,o,v) List.mem_cons_self)
  have hx:Y2 P E x.2.1 x.2.2:=i1.Tb (xf h1 a1 a4 c2 hN h3).symm
   (fun i hi=>(mg fun e=>a3 i i e (AH hi) rfl).symm)
   (fun i hi hf=>nU (fun z hz _=>(iZ o v z).2 (.inl hz)) hf)
  have ho:Y2 P (bQ E x.2.1 x.2.2) o v:=h1.Tb (xf hx a2 a5 c1 hN i3)
   (fun i hi=>mg fun e=>a3 i i (AH hi) e rfl)
   (fun i hi hf=>nU (fun z hz hzi=>by
     rcases(iZ _ _ z).1 hz with hz|⟨j,j1,_,j3⟩
     ·exact hz
     ·rw[hzi]at j3;exact(i2 j j1 i (h3 i hi) j3).elim) hf)
  have Gx:mF (bQ (bQ E o v) x.2.1 x.2.2) (bQ (bQ E x.2.1 x.2.2) o v):=IS a3 a6 a7
  refine⟨hx,i2,i3,⟨ho,h2,h3,i4.eqv Gx⟩,?_⟩
  exact(Pw (pre++post) Gx.symm).trans i5
end
section
variable{P:Program}{G G':Gh}{n:Nat}{D:List Deferred}{E E':St}{a:Act}{w w':World}{ops:Array Oper}{bF:List ai}{q:Nat}{T:List Nat}
theorem Uj{l:List ai}{o:ai}(h:V2 T bF q=true)(hl:l=bF.take q)(ho:o∈l):Zt T o:=fun c hc=>by
 subst hl
 have:=List.all_eq_true.1 h o ho
 unfold W8 at hc
 split at hc
 ·injection hc with hc;subst hc;simpa using this
 ·injection hc with hc;subst hc;simpa using this
 ·cases hc
theorem LN{K:St->Prop}:∀(q:Nat)(l:List ai)(E:St)(k:Nat),q<=l.length->(∀o∈l.take q,Zt T o)->HY P T q l E K->∃vs:List AV,vs.length=q/\sW P T E (mk k l vs)/\swp P (l.drop q) (Pv E (mk k l vs)) K
 |0,l,E,k,_,_,h=>⟨[],rfl,by cases l<;>trivial,by cases l<;>exact h⟩
 |q+1,[],_,_,hl,_,_=>by simp at hl
 |q+1,o::l,E,k,hl,hT,h=>by
  obtain⟨v,hy,hno,hk⟩:=Nu (show q2 P o E (fun U=>gY T U.e=true/\HY P T q l U K) from h)
  obtain⟨vs,h2,h3,h4⟩:=LN q l (bQ E o v) (k+1) (by simpa using hl) (fun o' ho'=>hT o' (by rw[List.take_succ_cons];exact List.mem_cons_of_mem _ ho')) hk
  exact⟨v::vs,by simp[h2],⟨hy,CU fun i c hc=>qg hno i c hc,hT o (by rw[List.take_succ_cons];exact List.mem_cons_self),h3⟩,h4⟩
theorem Vi{Q:Exit->Act->World->Prop}(G₀:Gh)(w₀:World)(f:Nat)(hc:cd P n ops ops.toList bF=true)(hq:q<=ops.size)(h1:Tf ops q=true)(h2:KW ops q=true)(h3:V3 ops q bF=true)(h4:q<ops.size->Region.ready .any ops (rP ops.size q)=[q]):
 ∀(m:Nat)(kW:uN),kW.length=m->∀(aM:Array Bool)(E:St),Good ops bF q kW aM->zc T E->sW P T E kW->
  (∀G a w,Inv G n D (Pv E kW) a w->aC G₀ w₀ G w->wpAny P .any ops Q f (rP ops.size q) a w)->∀(G:Gh)(a:Act)(w:World),Inv G n D E a w->aC G₀ w₀ G w->wpAny P .any ops Q (m+f) aM a w:=by
 intro m
 induction m with
 |zero=>
  intro kW hp aM E hg _ _ hT G a w h hpr
  have:kW=[]:=List.eq_nil_of_length_eq_zero hp
  subst this
  rw[T4 hg,Nat.zero_add]
  exact hT G a w h hpr
 |succ m ih=>
  intro kW hp aM E hg hNo hch hT G a w h hpr
  obtain⟨hlen,lY⟩:=gp _ _ hc
  rw[show m+1+f=(m+f)+1 by omega]
  refine⟨fun h0=>?_,fun i hi=>?_⟩
  ·
   cases kW with
   |nil=>simp at hp
   |cons x kW=>
    obtain⟨k,o,v⟩:=x
    obtain⟨u1,u2,u3⟩:=hg.un k o v List.mem_cons_self
    have zA:k∈Region.ready .any ops aM:=by
     have hk:k<ops.size:=by omega
     refine mem_ready.2 ⟨u2,ops[k],Array.getElem?_eq_getElem hk,fun e he hb=>?_⟩
     have hs:=List.all_eq_true.1 h1 k (List.mem_range.2 u1)
     rw[Array.getElem?_eq_getElem hk]at hs
     have:=Array.all_eq_true_iff_forall_mem.1 hs e he
     rw[hb]at this
     have hlt:e.on<k:=by simpa using this
     refine hg.li e.on (by omega) fun o' v' hm=>?_
     rcases List.mem_cons.1 hm with hm|hm
     ·injection hm with hm;omega
     ·have:=(List.pairwise_cons.1 hg.sorted).1 _ hm
      simp at this
      omega
    rw[h0]at zA
    cases zA
  ·obtain⟨r1,r2,r3⟩:=kO hi
   have hne:∃k o v,(k,o,v)∈kW:=by
    cases kW with
    |nil=>simp at hp
    |cons x kW=>exact⟨x.1,x.2.1,x.2.2,List.mem_cons_self⟩
   have hiq:i<q:=by
    refine Classical.byContradiction fun hge=>?_
    have hqs:q<ops.size:=by omega
    by_cases hiq':i=q
    ·subst hiq'
     have eH:∀(d k:Nat),k<i->i -k=d->aM.getD k false=true:=by
      intro d
      induction d using Nat.strongRecOn with
      |_ d ihd=>
       intro k hk hd
       have hs:((List.range i).all fun k=>(List.range (i+1)).any fun m=>decide (k<m)&&iw ops m k)=true:=by
        unfold KW at h2
        rw[Bool.or_eq_true]at h2
        rcases h2 with h2|h2
        ·have:=beq_iff_eq.1 h2;omega
        ·exact h2
       obtain⟨m',hm1,hm2⟩:=List.any_eq_true.1 (List.all_eq_true.1 hs k (List.mem_range.2 hk))
       rw[Bool.and_eq_true,decide_eq_true_eq]at hm2
       have ako:=List.mem_range.1 hm1
       by_cases hmi:m'=i
       ·subst hmi;exact r3 k hm2.2
       ·exact hg.cl m' (by omega) (ihd (i -m') (by omega) m' (by omega) rfl) k hm2.2
     obtain⟨k,o,v,hk⟩:=hne
     obtain⟨u1,u2,u3⟩:=hg.un k o v hk
     have:=lX (eH _ k u1 rfl)
     rw[u2]at this
     cases this
    ·have hnr:i∉Region.ready .any ops (rP ops.size q):=by rw[h4 hqs];simpa using hiq'
     apply hnr
     refine mem_ready.2 ⟨?_,ops[i],Array.getElem?_eq_getElem r1,fun e he hb=>?_⟩
     ·simp[rP,r1];omega
     ·have hl:=r3 e.on ((nE (Array.getElem?_eq_getElem r1)).2 ⟨e,he,hb,rfl⟩)
      have hlt:e.on<q:=by
       refine Classical.byContradiction fun hnl=>?_
       by_cases hs:e.on<ops.size
       ·have:=hg.tl e.on (by omega) hs
        have:=lX hl
        simp_all
       ·have:aM.getD e.on false=false:=by simp[Array.getElem?_eq_none (show aM.size<=e.on by rw[hg.size];omega)]
        rw[this]at hl;cases hl
      simp[rP,show e.on<ops.size by omega,hlt]
   have hin:∃o v,(i,o,v)∈kW:=by
    apply Classical.byContradiction
    intro hno
    have:=hg.li i hiq fun o v hm=>hno ⟨o,v,hm⟩
    have:=lX this
    rw[r2]at this
    cases this
   obtain⟨o',v,hin⟩:=hin
   obtain⟨pre,post,rfl⟩:=List.append_of_mem hin
   have vj:=List.pairwise_append.1 hg.sorted
   have hap:∀y∈pre,ap2 y.2.1 o'=true:=by
    intro y hy
    obtain⟨k,o,u⟩:=y
    have hlt:k<i:=vj.2.2 _ hy _ List.mem_cons_self
    obtain⟨u1,u2,u3⟩:=hg.un k o u (List.mem_append_left _ hy)
    obtain⟨_,_,u4⟩:=hg.un i o' v (by simp)
    have hs:=List.all_eq_true.1 (List.all_eq_true.1 h3 i (List.mem_range.2 hiq)) k (List.mem_range.2 hlt)
    rw[Bool.or_eq_true]at hs
    rcases hs with hs|hs
    ·have:=lX (r3 k hs)
     rw[u2]at this
     cases this
    ·unfold aaY at hs
     rw[u3,u4]at hs
     exact hs
   obtain⟨p1,p2,p3,p4,p5⟩:=abH pre post E hNo hap hch
   obtain⟨_,_,u4⟩:=hg.un i o' v (by simp)
   have ho:ops.toList[i]? =some ops[i]:=by simp[r1]
   refine qz (o:=ops[i]) (by simp[r1]) (Y2.run h (lY i _ _ ho u4) p1 fun G' a' w' k1 k2=>?_)
   exact ih (pre++post) (by simp at hp⊢;omega) _ (bQ E o' v) (Lb hg hi) (tP hNo p2) p4 (fun G'' a'' w'' z1 z2=>hT G'' a'' w'' (z1.eqv p5) z2) G' a' w' k1 (hpr.trans k2)
theorem acs(hm:P.follows .mixedOrders=true):aaS P n:=by
 intro D draw id ops bF T q G E a w K Q hc hd h hno hw hn
 cases draw with
 |false=>exact wp_region_list (Qz G w hn q ops.toList bF G E a w hc h (aC.refl G w) hw)
 |true=>
 have hd:=hd rfl
 simp only[Mg,Bool.and_eq_true,decide_eq_true_eq]at hd
 obtain⟨hq,h1,h2,h3,hl0,h4⟩:=hd
 obtain⟨hlen,lY⟩:=gp _ _ hc
 have hsz:bF.length=ops.size:=by rw[<-hlen];simp
 obtain⟨vs,e1,e2,e3⟩:=LN q bF E 0 (by omega) (fun o ho=>Uj hl0 rfl ho) hw
 have hmk:(mk 0 bF vs).length=q:=by
  have:∀(l:List ai)(vs:List AV)(k:Nat),vs.length<=l.length->(mk k l vs).length=vs.length:=by
   intro l
   induction l with
   |nil=>intro vs k hl;cases vs with
    |nil=>rfl
    |cons=>simp at hl
   |cons o l ih=>intro vs k hl;cases vs with
    |nil=>rfl
    |cons v vs=>simp[mk,ih vs (k+1) (by simpa using hl)]
  rw[this bF vs 0 (by omega),e1]
 refine wp_region_any hm ?_
 have hrq:q<ops.size->Region.ready .any ops (rP ops.size q)=[q]:=by
  intro hlt
  obtain⟨d,hd⟩:∃d,ops.size -q=d+1:=⟨ops.size -q -1,by omega⟩
  rw[hd]at h4
  simp only[te,Bool.and_eq_true,beq_iff_eq]at h4
  exact h4.1
 have hT:∀G' a' w',Inv G' n D (Pv E (mk 0 bF vs)) a' w'->aC G w G' w'->wpAny P .any ops Q (ops.size -q) (rP ops.size q) a' w':=by
  intro G' a' w' z1 z2
  have hl:(bF.drop q).length=ops.size -q:=by rw[List.length_drop];omega
  have:=Ah G w hc hn (bF.drop q) q (rP ops.size q) G' _ a' w' rfl (by rw[hl];exact h4) e3 z1 z2
  rwa[hl]at this
 have nL:Good ops bF q (mk 0 bF vs) (Array.replicate ops.size false):=by
  have RU:∀k b,k<ops.size->(Array.replicate ops.size false).getD k b=false:=fun k b hk=>by simp[hk]
  refine⟨by simp,fun k o v hk=>?_,fun k hk hno=>?_,fun j _ hj=>RU j _ hj,fun m hm hl i hi=>?_,CV bF vs 0⟩
  ·obtain⟨j,j1,j2,j3⟩:=Nd bF vs 0 k o v hk
   have:k=j:=by omega
   subst this
   exact⟨by omega,RU k _ (by omega),j3⟩
  ·obtain⟨o,v,hh⟩:=Si bF vs 0 k (by omega) (by omega)
   rw[Nat.zero_add]at hh
   exact absurd hh (hno o v)
  ·rw[RU m _ (by omega)]at hl;cases hl
 have:=Vi (T:=T) (P:=P) (n:=n) (Q:=Q) G w (ops.size -q) hc hq h1 h2 h3 hrq q (mk 0 bF vs) hmk _ E nL (fun i c hc=>qg hno i c hc) e2 hT G a {w with drawn:=w.drawn+1} h.drew (aC.drew G w)
 rwa[show q+(ops.size -q)=ops.size by omega]at this
end
end Go.AB
end
