/- A part of the proof: Ab21, Ab22, Ab22t. -/
import Derived.Test.YtkeagffgdajggaaGreatNu8
set_option linter.unusedSimpArgs false
set_option linter.unusedVariables false
section
namespace Go.AB
open Go
section
variable{P:Program}{G G':Gh}{n:Nat}{D:List Deferred}{E E':St}{a:Act}{w w':World}
theorem Inv.xt{d:Option Nat}{av:AV}(h:Inv G n D (E.put d (.gw [])) a w)(hd:bp n d=true)(hnl:∀t,¬bB av t):Inv G n D (E.put d (.when false av)) a w:=by
 cases d with
 |none=>exact h
 |some i=>
  have hi:i<n:=by simpa[bp]using hd
  have e1:look (E.put (some i) (.gw [])).e i=.gw []:=by simp[St.put,aM]
  have:=h.Tj i hi (.when false av) hnl (fun cs e=>by cases e) (fun v hv=>by
   have hs:=h.ch i v hv
   rw[e1]at hs
   obtain⟨ys,rfl,h2⟩:=hs
   refine⟨fun hh=>Bool.noConfusion hh,fun _=>?_⟩
   have:ys= #[]:=Array.eq_empty_of_size_eq_zero (by simpa using h2.1)
   rw[this])
  refine this.eqv ⟨fun j=>?_,fun _=>Iff.rfl,rfl⟩
  simp only[St.put,aM]
  split<;>rfl
theorem xj{rs:List AV}(h:jO rs=true)(t:Nat):¬bB (fj rs) t:=by
 match rs,h with
 |[],_=>exact fun h=>h
 |[r],h=>exact HT h t
 |_::_::_,_=>exact fun h=>h
theorem XY{op:ua}{d:Option Nat}{v:AV}{K:St->Prop}(h:qe (xg true E) E.s op=.dv v\/∃c,qe (xg true E) E.s op=.prt c v/\c)(hk:K (E.put d v)):jf P op d E K:=by
 cases op<;>first|(rcases h with h|⟨c,h,_⟩<;>cases h;done)|skip
 case gD x=>
  show rq E d K (xg true E x)
  have h':wU (xg true E x)=.dv v\/∃c,wU (xg true E x)=.prt c v/\c:=h
  cases hx:xg true E x<;>rw[hx]at h'<;>first|(rcases h' with h'|⟨c,h',_⟩<;>cases h';done)|skip
  rcases h' with h'|⟨c,h',_⟩
  ·injection h' with h';subst h';exact hk
  ·cases h'
 case lookup kk z ok x k=>
  show RR E d K (iT kk z ok E.s (xg true E k) (xg true E x))
  have h':iT kk z ok E.s (xg true E k) (xg true E x)=.dv v\/∃c,iT kk z ok E.s (xg true E k) (xg true E x)=.prt c v/\c:=h
  rcases h' with h'|⟨c,h',hc⟩<;>rw[h']
  ·exact hk
  ·exact⟨hc,hk⟩
 case rW x=>
  show RR E d K (CO (xg true E x))
  have h':CO (xg true E x)=.dv v\/∃c,CO (xg true E x)=.prt c v/\c:=h
  rcases h' with h'|⟨c,h',hc⟩<;>rw[h']
  ·exact hk
  ·exact⟨hc,hk⟩
 case kc x=>
  show RR E d K (Eg (xg true E x))
  have h':Eg (xg true E x)=.dv v\/∃c,Eg (xg true E x)=.prt c v/\c:=h
  rcases h' with h'|⟨c,h',hc⟩<;>rw[h']
  ·exact hk
  ·exact⟨hc,hk⟩
 case bq sz m z ps=>
  show Aa sz m E d K (fill (xg true E) z ps)
  have h':HP sz m (fill (xg true E) z ps)=.dv v\/∃c,HP sz m (fill (xg true E) z ps)=.prt c v/\c:=h
  cases hx:fill (xg true E) z ps<;>rw[hx]at h'
  ·rcases h' with h'|⟨c,h',_⟩<;>cases h'
  ·rcases h' with h'|⟨c,h',hc⟩
   ·cases h'
   ·injection h' with h1 h2;subst h1;subst h2;exact⟨hc,hk⟩
theorem Y.run(h:Inv G n D E a w){ops:Array Oper}{o:Oper}{o':ah}{v:AV}(hc:gV P n ops o o'=true)(hy:Y P E o' v){next:Act->World->Prop}{Q:Exit->Act->World->Prop}
 (hn:∀G' a' w',Inv G' n D (step E o' v) a' w'->ax G w G' w'->next a' w'):A9 P ops o a w next Q:=by
 have gen:Qr P o' E (fun U=>U=step E o' v)->A9 P ops o a w next Q:=fun hg=>gG h hc hg fun G' E' a' w' h1 h2 h3=>by subst h3;exact hn G' a' w' h1 h2
 cases hy with
 |jL d x hi=>
  refine gen ?_
  show WW E x d (fun U=>U=step E ⟨d,.jL true x,none⟩ (E.x x)) (E.x x)
  refine⟨hi,?_⟩
  show _=(bQ (E.drain x) (E.x x) d).put d (E.x x)
  rw[OV hi]
 |pure _ _ hq=>
  have hdr:dr o' E=E:=VF (by rcases hq with hq|⟨c,hq,_⟩<;>rw[hq]<;>simp)
  have hst:step E o' v=(bQ E v o'.dst).put o'.dst v:=by unfold step;rw[hdr]
  rw[hst]at hn gen
  obtain⟨d,op,g⟩:=o'
  cases g with
  |none=>
   refine gen ?_
   show YG P op E d (fun U=>U=(bQ E v d).put d v) (pv op (xg true E) E)
   have hq':(pv op (xg true E) E=.dv v\/∃c,pv op (xg true E) E=.prt c v/\c):=hq
   rcases hq' with hq|⟨c,hq,hcc⟩
   ·rw[hq];rfl
   ·rw[hq];exact⟨hcc,rfl⟩
  |some tw=>
   obtain⟨t,want⟩:=tw
   have hq':(PW op want E (look E.e t)=.dv v\/∃c,PW op want E (look E.e t)=.prt c v/\c):=hq
   rcases aeg (o:=op) (want:=want) (E:=E) (a:=look E.e t)with⟨g0,b,hg0,hl⟩|hl<;>rw[hl]at hq'
   case inr=>rcases hq' with hq|⟨c,hq,_⟩<;>cases hq
   have hgs:=fun K=>EY (P:=P) (o:=op) (d:=d) (t:=t) (want:=want) (E:=E) (K:=K) hg0
   generalize(g0&&(b==want))=gg at hq' hgs
   have hq2:(U9 (rdO op) gg (pv op (xg gg E) E)=.dv v\/∃c,U9 (rdO op) gg (pv op (xg gg E) E)=.prt c v/\c):=hq'
   cases hp:pv op (xg gg E) E with
   |dv x=>
    refine gen ?_
    show BQ P op d t want E _ (look E.e t)
    rw[hgs]
    show U6 P gg op E d (fun U=>U=(bQ E v d).put d v) (pv op (xg gg E) E)
    rw[hp]
    rw[hp]at hq2
    rcases hq2 with hq|⟨c,hq,_⟩
    ·injection hq with hq;subst hq;rfl
    ·cases hq
   |prt c x=>
    refine gen ?_
    show BQ P op d t want E _ (look E.e t)
    rw[hgs]
    show U6 P gg op E d (fun U=>U=(bQ E v d).put d v) (pv op (xg gg E) E)
    rw[hp]
    rw[hp]at hq2
    rcases hq2 with hq|⟨c',hq,hcc⟩
    ·cases hq
    ·injection hq with hq1 hq2;subst hq1;subst hq2;exact⟨hcc,rfl⟩
   |no=>
    rw[hp]at hq2
    cases hr:rdO op with
    |false=>
     rw[hr]at hq2
     have hq3:(PR.no=.dv v\/∃c,PR.no=.prt c v/\c):=hq2
     rcases hq3 with hq|⟨c',hq,_⟩<;>cases hq
    |true=>
     rw[hr]at hq2
     have hq3:(PR.prt (gg=false) (.when gg .undef)=.dv v\/∃c,PR.prt (gg=false) (.when gg .undef)=.prt c v/\c):=hq2
     rcases hq3 with hq|⟨c',hq,hcc⟩
     ·cases hq
     injection hq with hq1 hq2
     subst hq1;subst hq2
     have hd:bp n d=true:=by
      simp only[gV,Bool.and_eq_true]at hc
      exact hc.1.1.2
     refine gG (K:=fun U=>U=E.put d (.gw [])) h hc ?_ fun G' E' a' w' k1 k2 k3=>?_
     ·show BQ P op d t want E (fun U=>U=E.put d (.gw [])) (look E.e t)
      rw[hgs]
      show U6 P gg op E d (fun U=>U=E.put d (.gw [])) (pv op (xg gg E) E)
      rw[hp]
      exact⟨fun hb=>absurd (hb.symm.trans hcc) (by decide),fun _=>rfl⟩
     ·subst k3
      have e:(bQ E (.when gg .undef) d).put d (.when gg .undef)=E.put d (.when false .undef):=by
       rw[hcc]
       have:bQ E (.when false .undef) d=E:=by cases d<;>rfl
       show(bQ E (.when false .undef) d).put d _=_
       rw[this]
      have hn':=hn
      simp only at hn'
      rw[e]at hn'
      exact hn' G' a' w' (k1.xt hd (fun _ h=>h)) k2
 |call d f args as rs h1 h2 h3=>
  refine gen ?_
  show uJ P f E d _ (bZ (xg true E) args)
  rw[h1]
  refine FE.app h3 ⟨h2,?_⟩
  show _=(bQ E (fj rs) d).put d (fj rs)
  rw[qt h2]
 |N7 d f args t want g0 b rs h0 h2 h1=>
  have hd:bp n d=true:=by
   simp only[gV,Bool.and_eq_true]at hc
   exact hc.1.1.2
  have hst:step E ⟨d,.call f args,some (t,want)⟩ (.when (g0&&(b==want)) (fj rs))=E.put d (.when (g0&&(b==want)) (fj rs)):=by
   show(bQ E (.when (g0&&(b==want)) (fj rs)) d).put d (.when (g0&&(b==want)) (fj rs))=_
   have:bQ E (.when (g0&&(b==want)) (fj rs)) d=E:=qt h2 E d
   rw[this]
  rw[hst]at hn
  refine gG (K:=fun U=>((g0&&(b==want))=true/\U=E.put d (fj rs))\/((g0&&(b==want))=false/\U=E.put d (.gw []))) h hc ?_ fun G' E' a' w' k1 k2 k3=>?_
  ·show BQ P (.call f args) d t want E _ (look E.e t)
   rw[EY h0]
   refine⟨fun hb=>?_,fun hb=>.inr ⟨hb,rfl⟩⟩
   obtain⟨as,q1,q2⟩:=h1 hb
   show uJ P f E d _ (bZ (xg true E) args)
   rw[q1]
   exact FE.app q2 ⟨h2,.inl ⟨hb,rfl⟩⟩
  ·rcases k3 with⟨hb,rfl⟩|⟨hb,rfl⟩
   ·rw[hb]at hn;exact hn G' a' w' (k1.wK hd) k2
   ·rw[hb]at hn;exact hn G' a' w' (k1.xt hd (xj h2)) k2
 |cu d x args f as rs h1 hf h2 h3=>
  obtain⟨first,en,xs,q1,q2,rfl⟩:=h1
  refine gen ?_
  show yM P E (bZ (xg true E) args) d _ (xg true E x)
  rw[q1,q2]
  refine⟨hf,FE.app h3 ⟨h2,?_⟩⟩
  show _=(bQ E (fj rs) d).put d (fj rs)
  rw[qt h2]
 |FC d x args t want g0 b rs h0 h2 h1=>
  have hd:bp n d=true:=by
   simp only[gV,Bool.and_eq_true]at hc
   exact hc.1.1.2
  have hst:step E ⟨d,.cu x args,some (t,want)⟩ (.when (g0&&(b==want)) (fj rs))=E.put d (.when (g0&&(b==want)) (fj rs)):=by
   show(bQ E (.when (g0&&(b==want)) (fj rs)) d).put d (.when (g0&&(b==want)) (fj rs))=_
   have:bQ E (.when (g0&&(b==want)) (fj rs)) d=E:=qt h2 E d
   rw[this]
  rw[hst]at hn
  refine gG (K:=fun U=>((g0&&(b==want))=true/\U=E.put d (fj rs))\/((g0&&(b==want))=false/\U=E.put d (.gw []))) h hc ?_ fun G' E' a' w' k1 k2 k3=>?_
  ·show BQ P (.cu x args) d t want E _ (look E.e t)
   rw[EY h0]
   refine⟨fun hb=>?_,fun hb=>.inr ⟨hb,rfl⟩⟩
   obtain⟨f,as,⟨first,en,xs,q1,q2,rfl⟩,q4,q5⟩:=h1 hb
   show yM P E (bZ (xg true E) args) d _ (xg true E x)
   rw[q1,q2]
   exact⟨q4,FE.app q5 ⟨h2,.inl ⟨hb,rfl⟩⟩⟩
  ·rcases k3 with⟨hb,rfl⟩|⟨hb,rfl⟩
   ·rw[hb]at hn;exact hn G' a' w' (k1.wK hd) k2
   ·rw[hb]at hn;exact hn G' a' w' (k1.xt hd (xj h2)) k2
 |eff _ _ hq=>
  obtain⟨_,hnl,hlp,hdr⟩:=XX hq
  have hst:step E o' v=E.put o'.dst v:=by unfold step;rw[hdr,hlp]
  obtain⟨d,op,g⟩:=o'
  cases g with
  |none=>
   refine gen ?_
   have hq':qe (xg true E) E.s op=.dv v\/∃c,qe (xg true E) E.s op=.prt c v/\c:=hq
   show YG P op E d (fun U=>U=step E ⟨d,op,none⟩ v) (pv op (xg true E) E)
   rw[(Hs (hq'.imp id fun⟨c,h,_⟩=>⟨c,h⟩)).2.1]
   exact XY hq' hst.symm
  |some tw=>
   obtain⟨t,want⟩:=tw
   have hd:bp n d=true:=by
    simp only[gV,Bool.and_eq_true]at hc
    exact hc.1.1.2
   have hq':Qt op want E (look E.e t)=.dv v\/∃c,Qt op want E (look E.e t)=.prt c v/\c:=hq
   rcases XW (o:=op) (want:=want) (E:=E) (a:=look E.e t)with⟨g0,b,hg0,hl⟩|hl<;>rw[hl]at hq'
   case inr=>rcases hq' with h'|⟨c,h',_⟩<;>cases h'
   have hgs:=fun K=>EY (P:=P) (o:=op) (d:=d) (t:=t) (want:=want) (E:=E) (K:=K) hg0
   generalize(g0&&(b==want))=gg at hq' hgs
   obtain⟨u,hu,hv⟩:∃u,(gg=true->(qe (xg true E) E.s op=.dv u\/∃c,qe (xg true E) E.s op=.prt c u/\c))/\v=.when gg u:=by
    have h2:Qo gg (qe (xg gg E) E.s op)=.dv v\/∃c,Qo gg (qe (xg gg E) E.s op)=.prt c v/\c:=hq'
    cases hq2:qe (xg gg E) E.s op with
    |dv u=>
     rw[hq2]at h2
     refine⟨u,fun hb=>?_,?_⟩
     ·rw[hb]at hq2;exact .inl hq2
     ·rcases h2 with h2|⟨c,h2,_⟩
      ·injection h2 with h2;exact h2.symm
      ·cases h2
    |prt c u=>
     rw[hq2]at h2
     rcases h2 with h2|⟨c',h2,hc'⟩
     ·cases h2
     ·injection h2 with h3 h4
      refine⟨u,fun hb=>?_,h4.symm⟩
      rw[hb]at hq2
      subst h3
      exact .inr ⟨c,hq2,hc' hb⟩
    |no=>rw[hq2]at h2;rcases h2 with h2|⟨c,h2,_⟩<;>cases h2
   subst hv
   have hpn:∀f U,pv op f U=.no:=by
    intro f U
    have h2:Qo gg (qe (xg gg E) E.s op)=.dv _\/∃c,Qo gg (qe (xg gg E) E.s op)=.prt c _/\c:=hq'
    cases op<;>first|rfl|(rcases h2 with h2|⟨c,h2,_⟩<;>cases h2)
   rw[hst]at hn
   refine gG (K:=fun U=>(gg=true/\U=E.put d u)\/(gg=false/\U=E.put d (.gw []))) h hc ?_ fun G' E' a' w' k1 k2 k3=>?_
   ·show BQ P op d t want E _ (look E.e t)
    rw[hgs,hpn]
    unfold U6
    refine⟨fun hb=>?_,fun hb=>.inr ⟨hb,rfl⟩⟩
    show YG P op E d _ (pv op (xg true E) E)
    rw[hpn]
    exact XY (hu hb) (.inl ⟨hb,rfl⟩)
   ·rcases k3 with⟨hb,rfl⟩|⟨hb,rfl⟩
    ·rw[hb]at hn;exact hn G' a' w' (k1.wK hd) k2
    ·rw[hb]at hn;exact hn G' a' w' (k1.xt hd fun t ht=>hnl t ht) k2
theorem Ti{ops:Array Oper}{Q:Exit->Act->World->Prop}{K:St->Prop}(G₀:Gh)(w₀:World)
 (hn:∀G' E' a' w',Inv G' n D E' a' w'->ax G₀ w₀ G' w'->K E'->Q .normal a' w'):∀(q:Nat)(l:List Oper)(l':List ah)(G:Gh)(E:St)(a:Act)(w:World),cc P n ops l l'=true->Inv G n D E a w->ax G₀ w₀ G w->YK P q l' E K->wpList P ops Q l a w
 |0,l,l',G,E,a,w,hc,h,hp,hk=>sg G₀ w₀ hn l l' G E a w hc h hp hk
 |_+1,[],[],G,E,a,w,_,h,hp,hk=>hn G E a w h hp hk
 |q+1,o::l,o'::l',G,E,a,w,hc,h,hp,hk=>by
  simp only[cc,Bool.and_eq_true]at hc
  obtain⟨hf,hk⟩:=hk
  obtain⟨v,hv,hy,hk⟩:=RW hk
  show A9 P ops o a w (wpList P ops Q l) Q
  exact hy.run h hc.1 fun G' a' w' h1 h2=>Ti G₀ w₀ hn q l l' G' _ a' w' hc.2 h1 (hp.trans h2) hk
 |_+1,[],_::_,_,_,_,_,hc,_,_,_=>by simp[cc]at hc
 |_+1,_::_,[],_,_,_,_,hc,_,_,_=>by simp[cc]at hc
abbrev uy:=List (Nat×ah×AV)
def zQ(P:Program):St->uy->Prop
 |_,[]=>True
 |E,(_,o,v)::r=>aR E o.dst=true/\bg v=true/\Y P E o v/\zQ P (step E o v) r
def fin:St->uy->St
 |E,[]=>E
 |E,(_,o,v)::r=>fin (step E o v) r
theorem zQ.eqv:∀{p:uy}{E E':St},ma E E'->zQ P E p->zQ P E' p
 |[],_,_,_,_=>trivial
 |(_,o,v)::r,_,_,h,⟨h1,h2,h3,h4⟩=>⟨by rw[<-h.free];exact h1,h2,h3.QA (h.QA o),zQ.eqv (h.step o v) h4⟩
theorem SL:∀(p:uy){E E':St},ma E E'->ma (fin E p) (fin E' p)
 |[],_,_,h=>h
 |(_,o,v)::r,_,_,h=>SL r (h.step o v)
theorem xH{o:ah}{i:Nat}(h:gX o i=true):i∈ch o:=by
 unfold gX at h
 split at h
 ·rename_i j hop
  have:j=i:=by simpa using h
  subst this
  refine List.mem_append_right _ ?_
  rw[hop]
  exact List.mem_cons_self
 ·cases h
theorem YS{x y:ah}(h:ap x y=true):gu x.dst (ch y)=true/\gu y.dst (ch x)=true/\(∀i j,x.dst=some i->y.dst=some j->i≠j)/\W0 x y=true/\W0 y x=true/\(∀i,y.dst=some i->gX x i=false)/\(∀i,x.dst=some i->gX y i=false):=by
 unfold ap at h
 simp only[Bool.and_eq_true]at h
 refine⟨h.1.1.2,h.1.2,fun i j hi hj=>?_,h.1.1.1.1,h.1.1.1.2,fun i hi=>?_,fun i hi=>?_⟩
 ·have:=h.2
  rw[hi,hj]at this
  simpa using this
 ·have:=h.1.2
  rw[hi]at this
  simp[gu]at this
  cases hd:gX x i with
  |false=>rfl
  |true=>exact absurd (xH hd) this
 ·have:=h.1.1.2
  rw[hi]at this
  simp[gu]at this
  cases hd:gX y i with
  |false=>rfl
  |true=>exact absurd (xH hd) this
theorem pull{x:Nat×ah×AV}:∀(pre:uy)(post:uy)(E:St),(∀y∈pre,ap y.2.1 x.2.1=true)->zQ P E (pre++x::post)->
 aR E x.2.1.dst=true/\bg x.2.2=true/\Y P E x.2.1 x.2.2/\zQ P (step E x.2.1 x.2.2) (pre++post)/\ma (fin (step E x.2.1 x.2.2) (pre++post)) (fin E (pre++x::post))
 |[],post,E,_,h=>⟨h.1,h.2.1,h.2.2.1,h.2.2.2,ma.refl _⟩
 |(k,o,v)::pre,post,E,hap,h=>by
  obtain⟨h1,h2,h3,h4⟩:=h
  obtain⟨i1,i2,i3,i4,i5⟩:=pull pre post (step E o v) (fun y hy=>hap y (List.mem_cons_of_mem _ hy)) h4
  obtain⟨a1,a2,a3,a4,a5,a6,a7⟩:=YS (hap (k,o,v) List.mem_cons_self)
  have hfx:aR E x.2.1.dst=true:=by
   cases hd:x.2.1.dst with
   |none=>rfl
   |some j=>
    rw[hd]at i1
    have i1':bg (look (step E o v).e j)=true:=i1
    rw[iH,if_neg (fun e=>a3 j j e hd rfl)]at i1'
    show bg (look E.e j)=true
    split at i1'
    ·rw[vY]at i1';exact i1'
    ·exact i1'
  have hfo:aR (step E x.2.1 x.2.2) o.dst=true:=by
   cases hd:o.dst with
   |none=>rfl
   |some j=>
    rw[hd]at h1
    show bg (look (step E x.2.1 x.2.2).e j)=true
    rw[iH,if_neg (fun e=>a3 j j hd e rfl)]
    split
    ·rw[vY];exact h1
    ·exact h1
  have FZ:ma (step (step E o v) x.2.1 x.2.2) (step (step E x.2.1 x.2.2) o v):=UU a3 a6 a7
  refine⟨hfx,i2,i3.QA (NS h1 h2 a1 a4).symm,⟨hfo,h2,h3.QA (NS hfx i2 a2 a5),i4.eqv FZ⟩,?_⟩
  exact(SL (pre++post) FZ.symm).trans i5
end
end Go.AB
end
section
namespace Go.AB
open Go
section
variable{P:Program}{G G':Gh}{n:Nat}{D:List Deferred}{E E':St}{a:Act}{w w':World}{ops:Array Oper}{bC:List ah}{q:Nat}
def mk:Nat->List ah->List AV->uy
 |k,o::l,v::vs=>(k,o,v)::mk (k+1) l vs
 |_,_,_=>[]
theorem PY{K:St->Prop}:∀(q:Nat)(l:List ah)(E:St)(k:Nat),q<=l.length->YK P q l E K->∃vs:List AV,vs.length=q/\zQ P E (mk k l vs)/\swp P (l.drop q) (fin E (mk k l vs)) K
 |0,l,E,k,_,h=>⟨[],rfl,by cases l<;>trivial,by cases l<;>exact h⟩
 |q+1,[],_,_,hl,_=>by simp at hl
 |q+1,o::l,E,k,hl,h=>by
  obtain⟨hf,h1⟩:=h
  obtain⟨v,hv,hy,hk⟩:=RW h1
  obtain⟨vs,h2,h3,h4⟩:=PY q l (step E o v) (k+1) (by simpa using hl) hk
  exact⟨v::vs,by simp[h2],⟨hf,hv,hy,h3⟩,h4⟩
theorem MF:∀(l:List ah)(vs:List AV)(k:Nat)(i:Nat)(o:ah)(v:AV),(i,o,v)∈mk k l vs->∃j,i=k+j/\j<vs.length/\l[j]? =some o
 |[],_,_,_,_,_,h=>by simp[mk]at h
 |_::_,[],_,_,_,_,h=>by simp[mk]at h
 |o'::l,v'::vs,k,i,o,v,h=>by
  rcases List.mem_cons.1 h with h|h
  ·injection h with h1 h2;injection h2 with h2 h3;subst h1;subst h2
   exact⟨0,rfl,by simp,rfl⟩
  ·obtain⟨j,h1,h2,h3⟩:=MF l vs (k+1) i o v h
   exact⟨j+1,by omega,by simpa using h2,by simpa using h3⟩
theorem Co:∀(l:List ah)(vs:List AV)(k:Nat),(mk k l vs).Pairwise fun x y=>x.1<y.1
 |[],_,_=>by simp[mk]
 |_::_,[],_=>by simp[mk]
 |o::l,v::vs,k=>by
  refine List.Pairwise.cons (fun y hy=>?_) (Co l vs (k+1))
  obtain⟨i,o',v'⟩:=y
  obtain⟨j,h1,_⟩:=MF l vs (k+1) i o' v' hy
  show k<i
  omega
theorem Ry:∀(l:List ah)(vs:List AV)(k j:Nat),j<vs.length->j<l.length->∃o v,(k+j,o,v)∈mk k l vs
 |[],_,_,_,_,h=>by simp at h
 |_::_,[],_,_,h,_=>by simp at h
 |o::l,v::vs,k,0,_,_=>⟨o,v,List.mem_cons_self⟩
 |o::l,v::vs,k,j+1,h1,h2=>by
  obtain⟨o',v',h⟩:=Ry l vs (k+1) j (by simpa using h1) (by simpa using h2)
  refine⟨o',v',List.mem_cons_of_mem _ ?_⟩
  rw[show k+(j+1)=k+1+j by omega]
  exact h
theorem fU:∀(l:List Oper)(l':List ah),cc P n ops l l'=true->l.length=l'.length/\∀(k:Nat)(o:Oper)(o':ah),l[k]? =some o->l'[k]? =some o'->gV P n ops o o'=true
 |[],[],_=>⟨rfl,fun k o o' h=>by simp at h⟩
 |o::l,o'::l',h=>by
  simp only[cc,Bool.and_eq_true]at h
  obtain⟨h1,h2⟩:=fU l l' h.2
  refine⟨by simp[h1],fun k x x' hx hx'=>?_⟩
  cases k with
  |zero=>simp at hx hx';subst hx;subst hx';exact h.1
  |succ k=>exact h2 k x x' (by simpa using hx) (by simpa using hx')
 |[],_::_,h=>by simp[cc]at h
 |_::_,[],h=>by simp[cc]at h
theorem qa{Q:Exit->Act->World->Prop}{i:Nat}{o:Oper}{next:Act->World->Prop}(ho:ops[i]? =some o)(h:A9 P ops o a w next Q):wpOp P ops Q i next a w:=by
 unfold wpOp
 simp only[ho]
 exact h
theorem ni{j i:Nat}{o:Oper}(ho:ops[j]? =some o):gT ops j i=true↔∃e∈o.after,Region.binds .any e=true/\e.on=i:=by
 unfold gT
 rw[ho]
 show(o.after.any fun e=>Region.binds .any e&&e.on==i)=true↔_
 rw[Array.any_eq_true']
 simp only[Bool.and_eq_true,beq_iff_eq]
theorem zK{K:St->Prop}{Q:Exit->Act->World->Prop}(G₀:Gh)(w₀:World)(hc:cc P n ops ops.toList bC=true)
 (hn:∀G' E' a' w',Inv G' n D E' a' w'->ax G₀ w₀ G' w'->K E'->Q .normal a' w'):∀(l:List ah)(k:Nat)(aJ:Array Bool)(G:Gh)(E:St)(a:Act)(w:World),l=bC.drop k->sy ops l.length k aJ=true->
 swp P l E K->Inv G n D E a w->ax G₀ w₀ G w->wpAny P .any ops Q l.length aJ a w
 |[],_,aJ,G,E,a,w,_,ht,hk,h,hp=>⟨List.isEmpty_iff.1 ht,hn G E a w h hp hk⟩
 |o'::l,k,aJ,G,E,a,w,hl,ht,hk,h,hp=>by
  have ht':(Region.ready .any ops aJ==[k]&&sy ops l.length (k+1) (aJ.setIfInBounds k true))=true:=ht
  simp only[Bool.and_eq_true,beq_iff_eq]at ht'
  obtain⟨hr,ht'⟩:=ht'
  obtain⟨hlen,kg⟩:=fU _ _ hc
  have hk':bC[k]? =some o':=by
   have:(bC.drop k)[0]? =some o':=by rw[<-hl];rfl
   simpa using this
  have ag4:l=bC.drop (k+1):=by
   have:(bC.drop k).tail=l:=by rw[<-hl];rfl
   rw[<-this];simp
  have Zm:k<ops.toList.length:=by rw[hlen];exact(List.getElem?_eq_some_iff.1 hk').1
  have ho:ops.toList[k]? =some ops.toList[k]:=List.getElem?_eq_getElem Zm
  refine⟨fun h0=>absurd h0 (by rw[hr];simp),fun i hi=>?_⟩
  rw[hr]at hi
  have:i=k:=by simpa using hi
  subst this
  refine qa (by simp) (gG h (kg i _ _ ho hk') hk fun G' E' a' w' h1 h2 h3=>?_)
  exact zK G₀ w₀ hc hn l (i+1) _ G' E' a' w' ag4 ht' h3 h1 (hp.trans h2)
structure Good(ops:Array Oper)(bC:List ah)(q:Nat)(kA:uy)(aJ:Array Bool):Prop where
 size:aJ.size=ops.size
 un:∀k o v,(k,o,v)∈kA->k<q/\aJ.getD k true=false/\bC[k]? =some o
 li:∀k,k<q->(∀o v,(k,o,v)∉kA)->aJ.getD k false=true
 tl:∀j,q<=j->j<ops.size->aJ.getD j true=false
 cl:∀m,m<q->aJ.getD m false=true->∀i,gT ops m i=true->aJ.getD i false=true
 sorted:kA.Pairwise fun x y=>x.1<y.1
theorem lF{l:Array Bool}{i:Nat}(h:l.getD i false=true):l.getD i true=true:=by
 rcases Nat.lt_or_ge i l.size with hi|hi
 ·simp[hi]at h⊢;exact h
 ·simp[Array.getElem?_eq_none hi]at h
theorem Tz{aJ:Array Bool}(hg:Good ops bC q [] aJ):aJ=re ops.size q:=by
 apply Array.ext
 ·simp[re,hg.size]
 ·intro i h1 h2
  simp only[re,Array.getElem_map,Array.getElem_range]
  have hi:i<ops.size:=by rw[<-hg.size];exact h1
  by_cases hq:i<q
  ·have:=hg.li i hq (fun o v=>by simp)
   simp[h1]at this
   simp[hq,this]
  ·have:=hg.tl i (by omega) hi
   simp[h1]at this
   simp[hq,this]
theorem ks{j:Nat}{aJ:Array Bool}(h:j∈Region.ready .any ops aJ):j<ops.size/\aJ.getD j true=false/\∀i,gT ops j i=true->aJ.getD i false=true:=by
 obtain⟨h0,o,ho,eo⟩:=mem_ready.1 h
 refine⟨(Array.getElem?_eq_some_iff.1 ho).1,h0,fun i hi=>?_⟩
 obtain⟨e,he,hb,hon⟩:=(ni ho).1 hi
 rw[<-hon]
 exact eo e he hb
theorem Ky{pre post:uy}{x:Nat×ah×AV}{aJ:Array Bool}(hg:Good ops bC q (pre++x::post) aJ)(hr:x.1∈Region.ready .any ops aJ):Good ops bC q (pre++post) (aJ.setIfInBounds x.1 true):=by
 obtain⟨xk,xo,xv⟩:=x
 obtain⟨r1,r2,r3⟩:=ks hr
 have hxq:xk<q:=(hg.un xk xo xv (by simp)).1
 have hxs:xk<aJ.size:=by rw[hg.size];exact r1
 have eD:∀y,y∈pre++post->y∈pre++(xk,xo,xv)::post:=fun y hy=>by
  rcases List.mem_append.1 hy with h|h
  ·exact List.mem_append_left _ h
  ·exact List.mem_append_right _ (List.mem_cons_of_mem _ h)
 have uS:=List.pairwise_append.1 hg.sorted
 have akV:∀y∈pre,y.1<xk:=fun y hy=>uS.2.2 y hy (xk,xo,xv) List.mem_cons_self
 have Wm:∀y∈post,xk<y.1:=fun y hy=>(List.pairwise_cons.1 uS.2.1).1 y hy
 have hne:∀y∈pre++post,y.1≠xk:=fun y hy=>by
  rcases List.mem_append.1 hy with h|h
  ·have:=akV y h;omega
  ·have:=Wm y h;omega
 refine⟨by simp[hg.size],fun k o v hk=>?_,fun k hk hno=>?_,fun j h1 h2=>?_,fun m hm hl i hi=>?_,?_⟩
 ·obtain⟨u1,u2,u3⟩:=hg.un k o v (eD _ hk)
  exact⟨u1,by rw[getD_set_ne true (Ne.symm (hne _ hk))];exact u2,u3⟩
 ·by_cases hkx:xk=k
  ·subst hkx;simp[hxs]
  ·rw[getD_set_ne false hkx]
   refine hg.li k hk fun o v hm=>?_
   rcases List.mem_append.1 hm with h|h
   ·exact hno o v (List.mem_append_left _ h)
   ·rcases List.mem_cons.1 h with h|h
    ·injection h with h;exact hkx h.symm
    ·exact hno o v (List.mem_append_right _ h)
 ·rw[getD_set_ne true (by omega)];exact hg.tl j h1 h2
 ·by_cases hmx:xk=m
  ·subst hmx;exact getD_set_true (r3 i hi)
  ·rw[getD_set_ne false hmx]at hl
   exact getD_set_true (hg.cl m hm hl i hi)
 ·rw[List.pairwise_append]
  exact⟨uS.1,(List.pairwise_cons.1 uS.2.1).2,fun y hy z hz=>uS.2.2 y hy z (List.mem_cons_of_mem _ hz)⟩
theorem Ye{Q:Exit->Act->World->Prop}(G₀:Gh)(w₀:World)(f:Nat)(hc:cc P n ops ops.toList bC=true)(hq:q<=ops.size)(h1:Sx ops q=true)(h2:Kk ops q=true)(h3:abe ops q bC=true)(h4:q<ops.size->Region.ready .any ops (re ops.size q)=[q]):
 ∀(m:Nat)(kA:uy),kA.length=m->∀(aJ:Array Bool)(E:St),Good ops bC q kA aJ->zQ P E kA->
  (∀G a w,Inv G n D (fin E kA) a w->ax G₀ w₀ G w->wpAny P .any ops Q f (re ops.size q) a w)->∀(G:Gh)(a:Act)(w:World),Inv G n D E a w->ax G₀ w₀ G w->wpAny P .any ops Q (m+f) aJ a w:=by
 intro m
 induction m with
 |zero=>
  intro kA hp aJ E hg _ hT G a w h hpr
  have:kA=[]:=List.eq_nil_of_length_eq_zero hp
  subst this
  rw[Tz hg,Nat.zero_add]
  exact hT G a w h hpr
 |succ m ih=>
  intro kA hp aJ E hg hch hT G a w h hpr
  obtain⟨hlen,kg⟩:=fU _ _ hc
  rw[show m+1+f=(m+f)+1 by omega]
  refine⟨fun h0=>?_,fun i hi=>?_⟩
  ·
   cases kA with
   |nil=>simp at hp
   |cons x kA=>
    obtain⟨k,o,v⟩:=x
    obtain⟨u1,u2,u3⟩:=hg.un k o v List.mem_cons_self
    have y5:k∈Region.ready .any ops aJ:=by
     have hk:k<ops.size:=by omega
     refine mem_ready.2 ⟨u2,ops[k],Array.getElem?_eq_getElem hk,fun e he hb=>?_⟩
     have hs:=List.all_eq_true.1 h1 k (List.mem_range.2 u1)
     rw[Array.getElem?_eq_getElem hk]at hs
     have:=Array.all_eq_true_iff_forall_mem.1 hs e he
     rw[hb]at this
     have hlt:e.on<k:=by simpa using this
     refine hg.li e.on (by omega) fun o' v' hm=>?_
     rcases List.mem_cons.1 hm with hm|hm
     ·injection hm with hm;omega
     ·have:=(List.pairwise_cons.1 hg.sorted).1 _ hm
      simp at this
      omega
    rw[h0]at y5
    cases y5
  ·obtain⟨r1,r2,r3⟩:=ks hi
   have hne:∃k o v,(k,o,v)∈kA:=by
    cases kA with
    |nil=>simp at hp
    |cons x kA=>exact⟨x.1,x.2.1,x.2.2,List.mem_cons_self⟩
   have hiq:i<q:=by
    refine Classical.byContradiction fun hge=>?_
    have hqs:q<ops.size:=by omega
    by_cases hiq':i=q
    ·subst hiq'
     have eo:∀(d k:Nat),k<i->i -k=d->aJ.getD k false=true:=by
      intro d
      induction d using Nat.strongRecOn with
      |_ d ihd=>
       intro k hk hd
       have hs:((List.range i).all fun k=>(List.range (i+1)).any fun m=>decide (k<m)&&gT ops m k)=true:=by
        unfold Kk at h2
        rw[Bool.or_eq_true]at h2
        rcases h2 with h2|h2
        ·have:=beq_iff_eq.1 h2;omega
        ·exact h2
       obtain⟨m',hm1,hm2⟩:=List.any_eq_true.1 (List.all_eq_true.1 hs k (List.mem_range.2 hk))
       rw[Bool.and_eq_true,decide_eq_true_eq]at hm2
       have akR:=List.mem_range.1 hm1
       by_cases hmi:m'=i
       ·subst hmi;exact r3 k hm2.2
       ·exact hg.cl m' (by omega) (ihd (i -m') (by omega) m' (by omega) rfl) k hm2.2
     obtain⟨k,o,v,hk⟩:=hne
     obtain⟨u1,u2,u3⟩:=hg.un k o v hk
     have:=lF (eo _ k u1 rfl)
     rw[u2]at this
     cases this
    ·have hnr:i∉Region.ready .any ops (re ops.size q):=by rw[h4 hqs];simpa using hiq'
     apply hnr
     refine mem_ready.2 ⟨?_,ops[i],Array.getElem?_eq_getElem r1,fun e he hb=>?_⟩
     ·simp[re,r1];omega
     ·have hl:=r3 e.on ((ni (Array.getElem?_eq_getElem r1)).2 ⟨e,he,hb,rfl⟩)
      have hlt:e.on<q:=by
       refine Classical.byContradiction fun hnl=>?_
       by_cases hs:e.on<ops.size
       ·have:=hg.tl e.on (by omega) hs
        have:=lF hl
        simp_all
       ·have:aJ.getD e.on false=false:=by simp[Array.getElem?_eq_none (show aJ.size<=e.on by rw[hg.size];omega)]
        rw[this]at hl;cases hl
      simp[re,show e.on<ops.size by omega,hlt]
   have hin:∃o v,(i,o,v)∈kA:=by
    apply Classical.byContradiction
    intro hno
    have:=hg.li i hiq fun o v hm=>hno ⟨o,v,hm⟩
    have:=lF this
    rw[r2]at this
    cases this
   obtain⟨o',v,hin⟩:=hin
   obtain⟨pre,post,rfl⟩:=List.append_of_mem hin
   have uS:=List.pairwise_append.1 hg.sorted
   have hap:∀y∈pre,ap y.2.1 o'=true:=by
    intro y hy
    obtain⟨k,o,u⟩:=y
    have hlt:k<i:=uS.2.2 _ hy _ List.mem_cons_self
    obtain⟨u1,u2,u3⟩:=hg.un k o u (List.mem_append_left _ hy)
    obtain⟨_,_,u4⟩:=hg.un i o' v (by simp)
    have hs:=List.all_eq_true.1 (List.all_eq_true.1 h3 i (List.mem_range.2 hiq)) k (List.mem_range.2 hlt)
    rw[Bool.or_eq_true]at hs
    rcases hs with hs|hs
    ·have:=lF (r3 k hs)
     rw[u2]at this
     cases this
    ·unfold agi at hs
     rw[u3,u4]at hs
     exact hs
   obtain⟨p1,p2,p3,p4,p5⟩:=pull pre post E hap hch
   obtain⟨_,_,u4⟩:=hg.un i o' v (by simp)
   have ho:ops.toList[i]? =some ops[i]:=by simp[r1]
   refine qa (o:=ops[i]) (by simp[r1]) (Y.run h (kg i _ _ ho u4) p3 fun G' a' w' k1 k2=>?_)
   exact ih (pre++post) (by simp at hp⊢;omega) _ (step E o' v) (Ky hg hi) p4 (fun G'' a'' w'' z1 z2=>hT G'' a'' w'' (z1.eqv p5) z2) G' a' w' k1 (hpr.trans k2)
theorem acA(hm:P.follows .mixedOrders=true):aaS P n:=by
 intro D draw id ops bC q G E a w K Q hc hd h hw hn
 cases draw with
 |false=>exact wp_region_list (Ti G w hn q ops.toList bC G E a w hc h (ax.refl G w) hw)
 |true=>
 have hd:=hd rfl
 simp only[Sw,Bool.and_eq_true,decide_eq_true_eq]at hd
 obtain⟨hq,h1,h2,h3,h4⟩:=hd
 obtain⟨hlen,kg⟩:=fU _ _ hc
 have hsz:bC.length=ops.size:=by rw[<-hlen];simp
 obtain⟨vs,e1,e2,e3⟩:=PY q bC E 0 (by omega) hw
 have hmk:(mk 0 bC vs).length=q:=by
  have:∀(l:List ah)(vs:List AV)(k:Nat),vs.length<=l.length->(mk k l vs).length=vs.length:=by
   intro l
   induction l with
   |nil=>intro vs k hl;cases vs with
    |nil=>rfl
    |cons=>simp at hl
   |cons o l ih=>intro vs k hl;cases vs with
    |nil=>rfl
    |cons v vs=>simp[mk,ih vs (k+1) (by simpa using hl)]
  rw[this bC vs 0 (by omega),e1]
 refine wp_region_any hm ?_
 have hrq:q<ops.size->Region.ready .any ops (re ops.size q)=[q]:=by
  intro hlt
  obtain⟨d,hd⟩:∃d,ops.size -q=d+1:=⟨ops.size -q -1,by omega⟩
  rw[hd]at h4
  simp only[sy,Bool.and_eq_true,beq_iff_eq]at h4
  exact h4.1
 have hT:∀G' a' w',Inv G' n D (fin E (mk 0 bC vs)) a' w'->ax G w G' w'->wpAny P .any ops Q (ops.size -q) (re ops.size q) a' w':=by
  intro G' a' w' z1 z2
  have hl:(bC.drop q).length=ops.size -q:=by rw[List.length_drop];omega
  have:=zK G w hc hn (bC.drop q) q (re ops.size q) G' _ a' w' rfl (by rw[hl];exact h4) e3 z1 z2
  rwa[hl]at this
 have nt:Good ops bC q (mk 0 bC vs) (Array.replicate ops.size false):=by
  have Q9:∀k b,k<ops.size->(Array.replicate ops.size false).getD k b=false:=fun k b hk=>by simp[hk]
  refine⟨by simp,fun k o v hk=>?_,fun k hk hno=>?_,fun j _ hj=>Q9 j _ hj,fun m hm hl i hi=>?_,Co bC vs 0⟩
  ·obtain⟨j,j1,j2,j3⟩:=MF bC vs 0 k o v hk
   have:k=j:=by omega
   subst this
   exact⟨by omega,Q9 k _ (by omega),j3⟩
  ·obtain⟨o,v,hh⟩:=Ry bC vs 0 k (by omega) (by omega)
   rw[Nat.zero_add]at hh
   exact absurd hh (hno o v)
  ·rw[Q9 m _ (by omega)]at hl;cases hl
 have:=Ye (P:=P) (n:=n) (Q:=Q) G w (ops.size -q) hc hq h1 h2 h3 hrq q (mk 0 bC vs) hmk _ E nt e2 hT G a {w with drawn:=w.drawn+1} h.drew (ax.drew G w)
 rwa[show q+(ops.size -q)=ops.size by omega]at this
end
end Go.AB
end
section
namespace Go.AB
open Go
def kd(off:Nat):AV->AV
 |.loc cs=>.loc (match cs[off]? with|some (.sl _ sz n ds)=>setAt cs off [.sl false sz n ds]|_=>cs)
 |a=>a
def TU(o:ah)(E:St):St:=match o.op with
 |.jL true x=>E.drain x
 |.store _ _ x=>E.drain x
 |.append _ _ x _=>E.drain x
 |.oq off (.t i) _=>{E with e:=(i,kd off (look E.e i))::E.e}
 |_=>E
def dz(o:ah)(i:Nat)(a:AV):AV:=if fW o i=true then(match o.op with|.oq off _ _=>kd off a|_=>view a)else a
theorem IU(off:Nat)(a:AV):bg (kd off a)=bg a:=by cases a<;>rfl
theorem LQ{off:Nat}{a:AV}{c:Nat}(h:bB (kd off a) c):bB a c:=by cases a<;>first|exact h|exact h.elim
theorem DC(off:Nat)(a:AV):view (kd off a)=kd off (view a):=by cases a<;>rfl
theorem xn(cs:List AV)(off:Nat)(x:AV)(h:off<cs.length)(j:Nat):(setAt cs off [x])[j]? =if j=off then some x else cs[j]? :=by
 unfold setAt
 rw[List.append_assoc]
 by_cases h1:j<off
 ·rw[List.getElem?_append_left (by simp;omega),if_neg (by omega),List.getElem?_take,if_pos h1]
 ·rw[List.getElem?_append_right (by simp;omega)]
  have hl:(cs.take off).length=off:=by simp;omega
  rw[hl]
  by_cases h2:j=off
  ·subst h2;simp
  ·rw[if_neg h2,List.getElem?_append_right (by simp;omega),List.getElem?_drop]
   congr 1
   simp
   omega
theorem pt(off:Nat)(cs:List AV)(j:Nat):(match cs[off]? with|some (.sl _ sz n ds)=>setAt cs off [.sl false sz n ds]|_=>cs)[j]? =if j=off then(cs[j]?).map (fun a=>match a with|.sl _ sz n ds=>.sl false sz n ds|a=>a)else cs[j]? :=by
 cases hc:cs[off]? with
 |none=>
  by_cases hj:j=off
  ·subst hj;simp[hc]
  ·simp[hj]
 |some a=>
  have hlt:=(List.getElem?_eq_some_iff.1 hc).1
  cases a<;>first
   |(show(setAt cs off _)[j]? =_
     rw[xn _ _ _ hlt]
     by_cases hj:j=off
     ·subst hj;simp[hc]
     ·simp[hj])
   |(show cs[j]? =_
     by_cases hj:j=off
     ·subst hj;simp[hc]
     ·simp[hj])
theorem Og(o1 o2:Nat)(a:AV):kd o1 (kd o2 a)=kd o2 (kd o1 a):=by
 cases a<;>first|rfl|skip
 rename_i cs
 show AV.loc _=AV.loc _
 congr 1
 apply List.ext_getElem?
 intro j
 rw[pt,pt,pt,pt]
 by_cases h1:j=o1
 ·by_cases h2:j=o2
  ·simp only[eq_true h1,eq_true h2,if_true]
  ·simp only[eq_true h1,eq_false h2,if_true,if_false]
 ·by_cases h2:j=o2
  ·simp only[eq_false h1,eq_true h2,if_true,if_false]
  ·simp only[eq_false h1,eq_false h2,if_false]
def bL(E:St)(o:ah)(v:AV):St:=(bQ (TU o E) v (sj o)).put (sj o) v
def TI(sz bytes:Nat)(v:AV):AV->AV->Prop
 |.sl true s n cs,.sl _ s' m ds=>s=sz/\(s'=sz\/m=0)/\(n+m)*bytes<=room/\v=.sl true sz (n+m) (cs++views ds)
 |.sl true s n cs,.str ds=>s=sz/\sz=1/\(n+ds.length)*bytes<=room/\v=.sl true sz (n+ds.length) (cs++ds.map fun c=>.int .u8 c.toNat)
 |_,_=>False
theorem aco{sz bytes:Nat}{E:St}{x:IX}{d:Option Nat}{K:St->Prop}{a b:AV}(h:ly sz bytes E x d K a b):∃v,TI sz bytes v a b/\K ((E.drain x).put d v):=by
 unfold ly at h
 split at h
 ·obtain⟨h1,h2,h3,h4⟩:=h;exact⟨_,⟨h1,h2,h3,rfl⟩,h4⟩
 ·obtain⟨h1,h2,h3,h4⟩:=h;exact⟨_,⟨h1,h2,h3,rfl⟩,h4⟩
 ·exact h.elim
theorem acn{sz bytes:Nat}{E:St}{x:IX}{d:Option Nat}{K:St->Prop}{a b v:AV}(h:TI sz bytes v a b)(hk:K ((E.drain x).put d v)):ly sz bytes E x d K a b:=by
 unfold TI at h
 split at h
 ·obtain⟨h1,h2,h3,h4⟩:=h;subst h4;exact⟨h1,h2,h3,hk⟩
 ·obtain⟨h1,h2,h3,h4⟩:=h;subst h4;exact⟨h1,h2,h3,hk⟩
 ·exact h.elim
theorem LA{sz bytes:Nat}{a b v:AV}(h:TI sz bytes v a b):∃n cs,v=.sl true sz n cs:=by
 unfold TI at h
 split at h
 ·exact⟨_,_,h.2.2.2⟩
 ·exact⟨_,_,h.2.2.2⟩
 ·exact h.elim
inductive Y2(P:Program)(E:St):ah->AV->Prop where
 |ez (o:ah) (v:AV) (h0:WQ o.op=false) (hf:aR E o.dst=true) (hv:bg v=true) (h:Y P E o v):Y2 P E o v
 |sto (n c:Nat) (x:IX) (ez:List AV) (h0:look E.e c=.loc ez) (h1:ez.length=n) (h2:dt (E.x x)=true) (h3:(aZ (E.x x)).length=n):Y2 P E ⟨none,.store n (.t c) x,none⟩ (.loc (aZ (E.x x)))
 |alo (d:Nat) (z:List AV) (h0:bg (look E.e d)=true) (h1:lN E.lp (some d)=true):Y2 P E ⟨some d,.aq z,none⟩ (.loc z)
 |app (d sz bytes:Nat) (x y:IX) (v:AV) (h0:bg (look E.e d)=true) (h1:TI sz bytes v (E.x x) (E.x y)):Y2 P E ⟨some d,.append sz bytes x y,none⟩ v
 |lod (d off i:Nat) (x:IX) (cs:List AV) (o:Bool) (s m:Nat) (ds:List AV) (h0:bg (look E.e d)=true) (h1:E.x x=.lp i off) (h2:look E.e i=.loc cs) (h3:cs[off]? =some (.sl o s m ds)) (h4:d≠i):Y2 P E ⟨some d,.oq off (.t i) x,none⟩ (.sl o s m ds)
def Wz(o:ah):Option Nat:=match o with
 |⟨none,.store _ (.t c) _,none⟩=>some c
 |⟨some d,.aq _,none⟩=>some d
 |_=>none
section
variable{P:Program}{G G':Gh}{n:Nat}{D:List Deferred}{E E':St}{a:Act}{w w':World}{T:List Nat}
theorem Tv{o:ah}(h:WQ o.op=false):sj o=o.dst:=by
 obtain⟨d,op,g⟩:=o
 cases op<;>first|(cases h;done)|(cases d<;>cases g<;>rfl)
theorem Y3{o:ah}(h:WQ o.op=false):TU o E=dr o E:=by
 obtain⟨d,op,g⟩:=o
 cases op<;>first|(cases h;done)|rfl|skip
 rename_i b x
 cases b<;>rfl
theorem Lk{o:ah}{v:AV}(h:WQ o.op=false):bL E o v=step E o v:=by unfold bL step;rw[Tv h,Y3 h]
theorem MV{o:ah}{K:St->Prop}(h:q2 P o E K):∃v,Y2 P E o v/\K (bL E o v):=by
 unfold q2 at h
 split at h
 ·rename_i m c x
  cases hl:look E.e c<;>rw[hl]at h<;>first|(exact h.elim)|skip
  rename_i ez
  obtain⟨h1,h2,h3,h4⟩:=h
  exact⟨_,.sto m c x ez hl h1 h2 h3,h4⟩
 ·rename_i d z
  exact⟨_,.alo d z h.1 h.2.1,h.2.2⟩
 ·rename_i d sz bytes x y
  obtain⟨v,h1,h2⟩:=aco h.2
  refine⟨v,.app d sz bytes x y v h.1 h1,?_⟩
  obtain⟨m,cs,rfl⟩:=LA h1
  exact h2
 ·rename_i d off i x
  obtain⟨k0,k1,k2⟩:=h
  have k1':∃i' o',E.x x=.lp i' o'/\i'=i/\o'=off:=by
   unfold Gj at k1
   split at k1
   ·rename_i h1 h2
    injection h1 with h1
    rw[Bool.and_eq_true,beq_iff_eq,beq_iff_eq]at k1
    exact⟨_,_,h2,by rw[k1.1,h1],k1.2⟩
   ·cases k1
  obtain⟨i',o',e1,rfl,rfl⟩:=k1'
  rw[e1]at k2
  have k2:(match look E.e i' with
   |.loc cs=>some d≠some i'/\qy o' cs fun cs' a=>K ((E.put (some i') (.loc cs')).put (some d) a)
   |_=>False):=k2
  cases hl:look E.e i'<;>rw[hl]at k2<;>first|(exact k2.elim)|skip
  rename_i cs
  obtain⟨k3,k4⟩:=k2
  unfold qy at k4
  split at k4
  ·rename_i o s m ds hc
   refine⟨.sl o s m ds,.lod d o' i' x cs o s m ds k0 e1 hl hc (fun e=>k3 (by rw[e])),?_⟩
   have e2:bL E ⟨some d,.oq o' (.t i') x,none⟩ (.sl o s m ds)=(E.put (some i') (.loc (setAt cs o' [.sl false s m ds]))).put (some d) (.sl o s m ds):=by
    unfold bL TU
    simp only[hl,kd,hc]
    rfl
   rw[e2];exact k4
  ·exact k4.elim
 ·exact h.elim
 ·exact h.elim
 ·exact h.elim
 ·exact h.elim
 ·rename_i h1 h2 h3 h3' h4 h5 h6 h7
  have h0:WQ o.op=false:=by
   obtain⟨d,op,g⟩:=o
   cases op<;>first|rfl|exact(h4 _ _ _ _ _ rfl).elim|exact(h5 _ _ _ rfl).elim|exact(h6 _ _ _ _ _ _ rfl).elim|exact(h7 _ _ _ _ _ rfl).elim
  obtain⟨v,q1,q2,q3⟩:=RW h.2
  exact⟨v,.ez o v h0 h.1 q1 q2,by rw[Lk h0];exact q3⟩
theorem vU(x:IX)(i:Nat):look (E.drain x).e i=if(match x with|.t j=>j==i|.c _=>false)=true then view (look E.e i)else look E.e i:=by
 cases x with
 |c a=>rfl
 |t j=>
  show look ((j,view (look E.e j))::E.e) i=_
  rw[aM]
  by_cases hj:j=i
  ·subst hj;simp
  ·simp[hj]
theorem WR(o:ah)(i:Nat):look (TU o E).e i=dz o i (look E.e i):=by
 unfold dz
 obtain⟨d,op,g⟩:=o
 cases op<;>first|rfl|skip
 case jL b x=>
  cases b with
  |false=>rfl
  |true=>
   show look (E.drain x).e i=_
   rw[vU]
   cases x<;>rfl
 case store m p x=>
  show look (E.drain x).e i=_
  rw[vU]
  cases x<;>rfl
 case append sz bytes x y=>
  show look (E.drain x).e i=_
  rw[vU]
  cases x<;>rfl
 case oq off j x=>
  cases j with
  |c a=>rfl
  |t j=>
   show look ((j,kd off (look E.e j))::E.e) i=if(j==i)=true then kd off (look E.e i)else look E.e i
   rw[aM]
   by_cases hj:j=i
   ·subst hj;simp
   ·simp[hj]
theorem LR(x:IX):(E.drain x).s=E.s/\(E.drain x).lp=E.lp:=by cases x<;>exact⟨rfl,rfl⟩
theorem abf(o:ah):(TU o E).s=E.s/\(TU o E).lp=E.lp:=by
 unfold TU
 split
 ·exact LR _
 ·exact LR _
 ·exact LR _
 ·exact⟨rfl,rfl⟩
 ·exact⟨rfl,rfl⟩
theorem dJ(o:ah)(v:AV)(i:Nat):look (bL E o v).e i=if sj o=some i then v else dz o i (look E.e i):=by
 unfold bL
 rw[<-WR]
 cases hd:sj o with
 |none=>simp[St.put,(ji (TU o E) v none).1]
 |some d=>
  show look ((d,v)::(bQ (TU o E) v (some d)).e) i=_
  rw[aM,(ji (TU o E) v (some d)).1]
  simp
theorem lY(o:ah)(v:AV):(bL E o v).s=E.s:=by
 unfold bL
 have:∀(U:St)(d:Option Nat)(x:AV),(U.put d x).s=U.s:=fun U d x=>by cases d<;>rfl
 rw[this,(ji (TU o E) v (sj o)).2.1,(abf o).1]
theorem iD(o:ah)(v:AV)(x:Nat×Nat):x∈(bL E o v).lp↔(x∈E.lp\/∃i,sj o=some i/\x.1=i/\bB v x.2):=by
 have h1:(bL E o v).lp=(bQ (TU o E) v (sj o)).lp:=by unfold bL;cases sj o<;>rfl
 rw[h1,<-(abf (E:=E) o).2]
 exact G7 v (sj o) x
def yE(T:List Nat)(E:St):Prop:=∀i c,c∈T->¬bB (look E.e i) c
def Cm(T:List Nat)(o:ah)(v:AV):Prop:=∀i,sj o=some i->∀c,c∈T->¬bB v c
def Zt(T:List Nat)(o:ah):Prop:=∀c,Wz o=some c->c∈T
theorem PA:∀{c:Nat}{a:AV},nI c a=true->¬bB a c
 |c,.lp t o,h=>fun(e:t=c)=>by
  subst e
  have h':(!Nat.beq t t)=true:=h
  rw[Nat.beq_refl]at h'
  cases h'
 |c,.when b a,h=>PA (a:=a) h
 |_,.undef,_|_,.bool _,_|_,.int _ _,_|_,.str _,_|_,.dK,_|_,.ref _ _,_|_,.sp _,_|_,.loc _,_|_,.sl _ _ _ _,_|_,.arr _ _ _ _,_|_,.agg _,_|_,.gw _,_|_,.fn _ _ _,_|_,.oK,_|_,.mp _,_|_,.oL,_|_,.us _ _ _,_|_,.one,_|_,.qE _,_|_,.A6,_|_,.bb _ _ _,_=>fun h=>h
theorem KZ:∀{T:List Nat}{a:AV},sR T a=true->∀c,c∈T->¬bB a c
 |c'::T,a,h,c,hc=>by
  have h':(nI c' a&&sR T a)=true:=h
  rw[Bool.and_eq_true]at h'
  rcases List.mem_cons.1 hc with rfl|hc
  ·exact PA h'.1
  ·exact KZ h'.2 c hc
theorem pO:∀{e:List (Nat×AV)},gI T e=true->∀i c,c∈T->¬bB (look e i) c
 |[],_,i,c,_=>fun h=>h
 |(j,a)::e,h,i,c,hc=>by
  have h':(sR T a&&gI T e)=true:=h
  rw[Bool.and_eq_true]at h'
  rw[aM]
  split
  ·exact KZ h'.1 c hc
  ·exact pO h'.2 i c hc
theorem Sf{v:AV}{c:Nat}(h:bB (view v) c):bB v c:=by cases v<;>first|exact h|exact h.elim
theorem VG{o:ah}{i:Nat}{a:AV}{c:Nat}(h:bB (dz o i a) c):bB a c:=by
 unfold dz at h
 split at h
 ·split at h
  ·exact LQ h
  ·exact Sf h
 ·exact h
theorem TW(o:ah)(i:Nat)(a:AV):bg (dz o i a)=bg a:=by
 unfold dz
 split
 ·split
  ·exact IU _ _
  ·exact vY _
 ·rfl
theorem Kl{o:ah}{i:Nat}{a:AV}(h:¬fW o i=true):dz o i a=a:=if_neg h
theorem Y5(x y:ah)(i:Nat)(a:AV):dz x i (dz y i a)=dz y i (dz x i a):=by
 unfold dz
 by_cases h1:fW x i=true<;>by_cases h2:fW y i=true<;>simp only[h1,h2,if_true,if_false,Bool.false_eq_true]
 split<;>split
 ·exact Og _ _ _
 ·exact(DC _ _).symm
 ·exact DC _ _
 ·rfl
theorem MW(m off o:Nat)(a:AV):ml m off (kd o a)=ml m off a:=by
 cases a<;>first|rfl|skip
 rename_i cs
 have hv:views (match cs[o]? with|some (.sl _ sz n ds)=>setAt cs o [.sl false sz n ds]|_=>cs)=views cs:=by
  apply List.ext_getElem?
  intro j
  rw[eK,eK,pt]
  by_cases hj:j=o
  ·rw[if_pos hj]
   cases cs[j]? with
   |none=>rfl
   |some b=>cases b<;>rfl
  ·rw[if_neg hj]
 have hlen:(match cs[o]? with|some (.sl _ sz n ds)=>setAt cs o [.sl false sz n ds]|_=>cs).length=cs.length:=by
  have:=congrArg List.length hv
  simpa[views]using this
 show gy m off _=gy m off cs
 generalize(match cs[o]? with|some (.sl _ sz n ds)=>setAt cs o [.sl false sz n ds]|_=>cs)=cs' at hv hlen⊢
 unfold gy
 rw[hlen]
 have hs:views (AB.sub cs' off m)=views (AB.sub cs off m):=by
  unfold AB.sub views
  unfold views at hv
  rw[List.map_take,List.map_drop,List.map_take,List.map_drop,hv]
 rw[hs]
theorem XZ(m off:Nat)(o:ah)(i:Nat)(a:AV):ml m off (dz o i a)=ml m off a:=by
 unfold dz
 split
 ·split
  ·exact MW _ _ _ _
  ·exact Hu ..
 ·rfl
theorem tg{o:ah}{v:AV}(h:yE T E)(hs:Cm T o v):yE T (bL E o v):=fun i c hc=>by
 rw[dJ]
 split
 ·rename_i ht;exact hs i ht c hc
 ·exact fun hh=>h i c hc (VG hh)
theorem Cn{o:ah}{v:AV}(h:yE T (bL E o v)):Cm T o v:=fun i hi c hc=>by
 have:=h i c hc
 rw[dJ,if_pos hi]at this
 exact this
theorem X1{o:ah}{v:AV}(hy:Y2 P E o v)(p:AV)(m:Nat)(hp:∀c,Wz o=some c->¬bB p c):rd (bL E o v) p m=rd E p m:=by
 cases p<;>try rfl
 ·rename_i b off
  show wh m off ((bL E o v).s b)=wh m off (E.s b)
  rw[lY]
 ·rename_i d off
  show ml m off (look (bL E o v).e d)=ml m off (look E.e d)
  rw[dJ]
  by_cases hd:sj o=some d
  ·rw[if_pos hd]
   cases hy with
   |ez _ _ h0 hf hv h=>
    rw[Tv h0]at hd
    rw[hd]at hf
    rw[jW hv]
    exact(jW hf m off).symm
   |sto m' c x ez h0 h1 h2 h3=>
    have e:some c=some d:=hd
    injection e with e
    subst e
    exact(hp c rfl rfl).elim
   |alo d' z h0 h1=>
    have e:some d'=some d:=hd
    injection e with e
    subst e
    exact(hp d' rfl rfl).elim
   |app d' sz bytes x y _ h0 h1=>
    have e:some d'=some d:=hd
    injection e with e
    subst e
    obtain⟨k,cs,rfl⟩:=LA h1
    rw[jW (av:=.sl true sz k cs) rfl]
    exact(jW h0 m off).symm
   |lod d' ZV i x cs o s m' ds h0 h1 h2 h3 h4=>
    have e:some d'=some d:=hd
    injection e with e
    subst e
    rw[jW (av:=.sl o s m' ds) rfl]
    exact(jW h0 m off).symm
  ·rw[if_neg hd]
   exact XZ ..
theorem agu{o:ah}(h:cOK o=true){a:AV}(ha:IX.c a∈di o.op)(c:Nat):¬bB a c:=by
 have:=List.all_eq_true.1 h _ ha
 cases a<;>first|exact fun h=>h|(cases this;done)
theorem UZ{g:Bool}:∀{a:AV}{c:Nat},bB (zP g a) c->bB a c:=by
 intro a c h
 cases a
 case when b a=>
  have h':bB (bif(b==g||b)&&inner a then a else AV.undef) c:=h
  cases hb:((b==g||b)&&inner a)<;>rw[hb]at h'
  ·exact h'.elim
  ·exact h'
 all_goals exact h
theorem Yz{o:ah}(hc:cOK o=true)(h:yE T E){x:IX}(hx:x∈di o.op)(g:Bool){c:Nat}(ht:c∈T):¬bB (xg g E x) c:=fun hh=>by
 have h':=UZ hh
 cases x with
 |c a=>exact agu hc hx c h'
 |t i=>exact h i c ht h'
theorem wP{o y:ah}{v:AV}(hy:Y2 P E y v)(hn:gu (sj y) (ch o)=true)(hdr:Dt y o=true)(hc:cOK o=true)(hN:yE T E)(hT:Zt T y):NN o E (bL E y v):=by
 have key:∀i,i∈ch o->look (bL E y v).e i=look E.e i:=by
  intro i hi
  have h1:¬fW y i=true:=by
   have:=List.all_eq_true.1 hdr i hi
   simpa using this
  rw[dJ,if_neg,Kl h1]
  intro hd
  rw[hd]at hn
  simp[gu]at hn
  exact hn hi
 refine⟨fun x hx=>?_,fun t want hg=>?_,(lY y v).symm,fun x hx g m=>(X1 hy _ m fun c hc'=>Yz hc hN hx g (hT c hc')).symm⟩
 ·cases x with
  |c a=>rfl
  |t i=>exact(key i (List.mem_append_right _ (gP hx))).symm
 ·exact(key t (List.mem_append_left _ (by rw[hg];exact List.mem_cons_self))).symm
theorem Y2.QA{o:ah}{v:AV}(hy:Y2 P E o v)(h:NN o E E')(hf:∀i,o.dst=some i->bg (look E'.e i)=bg (look E.e i))(hl:∀i,Wz o=some i->lN E.lp (some i)=true->lN E'.lp (some i)=true):Y2 P E' o v:=by
 cases hy with
 |ez _ _ h0 hs hv h1=>
  refine .ez o v h0 ?_ hv (h1.QA h)
  cases hd:o.dst with
  |none=>rfl
  |some i=>
   rw[hd]at hs
   show bg (look E'.e i)=true
   rw[hf i hd];exact hs
 |sto m c x ez h0 h1 h2 h3=>
  have e1:look E.e c=look E'.e c:=h.xs (.t c) (by simp[di])
  have e2:E.x x=E'.x x:=h.xs x (by simp[di])
  rw[e2]at h2 h3⊢
  exact .sto m c x ez (by rw[<-e1];exact h0) h1 h2 h3
 |alo d z h0 h1=>exact .alo d z (by rw[hf d rfl];exact h0) (hl d rfl h1)
 |app d sz bytes x y _ h0 h1=>
  have e1:E.x x=E'.x x:=h.xs x (by simp[di])
  have e2:E.x y=E'.x y:=h.xs y (by simp[di])
  exact .app d sz bytes x y v (by rw[hf d rfl];exact h0) (by rw[<-e1,<-e2];exact h1)
 |lod d off i x cs o s m ds h0 h1 h2 h3 h4=>
  have e1:E.x x=E'.x x:=h.xs x (by simp[di])
  have e2:look E.e i=look E'.e i:=h.xs (.t i) (by simp[di])
  exact .lod d off i x cs o s m ds (by rw[hf d rfl];exact h0) (by rw[<-e1];exact h1) (by rw[<-e2];exact h2) h3 h4
theorem ma.bL(h:ma E E')(o:ah)(v:AV):ma (AB.bL E o v) (AB.bL E' o v):=⟨fun i=>by rw[dJ,dJ,h.e],fun x=>by rw[iD,iD,h.lp],by rw[lY,lY,h.s]⟩
theorem nH{l l':List (Nat×Nat)}{i:Nat}(h:∀x∈l',x.2=i->x∈l)(hf:lN l (some i)=true):lN l' (some i)=true:=by
 refine List.all_eq_true.2 fun x hx=>?_
 cases hb:Nat.beq x.2 i with
 |false=>rfl
 |true=>
  have:=List.all_eq_true.1 hf x (h x hx (Nat.eq_of_beq_eq_true hb))
  rw[hb]at this
  cases this
theorem Y2.eqv{o:ah}{v:AV}(hy:Y2 P E o v)(h:ma E E'):Y2 P E' o v:=hy.QA (h.QA o) (fun i _=>by rw[h.e]) fun i _ hf=>nH (fun x hx _=>(h.lp x).2 hx) hf
theorem HZ{x y:ah}{u v:AV}(hne:∀i j,sj x=some i->sj y=some j->i≠j)(hxy:∀i,sj y=some i->fW x i=false)(hyx:∀i,sj x=some i->fW y i=false):ma (bL (bL E x u) y v) (bL (bL E y v) x u):=
 ⟨fun i=>by
   rw[dJ,dJ,dJ,dJ]
   by_cases h1:sj y=some i
   ·by_cases h2:sj x=some i
    ·exact absurd rfl (hne i i h2 h1)
    ·rw[if_pos h1,if_neg h2,if_pos h1,Kl (by rw[hxy i h1];decide)]
   ·by_cases h2:sj x=some i
    ·rw[if_neg h1,if_pos h2,if_pos h2,Kl (by rw[hyx i h2];decide)]
    ·rw[if_neg h1,if_neg h2,if_neg h2,if_neg h1]
     exact Y5 _ _ _ _,fun z=>by
   rw[iD,iD,iD,iD]
   constructor
   ·rintro((h|h)|h)
    ·exact .inl (.inl h)
    ·exact .inr h
    ·exact .inl (.inr h)
   ·rintro((h|h)|h)
    ·exact .inl (.inl h)
    ·exact .inr h
    ·exact .inl (.inr h),by rw[lY,lY,lY,lY]⟩
theorem UM{ez news:List AV}(h:news.length=ez.length):setAt ez 0 news=news:=by
 unfold setAt
 rw[List.take_zero,List.nil_append,Nat.zero_add,h,List.drop_length,List.append_nil]
theorem Zi(d sz bytes:Nat)(x y:IX)(K:St->Prop):Qr P ⟨some d,.append sz bytes x y,none⟩ E K=ly sz bytes E x (some d) K (E.x x) (E.x y):=by
 rw[OM,RV]
 unfold YG jf
 rfl
theorem Y2.run(h:Inv G n D E a w){ops:Array Oper}{o:Oper}{o':ah}{v:AV}(hc:gV P n ops o o'=true)(hy:Y2 P E o' v){next:Act->World->Prop}{Q:Exit->Act->World->Prop}
 (hn:∀G' a' w',Inv G' n D (bL E o' v) a' w'->ax G w G' w'->next a' w'):A9 P ops o a w next Q:=by
 have gen:Qr P o' E (fun U=>U=bL E o' v)->A9 P ops o a w next Q:=fun hg=>gG h hc hg fun G' E' a' w' h1 h2 h3=>by subst h3;exact hn G' a' w' h1 h2
 cases hy with
 |ez _ _ h0 _ _ h1=>exact h1.run h hc fun G' a' w' k1 k2=>hn G' a' w' (by rw[Lk h0];exact k1) k2
 |sto m c x ez h0 h1 h2 h3=>
  refine gen ?_
  show Np m E (.t c) x none _ (E.x x)
  refine⟨h2,h3,?_⟩
  have e:Ke (E.drain x) (E.x (.t c)) (.t c) (aZ (E.x x))=some ((E.drain x).put (some c) (.loc (aZ (E.x x)))):=by
   have e1:E.x (.t c)=.loc ez:=h0
   rw[e1]
   show wrL (E.drain x) c (eb 0 (aZ (E.x x)) ez)=_
   unfold eb
   rw[decide_eq_true (by omega),UM (by omega)]
   rfl
  rw[e]
  rfl
 |alo d z h0 h1=>exact gen ⟨h1,rfl⟩
 |app d sz bytes x y _ h0 h1=>
  refine gen ?_
  rw[Zi]
  refine acn (d:=some d) (x:=x) h1 ?_
  obtain⟨k,cs,rfl⟩:=LA h1
  rfl
 |lod d off i x cs o s m ds h0 h1 h2 h3 h4=>
  refine gen ?_
  rw[OM,UE]
  show Gj (.t i) off (E.x x)=true/\pL E (some d) _ (E.x x)
  rw[h1]
  refine⟨by simp[Gj],?_⟩
  show match look E.e i with|.loc cs=>some d≠some i/\qy off cs _|_=>False
  rw[h2]
  refine⟨fun e=>h4 (by injection e),?_⟩
  unfold qy
  rw[h3]
  show(E.put (some i) _).put (some d) _=_
  unfold bL TU
  simp only[h2,kd,h3]
  rfl
theorem PX{ops:Array Oper}{Q:Exit->Act->World->Prop}{K:St->Prop}(G₀:Gh)(w₀:World)
 (hn:∀G' E' a' w',Inv G' n D E' a' w'->ax G₀ w₀ G' w'->K E'->Q .normal a' w'):∀(q:Nat)(l:List Oper)(l':List ah)(G:Gh)(E:St)(a:Act)(w:World),cc P n ops l l'=true->Inv G n D E a w->ax G₀ w₀ G w->Ht P T q l' E K->wpList P ops Q l a w
 |0,l,l',G,E,a,w,hc,h,hp,hk=>sg G₀ w₀ hn l l' G E a w hc h hp hk
 |_+1,[],[],G,E,a,w,_,h,hp,hk=>hn G E a w h hp hk
 |q+1,o::l,o'::l',G,E,a,w,hc,h,hp,hk=>by
  simp only[cc,Bool.and_eq_true]at hc
  obtain⟨v,hy,hk⟩:=MV hk
  show A9 P ops o a w (wpList P ops Q l) Q
  exact hy.run h hc.1 fun G' a' w' h1 h2=>PX G₀ w₀ hn q l l' G' _ a' w' hc.2 h1 (hp.trans h2) hk.2
 |_+1,[],_::_,_,_,_,_,hc,_,_,_=>by simp[cc]at hc
 |_+1,_::_,[],_,_,_,_,hc,_,_,_=>by simp[cc]at hc
def sn(P:Program)(T:List Nat):St->uy->Prop
 |_,[]=>True
 |E,(_,o,v)::r=>Y2 P E o v/\Cm T o v/\Zt T o/\sn P T (bL E o v) r
def OC:St->uy->St
 |E,[]=>E
 |E,(_,o,v)::r=>OC (bL E o v) r
theorem sn.eqv:∀{p:uy}{E E':St},ma E E'->sn P T E p->sn P T E' p
 |[],_,_,_,_=>trivial
 |(_,o,v)::r,_,_,h,⟨h1,h2,h3,h4⟩=>⟨h1.eqv h,h2,h3,sn.eqv (h.bL o v) h4⟩
theorem OD:∀(p:uy){E E':St},ma E E'->ma (OC E p) (OC E' p)
 |[],_,_,h=>h
 |(_,o,v)::r,_,_,h=>OD r (h.bL o v)
theorem pw{o:ah}{i:Nat}(h:fW o i=true):i∈ch o:=by
 unfold fW at h
 split at h
 ·rename_i j hop
  have:j=i:=by simpa using h
  subst this
  refine List.mem_append_right _ ?_
  rw[hop];exact List.mem_cons_self
 ·rename_i m p j hop
  have:j=i:=by simpa using h
  subst this
  refine List.mem_append_right _ ?_
  rw[hop]
  cases p with
  |t k=>exact List.mem_cons_of_mem _ List.mem_cons_self
  |c k=>exact List.mem_cons_self
 ·rename_i sz bytes j y hop
  have:j=i:=by simpa using h
  subst this
  refine List.mem_append_right _ ?_
  rw[hop];exact List.mem_cons_self
 ·rename_i off j x hop
  have:j=i:=by simpa using h
  subst this
  refine List.mem_append_right _ ?_
  rw[hop];exact List.mem_cons_self
 ·cases h
theorem NV{x y:ah}(h:ap2 x y=true):gu (sj x) (ch y)=true/\gu (sj y) (ch x)=true/\(∀i j,sj x=some i->sj y=some j->i≠j)/\Dt x y=true/\Dt y x=true/\(∀i,sj y=some i->fW x i=false)/\(∀i,sj x=some i->fW y i=false)/\cOK x=true/\cOK y=true:=by
 unfold ap2 at h
 simp only[Bool.and_eq_true]at h
 obtain⟨⟨⟨⟨⟨c1,c2⟩,d1,d2⟩,n1⟩,n2⟩,hm⟩:=h
 refine⟨n1,n2,fun i j hi hj=>?_,d1,d2,fun i hi=>?_,fun i hi=>?_,c1,c2⟩
 ·rw[hi,hj]at hm
  simpa using hm
 ·rw[hi]at n2
  simp[gu]at n2
  cases hd:fW x i with
  |false=>rfl
  |true=>exact absurd (pw hd) n2
 ·rw[hi]at n1
  simp[gu]at n1
  cases hd:fW y i with
  |false=>rfl
  |true=>exact absurd (pw hd) n1
theorem wX{o:ah}{i:Nat}(h:o.dst=some i):sj o=some i:=by
 obtain⟨d,op,g⟩:=o
 have h':d=some i:=h
 subst h'
 cases op<;>rfl
theorem lO{y:ah}{v:AV}{i:Nat}(h:sj y≠some i):bg (look (bL E y v).e i)=bg (look E.e i):=by
 rw[dJ,if_neg h]
 exact TW _ _ _
theorem abN{x:Nat×ah×AV}:∀(pre:uy)(post:uy)(E:St),yE T E->(∀y∈pre,ap2 y.2.1 x.2.1=true)->sn P T E (pre++x::post)->
 Y2 P E x.2.1 x.2.2/\Cm T x.2.1 x.2.2/\Zt T x.2.1/\sn P T (bL E x.2.1 x.2.2) (pre++post)/\ma (OC (bL E x.2.1 x.2.2) (pre++post)) (OC E (pre++x::post))
 |[],post,E,_,_,h=>⟨h.1,h.2.1,h.2.2.1,h.2.2.2,ma.refl _⟩
 |(k,o,v)::pre,post,E,hN,hap,h=>by
  obtain⟨h1,h2,h3,h4⟩:=h
  obtain⟨i1,i2,i3,i4,i5⟩:=abN pre post (bL E o v) (tg hN h2) (fun y hy=>hap y (List.mem_cons_of_mem _ hy)) h4
  obtain⟨a1,a2,a3,a4,a5,a6,a7,c1,c2⟩:=NV (hap (k,o,v) List.mem_cons_self)
  have hx:Y2 P E x.2.1 x.2.2:=i1.QA (wP h1 a1 a4 c2 hN h3).symm
   (fun i hi=>(lO fun e=>a3 i i e (wX hi) rfl).symm)
   (fun i hi hf=>nH (fun z hz _=>(iD o v z).2 (.inl hz)) hf)
  have ho:Y2 P (bL E x.2.1 x.2.2) o v:=h1.QA (wP hx a2 a5 c1 hN i3)
   (fun i hi=>lO fun e=>a3 i i (wX hi) e rfl)
   (fun i hi hf=>nH (fun z hz hzi=>by
     rcases(iD _ _ z).1 hz with hz|⟨j,j1,_,j3⟩
     ·exact hz
     ·rw[hzi]at j3;exact(i2 j j1 i (h3 i hi) j3).elim) hf)
  have FZ:ma (bL (bL E o v) x.2.1 x.2.2) (bL (bL E x.2.1 x.2.2) o v):=HZ a3 a6 a7
  refine⟨hx,i2,i3,⟨ho,h2,h3,i4.eqv FZ⟩,?_⟩
  exact(OD (pre++post) FZ.symm).trans i5
end
section
variable{P:Program}{G G':Gh}{n:Nat}{D:List Deferred}{E E':St}{a:Act}{w w':World}{ops:Array Oper}{bC:List ah}{q:Nat}{T:List Nat}
theorem TO{l:List ah}{o:ah}(h:Vu T bC q=true)(hl:l=bC.take q)(ho:o∈l):Zt T o:=fun c hc=>by
 subst hl
 have:=List.all_eq_true.1 h o ho
 unfold Wz at hc
 split at hc
 ·injection hc with hc;subst hc;simpa using this
 ·injection hc with hc;subst hc;simpa using this
 ·cases hc
theorem Lc{K:St->Prop}:∀(q:Nat)(l:List ah)(E:St)(k:Nat),q<=l.length->(∀o∈l.take q,Zt T o)->Ht P T q l E K->∃vs:List AV,vs.length=q/\sn P T E (mk k l vs)/\swp P (l.drop q) (OC E (mk k l vs)) K
 |0,l,E,k,_,_,h=>⟨[],rfl,by cases l<;>trivial,by cases l<;>exact h⟩
 |q+1,[],_,_,hl,_,_=>by simp at hl
 |q+1,o::l,E,k,hl,hT,h=>by
  obtain⟨v,hy,hno,hk⟩:=MV (show q2 P o E (fun U=>gI T U.e=true/\Ht P T q l U K) from h)
  obtain⟨vs,h2,h3,h4⟩:=Lc q l (bL E o v) (k+1) (by simpa using hl) (fun o' ho'=>hT o' (by rw[List.take_succ_cons];exact List.mem_cons_of_mem _ ho')) hk
  exact⟨v::vs,by simp[h2],⟨hy,Cn fun i c hc=>pO hno i c hc,hT o (by rw[List.take_succ_cons];exact List.mem_cons_self),h3⟩,h4⟩
theorem UL{Q:Exit->Act->World->Prop}(G₀:Gh)(w₀:World)(f:Nat)(hc:cc P n ops ops.toList bC=true)(hq:q<=ops.size)(h1:Sx ops q=true)(h2:Kk ops q=true)(h3:Vv ops q bC=true)(h4:q<ops.size->Region.ready .any ops (re ops.size q)=[q]):
 ∀(m:Nat)(kA:uy),kA.length=m->∀(aJ:Array Bool)(E:St),Good ops bC q kA aJ->yE T E->sn P T E kA->
  (∀G a w,Inv G n D (OC E kA) a w->ax G₀ w₀ G w->wpAny P .any ops Q f (re ops.size q) a w)->∀(G:Gh)(a:Act)(w:World),Inv G n D E a w->ax G₀ w₀ G w->wpAny P .any ops Q (m+f) aJ a w:=by
 intro m
 induction m with
 |zero=>
  intro kA hp aJ E hg _ _ hT G a w h hpr
  have:kA=[]:=List.eq_nil_of_length_eq_zero hp
  subst this
  rw[Tz hg,Nat.zero_add]
  exact hT G a w h hpr
 |succ m ih=>
  intro kA hp aJ E hg hNo hch hT G a w h hpr
  obtain⟨hlen,kg⟩:=fU _ _ hc
  rw[show m+1+f=(m+f)+1 by omega]
  refine⟨fun h0=>?_,fun i hi=>?_⟩
  ·
   cases kA with
   |nil=>simp at hp
   |cons x kA=>
    obtain⟨k,o,v⟩:=x
    obtain⟨u1,u2,u3⟩:=hg.un k o v List.mem_cons_self
    have y5:k∈Region.ready .any ops aJ:=by
     have hk:k<ops.size:=by omega
     refine mem_ready.2 ⟨u2,ops[k],Array.getElem?_eq_getElem hk,fun e he hb=>?_⟩
     have hs:=List.all_eq_true.1 h1 k (List.mem_range.2 u1)
     rw[Array.getElem?_eq_getElem hk]at hs
     have:=Array.all_eq_true_iff_forall_mem.1 hs e he
     rw[hb]at this
     have hlt:e.on<k:=by simpa using this
     refine hg.li e.on (by omega) fun o' v' hm=>?_
     rcases List.mem_cons.1 hm with hm|hm
     ·injection hm with hm;omega
     ·have:=(List.pairwise_cons.1 hg.sorted).1 _ hm
      simp at this
      omega
    rw[h0]at y5
    cases y5
  ·obtain⟨r1,r2,r3⟩:=ks hi
   have hne:∃k o v,(k,o,v)∈kA:=by
    cases kA with
    |nil=>simp at hp
    |cons x kA=>exact⟨x.1,x.2.1,x.2.2,List.mem_cons_self⟩
   have hiq:i<q:=by
    refine Classical.byContradiction fun hge=>?_
    have hqs:q<ops.size:=by omega
    by_cases hiq':i=q
    ·subst hiq'
     have eo:∀(d k:Nat),k<i->i -k=d->aJ.getD k false=true:=by
      intro d
      induction d using Nat.strongRecOn with
      |_ d ihd=>
       intro k hk hd
       have hs:((List.range i).all fun k=>(List.range (i+1)).any fun m=>decide (k<m)&&gT ops m k)=true:=by
        unfold Kk at h2
        rw[Bool.or_eq_true]at h2
        rcases h2 with h2|h2
        ·have:=beq_iff_eq.1 h2;omega
        ·exact h2
       obtain⟨m',hm1,hm2⟩:=List.any_eq_true.1 (List.all_eq_true.1 hs k (List.mem_range.2 hk))
       rw[Bool.and_eq_true,decide_eq_true_eq]at hm2
       have akR:=List.mem_range.1 hm1
       by_cases hmi:m'=i
       ·subst hmi;exact r3 k hm2.2
       ·exact hg.cl m' (by omega) (ihd (i -m') (by omega) m' (by omega) rfl) k hm2.2
     obtain⟨k,o,v,hk⟩:=hne
     obtain⟨u1,u2,u3⟩:=hg.un k o v hk
     have:=lF (eo _ k u1 rfl)
     rw[u2]at this
     cases this
    ·have hnr:i∉Region.ready .any ops (re ops.size q):=by rw[h4 hqs];simpa using hiq'
     apply hnr
     refine mem_ready.2 ⟨?_,ops[i],Array.getElem?_eq_getElem r1,fun e he hb=>?_⟩
     ·simp[re,r1];omega
     ·have hl:=r3 e.on ((ni (Array.getElem?_eq_getElem r1)).2 ⟨e,he,hb,rfl⟩)
      have hlt:e.on<q:=by
       refine Classical.byContradiction fun hnl=>?_
       by_cases hs:e.on<ops.size
       ·have:=hg.tl e.on (by omega) hs
        have:=lF hl
        simp_all
       ·have:aJ.getD e.on false=false:=by simp[Array.getElem?_eq_none (show aJ.size<=e.on by rw[hg.size];omega)]
        rw[this]at hl;cases hl
      simp[re,show e.on<ops.size by omega,hlt]
   have hin:∃o v,(i,o,v)∈kA:=by
    apply Classical.byContradiction
    intro hno
    have:=hg.li i hiq fun o v hm=>hno ⟨o,v,hm⟩
    have:=lF this
    rw[r2]at this
    cases this
   obtain⟨o',v,hin⟩:=hin
   obtain⟨pre,post,rfl⟩:=List.append_of_mem hin
   have uS:=List.pairwise_append.1 hg.sorted
   have hap:∀y∈pre,ap2 y.2.1 o'=true:=by
    intro y hy
    obtain⟨k,o,u⟩:=y
    have hlt:k<i:=uS.2.2 _ hy _ List.mem_cons_self
    obtain⟨u1,u2,u3⟩:=hg.un k o u (List.mem_append_left _ hy)
    obtain⟨_,_,u4⟩:=hg.un i o' v (by simp)
    have hs:=List.all_eq_true.1 (List.all_eq_true.1 h3 i (List.mem_range.2 hiq)) k (List.mem_range.2 hlt)
    rw[Bool.or_eq_true]at hs
    rcases hs with hs|hs
    ·have:=lF (r3 k hs)
     rw[u2]at this
     cases this
    ·unfold aa1 at hs
     rw[u3,u4]at hs
     exact hs
   obtain⟨p1,p2,p3,p4,p5⟩:=abN pre post E hNo hap hch
   obtain⟨_,_,u4⟩:=hg.un i o' v (by simp)
   have ho:ops.toList[i]? =some ops[i]:=by simp[r1]
   refine qa (o:=ops[i]) (by simp[r1]) (Y2.run h (kg i _ _ ho u4) p1 fun G' a' w' k1 k2=>?_)
   exact ih (pre++post) (by simp at hp⊢;omega) _ (bL E o' v) (Ky hg hi) (tg hNo p2) p4 (fun G'' a'' w'' z1 z2=>hT G'' a'' w'' (z1.eqv p5) z2) G' a' w' k1 (hpr.trans k2)
theorem acB(hm:P.follows .mixedOrders=true):aaT P n:=by
 intro D draw id ops bC T q G E a w K Q hc hd h hno hw hn
 cases draw with
 |false=>exact wp_region_list (PX G w hn q ops.toList bC G E a w hc h (ax.refl G w) hw)
 |true=>
 have hd:=hd rfl
 simp only[LH,Bool.and_eq_true,decide_eq_true_eq]at hd
 obtain⟨hq,h1,h2,h3,hl0,h4⟩:=hd
 obtain⟨hlen,kg⟩:=fU _ _ hc
 have hsz:bC.length=ops.size:=by rw[<-hlen];simp
 obtain⟨vs,e1,e2,e3⟩:=Lc q bC E 0 (by omega) (fun o ho=>TO hl0 rfl ho) hw
 have hmk:(mk 0 bC vs).length=q:=by
  have:∀(l:List ah)(vs:List AV)(k:Nat),vs.length<=l.length->(mk k l vs).length=vs.length:=by
   intro l
   induction l with
   |nil=>intro vs k hl;cases vs with
    |nil=>rfl
    |cons=>simp at hl
   |cons o l ih=>intro vs k hl;cases vs with
    |nil=>rfl
    |cons v vs=>simp[mk,ih vs (k+1) (by simpa using hl)]
  rw[this bC vs 0 (by omega),e1]
 refine wp_region_any hm ?_
 have hrq:q<ops.size->Region.ready .any ops (re ops.size q)=[q]:=by
  intro hlt
  obtain⟨d,hd⟩:∃d,ops.size -q=d+1:=⟨ops.size -q -1,by omega⟩
  rw[hd]at h4
  simp only[sy,Bool.and_eq_true,beq_iff_eq]at h4
  exact h4.1
 have hT:∀G' a' w',Inv G' n D (OC E (mk 0 bC vs)) a' w'->ax G w G' w'->wpAny P .any ops Q (ops.size -q) (re ops.size q) a' w':=by
  intro G' a' w' z1 z2
  have hl:(bC.drop q).length=ops.size -q:=by rw[List.length_drop];omega
  have:=zK G w hc hn (bC.drop q) q (re ops.size q) G' _ a' w' rfl (by rw[hl];exact h4) e3 z1 z2
  rwa[hl]at this
 have nt:Good ops bC q (mk 0 bC vs) (Array.replicate ops.size false):=by
  have Q9:∀k b,k<ops.size->(Array.replicate ops.size false).getD k b=false:=fun k b hk=>by simp[hk]
  refine⟨by simp,fun k o v hk=>?_,fun k hk hno=>?_,fun j _ hj=>Q9 j _ hj,fun m hm hl i hi=>?_,Co bC vs 0⟩
  ·obtain⟨j,j1,j2,j3⟩:=MF bC vs 0 k o v hk
   have:k=j:=by omega
   subst this
   exact⟨by omega,Q9 k _ (by omega),j3⟩
  ·obtain⟨o,v,hh⟩:=Ry bC vs 0 k (by omega) (by omega)
   rw[Nat.zero_add]at hh
   exact absurd hh (hno o v)
  ·rw[Q9 m _ (by omega)]at hl;cases hl
 have:=UL (T:=T) (P:=P) (n:=n) (Q:=Q) G w (ops.size -q) hc hq h1 h2 h3 hrq q (mk 0 bC vs) hmk _ E nt (fun i c hc=>pO hno i c hc) e2 hT G a {w with drawn:=w.drawn+1} h.drew (ax.drew G w)
 rwa[show q+(ops.size -q)=ops.size by omega]at this
end
end Go.AB
end
