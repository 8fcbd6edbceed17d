/- A part. -/
import Derived.Test.YtplacgnfinmfbaaGreatDoorFs7
set_option linter.unusedSimpArgs false
set_option linter.unusedVariables false
section
namespace Go.AB
open Go
section
variable{P:Program}{G G':Gh}{n:Nat}{D:List Deferred}{E E':St}{a:Act}{w w':World}
theorem Inv.vq{d:Option Nat}{av:AV}(h:Inv G n D (E.put d (.iP [])) a w)(hd:bC n d=true)(hnl:∀t,¬bD av t):Inv G n D (E.put d (.when false av)) a w:=by
 cases d with
 |none=>exact h
 |some i=>
  have hi:i<n:=by simpa[bC]using hd
  have e1:look (E.put (some i) (.iP [])).e i=.iP []:=by simp[St.put,aX]
  have:=h.K8 i hi (.when false av) hnl (fun cs e=>by cases e) (fun v hv=>by
   have hs:=h.cm i v hv
   rw[e1]at hs
   obtain⟨ys,rfl,h2⟩:=hs
   refine⟨fun hh=>Bool.noConfusion hh,fun _=>?_⟩
   have:ys= #[]:=Array.eq_empty_of_size_eq_zero (by simpa using h2.1)
   rw[this])
  refine this.eqv ⟨fun j=>?_,fun _=>Iff.rfl,rfl⟩
  grind [St.put,aX]
theorem vd{rs:List AV}(h:iX rs=true)(t:Nat):¬bD (e7 rs) t:=by
 match rs,h with
 |[],_=>exact fun h=>h
 |[r],h=>exact Ea h t
 |_::_::_,_=>exact fun h=>h
theorem SS{op:rY}{d:Option Nat}{v:AV}{K:St->Prop}(h:qe (xg true E) E.s op=.dh v\/∃c,qe (xg true E) E.s op=.fw c v/\c)(hk:K (E.put d v)):jl P op d E K:=by
 cases op<;>first|(rcases h with h|⟨c,h,_⟩<;>cases h;done)|skip
 case gy x=>
  show pN E d K (xg true E x)
  have h':uT (xg true E x)=.dh v\/∃c,uT (xg true E x)=.fw c v/\c:=h
  cases hx:xg true E x<;>rw[hx]at h'<;>first|(rcases h' with h'|⟨c,h',_⟩<;>cases h';done)|skip
  rcases h' with h'|⟨c,h',_⟩
  ·injection h' with h';subst h';exact hk
  ·cases h'
 case qt x=>
  show SF E d K (AH (xg true E x))
  have h':AH (xg true E x)=.dh v\/∃c,AH (xg true E x)=.fw c v/\c:=h
  rcases h' with h'|⟨c,h',hc⟩<;>rw[h']
  ·exact hk
  ·exact⟨hc,hk⟩
 case kz x=>
  show SF E d K (BF (xg true E x))
  have h':BF (xg true E x)=.dh v\/∃c,BF (xg true E x)=.fw c v/\c:=h
  rcases h' with h'|⟨c,h',hc⟩<;>rw[h']
  ·exact hk
  ·exact⟨hc,hk⟩
 case gr sz m z ps=>
  show yb sz m E d K (fill (xg true E) z ps)
  have h':D7 sz m (fill (xg true E) z ps)=.dh v\/∃c,D7 sz m (fill (xg true E) z ps)=.fw c v/\c:=h
  cases hx:fill (xg true E) z ps<;>rw[hx]at h'
  ·rcases h' with h'|⟨c,h',_⟩<;>cases h'
  ·rcases h' with h'|⟨c,h',hc⟩
   ·cases h'
   ·injection h' with h1 h2;subst h1;subst h2;exact⟨hc,hk⟩
theorem Y.run(h:Inv G n D E a w){ops:Array Oper}{o:Oper}{o':au}{v:AV}(hc:g9 P n ops o o'=true)(hy:Y P E o' v){next:Act->World->Prop}{Q:Exit->Act->World->Prop}
 (hn:∀G' a' w',Inv G' n D (step E o' v) a' w'->aK G w G' w'->next a' w'):xI P ops o a w next Q:=by
 have gen:Lz P o' E (fun τ=>τ=step E o' v)->xI P ops o a w next Q:=fun hg=>gB h hc hg fun G' E' a' w' h1 h2 h3=>by grind
 cases hy with
 |oM d x hi=>
  refine gen ?_
  show Sf E x d (fun τ=>τ=step E ⟨d,.oM true x,none⟩ (E.x x)) (E.x x)
  refine⟨hi,?_⟩
  show _=(b9 (E.drain x) (E.x x) d).put d (E.x x)
  rw[Kq hi]
 |pure _ _ hq=>
  have hdr:dr o' E=E:=QT (by grind)
  have eM:step E o' v=(b9 E v o'.dst).put o'.dst v:=by unfold step;rw[hdr]
  rw[eM]at hn gen
  obtain⟨d,op,g⟩:=o'
  cases g with
  |none=>
   refine gen ?_
   show Ua P op E d (fun τ=>τ=(b9 E v d).put d v) (pv op (xg true E) E)
   have hq':(pv op (xg true E) E=.dh v\/∃c,pv op (xg true E) E=.fw c v/\c):=hq
   rcases hq' with hq|⟨c,hq,hcc⟩
   ·rw[hq];rfl
   ·rw[hq];exact⟨hcc,rfl⟩
  |some tw=>
   obtain⟨t,want⟩:=tw
   have hq':(K5 op want E (look E.e t)=.dh v\/∃c,K5 op want E (look E.e t)=.fw c v/\c):=hq
   rcases aa6 (o:=op) (want:=want) (E:=E) (a:=look E.e t)with⟨g0,b,hg0,hl⟩|hl<;>rw[hl]at hq'
   case inr=>grind
   have hgs:=fun K=>BQ (P:=P) (o:=op) (d:=d) (t:=t) (want:=want) (E:=E) (K:=K) hg0
   generalize(g0&&(b==want))=gg at hq' hgs
   have hq2:(WS (rdO op) gg (pv op (xg gg E) E)=.dh v\/∃c,WS (rdO op) gg (pv op (xg gg E) E)=.fw c v/\c):=hq'
   cases hp:pv op (xg gg E) E with
   |dh x=>
    refine gen ?_
    show zN P op d t want E _ (look E.e t)
    rw[hgs]
    show Qk P gg op E d (fun τ=>τ=(b9 E v d).put d v) (pv op (xg gg E) E)
    rw[hp]
    rw[hp]at hq2
    rcases hq2 with hq|⟨c,hq,_⟩
    ·injection hq with hq;subst hq;rfl
    ·cases hq
   |fw c x=>
    refine gen ?_
    show zN P op d t want E _ (look E.e t)
    rw[hgs]
    show Qk P gg op E d (fun τ=>τ=(b9 E v d).put d v) (pv op (xg gg E) E)
    rw[hp]
    rw[hp]at hq2
    rcases hq2 with hq|⟨c',hq,hcc⟩
    ·cases hq
    ·injection hq with hq1 hq2;subst hq1;subst hq2;exact⟨hcc,rfl⟩
   |no=>
    rw[hp]at hq2
    cases hr:rdO op with
    |false=>
     rw[hr]at hq2
     have hq3:(PR.no=.dh v\/∃c,PR.no=.fw c v/\c):=hq2
     grind
    |true=>
     rw[hr]at hq2
     have hq3:(PR.fw (gg=false) (.when gg .undef)=.dh v\/∃c,PR.fw (gg=false) (.when gg .undef)=.fw c v/\c):=hq2
     rcases hq3 with hq|⟨c',hq,hcc⟩
     ·cases hq
     injection hq with hq1 hq2
     subst hq1;subst hq2
     have hd:bC n d=true:=by
      simp only[g9,Bool.and_eq_true]at hc
      exact hc.1.1.2
     refine gB (K:=fun τ=>τ=E.put d (.iP [])) h hc ?_ fun G' E' a' w' k1 k2 k3=>?_
     ·show zN P op d t want E (fun τ=>τ=E.put d (.iP [])) (look E.e t)
      rw[hgs]
      show Qk P gg op E d (fun τ=>τ=E.put d (.iP [])) (pv op (xg gg E) E)
      rw[hp]
      exact⟨fun hb=>absurd (hb.symm.trans hcc) (by decide),fun _=>rfl⟩
     ·subst k3
      have e:(b9 E (.when gg .undef) d).put d (.when gg .undef)=E.put d (.when false .undef):=by
       rw[hcc]
       have:b9 E (.when false .undef) d=E:=by cases d<;>rfl
       show(b9 E (.when false .undef) d).put d _=_
       rw[this]
      have hn':=hn
      simp only at hn'
      rw[e]at hn'
      exact hn' G' a' w' (k1.vq hd (fun _ h=>h)) k2
 |call d f args as rs h1 h2 h3=>
  refine gen ?_
  show sJ P f E d _ (cq (xg true E) args)
  rw[h1]
  refine FE.app h3 ⟨h2,?_⟩
  show _=(b9 E (e7 rs) d).put d (e7 rs)
  rw[oP h2]
 |JB d f args t want g0 b rs h0 h2 h1=>
  have hd:bC n d=true:=by
   simp only[g9,Bool.and_eq_true]at hc
   exact hc.1.1.2
  have eM:step E ⟨d,.call f args,some (t,want)⟩ (.when (g0&&(b==want)) (e7 rs))=E.put d (.when (g0&&(b==want)) (e7 rs)):=by
   show(b9 E (.when (g0&&(b==want)) (e7 rs)) d).put d (.when (g0&&(b==want)) (e7 rs))=_
   have:b9 E (.when (g0&&(b==want)) (e7 rs)) d=E:=oP h2 E d
   rw[this]
  rw[eM]at hn
  refine gB (K:=fun τ=>((g0&&(b==want))=true/\τ=E.put d (e7 rs))\/((g0&&(b==want))=false/\τ=E.put d (.iP []))) h hc ?_ fun G' E' a' w' k1 k2 k3=>?_
  ·show zN P (.call f args) d t want E _ (look E.e t)
   rw[BQ h0]
   refine⟨fun hb=>?_,fun hb=>.inr ⟨hb,rfl⟩⟩
   obtain⟨as,q1,q2⟩:=h1 hb
   show sJ P f E d _ (cq (xg true E) args)
   rw[q1]
   exact FE.app q2 ⟨h2,.inl ⟨hb,rfl⟩⟩
  ·rcases k3 with⟨hb,rfl⟩|⟨hb,rfl⟩
   ·rw[hb]at hn;exact hn G' a' w' (k1.uH hd) k2
   ·rw[hb]at hn;exact hn G' a' w' (k1.vq hd (vd h2)) k2
 |gw d x args f as rs h1 hf h2 h3=>
  obtain⟨first,gh,xs,q1,q2,rfl⟩:=h1
  refine gen ?_
  show xb P E (cq (xg true E) args) d _ (xg true E x)
  rw[q1,q2]
  refine⟨hf,FE.app h3 ⟨h2,?_⟩⟩
  show _=(b9 E (e7 rs) d).put d (e7 rs)
  rw[oP h2]
 |Ci d x args t want g0 b rs h0 h2 h1=>
  have hd:bC n d=true:=by
   simp only[g9,Bool.and_eq_true]at hc
   exact hc.1.1.2
  have eM:step E ⟨d,.gw x args,some (t,want)⟩ (.when (g0&&(b==want)) (e7 rs))=E.put d (.when (g0&&(b==want)) (e7 rs)):=by
   show(b9 E (.when (g0&&(b==want)) (e7 rs)) d).put d (.when (g0&&(b==want)) (e7 rs))=_
   have:b9 E (.when (g0&&(b==want)) (e7 rs)) d=E:=oP h2 E d
   rw[this]
  rw[eM]at hn
  refine gB (K:=fun τ=>((g0&&(b==want))=true/\τ=E.put d (e7 rs))\/((g0&&(b==want))=false/\τ=E.put d (.iP []))) h hc ?_ fun G' E' a' w' k1 k2 k3=>?_
  ·show zN P (.gw x args) d t want E _ (look E.e t)
   rw[BQ h0]
   refine⟨fun hb=>?_,fun hb=>.inr ⟨hb,rfl⟩⟩
   obtain⟨f,as,⟨first,gh,xs,q1,q2,rfl⟩,q4,q5⟩:=h1 hb
   show xb P E (cq (xg true E) args) d _ (xg true E x)
   rw[q1,q2]
   exact⟨q4,FE.app q5 ⟨h2,.inl ⟨hb,rfl⟩⟩⟩
  ·rcases k3 with⟨hb,rfl⟩|⟨hb,rfl⟩
   ·rw[hb]at hn;exact hn G' a' w' (k1.uH hd) k2
   ·rw[hb]at hn;exact hn G' a' w' (k1.vq hd (vd h2)) k2
 |XB _ _ hq=>
  obtain⟨_,hnl,hlp,hdr⟩:=SR hq
  have eM:step E o' v=E.put o'.dst v:=by unfold step;rw[hdr,hlp]
  obtain⟨d,op,g⟩:=o'
  cases g with
  |none=>
   refine gen ?_
   have hq':qe (xg true E) E.s op=.dh v\/∃c,qe (xg true E) E.s op=.fw c v/\c:=hq
   show Ua P op E d (fun τ=>τ=step E ⟨d,op,none⟩ v) (pv op (xg true E) E)
   rw[(DZ (hq'.imp id fun⟨c,h,_⟩=>⟨c,h⟩)).2.1]
   exact SS hq' eM.symm
  |some tw=>
   obtain⟨t,want⟩:=tw
   have hd:bC n d=true:=by
    simp only[g9,Bool.and_eq_true]at hc
    exact hc.1.1.2
   have hq':Ot op want E (look E.e t)=.dh v\/∃c,Ot op want E (look E.e t)=.fw c v/\c:=hq
   rcases SQ (o:=op) (want:=want) (E:=E) (a:=look E.e t)with⟨g0,b,hg0,hl⟩|hl<;>rw[hl]at hq'
   case inr=>grind
   have hgs:=fun K=>BQ (P:=P) (o:=op) (d:=d) (t:=t) (want:=want) (E:=E) (K:=K) hg0
   generalize(g0&&(b==want))=gg at hq' hgs
   obtain⟨u,hu,hv⟩:∃u,(gg=true->(qe (xg true E) E.s op=.dh u\/∃c,qe (xg true E) E.s op=.fw c u/\c))/\v=.when gg u:=by
    have h2:Qg gg (qe (xg gg E) E.s op)=.dh v\/∃c,Qg gg (qe (xg gg E) E.s op)=.fw c v/\c:=hq'
    cases hq2:qe (xg gg E) E.s op with
    |dh u=>
     rw[hq2]at h2
     refine⟨u,fun hb=>?_,?_⟩
     ·grind
     ·rcases h2 with h2|⟨c,h2,_⟩
      ·injection h2 with h2;exact h2.symm
      ·cases h2
    |fw c u=>
     rw[hq2]at h2
     rcases h2 with h2|⟨c',h2,hc'⟩
     ·cases h2
     ·injection h2 with h3 h4
      grind
    |no=>rw[hq2]at h2;rcases h2 with h2|⟨c,h2,_⟩<;>cases h2
   subst hv
   have hpn:∀f τ,pv op f τ=.no:=by
    intro f τ
    have h2:Qg gg (qe (xg gg E) E.s op)=.dh _\/∃c,Qg gg (qe (xg gg E) E.s op)=.fw c _/\c:=hq'
    cases op<;>first|rfl|(rcases h2 with h2|⟨c,h2,_⟩<;>cases h2)
   rw[eM]at hn
   refine gB (K:=fun τ=>(gg=true/\τ=E.put d u)\/(gg=false/\τ=E.put d (.iP []))) h hc ?_ fun G' E' a' w' k1 k2 k3=>?_
   ·show zN P op d t want E _ (look E.e t)
    rw[hgs,hpn]
    unfold Qk
    refine⟨fun hb=>?_,fun hb=>.inr ⟨hb,rfl⟩⟩
    show Ua P op E d _ (pv op (xg true E) E)
    rw[hpn]
    exact SS (hu hb) (.inl ⟨hb,rfl⟩)
   ·rcases k3 with⟨hb,rfl⟩|⟨hb,rfl⟩
    ·rw[hb]at hn;exact hn G' a' w' (k1.uH hd) k2
    ·rw[hb]at hn;exact hn G' a' w' (k1.vq hd fun t ht=>hnl t ht) k2
theorem Ou{ops:Array Oper}{Q:Exit->Act->World->Prop}{K:St->Prop}(G₀:Gh)(w₀:World)
 (hn:∀G' E' a' w',Inv G' n D E' a' w'->aK G₀ w₀ G' w'->K E'->Q .normal a' w'):∀(q:Nat)(l:List Oper)(l':List au)(G:Gh)(E:St)(a:Act)(w:World),cu P n ops l l'=true->Inv G n D E a w->aK G₀ w₀ G w->Ud P q l' E K->wpList P ops Q l a w
 |0,l,l',G,E,a,w,hc,h,hp,hk=>qD G₀ w₀ hn l l' G E a w hc h hp hk
 |_+1,[],[],G,E,a,w,_,h,hp,hk=>hn G E a w h hp hk
 |q+1,o::l,o'::l',G,E,a,w,hc,h,hp,hk=>by
  simp only[cu,Bool.and_eq_true]at hc
  obtain⟨hf,hk⟩:=hk
  obtain⟨v,hv,hy,hk⟩:=MR hk
  show xI P ops o a w (wpList P ops Q l) Q
  exact hy.run h hc.1 fun G' a' w' h1 h2=>Ou G₀ w₀ hn q l l' G' _ a' w' hc.2 h1 (hp.trans h2) hk
 |_+1,[],_::_,_,_,_,_,hc,_,_,_=>by simp[cu]at hc
 |_+1,_::_,[],_,_,_,_,hc,_,_,_=>by simp[cu]at hc
abbrev sx:=List (Nat×au×AV)
def xV(P:Program):St->sx->Prop
 |_,[]=>True
 |E,(_,o,v)::r=>bn E o.dst=true/\bw v=true/\Y P E o v/\xV P (step E o v) r
def fin:St->sx->St
 |E,[]=>E
 |E,(_,o,v)::r=>fin (step E o v) r
theorem xV.eqv:∀{p:sx}{E E':St},lf E E'->xV P E p->xV P E' p
 |[],_,_,_,_=>trivial
 |(_,o,v)::r,_,_,h,⟨h1,h2,h3,h4⟩=>⟨by rw[<-h.free];exact h1,h2,h3.LJ (h.LJ o),xV.eqv (h.step o v) h4⟩
theorem NL:∀(p:sx){E E':St},lf E E'->lf (fin E p) (fin E' p)
 |[],_,_,h=>h
 |(_,o,v)::r,_,_,h=>NL r (h.step o v)
theorem EK{o:au}{i:Nat}(h:jC o i=true):i∈cm o:=by
 unfold jC at h
 split at h
 ·rename_i j hop
  have:j=i:=by simpa using h
  subst this
  refine List.mem_append_right _ ?_
  rw[hop]
  exact List.mem_cons_self
 ·cases h
theorem Uk{x y:au}(h:ap x y=true):gV x.dst (cm y)=true/\gV y.dst (cm x)=true/\(∀i j,x.dst=some i->y.dst=some j->i≠j)/\Sk x y=true/\Sk y x=true/\(∀i,y.dst=some i->jC x i=false)/\(∀i,x.dst=some i->jC y i=false):=by
 unfold ap at h
 simp only[Bool.and_eq_true]at h
 grind [gV,jC,absurd,EK]
theorem pull{x:Nat×au×AV}:∀(pre:sx)(post:sx)(E:St),(∀y∈pre,ap y.2.1 x.2.1=true)->xV P E (pre++x::post)->
 bn E x.2.1.dst=true/\bw x.2.2=true/\Y P E x.2.1 x.2.2/\xV P (step E x.2.1 x.2.2) (pre++post)/\lf (fin (step E x.2.1 x.2.2) (pre++post)) (fin E (pre++x::post))
 |[],post,E,_,h=>⟨h.1,h.2.1,h.2.2.1,h.2.2.2,lf.refl _⟩
 |(k,o,v)::pre,post,E,hap,h=>by
  obtain⟨h1,h2,h3,h4⟩:=h
  obtain⟨i1,i2,i3,i4,i5⟩:=pull pre post (step E o v) (fun y hy=>hap y (List.mem_cons_of_mem _ hy)) h4
  obtain⟨a1,a2,a3,a4,a5,a6,a7⟩:=Uk (hap (k,o,v) List.mem_cons_self)
  have hfx:bn E x.2.1.dst=true:=by
   cases hd:x.2.1.dst with
   |none=>rfl
   |some j=>
    rw[hd]at i1
    have i1':bw (look (step E o v).e j)=true:=i1
    rw[iG,if_neg (fun e=>a3 j j e hd rfl)]at i1'
    show bw (look E.e j)=true
    grind
  have hfo:bn (step E x.2.1 x.2.2) o.dst=true:=by
   cases hd:o.dst with
   |none=>rfl
   |some j=>
    rw[hd]at h1
    show bw (look (step E x.2.1 x.2.2).e j)=true
    rw[iG,if_neg (fun e=>a3 j j hd e rfl)]
    split
    ·grind
    ·exact h1
  have Gg:lf (step (step E o v) x.2.1 x.2.2) (step (step E x.2.1 x.2.2) o v):=P8 a3 a6 a7
  refine⟨hfx,i2,i3.LJ (Js h1 h2 a1 a4).symm,⟨hfo,h2,h3.LJ (Js hfx i2 a2 a5),i4.eqv Gg⟩,?_⟩
  exact(NL (pre++post) Gg.symm).trans i5
end
section
variable{P:Program}{G G':Gh}{n:Nat}{D:List Deferred}{E E':St}{a:Act}{w w':World}{ops:Array Oper}{bG:List au}{q:Nat}
def mk:Nat->List au->List AV->sx
 |k,o::l,v::vs=>(k,o,v)::mk (k+1) l vs
 |_,_,_=>[]
theorem K7{K:St->Prop}:∀(q:Nat)(l:List au)(E:St)(k:Nat),q<=l.length->Ud P q l E K->∃vs:List AV,vs.length=q/\xV P E (mk k l vs)/\Lo P (l.drop q) (fin E (mk k l vs)) K
 |0,l,E,k,_,h=>⟨[],rfl,by cases l<;>trivial,by cases l<;>exact h⟩
 |q+1,[],_,_,hl,_=>by simp at hl
 |q+1,o::l,E,k,hl,h=>by
  obtain⟨hf,h1⟩:=h
  obtain⟨v,hv,hy,hk⟩:=MR h1
  obtain⟨vs,h2,h3,h4⟩:=K7 q l (step E o v) (k+1) (by grind) hk
  exact⟨v::vs,by simp[h2],⟨hf,hv,hy,h3⟩,h4⟩
theorem Io:∀(l:List au)(vs:List AV)(k:Nat)(i:Nat)(o:au)(v:AV),(i,o,v)∈mk k l vs->∃j,i=k+j/\j<vs.length/\l[j]? =some o
 |[],_,_,_,_,_,h=>by simp[mk]at h
 |_::_,[],_,_,_,_,h=>by simp[mk]at h
 |o'::l,v'::vs,k,i,o,v,h=>by
  rcases List.mem_cons.1 h with h|h
  ·simp_all
  ·obtain⟨j,h1,h2,h3⟩:=Io l vs (k+1) i o v h
   exact⟨j+1,by omega,by simpa using h2,by simpa using h3⟩
theorem Ak:∀(l:List au)(vs:List AV)(k:Nat),(mk k l vs).Pairwise fun x y=>x.1<y.1
 |[],_,_=>by simp[mk]
 |_::_,[],_=>by simp[mk]
 |o::l,v::vs,k=>by
  refine List.Pairwise.cons (fun y hy=>?_) (Ak l vs (k+1))
  obtain⟨i,o',v'⟩:=y
  obtain⟨j,h1,_⟩:=Io l vs (k+1) i o' v' hy
  show k<i
  omega
theorem MB:∀(l:List au)(vs:List AV)(k j:Nat),j<vs.length->j<l.length->∃o v,(k+j,o,v)∈mk k l vs
 |[],_,_,_,_,h=>by simp at h
 |_::_,[],_,_,h,_=>by simp at h
 |o::l,v::vs,k,0,_,_=>⟨o,v,List.mem_cons_self⟩
 |o::l,v::vs,k,j+1,h1,h2=>by
  obtain⟨o',v',h⟩:=MB l vs (k+1) j (by grind) (by grind)
  refine⟨o',v',List.mem_cons_of_mem _ ?_⟩
  grind
theorem fW:∀(l:List Oper)(l':List au),cu P n ops l l'=true->l.length=l'.length/\∀(k:Nat)(o:Oper)(o':au),l[k]? =some o->l'[k]? =some o'->g9 P n ops o o'=true
 |[],[],_=>⟨rfl,fun k o o' h=>by simp at h⟩
 |o::l,o'::l',h=>by
  simp only[cu,Bool.and_eq_true]at h
  obtain⟨h1,h2⟩:=fW l l' h.2
  refine⟨by simp[h1],fun k x x' hx hx'=>?_⟩
  cases k with
  |zero=>simp at hx hx';subst hx;subst hx';exact h.1
  |succ k=>exact h2 k x x' (by simpa using hx) (by simpa using hx')
 |[],_::_,h=>by simp[cu]at h
 |_::_,[],h=>by simp[cu]at h
theorem oq{Q:Exit->Act->World->Prop}{i:Nat}{o:Oper}{next:Act->World->Prop}(ho:ops[i]? =some o)(h:xI P ops o a w next Q):wpOp P ops Q i next a w:=by
 unfold wpOp
 simp only[ho]
 exact h
theorem lO{j i:Nat}{o:Oper}(ho:ops[j]? =some o):gZ ops j i=true↔∃e∈o.after,Region.binds .any e=true/\e.on=i:=by
 unfold gZ
 rw[ho]
 show(o.after.any fun e=>Region.binds .any e&&e.on==i)=true↔_
 rw[Array.any_eq_true']
 grind
theorem xP{K:St->Prop}{Q:Exit->Act->World->Prop}(G₀:Gh)(w₀:World)(hc:cu P n ops ops.toList bG=true)
 (hn:∀G' E' a' w',Inv G' n D E' a' w'->aK G₀ w₀ G' w'->K E'->Q .normal a' w'):∀(l:List au)(k:Nat)(listed:Array Bool)(G:Gh)(E:St)(a:Act)(w:World),l=bG.drop k->qT ops l.length k listed=true->
 Lo P l E K->Inv G n D E a w->aK G₀ w₀ G w->wpAny P .any ops Q l.length listed a w
 |[],_,listed,G,E,a,w,_,ht,hk,h,hp=>⟨List.isEmpty_iff.1 ht,hn G E a w h hp hk⟩
 |o'::l,k,listed,G,E,a,w,hl,ht,hk,h,hp=>by
  have ht':(Region.ready .any ops listed==[k]&&qT ops l.length (k+1) (listed.setIfInBounds k true))=true:=ht
  simp only[Bool.and_eq_true,beq_iff_eq]at ht'
  obtain⟨hr,ht'⟩:=ht'
  obtain⟨hlen,sf⟩:=fW _ _ hc
  have hk':bG[k]? =some o':=by
   have:(bG.drop k)[0]? =some o':=by rw[<-hl];rfl
   simpa using this
  have adR:l=bG.drop (k+1):=by
   have:(bG.drop k).tail=l:=by rw[<-hl];rfl
   rw[<-this];simp
  have U8:k<ops.toList.length:=by rw[hlen];exact(List.getElem?_eq_some_iff.1 hk').1
  have ho:ops.toList[k]? =some ops.toList[k]:=List.getElem?_eq_getElem U8
  refine⟨fun h0=>absurd h0 (by rw[hr];simp),fun i hi=>?_⟩
  rw[hr]at hi
  have:i=k:=by simpa using hi
  subst this
  refine oq (by simp) (gB h (sf i _ _ ho hk') hk fun G' E' a' w' h1 h2 h3=>?_)
  exact xP G₀ w₀ hc hn l (i+1) _ G' E' a' w' adR ht' h3 h1 (hp.trans h2)
structure Good(ops:Array Oper)(bG:List au)(q:Nat)(jP:sx)(listed:Array Bool):Prop where
 size:listed.size=ops.size
 un:∀k o v,(k,o,v)∈jP->k<q/\listed.getD k true=false/\bG[k]? =some o
 li:∀k,k<q->(∀o v,(k,o,v)∉jP)->listed.getD k false=true
 tl:∀j,q<=j->j<ops.size->listed.getD j true=false
 cl:∀m,m<q->listed.getD m false=true->∀i,gZ ops m i=true->listed.getD i false=true
 sorted:jP.Pairwise fun x y=>x.1<y.1
theorem yA{l:Array Bool}{i:Nat}(h:l.getD i false=true):l.getD i true=true:=by grind
theorem OK{listed:Array Bool}(hg:Good ops bG q [] listed):listed=pF ops.size q:=by
 apply Array.ext
 ·simp[pF,hg.size]
 ·intro i h1 h2
  simp only[pF,Array.getElem_map,Array.getElem_range]
  have hi:i<ops.size:=by rw[<-hg.size];exact h1
  by_cases hq:i<q
  ·have:=hg.li i hq (fun o v=>by simp)
   simp_all
  ·have:=hg.tl i (by omega) hi
   simp_all
theorem jM{j:Nat}{listed:Array Bool}(h:j∈Region.ready .any ops listed):j<ops.size/\listed.getD j true=false/\∀i,gZ ops j i=true->listed.getD i false=true:=by grind [mem_ready,Array.getElem?_eq_some_iff,lO]
theorem Gf{pre post:sx}{x:Nat×au×AV}{listed:Array Bool}(hg:Good ops bG q (pre++x::post) listed)(hr:x.1∈Region.ready .any ops listed):Good ops bG q (pre++post) (listed.setIfInBounds x.1 true):=by
 obtain⟨xk,xo,xv⟩:=x
 obtain⟨r1,r2,r3⟩:=jM hr
 have hxq:xk<q:=(hg.un xk xo xv (by simp)).1
 have hxs:xk<listed.size:=by rw[hg.size];exact r1
 have vI:∀y,y∈pre++post->y∈pre++(xk,xo,xv)::post:=fun y hy=>by grind
 have Gj:=List.pairwise_append.1 hg.sorted
 have aj2:∀y∈pre,y.1<xk:=fun y hy=>Gj.2.2 y hy (xk,xo,xv) List.mem_cons_self
 have XJ:∀y∈post,xk<y.1:=fun y hy=>(List.pairwise_cons.1 Gj.2.1).1 y hy
 have hne:∀y∈pre++post,y.1≠xk:=fun y hy=>by grind
 refine⟨by simp[hg.size],fun k o v hk=>?_,fun k hk hno=>?_,fun j h1 h2=>?_,fun m hm hl i hi=>?_,?_⟩
 ·obtain⟨u1,u2,u3⟩:=hg.un k o v (vI _ hk)
  exact⟨u1,by rw[getD_set_ne true (Ne.symm (hne _ hk))];exact u2,u3⟩
 ·by_cases hkx:xk=k
  ·simp_all
  ·rw[getD_set_ne false hkx]
   refine hg.li k hk fun o v hm=>?_
   grind
 ·rw[getD_set_ne true (by omega)];exact hg.tl j h1 h2
 ·by_cases hmx:xk=m
  ·grind [getD_set_true]
  ·rw[getD_set_ne false hmx]at hl
   exact getD_set_true (hg.cl m hm hl i hi)
 grind
theorem Tk{Q:Exit->Act->World->Prop}(G₀:Gh)(w₀:World)(f:Nat)(hc:cu P n ops ops.toList bG=true)(hq:q<=ops.size)(h1:Ns ops q=true)(h2:FZ ops q=true)(h3:Xp ops q bG=true)(h4:q<ops.size->Region.ready .any ops (pF ops.size q)=[q]):
 ∀(m:Nat)(jP:sx),jP.length=m->∀(listed:Array Bool)(E:St),Good ops bG q jP listed->xV P E jP->
  (∀G a w,Inv G n D (fin E jP) a w->aK G₀ w₀ G w->wpAny P .any ops Q f (pF ops.size q) a w)->∀(G:Gh)(a:Act)(w:World),Inv G n D E a w->aK G₀ w₀ G w->wpAny P .any ops Q (m+f) listed a w:=by
 intro m
 induction m with
 |zero=>
  intro jP hp listed E hg _ hT G a w h hpr
  have:jP=[]:=List.eq_nil_of_length_eq_zero hp
  subst this
  rw[OK hg,Nat.zero_add]
  exact hT G a w h hpr
 |succ m ih=>
  intro jP hp listed E hg hch hT G a w h hpr
  obtain⟨hlen,sf⟩:=fW _ _ hc
  rw[show m+1+f=(m+f)+1 by omega]
  refine⟨fun h0=>?_,fun i hi=>?_⟩
  ·
   cases jP with
   |nil=>simp at hp
   |cons x jP=>
    obtain⟨k,o,v⟩:=x
    obtain⟨u1,u2,u3⟩:=hg.un k o v List.mem_cons_self
    have CY:k∈Region.ready .any ops listed:=by
     have hk:k<ops.size:=by omega
     refine mem_ready.2 ⟨u2,ops[k],Array.getElem?_eq_getElem hk,fun e he hb=>?_⟩
     have hs:=List.all_eq_true.1 h1 k (List.mem_range.2 u1)
     rw[Array.getElem?_eq_getElem hk]at hs
     have:=Array.all_eq_true_iff_forall_mem.1 hs e he
     rw[hb]at this
     have hlt:e.on<k:=by simpa using this
     refine hg.li e.on (by omega) fun o' v' hm=>?_
     rcases List.mem_cons.1 hm with hm|hm
     ·grind
     ·have:=(List.pairwise_cons.1 hg.sorted).1 _ hm
      grind
    grind
  ·obtain⟨r1,r2,r3⟩:=jM hi
   have hne:∃k o v,(k,o,v)∈jP:=by
    cases jP with
    |nil=>simp at hp
    |cons x jP=>grind
   have hiq:i<q:=by
    refine Classical.byContradiction fun hge=>?_
    have hqs:q<ops.size:=by omega
    by_cases hiq':i=q
    ·subst hiq'
     have eD:∀(d k:Nat),k<i->i -k=d->listed.getD k false=true:=by
      intro d
      induction d using Nat.strongRecOn with
      |_ d ihd=>
       intro k hk hd
       have hs:((List.range i).all fun k=>(List.range (i+1)).any fun m=>decide (k<m)&&gZ ops m k)=true:=by
        unfold FZ at h2
        rw[Bool.or_eq_true]at h2
        rcases h2 with h2|h2
        ·grind
        ·exact h2
       obtain⟨m',hm1,hm2⟩:=List.any_eq_true.1 (List.all_eq_true.1 hs k (List.mem_range.2 hk))
       rw[Bool.and_eq_true,decide_eq_true_eq]at hm2
       have ah5:=List.mem_range.1 hm1
       by_cases hmi:m'=i
       ·grind
       ·exact hg.cl m' (by omega) (ihd (i -m') (by omega) m' (by omega) rfl) k hm2.2
     obtain⟨k,o,v,hk⟩:=hne
     obtain⟨u1,u2,u3⟩:=hg.un k o v hk
     grind
    ·have hnr:i∉Region.ready .any ops (pF ops.size q):=by rw[h4 hqs];simpa using hiq'
     apply hnr
     refine mem_ready.2 ⟨?_,ops[i],Array.getElem?_eq_getElem r1,fun e he hb=>?_⟩
     ·simp[pF,r1];omega
     ·have hl:=r3 e.on ((lO (Array.getElem?_eq_getElem r1)).2 ⟨e,he,hb,rfl⟩)
      have hlt:e.on<q:=by
       refine Classical.byContradiction fun hnl=>?_
       by_cases hs:e.on<ops.size
       ·have:=hg.tl e.on (by omega) hs
        grind
       ·have:listed.getD e.on false=false:=by simp[Array.getElem?_eq_none (show listed.size<=e.on by rw[hg.size];omega)]
        grind
      simp[pF,show e.on<ops.size by omega,hlt]
   have hin:∃o v,(i,o,v)∈jP:=by
    apply Classical.byContradiction
    intro hno
    have:=hg.li i hiq fun o v hm=>hno ⟨o,v,hm⟩
    have:=yA this
    rw[r2]at this
    cases this
   obtain⟨o',v,hin⟩:=hin
   obtain⟨pre,post,rfl⟩:=List.append_of_mem hin
   have Gj:=List.pairwise_append.1 hg.sorted
   have hap:∀y∈pre,ap y.2.1 o'=true:=by
    intro y hy
    obtain⟨k,o,u⟩:=y
    have hlt:k<i:=Gj.2.2 _ hy _ List.mem_cons_self
    obtain⟨u1,u2,u3⟩:=hg.un k o u (List.mem_append_left _ hy)
    obtain⟨_,_,u4⟩:=hg.un i o' v (by simp)
    have hs:=List.all_eq_true.1 (List.all_eq_true.1 h3 i (List.mem_range.2 hiq)) k (List.mem_range.2 hlt)
    rw[Bool.or_eq_true]at hs
    rcases hs with hs|hs
    ·grind
    ·grind [ac2]
   obtain⟨p1,p2,p3,p4,p5⟩:=pull pre post E hap hch
   obtain⟨_,_,u4⟩:=hg.un i o' v (by simp)
   have ho:ops.toList[i]? =some ops[i]:=by simp[r1]
   refine oq (o:=ops[i]) (by simp[r1]) (Y.run h (sf i _ _ ho u4) p3 fun G' a' w' k1 k2=>?_)
   exact ih (pre++post) (by grind) _ (step E o' v) (Gf hg hi) p4 (fun G'' a'' w'' z1 z2=>hT G'' a'' w'' (z1.eqv p5) z2) G' a' w' k1 (hpr.trans k2)
theorem Y6(hm:P.follows .mixedOrders=true):WY P n:=by
 intro D draw id ops bG q G E a w K Q hc hd h hw hn
 cases draw with
 |false=>grind [wp_region_list,Ou,aK.refl]
 |true=>
 have hd:=hd rfl
 simp only[Nr,Bool.and_eq_true,decide_eq_true_eq]at hd
 obtain⟨hq,h1,h2,h3,h4⟩:=hd
 obtain⟨hlen,sf⟩:=fW _ _ hc
 have hsz:bG.length=ops.size:=by rw[<-hlen];simp
 obtain⟨vs,e1,e2,e3⟩:=K7 q bG E 0 (by omega) hw
 have hmk:(mk 0 bG vs).length=q:=by
  have:∀(l:List au)(vs:List AV)(k:Nat),vs.length<=l.length->(mk k l vs).length=vs.length:=by
   intro l
   induction l with
   |nil=>intro vs k hl;cases vs with
    |nil=>rfl
    |cons=>simp at hl
   |cons o l ih=>intro vs k hl;cases vs with
    |nil=>rfl
    |cons v vs=>grind [mk]
  rw[this bG vs 0 (by omega),e1]
 refine wp_region_any hm ?_
 have hrq:q<ops.size->Region.ready .any ops (pF ops.size q)=[q]:=by
  intro hlt
  obtain⟨d,hd⟩:∃d,ops.size -q=d+1:=⟨ops.size -q -1,by omega⟩
  rw[hd]at h4
  simp only[qT,Bool.and_eq_true,beq_iff_eq]at h4
  exact h4.1
 have hT:∀G' a' w',Inv G' n D (fin E (mk 0 bG vs)) a' w'->aK G w G' w'->wpAny P .any ops Q (ops.size -q) (pF ops.size q) a' w':=by
  intro G' a' w' z1 z2
  have hl:(bG.drop q).length=ops.size -q:=by rw[List.length_drop];omega
  have:=xP G w hc hn (bG.drop q) q (pF ops.size q) G' _ a' w' rfl (by grind) e3 z1 z2
  rwa[hl]at this
 have jt:Good ops bG q (mk 0 bG vs) (Array.replicate ops.size false):=by
  have Mm:∀k b,k<ops.size->(Array.replicate ops.size false).getD k b=false:=fun k b hk=>by simp[hk]
  refine⟨by simp,fun k o v hk=>?_,fun k hk hno=>?_,fun j _ hj=>Mm j _ hj,fun m hm hl i hi=>?_,Ak bG vs 0⟩
  ·obtain⟨j,j1,j2,j3⟩:=Io bG vs 0 k o v hk
   have:k=j:=by omega
   subst this
   exact⟨by omega,Mm k _ (by omega),j3⟩
  ·obtain⟨o,v,hh⟩:=MB bG vs 0 k (by omega) (by omega)
   grind
  ·rw[Mm m _ (by omega)]at hl;cases hl
 have:=Tk (P:=P) (n:=n) (Q:=Q) G w (ops.size -q) hc hq h1 h2 h3 hrq q (mk 0 bG vs) hmk _ E jt e2 hT G a {w with drawn:=w.drawn+1} h.drew (aK.drew G w)
 grind
end
def jH(off:Nat):AV->AV
 |.loc cs=>.loc (match cs[off]? with|some (.sl _ sz n ds)=>setAt cs off [.sl false sz n ds]|_=>cs)
 |a=>a
def O8(o:au)(E:St):St:=match o.op with
 |.oM true x=>E.drain x
 |.store _ _ x=>E.drain x
 |.append _ _ x _=>E.drain x
 |.mW off (.t i) _=>{E with e:=(i,jH off (look E.e i))::E.e}
 |_=>E
def dz(o:au)(i:Nat)(a:AV):AV:=if gA o i=true then(match o.op with|.mW off _ _=>jH off a|_=>view a)else a
theorem EJ(off:Nat)(a:AV):bw (jH off a)=bw a:=by cases a<;>rfl
theorem HG{off:Nat}{a:AV}{c:Nat}(h:bD (jH off a) c):bD a c:=by cases a<;>first|exact h|exact h.elim
theorem Ls(off:Nat)(a:AV):view (jH off a)=jH off (view a):=by cases a<;>rfl
theorem PX(cs:List AV)(off:Nat)(x:AV)(h:off<cs.length)(j:Nat):(setAt cs off [x])[j]? =if j=off then some x else cs[j]? :=by
 unfold setAt
 grind
theorem nI(off:Nat)(cs:List AV)(j:Nat):(match cs[off]? with|some (.sl _ sz n ds)=>setAt cs off [.sl false sz n ds]|_=>cs)[j]? =if j=off then(cs[j]?).map (fun a=>match a with|.sl _ sz n ds=>.sl false sz n ds|a=>a)else cs[j]? :=by grind [List.getElem?_eq_some_iff,setAt,PX]
theorem JP(o1 o2:Nat)(a:AV):jH o1 (jH o2 a)=jH o2 (jH o1 a):=by
 cases a<;>first|rfl|skip
 rename_i cs
 show AV.loc _=AV.loc _
 congr 1
 apply List.ext_getElem?
 intro j
 rw[nI,nI,nI,nI]
 grind
def bZ(E:St)(o:au)(v:AV):St:=(b9 (O8 o E) v (qF o)).put (qF o) v
def OS(sz bytes:Nat)(v:AV):AV->AV->Prop
 |.sl true s n cs,.sl _ s' m ds=>s=sz/\(s'=sz\/m=0)/\(n+m)*bytes<=room/\v=.sl true sz (n+m) (cs++views ds)
 |.sl true s n cs,.str ds=>s=sz/\sz=1/\(n+ds.length)*bytes<=room/\v=.sl true sz (n+ds.length) (cs++ds.map fun c=>.int .u8 c.toNat)
 |_,_=>False
theorem YO{sz bytes:Nat}{E:St}{x:IX}{d:Option Nat}{K:St->Prop}{a b:AV}(h:kq sz bytes E x d K a b):∃v,OS sz bytes v a b/\K ((E.drain x).put d v):=by
 unfold kq at h
 split at h
 ·obtain⟨h1,h2,h3,h4⟩:=h;exact⟨_,⟨h1,h2,h3,rfl⟩,h4⟩
 ·obtain⟨h1,h2,h3,h4⟩:=h;exact⟨_,⟨h1,h2,h3,rfl⟩,h4⟩
 grind
theorem YN{sz bytes:Nat}{E:St}{x:IX}{d:Option Nat}{K:St->Prop}{a b v:AV}(h:OS sz bytes v a b)(hk:K ((E.drain x).put d v)):kq sz bytes E x d K a b:=by
 unfold OS at h
 split at h
 ·obtain⟨h1,h2,h3,h4⟩:=h;subst h4;exact⟨h1,h2,h3,hk⟩
 ·obtain⟨h1,h2,h3,h4⟩:=h;subst h4;exact⟨h1,h2,h3,hk⟩
 grind
theorem Hl{sz bytes:Nat}{a b v:AV}(h:OS sz bytes v a b):∃n cs,v=.sl true sz n cs:=by
 unfold OS at h
 grind
inductive Y2(P:Program)(E:St):au->AV->Prop where
 |gN (o:au) (v:AV) (h0:R8 o.op=false) (hf:bn E o.dst=true) (hv:bw v=true) (h:Y P E o v):Y2 P E o v
 |sto (n c:Nat) (x:IX) (gN:List AV) (h0:look E.e c=.loc gN) (h1:gN.length=n) (h2:dp (E.x x)=true) (h3:(bu (E.x x)).length=n):Y2 P E ⟨none,.store n (.t c) x,none⟩ (.loc (bu (E.x x)))
 |YL (d:Nat) (z:List AV) (h0:bw (look E.e d)=true) (h1:kO E.lp (some d)=true):Y2 P E ⟨some d,.jq z,none⟩ (.loc z)
 |app (d sz bytes:Nat) (x y:IX) (v:AV) (h0:bw (look E.e d)=true) (h1:OS sz bytes v (E.x x) (E.x y)):Y2 P E ⟨some d,.append sz bytes x y,none⟩ v
 |ZZ (d off i:Nat) (x:IX) (cs:List AV) (o:Bool) (s m:Nat) (ds:List AV) (h0:bw (look E.e d)=true) (h1:E.x x=.lp i off) (h2:look E.e i=.loc cs) (h3:cs[off]? =some (.sl o s m ds)) (h4:d≠i):Y2 P E ⟨some d,.mW off (.t i) x,none⟩ (.sl o s m ds)
def RK(o:au):Option Nat:=match o with
 |⟨none,.store _ (.t c) _,none⟩=>some c
 |⟨some d,.jq _,none⟩=>some d
 |_=>none
section
variable{P:Program}{G G':Gh}{n:Nat}{D:List Deferred}{E E':St}{a:Act}{w w':World}{T:List Nat}
theorem OH{o:au}(h:R8 o.op=false):qF o=o.dst:=by
 obtain⟨d,op,g⟩:=o
 cases op<;>first|(cases h;done)|(cases d<;>cases g<;>rfl)
theorem UK{o:au}(h:R8 o.op=false):O8 o E=dr o E:=by
 obtain⟨d,op,g⟩:=o
 cases op<;>first|(cases h;done)|rfl|skip
 rename_i b x
 cases b<;>rfl
theorem G8{o:au}{v:AV}(h:R8 o.op=false):bZ E o v=step E o v:=by grind [bZ,step,OH,UK]
theorem IH{o:au}{K:St->Prop}(h:q2 P o E K):∃v,Y2 P E o v/\K (bZ E o v):=by
 unfold q2 at h
 split at h
 ·rename_i m c x
  cases hl:look E.e c<;>rw[hl]at h<;>first|(exact h.elim)|skip
  rename_i gN
  obtain⟨h1,h2,h3,h4⟩:=h
  exact⟨_,.sto m c x gN hl h1 h2 h3,h4⟩
 ·rename_i d z
  exact⟨_,.YL d z h.1 h.2.1,h.2.2⟩
 ·rename_i d sz bytes x y
  obtain⟨v,h1,h2⟩:=YO h.2
  refine⟨v,.app d sz bytes x y v h.1 h1,?_⟩
  obtain⟨m,cs,rfl⟩:=Hl h1
  exact h2
 ·rename_i d off i x
  obtain⟨k0,k1,k2⟩:=h
  have k1':∃i' o',E.x x=.lp i' o'/\i'=i/\o'=off:=by
   unfold C7 at k1
   split at k1
   ·grind
   ·cases k1
  obtain⟨i',o',e1,rfl,rfl⟩:=k1'
  rw[e1]at k2
  have k2:(match look E.e i' with
   |.loc cs=>some d≠some i'/\Ep o' cs fun cs' a=>K ((E.put (some i') (.loc cs')).put (some d) a)
   |_=>False):=k2
  cases hl:look E.e i'<;>rw[hl]at k2<;>first|(exact k2.elim)|skip
  rename_i cs
  obtain⟨k3,k4⟩:=k2
  unfold Ep at k4
  split at k4
  ·rename_i o s m ds hc
   refine⟨.sl o s m ds,.ZZ d o' i' x cs o s m ds k0 e1 hl hc (fun e=>k3 (by rw[e])),?_⟩
   have e2:bZ E ⟨some d,.mW o' (.t i') x,none⟩ (.sl o s m ds)=(E.put (some i') (.loc (setAt cs o' [.sl false s m ds]))).put (some d) (.sl o s m ds):=by
    unfold bZ O8
    simp only[hl,jH,hc]
    rfl
   grind
  grind
 ·exact h.elim
 ·exact h.elim
 ·exact h.elim
 ·exact h.elim
 ·rename_i h1 h2 h3 h3' h4 h5 h6 h7
  have h0:R8 o.op=false:=by
   obtain⟨d,op,g⟩:=o
   cases op<;>first|rfl|grind|grind|grind|grind
  obtain⟨v,q1,q2,q3⟩:=MR h.2
  exact⟨v,.gN o v h0 h.1 q1 q2,by grind [G8]⟩
theorem ua(x:IX)(i:Nat):look (E.drain x).e i=if(match x with|.t j=>j==i|.c _=>false)=true then view (look E.e i)else look E.e i:=by
 cases x with
 |c a=>rfl
 |t j=>
  show look ((j,view (look E.e j))::E.e) i=_
  grind [aX]
theorem R9(o:au)(i:Nat):look (O8 o E).e i=dz o i (look E.e i):=by
 unfold dz
 obtain⟨d,op,g⟩:=o
 cases op<;>first|rfl|skip
 case oM b x=>
  cases b with
  |false=>rfl
  |true=>
   show look (E.drain x).e i=_
   rw[ua]
   cases x<;>rfl
 case store m p x=>
  show look (E.drain x).e i=_
  rw[ua]
  cases x<;>rfl
 case append sz bytes x y=>
  show look (E.drain x).e i=_
  rw[ua]
  cases x<;>rfl
 case mW off j x=>
  cases j with
  |c a=>rfl
  |t j=>
   show look ((j,jH off (look E.e j))::E.e) i=if(j==i)=true then jH off (look E.e i)else look E.e i
   grind [aX]
theorem HH(x:IX):(E.drain x).s=E.s/\(E.drain x).lp=E.lp:=by cases x<;>exact⟨rfl,rfl⟩
theorem Xw(o:au):(O8 o E).s=E.s/\(O8 o E).lp=E.lp:=by
 unfold O8
 split
 ·exact HH _
 ·exact HH _
 ·exact HH _
 ·grind
 grind
theorem dE(o:au)(v:AV)(i:Nat):look (bZ E o v).e i=if qF o=some i then v else dz o i (look E.e i):=by
 unfold bZ
 rw[<-R9]
 cases hd:qF o with
 |none=>grind [St.put,iV,O8]
 |some d=>
  show look ((d,v)::(b9 (O8 o E) v (some d)).e) i=_
  grind [aX,iV,O8]
theorem oW(o:au)(v:AV):(bZ E o v).s=E.s:=by
 unfold bZ
 have:∀(τ:St)(d:Option Nat)(x:AV),(τ.put d x).s=τ.s:=fun τ d x=>by cases d<;>rfl
 grind [iV,O8,qF,Xw]
theorem my(o:au)(v:AV)(x:Nat×Nat):x∈(bZ E o v).lp↔(x∈E.lp\/∃i,qF o=some i/\x.1=i/\bD v x.2):=by
 have h1:(bZ E o v).lp=(b9 (O8 o E) v (qF o)).lp:=by unfold bZ;cases qF o<;>rfl
 grind [Xw,DB,qF]
def wT(T:List Nat)(E:St):Prop:=∀i c,c∈T->¬bD (look E.e i) c
def Ai(T:List Nat)(o:au)(v:AV):Prop:=∀i,qF o=some i->∀c,c∈T->¬bD v c
def Vc(T:List Nat)(o:au):Prop:=∀c,RK o=some c->c∈T
theorem KM:∀{c:Nat}{a:AV},oL c a=true->¬bD a c
 |c,.lp t o,h=>fun(e:t=c)=>by
  subst e
  have h':(!Nat.beq t t)=true:=h
  simp_all
 |c,.when b a,h=>KM (a:=a) h
 |_,.undef,_|_,.bool _,_|_,.int _ _,_|_,.str _,_|_,.fj,_|_,.ref _ _,_|_,.sp _,_|_,.loc _,_|_,.sl _ _ _ _,_|_,.arr _ _ _ _,_|_,.agg _,_|_,.iP _,_|_,.fn _ _ _,_|_,.py,_|_,.mp _,_|_,.ud,_|_,.us _ _ _,_|_,.one,_|_,.m6 _,_|_,.kQ,_|_,.bb _ _ _,_=>fun h=>h
theorem GF:∀{T:List Nat}{a:AV},rq T a=true->∀c,c∈T->¬bD a c
 |c'::T,a,h,c,hc=>by
  have h':(oL c' a&&rq T a)=true:=h
  rw[Bool.and_eq_true]at h'
  rcases List.mem_cons.1 hc with rfl|hc
  ·exact KM h'.1
  ·exact GF h'.2 c hc
theorem nZ:∀{e:List (Nat×AV)},gK T e=true->∀i c,c∈T->¬bD (look e i) c
 |[],_,i,c,_=>fun h=>h
 |(j,a)::e,h,i,c,hc=>by
  have h':(rq T a&&gK T e)=true:=h
  rw[Bool.and_eq_true]at h'
  rw[aX]
  split
  ·exact GF h'.1 c hc
  ·exact nZ h'.2 i c hc
theorem Nf{v:AV}{c:Nat}(h:bD (view v) c):bD v c:=by cases v<;>first|exact h|exact h.elim
theorem QV{o:au}{i:Nat}{a:AV}{c:Nat}(h:bD (dz o i a) c):bD a c:=by grind [dz,HG,Nf]
theorem Pa(o:au)(i:Nat)(a:AV):bw (dz o i a)=bw a:=by grind [dz,EJ,KS]
theorem F3{o:au}{i:Nat}{a:AV}(h:¬gA o i=true):dz o i a=a:=if_neg h
theorem UL(x y:au)(i:Nat)(a:AV):dz x i (dz y i a)=dz y i (dz x i a):=by
 unfold dz
 by_cases h1:gA x i=true<;>by_cases h2:gA y i=true<;>simp only[h1,h2,if_true,if_false,Bool.false_eq_true]
 grind [JP,Ls]
theorem IJ(m off o:Nat)(a:AV):lr m off (jH o a)=lr m off a:=by
 cases a<;>first|rfl|skip
 rename_i cs
 have hv:views (match cs[o]? with|some (.sl _ sz n ds)=>setAt cs o [.sl false sz n ds]|_=>cs)=views cs:=by
  apply List.ext_getElem?
  intro j
  rw[eY,eY,nI]
  by_cases hj:j=o
  ·rw[if_pos hj]
   cases cs[j]? with
   |none=>rfl
   |some b=>cases b<;>rfl
  ·grind
 have hlen:(match cs[o]? with|some (.sl _ sz n ds)=>setAt cs o [.sl false sz n ds]|_=>cs).length=cs.length:=by
  have:=congrArg List.length hv
  simpa[views]using this
 show iq m off _=iq m off cs
 grind [setAt,iq,views,AB.sub,List.map_take,List.map_drop]
theorem SU(m off:Nat)(o:au)(i:Nat)(a:AV):lr m off (dz o i a)=lr m off a:=by grind [dz,IJ,D1]
theorem rI{o:au}{v:AV}(h:wT T E)(hs:Ai T o v):wT T (bZ E o v):=fun i c hc=>by
 rw[dE]
 split
 ·rename_i ht;exact hs i ht c hc
 ·exact fun hh=>h i c hc (QV hh)
theorem Aj{o:au}{v:AV}(h:wT T (bZ E o v)):Ai T o v:=fun i hi c hc=>by
 have:=h i c hc
 rw[dE,if_pos hi]at this
 exact this
theorem SV{o:au}{v:AV}(hy:Y2 P E o v)(p:AV)(m:Nat)(hp:∀c,RK o=some c->¬bD p c):rd (bZ E o v) p m=rd E p m:=by
 cases p<;>try rfl
 ·rename_i b off
  show su m off ((bZ E o v).s b)=su m off (E.s b)
  rw[oW]
 ·rename_i d off
  show lr m off (look (bZ E o v).e d)=lr m off (look E.e d)
  rw[dE]
  by_cases hd:qF o=some d
  ·rw[if_pos hd]
   cases hy with
   |gN _ _ h0 hf hv h=>
    rw[OH h0]at hd
    rw[hd]at hf
    rw[jz hv]
    exact(jz hf m off).symm
   |sto m' c x gN h0 h1 h2 h3=>
    have e:some c=some d:=hd
    injection e with e
    subst e
    exact(hp c rfl rfl).elim
   |YL d' z h0 h1=>
    have e:some d'=some d:=hd
    injection e with e
    subst e
    exact(hp d' rfl rfl).elim
   |app d' sz bytes x y _ h0 h1=>
    have e:some d'=some d:=hd
    injection e with e
    subst e
    obtain⟨k,cs,rfl⟩:=Hl h1
    rw[jz (av:=.sl true sz k cs) rfl]
    grind [jz]
   |ZZ d' aay i x cs o s m' ds h0 h1 h2 h3 h4=>
    have e:some d'=some d:=hd
    injection e with e
    subst e
    rw[jz (av:=.sl o s m' ds) rfl]
    grind [jz]
  ·rw[if_neg hd]
   exact SU ..
theorem adi{o:au}(h:YS o=true){a:AV}(ha:IX.c a∈eK o.op)(c:Nat):¬bD a c:=by
 have:=List.all_eq_true.1 h _ ha
 cases a<;>first|exact fun h=>h|grind
theorem Qe{g:Bool}:∀{a:AV}{c:Nat},bD (xT g a) c->bD a c:=by
 intro a c h
 cases a
 case when b a=>
  have h':bD (bif(b==g||b)&&inner a then a else AV.undef) c:=h
  cases hb:((b==g||b)&&inner a)<;>rw[hb]at h'
  ·exact h'.elim
  ·exact h'
 all_goals exact h
theorem TX{o:au}(hc:YS o=true)(h:wT T E){x:IX}(hx:x∈eK o.op)(g:Bool){c:Nat}(ht:c∈T):¬bD (xg g E x) c:=fun hh=>by
 have h':=Qe hh
 cases x with
 |c a=>exact adi hc hx c h'
 |t i=>exact h i c ht h'
theorem uN{o y:au}{v:AV}(hy:Y2 P E y v)(hn:gV (qF y) (cm o)=true)(hdr:A2 y o=true)(hc:YS o=true)(hN:wT T E)(hT:Vc T y):Jo o E (bZ E y v):=by
 have key:∀i,i∈cm o->look (bZ E y v).e i=look E.e i:=by
  intro i hi
  have h1:¬gA y i=true:=by
   have:=List.all_eq_true.1 hdr i hi
   simpa using this
  rw[dE,if_neg,F3 h1]
  intro hd
  rw[hd]at hn
  simp[gV]at hn
  exact hn hi
 refine⟨fun x hx=>?_,fun t want hg=>?_,(oW y v).symm,fun x hx g m=>(SV hy _ m fun c hc'=>TX hc hN hx g (hT c hc')).symm⟩
 ·cases x with
  |c a=>rfl
  |t i=>exact(key i (List.mem_append_right _ (gU hx))).symm
 ·exact(key t (List.mem_append_left _ (by rw[hg];exact List.mem_cons_self))).symm
theorem Y2.LJ{o:au}{v:AV}(hy:Y2 P E o v)(h:Jo o E E')(hf:∀i,o.dst=some i->bw (look E'.e i)=bw (look E.e i))(hl:∀i,RK o=some i->kO E.lp (some i)=true->kO E'.lp (some i)=true):Y2 P E' o v:=by
 cases hy with
 |gN _ _ h0 hs hv h1=>
  refine .gN o v h0 ?_ hv (h1.LJ h)
  cases hd:o.dst with
  |none=>rfl
  |some i=>
   rw[hd]at hs
   show bw (look E'.e i)=true
   rw[hf i hd];exact hs
 |sto m c x gN h0 h1 h2 h3=>
  have e1:look E.e c=look E'.e c:=h.xs (.t c) (by simp[eK])
  have e2:E.x x=E'.x x:=h.xs x (by simp[eK])
  rw[e2]at h2 h3⊢
  exact .sto m c x gN (by grind) h1 h2 h3
 |YL d z h0 h1=>exact .YL d z (by grind) (hl d rfl h1)
 |app d sz bytes x y _ h0 h1=>
  have e1:E.x x=E'.x x:=h.xs x (by simp[eK])
  have e2:E.x y=E'.x y:=h.xs y (by simp[eK])
  exact .app d sz bytes x y v (by grind) (by grind)
 |ZZ d off i x cs o s m ds h0 h1 h2 h3 h4=>
  have e1:E.x x=E'.x x:=h.xs x (by simp[eK])
  have e2:look E.e i=look E'.e i:=h.xs (.t i) (by simp[eK])
  exact .ZZ d off i x cs o s m ds (by grind) (by grind) (by grind) h3 h4
theorem lf.bZ(h:lf E E')(o:au)(v:AV):lf (AB.bZ E o v) (AB.bZ E' o v):=⟨fun i=>by rw[dE,dE,h.e],fun x=>by rw[my,my,h.lp],by rw[oW,oW,h.s]⟩
theorem ml{l l':List (Nat×Nat)}{i:Nat}(h:∀x∈l',x.2=i->x∈l)(hf:kO l (some i)=true):kO l' (some i)=true:=by
 refine List.all_eq_true.2 fun x hx=>?_
 cases hb:Nat.beq x.2 i with
 |false=>rfl
 |true=>
  have:=List.all_eq_true.1 hf x (h x hx (Nat.eq_of_beq_eq_true hb))
  grind
theorem Y2.eqv{o:au}{v:AV}(hy:Y2 P E o v)(h:lf E E'):Y2 P E' o v:=hy.LJ (h.LJ o) (fun i _=>by rw[h.e]) fun i _ hf=>ml (fun x hx _=>(h.lp x).2 hx) hf
theorem Eh{x y:au}{u v:AV}(hne:∀i j,qF x=some i->qF y=some j->i≠j)(hxy:∀i,qF y=some i->gA x i=false)(hyx:∀i,qF x=some i->gA y i=false):lf (bZ (bZ E x u) y v) (bZ (bZ E y v) x u):=
 ⟨fun i=>by
   rw[dE,dE,dE,dE]
   by_cases h1:qF y=some i
   ·by_cases h2:qF x=some i
    ·grind
    ·rw[if_pos h1,if_neg h2,if_pos h1,F3 (by grind)]
   ·by_cases h2:qF x=some i
    ·rw[if_neg h1,if_pos h2,if_pos h2,F3 (by grind)]
    ·rw[if_neg h1,if_neg h2,if_neg h2,if_neg h1]
     exact UL _ _ _ _,fun z=>by
   grind [my],by grind [oW]⟩
theorem PW{gN news:List AV}(h:news.length=gN.length):setAt gN 0 news=news:=by
 unfold setAt
 grind
theorem UY(d sz bytes:Nat)(x y:IX)(K:St->Prop):Lz P ⟨some d,.append sz bytes x y,none⟩ E K=kq sz bytes E x (some d) K (E.x x) (E.x y):=by grind [J8,MQ,Ua,jl]
theorem Y2.run(h:Inv G n D E a w){ops:Array Oper}{o:Oper}{o':au}{v:AV}(hc:g9 P n ops o o'=true)(hy:Y2 P E o' v){next:Act->World->Prop}{Q:Exit->Act->World->Prop}
 (hn:∀G' a' w',Inv G' n D (bZ E o' v) a' w'->aK G w G' w'->next a' w'):xI P ops o a w next Q:=by
 have gen:Lz P o' E (fun τ=>τ=bZ E o' v)->xI P ops o a w next Q:=fun hg=>gB h hc hg fun G' E' a' w' h1 h2 h3=>by grind
 cases hy with
 |gN _ _ h0 _ _ h1=>exact h1.run h hc fun G' a' w' k1 k2=>hn G' a' w' (by grind [G8]) k2
 |sto m c x gN h0 h1 h2 h3=>
  refine gen ?_
  show I3 m E (.t c) x none _ (E.x x)
  refine⟨h2,h3,?_⟩
  have e:Lw (E.drain x) (E.x (.t c)) (.t c) (bu (E.x x))=some ((E.drain x).put (some c) (.loc (bu (E.x x)))):=by
   have e1:E.x (.t c)=.loc gN:=h0
   rw[e1]
   show wrL (E.drain x) c (gb 0 (bu (E.x x)) gN)=_
   unfold gb
   rw[decide_eq_true (by omega),PW (by omega)]
   rfl
  rw[e]
  rfl
 |YL d z h0 h1=>exact gen ⟨h1,rfl⟩
 |app d sz bytes x y _ h0 h1=>
  refine gen ?_
  rw[UY]
  refine YN (d:=some d) (x:=x) h1 ?_
  obtain⟨k,cs,rfl⟩:=Hl h1
  rfl
 |ZZ d off i x cs o s m ds h0 h1 h2 h3 h4=>
  refine gen ?_
  rw[J8,PO]
  show C7 (.t i) off (E.x x)=true/\pw E (some d) _ (E.x x)
  rw[h1]
  refine⟨by simp[C7],?_⟩
  show match look E.e i with|.loc cs=>some d≠some i/\Ep off cs _|_=>False
  rw[h2]
  refine⟨fun e=>h4 (by injection e),?_⟩
  unfold Ep
  rw[h3]
  show(E.put (some i) _).put (some d) _=_
  unfold bZ O8
  simp only[h2,jH,h3]
  rfl
theorem K6{ops:Array Oper}{Q:Exit->Act->World->Prop}{K:St->Prop}(G₀:Gh)(w₀:World)
 (hn:∀G' E' a' w',Inv G' n D E' a' w'->aK G₀ w₀ G' w'->K E'->Q .normal a' w'):∀(q:Nat)(l:List Oper)(l':List au)(G:Gh)(E:St)(a:Act)(w:World),cu P n ops l l'=true->Inv G n D E a w->aK G₀ w₀ G w->D0 P T q l' E K->wpList P ops Q l a w
 |0,l,l',G,E,a,w,hc,h,hp,hk=>qD G₀ w₀ hn l l' G E a w hc h hp hk
 |_+1,[],[],G,E,a,w,_,h,hp,hk=>hn G E a w h hp hk
 |q+1,o::l,o'::l',G,E,a,w,hc,h,hp,hk=>by
  simp only[cu,Bool.and_eq_true]at hc
  obtain⟨v,hy,hk⟩:=IH hk
  show xI P ops o a w (wpList P ops Q l) Q
  exact hy.run h hc.1 fun G' a' w' h1 h2=>K6 G₀ w₀ hn q l l' G' _ a' w' hc.2 h1 (hp.trans h2) hk.2
 |_+1,[],_::_,_,_,_,_,hc,_,_,_=>by simp[cu]at hc
 |_+1,_::_,[],_,_,_,_,hc,_,_,_=>by simp[cu]at hc
def qL(P:Program)(T:List Nat):St->sx->Prop
 |_,[]=>True
 |E,(_,o,v)::r=>Y2 P E o v/\Ai T o v/\Vc T o/\qL P T (bZ E o v) r
def JZ:St->sx->St
 |E,[]=>E
 |E,(_,o,v)::r=>JZ (bZ E o v) r
theorem qL.eqv:∀{p:sx}{E E':St},lf E E'->qL P T E p->qL P T E' p
 |[],_,_,_,_=>trivial
 |(_,o,v)::r,_,_,h,⟨h1,h2,h3,h4⟩=>⟨h1.eqv h,h2,h3,qL.eqv (h.bZ o v) h4⟩
theorem J0:∀(p:sx){E E':St},lf E E'->lf (JZ E p) (JZ E' p)
 |[],_,_,h=>h
 |(_,o,v)::r,_,_,h=>J0 r (h.bZ o v)
theorem sO{o:au}{i:Nat}(h:gA o i=true):i∈cm o:=by
 unfold gA at h
 split at h
 ·rename_i j hop
  have:j=i:=by simpa using h
  subst this
  refine List.mem_append_right _ ?_
  rw[hop];exact List.mem_cons_self
 ·rename_i m p j hop
  have:j=i:=by simpa using h
  subst this
  refine List.mem_append_right _ ?_
  rw[hop]
  cases p with
  |t k=>exact List.mem_cons_of_mem _ List.mem_cons_self
  |c k=>exact List.mem_cons_self
 ·rename_i sz bytes j y hop
  have:j=i:=by simpa using h
  subst this
  refine List.mem_append_right _ ?_
  rw[hop];exact List.mem_cons_self
 ·rename_i off j x hop
  have:j=i:=by simpa using h
  subst this
  refine List.mem_append_right _ ?_
  rw[hop];exact List.mem_cons_self
 ·cases h
theorem Jt{x y:au}(h:W7 x y=true):gV (qF x) (cm y)=true/\gV (qF y) (cm x)=true/\(∀i j,qF x=some i->qF y=some j->i≠j)/\A2 x y=true/\A2 y x=true/\(∀i,qF y=some i->gA x i=false)/\(∀i,qF x=some i->gA y i=false)/\YS x=true/\YS y=true:=by
 unfold W7 at h
 simp only[Bool.and_eq_true]at h
 grind [gV,gA,absurd,sO]
theorem uW{o:au}{i:Nat}(h:o.dst=some i):qF o=some i:=by
 obtain⟨d,op,g⟩:=o
 have h':d=some i:=h
 subst h'
 cases op<;>rfl
theorem kR{y:au}{v:AV}{i:Nat}(h:qF y≠some i):bw (look (bZ E y v).e i)=bw (look E.e i):=by
 rw[dE,if_neg h]
 exact Pa _ _ _
theorem Yd{x:Nat×au×AV}:∀(pre:sx)(post:sx)(E:St),wT T E->(∀y∈pre,W7 y.2.1 x.2.1=true)->qL P T E (pre++x::post)->
 Y2 P E x.2.1 x.2.2/\Ai T x.2.1 x.2.2/\Vc T x.2.1/\qL P T (bZ E x.2.1 x.2.2) (pre++post)/\lf (JZ (bZ E x.2.1 x.2.2) (pre++post)) (JZ E (pre++x::post))
 |[],post,E,_,_,h=>⟨h.1,h.2.1,h.2.2.1,h.2.2.2,lf.refl _⟩
 |(k,o,v)::pre,post,E,hN,hap,h=>by
  obtain⟨h1,h2,h3,h4⟩:=h
  obtain⟨i1,i2,i3,i4,i5⟩:=Yd pre post (bZ E o v) (rI hN h2) (fun y hy=>hap y (List.mem_cons_of_mem _ hy)) h4
  obtain⟨a1,a2,a3,a4,a5,a6,a7,c1,c2⟩:=Jt (hap (k,o,v) List.mem_cons_self)
  have hx:Y2 P E x.2.1 x.2.2:=i1.LJ (uN h1 a1 a4 c2 hN h3).symm
   (fun i hi=>(kR fun e=>a3 i i e (uW hi) rfl).symm)
   (fun i hi hf=>ml (fun z hz _=>(my o v z).2 (.inl hz)) hf)
  have ho:Y2 P (bZ E x.2.1 x.2.2) o v:=h1.LJ (uN hx a2 a5 c1 hN i3)
   (fun i hi=>kR fun e=>a3 i i (uW hi) e rfl)
   (fun i hi hf=>ml (fun z hz hzi=>by
     rcases(my _ _ z).1 hz with hz|⟨j,j1,_,j3⟩
     ·exact hz
     ·rw[hzi]at j3;exact(i2 j j1 i (h3 i hi) j3).elim) hf)
  have Gg:lf (bZ (bZ E o v) x.2.1 x.2.2) (bZ (bZ E x.2.1 x.2.2) o v):=Eh a3 a6 a7
  refine⟨hx,i2,i3,⟨ho,h2,h3,i4.eqv Gg⟩,?_⟩
  exact(J0 (pre++post) Gg.symm).trans i5
end
section
variable{P:Program}{G G':Gh}{n:Nat}{D:List Deferred}{E E':St}{a:Act}{w w':World}{ops:Array Oper}{bG:List au}{q:Nat}{T:List Nat}
theorem OZ{l:List au}{o:au}(h:QC T bG q=true)(hl:l=bG.take q)(ho:o∈l):Vc T o:=fun c hc=>by
 subst hl
 have:=List.all_eq_true.1 h o ho
 grind [RK]
theorem GR{K:St->Prop}:∀(q:Nat)(l:List au)(E:St)(k:Nat),q<=l.length->(∀o∈l.take q,Vc T o)->D0 P T q l E K->∃vs:List AV,vs.length=q/\qL P T E (mk k l vs)/\Lo P (l.drop q) (JZ E (mk k l vs)) K
 |0,l,E,k,_,_,h=>⟨[],rfl,by cases l<;>trivial,by cases l<;>exact h⟩
 |q+1,[],_,_,hl,_,_=>by simp at hl
 |q+1,o::l,E,k,hl,hT,h=>by
  obtain⟨v,hy,hno,hk⟩:=IH (show q2 P o E (fun τ=>gK T τ.e=true/\D0 P T q l τ K) from h)
  obtain⟨vs,h2,h3,h4⟩:=GR q l (bZ E o v) (k+1) (by grind) (fun o' ho'=>hT o' (by grind)) hk
  exact⟨v::vs,by simp[h2],⟨hy,Aj fun i c hc=>nZ hno i c hc,hT o (by grind),h3⟩,h4⟩
theorem PU{Q:Exit->Act->World->Prop}(G₀:Gh)(w₀:World)(f:Nat)(hc:cu P n ops ops.toList bG=true)(hq:q<=ops.size)(h1:Ns ops q=true)(h2:FZ ops q=true)(h3:QD ops q bG=true)(h4:q<ops.size->Region.ready .any ops (pF ops.size q)=[q]):
 ∀(m:Nat)(jP:sx),jP.length=m->∀(listed:Array Bool)(E:St),Good ops bG q jP listed->wT T E->qL P T E jP->
  (∀G a w,Inv G n D (JZ E jP) a w->aK G₀ w₀ G w->wpAny P .any ops Q f (pF ops.size q) a w)->∀(G:Gh)(a:Act)(w:World),Inv G n D E a w->aK G₀ w₀ G w->wpAny P .any ops Q (m+f) listed a w:=by
 intro m
 induction m with
 |zero=>
  intro jP hp listed E hg _ _ hT G a w h hpr
  have:jP=[]:=List.eq_nil_of_length_eq_zero hp
  subst this
  rw[OK hg,Nat.zero_add]
  exact hT G a w h hpr
 |succ m ih=>
  intro jP hp listed E hg hNo hch hT G a w h hpr
  obtain⟨hlen,sf⟩:=fW _ _ hc
  rw[show m+1+f=(m+f)+1 by omega]
  refine⟨fun h0=>?_,fun i hi=>?_⟩
  ·
   cases jP with
   |nil=>simp at hp
   |cons x jP=>
    obtain⟨k,o,v⟩:=x
    obtain⟨u1,u2,u3⟩:=hg.un k o v List.mem_cons_self
    have CY:k∈Region.ready .any ops listed:=by
     have hk:k<ops.size:=by omega
     refine mem_ready.2 ⟨u2,ops[k],Array.getElem?_eq_getElem hk,fun e he hb=>?_⟩
     have hs:=List.all_eq_true.1 h1 k (List.mem_range.2 u1)
     rw[Array.getElem?_eq_getElem hk]at hs
     have:=Array.all_eq_true_iff_forall_mem.1 hs e he
     rw[hb]at this
     have hlt:e.on<k:=by simpa using this
     refine hg.li e.on (by omega) fun o' v' hm=>?_
     rcases List.mem_cons.1 hm with hm|hm
     ·grind
     ·have:=(List.pairwise_cons.1 hg.sorted).1 _ hm
      grind
    grind
  ·obtain⟨r1,r2,r3⟩:=jM hi
   have hne:∃k o v,(k,o,v)∈jP:=by
    cases jP with
    |nil=>simp at hp
    |cons x jP=>grind
   have hiq:i<q:=by
    refine Classical.byContradiction fun hge=>?_
    have hqs:q<ops.size:=by omega
    by_cases hiq':i=q
    ·subst hiq'
     have eD:∀(d k:Nat),k<i->i -k=d->listed.getD k false=true:=by
      intro d
      induction d using Nat.strongRecOn with
      |_ d ihd=>
       intro k hk hd
       have hs:((List.range i).all fun k=>(List.range (i+1)).any fun m=>decide (k<m)&&gZ ops m k)=true:=by
        unfold FZ at h2
        rw[Bool.or_eq_true]at h2
        rcases h2 with h2|h2
        ·grind
        ·exact h2
       obtain⟨m',hm1,hm2⟩:=List.any_eq_true.1 (List.all_eq_true.1 hs k (List.mem_range.2 hk))
       rw[Bool.and_eq_true,decide_eq_true_eq]at hm2
       have ah5:=List.mem_range.1 hm1
       by_cases hmi:m'=i
       ·grind
       ·exact hg.cl m' (by omega) (ihd (i -m') (by omega) m' (by omega) rfl) k hm2.2
     obtain⟨k,o,v,hk⟩:=hne
     obtain⟨u1,u2,u3⟩:=hg.un k o v hk
     grind
    ·have hnr:i∉Region.ready .any ops (pF ops.size q):=by rw[h4 hqs];simpa using hiq'
     apply hnr
     refine mem_ready.2 ⟨?_,ops[i],Array.getElem?_eq_getElem r1,fun e he hb=>?_⟩
     ·simp[pF,r1];omega
     ·have hl:=r3 e.on ((lO (Array.getElem?_eq_getElem r1)).2 ⟨e,he,hb,rfl⟩)
      have hlt:e.on<q:=by
       refine Classical.byContradiction fun hnl=>?_
       by_cases hs:e.on<ops.size
       ·have:=hg.tl e.on (by omega) hs
        grind
       ·have:listed.getD e.on false=false:=by simp[Array.getElem?_eq_none (show listed.size<=e.on by rw[hg.size];omega)]
        grind
      simp[pF,show e.on<ops.size by omega,hlt]
   have hin:∃o v,(i,o,v)∈jP:=by
    apply Classical.byContradiction
    intro hno
    have:=hg.li i hiq fun o v hm=>hno ⟨o,v,hm⟩
    have:=yA this
    rw[r2]at this
    cases this
   obtain⟨o',v,hin⟩:=hin
   obtain⟨pre,post,rfl⟩:=List.append_of_mem hin
   have Gj:=List.pairwise_append.1 hg.sorted
   have hap:∀y∈pre,W7 y.2.1 o'=true:=by
    intro y hy
    obtain⟨k,o,u⟩:=y
    have hlt:k<i:=Gj.2.2 _ hy _ List.mem_cons_self
    obtain⟨u1,u2,u3⟩:=hg.un k o u (List.mem_append_left _ hy)
    obtain⟨_,_,u4⟩:=hg.un i o' v (by simp)
    have hs:=List.all_eq_true.1 (List.all_eq_true.1 h3 i (List.mem_range.2 hiq)) k (List.mem_range.2 hlt)
    rw[Bool.or_eq_true]at hs
    rcases hs with hs|hs
    ·grind
    ·grind [W8]
   obtain⟨p1,p2,p3,p4,p5⟩:=Yd pre post E hNo hap hch
   obtain⟨_,_,u4⟩:=hg.un i o' v (by simp)
   have ho:ops.toList[i]? =some ops[i]:=by simp[r1]
   refine oq (o:=ops[i]) (by simp[r1]) (Y2.run h (sf i _ _ ho u4) p1 fun G' a' w' k1 k2=>?_)
   exact ih (pre++post) (by grind) _ (bZ E o' v) (Gf hg hi) (rI hNo p2) p4 (fun G'' a'' w'' z1 z2=>hT G'' a'' w'' (z1.eqv p5) z2) G' a' w' k1 (hpr.trans k2)
theorem Y7(hm:P.follows .mixedOrders=true):WZ P n:=by
 intro D draw id ops bG T q G E a w K Q hc hd h hno hw hn
 cases draw with
 |false=>grind [wp_region_list,K6,aK.refl]
 |true=>
 have hd:=hd rfl
 simp only[Hv,Bool.and_eq_true,decide_eq_true_eq]at hd
 obtain⟨hq,h1,h2,h3,hl0,h4⟩:=hd
 obtain⟨hlen,sf⟩:=fW _ _ hc
 have hsz:bG.length=ops.size:=by rw[<-hlen];simp
 obtain⟨vs,e1,e2,e3⟩:=GR q bG E 0 (by omega) (fun o ho=>OZ hl0 rfl ho) hw
 have hmk:(mk 0 bG vs).length=q:=by
  have:∀(l:List au)(vs:List AV)(k:Nat),vs.length<=l.length->(mk k l vs).length=vs.length:=by
   intro l
   induction l with
   |nil=>intro vs k hl;cases vs with
    |nil=>rfl
    |cons=>simp at hl
   |cons o l ih=>intro vs k hl;cases vs with
    |nil=>rfl
    |cons v vs=>grind [mk]
  rw[this bG vs 0 (by omega),e1]
 refine wp_region_any hm ?_
 have hrq:q<ops.size->Region.ready .any ops (pF ops.size q)=[q]:=by
  intro hlt
  obtain⟨d,hd⟩:∃d,ops.size -q=d+1:=⟨ops.size -q -1,by omega⟩
  rw[hd]at h4
  simp only[qT,Bool.and_eq_true,beq_iff_eq]at h4
  exact h4.1
 have hT:∀G' a' w',Inv G' n D (JZ E (mk 0 bG vs)) a' w'->aK G w G' w'->wpAny P .any ops Q (ops.size -q) (pF ops.size q) a' w':=by
  intro G' a' w' z1 z2
  have hl:(bG.drop q).length=ops.size -q:=by rw[List.length_drop];omega
  have:=xP G w hc hn (bG.drop q) q (pF ops.size q) G' _ a' w' rfl (by grind) e3 z1 z2
  rwa[hl]at this
 have jt:Good ops bG q (mk 0 bG vs) (Array.replicate ops.size false):=by
  have Mm:∀k b,k<ops.size->(Array.replicate ops.size false).getD k b=false:=fun k b hk=>by simp[hk]
  refine⟨by simp,fun k o v hk=>?_,fun k hk hno=>?_,fun j _ hj=>Mm j _ hj,fun m hm hl i hi=>?_,Ak bG vs 0⟩
  ·obtain⟨j,j1,j2,j3⟩:=Io bG vs 0 k o v hk
   have:k=j:=by omega
   subst this
   exact⟨by omega,Mm k _ (by omega),j3⟩
  ·obtain⟨o,v,hh⟩:=MB bG vs 0 k (by omega) (by omega)
   grind
  ·rw[Mm m _ (by omega)]at hl;cases hl
 have:=PU (T:=T) (P:=P) (n:=n) (Q:=Q) G w (ops.size -q) hc hq h1 h2 h3 hrq q (mk 0 bG vs) hmk _ E jt (fun i c hc=>nZ hno i c hc) e2 hT G a {w with drawn:=w.drawn+1} h.drew (aK.drew G w)
 grind
end
end Go.AB
end
