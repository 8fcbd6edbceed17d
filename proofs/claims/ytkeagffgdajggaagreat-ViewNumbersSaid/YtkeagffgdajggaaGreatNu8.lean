/- A part of the proof: Ab17, Ab18, Ab19, Ab20. -/
import Derived.Test.YtkeagffgdajggaaGreatNu7
import Derived.LoopN
import Derived.ScopeJumps
set_option linter.unusedSimpArgs false
set_option linter.unusedVariables false
section
namespace Go.AB
open Go
section
variable{P:Program}{G G':Gh}{n:Nat}{D:List Deferred}{E:St}{a:Act}{w w':World}
theorem sg{ops:Array Oper}{Q:Exit->Act->World->Prop}{K:St->Prop}(G₀:Gh)(w₀:World)
 (hn:∀G' E' a' w',Inv G' n D E' a' w'->ax G₀ w₀ G' w'->K E'->Q .normal a' w'):∀(l:List Oper)(l':List ah)(G:Gh)(E:St)(a:Act)(w:World),cc P n ops l l'=true->Inv G n D E a w->ax G₀ w₀ G w->swp P l' E K->wpList P ops Q l a w
 |[],[],G,E,a,w,_,h,hp,hk=>hn G E a w h hp hk
 |o::l,o'::l',G,E,a,w,hc,h,hp,hk=>by
  simp only[cc,Bool.and_eq_true]at hc
  show A9 P ops o a w (wpList P ops Q l) Q
  exact gG h hc.1 hk fun G' E' a' w' h1 h2 h3=>sg G₀ w₀ hn l l' G' E' a' w' hc.2 h1 (hp.trans h2) h3
 |[],_::_,_,_,_,_,hc,_,_,_=>by simp[cc]at hc
 |_::_,[],_,_,_,_,hc,_,_,_=>by simp[cc]at hc
theorem KX(e:List (Nat×AV))(i:Nat):∀(live:List Nat),look (live.map fun j=>(j,dQ (look e j))) i=if i∈live then dQ (look e i)else .undef
 |[]=>rfl
 |j::live=>by
  rw[List.map_cons,aM,KX e i live]
  by_cases h:j=i
  ·subst h;simp
  ·simp[h,Ne.symm h]
theorem BL(av:AV)(t:Nat):¬bB (dQ av) t:=by cases av<;>simp[dQ,bB]
theorem Inv.zm(h:Inv G n D E a w)(live:List Nat):Inv G n D (E.zm live) a w:=by
 have hl:∀i,look (E.zm live).e i=if i∈live then dQ (look E.e i)else .undef:=fun i=>KX E.e i live
 have hu:∀i v,dg G w (E.zm live).e a.tmps i .undef v:=fun i v=>⟨.undef _,trivial⟩
 refine⟨h.aS,h.store,h.size,fun i v hv=>?_,fun i hi=>?_,fun i t ht=>?_,h.ue⟩
 ·rw[hl i]
  by_cases hi:i∈live
  ·rw[if_pos hi]
   have hs:=h.ch i v hv
   generalize look E.e i=av at hs
   have fr:∀av,(∀t,¬bB av t)->dg G w E.e a.tmps i av v->dg G w (E.zm live).e a.tmps i av v:=fun av hno hs=>dg.frame (fun _ _ hv=>hv) (fun b _=>⟨rfl,rfl,rfl⟩) (fun _ _ _ _ hc=>⟨hc,rfl,rfl⟩) _ _ (fun t ht=>(hno t ht).elim) hs
   cases av<;>first|exact hu i v|exact fr _ (fun t ht=>ht) hs
  ·rw[if_neg hi];exact hu i v
 ·rw[hl i]
  by_cases hi':i∈live
  ·rw[if_pos hi',h.IT i hi];rfl
  ·rw[if_neg hi']
 ·rw[hl i]at ht
  by_cases hi:i∈live
  ·rw[if_pos hi]at ht;exact(BL _ t ht).elim
  ·rw[if_neg hi]at ht;exact ht.elim
theorem GZ(e:List (Nat×AV))(i:Nat):∀(live:List (Nat×Bool)),look (live.map fun p=>(p.1,Ys p.2 (dQ (look e p.1)))) i=.undef\/look (live.map fun p=>(p.1,Ys p.2 (dQ (look e p.1)))) i=dQ (look e i)\/look (live.map fun p=>(p.1,Ys p.2 (dQ (look e p.1)))) i=view (dQ (look e i))
 |[]=>.inl rfl
 |p::live=>by
  rw[List.map_cons,aM]
  by_cases h:p.1=i
  ·rw[if_pos h,h]
   cases p.2 with
   |false=>exact .inr (.inl rfl)
   |true=>exact .inr (.inr rfl)
  ·rw[if_neg h];exact GZ e i live
theorem dg.ai5{e:List (Nat×AV)}{tmps:Array Value}{i:Nat}{av:AV}{v:Value}(h:dg G w e tmps i av v):dg G w e tmps i (view av) v:=by cases av<;>first|exact h|exact⟨VR.undef _,trivial⟩|exact⟨VR.view h.1,dm.view ..⟩
theorem aaK(av:AV)(h:∀t,¬bB av t)(t:Nat):¬bB (view av) t:=by cases av<;>first|exact h t|exact fun h=>h
theorem Inv.ep(h:Inv G n D E a w)(live:List (Nat×Bool)):Inv G n D (E.ep live) a w:=by
 have fr:∀i v,a.tmps[i]? =some v->dg G w (E.ep live).e a.tmps i (dQ (look E.e i)) v:=fun i v hv=>by
  have hs:=h.ch i v hv
  generalize look E.e i=av at hs
  have fr:∀av,(∀t,¬bB av t)->dg G w E.e a.tmps i av v->dg G w (E.ep live).e a.tmps i av v:=fun av hno hs=>dg.frame (fun _ _ hv=>hv) (fun b _=>⟨rfl,rfl,rfl⟩) (fun _ _ _ _ hc=>⟨hc,rfl,rfl⟩) _ _ (fun t ht=>(hno t ht).elim) hs
  cases av<;>first|exact⟨.undef _,trivial⟩|exact fr _ (fun t ht=>ht) hs
 have hl:=fun i=>GZ E.e i live
 refine⟨h.aS,h.store,h.size,fun i v hv=>?_,fun i hi=>?_,fun i t ht=>?_,h.ue⟩
 ·rcases hl i with e|e|e
  ·have e':look (E.ep live).e i=.undef:=e
   rw[e'];exact⟨.undef _,trivial⟩
  ·have e':look (E.ep live).e i=dQ (look E.e i):=e
   rw[e'];exact fr i v hv
  ·have e':look (E.ep live).e i=view (dQ (look E.e i)):=e
   rw[e'];exact dg.ai5 (fr i v hv)
 ·rcases hl i with e|e|e
  ·exact e
  ·have e':look (E.ep live).e i=dQ (look E.e i):=e
   rw[e',h.IT i hi];rfl
  ·have e':look (E.ep live).e i=view (dQ (look E.e i)):=e
   rw[e',h.IT i hi];rfl
 ·have ht':bB (look (E.ep live).e i) t:=ht
  rcases hl i with e|e|e
  ·have e':look (E.ep live).e i=.undef:=e
   rw[e']at ht';exact ht'.elim
  ·have e':look (E.ep live).e i=dQ (look E.e i):=e
   rw[e']at ht';exact(BL _ t ht').elim
  ·have e':look (E.ep live).e i=view (dQ (look E.e i)):=e
   rw[e']at ht';exact(aaK _ (BL _) t ht').elim
def aaS(P:Program)(n:Nat):Prop:=
 ∀(D:List Deferred)(draw:Bool)(id:Nat)(ops:Array Oper)(bC:List ah)(q:Nat)(G:Gh)(E:St)(a:Act)(w:World)(K:St->Prop)(Q:Exit->Act->World->Prop),
  cc P n ops ops.toList bC=true->(draw=true->Sw ops q bC=true)->Inv G n D E a w->YK P q bC E K->
  (∀G' E' a' w',Inv G' n D E' a' w'->ax G w G' w'->K E'->Q .normal a' w')->(Code.region id ops draw).wp P Q a w
def aaT(P:Program)(n:Nat):Prop:=
 ∀(D:List Deferred)(draw:Bool)(id:Nat)(ops:Array Oper)(bC:List ah)(T:List Nat)(q:Nat)(G:Gh)(E:St)(a:Act)(w:World)(K:St->Prop)(Q:Exit->Act->World->Prop),
  cc P n ops ops.toList bC=true->(draw=true->LH T ops q bC=true)->Inv G n D E a w->gI T E.e=true->Ht P T q bC E K->
  (∀G' E' a' w',Inv G' n D E' a' w'->ax G w G' w'->K E'->Q .normal a' w')->(Code.region id ops draw).wp P Q a w
def aaR(P:Program)(n:Nat):Prop:=
 ∀(D:List Deferred)(id:Nat)(ops:Array Oper)(T:List Nat)(l:List Item)(G:Gh)(E:St)(a:Act)(w:World)(K:St->Prop)(Q:Exit->Act->World->Prop),
  acw P T n ops l=true->Inv G n D E a w->gI T E.e=true->Kj P T l E K->
  (∀G' E' a' w',Inv G' n D E' a' w'->ax G w G' w'->K E'->Q .normal a' w')->(Code.region id ops true).wp P Q a w
def aaU(P:Program)(n:Nat):Prop:=
 ∀(D:List Deferred)(id:Nat)(ops:Array Oper)(gl:List (List Bool))(bC:List ah)(G:Gh)(E:St)(a:Act)(w:World)(K:St->Prop)(Q:Exit->Act->World->Prop),
  cc P n ops ops.toList bC=true->Sy ops gl=true->Inv G n D E a w->U1 P gl bC K bC (wM bC) E->
  (∀G' E' a' w',Inv G' n D E' a' w'->ax G w G' w'->K E'->Q .normal a' w')->(Code.region id ops true).wp P Q a w
def E9(P:Program)(n:Nat):Prop:=aaS P n/\aaT P n/\aaR P n/\aaU P n
def Rel(n:Nat)(D:List Deferred)(G₀:Gh)(w₀:World)(Q:Exit->St->Prop)(Q':Exit->Act->World->Prop):Prop:=∀x G' E' a' w',Inv G' n D E' a' w'->ax G₀ w₀ G' w'->Q x E'->Q' x a' w'
theorem US:∀(c:Code){L:List Code}{cr:Code}{l:Nat},CM c l=some (L,cr)->c=L.foldr Code.seq (.seq (.label l) cr)/\findLabel c l=some (Code.skip.seq cr):=by
 intro c
 induction c with
 |seq s c _ ih=>
  intro L cr l h
  have gen:(∀m,s≠.label m)->(if(findLabel s l).isNone then(CM c l).map fun p=>(s::p.1,p.2)else none)=some (L,cr)->Code.seq s c=L.foldr Code.seq (.seq (.label l) cr)/\findLabel (Code.seq s c) l=some (Code.skip.seq cr):=by
   intro _ h
   split at h
   ·rename_i hn
    cases hs:CM c l with
    |none=>rw[hs]at h;cases h
    |some p=>
     obtain⟨L1,r1⟩:=p
     rw[hs]at h
     injection h with h;injection h with h1 h2;subst h1;subst h2
     have hn':findLabel s l=none:=Option.isNone_iff_eq_none.1 hn
     obtain⟨q1,q2⟩:=ih hs
     refine⟨by rw[q1];rfl,?_⟩
     unfold findLabel
     rw[hn']
     exact q2
   ·cases h
  cases s with
  |label m=>
   have h:(if m==l then some (([]:List Code),c)else none)=some (L,cr):=h
   split at h
   ·rename_i hm
    injection h with h;injection h with h1 h2;subst h1;subst h2
    have hm':m=l:=by simpa using hm
    subst hm'
    exact⟨rfl,by simp[findLabel]⟩
   ·cases h
  |_=>exact gen (fun m e=>by cases e) h
 |_=>intro L cr l h;cases h
theorem oS{a:IC}(h:y9 a=true):a=.skip:=by cases a<;>first|rfl|cases h
def qB(n:Nat)(D:List Deferred)(G₀:Gh)(w₀:World)(C:(St->Prop)->(St->Nat)->Prop)(a:Act)(w:World)(k:Nat):Prop:=∃I μ G U,C I μ/\Inv G n D U a w/\ax G₀ w₀ G w/\I U/\μ U<=k
noncomputable def Rr(n:Nat)(D:List Deferred)(G₀:Gh)(w₀:World)(C:(St->Prop)->(St->Nat)->Prop)(a:Act)(w:World):Nat:=Classical.epsilon fun k=>qB n D G₀ w₀ C a w k/\∀j,qB n D G₀ w₀ C a w j->k<=j
theorem Dp{n:Nat}{D:List Deferred}{G₀:Gh}{w₀:World}{C:(St->Prop)->(St->Nat)->Prop}{a:Act}{w:World}(h:∃k,qB n D G₀ w₀ C a w k):
 qB n D G₀ w₀ C a w (Rr n D G₀ w₀ C a w)/\∀j,qB n D G₀ w₀ C a w j->Rr n D G₀ w₀ C a w<=j:=by
 refine Classical.epsilon_spec (p:=fun k=>qB n D G₀ w₀ C a w k/\∀j,qB n D G₀ w₀ C a w j->k<=j) ?_
 obtain⟨k,hk⟩:=h
 induction k using Nat.strongRecOn with
 |_ k ih=>
  by_cases hj:∃j,j<k/\qB n D G₀ w₀ C a w j
  ·obtain⟨j,hj,hj'⟩:=hj
   exact ih j hj hj'
  ·exact⟨k,hk,fun j hj'=>by
    rcases Nat.lt_or_ge j k with hlt|hge
    ·exact absurd ⟨j,hlt,hj'⟩ hj
    ·exact hge⟩
theorem c9(hD:E9 P n):∀(ic:IC)(c:Code)(G₀:Gh)(w₀:World)(Q:Exit->St->Prop)(Q':Exit->Act->World->Prop)(G:Gh)(E:St)(a:Act)(w:World),
 mb P n c ic=true->Rel n D G₀ w₀ Q Q'->Inv G n D E a w->ax G₀ w₀ G w->gO P ic Q E->c.wp P Q' a w
 |.skip,c,G₀,w₀,Q,Q',G,E,a,w,hc,hr,h,hp,hw=>by
  cases c<;>first|(simp[mb]at hc;done)|skip
  exact wp_skip (hr _ G E a w h hp hw)
 |.bN q bC live,c,G₀,w₀,Q,Q',G,E,a,w,hc,hr,h,hp,hw=>by
  cases c<;>first|(simp[mb]at hc;done)|skip
  rename_i id ops draw
  simp only[mb,Bool.and_eq_true]at hc
  have hn:∀G' E' a' w',Inv G' n D E' a' w'->ax G₀ w₀ G' w'->wo live Q E'->Q' .normal a' w':=fun G' E' a' w' h1 h2 h3=>hr _ G' _ a' w' (h1.zm live) h2 h3
  cases q with
  |none=>
   have hdr:draw=false:=by simpa using hc.2
   subst hdr
   exact wp_region_list (sg G₀ w₀ hn ops.toList bC G E a w hc.1 h hp hw)
  |some q=>
   have hdr:draw=true->Sw ops q bC=true:=fun hd=>by
    have:=hc.2
    rw[hd]at this
    simpa using this
   exact hD.1 D draw id ops bC q G E a w _ Q' hc.1 hdr h hw fun G' E' a' w' h1 h2 h3=>hn G' E' a' w' h1 (hp.trans h2) h3
 |.wq T q bC live,c,G₀,w₀,Q,Q',G,E,a,w,hc,hr,h,hp,hw=>by
  cases c<;>first|(simp[mb]at hc;done)|skip
  rename_i id ops draw
  simp only[mb,Bool.and_eq_true]at hc
  have hn:∀G' E' a' w',Inv G' n D E' a' w'->ax G₀ w₀ G' w'->wo live Q E'->Q' .normal a' w':=fun G' E' a' w' h1 h2 h3=>hr _ G' _ a' w' (h1.zm live) h2 h3
  have hdr:draw=true->LH T ops q bC=true:=fun hd=>by
   have:=hc.2
   rw[hd]at this
   simpa using this
  exact hD.2.1 D draw id ops bC T q G E a w _ Q' hc.1 hdr h hw.1 hw.2 fun G' E' a' w' h1 h2 h3=>hn G' E' a' w' h1 (hp.trans h2) h3
 |.HM T l live,c,G₀,w₀,Q,Q',G,E,a,w,hc,hr,h,hp,hw=>by
  cases c<;>first|(simp[mb]at hc;done)|skip
  rename_i id ops draw
  simp only[mb,Bool.and_eq_true]at hc
  obtain⟨rfl,hc⟩:=hc
  have hn:∀G' E' a' w',Inv G' n D E' a' w'->ax G₀ w₀ G' w'->wo live Q E'->Q' .normal a' w':=fun G' E' a' w' h1 h2 h3=>hr _ G' _ a' w' (h1.zm live) h2 h3
  exact hD.2.2.1 D id ops T l G E a w _ Q' hc h hw.1 hw.2 fun G' E' a' w' h1 h2 h3=>hn G' E' a' w' h1 (hp.trans h2) h3
 |.UH gl bC live,c,G₀,w₀,Q,Q',G,E,a,w,hc,hr,h,hp,hw=>by
  cases c<;>first|(simp[mb]at hc;done)|skip
  rename_i id ops draw
  simp only[mb,Bool.and_eq_true]at hc
  obtain⟨rfl,hc1,hc2⟩:=hc
  have hn:∀G' E' a' w',Inv G' n D E' a' w'->ax G₀ w₀ G' w'->wo live Q E'->Q' .normal a' w':=fun G' E' a' w' h1 h2 h3=>hr _ G' _ a' w' (h1.zm live) h2 h3
  exact hD.2.2.2 D id ops gl bC G E a w _ Q' hc1 hc2 h hw fun G' E' a' w' h1 h2 h3=>hn G' E' a' w' h1 (hp.trans h2) h3
 |.seq x y,c,G₀,w₀,Q,Q',G,E,a,w,hc,hr,h,hp,hw=>by
  cases c<;>first|(simp[mb]at hc;done)|skip
  rename_i c1 c2
  simp only[mb,Bool.and_eq_true]at hc
  refine wp_seq (c9 hD x c1 G₀ w₀ (Ek P y Q) _ G E a w hc.1 ?_ h hp ?_)
  ·intro e G' E' a' w' h1 h2 h3
   cases e with
   |normal=>exact c9 hD y c2 G₀ w₀ Q Q' G' E' a' w' hc.2 hr h1 h2 h3
   |_=>exact hr _ G' E' a' w' h1 h2 h3
  ·have:(fun x U=>match x with|.normal=>gO P y Q U|x=>Q x U)=Ek P y Q:=by
    funext e U;cases e<;>rfl
   have hw':gO P x (fun x U=>match x with|.normal=>gO P y Q U|x=>Q x U) E:=hw
   rw[this]at hw'
   exact hw'
 |.cond cx x y,c,G₀,w₀,Q,Q',G,E,a,w,hc,hr,h,hp,hw=>by
  cases c<;>first|(simp[mb]at hc;done)|skip
  rename_i o c1 c2
  simp only[mb,Bool.and_eq_true]at hc
  obtain⟨⟨hx,h1⟩,h2⟩:=hc
  have hb:=XR.aN h hx
  have hw':SF P x y Q E (E.x cx):=by
   have:gO P (.cond cx x y) Q E=SF P x y Q E (E.x cx):=by
    show(match E.x cx with|.bool v=>(v=true->gO P x Q E)/\(v=false->gO P y Q E)|_=>False)=_
    cases E.x cx<;>rfl
   rw[<-this];exact hw
  generalize E.x cx=xv at hb hw'
  cases xv<;>try exact hw'.elim
  rename_i v
  have hv:=VR.fZ hb
  exact wp_cond_split hv (fun hv=>c9 hD x c1 G₀ w₀ Q Q' G E a w h1 hr h hp (hw'.1 hv)) (fun hv=>c9 hD y c2 G₀ w₀ Q Q' G E a w h2 hr h hp (hw'.2 hv))
 |.block id x,c,G₀,w₀,Q,Q',G,E,a,w,hc,hr,h,hp,hw=>by
  cases c<;>first|(simp[mb]at hc;done)|skip
  rename_i id' c1
  simp only[mb,Bool.and_eq_true,beq_iff_eq]at hc
  obtain⟨rfl,hc⟩:=hc
  refine wp_block (c9 hD x c1 G₀ w₀ (TL id' Q) _ G E a w hc ?_ h hp hw)
  intro e G' E' a' w' h1 h2 h3
  cases e with
  |exit i=>
   have h3':(bif i==id' then Q .normal E' else Q (.exit i) E'):=h3
   by_cases hi:i=id'
   ·have:(i==id')=true:=by simpa using hi
    rw[this]at h3'
    simpa[Exit.inBlock,hi]using hr _ G' E' a' w' h1 h2 h3'
   ·have:(i==id')=false:=by simpa using hi
    rw[this]at h3'
    simpa[Exit.inBlock,hi]using hr _ G' E' a' w' h1 h2 h3'
  |_=>exact hr _ G' E' a' w' h1 h2 h3
 |.loop live x,c,G₀,w₀,Q,Q',G,E,a,w,hc,hr,h,hp,hw=>by
  cases c<;>first|(simp[mb]at hc;done)|skip
  rename_i c1
  simp only[mb]at hc
  obtain⟨I,μ,h0,hI⟩:=hw
  have key:∀(m:Nat)(G:Gh)(E:St)(a:Act)(w:World),Inv G n D E a w->ax G₀ w₀ G w->I E->μ E<m->Code.rounds P c1 Q' m a w:=by
   intro m
   induction m with
   |zero=>intro G E a w _ _ _ hm;omega
   |succ m ih=>
    intro G E a w h hp hi hm
    rw[rounds_succ]
    refine c9 hD x c1 G₀ w₀ (KY live I μ (μ E) Q) _ G E a w hc ?_ h hp (hI E hi)
    intro e G' E' a' w' h1 h2 h3
    cases e with
    |normal=>exact ih G' _ a' w' (h1.ep live) h2 h3.1 (by have:=h3.2;omega)
    |_=>exact hr _ G' E' a' w' h1 h2 h3
  exact wp_loop_rounds (μ (E.ep live)+1) (key _ G _ a w (h.ep live) hp h0 (by omega))
 |.join live x y,c,G₀,w₀,Q,Q',G,E,a,w,hc,hr,h,hp,hw=>by
  cases c<;>first|(simp[mb]at hc;done)|skip
  rename_i c1 c2
  simp only[mb,Bool.and_eq_true]at hc
  obtain⟨J,h0,hJ⟩:=hw
  refine wp_seq (c9 hD x c1 G₀ w₀ (tV live J Q) _ G E a w hc.1 ?_ h hp h0)
  intro e G' E' a' w' h1 h2 h3
  cases e with
  |normal=>exact c9 hD y c2 G₀ w₀ Q Q' G' _ a' w' hc.2 hr (h1.ep live) h2 (hJ _ h3)
  |_=>exact hr _ G' E' a' w' h1 h2 h3
 |.exit id,c,G₀,w₀,Q,Q',G,E,a,w,hc,hr,h,hp,hw=>by
  cases c<;>first|(simp[mb]at hc;done)|skip
  simp only[mb,beq_iff_eq]at hc
  subst hc
  exact wp_exit (hr _ G E a w h hp hw)
 |.scope x,c,G₀,w₀,Q,Q',G,E,a,w,hc,hr,h,hp,hw=>by
  cases c<;>first|(simp[mb]at hc;done)|skip
  rename_i c1
  simp only[mb]at hc
  have hw':gO P x (zH Q) E:=by
   have:(fun x U=>match x with|.goto _=>False|x=>Q x U)=zH Q:=by funext e U;cases e<;>rfl
   have hw':gO P x (fun x U=>match x with|.goto _=>False|x=>Q x U) E:=hw
   rw[this]at hw'
   exact hw'
  refine wp_scope_straight (c9 hD x c1 G₀ w₀ (zH Q) _ G E a w hc ?_ h hp hw')
  intro e G' E' a' w' h1 h2 h3
  cases e with
  |goto l=>exact h3
  |_=>exact hr _ G' E' a' w' h1 h2 h3
 |.CI l live x1 x2 x3 y,c,G₀,w₀,Q,Q',G,E,a,w,hc,hr,h,hp,hw=>by
  unfold mb at hc
  split at hc<;>try(cases hc;done)
  all_goals first|(rename_i he;cases he;done)|skip
  rename_i c1 m al6 x1' x2' x3' y' he
  injection he with e1 e2 e3 e4 e5 e6
  subst e1;subst e2;subst e3;subst e4;subst e5;subst e6
  have hw':gO P x1 (Ek P x2 (Ek P x3 (P9 live (jlp P l live y Q) Q))) E:=by rw[<-QM];exact hw
  let C:(St->Prop)->(St->Nat)->Prop:=fun I μ=>∀U,I U->gO P y (Uh l live (fun ρ'=>I ρ'/\μ ρ'<μ U) Q) U
  have key:∀(L:List Code)(cr:Code),CM c1 l=some (L,cr)->mb P n cr y=true->
   (∀Q0:Exit->Act->World->Prop,(∀e a w,e≠.normal->(∃G U,Inv G n D U a w/\ax G₀ w₀ G w/\P9 live (jlp P l live y Q) Q e U)->Q0 e a w)->
     (∀a w,(∃G U,Inv G n D U a w/\ax G₀ w₀ G w/\jlp P l live y Q (U.ep live))->((Code.label l).seq cr).wp P Q0 a w)->(L.foldr Code.seq (.seq (.label l) cr)).wp P Q0 a w)->
   (Code.scope c1).wp P Q' a w:=by
   intro L cr hsp hcr L2
   obtain⟨hc1,hfl⟩:=US _ hsp
   refine wp_scope_jumps l (fun a w=>∃k,qB n D G₀ w₀ C a w k) (Rr n D G₀ w₀ C) hfl ?_ ?_
   ·rw[hc1]
    refine L2 _ (fun e a' w' he⟨G',U,h1,h2,h3⟩=>?_) (fun a' w'⟨G',U,h1,h2,h3⟩=>?_)
    ·cases e with
     |goto l=>exact h3.elim
     |normal=>exact absurd rfl he
     |_=>exact hr _ G' U a' w' h1 h2 h3
    ·obtain⟨I,μ,h4,hI⟩:=h3
     refine wp_seq (wp_label ?_)
     refine c9 hD y cr G₀ w₀ _ _ G' _ a' w' hcr ?_ (h1.ep live) h2 (hI _ h4)
     intro e G2 σ2 a2 w2 q1 q2 q3
     cases e with
     |goto l=>exact⟨q3.1,_,I,μ,G2,_,hI,q1.ep live,q2,q3.2.1,Nat.le_refl _⟩
     |_=>exact hr _ G2 σ2 a2 w2 q1 q2 q3
   ·intro a' w' hJ
    obtain⟨I,μ,G',U,hI,h1,h2,h3,h4⟩:=(Dp hJ).1
    refine wp_seq (wp_skip ?_)
    refine c9 hD y cr G₀ w₀ _ _ G' U a' w' hcr ?_ h1 h2 (hI _ h3)
    intro e G2 σ2 a2 w2 q1 q2 q3
    cases e with
    |goto l=>
     have hk:qB n D G₀ w₀ C a2 w2 (μ (σ2.ep live)):=⟨I,μ,G2,_,hI,q1.ep live,q2,q3.2.1,Nat.le_refl _⟩
     refine⟨q3.1,⟨_,hk⟩,?_⟩
     have:=(Dp ⟨_,hk⟩).2 _ hk
     have:=q3.2.2
     omega
    |_=>exact hr _ G2 σ2 a2 w2 q1 q2 q3
  split at hc
  ·rename_i cr hsp
   simp only[Bool.and_eq_true]at hc
   obtain⟨k1,k2,k3,hcr⟩:=hc
   rw[oS k1,oS k2,oS k3]at hw'
   exact key _ _ hsp hcr fun Q0 _ hb=>hb _ _ ⟨G,E,h,hp,hw'⟩
  ·rename_i s1 cr hsp
   simp only[Bool.and_eq_true]at hc
   obtain⟨k1,k2,k3,hcr⟩:=hc
   rw[oS k2,oS k3]at hw'
   refine key _ _ hsp hcr fun Q0 ha hb=>wp_seq (c9 hD x1 s1 G₀ w₀ _ _ G E a w k1 ?_ h hp hw')
   intro e G' E' a' w' h1 h2 h3
   cases e with
   |normal=>exact hb _ _ ⟨G',E',h1,h2,h3⟩
   |_=>exact ha _ _ _ (by simp) ⟨G',E',h1,h2,h3⟩
  ·rename_i s1 s2 cr hsp
   simp only[Bool.and_eq_true]at hc
   obtain⟨k1,k2,k3,hcr⟩:=hc
   rw[oS k3]at hw'
   refine key _ _ hsp hcr fun Q0 ha hb=>wp_seq (c9 hD x1 s1 G₀ w₀ _ _ G E a w k1 ?_ h hp hw')
   intro e G' E' a' w' h1 h2 h3
   cases e with
   |normal=>
    refine wp_seq (c9 hD x2 s2 G₀ w₀ _ _ G' E' a' w' k2 ?_ h1 h2 h3)
    intro e G' E' a' w' h1 h2 h3
    cases e with
    |normal=>exact hb _ _ ⟨G',E',h1,h2,h3⟩
    |_=>exact ha _ _ _ (by simp) ⟨G',E',h1,h2,h3⟩
   |_=>exact ha _ _ _ (by simp) ⟨G',E',h1,h2,h3⟩
  ·rename_i s1 s2 s3 cr hsp
   simp only[Bool.and_eq_true]at hc
   obtain⟨k1,k2,k3,hcr⟩:=hc
   refine key _ _ hsp hcr fun Q0 ha hb=>wp_seq (c9 hD x1 s1 G₀ w₀ _ _ G E a w k1 ?_ h hp hw')
   intro e G' E' a' w' h1 h2 h3
   cases e with
   |normal=>
    refine wp_seq (c9 hD x2 s2 G₀ w₀ _ _ G' E' a' w' k2 ?_ h1 h2 h3)
    intro e G' E' a' w' h1 h2 h3
    cases e with
    |normal=>
     refine wp_seq (c9 hD x3 s3 G₀ w₀ _ _ G' E' a' w' k3 ?_ h1 h2 h3)
     intro e G' E' a' w' h1 h2 h3
     cases e with
     |normal=>exact hb _ _ ⟨G',E',h1,h2,h3⟩
     |_=>exact ha _ _ _ (by simp) ⟨G',E',h1,h2,h3⟩
    |_=>exact ha _ _ _ (by simp) ⟨G',E',h1,h2,h3⟩
   |_=>exact ha _ _ _ (by simp) ⟨G',E',h1,h2,h3⟩
  ·cases hc
 |.label l,c,G₀,w₀,Q,Q',G,E,a,w,hc,hr,h,hp,hw=>by
  cases c<;>first|(simp[mb]at hc;done)|skip
  exact wp_label (hr _ G E a w h hp hw)
 |.goto l,c,G₀,w₀,Q,Q',G,E,a,w,hc,hr,h,hp,hw=>by
  cases c<;>first|(simp[mb]at hc;done)|skip
  simp only[mb,beq_iff_eq]at hc
  subst hc
  exact wp_goto (hr _ G E a w h hp hw)
 |.dead,c,G₀,w₀,Q,Q',G,E,a,w,hc,hr,h,hp,hw=>(show False from hw).elim
 |.ret,c,G₀,w₀,Q,Q',G,E,a,w,hc,hr,h,hp,hw=>by
  cases c<;>first|(simp[mb]at hc;done)|skip
  exact wp_ret (hr _ G E a w h hp hw)
end
end Go.AB
end
section
namespace Go.AB
open Go
structure pa where
 t:Nat
 own:Bool
 cell:Option (Nat×Bool):=none
 deriving Inhabited
def X5(multi:Bool):Option (List AV)->AV
 |some cs=>rn multi cs
 |none=>.undef
def uq(E:St)(r:pa):AV:=match r.cell with
 |none=>bif r.own then look E.e r.t else view (look E.e r.t)
 |some (n,multi)=>X5 multi (rd E (look E.e r.t) n)
def ot(E:St)(res:List pa):List AV:=res.map (uq E)
def jX(P:Program):List ResultVar->List pa->Bool
 |[],[]=>true
 |.tmp t::r,i::s=>t==i.t&&i.cell.isNone&&(!i.own||s.all fun j=>!(j.own&&j.t==i.t))&&jX P r s
 |.cell t ty::r,i::s=>t==i.t&&!i.own&&(match i.cell with
  |some (n,multi)=>c8 P ty n&&rm P ty multi&&(multi||n==1)
  |none=>false)&&jX P r s
 |_,_=>false
def tf:Nat->List AV->List (Nat×AV)
 |_,[]=>[]
 |i,a::r=>(i,view a)::tf (i+1) r
def start(args:List AV)(s:ab):St:={e:=tf 0 args,lp:=[],s:=s}
def IJ(cs:List AV):Bool:=cs.all dt
def R0(res:List pa)(Q:List AV->ab->Prop):Exit->St->Prop
 |.ret,E=>IJ (ot E res)=true/\Q (ot E res) E.s
 |.normal,E=>IJ (ot E res)=true/\Q (ot E res) E.s
 |_,_=>False
def aE(P:Program)(f:FuncId)(n:Nat)(res:List pa)(ic:IC):Bool:=match P.funcs[f]? with
 |some fn=>fn.ntmps==n&&jX P fn.results.toList res&&(match fn.body with
  |some c=>mb P n c ic
  |none=>false)
 |none=>false
section
variable{P:Program}{G G':Gh}{n:Nat}{D:List Deferred}{E:St}{a:Act}{w w':World}
theorem qn(i:Nat):∀(args:List AV)(k:Nat),look (tf k args) i=if k<=i then(match args[i -k]? with|some a=>view a|none=>.undef)else .undef
 |[],k=>by
  show AV.undef=_
  split<;>simp
 |a::r,k=>by
  show look ((k,view a)::tf (k+1) r) i=_
  rw[aM,qn i r (k+1)]
  by_cases h:k=i
  ·subst h;simp
  ·by_cases h2:k<=i
   ·have h3:k+1<=i:=by omega
    have h4:i -k=(i -(k+1))+1:=by omega
    rw[if_neg h,if_pos h3,if_pos h2,h4,List.getElem?_cons_succ]
   ·rw[if_neg h,if_neg (by omega),if_neg h2]
theorem Lj{args:List AV}{s:ab}{vs:Array Value}(hg:b9 G w)(hs:aP G w s)(ha:kH w G.R args vs)(hv:IJ args=true)(hn:args.length<=n):
 Inv G n [] (start args s) {tmps:=vs++Array.replicate (n -vs.size) undef,defers:=[]} w:=by
 have hsz:vs.size=args.length:=ha.1
 refine⟨hg,hs,by simp;omega,fun i v hi=>?_,fun i hi=>?_,fun i t ht=>?_,rfl⟩
 ·show dg G w (tf 0 args) _ i (look (tf 0 args) i) v
  rw[qn,if_pos (Nat.zero_le _),Nat.sub_zero]
  cases hai:args[i]? with
  |none=>exact⟨.undef _,trivial⟩
  |some av=>
   have hlt:i<args.length:=(List.getElem?_eq_some_iff.1 hai).1
   have hvi:vs[i]? =some v:=by
    have hi':(vs++Array.replicate (n -vs.size) undef)[i]? =some v:=hi
    rw[Array.getElem?_append_left (by omega)]at hi'
    exact hi'
   have hV:dt av=true:=by
    have:=List.all_eq_true.1 hv
    exact this av (List.mem_of_getElem? hai)
   exact dg.A5 hV (ha.2 i av v hai hvi)
 ·show look (tf 0 args) i=.undef
  rw[qn,if_pos (Nat.zero_le _),Nat.sub_zero,List.getElem?_eq_none (by omega)]
 ·have ht':bB (look (tf 0 args) i) t:=ht
  rw[qn,if_pos (Nat.zero_le _),Nat.sub_zero]at ht'
  cases hai:args[i]? with
  |none=>rw[hai]at ht';exact ht'.elim
  |some av=>
   rw[hai]at ht'
   have hV:dt av=true:=List.all_eq_true.1 hv av (List.mem_of_getElem? hai)
   exact(eQ (lI hV) t ht').elim
def Lf:List pa->Nat->Nat->Option Nat
 |[],_,_=>none
 |r::s,k,i=>bif r.own&&r.t==i then some k else Lf s (k+1) i
def Hf(G:Gh)(res:List pa):cS->cS
 |.none=>.none
 |.frame=>.frame
 |.sh=>.sh
 |.slot i j=>(match j,Lf res 0 i with
  |0,some k=>.res k
  |_,_=>.none)
 |.cell b j=>if G.O b=.sh then .cell b j else .none
 |_=>.none
theorem Lg:∀(vs:List ResultVar)(res:List pa),jX P vs res=true->vs.length=res.length
 |[],[],_=>rfl
 |v::vs,r::res,h=>by
  have:jX P vs res=true:=by cases v<;>simp only[jX,Bool.and_eq_true]at h<;>exact h.2
  simp[Lg vs res this]
 |[],_::_,h=>by simp[jX]at h
 |_::_,[],h=>by simp[jX]at h
theorem zD:∀(vs:List ResultVar)(res:List pa)(k j:Nat)(r:pa),jX P vs res=true->res[j]? =some r->r.own=true->Lf res k r.t=some (k+j)
 |v::vs,r0::res,k,0,r,_,hj,ho=>by
  simp at hj;subst hj
  simp[Lf,ho]
 |v::vs,r0::res,k,j+1,r,h,hj,ho=>by
  have hj':res[j]? =some r:=by simpa using hj
  have ahi:jX P vs res=true:=by cases v<;>simp only[jX,Bool.and_eq_true]at h<;>exact h.2
  have hne:(r0.own&&r0.t==r.t)=false:=by
   cases hr0:r0.own with
   |false=>rfl
   |true=>
    cases v with
    |cell=>simp[jX,hr0]at h
    |tmp t=>
    simp only[jX,Bool.and_eq_true]at h
    have h1:=h.1.2
    rw[hr0]at h1
    have h1':∀x∈res,x.own=false\/¬x.t=r0.t:=by simpa using h1
    rcases h1' r (List.mem_of_getElem? hj')with e|e
    ·rw[ho]at e;cases e
    ·simpa using fun e'=>e e'.symm
  show(bif r0.own&&r0.t==r.t then some k else Lf res (k+1) r.t)=_
  rw[hne]
  show Lf res (k+1) r.t=_
  rw[zD vs res (k+1) j r ahi hj' ho]
  congr 1;omega
 |[],r0::res,_,_,_,h,_,_=>by simp[jX]at h
 |_,[],_,_,_,_,hj,_=>by simp at hj
theorem dg.ZU{G:Gh}{w:World}{e:List (Nat×AV)}{tmps:Array Value}{i:Nat}{a:AV}{v:Value}(h:dt a=true\/dt (view a)=true):dg G w e tmps i a v->(VR w G.R a v/\dm G w (.slot i 0) a v):=by cases a<;>simp_all [dt,view,dg]
def P3(vs:Array Value):Value:=if h:vs.size=1 then vs[0]else .tuple vs
theorem mapM_some{α β:Type}(f:α->Sem β)(w:World):∀(l:List α)(vs:List β),l.length=vs.length->(∀(j:Nat)(x:α)(v:β),l[j]? =some x->vs[j]? =some v->(f x).run P w=.ok v w)->(l.mapM f).run P w=.ok vs w
 |[],[],_,_=>by simp
 |x::l,v::vs,hl,h=>by
  rw[List.mapM_cons]
  simp[h 0 x v rfl rfl,mapM_some f w l vs (by simpa using hl) (fun j y z hy hz=>h (j+1) y z (by simpa using hy) (by simpa using hz))]
 |[],_::_,hl,_=>by simp at hl
 |_::_,[],hl,_=>by simp at hl
def Cr(tmps:Array Value):ResultVar->Sem Value
 |.tmp t=>pure (tmps.getD t undef)
 |.cell a t=>do loadVar t (<-asAddr (tmps.getD a undef))
theorem P4{fn:Func}(tmps:Array Value)(w:World)(vs:List Value)(hl:fn.results.toList.length=vs.length)(h:∀(j:Nat)(x:ResultVar)(v:Value),fn.results.toList[j]? =some x->vs[j]? =some v->(Cr tmps x).run P w=.ok v w):
 (results fn tmps).run P w=.ok (P3 vs.toArray) w:=by
 have e:(fn.results.toList.mapM (Cr tmps)).run P w=.ok vs w:=mapM_some _ w _ _ hl h
 unfold results
 rw[Array.mapM_eq_mapM_toList]
 have key:∀F:ResultVar->Sem Value,F=Cr tmps->(do let vs<-List.toArray<$>fn.results.toList.mapM F;pure (if h:vs.size=1 then vs[0]else .tuple vs):Sem Value).run P w=.ok (P3 vs.toArray) w:=by
  intro F hF
  subst hF
  simp only[Sem.run_bind,Sem.run_map,e,Result.andThen_ok]
  rfl
 exact key _ (by funext x;cases x<;>rfl)
theorem Tl{fn:Func}{res:List pa}{Q:List AV->ab->Prop}{E':St}{a':Act}(rE:jX P fn.results.toList res=true)(h:Inv G' n D E' a' w')(hp:ax G w G' w')(eo:IJ (ot E' res)=true)(hQ:Q (ot E' res) E'.s):
 ∃v,(results fn a'.tmps).run P w'=.ok v w'/\∃v' rs s' G'',Ending.returned v=.returned v'/\Q rs s'/\b9 G'' w'/\aP G'' w' s'/\pb G'' w' rs v'/\ax G w G'' w':=by
 let G2:Gh:=⟨G'.R,fun b=>Hf G' res (G'.O b)⟩
 have hV:∀(j:Nat)(r:pa),res[j]? =some r->dt (uq E' r)=true:=fun j r hj=>by
  refine List.all_eq_true.1 eo _ ?_
  exact List.mem_map.2 ⟨r,List.mem_of_getElem? hj,rfl⟩
 have hlen:=Lg _ _ rE
 have get:∀(vs:List ResultVar)(rs:List pa),jX P vs rs=true->∀(j:Nat)(x:ResultVar)(r:pa),vs[j]? =some x->rs[j]? =some r->
  (x=.tmp r.t/\r.cell=none)\/∃ty n m,x=.cell r.t ty/\r.cell=some (n,m)/\r.own=false/\c8 P ty n=true/\rm P ty m=true/\(m||n==1)=true:=by
  intro vs
  induction vs with
  |nil=>intro rs _ j x r hx;simp at hx
  |cons v vs ih=>
   intro rs hh j x r hx hr
   cases rs with
   |nil=>simp at hr
   |cons r0 rs=>
    cases j with
    |succ j=>
     refine ih rs ?_ j x r (by simpa using hx) (by simpa using hr)
     cases v<;>simp only[jX,Bool.and_eq_true]at hh<;>exact hh.2
    |zero=>
     simp at hx hr;subst hx;subst hr
     cases v with
     |tmp t=>
      simp only[jX,Bool.and_eq_true,beq_iff_eq]at hh
      exact .inl ⟨by rw[hh.1.1.1],by simpa using hh.1.1.2⟩
     |cell t ty=>
      simp only[jX,Bool.and_eq_true,beq_iff_eq]at hh
      obtain⟨⟨⟨h1,h2⟩,h3⟩,_⟩:=hh
      split at h3
      ·rename_i n m hc
       simp only[Bool.and_eq_true]at h3
       exact .inr ⟨ty,n,m,by rw[h1],hc,by simpa using h2,h3.1.1,h3.1.2,h3.2⟩
      ·cases h3
 have BV:∀(j:Nat)(x:ResultVar)(r:pa),fn.results.toList[j]? =some x->res[j]? =some r->∃v,(Cr a'.tmps x).run P w'=.ok v w'/\VR w' G2.R (uq E' r) v/\dm G2 w' (.res j) (uq E' r) v:=by
  intro j x r hx hj
  have hi:=hV j r hj
  have hlk:look E'.e r.t≠.undef:=by
   intro e
   unfold uq at hi
   rw[e]at hi
   cases hr:r.cell with
   |none=>
    rw[hr]at hi
    cases ho:r.own with
    |true=>rw[ho]at hi;cases hi
    |false=>rw[ho]at hi;cases hi
   |some nm=>rw[hr]at hi;obtain⟨n1,m1⟩:=nm;cases hi
  have hlt:r.t<a'.tmps.size:=by rw[h.size];exact h.PB hlk
  rcases get _ _ rE j x r hx hj with⟨rfl,dy⟩|⟨ty,n1,m1,rfl,dy,ho,hs1,ha1,h11⟩
  ·refine⟨a'.tmps.getD r.t undef,rfl,?_⟩
   have hi':dt (look E'.e r.t)=true\/dt (view (look E'.e r.t))=true:=by
    unfold uq at hi
    rw[dy]at hi
    cases hr:r.own with
    |true=>rw[hr]at hi;exact .inl hi
    |false=>rw[hr]at hi;exact .inr hi
   have hs:=h.ch r.t _ (iE hlt)
   replace hs:=dg.ZU hi' hs
   have he:a'.eval (.tmp r.t)=a'.tmps.getD r.t undef:=rfl
   rw[he]at hs
   unfold uq
   rw[dy]
   cases hr:r.own with
   |false=>exact⟨hs.1.view,dm.view ..⟩
   |true=>
    refine⟨hs.1,?_⟩
    have ho:=hs.2
    show dm G2 w' (.res j) (look E'.e r.t) _
    unfold dm at ho⊢
    split
    ·rename_i sz m cs hsl
     rw[hsl]at ho
     intro base m' cap hv hc
     obtain⟨b,off,c,e,fz,q1,q2,q3⟩:=ho base m' cap hv hc
     refine⟨b,off,c,e,fz,q1,?_,q3⟩
     show Hf G' res (G'.O b)=.res j
     rw[q2]
     have:=zD fn.results.toList res 0 j r rE hj hr
     simp[Hf,this]
    ·rename_i e m cs hsl
     rw[hsl]at ho
     intro base m' cap hv hc
     obtain⟨b,off,c,fz,q1,q2,q3⟩:=ho base m' cap hv hc
     refine⟨b,off,c,fz,q1,?_,q3⟩
     show Hf G' res (G'.O b)=.res j
     rw[q2]
     have:=zD fn.results.toList res 0 j r rE hj hr
     simp[Hf,this]
    ·trivial
  ·unfold uq at hi⊢
   rw[dy]at hi⊢
   have hb:BR G' w' E' a' (.t r.t) (look E'.e r.t) (a'.tmps.getD r.t undef):=by
    have:=BR.aN h (o:=.tmp r.t) (x:=.t r.t) (by simp[bJ])
    have hun:xg true E' (.t r.t)=zP true (look E'.e r.t):=rfl
    rw[hun]at this
    generalize look E'.e r.t=av at this hi
    cases av<;>first|exact this|(cases hi;done)|trivial
   have hi:dt (X5 m1 (rd E' (look E'.e r.t) n1))=true:=hi
   show∃v,_/\VR w' G2.R (X5 m1 (rd E' (look E'.e r.t) n1)) v/\dm G2 w' (.res j) (X5 m1 (rd E' (look E'.e r.t) n1)) v
   cases hrd:rd E' (look E'.e r.t) n1 with
   |none=>rw[hrd]at hi;cases hi
   |some cs=>
    obtain⟨b,off,e,hl,hat,hvw⟩:=Hv h hb hrd
    obtain⟨v,b7,hvr⟩:=qN hs1 ha1 h11 hl hat
    refine⟨v,?_,hvr,?_⟩
    ·show(do loadVar ty (<-asAddr (a'.tmps.getD r.t undef)):Sem Value).run P w'=_
     rw[e]
     simp[asAddr,b7]
    ·have OR:=Iy (multi:=m1) hvw
     show dm G2 w' (.res j) (rn m1 cs) v
     rw[<-OR];exact dm.view ..
 have agX:∃vs:List Value,fn.results.toList.length=vs.length/\∀(j:Nat)(x:ResultVar)(r:pa)(v:Value),fn.results.toList[j]? =some x->res[j]? =some r->vs[j]? =some v->(Cr a'.tmps x).run P w'=.ok v w'/\VR w' G2.R (uq E' r) v/\dm G2 w' (.res j) (uq E' r) v:=by
  have hch:∀j:Fin fn.results.toList.length,∃v,∀(x:ResultVar)(r:pa),fn.results.toList[j.1]? =some x->res[j.1]? =some r->(Cr a'.tmps x).run P w'=.ok v w'/\VR w' G2.R (uq E' r) v/\dm G2 w' (.res j.1) (uq E' r) v:=by
   intro j
   have hr:j.1<res.length:=by rw[<-hlen];exact j.2
   obtain⟨v,hv⟩:=BV j.1 _ _ (List.getElem?_eq_getElem j.2) (List.getElem?_eq_getElem hr)
   refine⟨v,fun x r hx hr'=>?_⟩
   rw[List.getElem?_eq_getElem j.2]at hx
   rw[List.getElem?_eq_getElem hr]at hr'
   injection hx with hx;injection hr' with hr'
   subst hx;subst hr'
   exact hv
  refine⟨List.ofFn fun j=>(hch j).choose,by simp,fun j x r v hx hr hv=>?_⟩
  have hj:j<fn.results.toList.length:=(List.getElem?_eq_some_iff.1 hx).1
  have:=(hch ⟨j,hj⟩).choose_spec x r hx hr
  simp only[List.getElem?_ofFn,hj,dite_true]at hv
  injection hv with hv
  rw[hv]at this
  exact this
 obtain⟨vs,hvl,hvs⟩:=agX
 refine⟨_,P4 a'.tmps w' vs hvl (fun j x v hx hv=>by
  have hj:j<res.length:=by rw[<-hlen];exact(List.getElem?_eq_some_iff.1 hx).1
  exact(hvs j x _ v hx (List.getElem?_eq_getElem hj) hv).1),?_⟩
 have qc:∀(j:Nat)(r:pa)(v:Value),res[j]? =some r->vs[j]? =some v->VR w' G2.R (uq E' r) v/\dm G2 w' (.res j) (uq E' r) v:=by
  intro j r v hr hv
  have hj:j<fn.results.toList.length:=by rw[hvl];exact(List.getElem?_eq_some_iff.1 hv).1
  exact(hvs j _ r v (List.getElem?_eq_getElem hj) hr hv).2
 have ak5:vs.length=res.length:=by rw[<-hvl,hlen]
 refine⟨_,ot E' res,E'.s,G2,rfl,hQ,⟨fun b hb=>?_,h.aS.jU⟩,?_,?_,?_⟩
 ·show Hf G' res (G'.O b)=.none
  rw[h.aS.jM b hb];rfl
 ·refine h.store.Ds (fun _ _ hv=>hv) (fun b hb=>⟨?_,rfl,rfl⟩) (fun b c j hb hc=>⟨?_,rfl,rfl⟩)
  ·show Hf G' res (G'.O b)=.sh
   rw[hb];rfl
  ·show Hf G' res (G'.O c)=.cell b j
   rw[hc];simp[Hf,hb]
 ·match res,vs,ak5,qc with
  |[],[],_,_=>exact⟨#[],rfl,rfl,fun j x y hx=>by simp[ot]at hx⟩
  |[r],[v],_,qc=>
   have h1:=qc 0 r v rfl rfl
   have h2:=hV 0 r rfl
   show X4 G2 w' (uq E' r) v
   generalize uq E' r=av at h1 h2
   cases av<;>first|exact h1|cases h2
  |r1::r2::rr,v1::v2::vv,hl2,qc=>
   refine⟨_,rfl,by simpa[ot]using hl2,fun j x y hx hy=>?_⟩
   have hx':((r1::r2::rr).map (uq E'))[j]? =some x:=hx
   rw[List.getElem?_map]at hx'
   cases hj:(r1::r2::rr)[j]? with
   |none=>rw[hj]at hx';cases hx'
   |some r=>
    rw[hj]at hx'
    injection hx' with hx'
    have hy':(v1::v2::vv)[j]? =some y:=by simpa using hy
    subst hx'
    exact qc j r y hj hy'
 ·refine⟨hp.os,hp.tape,hp.output,hp.drawn,hp.size,hp.mono,hp.mP,hp.frame,fun b hb ho=>?_,fun b hb ho=>?_⟩
  ·obtain⟨e1,e2⟩:=hp.jJ b hb ho
   exact⟨by show Hf G' res (G'.O b)=_;rw[e1];rfl,e2⟩
  ·obtain⟨e1,e2⟩:=hp.pP b hb ho
   exact⟨by show Hf G' res (G'.O b)=_;rw[e1];rfl,e2⟩
theorem FN.of{f:FuncId}{res:List pa}{ic:IC}{args:List AV}{s:ab}{Q:List AV->ab->Prop}(hD:E9 P n)(hf:aE P f n res ic=true)(hv:IJ args=true)(hn:args.length<=n)
 (hw:gO P ic (R0 res Q) (start args s)):FN P f args s Q:=by
 intro G w vs hg ho hs ha
 unfold aE at hf
 split at hf<;>try(cases hf;done)
 rename_i fn hfn
 simp only[Bool.and_eq_true,beq_iff_eq]at hf
 obtain⟨⟨rfl,rE⟩,hf⟩:=hf
 split at hf<;>try(cases hf;done)
 rename_i c hb
 refine calls_of_wp hfn hb (c9 hD ic c G w (R0 res Q) _ G _ _ w hf ?_ (Lj hg hs ha hv hn) (ax.refl G w) hw)
 intro x G' E' a' w' h hp hq
 have fin:IJ (ot E' res)=true/\Q (ot E' res) E'.s->a'.defers=[]/\∃v,(results fn a'.tmps).run P w'=.ok v w'/\∃v' rs s' G'',Ending.returned v=.returned v'/\Q rs s'/\b9 G'' w'/\aP G'' w' s'/\pb G'' w' rs v'/\ax G w G'' w':=by
  intro hq
  obtain⟨eo,hQ⟩:=hq
  exact⟨h.ue,Tl rE h hp eo hQ⟩
 cases x with
 |ret=>exact fin hq
 |normal=>exact fin hq
 |_=>exact hq.elim
end
end Go.AB
end
section
namespace Go.AB
open Go
theorem fT{f f':IX->AV}:∀(xs:List IX),(∀x∈xs,f x=f' x)->bZ f xs=bZ f' xs
 |[],_=>rfl
 |x::xs,h=>by
  show TJ (f x) (bZ f xs)=TJ (f' x) (bZ f' xs)
  rw[h x List.mem_cons_self,fT xs fun y hy=>h y (List.mem_cons_of_mem _ hy)]
theorem yT{f f':IX->AV}:∀(ps:List (Nat×Nat×IX))(cs:List AV),(∀x∈ps.map (fun p=>p.2.2),f x=f' x)->fill f cs ps=fill f' cs ps
 |[],_,_=>rfl
 |(off,n,x)::ps,cs,h=>by
  have h1:f x=f' x:=h x (by simp)
  have ih:∀cs,fill f cs ps=fill f' cs ps:=fun cs=>yT ps cs fun y hy=>h y (by simp only[List.map_cons,List.mem_cons];exact .inr hy)
  unfold fill
  rw[h1]
  simp only[ih]
theorem mz{f f':IX->AV}(o:Option IX)(d:Int)(h:∀x∈oX o,f x=f' x):IB f o d=IB f' o d:=by
 cases o with
 |none=>rfl
 |some x=>simp only[IB,h x (by simp[oX])]
theorem XP{o:ua}{f f':IX->AV}{E E':St}(h:∀x∈di o,f x=f' x)(hx:∀x∈di o,E.x x=E'.x x)(hs:E.s=E'.s)(hrd:∀x∈di o,∀n,rd E (f x) n=rd E' (f x) n):pv o f E=pv o f' E':=by
 cases o<;>(try rfl)
 case jL tr x=>cases tr<;>first|rfl|(show Us (f x)=Us (f' x);rw[h x (by simp[di])])
 case pick c x y=>show Lb (E.x x) (E.x y) (f c)=Lb (E'.x x) (E'.x y) (f' c);rw[h c (by simp[di]),hx x (by simp[di]),hx y (by simp[di])]
 case build z ps=>show Ft (fill f z ps)=Ft (fill f' z ps);rw[yT ps z h]
 case load n m x=>show jF m (rd E (f x) n)=jF m (rd E' (f' x) n);rw[hrd x (by simp[di]),h x (by simp[di])]
 case mh k x=>show Ck k E.s (f x)=Ck k E'.s (f' x);rw[h x (by simp[di]),hs]
 case bf z m x=>show KW z m E.s (f x)=KW z m E'.s (f' x);rw[h x (by simp[di]),hs]
 case fo x=>show sA (f x)=sA (f' x);rw[h x (by simp[di])]
 case nilCheck x=>show mD (f x)=mD (f' x);rw[h x (by simp[di])]
 case bin b x y=>show QC b (f x) (f y)=QC b (f' x) (f' y);rw[h x (by simp[di]),h y (by simp[di])]
 case U4 b x y=>show Q3 b (f x) (f y)=Q3 b (f' x) (f' y);rw[h x (by simp[di]),h y (by simp[di])]
 case Ov b x y=>show Ow b (f x) (f y)=Ow b (f' x) (f' y);rw[h x (by simp[di]),h y (by simp[di])]
 case un u x=>show unV u (f x)=unV u (f' x);rw[h x (by simp[di])]
 case jI k x=>show wW k (f x)=wW k (f' x);rw[h x (by simp[di])]
 case iK x i=>show xp (f x) (f i)=xp (f' x) (f' i);rw[h x (by simp[di]),h i (by simp[di])]
 case fieldAddr off x=>show gm off x (f x)=gm off x (f' x);rw[h x (by simp[di])]
 case indexAddr sz x i=>show ki sz (f x) (f i)=ki sz (f' x) (f' i);rw[h x (by simp[di]),h i (by simp[di])]
 case slice sz x lo hi mx=>
  cases mx with
  |some m=>
   have e1:=mz (f:=f) (f':=f') lo 0 fun y hy=>h y (by simp[di,hy])
   have e2:=mz (f:=f) (f':=f') hi 0 fun y hy=>h y (by simp[di,hy])
   have e3:=mz (f:=f) (f':=f') (some m) 0 fun y hy=>h y (by simp[di,hy])
   show qw sz f lo hi m (f x)=qw sz f' lo hi m (f' x)
   rw[h x (by simp[di])]
   unfold qw
   simp only[e1,e2,e3]
  |none=>
   have e1:=mz (f:=f) (f':=f') lo 0 fun y hy=>h y (by simp[di,hy])
   have e2:=fun d=>mz (f:=f) (f':=f') hi d fun y hy=>h y (by simp[di,hy])
   show wx sz f lo hi (f x)=wx sz f' lo hi (f' x)
   rw[h x (by simp[di])]
   unfold wx
   simp only[e1,e2]
 case qW x lo hi=>
  have e1:=mz (f:=f) (f':=f') lo 0 fun y hy=>h y (by simp[di,hy])
  have e2:=fun d=>mz (f:=f) (f':=f') hi d fun y hy=>h y (by simp[di,hy])
  show mN f lo hi (f x)=mN f' lo hi (f' x)
  rw[h x (by simp[di])]
  unfold mN
  simp only[e1,e2]
 case Za b x=>show Ot b (f x)=Ot b (f' x);rw[h x (by simp[di])]
 case cap x=>show QJ (f x)=QJ (f' x);rw[h x (by simp[di])]
 case extract x k=>show ru k (f x)=ru k (f' x);rw[h x (by simp[di])]
 case len c x=>show D7 E.s c (f x)=D7 E'.s c (f' x);rw[h x (by simp[di]),hs]
 case fP m xs=>
  show xc m (xs.map f)=xc m (xs.map f')
  rw[show xs.map f=xs.map f' from List.map_congr_left h]
 case kq fi xs ys=>
  show w9 fi (bZ f xs) (bZ f ys)=w9 fi (bZ f' xs) (bZ f' ys)
  rw[fT xs fun x hx=>h x (by simp[di,hx]),fT ys fun x hx=>h x (by simp[di,hx])]
def dr(o:ah)(E:St):St:=match o.op with
 |.jL true x=>E.drain x
 |_=>E
def step(E:St)(o:ah)(v:AV):St:=(bQ (dr o E) v o.dst).put o.dst v
theorem VF{o:ah}{E:St}(h:qv o E≠.no):dr o E=E:=by
 obtain⟨d,op,g⟩:=o
 unfold dr
 split
 ·rename_i x hop
  simp only at hop
  subst hop
  refine absurd ?_ h
  cases g with
  |none=>rfl
  |some tw=>
   obtain⟨t,want⟩:=tw
   show PW (.jL true x) want E (look E.e t)=.no
   unfold PW
   split<;>rfl
 ·rfl
inductive Y(P:Program)(E:St):ah->AV->Prop where
 |pure (o:ah) (v:AV) (h:(qv o E=.dv v\/∃c,qv o E=.prt c v/\c)):Y P E o v
 |jL (d:Option Nat) (x:IX) (h:dt (E.x x)=true):Y P E ⟨d,.jL true x,none⟩ (E.x x)
 |call (d:Option Nat) (f:Nat) (args:List IX) (as rs:List AV) (h1:bZ (xg true E) args=some as) (h2:jO rs=true) (h3:FE P f as E.s rs E.s):Y P E ⟨d,.call f args,none⟩ (fj rs)
 |N7 (d:Option Nat) (f:Nat) (args:List IX) (t:Nat) (want g0 b:Bool) (rs:List AV) (h0:V4 (look E.e t)=some (g0,b)) (h2:jO rs=true)
   (h1:(g0&&(b==want))=true->∃as,bZ (xg true E) args=some as/\FE P f as E.s rs E.s):Y P E ⟨d,.call f args,some (t,want)⟩ (.when (g0&&(b==want)) (fj rs))
 |cu (d:Option Nat) (x:IX) (args:List IX) (f:Nat) (as rs:List AV) (h1:callee x args true E f as) (hf:pz P f=true) (h2:jO rs=true) (h3:FE P f as E.s rs E.s):Y P E ⟨d,.cu x args,none⟩ (fj rs)
 |FC (d:Option Nat) (x:IX) (args:List IX) (t:Nat) (want g0 b:Bool) (rs:List AV) (h0:V4 (look E.e t)=some (g0,b)) (h2:jO rs=true)
   (h1:(g0&&(b==want))=true->∃f as,callee x args true E f as/\pz P f=true/\FE P f as E.s rs E.s):Y P E ⟨d,.cu x args,some (t,want)⟩ (.when (g0&&(b==want)) (fj rs))
 |eff (o:ah) (v:AV) (h:(Dv o E=.dv v\/∃c,Dv o E=.prt c v/\c)):Y P E o v
theorem aeg{o:ua}{want:Bool}{E:St}{a:AV}:(∃g b,V4 a=some (g,b)/\PW o want E a=U9 (rdO o) (g&&(b==want)) (pv o (xg (g&&(b==want)) E) E))\/PW o want E a=.no:=by
 unfold PW
 split
 ·exact .inl ⟨_,_,rfl,rfl⟩
 ·exact .inl ⟨_,_,rfl,rfl⟩
 ·exact .inr rfl
theorem XW{o:ua}{want:Bool}{E:St}{a:AV}:(∃g b,V4 a=some (g,b)/\Qt o want E a=Qo (g&&(b==want)) (qe (xg (g&&(b==want)) E) E.s o))\/Qt o want E a=.no:=by
 unfold Qt
 split
 ·exact .inl ⟨_,_,rfl,rfl⟩
 ·exact .inl ⟨_,_,rfl,rfl⟩
 ·exact .inr rfl
theorem EY{P:Program}{o:ua}{d:Option Nat}{t:Nat}{want:Bool}{E:St}{K:St->Prop}{a:AV}{g b:Bool}(h:V4 a=some (g,b)):BQ P o d t want E K a=U6 P (g&&(b==want)) o E d K (pv o (xg (g&&(b==want)) E) E):=by
 unfold V4 at h
 split at h
 ·injection h with h;injection h with h1 h2;subst h1;subst h2;rfl
 ·injection h with h;injection h with h1 h2;subst h1;subst h2;rfl
 ·cases h
theorem Bf{v:AV}(h:zy v=true):bg v=true/\(∀t,¬bB v t)/\(∀U d,bQ U v d=U):=by cases v<;>first|(simp[zy,dt]at h;done)|exact⟨rfl,fun t h=>h,fun U d=>by cases d<;>rfl⟩
theorem Hs{f:IX->AV}{s:ab}{o:ua}{v:AV}(h:qe f s o=.dv v\/∃c,qe f s o=.prt c v):zy v=true/\(∀g U,pv o g U=.no)/\(∀x,o≠.jL true x):=by
 have tt:∀{r:PR}{u:AV},r=.dv u->(r=.dv v\/∃c,r=.prt c v)->v=u:=by
  intro r u hr h
  subst hr
  rcases h with h|⟨c,h⟩
  ·injection h with h;exact h.symm
  ·cases h
 have tp:∀{r:PR}{u:AV}{c:Prop},r=.prt c u->(r=.dv v\/∃c,r=.prt c v)->v=u:=by
  intro r u c hr h
  subst hr
  rcases h with h|⟨c',h⟩
  ·cases h
  ·injection h with _ h;exact h.symm
 have tn:∀{r:PR},r=.no->¬(r=.dv v\/∃c,r=.prt c v):=by
  intro r hr h
  subst hr
  rcases h with h|⟨c',h⟩<;>cases h
 have ok:∀(k:Bool)(a:AV)(b:Bool),(k=false->dt a=true)->zy (ID k a b)=true:=by
  intro k a b ha
  cases k with
  |true=>rfl
  |false=>show zy a=true;have:=ha rfl;cases a<;>first|exact this|rfl
 unfold qe at h
 split at h
 ·rename_i x
  refine⟨?_,fun g U=>rfl,fun x h=>by cases h⟩
  cases hx:f x<;>rw[hx]at h<;>first|(exact absurd h (tn rfl))|(rw[tt rfl h];rfl)
 ·rename_i sz n z ps
  refine⟨?_,fun g U=>rfl,fun x h=>by cases h⟩
  cases hx:fill f z ps<;>rw[hx]at h
  ·exact absurd h (tn rfl)
  ·rw[tp rfl h];rfl
 ·rename_i kk zero k x ky
  refine⟨?_,fun g U=>rfl,fun x h=>by cases h⟩
  have ck:∀{c:Prop}{a:AV}{b:Bool},(N9 k c (ID k a b)=.dv v\/∃c',N9 k c (ID k a b)=.prt c' v)->zy v=true:=by
   intro c a b h
   unfold N9 at h
   cases hp:zx k (ID k a b)with
   |false=>rw[hp]at h;exact absurd h (tn rfl)
   |true=>
    rw[hp]at h
    rw[tp rfl h]
    refine ok k a b fun hk=>?_
    subst hk;exact hp
  have ck':∀{c:Prop}{o:Option AV},(N9 k c (vT zero k o)=.dv v\/∃c',N9 k c (vT zero k o)=.prt c' v)->zy v=true:=by
   intro c o h
   cases o with
   |none=>exact ck h
   |some a=>exact ck h
  unfold iT at h
  split at h
  ·unfold oJ at h
   split at h
   ·exact ck' h
   ·exact absurd h (tn rfl)
  ·exact ck h
  ·exact absurd h (tn rfl)
 ·rename_i x
  refine⟨?_,fun g U=>rfl,fun x h=>by cases h⟩
  unfold Eg at h
  split at h
  ·rw[tt rfl h];rfl
  ·exact absurd h (tn rfl)
 ·rename_i x
  refine⟨?_,fun g U=>rfl,fun x h=>by cases h⟩
  unfold CO at h
  split at h
  ·rw[tt rfl h];rfl
  ·exact absurd h (tn rfl)
 ·exact absurd h (tn rfl)
theorem XX{o:ah}{E:St}{v:AV}(h:Dv o E=.dv v\/∃c,Dv o E=.prt c v/\c):
 bg v=true/\(∀t,¬bB v t)/\(∀U d,bQ U v d=U)/\dr o E=E:=by
 obtain⟨d,op,g⟩:=o
 have hdr:(∀x,op≠.jL true x)->dr ⟨d,op,g⟩ E=E:=by
  intro h
  unfold dr
  split
  ·rename_i x hx;exact absurd hx (h x)
  ·rfl
 have wk:∀{r:PR},(r=.dv v\/∃c,r=.prt c v/\c)->(r=.dv v\/∃c,r=.prt c v):=fun h=>h.imp id fun⟨c,h,_⟩=>⟨c,h⟩
 cases g with
 |none=>
  have h':qe (xg true E) E.s op=.dv v\/∃c,qe (xg true E) E.s op=.prt c v:=wk h
  obtain⟨h1,_,h3⟩:=Hs h'
  obtain⟨f1,f2,f3⟩:=Bf h1
  exact⟨f1,f2,f3,hdr h3⟩
 |some tw=>
  obtain⟨t,want⟩:=tw
  have h':Qt op want E (look E.e t)=.dv v\/∃c,Qt op want E (look E.e t)=.prt c v:=wk h
  rcases XW (o:=op) (want:=want) (E:=E) (a:=look E.e t)with⟨g0,b,hg0,hl⟩|hl<;>rw[hl]at h'
  case inr=>rcases h' with h'|⟨c,h'⟩<;>cases h'
  generalize(g0&&(b==want))=gg at h'
  have h2:Qo gg (qe (xg gg E) E.s op)=.dv v\/∃c,Qo gg (qe (xg gg E) E.s op)=.prt c v:=h'
  have:∃u,v=.when gg u/\(qe (xg gg E) E.s op=.dv u\/∃c,qe (xg gg E) E.s op=.prt c u):=by
   cases hq:qe (xg gg E) E.s op with
   |dv u=>
    rw[hq]at h2
    refine⟨u,?_,.inl rfl⟩
    rcases h2 with h2|⟨c,h2⟩
    ·injection h2 with h2;exact h2.symm
    ·cases h2
   |prt c u=>
    rw[hq]at h2
    refine⟨u,?_,.inr ⟨c,rfl⟩⟩
    rcases h2 with h2|⟨c,h2⟩
    ·cases h2
    ·injection h2 with _ h2;exact h2.symm
   |no=>rw[hq]at h2;rcases h2 with h2|⟨c,h2⟩<;>cases h2
  obtain⟨u,rfl,hu⟩:=this
  obtain⟨h1,_,h3⟩:=Hs hu
  obtain⟨f1,f2,f3⟩:=Bf h1
  exact⟨rfl,fun t ht=>f2 t ht,fun U d=>f3 U d,hdr h3⟩
section
variable{P:Program}{G G':Gh}{n:Nat}{D:List Deferred}{E E':St}{a:Act}{w w':World}
theorem qt{rs:List AV}(h:jO rs=true)(E:St)(d:Option Nat):bQ E (fj rs) d=E:=by
 match rs,h with
 |[],_=>cases d<;>rfl
 |[r],h=>
  show bQ E r d=E
  cases r<;>first|(cases d<;>rfl)|(simp[jO,dt,WB]at h)
 |_::_::_,_=>cases d<;>rfl
theorem OV{r:AV}(hr:dt r=true)(E:St)(d:Option Nat):bQ E r d=E:=by cases r<;>first|(cases d<;>rfl)|(simp[dt]at hr)
theorem qu{rs:List AV}(h:jO rs=true):bg (fj rs)=true:=by
 match rs,h with
 |[],_=>rfl
 |[r],h=>
  show bg r=true
  cases r<;>first|rfl|(simp[jO,dt,WB]at h)
 |_::_::_,_=>rfl
theorem RW{o:ah}{K:St->Prop}(h:q1 P o E K):∃v,bg v=true/\Y P E o v/\K (step E o v):=by
 have gen:qK E o.dst K (qv o E)->∃v,bg v=true/\Y P E o v/\K (step E o v):=by
  intro hq
  cases hv:qv o E with
  |dv v=>rw[hv]at hq;exact⟨v,hq.1,.pure o v (.inl hv),by unfold step;rw[VF (by rw[hv];simp)];exact hq.2⟩
  |prt c v=>rw[hv]at hq;exact⟨v,hq.2.1,.pure o v (.inr ⟨c,hv,hq.1⟩),by unfold step;rw[VF (by rw[hv];simp)];exact hq.2.2⟩
  |no=>rw[hv]at hq;exact hq.elim
 have V1:∀{o:ah},qK E o.dst K (Dv o E)->∃v,bg v=true/\Y P E o v/\K (step E o v):=by
  intro o hq
  cases hv:Dv o E with
  |dv v=>rw[hv]at hq;exact⟨v,hq.1,.eff o v (.inl hv),by unfold step;rw[(XX (.inl hv)).2.2.2];exact hq.2⟩
  |prt c v=>rw[hv]at hq;exact⟨v,hq.2.1,.eff o v (.inr ⟨c,hv,hq.1⟩),by unfold step;rw[(XX (.inr ⟨c,hv,hq.1⟩)).2.2.2];exact hq.2.2⟩
  |no=>rw[hv]at hq;exact hq.elim
 unfold q1 at h
 split at h
 ·rename_i d f args
  cases ha:bZ (xg true E) args with
  |none=>rw[ha]at h;exact h.elim
  |some as=>
   rw[ha]at h
   obtain⟨rs,h2,h3,h4⟩:=h
   refine⟨_,qu h2,.call d f args as rs ha h2 h3,?_⟩
   show K ((bQ E (fj rs) d).put d (fj rs))
   rw[qt h2];exact h4
 ·rename_i d x
  obtain⟨h1,h2⟩:=h
  refine⟨_,?_,.jL d x h1,?_⟩
  ·generalize E.x x=av at h1
   cases av<;>first|rfl|(simp[dt]at h1)
  ·show K ((bQ (E.drain x) (E.x x) d).put d (E.x x))
   rw[OV h1];exact h2
 ·rename_i d f args t want
  have h:∃g0 b,V4 (look E.e t)=some (g0,b)/\∃rs,jO rs=true/\((g0&&(b==want))=true->∃as,bZ (xg (g0&&(b==want)) E) args=some as/\FE P f as E.s rs E.s)/\K (E.put d (.when (g0&&(b==want)) (fj rs))):=by
   unfold Hr at h
   split at h
   ·rename_i b hl;exact⟨true,b,by rw[hl];rfl,h⟩
   ·rename_i g b hl;exact⟨g,b,by rw[hl];rfl,h⟩
   ·exact h.elim
  obtain⟨g0,b,hl,rs,h2,h3,h4⟩:=h
  refine⟨_,rfl,.N7 d f args t want g0 b rs hl h2 (fun hb=>by
   obtain⟨as,q1,q2⟩:=h3 hb
   rw[hb]at q1
   exact⟨as,q1,q2⟩),?_⟩
  have:bQ E (.when (g0&&(b==want)) (fj rs)) d=E:=qt h2 E d
  show K ((bQ E (.when (g0&&(b==want)) (fj rs)) d).put d (.when (g0&&(b==want)) (fj rs)))
  rw[this];exact h4
 ·rename_i d x args
  cases hx:xg true E x<;>rw[hx]at h<;>try exact h.elim
  rename_i f first en
  cases ha:bZ (xg true E) args with
  |none=>rw[ha]at h;exact h.elim
  |some as=>
   rw[ha]at h
   obtain⟨hf,rs,h2,h3,h4⟩:=h
   refine⟨_,qu h2,.cu d x args f _ rs ⟨first,en,as,hx,ha,rfl⟩ hf h2 h3,?_⟩
   show K ((bQ E (fj rs) d).put d (fj rs))
   rw[qt h2];exact h4
 ·rename_i d x args t want
  have h:∃g0 b,V4 (look E.e t)=some (g0,b)/\∃rs,jO rs=true/\((g0&&(b==want))=true->∃f as,callee x args (g0&&(b==want)) E f as/\pz P f=true/\FE P f as E.s rs E.s)/\K (E.put d (.when (g0&&(b==want)) (fj rs))):=by
   unfold E4 at h
   split at h
   ·rename_i b hl;exact⟨true,b,by rw[hl];rfl,h⟩
   ·rename_i g b hl;exact⟨g,b,by rw[hl];rfl,h⟩
   ·exact h.elim
  obtain⟨g0,b,hl,rs,h2,h3,h4⟩:=h
  refine⟨_,rfl,.FC d x args t want g0 b rs hl h2 (fun hb=>by
   obtain⟨f,as,q1,q2⟩:=h3 hb
   rw[hb]at q1
   exact⟨f,as,q1,q2⟩),?_⟩
  have:bQ E (.when (g0&&(b==want)) (fj rs)) d=E:=qt h2 E d
  show K ((bQ E (.when (g0&&(b==want)) (fj rs)) d).put d (.when (g0&&(b==want)) (fj rs)))
  rw[this];exact h4
 ·exact V1 h
 ·exact V1 h
 ·exact V1 h
 ·exact V1 h
 ·exact V1 h
 ·exact gen h
end
end Go.AB
end
section
namespace Go.AB
open Go
theorem gP{i:Nat}:∀{l:List IX},IX.t i∈l->i∈EZ l
 |.t j::r,h=>by
  rcases List.mem_cons.1 h with h|h
  ·injection h with h;subst h;exact List.mem_cons_self
  ·exact List.mem_cons_of_mem _ (gP h)
 |.c a::r,h=>by
  rcases List.mem_cons.1 h with h|h
  ·cases h
  ·exact gP (l:=r) h
section
variable{P:Program}{G G':Gh}{n:Nat}{D:List Deferred}{E E':St}{a:Act}{w w':World}
structure NN(o:ah)(E E':St):Prop where
 xs:∀x∈di o.op,E.x x=E'.x x
 g:∀t want,o.g=some (t,want)->look E.e t=look E'.e t
 s:E.s=E'.s
 rd:∀x∈di o.op,∀g n,rd E (AB.xg g E x) n=rd E' (AB.xg g E x) n
theorem NN.symm{o:ah}(h:NN o E E'):NN o E' E:=⟨fun x hx=>(h.xs x hx).symm,fun t w hg=>(h.g t w hg).symm,h.s.symm,fun x hx g n=>by
 have e:AB.xg g E' x=AB.xg g E x:=by unfold AB.xg;rw[h.xs x hx]
 rw[e];exact(h.rd x hx g n).symm⟩
theorem NN.xg{o:ah}(h:NN o E E')(g:Bool):∀x∈di o.op,xg g E x=xg g E' x:=fun x hx=>by unfold AB.xg;rw[h.xs x hx]
theorem NN.qv{o:ah}(h:NN o E E'):qv o E=qv o E':=by
 have hp:∀g,pv o.op (AB.xg g E) E=pv o.op (AB.xg g E') E':=fun g=>XP (h.xg g) h.xs h.s fun x hx n=>h.rd x hx g n
 unfold AB.qv
 cases hg:o.g with
 |none=>exact hp true
 |some tw=>
  obtain⟨t,want⟩:=tw
  show PW o.op want E (look E.e t)=PW o.op want E' (look E'.e t)
  rw[h.g t want hg]
  unfold PW
  split
  ·rw[hp]
  ·rw[hp]
  ·rfl
theorem NN.qe{o:ah}(h:NN o E E')(g:Bool):qe (AB.xg g E) E.s o.op=qe (AB.xg g E') E'.s o.op:=by
 have hx:=h.xg g
 have hs:=h.s
 obtain⟨d,op,gg⟩:=o
 cases op<;>first|rfl|skip
 case gD x=>show wU (AB.xg g E x)=wU (AB.xg g E' x);rw[hx x (by simp[di])]
 case bq sz n z ps=>show HP sz n (fill (AB.xg g E) z ps)=HP sz n (fill (AB.xg g E') z ps);rw[yT ps z hx]
 case lookup kk z ok x k=>show iT kk z ok E.s (AB.xg g E k) (AB.xg g E x)=iT kk z ok E'.s (AB.xg g E' k) (AB.xg g E' x);rw[hx x (by simp[di]),hx k (by simp[di]),hs]
 case rW x=>show CO (AB.xg g E x)=CO (AB.xg g E' x);rw[hx x (by simp[di])]
 case kc x=>show Eg (AB.xg g E x)=Eg (AB.xg g E' x);rw[hx x (by simp[di])]
theorem NN.Dv{o:ah}(h:NN o E E'):Dv o E=Dv o E':=by
 unfold AB.Dv
 cases hg:o.g with
 |none=>exact h.qe true
 |some tw=>
  obtain⟨t,want⟩:=tw
  show Qt o.op want E (look E.e t)=Qt o.op want E' (look E'.e t)
  rw[h.g t want hg]
  unfold Qt
  split
  ·rw[h.qe]
  ·rw[h.qe]
  ·rfl
theorem Y.QA{o:ah}{v:AV}(hy:Y P E o v)(h:NN o E E'):Y P E' o v:=by
 cases hy with
 |pure _ _ hq=>exact .pure o v (by rw[<-h.qv];exact hq)
 |jL d x hi=>
  have hx:E.x x=E'.x x:=h.xs x (by simp[di])
  rw[hx]at hi⊢
  exact .jL d x hi
 |call d f args as rs h1 h2 h3=>exact .call d f args as rs (by rw[<-fT args (h.xg true)];exact h1) h2 (by rw[<-h.s];exact h3)
 |N7 d f args t want g0 b rs h0 h2 h1=>
  refine .N7 d f args t want g0 b rs (by rw[<-h.g t want rfl];exact h0) h2 fun hb=>?_
  obtain⟨as,q1,q2⟩:=h1 hb
  exact⟨as,by rw[<-fT args (h.xg true)];exact q1,by rw[<-h.s];exact q2⟩
 |cu d x args f as rs h1 hf h2 h3=>
  obtain⟨first,en,xs,q1,q2,q3⟩:=h1
  exact .cu d x args f as rs ⟨first,en,xs,by rw[<-h.xg true x List.mem_cons_self];exact q1,by rw[<-fT args fun y hy=>h.xg true y (List.mem_cons_of_mem _ hy)];exact q2,q3⟩ hf h2 (by rw[<-h.s];exact h3)
 |FC d x args t want g0 b rs h0 h2 h1=>
  refine .FC d x args t want g0 b rs (by rw[<-h.g t want rfl];exact h0) h2 fun hb=>?_
  obtain⟨f,as,⟨first,en,xs,q1,q2,q3⟩,q4,q5⟩:=h1 hb
  exact⟨f,as,⟨first,en,xs,by rw[<-h.xg true x List.mem_cons_self];exact q1,by rw[<-fT args fun y hy=>h.xg true y (List.mem_cons_of_mem _ hy)];exact q2,q3⟩,q4,by rw[<-h.s];exact q5⟩
 |eff _ _ hq=>exact .eff o v (by rw[<-h.Dv];exact hq)
theorem ZG(o:ah)(i:Nat):look (dr o E).e i=if gX o i=true then view (look E.e i)else look E.e i:=by
 unfold dr gX
 split
 ·rename_i x hop
  cases x with
  |c a=>simp only[hop];rfl
  |t j=>
   simp only[hop]
   show look ((j,view (look E.e j))::E.e) i=_
   rw[aM]
   by_cases hj:j=i
   ·subst hj;simp
   ·simp[hj]
 ·rename_i hop
  split
  ·rename_i j akU
   exact absurd akU (hop (.t j))
  ·simp
theorem iH(o:ah)(v:AV)(i:Nat):look (step E o v).e i=if o.dst=some i then v else if gX o i=true then view (look E.e i)else look E.e i:=by
 unfold step
 rw[<-ZG]
 cases hd:o.dst with
 |none=>simp[St.put,(ji (dr o E) v none).1]
 |some d=>
  show look ((d,v)::(bQ (dr o E) v (some d)).e) i=_
  rw[aM,(ji (dr o E) v (some d)).1]
  simp
theorem agM(o:ah):(dr o E).s=E.s/\(dr o E).lp=E.lp:=by
 unfold dr
 split
 ·rename_i x _
  cases x<;>exact⟨rfl,rfl⟩
 ·exact⟨rfl,rfl⟩
theorem wz(o:ah)(v:AV):(step E o v).s=E.s:=by
 unfold step
 have:∀(U:St)(d:Option Nat)(x:AV),(U.put d x).s=U.s:=fun U d x=>by cases d<;>rfl
 rw[this,(ji (dr o E) v o.dst).2.1,(agM o).1]
theorem vY(av:AV):bg (view av)=bg av:=by cases av<;>rfl
theorem Hu(av:AV)(n off:Nat):ml n off (view av)=ml n off av:=by cases av<;>rfl
theorem jW{av:AV}(h:bg av=true)(n off:Nat):ml n off av=none:=by cases av<;>first|rfl|(simp[bg]at h)
theorem aao{o:ah}{v:AV}(hf:aR E o.dst=true)(hv:bg v=true):∀p n,rd (step E o v) p n=rd E p n:=by
 intro p n
 cases p<;>try rfl
 ·rename_i b off
  show wh n off ((step E o v).s b)=wh n off (E.s b)
  rw[wz]
 ·rename_i d off
  show ml n off (look (step E o v).e d)=ml n off (look E.e d)
  rw[iH]
  by_cases hd:o.dst=some d
  ·rw[if_pos hd,jW hv]
   rw[hd]at hf
   exact(jW hf n off).symm
  ·rw[if_neg hd]
   split
   ·exact Hu ..
   ·rfl
theorem NS{o y:ah}{v:AV}(hf:aR E y.dst=true)(hv:bg v=true)(hn:gu y.dst (ch o)=true)(hdr:W0 y o=true):NN o E (step E y v):=by
 have key:∀i,i∈ch o->look (step E y v).e i=look E.e i:=by
  intro i hi
  have h1:¬gX y i=true:=by
   have:=List.all_eq_true.1 hdr i hi
   simpa using this
  rw[iH,if_neg,if_neg h1]
  intro hd
  rw[hd]at hn
  simp[gu]at hn
  exact hn hi
 refine⟨fun x hx=>?_,fun t want hg=>?_,(wz y v).symm,fun x _ g n=>(aao hf hv _ n).symm⟩
 ·cases x with
  |c a=>rfl
  |t i=>exact(key i (List.mem_append_right _ (gP hx))).symm
 ·exact(key t (List.mem_append_left _ (by rw[hg];exact List.mem_cons_self))).symm
structure ma(E E':St):Prop where
 e:∀i,look E.e i=look E'.e i
 lp:∀x,x∈E.lp↔x∈E'.lp
 s:E.s=E'.s
theorem ma.refl(E:St):ma E E:=⟨fun _=>rfl,fun _=>Iff.rfl,rfl⟩
theorem ma.symm(h:ma E E'):ma E' E:=⟨fun i=>(h.e i).symm,fun x=>(h.lp x).symm,h.s.symm⟩
theorem ma.trans{E₃:St}(h:ma E E')(k:ma E' E₃):ma E E₃:=⟨fun i=>(h.e i).trans (k.e i),fun x=>(h.lp x).trans (k.lp x),h.s.trans k.s⟩
theorem ma.rd(h:ma E E'):∀p n,AB.rd E p n=AB.rd E' p n:=by
 intro p n
 cases p<;>try rfl
 ·rename_i b off
  show wh n off (E.s b)=wh n off (E'.s b)
  rw[h.s]
 ·rename_i d off
  show ml n off (look E.e d)=ml n off (look E'.e d)
  rw[h.e]
theorem ma.QA(h:ma E E')(o:ah):NN o E E':=⟨fun x _=>by cases x with
 |c a=>rfl
 |t i=>exact h.e i,fun t _ _=>h.e t,h.s,fun x _ g n=>h.rd _ n⟩
theorem ma.free(h:ma E E')(d:Option Nat):aR E d=aR E' d:=by
 cases d with
 |none=>rfl
 |some d=>show bg (look E.e d)=bg (look E'.e d);rw[h.e]
theorem G7:∀(v:AV)(d:Option Nat)(x:Nat×Nat),x∈(bQ E v d).lp↔(x∈E.lp\/∃i,d=some i/\x.1=i/\bB v x.2)
 |.lp t off,some i,(x1,x2)=>by
  show(x1,x2)∈(i,t)::E.lp↔_
  rw[List.mem_cons]
  constructor
  ·rintro(h|h)
   ·injection h with h1 h2;exact .inr ⟨i,rfl,h1,h2.symm⟩
   ·exact .inl h
  ·rintro(h|⟨j,h1,h2,h3⟩)
   ·exact .inr h
   ·injection h1 with h1
    have h3':t=x2:=h3
    have h2':x1=j:=h2
    subst h1;subst h2';subst h3'
    exact .inl rfl
 |.lp t off,none,x=>⟨fun h=>.inl h,fun h=>h.elim id fun⟨_,h1,_⟩=>by cases h1⟩
 |.when _ v,d,x=>G7 v d x
 |.undef,_,_|.bool _,_,_|.int _ _,_,_|.str _,_,_|.dK,_,_|.ref _ _,_,_|.sp _,_,_|.loc _,_,_|.sl _ _ _ _,_,_|.arr _ _ _ _,_,_|.agg _,_,_|.gw _,_,_|.fn _ _ _,_,_|.oK,_,_|.mp _,_,_|.oL,_,_|.us _ _ _,_,_|.one,_,_|.qE _,_,_|.A6,_,_|.bb _ _ _,_,_=>⟨fun h=>.inl h,fun h=>h.elim id fun⟨_,_,_,h3⟩=>h3.elim⟩
theorem xq(o:ah)(v:AV)(x:Nat×Nat):x∈(step E o v).lp↔(x∈E.lp\/∃i,o.dst=some i/\x.1=i/\bB v x.2):=by
 have h1:(step E o v).lp=(bQ (dr o E) v o.dst).lp:=by unfold step;cases o.dst<;>rfl
 rw[h1,<-(agM (E:=E) o).2]
 exact G7 v o.dst x
theorem Inv.eqv(h:Inv G n D E a w)(k:ma E E'):Inv G n D E' a w:=
 ⟨h.aS,by rw[<-k.s];exact h.store,h.size,fun i v hv=>by
   rw[<-k.e i]
   exact dg.frame (fun _ _ hv=>hv) (fun b _=>⟨rfl,rfl,rfl⟩) (fun _ _ _ _ hc=>⟨hc,rfl,rfl⟩) _ _ (fun t _ cs hcs=>⟨cs,by rw[k.e];exact hcs,rfl⟩) (h.ch i v hv),
   fun i hi=>by rw[<-k.e i];exact h.IT i hi,fun i t ht=>(k.lp _).1 (h.Qs i t (by rw[k.e];exact ht)),h.ue⟩
theorem ma.step(h:ma E E')(o:ah)(v:AV):ma (AB.step E o v) (AB.step E' o v):=⟨fun i=>by rw[iH,iH,h.e],fun x=>by rw[xq,xq,h.lp],by rw[wz,wz,h.s]⟩
theorem UU{x y:ah}{u v:AV}(hne:∀i j,x.dst=some i->y.dst=some j->i≠j)(hxy:∀i,y.dst=some i->gX x i=false)(hyx:∀i,x.dst=some i->gX y i=false):ma (step (step E x u) y v) (step (step E y v) x u):=
 ⟨fun i=>by
   rw[iH,iH,iH,iH]
   by_cases h1:y.dst=some i
   ·by_cases h2:x.dst=some i
    ·exact absurd rfl (hne i i h2 h1)
    ·simp[h1,h2,hxy i h1]
   ·by_cases h2:x.dst=some i
    ·simp[h1,h2,hyx i h2]
    ·simp only[h1,h2,if_false]
     by_cases h3:gX x i=true<;>by_cases h4:gX y i=true<;>simp[h3,h4],fun z=>by
   rw[xq,xq,xq,xq]
   constructor
   ·rintro((h|h)|h)
    ·exact .inl (.inl h)
    ·exact .inr h
    ·exact .inl (.inr h)
   ·rintro((h|h)|h)
    ·exact .inl (.inl h)
    ·exact .inr h
    ·exact .inl (.inr h),by rw[wz,wz,wz,wz]⟩
end
end Go.AB
end
